/- Contracts and plain facts. -/
import Derived.Test.YtpcjkfppacnkgaaGreatDoorGPAR
set_option maxHeartbeats 4000000
set_option maxRecDepth 100000
namespace Go.Proofs.YtpcjkfppacnkgaaGreatDoor
open Go Go.RowKit
theorem OwnS.dis {P:PState} {W:World} {B b:Nat} (h:OwnS W B b P) :
  b ∉ P.bl∧(∀g,zB P.vfs=some g→zB P.vo≠some g∧∀y∈P.fs,g ∉ y.bl)∧(∀g,zB P.vo=some g→∀y∈P.fs,g ∉ y.bl):=by
 obtain⟨h0,h1⟩:=List.nodup_cons.1 h.nodup;refine⟨h0,fun g hg=>⟨fun e=>?_,fun y hy hm=>?_⟩,fun g hg y hy hm=>?_⟩
 ·unfold PState.bl at h1;have h2:=(List.nodup_append.1 h1).1;exact(List.nodup_append.1 h2).2.2 g (by simp [hg]) g (by simp [e]) rfl
 ·unfold PState.bl at h1;exact(List.nodup_append.1 h1).2.2 g (by simp [hg]) g (List.mem_flatMap.2 ⟨y,hy,hm⟩) rfl
 ·unfold PState.bl at h1;exact(List.nodup_append.1 h1).2.2 g (by simp [hg]) g (List.mem_flatMap.2 ⟨y,hy,hm⟩) rfl
theorem PState.mem_vfs {P:PState} {g:Nat} (h:zB P.vfs=some g):g∈P.bl:=by unfold PState.bl;simp [h]
theorem PState.mem_vo {P:PState} {g:Nat} (h:zB P.vo=some g):g∈P.bl:=by unfold PState.bl;simp [h]
theorem PState.mem_fs {P:PState} {g:Nat} {y:PFiber} (hy:y∈P.fs) (h:g∈y.bl):g∈P.bl:=by
 unfold PState.bl;exact List.mem_append.2 (.inr (List.mem_flatMap.2 ⟨y,hy,h⟩))
theorem OwnS.fiber' {W W':World} {B b:Nat} {P:PState} {L R:List PFiber} {y y':PFiber} {M:Nat→Prop} (h:OwnS W B b P) (hP:P.fs=L++y::R)
  (hc:Chg M W W') (hM:∀g,M g→g<W.heap.size→zB P.vfs=some g∨g∈y.bl) (hy:FiberO W' B y') (hrow:RowAt W' B 2 P.vfs (L++y'::R).length ((L++y'::R).flatMap kK))
  (hn:y'.bl.Nodup) (hs:∀g∈y'.bl,g∈y.bl∨g ∉ b::P.bl):OwnS W' B b { P with fs:=L++y'::R }:=by
 have hlt:=h.lt;obtain⟨d0,d1,d2⟩:=h.dis;have hym:y∈P.fs:=by rw [hP];simp
 let A:=b::((zB P.vfs).toList++(zB P.vo).toList++L.flatMap PFiber.bl)
 let C:=R.flatMap PFiber.bl
 have hbl:b::P.bl=A++y.bl++C:=by
  show b::P.bl=b::_++y.bl++C;unfold PState.bl;rw [hP,List.flatMap_append,List.flatMap_cons];simp [C,List.append_assoc]
 have hnd:=h.nodup;rw [hbl] at hnd;have hbl':b::PState.bl { P with fs:=L++y'::R }=A++y'.bl++C:=by
  show b::_=b::_++y'.bl++C;unfold PState.bl;simp only [List.flatMap_append,List.flatMap_cons];simp [C,List.append_assoc]
 have hltA:∀g∈A++C,g<W.heap.size:=fun g hg=>hlt g (by rw [hbl];rcases List.mem_append.1 hg with h1 | h1<;>simp [h1])
 have hny:∀g∈A++C,g ∉ y.bl:=fun g hg hm=>by
  rw [List.append_assoc,List.nodup_append] at hnd;obtain⟨_,h2,h3⟩:=hnd;rw [List.nodup_append] at h2;rcases List.mem_append.1 hg with h4 | h4
  ·exact h3 g h4 g (by simp [hm]) rfl
  ·exact h2.2.2 g hm g h4 rfl
 have ne:∀g,g∈A++C→zB P.vfs≠some g→¬M g:=fun g hg hv hm=>by
  rcases hM g hm (hltA g hg) with h1 | h1
  ·exact hv h1
  ·exact hny g hg h1
 have hA:∀g,g∈A→g∈A++C:=fun g h=>List.mem_append.2 (.inl h)
 have hb:¬M b:=ne b (hA _ (by simp [A])) (fun e=>d0 (PState.mem_vfs e));have hz:∀z,z∈L∨z∈R→∀g∈z.bl,¬M g:=fun z hz g hg=>by
  have hzm:z∈P.fs:=by rw [hP];rcases hz with h1 | h1<;>simp [h1]
  refine ne g ?_ (fun e=>(d1 g e).2 z hzm hg);rcases hz with h1 | h1
  ·exact hA _ (List.mem_cons_of_mem _ (List.mem_append.2 (.inr (List.mem_flatMap.2 ⟨z,h1,hg⟩))))
  ·exact List.mem_append.2 (.inr (List.mem_flatMap.2 ⟨z,h1,hg⟩))
 refine⟨h.c0.chg hc hb,h.c1.chg hc hb,h.c2.chg hc hb,h.i,hrow,h.out.chg hc (fun g e=>ne g (hA _ (by simp [A,e])) (fun e2=>(d1 g e2).1 e)) (by decide),fun z hz'=>?_,h.le,?_,?_⟩
 ·have hz'':z∈L++y'::R:=hz';rcases List.mem_append.1 hz'' with h1 | h1
  ·exact(h.fs z (by rw [hP];simp [h1])).chg hc (hz z (.inl h1))
  ·rcases List.mem_cons.1 h1 with rfl | h1
   ·exact hy
   ·exact(h.fs z (by rw [hP];simp [h1])).chg hc (hz z (.inr h1))
 ·have:=h.few;rw [hP] at this;show (L++y'::R).length≤1000∧P.out.length≤1000;simpa using this
 ·rw [hbl'];exact nodup_swap' hnd hn fun g hg=>(hs g hg).imp id fun h1 h2=>h1 (by
   rw [hbl];rcases List.mem_append.1 h2 with h3 | h3<;>simp [h3])
theorem OwnS.fiber {W W':World} {B b:Nat} {P:PState} {L R:List PFiber} {y y':PFiber} {M:Nat→Prop} (h:OwnS W B b P) (hP:P.fs=L++y::R)
  (hc:Chg M W W') (hM:∀g,M g→g<W.heap.size→zB P.vfs=some g∨g∈y.bl) (hy:FiberO W' B y') (hrow:RowAt W' B 2 P.vfs (L++y'::R).length ((L++y'::R).flatMap kK))
  (hn:y'.bl.Nodup) (hs:∀g∈y'.bl,g∈y.bl∨W.heap.size≤g):OwnS W' B b { P with fs:=L++y'::R } :=
 h.fiber' hP hc hM hy hrow hn fun g hg=>(hs g hg).imp id fun h1 h2=>by have:=h.lt g h2;omega
theorem OwnS.place {P:PState} {L R:List PFiber} {y:PFiber} {W:World} {B b:Nat} (h:OwnS W B b P) (hP:P.fs=L++y::R) :
  ∃g o cap,P.vfs=.slice (some ⟨g,o,none⟩) P.fs.length cap∧L.length<P.fs.length∧Cx W g (o+L.length * 2) y.vf∧Cx W g (o+L.length * 2+1) (.int .i64 y.caller)∧zB P.vfs=some g:=by
 have hrow:=h.row;rw [hP] at hrow;obtain⟨g,o,cap,e1,hbl,hc,hm,hx⟩:=RowAt.place kK (fun _=>rfl) hrow;exact⟨g,o,cap,by rw [hP];exact e1,by rw [hP];simp,hx 0 _ (by decide) rfl,hx 1 _ (by decide) rfl,hbl⟩
theorem OwnS.setCaller {P:PState} {L R:List PFiber} {y:PFiber} {W:World} {B b g o n cap:Nat} (h:OwnS W B b P) (hP:P.fs=L++y::R) (hv:P.vfs=.slice (some ⟨g,o,none⟩) n cap) (c:Int) (hI:I64 c) :
  OwnS (W.setCell ⟨g,o+L.length * 2+1,none⟩ (.int .i64 c)) B b { P with fs:=L++{ y with caller:=c }::R }∧Chg (·∈P.bl) W (W.setCell ⟨g,o+L.length * 2+1,none⟩ (.int .i64 c)):=by
 obtain⟨d0,d1,d2⟩:=h.dis;have hym:y∈P.fs:=by rw [hP];simp
 have hrow:=h.row;rw [hP,hv] at hrow;obtain⟨g',o',cap',e1,hbl,_⟩:=RowAt.place kK (fun _=>rfl) hrow;simp only [Value.slice.injEq,Option.some.injEq,Addr.mk.injEq] at e1;obtain⟨⟨rfl,rfl,-⟩,-,rfl⟩:=e1;rw [←hv] at hbl;have hy:=h.fs y hym;have hCh:=zO W g (o+L.length * 2+1) (.int .i64 c);have hyc:=hy.chg hCh (fun k hk e=>by subst e;exact(d1 _ hbl).2 y hym hk);refine⟨h.fiber hP hCh (fun k hk _=>.inl (by rw [hbl,show k=g from hk])) ⟨hI,hyc.row,hyc.fr,hyc.few⟩ ?_ ?_ ?_,hCh.mono (fun k _ hk=>by rw [show k=g from hk];exact PState.mem_vfs hbl)⟩
 ·rw [hv];exact hrow.storeAt kK (fun _=>rfl) (by decide) rfl
 ·have h1:=(List.nodup_cons.1 h.nodup).2;unfold PState.bl at h1;rw [hP,List.flatMap_append,List.flatMap_cons] at h1;exact(List.nodup_append.1 (List.nodup_append.1 (List.nodup_append.1 h1).2.1).2.1).1
 ·exact fun k hk=>.inl hk
theorem OwnS.setFrames' {P:PState} {L R:List PFiber} {y y':PFiber} {W W1:World} {B b g o n cap:Nat} (h:OwnS W B b P) (hP:P.fs=L++y::R) (hv:P.vfs=.slice (some ⟨g,o,none⟩) n cap)
  (hc:Chg (fun k=>zB y.vf=some k) W W1) (hcl:y'.caller=y.caller) (hy:FiberO W1 B y') (hn:y'.bl.Nodup) (hs:∀g∈y'.bl,g∈y.bl∨g ∉ b::P.bl) :
  OwnS (W1.setCell ⟨g,o+L.length * 2,none⟩ y'.vf) B b { P with fs:=L++y'::R }∧Chg (·∈P.bl) W (W1.setCell ⟨g,o+L.length * 2,none⟩ y'.vf):=by
 obtain⟨d0,d1,d2⟩:=h.dis;have hym:y∈P.fs:=by rw [hP];simp
 have hrow:=h.row;rw [hP,hv] at hrow;obtain⟨g',o',cap',e1,hbl,_⟩:=RowAt.place kK (fun _=>rfl) hrow;simp only [Value.slice.injEq,Option.some.injEq,Addr.mk.injEq] at e1;obtain⟨⟨rfl,rfl,-⟩,-,rfl⟩:=e1;rw [←hv] at hbl;have hgs:g<W.heap.size:=h.lt g (List.mem_cons_of_mem _ (PState.mem_vfs hbl));have hyv:∀k,zB y.vf=some k→k∈y.bl:=fun k hk=>by unfold PFiber.bl;simp [hk]
 have hgy:zB y.vf≠some g:=fun e=>(d1 g hbl).2 y hym (hyv g e)
 have hCh:Chg (fun k=>zB y.vf=some k∨k=g) W (W1.setCell ⟨g,o+L.length * 2,none⟩ y'.vf):=(hc.mono (fun _ _ e=>.inl e)).setCell (p:=⟨g,o+L.length * 2,none⟩) (.inl (.inr rfl)) _;refine⟨h.fiber' hP hCh (fun k hk _=>by rcases hk with h1 | h1;exact .inr (hyv k h1);exact .inl (by rw [h1];exact hbl)) (hy.chg (zO W1 g (o+L.length * 2) y'.vf) fun k hk e=>?_) ?_ hn hs,hCh.mono (fun k _ hk=>?_)⟩
 ·subst e;rcases hs k hk with h1 | h1
  ·exact(d1 k hbl).2 y hym h1
  ·exact h1 (List.mem_cons_of_mem _ (PState.mem_vfs hbl))
 ·have hrow1:=hrow.chg hc (fun k hk e=>by rw [←hv,hbl] at hk;cases hk;exact hgy e) (by decide);rw [hv];have:=hrow1.storeAt (y':=y') (r:=0) (u:=y'.vf) kK (fun _=>rfl) (by decide) (by unfold kK;rw [hcl];rfl)
  rwa [Nat.add_zero] at this
 ·rcases hk with h1 | h1
  ·exact PState.mem_fs hym (hyv k h1)
  ·rw [h1];exact PState.mem_vfs hbl
theorem OwnS.setFrames {P:PState} {L R:List PFiber} {y y':PFiber} {W W1:World} {B b g o n cap:Nat} (h:OwnS W B b P) (hP:P.fs=L++y::R) (hv:P.vfs=.slice (some ⟨g,o,none⟩) n cap)
  (hc:Chg (fun k=>zB y.vf=some k) W W1) (hcl:y'.caller=y.caller) (hy:FiberO W1 B y') (hn:y'.bl.Nodup) (hs:∀g∈y'.bl,g∈y.bl∨W.heap.size≤g) :
  OwnS (W1.setCell ⟨g,o+L.length * 2,none⟩ y'.vf) B b { P with fs:=L++y'::R }∧Chg (·∈P.bl) W (W1.setCell ⟨g,o+L.length * 2,none⟩ y'.vf) :=
 h.setFrames' hP hv hc hcl hy hn fun g hg=>(hs g hg).imp id fun h1 h2=>by have:=h.lt g h2;omega
theorem OwnS.setNow {P:PState} {W:World} {B b:Nat} (h:OwnS W B b P) (n:Int) (hI:I64 n) :
  OwnS (W.setCell ⟨b,1,none⟩ (.int .i64 n)) B b { P with now:=n }:=by
 have d0:=h.dis.1;have hCh:=zO W b 1 (.int .i64 n);have ne:∀g∈P.bl,¬g=b:=fun g hg e=>d0 (e ▸ hg)
 exact⟨h.c0.other (.inr (by decide)) _,h.c1.set _,h.c2.other (.inr (by decide)) _,⟨hI,h.i.2⟩,h.row.chg hCh (fun g e=>ne g (PState.mem_vfs e)) (by decide),h.out.chg hCh (fun g e=>ne g (PState.mem_vo e)) (by decide),
  fun y hy=>(h.fs y hy).chg hCh (fun g hg=>ne g (PState.mem_fs hy hg)),h.le,h.few,h.nodup⟩
theorem OwnS.setOut {P:PState} {W W1:World} {B b:Nat} (h:OwnS W B b P) {out:List Int} {v1:Value} (hc:Chg (fun k=>zB P.vo=some k) W W1) (hr:RowAt W1 B 1 v1 out.length (ints out)) (hI:∀k∈out,I64 k) (hl:out.length≤1000)
  (hv:zB v1=zB P.vo∨∀k,zB v1=some k→W.heap.size≤k):OwnS (W1.setCell ⟨b,2,none⟩ v1) B b { P with out:=out,vo:=v1 }∧Chg (·∈b::P.bl) W (W1.setCell ⟨b,2,none⟩ v1):=by
 obtain⟨d0,d1,d2⟩:=h.dis;have hlt:=h.lt;have hCh:Chg (fun k=>zB P.vo=some k∨k=b) W (W1.setCell ⟨b,2,none⟩ v1):=(hc.mono (fun _ _ e=>.inl e)).setCell (p:=⟨b,2,none⟩) (.inl (.inr rfl)) _;have hbo:¬zB P.vo=some b:=fun e=>d0 (PState.mem_vo e)
 refine⟨⟨(h.c0.chg hc hbo).other (.inr (by decide)) _,(h.c1.chg hc hbo).other (.inr (by decide)) _,(h.c2.chg hc hbo).set _,⟨h.i.1,hI⟩,h.row.chg hCh (fun g e=>?_) (by decide),hr.chg (zO W1 b 2 v1) (fun g e=>?_) (by decide),fun y hy=>(h.fs y hy).chg hCh (fun g hg=>?_),h.le,⟨h.few.1,hl⟩,?_⟩,hCh.mono (fun k _ hk=>?_)⟩
 ·rintro (h1 | h1)
  ·exact(d1 g e).1 h1
  ·subst h1;exact d0 (PState.mem_vfs e)
 ·rintro rfl;rcases hv with h1 | h1
  ·exact hbo (h1 ▸ e)
  ·have:=h1 g e;have:=h.c0.lt;omega
 ·rintro (h1 | h1)
  ·exact d2 g h1 y hy hg
  ·subst h1;exact d0 (PState.mem_fs hy hg)
 ·have hnd:=h.nodup;have e1:b::P.bl=(b::(zB P.vfs).toList)++(zB P.vo).toList++P.fs.flatMap PFiber.bl:=by unfold PState.bl;simp
  have e2:b::PState.bl { P with out:=out,vo:=v1 }=(b::(zB P.vfs).toList)++(zB v1).toList++P.fs.flatMap PFiber.bl:=by unfold PState.bl;simp
  rw [e2];rw [e1] at hnd hlt;refine zGy hnd (by cases zB v1<;>simp) (fun g hg=>?_) (fun g hg=>hlt g (by rcases List.mem_append.1 hg with h1 | h1;exact List.mem_append.2 (.inl (List.mem_append.2 (.inl h1)));exact List.mem_append.2 (.inr h1)));have hg':zB v1=some g:=by simpa using hg
  rcases hv with h1 | h1
  ·exact .inl (by rw [←h1];exact hg)
  ·exact .inr (h1 g hg')
 ·rcases hk with h1 | h1
  ·exact List.mem_cons_of_mem _ (PState.mem_vo h1)
  ·rw [h1];exact List.mem_cons_self
theorem OwnS.addFiber {P:PState} {W W1:World} {B b:Nat} {y:PFiber} (h:OwnS W B b P) {v1:Value} (hc:Chg (fun k=>zB P.vfs=some k) W W1) (hr:RowAt W1 B 2 v1 (P.fs++[y]).length ((P.fs++[y]).flatMap kK)) (hy:FiberO W1 B y) (hl:P.fs.length<1000)
  (hv:zB v1=zB P.vfs∨∀k,zB v1=some k→W.heap.size≤k) (hn:y.bl.Nodup) (hf:∀k∈y.bl,W.heap.size≤k∧zB v1≠some k) :
  OwnS (W1.setCell ⟨b,0,none⟩ v1) B b { P with fs:=P.fs++[y],vfs:=v1 }∧Chg (·∈b::P.bl) W (W1.setCell ⟨b,0,none⟩ v1):=by
 obtain⟨d0,d1,d2⟩:=h.dis;have hlt:=h.lt;have hCh:Chg (fun k=>zB P.vfs=some k∨k=b) W (W1.setCell ⟨b,0,none⟩ v1):=(hc.mono (fun _ _ e=>.inl e)).setCell (p:=⟨b,0,none⟩) (.inl (.inr rfl)) _;have hbo:¬zB P.vfs=some b:=fun e=>d0 (PState.mem_vfs e)
 have hbs:=h.c0.lt;refine⟨⟨(h.c0.chg hc hbo).set _,(h.c1.chg hc hbo).other (.inr (by decide)) _,(h.c2.chg hc hbo).other (.inr (by decide)) _,h.i,hr.chg (zO W1 b 0 v1) (fun g e=>?_) (by decide),h.out.chg hCh (fun g e=>?_) (by decide),fun z hz=>?_,h.le,⟨?_,h.few.2⟩,?_⟩,hCh.mono (fun k _ hk=>?_)⟩
 ·rintro rfl;rcases hv with h1 | h1
  ·exact hbo (h1 ▸ e)
  ·have:=h1 g e;omega
 ·rintro (h1 | h1)
  ·exact(d1 g h1).1 e
  ·subst h1;exact d0 (PState.mem_vo e)
 ·have hz':z∈P.fs++[y]:=hz;rcases List.mem_append.1 hz' with h1 | h1
  ·refine(h.fs z h1).chg hCh (fun g hg=>?_);rintro (h2 | h2)
   ·exact(d1 g h2).2 z h1 hg
   ·subst h2;exact d0 (PState.mem_fs h1 hg)
  ·rw [List.mem_singleton] at h1;subst h1;exact hy.chg (zO W1 b 0 v1) (fun g hg e=>by subst e;have:=(hf _ hg).1;omega)
 ·show (P.fs++[y]).length≤1000;simp;omega
 ·have hnd:=h.nodup;have e1:b::P.bl=[b]++(zB P.vfs).toList++((zB P.vo).toList++P.fs.flatMap PFiber.bl):=by unfold PState.bl;simp
  have e2:b::PState.bl { P with fs:=P.fs++[y],vfs:=v1 }=([b]++(zB v1).toList++((zB P.vo).toList++P.fs.flatMap PFiber.bl))++y.bl:=by unfold PState.bl;simp
  rw [e2];rw [e1] at hnd hlt;rw [List.nodup_append];refine⟨zGy (n:=W.heap.size) hnd (by cases zB v1<;>simp) (fun g hg=>?_) (fun g hg=>hlt g (by rcases List.mem_append.1 hg with h1 | h1;exact List.mem_append.2 (.inl (List.mem_append.2 (.inl h1)));exact List.mem_append.2 (.inr h1))),hn,fun a ha c hc' e=>?_⟩
  ·have hg':zB v1=some g:=by simpa using hg
   rcases hv with h1 | h1
   ·exact .inl (by rw [←h1];exact hg)
   ·exact .inr (h1 g hg')
  ·subst e;obtain⟨f1,f2⟩:=hf a hc';rcases List.mem_append.1 ha with h1 | h1
   ·rcases List.mem_append.1 h1 with h2 | h2
    ·have:=hlt a (List.mem_append.2 (.inl (List.mem_append.2 (.inl h2))));omega
    ·exact f2 (by simpa using h2)
   ·have:=hlt a (List.mem_append.2 (.inr h1));omega
 ·rcases hk with h1 | h1
  ·exact List.mem_cons_of_mem _ (PState.mem_vfs h1)
  ·rw [h1];exact List.mem_cons_self
theorem split_at {α:Type} (l:List α) (n:Nat) (h:n<l.length):∃L y R,l=L++y::R∧L.length=n :=
 ⟨l.take n,l[n],l.drop (n+1),by rw [List.getElem_cons_drop,List.take_append_drop],by rw [List.length_take];omega⟩
theorem jP {α:Type} (l:List α) (h:0<l.length):∃F x,l=F++[x] :=
 ⟨l.dropLast,l.getLast (by intro e;subst e;simp at h),(List.dropLast_concat_getLast _).symm⟩
theorem getD_mid {α:Type} (L:List α) (y:α) (R:List α) (d:α):(L++y::R).getD L.length d=y:=by simp [List.getD]
theorem yZ {α:Type} (F:List α) (x:α) (d:α) (n:Nat) (h:n=(F++[x]).length - 1):(F++[x]).getD n d=x:=by
 subst h;simp [List.getD]
theorem modify_mid {α:Type} (L:List α) (y:α) (R:List α) (g:α→α):(L++y::R).modify L.length g=L++g y::R:=by
 induction L with
 | nil=>rfl
 | cons a L ih=>simp only [List.cons_append,List.length_cons,List.modify_succ_cons,ih]
theorem zFd {α:Type} (F:List α) (x:α) (g:α→α) (n:Nat) (h:n=(F++[x]).length - 1):(F++[x]).modify n g=F++[g x]:=by
 have:n=F.length:=by simp at h;exact h
 subst this;exact modify_mid F x [] g
theorem zFe {α:Type} (g:α→α):∀(l:List α) (n:Nat) (y:α),y∈l.modify n g→y∈l∨∃x∈l,y=g x
 | [],n,y,h=>by cases n<;>simp at h
 | a::l,0,y,h=>by
  simp only [List.modify_zero_cons,List.mem_cons] at h;rcases h with rfl | h
  ·exact .inr ⟨a,by simp,rfl⟩
  ·exact .inl (by simp [h])
 | a::l,n+1,y,h=>by
  simp only [List.modify_succ_cons,List.mem_cons] at h;rcases h with rfl | h
  ·exact .inl (by simp)
  ·rcases zFe g l n y h with h | ⟨x,hx,e⟩
   ·exact .inl (by simp [h])
   ·exact .inr ⟨x,by simp [hx],e⟩
section
variable {P:PState} {L R:List PFiber} {y:PFiber} {F:List PFrame} {x:PFrame}
theorem zBx (hP:P.fs=L++y::R):P.g.fibers.getD L.length default=y.g:=by
 show (P.fs.map PFiber.g).getD L.length default=y.g;rw [hP,List.map_append,List.map_cons];have:=getD_mid (L.map PFiber.g) y.g (R.map PFiber.g) default
 rwa [List.length_map] at this
theorem top_at (hf:y.fr=F++[x]):vF y.g=x.f:=by
 unfold vF;show (y.fr.map PFrame.f).getD ((y.fr.map PFrame.f).length - 1) default=x.f;rw [hf,List.map_append,List.map_cons,List.map_nil];exact yZ _ _ _ _ rfl
theorem uF (hP:P.fs=L++y::R) {n:Int} (hn:n=L.length) {y':PFiber} {g:GFiber→GFiber} (h:y'.g=g y.g):kN P.g n g=PState.g { P with fs:=L++y'::R }:=by
 subst hn;unfold kN PState.g;simp only [GState.mk.injEq,and_true];rw [hP,List.map_append,List.map_cons,List.map_append,List.map_cons,Int.toNat_natCast];have:=modify_mid (L.map PFiber.g) y.g (R.map PFiber.g) g;rw [List.length_map] at this;rw [this,h]
theorem qC (hs:Spot P L y R F x) {n:Int} (hn:n=L.length) {x':PFrame} {g:GFrame→GFrame} (h:x'.f=g x.f):kT P.g n g=(qT P L y R F x').g:=by
 unfold kT qT;refine uF hs.fs hn ?_;unfold PFiber.g;simp only [GFiber.mk.injEq,and_true];rw [hs.fr,List.map_append,List.map_append,List.map_cons,List.map_cons,List.map_nil,zFd _ _ _ _ rfl,h]
theorem zAn (hP:P.fs=L++y::R) (hn:P.now=L.length):curF P.g=y.g:=by
 unfold curF;rw [show P.g.now=P.now from rfl,hn,Int.toNat_natCast];exact zBx hP
theorem uS (hs:Spot P L y R F x) (hn:P.now=L.length):curX P.g=x.f:=by
 unfold curX;rw [zAn hs.fs hn,top_at hs.fr]
end
theorem hasFib {P:PState} {n:Int} (h:0≤n∧n<P.fs.length):∃L y R,P.fs=L++y::R∧n=(L.length:Int):=by
 obtain⟨L,y,R,e,hl⟩:=split_at P.fs n.toNat (by omega);exact⟨L,y,R,e,by omega⟩
theorem yS {P:PState} {n:Int} (h:zU P.g n):∃L y R F x,Spot P L y R F x∧n=(L.length:Int):=by
 obtain⟨h0,h1,h2⟩:=h;have h1':n<P.fs.length:=by simpa [PState.g] using h1
 obtain⟨L,y,R,e,hl⟩:=hasFib ⟨h0,h1'⟩;rw [hl,Int.toNat_natCast,zBx e] at h2;obtain⟨F,x,hf⟩:=jP y.fr (by simpa [PFiber.g] using h2);exact⟨L,y,R,F,x,⟨e,hf⟩,hl⟩
structure Turn (W W':World) (B b:Nat) (P:PState) (s':GState):Prop where
 own:∃P',OwnS W' B b P'∧P'.g=s'∧∀g∈P'.bl,g∈P.bl∨W.heap.size≤g
 chg:Chg (·∈b::P.bl) W W'
theorem Turn.refl {W:World} {B b:Nat} {P:PState} (h:OwnS W B b P):Turn W W B b P P.g:=⟨⟨P,h,rfl,fun _ h=>.inl h⟩,Chg.refl _ _⟩
theorem Turn.step {W W1 W2:World} {B b:Nat} {P P1:PState} {s2:GState} (hc:Chg (·∈b::P.bl) W W1) (hs:∀g∈P1.bl,g∈P.bl∨W.heap.size≤g) (h:Turn W1 W2 B b P1 s2):Turn W W2 B b P s2:=by
 obtain⟨⟨P2,o2,g2,s2'⟩,c2⟩:=h;refine⟨⟨P2,o2,g2,fun g hg=>?_⟩,hc.trans' c2 fun n hn hm=>?_⟩
 ·rcases s2' g hg with h1 | h1
  ·exact hs g h1
  ·exact .inr (Nat.le_trans hc.size h1)
 ·rcases List.mem_cons.1 hm with rfl | h1
  ·exact List.mem_cons_self
  ·rcases hs n h1 with h2 | h2
   ·exact List.mem_cons_of_mem _ h2
   ·omega
theorem Turn.ext {W W1:World} {B b:Nat} {P:PState} {s:GState} (h:Turn W W1 B b P s) {W2:World} (he:Ext W1 W2):Turn W W2 B b P s:=by
 obtain⟨⟨P1,o1,g1,s1⟩,c1⟩:=h;exact⟨⟨P1,o1.ext he,g1,s1⟩,c1.trans (Chg.of_ext he)⟩
theorem Turn.pre {W W1 W2:World} {B b:Nat} {P:PState} {s:GState} (he:Ext W W1) (h:Turn W1 W2 B b P s):Turn W W2 B b P s :=
 Turn.step (Chg.of_ext he) (fun _ h=>.inl h) h
structure Did (W W':World) (B b:Nat) (P:PState) (r:Int × GState):Prop where
 chg:Chg (·∈b::P.bl) W W'
 turn:r.1=0→Turn W W' B b P r.2
theorem Did.of {W W':World} {B b:Nat} {P:PState} {s:GState} (h:Turn W W' B b P s):Did W W' B b P (0,s):=⟨h.chg,fun _=>h⟩
theorem Did.step {W W1 W2:World} {B b:Nat} {P P1:PState} {r:Int × GState} (hc:Chg (·∈b::P.bl) W W1) (hs:∀g∈P1.bl,g∈P.bl∨W.heap.size≤g) (h:Did W1 W2 B b P1 r):Did W W2 B b P r:=by
 refine⟨hc.trans' h.chg fun n hn hm=>?_,fun h0=>Turn.step hc hs (h.turn h0)⟩;rcases List.mem_cons.1 hm with rfl | h1
 ·exact List.mem_cons_self
 ·rcases hs n h1 with h2 | h2
  ·exact List.mem_cons_of_mem _ h2
  ·omega
theorem Spot.bl {P:PState} {L R:List PFiber} {y:PFiber} {F:List PFrame} {x:PFrame} (hs:Spot P L y R F x) {g:Nat}:(zB y.vf=some g∨g∈x.bl)→g∈P.bl:=by
 intro h;refine PState.mem_fs (y:=y) (by rw [hs.fs];simp) ?_;unfold PFiber.bl;rcases h with h | h
 ·simp [h]
 ·exact List.mem_append.2 (.inr (List.mem_flatMap.2 ⟨x,by rw [hs.fr];simp,h⟩))
theorem yO {P:PState} {L R:List PFiber} {y:PFiber} {F:List PFrame} {x x':PFrame} (hs:Spot P L y R F x) {n:Nat} (h:∀g∈x'.bl,g∈x.bl∨n≤g):∀g∈(qT P L y R F x').bl,g∈P.bl∨n≤g:=by
 intro g hg;unfold qT PState.bl at hg;simp only [List.flatMap_append,List.flatMap_cons,List.mem_append] at hg;have e:PFiber.bl { y with fr:=F++[x'] }=(zB y.vf).toList++(F.flatMap PFrame.bl++x'.bl):=by unfold PFiber.bl;simp
 rw [e] at hg;simp only [List.mem_append] at hg;have hL:∀z∈P.fs,g∈z.bl→g∈P.bl:=fun z hz h=>PState.mem_fs hz h
 have hfm:∀(l:List PFiber),(∀z∈l,z∈P.fs)→g∈l.flatMap PFiber.bl→g∈P.bl:=fun l hl h=>by
  obtain⟨z,hz,h2⟩:=List.mem_flatMap.1 h;exact hL z (hl z hz) h2
 rcases hg with (h1 | h1) | h1 | (h1 | h1 | h1) | h1
 ·exact .inl (PState.mem_vfs (by simpa using h1))
 ·exact .inl (PState.mem_vo (by simpa using h1))
 ·exact .inl (hfm L (fun z hz=>by rw [hs.fs];simp [hz]) h1)
 ·exact .inl (hs.bl (.inl (by simpa using h1)))
 ·obtain⟨z,hz,h2⟩:=List.mem_flatMap.1 h1;refine .inl (hL y (by rw [hs.fs];simp) ?_);unfold PFiber.bl;exact List.mem_append.2 (.inr (List.mem_flatMap.2 ⟨z,by rw [hs.fr];simp [hz],h2⟩))
 ·rcases h g h1 with h2 | h2
  ·exact .inl (hs.bl (.inr h2))
  ·exact .inr h2
 ·exact .inl (hfm R (fun z hz=>by rw [hs.fs];simp [hz]) h1)
theorem uP {x:PFrame} {f:GFrame} {v1:Value} {n:Nat} (h:zB v1=zB x.vs∨∀k,zB v1=some k→n≤k):∀g∈PFrame.bl ⟨f,x.vl,v1⟩,g∈x.bl∨n≤g:=by
 intro g hg;unfold PFrame.bl at hg ⊢;rcases List.mem_append.1 hg with h1 | h1
 ·exact .inl (List.mem_append.2 (.inl h1))
 ·rcases h with h | h
  ·exact .inl (List.mem_append.2 (.inr (by rw [←h];exact h1)))
  ·exact .inr (h g (by simpa using h1))
theorem uT {P:PState} {L R:List PFiber} {y:PFiber} {F:List PFrame} {x:PFrame} {b:Nat} (hs:Spot P L y R F x) {W W':World} (h:Chg (fun k=>zB y.vf=some k∨zB x.vs=some k) W W'):Chg (·∈b::P.bl) W W' :=
 h.mono (fun k _ hk=>List.mem_cons_of_mem _ (hs.bl (hk.imp id (fun e=>by unfold PFrame.bl;simp [e]))))
def Room (s:GState):Prop:=∀f∈s.fibers,∀x∈f.frames,x.stack.length<1000
theorem Room.fib {s:GState} (h:Room s) (n:Int) {g:GFiber→GFiber} (hg:∀f,(∀x∈f.frames,x.stack.length<1000)→∀x∈(g f).frames,x.stack.length<1000):Room (kN s n g):=by
 intro f hf;rcases zFe g _ _ _ hf with h1 | ⟨z,h1,rfl⟩
 ·exact h f h1
 ·exact hg z (h z h1)
theorem Room.top {s:GState} (h:Room s) (n:Int) {g:GFrame→GFrame} (hg:∀x,(g x).stack.length≤x.stack.length):Room (kT s n g) :=
 h.fib n fun f hf x hx=>by
  rcases zFe g _ _ _ hx with h1 | ⟨z,h1,rfl⟩
  ·exact hf x h1
  ·exact Nat.lt_of_le_of_lt (hg z) (hf z h1)
theorem Room.pop {s:GState} (h:Room s):Room (popG s):=h.top _ fun _=>by simp
theorem Room.drop {s:GState} (h:Room s):Room (kD s):=h.fib _ fun _ hf x hx=>hf x (List.dropLast_subset _ hx)
theorem Room.caller {s:GState} (h:Room s) (n c:Int):Room (kN s n fun f=>{ f with caller:=c }):=h.fib n fun _ hf x hx=>hf x hx
theorem Room.now {s:GState} (h:Room s) (n:Int):Room { s with now:=n }:=h
theorem FewS.room {s:GState} (h:FewS s):Room s:=fun f hf x hx=>by have:=((h.2.2 f hf).2 x hx).2;omega
theorem zAs {P:PState} {w:World} {B b:Nat} (h:OwnS w B b P) (n:Int) (ht:zU P.g n) (hr:Room P.g) (v:Int) (hv:I64 v) :
  Calls Tryz.prog 182 #[.pointer (some ⟨b,0,none⟩),.int .i64 n,.int .i64 v] w fun e w'=>e=.returned (.tuple #[])∧Turn w w' B b P (kR P.g n v):=by
 obtain⟨L,y,R,F,x,hs,rfl⟩:=yS ht;have hx:x.f.stack.length<1000:=hr y.g (by unfold PState.g;rw [hs.fs];simp) x.f (by unfold PFiber.g;rw [hs.fr];simp);refine(push_at h hs L.length rfl v hv hx).mono ?_;rintro e w' ⟨rfl,⟨v1,o1,hv1⟩,hc⟩;exact⟨rfl,⟨⟨_,o1,(qC hs rfl rfl).symm,yO hs (uP hv1)⟩,uT hs hc⟩⟩
theorem vI {P:PState} {w:World} {B b:Nat} (h:OwnS w B b P) (ht:zU P.g P.g.now) (hl:1≤(curX P.g).stack.length) :
  Calls Tryz.prog 183 #[.pointer (some ⟨b,0,none⟩)] w fun e w'=>e=.returned (.int .i64 (zR P.g))∧Turn w w' B b P (popG P.g):=by
 obtain⟨L,y,R,F,x,hs,hn⟩:=yS ht;have hcx:=uS hs hn;rw [hcx] at hl;obtain⟨st,u,hst⟩:=jP x.f.stack (by omega);have hlast:zR P.g=u:=by unfold zR;rw [hcx,hst];exact yZ _ _ _ _ rfl
 refine(pull_at h hs hn st u hst).mono ?_;rintro e w' ⟨rfl,⟨v1,o1,hv1⟩,hc⟩;refine⟨by rw [hlast],⟨⟨_,o1,(qC hs hn ?_).symm,yO hs (uP (.inl hv1))⟩,uT hs hc⟩⟩;simp [hst]
theorem OwnS.i64s {P:PState} {w:World} {B b:Nat} (h:OwnS w B b P) (ht:zU P.g P.g.now):(∀k∈(curX P.g).stack,I64 k)∧(∀k∈(curX P.g).locals,I64 k):=by
 obtain⟨L,y,R,F,x,hs,hn⟩:=yS ht;rw [uS hs hn];have hx:=(h.fs y (by rw [hs.fs];simp)).fr x (by rw [hs.fr];simp);exact⟨hx.i.2.2.2,hx.i.2.2.1⟩
theorem OwnS.lastI {P:PState} {w:World} {B b:Nat} (h:OwnS w B b P) (ht:zU P.g P.g.now) (hl:1≤(curX P.g).stack.length):I64 (zR P.g):=by
 refine(h.i64s ht).1 _ ?_;unfold zR;rw [List.getD_eq_getElem?_getD,List.getElem?_eq_getElem (by omega)];exact List.getElem_mem _
theorem put_any {P:PState} {w:World} {B b:Nat} (h:OwnS w B b P) (hl:P.g.out.length<1000) (v:Int) (hv:I64 v) :
  Calls Tryz.prog 188 #[.pointer (some ⟨b,0,none⟩),.int .i64 v] w fun e w'=>e=.returned (.int .i64 (putG P.g v).1)∧Did w w' B b P (putG P.g v):=by
 have hl':P.out.length<1000:=hl;obtain⟨ao,co,eo,hco,hmo⟩:=h.out.shape;have c2:=h.c2;have HRO:Hid (RowAt w B 1 (.slice ao P.out.length co) P.out.length (ints P.out)):=by unfold Hid;rw [←eo];exact h.out
 rw [eo] at c2;have C2:=eH c2;have HEO:=eH eo;have H:=eH h;have HB:Hid (B≤w.heap.size):=Nat.le_trans h.le (Nat.le_of_lt h.c0.lt);have HBO:Hid (¬zB (.slice ao P.out.length co)=some b):=by unfold Hid;rw [←eo];exact fun e=>h.dis.1 (PState.mem_vo e)
 obtain⟨i0,hi0,hz0,hz1,hz2⟩:=info_parts vM;have RA:=zF;by_cases h30:P.out.length=30
 ·have HG:Hid (putG P.g v=(2,P.g)):=by unfold Hid putG;rw [if_pos (show P.g.out.length=30 from h30)]
  rw [HG.out];have T:decide (((P.out.length:Nat):Int)=30)=true:=decide_eq_true (by omega);have T':(((P.out.length:Nat):Int) == 30)=true:=by simpa using T
  obtain⟨c2,-⟩:=C2.out;clear h eo h30 hl hl' hco hmo;generalize P.out.length=m at *;go_enter Tryz.func188,Tryz.ntmps188
  go_wp2_with fail
  go_ret;exact⟨rfl,⟨Chg.refl _ _,fun h=>by cases h⟩⟩
 ·have HG:Hid (putG P.g v=(0,{ P.g with out:=P.g.out++[v] })):=by unfold Hid putG;rw [if_neg (show ¬P.g.out.length=30 from h30)]
  rw [HG.out];have T:decide (((P.out.length:Nat):Int)=30)=false:=decide_eq_false (by omega);have T':(((P.out.length:Nat):Int) == 30)=false:=by simpa using T
  obtain⟨c2,c2'⟩:=C2.out;clear h eo h30 hl hco hmo;go_enter Tryz.func188,Tryz.ntmps188
  go_wp2_with (first
   | (at_builtin;refine zE rfl _ _ 30 rfl B 3 i0 (.int .i64 0) 1 8 Tryz.underlying30 hi0 hz0 hz1 hz2 rfl (by decide) _ _ _ rfl (by exact(HRO.out.ext ((eR _).alloc _) (by decide))) 1 (ints [v]) (uK _ _ _) (by unfold maxLen;omega) (by omega) (by exact Nat.le_trans HB.out (Ext.size ((eR _).alloc _))) ?_;intro v1 Wv1 rv1;have RV:=eH rv1;obtain⟨k0,k0'⟩:=(C2.out.ext ((eR w).alloc _)).chg rv1.2.1 HBO.out;obtain⟨a9,cap9,rfl,_,_⟩:=rv1.1.shape;clear rv1))
  go_ret;have hRV:kO (w.alloc (.cells #[.int .i64 v] 3)) Wv1 B 1 (.slice ao P.out.length co) (.slice a9 (P.out.length+1) cap9) (P.out.length+1) (ints P.out++ints [v]):=RV.out;have hA:Ext w (w.alloc (.cells #[.int .i64 v] 3)):=(eR _).alloc _;obtain⟨r1,r2,r3⟩:=hRV;have hfin:=H.out.setOut (W1:=Wv1) (out:=P.out++[v]) (v1:=.slice a9 (P.out.length+1) cap9)
   ((Chg.of_ext hA).trans (r2.mono (fun k _ e=>by rw [HEO.out];exact e)))
   (by rw [List.length_append,List.length_singleton,yK];exact r1) (fun k hk=>by rcases List.mem_append.1 hk with h1 | h1;exact H.out.i.2 k h1;rw [List.mem_singleton.1 h1];exact hv)
   (by rw [List.length_append,List.length_singleton];omega) (r3.imp (fun e=>by rw [HEO.out];exact e) (fun e k hk=>Nat.le_trans hA.size (e k hk)))
  refine⟨rfl,Did.of ⟨⟨_,hfin.1,rfl,fun g hg=>?_⟩,hfin.2⟩⟩;unfold PState.bl at hg;rcases List.mem_append.1 hg with h1 | h1
  ·rcases List.mem_append.1 h1 with h2 | h2
   ·exact .inl (PState.mem_vfs (by simpa using h2))
   ·have h3:zB (.slice a9 (P.out.length+1) cap9)=some g:=by simpa using h2
    rcases r3 with e | e
    ·exact .inl (PState.mem_vo (by rw [HEO.out,←e];exact h3))
    ·exact .inr (Nat.le_trans hA.size (e g h3))
  ·obtain⟨z,hz,h2⟩:=List.mem_flatMap.1 h1;exact .inl (PState.mem_fs hz h2)
theorem truth_any (t:Bool) (w:World):Calls Tryz.prog 209 #[.bool t] w fun e w'=>e=.returned (.int .i64 (zCr t))∧w'=w:=by
 cases t with
 | true =>
  go_enter Tryz.func209,Tryz.ntmps209
  go_wp2_with fail
  go_ret;exact⟨rfl,rfl⟩
 | false =>
  go_enter Tryz.func209,Tryz.ntmps209
  go_wp2_with fail
  go_ret;exact⟨rfl,rfl⟩
theorem beq_dec (a c:Int):(a == c)=decide (a=c):=by
 by_cases e:a=c
 ·rw [decide_eq_true e,e];exact beq_self_eq_true c
 ·rw [beq_false_of_ne e,decide_eq_false e]
theorem reckoned_any (k a c:Int) (w:World):Calls Tryz.prog 189 #[.int .i64 k,.int .i64 a,.int .i64 c] w fun e w'=>e=.returned (.int .i64 (yP k a c))∧w'=w:=by
 by_cases h4:k=4
 ·subst h4;go_enter Tryz.func189,Tryz.ntmps189
  go_wp2_with fail
  go_ret;exact⟨rfl,rfl⟩
 by_cases h5:k=5
 ·subst h5;go_enter Tryz.func189,Tryz.ntmps189
  go_wp2_with fail
  go_ret;exact⟨rfl,rfl⟩
 by_cases h6:k=6
 ·subst h6;go_enter Tryz.func189,Tryz.ntmps189
  go_wp2_with fail
  go_ret;exact⟨rfl,rfl⟩
 by_cases h7:k=7
 ·subst h7;go_enter Tryz.func189,Tryz.ntmps189
  go_wp2_with (first
   | (go_at_call 209;refine(truth_any _ _).mono ?_;rintro e w2 ⟨rfl,rfl⟩))
  go_ret;exact⟨rfl,rfl⟩
 have HG:Hid (yP k a c=zCr (decide (a=c))):=by unfold Hid yP;rw [if_neg h4,if_neg h5,if_neg h6,if_neg h7]
 rw [HG.out];have T4:(k == 4)=false:=beq_false_of_ne h4;have T5:(k == 5)=false:=beq_false_of_ne h5;have T6:(k == 6)=false:=beq_false_of_ne h6;have T7:(k == 7)=false:=beq_false_of_ne h7;clear h4 h5 h6 h7;go_enter Tryz.func189,Tryz.ntmps189
 go_wp2_with (first
  | (go_at_call 209;refine(truth_any _ _).mono ?_;rintro e w2 ⟨rfl,rfl⟩))
 go_ret;exact⟨by show Ending.returned (Value.int .i64 (zCr (a == c)))=_;rw [beq_dec],rfl⟩
theorem qK (s:GState) (n:Int) (g:GFiber→GFiber):(kN s n g).fibers.length=s.fibers.length:=by unfold kN;simp
theorem yG (s:GState) (n:Int) (g:GFiber→GFiber) (m:Nat) (hm:m<s.fibers.length):(kN s n g).fibers.getD m default=if n.toNat=m then g (s.fibers.getD m default) else s.fibers.getD m default:=by
 unfold kN;show (s.fibers.modify n.toNat g).getD m default=_;rw [List.getD_eq_getElem?_getD,List.getElem?_modify,List.getD_eq_getElem?_getD,List.getElem?_eq_getElem hm];by_cases h:n.toNat=m<;>simp [h]
theorem zU.fib {s:GState} {n:Int} (h:zU s n) (m:Int) {g:GFiber→GFiber} (hg:∀f,0<f.frames.length→0<(g f).frames.length):zU (kN s m g) n:=by
 obtain⟨h0,h1,h2⟩:=h;refine⟨h0,by rw [qK];exact h1,?_⟩;rw [yG _ _ _ _ (by omega)];split
 ·exact hg _ h2
 ·exact h2
theorem zU.top {s:GState} {n:Int} (h:zU s n) (m:Int) {g:GFrame→GFrame}:zU (kT s m g) n:=h.fib m fun f hf=>by simpa using hf
theorem zU.pop {s:GState} {n:Int} (h:zU s n):zU (popG s) n:=h.top _
theorem OwnS.back {P:PState} {L R:List PFiber} {y:PFiber} {W:World} {B b g o n cap:Nat} (h:OwnS W B b P) (hP:P.fs=L++y::R) (hn:P.now=L.length) (hv:P.vfs=.slice (some ⟨g,o,none⟩) n cap) :
  ∃P1,OwnS ((W.setCell ⟨b,1,none⟩ (.int .i64 y.caller)).setCell ⟨g,o+L.length * 2+1,none⟩ (.int .i64 (-1))) B b P1∧P1.g={ kN P.g P.g.now (fun f=>{ f with caller := -1 }) with now:=y.caller }∧(∀g,g∈P1.bl↔g∈P.bl) ∧
   Chg (·∈b::P.bl) W ((W.setCell ⟨b,1,none⟩ (.int .i64 y.caller)).setCell ⟨g,o+L.length * 2+1,none⟩ (.int .i64 (-1))):=by
 have hym:y∈P.fs:=by rw [hP];simp
 have o2:=h.setNow y.caller (h.fs y hym).i;have o3:=OwnS.setCaller (P:={ P with now:=y.caller }) o2 hP hv (-1) (by unfold I64;decide);refine⟨_,o3.1,?_,fun k=>?_,?_⟩
 ·have e:=uF hP (n:=P.g.now) hn (y':={ y with caller := -1 }) (g:=fun f=>{ f with caller := -1 }) rfl;rw [e];rfl
 ·unfold PState.bl;rw [hP];simp only [List.flatMap_append,List.flatMap_cons];rfl
 ·exact((zO W b 1 (.int .i64 y.caller)).mono (fun k _ hk=>by rw [show k=b from hk];exact List.mem_cons_self)).trans (o3.2.mono fun k _ hk=>List.mem_cons_of_mem _ hk)
theorem yielded_any {P:PState} {w:World} {B b:Nat} (h:OwnS w B b P) (ht:zU P.g P.g.now) (hr:Room P.g) (hl:1≤(curX P.g).stack.length) (hb:zAp (popG P.g)) :
    Calls Tryz.prog 187 #[.pointer (some ⟨b,0,none⟩)] w fun e w'=>e=.returned (.int .i64 (yT P.g).1)∧Did w w' B b P (yT P.g):=by
  have hLI:=h.lastI ht hl;have H:=eH h;have HT:=eH ht;have HL:=eH hl;clear h;have RA:=zF;generalize hv:zR P.g=v at *;have HV:=eH hv;go_enter Tryz.func187,Tryz.ntmps187
  go_upto_region 2 with (first
    | (go_at_call 183;(with_reducible refine(vI H.out HT.out HL.out).mono ?_);rintro e w2 ⟨rfl,t2⟩;rw [HV.out]))
  clear hv;obtain⟨⟨P1,o1,g1,s1⟩,c1⟩:=t2;have hr1:Room P1.g:=by rw [g1];exact hr.pop
  have ht1:zU P1.g P1.g.now:=by rw [g1];exact ht.pop
  rw [←g1] at hb;have HY:Hid (yT P.g=if (curF P1.g).caller<0 then (7,P.g) else (0,uH P1.g v)):=by unfold Hid yT;rw [←g1,HV.out]
  obtain⟨L,y,R,F,x,hs,hn⟩:=yS ht1;have hn:P1.now=L.length:=hn;have hP:=hs.fs;have hcur:=zAn hP hn;obtain⟨g,o,cap,hvf,hlt,d0,⟨d1,d1'⟩,hbl⟩:=o1.place hP;have hym:y∈P1.fs:=by rw [hP];simp
  have hgb:¬g=b:=fun e=>o1.dis.1 (e ▸ PState.mem_vfs hbl)
  have hbg:¬b=g:=fun e=>hgb e.symm
  obtain⟨c0,c0'⟩:=o1.c0;obtain⟨k1,k1'⟩:=o1.c1;rw [hn] at k1;rw [hvf] at c0;have HC:=eH hcur;have HVF:=eH hvf;have HB:=eH hb;have HP:=eH hP;have HN:=eH hn;have HO:=eH o1;have HC1:=eH c1;have HS1:=eH s1;have HR1:=eH hr1;clear hcur hvf hb hP hn hs ht1 o1 c1 s1 hr1 d0 hbl hym g1 hr ht hl HT HL;generalize hcl:y.caller=cl at *;have HCL:=eH hcl;clear hcl;by_cases hc:cl<0
  · have T:decide (cl<0)=true:=decide_eq_true hc
    have HYE:Hid (yT P.g=(7,P.g)):=by unfold Hid;rw [HY.out,HC.out,show y.g.caller=cl from HCL.out,if_pos hc]
    clear hc;refine kB (by kernel_rfl) (by kernel_rfl) ?_
    repeat (first
      | go_big_quiet_skip
      | (go_big_quiet_want
         unfold Oper.quiet;apply Exists.intro;refine⟨fun w' hw'=>?_,?_⟩
         focus
           have hcq:=Ext.keep hw';go_simp
           first
             | with_reducible rfl
         (try dsimp only [Act.put])
         (try simp only [xL,xM,xN])
         go_big_quiet_on))
    refine wpQuiet_nil ?_;intro wq hq;obtain⟨d1,d1'⟩:=Cx.ext (W:=w2) ⟨d1,d1'⟩ hq;obtain⟨c0,c0'⟩:=Cx.ext (W:=w2) ⟨c0,c0'⟩ hq;obtain⟨k1,k1'⟩:=Cx.ext (W:=w2) ⟨k1,k1'⟩ hq
    go_wp2_with fail
    go_ret;rw [HYE.out];exact⟨rfl,⟨HC1.out.trans (Chg.of_ext hq),fun h=>by cases h⟩⟩
  · have T:decide (cl<0)=false:=decide_eq_false hc
    have HYE:Hid (yT P.g=(0,uH P1.g v)):=by unfold Hid;rw [HY.out,HC.out,show y.g.caller=cl from HCL.out,if_neg hc]
    clear hc;refine kB (by kernel_rfl) (by kernel_rfl) ?_
    repeat (first
      | go_big_quiet_skip
      | (go_big_quiet_want
         unfold Oper.quiet;apply Exists.intro;refine⟨fun w' hw'=>?_,?_⟩
         focus
           have hcq:=Ext.keep hw';go_simp
           first
             | with_reducible rfl
         (try dsimp only [Act.put])
         (try simp only [xL,xM,xN])
         go_big_quiet_on))
    refine wpQuiet_nil ?_;intro wq hq;obtain⟨d1,d1'⟩:=Cx.ext (W:=w2) ⟨d1,d1'⟩ hq;obtain⟨c0,c0'⟩:=Cx.ext (W:=w2) ⟨c0,c0'⟩ hq;obtain⟨k1,k1'⟩:=Cx.ext (W:=w2) ⟨k1,k1'⟩ hq;obtain⟨P2,o2,g2,b2,c2⟩:=(HO.out.ext hq).back HP.out HN.out HVF.out;rw [HCL.out] at o2 g2 c2;have HTB:zU P2.g cl:=by
      rw [g2];rcases HB.out with h1 | h1
      · rw [HC.out,show y.g.caller=cl from HCL.out] at h1;exact absurd h1 (of_decide_eq_false T)
      · rw [HC.out,show y.g.caller=cl from HCL.out] at h1;exact h1
    have HR2:Room P2.g:=by rw [g2];exact HR1.out.caller _ _
    have HO2:=eH o2;have C3:=eH ((Chg.of_ext hq).trans c2);clear c2 o2
    go_wp2_with (first
      | (go_at_call 182;(with_reducible refine(zAs HO2.out cl HTB HR2 v hLI).mono ?_);rintro e w3 ⟨rfl,t3⟩))
    go_ret;rw [HYE.out];refine⟨rfl,Did.of (Turn.step HC1.out HS1.out (Turn.step C3.out (fun k hk=>.inl ((b2 k).1 hk)) ?_))⟩;have e:uH P1.g v=kR P2.g cl v:=by unfold uH;rw [HC.out,g2,show y.g.caller=cl from HCL.out]
    rw [e];exact t3
theorem RowAt.cutF {α:Type} (f:α→List Value) {sz:Nat} (hf:∀y,(f y).length=sz) {W:World} {B cap:Nat} {a:Option Addr} {F:List α} {x:α} (h:RowAt W B sz (.slice a (F++[x]).length cap) (F++[x]).length ((F++[x]).flatMap f)):RowAt W B sz (.slice a F.length cap) F.length (F.flatMap f):=by
 obtain⟨hl,a',cap',e,h1,h2,h3⟩:=h;simp only [Value.slice.injEq] at e;obtain⟨rfl,-,rfl⟩:=e;rw [List.length_append,List.length_singleton] at h1;refine⟨zBu f hf F,_,_,rfl,by omega,h2,h3.imp id ?_⟩;rintro ⟨g,o,rfl,hb,hc,ht⟩;refine⟨g,o,rfl,hb,fun j hj=>?_,ht⟩;rw [hc j (by rw [List.length_append,List.length_singleton,Nat.add_mul];omega),List.flatMap_append,List.getElem?_append_left (by rw [zBu f hf];omega)]
theorem OwnS.fnodup {P:PState} {W:World} {B b:Nat} {L R:List PFiber} {y:PFiber} (h:OwnS W B b P) (hP:P.fs=L++y::R):y.bl.Nodup:=by
 have h1:=(List.nodup_cons.1 h.nodup).2;unfold PState.bl at h1;rw [hP,List.flatMap_append,List.flatMap_cons] at h1;exact(List.nodup_append.1 (List.nodup_append.1 (List.nodup_append.1 h1).2.1).2.1).1
theorem OwnS.dropTop {P:PState} {L R:List PFiber} {y:PFiber} {F:List PFrame} {x:PFrame} {W:World} {B b g o n cap gf og cf:Nat} (h:OwnS W B b P) (hs:Spot P L y R F x) (hv:P.vfs=.slice (some ⟨g,o,none⟩) n cap) (hf:y.vf=.slice (some ⟨gf,og,none⟩) (F++[x]).length cf) :
  OwnS (W.setCell ⟨g,o+L.length * 2,none⟩ (.slice (some ⟨gf,og,none⟩) F.length cf)) B b { P with fs:=L++⟨F,y.caller,.slice (some ⟨gf,og,none⟩) F.length cf⟩::R }∧Chg (·∈P.bl) W (W.setCell ⟨g,o+L.length * 2,none⟩ (.slice (some ⟨gf,og,none⟩) F.length cf)) ∧
  ∀k∈PState.bl { P with fs:=L++⟨F,y.caller,.slice (some ⟨gf,og,none⟩) F.length cf⟩::R },k∈P.bl:=by
 have hym:y∈P.fs:=by rw [hs.fs];simp
 have hy:=h.fs y hym;have hrow:=hy.row;rw [hs.fr,hf] at hrow;have hfew:=hy.few;rw [hs.fr] at hfew;have hrb:zB (.slice (some ⟨gf,og,none⟩) F.length cf)=zB y.vf:=by rw [hf];rfl
 have hbl:PFiber.bl ⟨F,y.caller,.slice (some ⟨gf,og,none⟩) F.length cf⟩=(zB y.vf).toList++F.flatMap PFrame.bl:=by unfold PFiber.bl;rw [hrb]
 have hbl2:y.bl=(zB y.vf).toList++F.flatMap PFrame.bl++x.bl:=by unfold PFiber.bl;rw [hs.fr];simp
 have hnd:=h.fnodup hs.fs;rw [hbl2] at hnd;have hsub:∀k∈PFiber.bl ⟨F,y.caller,.slice (some ⟨gf,og,none⟩) F.length cf⟩,k∈y.bl:=fun k hk=>by rw [hbl] at hk;rw [hbl2];exact List.mem_append.2 (.inl hk)
 obtain⟨h1,h2⟩:=h.setFrames (y':=⟨F,y.caller,.slice (some ⟨gf,og,none⟩) F.length cf⟩) hs.fs hv (W1:=W) (Chg.refl _ _) rfl
  ⟨hy.i,hrow.cutF frameF (fun _=>rfl),fun u hu=>hy.fr u (by rw [hs.fr];simp [show u∈F from hu]),by simp at hfew;show F.length≤1000;omega⟩ (by rw [hbl];exact(List.nodup_append.1 hnd).1) (fun k hk=>.inl (hsub k hk))
 refine⟨h1,h2,fun k hk=>?_⟩;unfold PState.bl at hk;simp only [List.flatMap_append,List.flatMap_cons,List.mem_append] at hk;rcases hk with (h3 | h3) | h3 | h3 | h3
 ·exact PState.mem_vfs (by simpa using h3)
 ·exact PState.mem_vo (by simpa using h3)
 ·obtain⟨z,hz,h4⟩:=List.mem_flatMap.1 h3;exact PState.mem_fs (y:=z) (by rw [hs.fs];simp [hz]) h4
 ·exact PState.mem_fs hym (hsub k h3)
 ·obtain⟨z,hz,h4⟩:=List.mem_flatMap.1 h3;exact PState.mem_fs (y:=z) (by rw [hs.fs];simp [hz]) h4
theorem given_any {P:PState} {w:World} {B b:Nat} (h:OwnS w B b P) (ht:zU P.g P.g.now) (hr:Room P.g) (ho:P.g.out.length<1000) (hb:vC P.g) :
    Calls Tryz.prog 185 #[.pointer (some ⟨b,0,none⟩)] w fun e w'=>e=.returned (.int .i64 (yX P.g).1)∧Did w w' B b P (yX P.g):=by
  obtain⟨hl,hb⟩:=hb;have hLI:=h.lastI ht hl;have H:=eH h;have HT:=eH ht;have HL:=eH hl;clear h;have RA:=zF;generalize hv:zR P.g=v at *;have HV:=eH hv;go_enter Tryz.func185,Tryz.ntmps185
  go_upto_region 2 with (first
    | (go_at_call 183;(with_reducible refine(vI H.out HT.out HL.out).mono ?_);rintro e w2 ⟨rfl,t2⟩;rw [HV.out]))
  clear hv;obtain⟨⟨P1,o1,g1,s1⟩,c1⟩:=t2;have hr1:Room P1.g:=by rw [g1];exact hr.pop
  have ht1:zU P1.g P1.g.now:=by rw [g1];exact ht.pop
  have ho1:P1.g.out.length<1000:=by rw [g1];exact ho
  rw [←g1] at hb;have HY:Hid (yX P.g=if 0<(curF (kD P1.g)).frames.length then (0,kR (kD P1.g) P1.g.now v) else if (curF (kD P1.g)).caller<0 then putG { kD P1.g with now := -1 } v else (0,uH (kD P1.g) v)):=by
    unfold Hid yX;rw [←g1,HV.out,show P.g.now=P1.g.now from by rw [g1];rfl]
  obtain⟨L,y,R,F,x,hs,hn⟩:=yS ht1;have hn:P1.now=L.length:=hn;have hP:=hs.fs;obtain⟨g,o,cap,hvf,hlt,d0,-,hbl⟩:=o1.place hP;obtain⟨gf,og,cf,hyf,hcf,-,-,-,-,-,-⟩:=o1.spot hs;have hym:y∈P1.fs:=by rw [hP];simp
  have hgb:¬g=b:=fun e=>o1.dis.1 (e ▸ PState.mem_vfs hbl)
  have hbg:¬b=g:=fun e=>hgb e.symm
  have hfr:(F++[x]).length≤1000:=by
    have:=(o1.fs y hym).few
    rwa [hs.fr] at this
  have hlen:(F++[x]).length=F.length+1:=by simp
  have hmN:F.length<(F++[x]).length:=by omega
  have KK:IntKind.i64.wrap (((F++[x]).length:Int) - 1)=(F.length:Int):=by
    have e:(((F++[x]).length:Int) - 1)=(F.length:Int):=by omega
    rw [e];exact IntWalk.i64_in _ (by omega)
  obtain⟨c0,c0'⟩:=o1.c0;obtain⟨k1,k1'⟩:=o1.c1;rw [hn] at k1;rw [hvf] at c0;rw [hyf] at d0;obtain⟨d0,d0'⟩:=d0;have HVF:=eH hvf;have HYF:=eH hyf;have HB:=eH hb;have HP:=eH hP;have HN:=eH hn;have HS:=eH hs;have HO:=eH o1;have HC1:=eH c1;have HS1:=eH s1;have HR1:=eH hr1;clear hvf hyf hb hP hn hs ht1 o1 c1 s1 hr1 hbl hym g1 hr ht hl HT HL hlen ho;generalize hN:(F++[x]).length=N at *;have HNN:=eH hN;clear hN;refine kB (by kernel_rfl) (by kernel_rfl) ?_
  repeat (first
    | go_big_quiet_skip
    | (go_big_quiet_want
       unfold Oper.quiet;apply Exists.intro;refine⟨fun w' hw'=>?_,?_⟩
       focus
         have hcq:=Ext.keep hw';go_simp
         first
           | with_reducible rfl
       (try dsimp only [Act.put])
       (try simp only [xL,xM,xN])
       go_big_quiet_on))
  refine wpQuiet_nil ?_;intro wq hq;obtain⟨d0,d0'⟩:=Cx.ext (W:=w2) ⟨d0,d0'⟩ hq;obtain⟨c0,c0'⟩:=Cx.ext (W:=w2) ⟨c0,c0'⟩ hq;obtain⟨k1,k1'⟩:=Cx.ext (W:=w2) ⟨k1,k1'⟩ hq
  go_upto_region 3 with fail
  go_cut [29] (fun _ wr=>OwnS wr B b { P1 with fs:=L++⟨F,y.caller,.slice (some ⟨gf,og,none⟩) F.length cf⟩::R }∧Chg (·∈b::P1.bl) wq wr)
  case first =>
    go_region
    go_wp2_with fail
    go_meet
    have h9:=(HO.out.ext hq).dropTop HS.out HVF.out (by rw [HNN.out];exact HYF.out);exact⟨h9.1.ext (eR _).drew,(h9.2.1.mono (fun k _ hk=>List.mem_cons_of_mem _ hk)).drew⟩
  case rest =>
    rename World=>w3
    obtain⟨o3,c3⟩:=hcut;have b3:∀k∈PState.bl { P1 with fs:=L++⟨F,y.caller,.slice (some ⟨gf,og,none⟩) F.length cf⟩::R },k∈P1.bl∨w2.heap.size≤k:=fun k hk=>.inl (((HO.out.ext hq).dropTop HS.out HVF.out (by rw [HNN.out];exact HYF.out)).2.2 k hk)
    have c4:=(Chg.of_ext hq).trans c3;have hg3:PState.g { P1 with fs:=L++⟨F,y.caller,.slice (some ⟨gf,og,none⟩) F.length cf⟩::R }=kD P1.g:=by
      unfold kD;refine(uF HP.out (n:=P1.g.now) HN.out ?_).symm;unfold PFiber.g;simp [HS.out.fr]
    have hf3:PState.fs { P1 with fs:=L++⟨F,y.caller,.slice (some ⟨gf,og,none⟩) F.length cf⟩::R }=L++⟨F,y.caller,.slice (some ⟨gf,og,none⟩) F.length cf⟩::R:=rfl;have hn3:PState.now { P1 with fs:=L++⟨F,y.caller,.slice (some ⟨gf,og,none⟩) F.length cf⟩::R }=L.length:=HN.out;have hv3:∃n,PState.vfs { P1 with fs:=L++⟨F,y.caller,.slice (some ⟨gf,og,none⟩) F.length cf⟩::R }=.slice (some ⟨g,o,none⟩) n cap:=⟨_,HVF.out⟩
    have ho3:(PState.g { P1 with fs:=L++⟨F,y.caller,.slice (some ⟨gf,og,none⟩) F.length cf⟩::R }).out.length<1000:=ho1;have hr3:Room (PState.g { P1 with fs:=L++⟨F,y.caller,.slice (some ⟨gf,og,none⟩) F.length cf⟩::R }):=by rw [hg3];exact HR1.out.drop
    have hcur:curF (kD P1.g)=PFiber.g ⟨F,y.caller,.slice (some ⟨gf,og,none⟩) F.length cf⟩:=by rw [←hg3];exact zAn hf3 hn3
    have hfl:(curF (kD P1.g)).frames.length=F.length:=by rw [hcur];show (F.map PFrame.f).length=_;rw [List.length_map]
    have hcl:(curF (kD P1.g)).caller=y.caller:=by rw [hcur];rfl
    have hnow:P1.g.now=L.length:=HN.out;have hht:0<F.length→zU (kD P1.g) L.length:=fun h0=>by
      refine⟨by omega,?_,?_⟩
      · rw [←hg3]
        show (L.length:Int)<((L++_::R).map PFiber.g).length;simp;omega
      · rw [←hnow]
        show 0<(curF (kD P1.g)).frames.length;rw [hfl];exact h0
    have HB':=HB.out;rw [hfl] at HB';have HYL:=HY.out;rw [hfl,hcl] at HYL;generalize ({ P1 with fs:=L++⟨F,y.caller,.slice (some ⟨gf,og,none⟩) F.length cf⟩::R }:PState)=P3 at *;obtain⟨n3,hv3⟩:=hv3;obtain⟨g',o',cap',e3,-,d0,⟨d1,d1'⟩,-⟩:=o3.place hf3;rw [hv3] at e3;simp only [Value.slice.injEq,Option.some.injEq,Addr.mk.injEq] at e3;obtain⟨⟨rfl,rfl,-⟩,-,-⟩:=e3;obtain⟨d0,d0'⟩:=d0;obtain⟨k1,k1'⟩:=o3.c1;rw [hn3] at k1;have HO3:=eH o3;have HT3:=eH hht;have HB3:=eH HB';have HG3:=eH hg3;have HF3:=eH hf3;have HN3:=eH hn3;have HV3:=eH hv3;have HR3:=eH hr3;have HCL:=eH hcl;have HC4:=eH c4;have HB4:=eH b3;have HYY:=eH HYL;clear o3 hht HB' hg3 hf3 hn3 hv3 hr3 c4 b3 HYL hcur hfl hcl hnow c3 HY HB KK hmN;generalize hcl:y.caller=cl at *;have HCC:=eH hcl;generalize hm:F.length=m at *;clear hcl hm;by_cases h0:0<m
    · have T:decide ((m:Int) > 0)=true:=decide_eq_true (by omega)
      have T':decide (0<(m:Int))=true:=decide_eq_true (by omega);have HTT:zU P3.g (L.length:Int):=by rw [HG3.out];exact HT3.out h0
      have e:=HYY.out;rw [if_pos h0] at e;have HE:=eH e;clear e
      go_wp2_with (first
        | (go_at_call 182;(with_reducible refine(zAs HO3.out L.length HTT HR3.out v hLI).mono ?_);rintro e w5 ⟨rfl,t5⟩))
      go_ret;rw [HE.out];refine⟨rfl,Did.of (Turn.step HC1.out HS1.out (Turn.step HC4.out HB4.out ?_))⟩;rw [←HG3.out,show P1.g.now=L.length from HN.out];exact t5
    · have T:decide ((m:Int) > 0)=false:=decide_eq_false (by omega)
      have T':decide (0<(m:Int))=false:=decide_eq_false (by omega);by_cases hc:cl<0
      · have T2:decide (cl<0)=true:=decide_eq_true hc
        have e:=HYY.out;rw [if_neg h0,if_pos hc,←HG3.out] at e;have HE:=eH e;have ho4:(PState.g { P3 with now := -1 }).out.length<1000:=ho3;have HO4:=eH ((HO3.out).setNow (-1) (by unfold I64;decide));clear e hc
        go_wp2_with (first
          | (go_at_call 188;(with_reducible refine(put_any HO4.out ho4 v hLI).mono ?_);rintro e w5 ⟨rfl,t5⟩))
        go_ret;rw [HE.out];exact⟨rfl,Did.step HC1.out HS1.out (Did.step HC4.out HB4.out (Did.step (P1:={ P3 with now := -1 }) ((zO w3 b 1 (.int .i64 (-1))).mono (fun k _ hk=>by rw [show k=b from hk];exact List.mem_cons_self)) (fun k hk=>.inl hk) t5))⟩
      · have T2:decide (cl<0)=false:=decide_eq_false hc
        have e:=HYY.out;rw [if_neg h0,if_neg hc,←HG3.out] at e;have HE:=eH e;obtain⟨P4,o4,g4,b4,c4⟩:=(HO3.out).back HF3.out HN3.out HV3.out;dsimp only at o4 g4 c4;have HO4:=eH o4;have C4:=eH c4;have hcu:(curF P3.g).caller=cl:=by rw [HG3.out];exact HCL.out
        have HTB:zU P4.g cl:=by
          rw [g4];rcases HB3.out with h1 | h1
          · exact absurd h1 h0
          · rw [←HG3.out] at h1
            rcases h1 with h1 | h1
            · rw [hcu] at h1;exact absurd h1 hc
            · rw [hcu] at h1;exact h1
        have HR4:Room P4.g:=by rw [g4];exact HR3.out.caller _ _
        clear e o4 c4 hc
        go_wp2_with (first
          | (go_at_call 182;(with_reducible refine(zAs HO4.out cl HTB HR4 v hLI).mono ?_);rintro e w5 ⟨rfl,t5⟩))
        go_ret;rw [HE.out];refine⟨rfl,Did.of (Turn.step HC1.out HS1.out (Turn.step HC4.out HB4.out (Turn.step C4.out (fun k hk=>.inl ((b4 k).1 hk)) ?_)))⟩;have e:uH P3.g v=kR P4.g cl v:=by unfold uH;rw [hcu,g4]
        rw [e];exact t5
structure Near (s0 s:GState) (k:Nat):Prop where
 now:s.now=s0.now
 len:s.fibers.length=s0.fibers.length
 other:∀j,j<s0.fibers.length→j≠k→s.fibers.getD j default=s0.fibers.getD j default
 caller:(s.fibers.getD k default).caller=(s0.fibers.getD k default).caller
theorem Near.refl (s:GState) (k:Nat):Near s s k:=⟨rfl,rfl,fun _ _ _=>rfl,rfl⟩
structure At (s:GState) (k:Nat) (fs:List GFrame) (x:GFrame):Prop where
 now:s.now=k
 lt:k<s.fibers.length
 frames:(s.fibers.getD k default).frames=fs++[x]
theorem Near.fib {s0 s:GState} {k:Nat} (h:Near s0 s k) (hk:k<s0.fibers.length) {g:GFiber→GFiber} (hg:(g (s.fibers.getD k default)).caller=(s.fibers.getD k default).caller) {n:Int} (hn:n=k):Near s0 (kN s n g) k:=by
 subst hn;refine⟨h.now,(qK _ _ _).trans h.len,fun j hj hne=>?_,?_⟩
 ·rw [yG _ _ _ _ (by rw [h.len];exact hj),Int.toNat_natCast,if_neg (fun e=>hne e.symm)];exact h.other j hj hne
 ·rw [yG _ _ _ _ (by rw [h.len];exact hk),Int.toNat_natCast,if_pos rfl,hg];exact h.caller
theorem At.fib {s:GState} {k:Nat} {fs fs':List GFrame} {x x':GFrame} (h:At s k fs x) {g:GFiber→GFiber} (hg:∀f,f.frames=fs++[x]→(g f).frames=fs'++[x']) {n:Int} (hn:n=k):At (kN s n g) k fs' x':=by
 subst hn;refine⟨h.now,by rw [qK];exact h.lt,?_⟩;rw [yG _ _ _ _ h.lt,Int.toNat_natCast,if_pos rfl];exact hg _ h.frames
theorem Near.top {s0 s:GState} {k:Nat} (h:Near s0 s k) (hk:k<s0.fibers.length) (g:GFrame→GFrame) {n:Int} (hn:n=k):Near s0 (kT s n g) k:=h.fib hk rfl hn
theorem At.top {s:GState} {k:Nat} {fs:List GFrame} {x:GFrame} (h:At s k fs x) (g:GFrame→GFrame) {n:Int} (hn:n=k):At (kT s n g) k fs (g x) :=
 h.fib (fun f hf=>by
  show f.frames.modify (f.frames.length - 1) g=_;rw [hf];exact zFd fs x g _ rfl) hn
theorem At.curF {s:GState} {k:Nat} {fs:List GFrame} {x:GFrame} (h:At s k fs x):(curF s).frames=fs++[x]:=by
 unfold Proofs.YtpcjkfppacnkgaaGreatDoor.curF;rw [h.now,Int.toNat_natCast];exact h.frames
theorem At.curX {s:GState} {k:Nat} {fs:List GFrame} {x:GFrame} (h:At s k fs x):curX s=x:=by
 unfold Proofs.YtpcjkfppacnkgaaGreatDoor.curX vF;rw [h.curF,List.length_append,List.length_singleton,Nat.add_sub_cancel];exact yV
theorem At.hasTop {s:GState} {k:Nat} {fs:List GFrame} {x:GFrame} (h:At s k fs x):zU s s.now:=by
 have:=h.lt;refine⟨by rw [h.now];omega,by rw [h.now];omega,?_⟩;rw [h.now,Int.toNat_natCast,h.frames];simp
theorem At.last {s:GState} {k:Nat} {fs:List GFrame} {x:GFrame} (h:At s k fs x):zR s=x.stack.getD (x.stack.length - 1) 0:=by
 unfold zR;rw [h.curX]
structure Runs (p:List GFunc) (s:GState) (l:List Int) (k:Nat) (fs:List GFrame) (x:GFrame) (r:List Int):Prop where
 at_:At s k fs x
 line:l=s.now::r
 lk:Lk s.fibers (s.fibers.getD k default).caller r
 notin:s.now ∉ r
 zero:(0:Int)∈l
 on:OnL p fs x.func
 frame:qW p x=true
 full:zBs p x=true
theorem zBe {a:Int} {r:List Int} (h:vR (a::r)=true):(a::r).getLast (by simp)=0:=by
 unfold vR at h;rw [Bool.or_eq_true] at h;rcases h with h | h
 ·have:=of_decide_eq_true h;simp at this
 ·have:=of_decide_eq_true h;rw [List.getLast_eq_getElem];simpa [List.getD,List.getElem?_eq_getElem] using this
theorem Ok.runs {p:List GFunc} {s:GState} {l:List Int} (h:Ok p s l) (h0:0≤s.now):∃k fs x r,Runs p s l k fs x r:=by
 have hlk:=h.lk
 cases l with
 | nil=>exact absurd hlk (by show ¬s.now<0;omega)
 | cons a r =>
  obtain⟨ha,_,hn,hr⟩:=hlk;subst ha;obtain⟨k,hk⟩:=Int.eq_ofNat_of_zero_le h0;have hk:s.now=(k:Nat):=hk;have hlt:k<s.fibers.length:=by have:=h.now;omega
  have hz:(0:Int)∈s.now::r:=by
   have:=zBe h.ends;rw [←this];exact List.getLast_mem _
  have hf:=h.fib k hlt;rw [decide_eq_true hk.symm,decide_eq_true (show (k:Int)∈s.now::r by rw [←hk];simp)] at hf;have hne:(s.fibers.getD k default).frames≠[]:=by
   intro e;unfold jK at hf;rw [if_pos (by rw [e];rfl)] at hf
   cases hf
  obtain⟨fs,x,e,h1,h2,h3⟩:=zCk hf hne;unfold kM at hr;rw [hk,Int.toNat_natCast] at hr;refine⟨k,fs,x,r,⟨⟨hk,hlt,e⟩,rfl,hr,hn,hz,h1,h2,?_⟩⟩;unfold topB at h3;rw [if_pos rfl] at h3;exact h3
theorem zFt {p:List GFunc} {f:GFiber} {on:Bool} {x:GFrame} (h:zBs p x=true):topB p f on true x=true:=by unfold topB;rw [if_pos rfl];exact h
theorem Ok.near {p:List GFunc} {s0 s:GState} {l:List Int} {k:Nat} {fs:List GFrame} {x:GFrame} (h:Ok p s0 l) (hn:Near s0 s k) (ha:At s k fs x)
  (hz:(0:Int)∈l) (hl:OnL p fs x.func) (hx:qW p x=true) (hf:zBs p x=true) (hm:fs.length≤5) (ho:s.out.length≤30):Ok p s l:=by
 have hc:∀j,j<s0.fibers.length→(s.fibers.getD j default).caller=(s0.fibers.getD j default).caller:=fun j hj=>by
  by_cases e:j=k
  ·rw [e];exact hn.caller
  ·rw [hn.other j hj e]
 refine⟨h.prog,by rw [hn.len];exact h.few,ho,fun j hj=>?_,by rw [hn.len];exact h.pos,by rw [hn.now,hn.len];exact h.now,fun j hj=>?_,?_,h.ends,fun h0=>absurd hz h0,fun j hj=>?_⟩
 ·rw [hn.len] at hj;by_cases e:j=k
  ·rw [e,ha.frames];simp;omega
  ·rw [hn.other j hj e];exact h.frames j hj
 ·rw [hn.len] at hj ⊢;rw [hc j hj];exact h.callers j hj
 ·rw [hn.now];have hr:=vJ (fun k hk=>(h.callers k hk).2) h.lk h.now.2;refine zBq (fun y hy=>?_) h.lk;unfold kM;rw [hc _ (by have:=hr y hy;omega)]
 ·rw [hn.len] at hj;by_cases e:j=k
  ·subst e;rw [ha.now,decide_eq_true rfl];exact vW ha.frames hl hx (zFt hf)
  ·rw [hn.other j hj e,hn.now];exact h.fib j hj
end Go.Proofs.YtpcjkfppacnkgaaGreatDoor
