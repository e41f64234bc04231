/- Contracts and plain facts. -/
import Derived.Test.YtpcjkfppacnkgaaGreatDoorGPAV
set_option maxHeartbeats 4000000
set_option maxRecDepth 100000
section
namespace Go.Proofs.YtpcjkfppacnkgaaGreatDoor
open Go Go.RowKit
structure OwnR (W:World) (B:Nat) (P:PState):Prop where
 i:I64 P.now∧∀n∈P.out,I64 n
 row:RowAt W B 2 P.vfs P.fs.length (P.fs.flatMap kK)
 out:RowAt W B 1 P.vo P.out.length (ints P.out)
 fs:∀y∈P.fs,FiberO W B y
 few:P.fs.length≤1000∧P.out.length≤1000
 nodup:P.bl.Nodup
theorem OwnS.rows {W:World} {B b:Nat} {P:PState} (h:OwnS W B b P):OwnR W B P:=⟨h.i,h.row,h.out,h.fs,h.few,(List.nodup_cons.1 h.nodup).2⟩
theorem OwnR.ext {W W':World} {B:Nat} {P:PState} (h:OwnR W B P) (he:Ext W W'):OwnR W' B P :=
 ⟨h.i,h.row.ext he (by decide),h.out.ext he (by decide),fun y hy=>(h.fs y hy).chg (M:=fun _=>False) (Chg.of_ext he) (fun _ _ h=>h),h.few,h.nodup⟩
theorem FrameO.mono {W:World} {B B':Nat} {x:PFrame} (h:FrameO W B x) (hb:B'≤B):FrameO W B' x:=⟨h.i,h.l.mono hb,h.s.mono hb,h.few⟩
theorem FiberO.mono {W:World} {B B':Nat} {y:PFiber} (h:FiberO W B y) (hb:B'≤B):FiberO W B' y:=⟨h.i,h.row.mono hb,fun x hx=>(h.fr x hx).mono hb,h.few⟩
theorem OwnR.mono {W:World} {B B':Nat} {P:PState} (h:OwnR W B P) (hb:B'≤B):OwnR W B' P:=⟨h.i,h.row.mono hb,h.out.mono hb,fun y hy=>(h.fs y hy).mono hb,h.few,h.nodup⟩
theorem OwnR.lt {W:World} {B:Nat} {P:PState} (h:OwnR W B P):∀g∈P.bl,g<W.heap.size:=by
 intro g hg;unfold PState.bl at hg;rcases List.mem_append.1 hg with h1 | h1
 ·rcases List.mem_append.1 h1 with h2 | h2
  ·exact h.row.lt2 (by decide) g (by simpa using h2)
  ·exact h.out.lt2 (by decide) g (by simpa using h2)
 ·obtain⟨y,hy,h2⟩:=List.mem_flatMap.1 h1;exact(h.fs y hy).lt g h2
theorem OwnR.box {W:World} {B b:Nat} {P:PState} (h:OwnR W B P) (c0:Cx W b 0 P.vfs) (c1:Cx W b 1 (.int .i64 P.now)) (c2:Cx W b 2 P.vo) (hb:B≤b) (hn:b ∉ P.bl):OwnS W B b P :=
 ⟨c0,c1,c2,h.i,h.row,h.out,h.fs,hb,h.few,List.nodup_cons.2 ⟨hn,h.nodup⟩⟩
theorem Ints.srcI {w:World} {S:Nat→Prop} {v:Value} {l:List Int} (h:Ints w S v l):qL w 1 v l.length (ints l):=by have:=h.src;rwa [kU] at this
theorem qL.up {w w':World} {size:Nat} {x:Value} {m:Nat} {news:List Value} (h:qL w size x m news) (he:Ext w w'):qL w' size x m news:=by
 obtain⟨a,c,rfl,h1,h2,h3⟩:=h;refine⟨a,c,rfl,h1,h2,h3.imp id fun ⟨ad,ha,hc⟩=>⟨ad,ha,fun j u hj=>?_⟩⟩;have hcj:=hc j u hj;rw [Ext.keep he _ (by rw [hcj];rfl)];exact hcj
theorem zCs {W W':World} {base size n:Nat} {a:Option Addr} {v':Value} {xs:List Value} (h:kO W W' base size (.slice a 0 0) v' n xs):Ext W W':=h.2.1.ext (fun k _ e=>by cases a<;>simp [zB] at e)
theorem out_box {w1 Wb Wv:World} {base n bo:Nat} {a:Option Addr} {v1 u0 u1 u2:Value} {xs:List Value} (hE:Ext w1 Wb) (hb:w1.heap.size≤bo) (hbo:bo<Wb.heap.size) (hRV:kO Wb Wv base 1 (.slice a 0 0) v1 n xs) (q0:Cx Wv bo 0 u0) (q1:Cx Wv bo 1 u1) (q2:Cx Wv bo 2 u2) (x y z:Value) :
  Ext w1 (((Wv.setCell ⟨bo,0,none⟩ x).setCell ⟨bo,1,none⟩ y).setCell ⟨bo,2,none⟩ z)∧RowAt (((Wv.setCell ⟨bo,0,none⟩ x).setCell ⟨bo,1,none⟩ y).setCell ⟨bo,2,none⟩ z) base 1 v1 n xs∧zB v1≠some bo ∧
   Cx (((Wv.setCell ⟨bo,0,none⟩ x).setCell ⟨bo,1,none⟩ y).setCell ⟨bo,2,none⟩ z) bo 0 x∧Cx (((Wv.setCell ⟨bo,0,none⟩ x).setCell ⟨bo,1,none⟩ y).setCell ⟨bo,2,none⟩ z) bo 1 y∧Cx (((Wv.setCell ⟨bo,0,none⟩ x).setCell ⟨bo,1,none⟩ y).setCell ⟨bo,2,none⟩ z) bo 2 z:=by
 have hne:zB v1≠some bo:=fun e=>by
  rcases hRV.2.2 with h1 | h1
  ·rw [h1] at e;cases a<;>simp [zB] at e
  ·have:=h1 bo e;omega
 exact⟨(((hE.trans (zCs hRV)).setCell (p:=⟨bo,0,none⟩) hb _).setCell (p:=⟨bo,1,none⟩) hb _).setCell (p:=⟨bo,2,none⟩) hb _,
  hRV.1.chg (chg3 Wv bo x y z) (fun k hk e=>hne (by rw [hk];exact congrArg some e)) (by decide),hne,
  ((q0.set x).other (.inr (by decide)) y).other (.inr (by decide)) z,((q1.other (.inr (by decide)) x).set y).other (.inr (by decide)) z,((q2.other (.inr (by decide)) x).other (.inr (by decide)) y).set z⟩
structure BuildF (W:World) (base f5:Nat) (Y:PFiber):Prop where
 fo:FiberO W base Y
 nodup:Y.bl.Nodup
 c0:Cx W f5 0 Y.vf
 c1:Cx W f5 1 (.int .i64 Y.caller)
theorem zHd {M:Nat→Prop} {W W':World} {f5 x7:Nat} {u v0 v1 v2 v3:Value} (h:W.cell? ⟨f5,0,none⟩=some u∧W.cell? ⟨x7,0,none⟩=some v0∧W.cell? ⟨x7,1,none⟩=some v1∧W.cell? ⟨x7,2,none⟩=some v2∧W.cell? ⟨x7,3,none⟩=some v3) (hc:Chg M W W') (h5:¬M f5) (h7:¬M x7) :
  W'.cell? ⟨f5,0,none⟩=some u∧W'.cell? ⟨x7,0,none⟩=some v0∧W'.cell? ⟨x7,1,none⟩=some v1∧W'.cell? ⟨x7,2,none⟩=some v2∧W'.cell? ⟨x7,3,none⟩=some v3 :=
 ⟨Chg.cell hc h5 h.1,Chg.cell hc h7 h.2.1,Chg.cell hc h7 h.2.2.1,Chg.cell hc h7 h.2.2.2.1,Chg.cell hc h7 h.2.2.2.2⟩
theorem vB {W W0 W':World} {base size n:Nat} {a:Option Addr} {v':Value} {xs:List Value} (h:kO W W' base size (.slice a 0 0) v' n xs) (he:Ext W0 W):∀k,zB v'=some k→W0.heap.size≤k:=fun k hk=>by
 rcases h.2.2 with h1 | h1
 ·rw [h1] at hk;cases a<;>simp [zB] at hk
 ·exact Nat.le_trans he.size (h1 k hk)
theorem frame_g {Y:PFiber} {X:PFrame} {l:List GFrame} {c:Int} {v:Value} (h:Y.g=⟨l,c⟩):PFiber.g ⟨Y.fr++[X],Y.caller,v⟩=⟨l++[X.f],c⟩:=by
 unfold PFiber.g at h ⊢;simp only [GFiber.mk.injEq] at h ⊢;obtain⟨h1,h2⟩:=h;exact⟨by rw [List.map_append,h1];rfl,h2⟩
theorem fin_ext {wk wr W2 Wv3:World} {f5 n m:Nat} {v v3:Value} {xs ys:List Value} (hrow:RowAt wr (f5+1) 4 v m ys) (h0:Ext wk wr) (hE:Ext wr W2) (hb:wk.heap.size=f5) (hR:kO W2 Wv3 (f5+1) 4 v v3 n xs):Ext wk (Wv3.setCell ⟨f5,0,none⟩ v3) :=
 (Chg.ext_from (h0.trans hE) hR.2.1 (fun k hk=>by have:=hrow.le k hk;omega)).setCell (p:=⟨f5,0,none⟩) (Nat.le_of_eq hb) _
theorem BuildF.ge {W:World} {base f5:Nat} {Y:PFiber} (h:BuildF W base f5 Y):∀k∈Y.bl,base≤k:=fun k hk=>by
 unfold PFiber.bl at hk;rcases List.mem_append.1 hk with h1 | h1
 ·exact h.fo.row.le k (by simpa using h1)
 ·obtain⟨x,hx,h2⟩:=List.mem_flatMap.1 h1;unfold PFrame.bl at h2;rcases List.mem_append.1 h2 with h3 | h3
  ·exact(h.fo.fr x hx).l.le k (by simpa using h3)
  ·exact(h.fo.fr x hx).s.le k (by simpa using h3)
theorem frame_fin {wr wx Wv1 Wv2 Wv3:World} {base f5:Nat} {Y:PFiber} {xf:GFrame} {v1 v2 v3:Value} {tf:TypeId} (h:BuildF wr base f5 Y) (hE:Ext wr wx) (hE2:Ext wx Wv2) (hE12:Ext Wv1 Wv2) (hf5:f5<base)
  (hr1:RowAt Wv1 base 1 v1 xf.locals.length (ints xf.locals)) (hr2:RowAt Wv2 base 1 v2 xf.stack.length (ints xf.stack)) (hb1:∀k,zB v1=some k→wx.heap.size≤k) (hb2:∀k,zB v2=some k→wx.heap.size≤k) (hb12:∀k,zB v2=some k→Wv1.heap.size≤k)
  (hI:I64 xf.func∧I64 xf.at_∧(∀n∈xf.locals,I64 n)∧∀n∈xf.stack,I64 n) (hl:xf.locals.length≤900) (hs:xf.stack.length≤900)
  (hR:kO (Wv2.alloc (.cells #[.int .i64 xf.func,.int .i64 xf.at_,v1,v2] tf)) Wv3 base 4 Y.vf v3 (Y.fr.length+1) (Y.fr.flatMap frameF++[.int .i64 xf.func,.int .i64 xf.at_,v1,v2])) (hlen:Y.fr.length<1000) :
  BuildF (Wv3.setCell ⟨f5,0,none⟩ v3) base f5 ⟨Y.fr++[⟨xf,v1,v2⟩],Y.caller,v3⟩:=by
 obtain⟨r1,r2,r3⟩:=hR;have hEm:Ext wr (Wv2.alloc (.cells #[.int .i64 xf.func,.int .i64 xf.at_,v1,v2] tf)):=(hE.trans hE2).alloc _;have hold:∀k,zB Y.vf=some k→k<wr.heap.size:=h.fo.row.lt2 (by decide);have hlt:=h.fo.lt;have hge:∀k∈Y.bl,base≤k:=fun k hk=>by
  unfold PFiber.bl at hk;rcases List.mem_append.1 hk with h1 | h1
  ·exact h.fo.row.le k (by simpa using h1)
  ·obtain⟨x,hx,h2⟩:=List.mem_flatMap.1 h1;unfold PFrame.bl at h2;rcases List.mem_append.1 h2 with h3 | h3
   ·exact(h.fo.fr x hx).l.le k (by simpa using h3)
   ·exact(h.fo.fr x hx).s.le k (by simpa using h3)
 have hne12:∀k,zB v1=some k→zB v2≠some k:=fun k h1 h2=>by
  have:=hr1.lt2 (by decide) k h1;have:=hb12 k h2;omega
 have hwx:=hE.size;have hv3:∀k,zB v3=some k→zB Y.vf=some k∨Wv2.heap.size<k:=fun k hk=>by
  rcases r3 with h1 | h1
  ·exact .inl (h1 ▸ hk)
  ·have:=h1 k hk;simp at this;exact .inr (by omega)
 have hn3:zB v3≠some f5:=fun e=>by
  rcases hv3 f5 e with h1 | h1
  ·have:=h.fo.row.le f5 h1;omega
  ·have h2:=h.c0.lt;have h3:=hE2.size;omega
 have hcl:=zO Wv3 f5 0 v3;have hXO:FrameO (Wv3.setCell ⟨f5,0,none⟩ v3) base ⟨xf,v1,v2⟩:=by
  have k1:=hE12.size;refine⟨hI,?_,?_,⟨by show xf.locals.length≤1000;omega,by show xf.stack.length≤1000;omega⟩⟩
  ·refine(((hr1.ext hE12 (by decide)).ext ((eR _).alloc _) (by decide)).chg r2 (fun k hk e=>?_) (by decide)).chg hcl (fun k hk e=>?_) (by decide)
   ·have:=hb1 k hk;have:=hold k e;omega
   ·have:=hr1.le k hk;have:k=f5:=e;omega
  ·refine((hr2.ext ((eR _).alloc _) (by decide)).chg r2 (fun k hk e=>?_) (by decide)).chg hcl (fun k hk e=>?_) (by decide)
   ·have:=hb2 k hk;have:=hold k e;omega
   ·have:=hr2.le k hk;have:k=f5:=e;omega
 have hYO:∀u∈Y.fr,FrameO (Wv3.setCell ⟨f5,0,none⟩ v3) base u:=fun u hu=>by
  have hub:∀k∈u.bl,k∈Y.bl∧zB Y.vf≠some k:=fun k hk=>by
   have hnd:=h.nodup;unfold PFiber.bl at hnd ⊢;have h2:k∈Y.fr.flatMap PFrame.bl:=List.mem_flatMap.2 ⟨u,hu,hk⟩;exact⟨List.mem_append.2 (.inr h2),fun e=>(List.nodup_append.1 hnd).2.2 k (by rw [e];simp) k h2 rfl⟩
  refine(((h.fo.fr u hu).chg (M:=fun _=>False) (Chg.of_ext hEm) (fun _ _ h=>h)).chg r2 (fun k hk e=>(hub k hk).2 e)).chg hcl (fun k hk e=>?_);have:=hge k (hub k hk).1;have:k=f5:=e;omega
 have hbl:PFiber.bl ⟨Y.fr++[⟨xf,v1,v2⟩],Y.caller,v3⟩=(zB v3).toList++(Y.fr.flatMap PFrame.bl++((zB v1).toList++(zB v2).toList)):=by unfold PFiber.bl;simp [PFrame.bl]
 refine⟨⟨h.fo.i,?_,fun u hu=>?_,?_⟩,?_,?_,?_⟩
 ·have e:(Y.fr++[(⟨xf,v1,v2⟩:PFrame)]).flatMap frameF=Y.fr.flatMap frameF++[.int .i64 xf.func,.int .i64 xf.at_,v1,v2]:=by rw [List.flatMap_append];rfl
  show RowAt _ base 4 v3 (Y.fr++[(⟨xf,v1,v2⟩:PFrame)]).length ((Y.fr++[(⟨xf,v1,v2⟩:PFrame)]).flatMap frameF);rw [e,List.length_append,List.length_singleton];exact r1.chg hcl (fun k hk e=>hn3 (by rw [hk];exact congrArg some e)) (by decide)
 ·have hu':u∈Y.fr++[⟨xf,v1,v2⟩]:=hu;rcases List.mem_append.1 hu' with h1 | h1
  ·exact hYO u h1
  ·rw [List.mem_singleton.1 h1];exact hXO
 ·show (Y.fr++[(⟨xf,v1,v2⟩:PFrame)]).length≤1000;rw [List.length_append,List.length_singleton];omega
 ·rw [hbl];have hnd:=h.nodup;unfold PFiber.bl at hnd;obtain⟨_,n2,n3⟩:=List.nodup_append.1 hnd;have hfl:∀k∈Y.fr.flatMap PFrame.bl,k<wr.heap.size:=fun k hk=>hlt k (by unfold PFiber.bl;exact List.mem_append.2 (.inr hk))
  have hvv:∀k∈(zB v1).toList++(zB v2).toList,wx.heap.size≤k∧k<Wv2.heap.size:=fun k hk=>by
   rcases List.mem_append.1 hk with h1 | h1
   ·have h1':zB v1=some k:=by simpa using h1
    exact⟨hb1 k h1',Nat.lt_of_lt_of_le (hr1.lt2 (by decide) k h1') hE12.size⟩
   ·have h1':zB v2=some k:=by simpa using h1
    exact⟨hb2 k h1',hr2.lt2 (by decide) k h1'⟩
  rw [List.nodup_append];refine⟨by cases zB v3<;>simp,?_,fun a ha c hc e=>?_⟩
  ·rw [List.nodup_append];refine⟨n2,?_,fun a ha c hc e=>?_⟩
   ·rw [List.nodup_append];refine⟨by cases zB v1<;>simp,by cases zB v2<;>simp,fun a ha c hc e=>?_⟩;subst e;exact hne12 a (by simpa using ha) (by simpa using hc)
   ·subst e;have:=hfl a ha;have:=(hvv a hc).1;omega
  ·subst e;have ha':zB v3=some a:=by simpa using ha
   rcases List.mem_append.1 hc with h1 | h1
   ·rcases hv3 a ha' with h2 | h2
    ·exact n3 a (by rw [h2];simp) a h1 rfl
    ·have:=hfl a h1;have:=hE2.size;omega
   ·have h4:=hvv a h1;rcases hv3 a ha' with h2 | h2
    ·have:=hold a h2;omega
    ·omega
 ·exact(((h.c0.ext hEm).chg r2 (fun e=>by have:=h.fo.row.le f5 e;omega))).set _
 ·exact(((h.c1.ext hEm).chg r2 (fun e=>by have:=h.fo.row.le f5 e;omega))).other (.inr (by decide)) _
theorem fiber_g {P:PState} {Y:PFiber} {l:List GFiber} {f:GFiber} {n:Int} {out:List Int} {v:Value} (h:P.g=⟨l,n,out⟩) (hy:Y.g=⟨f.frames,f.caller⟩):PState.g { P with fs:=P.fs++[Y],vfs:=v }=⟨l++[f],n,out⟩:=by
 unfold PState.g at h ⊢;simp only [GState.mk.injEq] at h ⊢;obtain⟨h1,h2,h3⟩:=h;exact⟨by rw [List.map_append,h1];simp [hy],h2,h3⟩
theorem fiber_fin {wk wr Wv:World} {B o3 f5:Nat} {P:PState} {Y:PFiber} {v1:Value} (h:OwnS wk B o3 P) (hY:BuildF wr (f5+1) f5 Y) (hf5:wk.heap.size=f5) (hE:Ext wk wr) (tb:TypeId)
  (hR:kO (wr.alloc (.cells #[Y.vf,.int .i64 Y.caller] tb)) Wv B 2 P.vfs v1 (P.fs.length+1) (P.fs.flatMap kK++[Y.vf,.int .i64 Y.caller])) (hl:P.fs.length<1000) :
  OwnS (Wv.setCell ⟨o3,0,none⟩ v1) B o3 { P with fs:=P.fs++[Y],vfs:=v1 }:=by
 obtain⟨r1,r2,r3⟩:=hR;have hold:∀k,zB P.vfs=some k→k<wk.heap.size:=fun k hk=>h.lt k (List.mem_cons_of_mem _ (PState.mem_vfs hk))
 have hEm:Ext wk (wr.alloc (.cells #[Y.vf,.int .i64 Y.caller] tb)):=hE.alloc _;have hge:=hY.ge;have hlt:=hY.fo.lt;have hB:B≤wk.heap.size:=Nat.le_trans h.le (Nat.le_of_lt h.c0.lt);refine(h.addFiber (y:=Y) (v1:=v1) ((Chg.of_ext hEm).trans r2) ?_ ?_ hl (r3.imp id fun e k hk=>Nat.le_trans hEm.size (e k hk)) hY.nodup fun k hk=>⟨by have:=hge k hk;omega,fun e=>?_⟩).1
 ·rw [List.length_append,List.length_singleton,List.flatMap_append];exact r1
 ·refine((hY.fo.mono (by omega)).chg (M:=fun _=>False) (Chg.of_ext ((eR wr).alloc _)) (fun _ _ h=>h)).chg r2 (fun k hk e=>?_);have:=hold k e;have:=hge k hk;omega
 ·rcases r3 with h1 | h1
  ·have:=hold k (h1 ▸ e);have:=hge k hk;omega
  ·have h2:=h1 k e;have h3:=hlt k hk;simp at h2;omega
theorem zHs (s:GState) (vs:Value) (T:Nat→Prop) (w:World) (hs:zW w T vs s) (hf:FewS s) :
  Calls Tryz.prog 118 #[vs] w fun e w'=>(∃P,e=.returned (.agg #[P.vfs,.int .i64 P.now,P.vo])∧OwnR w' w.heap.size P∧P.g=s)∧Ext w w':=by
 obtain⟨fs,nw,out⟩:=s;have HSV:=eH hs;obtain⟨xf,xo,rfl,hfs,inow,ho⟩:=hs;have hIO:=ho.i64;have HFS:=eH hfs;have HO:=eH ho;obtain⟨af,cf,rfl,hcf,hbf,_⟩:=hfs;obtain⟨ao,co,rfl,hco,hbo,_⟩:=ho;obtain⟨i0,hi0,hz0,hz1,hz2⟩:=info_parts vM;obtain⟨i1,hi1,hz3,hz4,hz5⟩:=info_parts infoFr;obtain⟨i2,hi2,hz6,hz7,hz8⟩:=info_parts infoFb;have RA:=zF;obtain⟨hf1,hf2,hf3⟩:=hf;have hf1:fs.length≤900:=hf1;have hf2:out.length≤900:=hf2;have hf3:∀f∈fs,FewF f:=hf3;have HF3:=eH hf3;clear hf3;go_enter Tryz.func118,Tryz.ntmps118
 go_upto_region 1 with fail
 have HSRC:=eH (HO.out).srcI;have s1:((w.alloc (.cells #[.slice af fs.length cf,.int .i64 nw,.slice ao out.length co] 58)).alloc (.cells #[.slice none 0 0,.int .i64 0,.slice none 0 0] 58)).cell? ⟨w.heap.size,1,none⟩=some (.int .i64 nw):=by simp
 have s2:((w.alloc (.cells #[.slice af fs.length cf,.int .i64 nw,.slice ao out.length co] 58)).alloc (.cells #[.slice none 0 0,.int .i64 0,.slice none 0 0] 58)).cell? ⟨w.heap.size,2,none⟩=some (.slice ao out.length co):=by simp
 have hE1:Ext w ((w.alloc (.cells #[.slice af fs.length cf,.int .i64 nw,.slice ao out.length co] 58)).alloc (.cells #[.slice none 0 0,.int .i64 0,.slice none 0 0] 58)):=by ((repeat first|assumption|exact eR _|exact And.left (by assumption)|apply eA|apply eD|apply eN|refine eS ?_ (by simp<;>omega) _|refine eT ?_ (by assumption));done)
 have s0:((w.alloc (.cells #[.slice af fs.length cf,.int .i64 nw,.slice ao out.length co] 58)).alloc (.cells #[.slice none 0 0,.int .i64 0,.slice none 0 0] 58)).cell? ⟨w.heap.size,0,none⟩=some (.slice af fs.length cf):=by simp
 have hbs:w.heap.size+2≤((w.alloc (.cells #[.slice af fs.length cf,.int .i64 nw,.slice ao out.length co] 58)).alloc (.cells #[.slice none 0 0,.int .i64 0,.slice none 0 0] 58)).heap.size:=by simp
 have hs0:(w.alloc (.cells #[.slice af fs.length cf,.int .i64 nw,.slice ao out.length co] 58)).heap.size=w.heap.size+1:=Array.size_push _;have r10:=Cx.new (w.alloc (.cells #[.slice af fs.length cf,.int .i64 nw,.slice ao out.length co] 58)) [.slice none 0 0,.int .i64 0,.slice none 0 0] 58 (j:=0) rfl;have r11:=Cx.new (w.alloc (.cells #[.slice af fs.length cf,.int .i64 nw,.slice ao out.length co] 58)) [.slice none 0 0,.int .i64 0,.slice none 0 0] 58 (j:=1) rfl;have r12:=Cx.new (w.alloc (.cells #[.slice af fs.length cf,.int .i64 nw,.slice ao out.length co] 58)) [.slice none 0 0,.int .i64 0,.slice none 0 0] 58 (j:=2) rfl;rw [hs0] at r10 r11 r12;generalize ((w.alloc (.cells #[.slice af fs.length cf,.int .i64 nw,.slice ao out.length co] 58)).alloc (.cells #[.slice none 0 0,.int .i64 0,.slice none 0 0] 58))=w1 at *;have HE1:=eH hE1;have HBS:=eH hbs;have HR1:=eH (⟨r10,r11,r12⟩:_∧_∧_);clear hs0 r10 r11 r12
 go_cut [3] (fun u3 wr=>∃o3 v1,u3=.pointer (some ⟨o3,0,none⟩)∧Ext w1 wr∧w1.heap.size≤o3∧RowAt wr w1.heap.size 1 v1 out.length (ints out)∧zB v1≠some o3∧Cx wr o3 0 (.slice none 0 0)∧Cx wr o3 1 (.int .i64 nw)∧Cx wr o3 2 v1)
 case first =>
  refine yW (fun w'=>w'.cell? ⟨w.heap.size,1,none⟩=some (.int .i64 nw)∧w'.cell? ⟨w.heap.size,2,none⟩=some (.slice ao out.length co)) 8 [0,1,3,4] 5 (by kernel_rfl) (by kernel_rfl) (fun _ _ _ _ _ h=>h) ⟨s1,s2⟩ ?_;have hsz1:(w1.alloc (.cells #[] 3)).heap.size=w1.heap.size+1:=Array.size_push _;have qb0:=Cx.new (w1.alloc (.cells #[] 3)) [.slice none 0 0,.int .i64 0,.slice none 0 0] 58 (j:=0) rfl;have qb1:=Cx.new (w1.alloc (.cells #[] 3)) [.slice none 0 0,.int .i64 0,.slice none 0 0] 58 (j:=1) rfl;have qb2:=Cx.new (w1.alloc (.cells #[] 3)) [.slice none 0 0,.int .i64 0,.slice none 0 0] 58 (j:=2) rfl;rw [hsz1] at qb0 qb1 qb2;have QB:=eH (⟨qb0,qb1,qb2⟩:_∧_∧_);have QC:=eH (⟨Cx.new w1 [.slice none 0 0,.int .i64 0,.slice none 0 0] 58 (j:=0) rfl,Cx.new w1 [.slice none 0 0,.int .i64 0,.slice none 0 0] 58 (j:=1) rfl,Cx.new w1 [.slice none 0 0,.int .i64 0,.slice none 0 0] 58 (j:=2) rfl⟩:_∧_∧_);clear qb0 qb1 qb2;have S2:∀W,Ext w1 W→W.cell? ⟨w.heap.size,1,none⟩=some (.int .i64 nw)∧W.cell? ⟨w.heap.size,2,none⟩=some (.slice ao out.length co):=fun W h=>⟨eC h s1,eC h s2⟩
  (try simp only [zH,List.filterMap_cons,List.filterMap_nil,xO,xP])
  repeat (
   refine zN (by rfl) ?_;apply Exists.intro;refine⟨fun w' hw'=>?_,?_⟩
   focus
    (try dsimp only at hw')
    go_split_ands;go_simp
    (try with_reducible rfl)
   (try dsimp only [Act.put])
   (try simp only [xL,xM,xN]))
  refine zL ?_;refine yB 2 7 (by kernel_rfl) rfl rfl ?_ ?_
  ·go_wp2_with fail
   refine zJ (S2 _ (by ((repeat first|assumption|exact eR _|exact And.left (by assumption)|apply eA|apply eD|apply eN|refine eS ?_ (by simp<;>omega) _|refine eT ?_ (by assumption));done))) ?_;refine yB 5 7 (by kernel_rfl) rfl rfl ?_ ?_
   ·refine zE rfl _ _ 30 rfl w1.heap.size 3 i0 (.int .i64 0) 1 8 Tryz.underlying30 hi0 hz0 hz1 hz2 rfl (by decide) _ _ _ rfl (RowAt.nil _ _ _ _) out.length (ints out) (qL.up HSRC.out (HE1.out.trans (by ((repeat first|assumption|exact eR _|exact And.left (by assumption)|apply eA|apply eD|apply eN|refine eS ?_ (by simp<;>omega) _|refine eT ?_ (by assumption));done)))) (by unfold maxLen;omega) (by omega) (by exact Ext.size (by ((repeat first|assumption|exact eR _|exact And.left (by assumption)|apply eA|apply eD|apply eN|refine eS ?_ (by simp<;>omega) _|refine eT ?_ (by assumption));done))) ?_;intro v1 Wv1 rv1;have RV:=eH rv1;have hxv:=zCs rv1;obtain⟨a9,cap9,rfl,_,_⟩:=rv1.1.shape;clear rv1
    go_wp2_with fail
    refine zJ (S2 Wv1 (by ((repeat first|assumption|exact eR _|exact And.left (by assumption)|apply eA|apply eD|apply eN|refine eS ?_ (by simp<;>omega) _|refine eT ?_ (by assumption));done))) ?_;refine kE 6 (by kernel_rfl) (by kernel_rfl) (by kernel_rfl) (by kernel_rfl) (by kernel_rfl) (fun _ _ _ _ _ h=>h) rfl (by rfl) (S2 _ (by ((repeat first|assumption|exact eR _|exact And.left (by assumption)|apply eA|apply eD|apply eN|refine eS ?_ (by simp<;>omega) _|refine eT ?_ (by assumption));done))) ?_;apply Exists.intro;refine⟨fun w' hw'=>?_,?_⟩
    focus
     go_simp
     (try with_reducible rfl)
    dsimp only [Act.put];simp only [xL];refine zG 7 (by kernel_rfl) rfl ?_
    go_wp2_with fail
    refine zJ (S2 _ (by ((repeat first|assumption|exact eR _|exact And.left (by assumption)|apply eA|apply eD|apply eN|refine eS ?_ (by simp<;>omega) _|refine eT ?_ (by assumption));done))) ?_;refine zG 8 (by kernel_rfl) rfl ?_
    go_wp2_with fail
    refine qM rfl (by kernel_rfl) ?_
    go_wp2_with fail
    go_meet
    have hR:=RV.out;rw [Nat.zero_add,List.nil_append] at hR;exact⟨_,_,rfl,by ((repeat first|assumption|exact eR _|exact And.left (by assumption)|apply eA|apply eD|apply eN|refine eS ?_ (by simp<;>omega) _|refine eT ?_ (by assumption));done),Ext.size (show Ext w1 Wv1 by ((repeat first|assumption|exact eR _|exact And.left (by assumption)|apply eA|apply eD|apply eN|refine eS ?_ (by simp<;>omega) _|refine eT ?_ (by assumption));done)),hR.1.ext ((eR _).alloc _) (by decide),fun e=>by have:=hR.1.lt2 (by decide) _ e;omega,Cx.new Wv1 [.slice none 0 0,.int .i64 nw,.slice a9 out.length cap9] _ (j:=0) rfl,Cx.new Wv1 [.slice none 0 0,.int .i64 nw,.slice a9 out.length cap9] _ (j:=1) rfl,Cx.new Wv1 [.slice none 0 0,.int .i64 nw,.slice a9 out.length cap9] _ (j:=2) rfl⟩
   ·go_wp2_with fail
    refine zJ (S2 _ (by ((repeat first|assumption|exact eR _|exact And.left (by assumption)|apply eA|apply eD|apply eN|refine eS ?_ (by simp<;>omega) _|refine eT ?_ (by assumption));done))) ?_;refine zG 5 (by kernel_rfl) rfl ?_;refine zE rfl _ _ 30 rfl w1.heap.size 3 i0 (.int .i64 0) 1 8 Tryz.underlying30 hi0 hz0 hz1 hz2 rfl (by decide) _ _ _ rfl (RowAt.nil _ _ _ _) out.length (ints out) (qL.up HSRC.out (HE1.out.trans (by ((repeat first|assumption|exact eR _|exact And.left (by assumption)|apply eA|apply eD|apply eN|refine eS ?_ (by simp<;>omega) _|refine eT ?_ (by assumption));done)))) (by unfold maxLen;omega) (by omega) (by exact Ext.size (by ((repeat first|assumption|exact eR _|exact And.left (by assumption)|apply eA|apply eD|apply eN|refine eS ?_ (by simp<;>omega) _|refine eT ?_ (by assumption));done))) ?_;intro v1 Wv1 rv1;have RV:=eH rv1;have hxv:=zCs rv1;obtain⟨a9,cap9,rfl,_,_⟩:=rv1.1.shape;clear rv1
    go_wp2_with fail
    refine zJ (S2 Wv1 (by ((repeat first|assumption|exact eR _|exact And.left (by assumption)|apply eA|apply eD|apply eN|refine eS ?_ (by simp<;>omega) _|refine eT ?_ (by assumption));done))) ?_;refine zG 6 (by kernel_rfl) rfl ?_
    go_wp2_with fail
    refine zJ (S2 _ (by ((repeat first|assumption|exact eR _|exact And.left (by assumption)|apply eA|apply eD|apply eN|refine eS ?_ (by simp<;>omega) _|refine eT ?_ (by assumption));done))) ?_;obtain⟨⟨q0,q0'⟩,⟨q1,q1'⟩,⟨q2,q2'⟩⟩:=(⟨(QB.out.1.ext (eR _).drew).ext hxv,(QB.out.2.1.ext (eR _).drew).ext hxv,(QB.out.2.2.ext (eR _).drew).ext hxv⟩:_∧_∧_)
    refine zG 8 (by kernel_rfl) rfl ?_
    go_wp2_with fail
    refine qM rfl (by kernel_rfl) ?_
    go_wp2_with fail
    go_meet
    have hR:=RV.out;rw [Nat.zero_add,List.nil_append] at hR;obtain⟨z1,z2,z3,z4,z5,z6⟩:=out_box (w1:=w1) (by ((repeat first|assumption|exact eR _|exact And.left (by assumption)|apply eA|apply eD|apply eN|refine eS ?_ (by simp<;>omega) _|refine eT ?_ (by assumption));done)) (bo:=w1.heap.size+1) (by omega) (by show _<((w1.alloc (.cells #[] 3)).alloc _).heap.size;simp) hR ⟨q0,q0'⟩ ⟨q1,q1'⟩ ⟨q2,q2'⟩ (.slice none 0 0) (.int .i64 nw) (.slice a9 out.length cap9);exact⟨_,_,rfl,z1,by omega,z2,z3,z4,z5,z6⟩
  ·go_wp2_with fail
   refine zJ (S2 _ (by ((repeat first|assumption|exact eR _|exact And.left (by assumption)|apply eA|apply eD|apply eN|refine eS ?_ (by simp<;>omega) _|refine eT ?_ (by assumption));done))) ?_;refine zG 2 (by kernel_rfl) rfl ?_
   go_wp2_with fail
   refine zJ (S2 _ (by ((repeat first|assumption|exact eR _|exact And.left (by assumption)|apply eA|apply eD|apply eN|refine eS ?_ (by simp<;>omega) _|refine eT ?_ (by assumption));done))) ?_;refine zG 5 (by kernel_rfl) rfl ?_;refine zE rfl _ _ 30 rfl w1.heap.size 3 i0 (.int .i64 0) 1 8 Tryz.underlying30 hi0 hz0 hz1 hz2 rfl (by decide) _ _ _ rfl (RowAt.nil _ _ _ _) out.length (ints out) (qL.up HSRC.out (HE1.out.trans (by ((repeat first|assumption|exact eR _|exact And.left (by assumption)|apply eA|apply eD|apply eN|refine eS ?_ (by simp<;>omega) _|refine eT ?_ (by assumption));done)))) (by unfold maxLen;omega) (by omega) (by exact Ext.size (by ((repeat first|assumption|exact eR _|exact And.left (by assumption)|apply eA|apply eD|apply eN|refine eS ?_ (by simp<;>omega) _|refine eT ?_ (by assumption));done))) ?_;intro v1 Wv1 rv1;have RV:=eH rv1;have hxv:=zCs rv1;obtain⟨a9,cap9,rfl,_,_⟩:=rv1.1.shape;clear rv1
   go_wp2_with fail
   refine zJ (S2 Wv1 (by ((repeat first|assumption|exact eR _|exact And.left (by assumption)|apply eA|apply eD|apply eN|refine eS ?_ (by simp<;>omega) _|refine eT ?_ (by assumption));done))) ?_;refine zG 6 (by kernel_rfl) rfl ?_
   go_wp2_with fail
   refine zJ (S2 _ (by ((repeat first|assumption|exact eR _|exact And.left (by assumption)|apply eA|apply eD|apply eN|refine eS ?_ (by simp<;>omega) _|refine eT ?_ (by assumption));done))) ?_;obtain⟨⟨q0,q0'⟩,⟨q1,q1'⟩,⟨q2,q2'⟩⟩:=(⟨((QC.out.1.ext ((eR _).alloc _)).ext (eR _).drew).ext hxv,((QC.out.2.1.ext ((eR _).alloc _)).ext (eR _).drew).ext hxv,((QC.out.2.2.ext ((eR _).alloc _)).ext (eR _).drew).ext hxv⟩:_∧_∧_)
   refine zG 8 (by kernel_rfl) rfl ?_
   go_wp2_with fail
   refine qM rfl (by kernel_rfl) ?_
   go_wp2_with fail
   go_meet
   have hR:=RV.out;rw [Nat.zero_add,List.nil_append] at hR;obtain⟨z1,z2,z3,z4,z5,z6⟩:=out_box (w1:=w1) (by ((repeat first|assumption|exact eR _|exact And.left (by assumption)|apply eA|apply eD|apply eN|refine eS ?_ (by simp<;>omega) _|refine eT ?_ (by assumption));done)) (bo:=w1.heap.size) (by omega) (by show _<((w1.alloc _).alloc (.cells #[] 3)).heap.size;simp;omega) hR ⟨q0,q0'⟩ ⟨q1,q1'⟩ ⟨q2,q2'⟩ (.slice none 0 0) (.int .i64 nw) (.slice a9 out.length cap9);exact⟨_,_,rfl,z1,Nat.le_refl _,z2,z3,z4,z5,z6⟩
 case rest =>
  rename World=>w2
  obtain⟨o3,v1,rfl,hx2,ho3,hrow2,hne2,k0,k1,k2⟩:=hcut;have hx2:Ext w1 w2:=hx2;have hO0:OwnS w2 w1.heap.size o3 ⟨[],nw,out,.slice none 0 0,v1⟩:=by
   refine⟨k0,k1,k2,⟨inow,hIO⟩,RowAt.nil _ _ _ _,hrow2,(fun y hy=>by cases hy),ho3,⟨by show 0≤1000;omega,by show out.length≤1000;omega⟩,?_⟩;unfold PState.bl
   cases hv:zB v1 with
   | none=>simp [zB]
   | some k =>
    have:o3≠k:=fun e=>hne2 (by rw [hv,e])
    simp [zB,this]
  have HO0:=eH hO0;have HX2:=eH hx2;have HS1:=eH s1;have HF1:Hid (w1.cell? ⟨w.heap.size,0,none⟩=some (.slice af fs.length cf)):=s0;have HFB:=eH (zAi.stays (Ext.stays HE1.out) HFS.out);clear hO0 hx2 ho3 hrow2 hne2 k0 k1 k2 s1 s2 s0
  go_wp2_with fail
  go_loopw [4] (fun q4 wr=>∃(k:Nat) (P:PState),k≤fs.length∧q4=.int .i64 k∧Ext w1 wr∧OwnS wr w1.heap.size o3 P∧P.g=⟨fs.take k,nw,out⟩) (fun q _=>fs.length - (intOf q).toNat)
  case atStart=>exact⟨0,_,Nat.zero_le _,rfl,HX2.out,HO0.out,rfl⟩
  case round =>
   obtain⟨k,P,hk,rfl,hE,hO,hg⟩:=hrel;have HEK:=eH hE;have HOK:=eH hO;have HGK:=eH hg;have f0:=eC hE HF1.out;clear hE hO hg;rename World=>wk
   by_cases hlt:k<fs.length
   ·obtain⟨bf,of,afr,cfr,rfl,g0,g1,hfv⟩:=(HFB.out).at' hlt;have g0:=eC HEK.out g0;have g1:=eC HEK.out g1;have hfv:=uW.stays (Ext.stays HEK.out) hfv;have hgd:fs.take (k+1)=fs.take k++[fs.getD k default]:=by
     rw [List.take_succ_eq_append_getElem hlt];simp [List.getD,List.getElem?_eq_getElem hlt]
    have hfew:FewF (fs.getD k default):=by
     have e:fs.getD k default=fs[k]:=by simp [List.getD,List.getElem?_eq_getElem hlt]
     rw [e];exact(HF3.out) _ (List.getElem_mem _)
    have HGD:=eH hgd;have HFEW:=eH hfew;have hn9:=hfew.1;clear hgd hfew;obtain⟨fb,hfb⟩:∃fb,fs.getD k default=fb:=⟨_,rfl⟩
    rw [hfb] at g0 g1 hfv HGD HFEW hn9;obtain⟨xs,exs,hxs,icl⟩:=hfv;simp only [Value.agg.injEq,Array.mk.injEq,List.cons.injEq,and_true] at exs;obtain⟨rfl,-⟩:=exs;have HXS:=eH hxs;have hsf:wk.heap.size<wk.heap.size+1:=Nat.lt_succ_self _;have hsz5:(wk.alloc (.cells #[.slice none 0 0,.int .i64 fb.caller] 112)).heap.size=wk.heap.size+1:=Array.size_push _;have j0:=Cx.new wk [.slice none 0 0,.int .i64 fb.caller] 112 (j:=0) rfl;have j1:=Cx.new wk [.slice none 0 0,.int .i64 fb.caller] 112 (j:=1) rfl;clear hxs hfb
    go_upto_region 6 with fail
    obtain⟨wf,hwf⟩:∃wf,wf=wk.alloc (.cells #[.slice none 0 0,.int .i64 fb.caller] 112):=⟨_,rfl⟩
    rw [←hwf];rw [←hwf] at hsz5 j0 j1;have hEf:Ext wk wf:=by rw [hwf];((repeat first|assumption|exact eR _|exact And.left (by assumption)|apply eA|apply eD|apply eN|refine eS ?_ (by simp<;>omega) _|refine eT ?_ (by assumption));done)
    have HEF:=eH hEf;have HSZ5:=eH hsz5;have J:=eH (⟨j0,j1⟩:_∧_);clear hwf hEf j0 j1 hsz5 hsf
    go_wp2_with fail
    obtain⟨f5,hf5⟩:∃f5,wk.heap.size=f5:=⟨_,rfl⟩
    have HF5:=eH hf5;have HY0:Hid (BuildF wf (f5+1) f5 ⟨[],fb.caller,.slice none 0 0⟩):=by
     rw [←hf5];exact⟨⟨icl,RowAt.nil _ _ _ _,(fun y hy=>by cases hy),by show 0≤1000;omega⟩,by unfold PFiber.bl;simp [zB],(J.out).1,(J.out).2⟩
    have HSZ6:Hid (wf.heap.size=f5+1):=by rw [←hf5];exact HSZ5.out
    rw [hf5];clear hf5
    go_loopw [6] (fun q6 wr=>∃(i:Nat) (Y:PFiber),i≤fb.frames.length∧q6=.int .i64 i∧Ext wk wr∧BuildF wr (f5+1) f5 Y∧Y.g=⟨fb.frames.take i,fb.caller⟩) (fun q _=>fb.frames.length - (intOf q).toNat)
    case atStart=>exact⟨0,_,Nat.zero_le _,rfl,HEF.out,HY0.out,rfl⟩
    case round =>
     obtain⟨i,Y,hi,rfl,hE,hY,hyg⟩:=hrel;have HEW:=eH hE;have HYW:=eH hY;have HYG:=eH hyg;have hEkw:=hE;have HB6:Hid (f5+1≤wr.heap.size):=hY.c0.lt;have f0:=eC hEkw f0;have g0:=eC hEkw g0;have HEKW:=eH hEkw;clear hE hY hyg hEkw;rename World=>wr
     by_cases hlt2:i<fb.frames.length
     ·obtain⟨b4,o4,al,cl,as_,cs,rfl,hfa,hfv4⟩:=(HXS.out).at' hlt2;have hgd4:fb.frames.take (i+1)=fb.frames.take i++[fb.frames.getD i default]:=by
       rw [List.take_succ_eq_append_getElem hlt2];simp [List.getD,List.getElem?_eq_getElem hlt2]
      have hfew4:(fb.frames.getD i default).locals.length≤900∧(fb.frames.getD i default).stack.length≤900:=by
       have e:fb.frames.getD i default=fb.frames[i]:=by simp [List.getD,List.getElem?_eq_getElem hlt2]
       rw [e];exact(HFEW.out).2 _ (List.getElem_mem _)
      obtain⟨xf,hxf⟩:∃xf,fb.frames.getD i default=xf:=⟨_,rfl⟩
      rw [hxf] at hfa hfv4 hgd4 hfew4;obtain⟨hl9,hs9⟩:=hfew4;have HGD4:=eH hgd4;have hfa:=hfa.ext HEKW.out;obtain⟨y0,y1,y2,y3⟩:=hfa;obtain⟨vl,vs2,efv,ifu,iat,hil,his⟩:=hfv4;simp only [Value.agg.injEq,Array.mk.injEq,List.cons.injEq,and_true,true_and] at efv;obtain⟨rfl,rfl⟩:=efv;have HSL:=eH hil.srcI;have HSS:=eH his.srcI;have HIL:=eH (⟨ifu,iat,hil.i64,his.i64⟩:_∧_∧_∧_);clear hil his ifu iat hxf hgd4
      go_upto_region 10 with fail
      have HX7:=eH (⟨Cx.new wr [.int .i64 xf.func,.int .i64 xf.at_,.slice al xf.locals.length cl,.slice as_ xf.stack.length cs] 108 (j:=0) rfl,Cx.new wr [.int .i64 xf.func,.int .i64 xf.at_,.slice al xf.locals.length cl,.slice as_ xf.stack.length cs] 108 (j:=1) rfl,Cx.new wr [.int .i64 xf.func,.int .i64 xf.at_,.slice al xf.locals.length cl,.slice as_ xf.stack.length cs] 108 (j:=2) rfl,Cx.new wr [.int .i64 xf.func,.int .i64 xf.at_,.slice al xf.locals.length cl,.slice as_ xf.stack.length cs] 108 (j:=3) rfl⟩:_∧_∧_∧_);have hEx:Ext wr (wr.alloc (.cells #[.int .i64 xf.func,.int .i64 xf.at_,.slice al xf.locals.length cl,.slice as_ xf.stack.length cs] 108)):=by ((repeat first|assumption|exact eR _|exact And.left (by assumption)|apply eA|apply eD|apply eN|refine eS ?_ (by simp<;>omega) _|refine eT ?_ (by assumption));done)
      obtain⟨ay,cy,ey,hcy,hmy⟩:=(HYW.out).fo.row.shape;have HYB:=eH ((HYW.out).fo.row.lt2 (by decide));have hyc:=(HYW.out).c0.ext hEx;rw [ey] at hyc;have HEY:=eH ey;have HRY:Hid (RowAt wr (f5+1) 4 (.slice ay Y.fr.length cy) Y.fr.length (Y.fr.flatMap frameF)):=by unfold Hid;rw [←ey];exact(HYW.out).fo.row
      have hfy9:Y.fr.length≤900:=by
       have h1:=congrArg (fun g=>g.frames.length) HYG.out;simp only [PFiber.g,List.length_map,List.length_take] at h1;omega
      obtain⟨wx,hwx⟩:∃wx,wx=wr.alloc (.cells #[.int .i64 xf.func,.int .i64 xf.at_,.slice al xf.locals.length cl,.slice as_ xf.stack.length cs] 108):=⟨_,rfl⟩
      rw [←hwx] at hEx HX7 hyc ⊢;have HEWX:=eH ((HEW.out).trans hEx);have HEX2:=eH hEx;have HEX:=eH ((HEKW.out).trans hEx);have HWS:Hid (wx.heap.size=wr.heap.size+1):=by unfold Hid;rw [hwx];exact Array.size_push _
      obtain⟨x7,hx7⟩:∃x7,wr.heap.size=x7:=⟨_,rfl⟩
      rw [hx7] at HX7 HWS ⊢;have HX7E:=eH hx7;clear hwx ey;have S6:∀W,Ext wx W→W.cell? ⟨f5,0,none⟩=some (.slice ay Y.fr.length cy)∧W.cell? ⟨x7,0,none⟩=some (.int .i64 xf.func)∧W.cell? ⟨x7,1,none⟩=some (.int .i64 xf.at_)∧W.cell? ⟨x7,2,none⟩=some (.slice al xf.locals.length cl)∧W.cell? ⟨x7,3,none⟩=some (.slice as_ xf.stack.length cs):=fun W h=>⟨eC h hyc.1,eC h (HX7.out).1.1,eC h (HX7.out).2.1.1,eC h (HX7.out).2.2.1.1,eC h (HX7.out).2.2.2.1⟩
      refine yW (fun w'=>w'.cell? ⟨f5,0,none⟩=some (.slice ay Y.fr.length cy)∧w'.cell? ⟨x7,0,none⟩=some (.int .i64 xf.func)∧w'.cell? ⟨x7,1,none⟩=some (.int .i64 xf.at_)∧w'.cell? ⟨x7,2,none⟩=some (.slice al xf.locals.length cl)∧w'.cell? ⟨x7,3,none⟩=some (.slice as_ xf.stack.length cs))
       18 [0,1,2,3,4,5,7,8,11,12] 9 (by kernel_rfl) (by kernel_rfl) (fun _ _ _ _ _ h=>h) (S6 _ (eR _).drew) ?_
      (try simp only [zH,List.filterMap_cons,List.filterMap_nil,xO,xP])
      repeat (
       refine zN (by rfl) ?_;apply Exists.intro;refine⟨fun w' hw'=>?_,?_⟩
       focus
        (try dsimp only at hw')
        go_split_ands;go_simp
        (try with_reducible rfl)
       (try dsimp only [Act.put])
       (try simp only [xL,xM,xN]))
      refine zL ?_;have HNF5:Hid (¬zB (.slice ay Y.fr.length cy)=some f5):=fun e=>by have:=(HRY.out).le f5 e;omega
      have HNX7:Hid (¬zB (.slice ay Y.fr.length cy)=some x7):=fun e=>by
       have h1:=HYB.out x7 (by rw [HEY.out];exact e);have h2:=HX7E.out;omega
      refine yB 6 10 (by kernel_rfl) rfl rfl ?_ ?_
      ·go_wp2_with fail
       refine zJ (S6 _ (by ((repeat first|assumption|exact eR _|exact And.left (by assumption)|apply eA|apply eD|apply eN|refine eS ?_ (by simp<;>omega) _|refine eT ?_ (by assumption));done))) ?_;refine yB 9 10 (by kernel_rfl) rfl rfl ?_ ?_
       ·refine zE rfl _ _ 30 rfl (f5+1) 3 i0 (.int .i64 0) 1 8 Tryz.underlying30 hi0 hz0 hz1 hz2 rfl (by decide) _ _ _ rfl (RowAt.nil _ _ _ _) xf.locals.length (ints xf.locals) (qL.up HSL.out (HEX.out.trans (by ((repeat first|assumption|exact eR _|exact And.left (by assumption)|apply eA|apply eD|apply eN|refine eS ?_ (by simp<;>omega) _|refine eT ?_ (by assumption));done)))) (by unfold maxLen;omega) (by omega) (by exact Nat.le_trans HB6.out (Ext.size (show Ext wr _ from (by ((repeat first|assumption|exact eR _|exact And.left (by assumption)|apply eA|apply eD|apply eN|refine eS ?_ (by simp<;>omega) _|refine eT ?_ (by assumption));done))))) ?_;intro v1 Wv1 rv1;have RV1:=eH rv1;have HA1:=eH (vB rv1 (show Ext wx _ from (by ((repeat first|assumption|exact eR _|exact And.left (by assumption)|apply eA|apply eD|apply eN|refine eS ?_ (by simp<;>omega) _|refine eT ?_ (by assumption));done))));have hxv1:=zCs rv1;obtain⟨a91,cap91,rfl,_,_⟩:=rv1.1.shape;clear rv1
        go_wp2_with fail
        refine zJ (S6 Wv1 (by ((repeat first|assumption|exact eR _|exact And.left (by assumption)|apply eA|apply eD|apply eN|refine eS ?_ (by simp<;>omega) _|refine eT ?_ (by assumption));done))) ?_;refine zG 10 (by kernel_rfl) rfl ?_
        go_wp2_with fail
        refine zJ (S6 _ (by ((repeat first|assumption|exact eR _|exact And.left (by assumption)|apply eA|apply eD|apply eN|refine eS ?_ (by simp<;>omega) _|refine eT ?_ (by assumption));done))) ?_;refine zG 13 (by kernel_rfl) rfl ?_;refine zE rfl _ _ 30 rfl (f5+1) 3 i0 (.int .i64 0) 1 8 Tryz.underlying30 hi0 hz0 hz1 hz2 rfl (by decide) _ _ _ rfl (RowAt.nil _ _ _ _) xf.stack.length (ints xf.stack) (qL.up HSS.out (HEX.out.trans (by ((repeat first|assumption|exact eR _|exact And.left (by assumption)|apply eA|apply eD|apply eN|refine eS ?_ (by simp<;>omega) _|refine eT ?_ (by assumption));done)))) (by unfold maxLen;omega) (by omega) (by exact Nat.le_trans HB6.out (Ext.size (show Ext wr _ from (by ((repeat first|assumption|exact eR _|exact And.left (by assumption)|apply eA|apply eD|apply eN|refine eS ?_ (by simp<;>omega) _|refine eT ?_ (by assumption));done))))) ?_;intro v2 Wv2 rv2;have RV2:=eH rv2;have HA2:=eH (vB rv2 (show Ext wx _ from (by ((repeat first|assumption|exact eR _|exact And.left (by assumption)|apply eA|apply eD|apply eN|refine eS ?_ (by simp<;>omega) _|refine eT ?_ (by assumption));done))));have HA3:=eH (vB rv2 (show Ext Wv1 _ from (by ((repeat first|assumption|exact eR _|exact And.left (by assumption)|apply eA|apply eD|apply eN|refine eS ?_ (by simp<;>omega) _|refine eT ?_ (by assumption));done))));have hxv2:=zCs rv2;obtain⟨a92,cap92,rfl,_,_⟩:=rv2.1.shape;clear rv2
        go_wp2_with fail
        refine zJ (S6 Wv2 (by ((repeat first|assumption|exact eR _|exact And.left (by assumption)|apply eA|apply eD|apply eN|refine eS ?_ (by simp<;>omega) _|refine eT ?_ (by assumption));done))) ?_;refine zG 14 (by kernel_rfl) rfl ?_
        go_wp2_with fail
        refine zJ (S6 Wv2 (by ((repeat first|assumption|exact eR _|exact And.left (by assumption)|apply eA|apply eD|apply eN|refine eS ?_ (by simp<;>omega) _|refine eT ?_ (by assumption));done))) ?_;refine zG 15 (by kernel_rfl) rfl ?_
        go_wp2_with fail
        refine zJ (S6 _ (by ((repeat first|assumption|exact eR _|exact And.left (by assumption)|apply eA|apply eD|apply eN|refine eS ?_ (by simp<;>omega) _|refine eT ?_ (by assumption));done))) ?_;refine zG 16 (by kernel_rfl) rfl ?_;refine zE rfl _ _ 110 rfl (f5+1) 108 i1 (.agg #[.int .i64 0,.int .i64 0,.slice none 0 0,.slice none 0 0]) 4 64 Tryz.underlying110 hi1 hz3 hz4 hz5 rfl (by decide) _ _ _ rfl (HRY.out.ext (show Ext wr _ from (by ((repeat first|assumption|exact eR _|exact And.left (by assumption)|apply eA|apply eD|apply eN|refine eS ?_ (by simp<;>omega) _|refine eT ?_ (by assumption));done))) (by decide)) 1 _ (vZ _ _ 4 rfl (by simp [Value.oneCell']) _) (by unfold maxLen;omega) (by omega) (by exact Nat.le_trans HB6.out (Ext.size (show Ext wr _ from (by ((repeat first|assumption|exact eR _|exact And.left (by assumption)|apply eA|apply eD|apply eN|refine eS ?_ (by simp<;>omega) _|refine eT ?_ (by assumption));done))))) ?_;intro v3 Wv3 rv3;have RV3:=eH rv3;obtain⟨a93,cap93,rfl,_,_⟩:=rv3.1.shape;clear rv3
        go_wp2_with fail
        have h12:Ext Wv1 Wv2:=by ((repeat first|assumption|exact eR _|exact And.left (by assumption)|apply eA|apply eD|apply eN|refine eS ?_ (by simp<;>omega) _|refine eT ?_ (by assumption));done)
        have hxx:Ext wx Wv2:=by ((repeat first|assumption|exact eR _|exact And.left (by assumption)|apply eA|apply eD|apply eN|refine eS ?_ (by simp<;>omega) _|refine eT ?_ (by assumption));done)
        have hR3:kO (Wv2.alloc (.cells #[.int .i64 xf.func,.int .i64 xf.at_,.slice a91 xf.locals.length cap91,.slice a92 xf.stack.length cap92] 108)) Wv3 (f5+1) 4 (.slice ay Y.fr.length cy) (.slice a93 (Y.fr.length+1) cap93) (Y.fr.length+1) (Y.fr.flatMap frameF++[.int .i64 xf.func,.int .i64 xf.at_,.slice a91 xf.locals.length cap91,.slice a92 xf.stack.length cap92]):=RV3.out;have hcg:Chg (fun k=>zB (.slice ay Y.fr.length cy)=some k) (Wv2.alloc (.cells #[.int .i64 xf.func,.int .i64 xf.at_,.slice a91 xf.locals.length cap91,.slice a92 xf.stack.length cap92] 108)) Wv3:=hR3.2.1;have hS9:=zHd (S6 _ (by ((repeat first|assumption|exact eR _|exact And.left (by assumption)|apply eA|apply eD|apply eN|refine eS ?_ (by simp<;>omega) _|refine eT ?_ (by assumption));done))) hcg HNF5.out HNX7.out;have HS9:=eH hS9;have hc5:=((hyc.ext hxx).ext ((eR _).alloc (.cells #[.int .i64 xf.func,.int .i64 xf.at_,.slice a91 xf.locals.length cap91,.slice a92 xf.stack.length cap92] 108))).chg hcg HNF5.out;obtain⟨c5,c5'⟩:=hc5;have HR3:=eH hR3;clear hR3 hcg;refine zJ HS9.out ?_;refine zG 17 (by kernel_rfl) rfl ?_
        go_wp2_with fail
        refine zJ HS9.out ?_;refine zG 18 (by kernel_rfl) rfl ?_
        go_wp2_with fail
        refine qM rfl (by kernel_rfl) ?_
        go_wp2_with fail
        have hR1:=RV1.out;have hR2:=RV2.out;have hb1:=HA1.out;have hb2:=HA2.out;have hb3:=HA3.out;simp only [Nat.zero_add,List.nil_append] at hR1 hR2 hb1 hb2 hb3;have hfin:=frame_fin (HYW.out) HEX2.out hxx h12 (Nat.lt_succ_self f5) hR1.1 hR2.1 hb1 hb2 hb3 HIL.out hl9 hs9 (by rw [HEY.out];exact HR3.out) (by omega);go_roundw
        case rel=>exact⟨i+1,_,by omega,by go_num,fin_ext (HRY.out) HEW.out ((HEX2.out.trans hxx).alloc _) HF5.out HR3.out,hfin,by rw [HGD4.out];exact frame_g HYG.out⟩
        case measure=>simp [intOf];omega
       ·go_wp2_with fail
        refine zJ (S6 _ (by ((repeat first|assumption|exact eR _|exact And.left (by assumption)|apply eA|apply eD|apply eN|refine eS ?_ (by simp<;>omega) _|refine eT ?_ (by assumption));done))) ?_;refine zG 9 (by kernel_rfl) rfl ?_;refine zE rfl _ _ 30 rfl (f5+1) 3 i0 (.int .i64 0) 1 8 Tryz.underlying30 hi0 hz0 hz1 hz2 rfl (by decide) _ _ _ rfl (RowAt.nil _ _ _ _) xf.locals.length (ints xf.locals) (qL.up HSL.out (HEX.out.trans (by ((repeat first|assumption|exact eR _|exact And.left (by assumption)|apply eA|apply eD|apply eN|refine eS ?_ (by simp<;>omega) _|refine eT ?_ (by assumption));done)))) (by unfold maxLen;omega) (by omega) (by exact Nat.le_trans HB6.out (Ext.size (show Ext wr _ from (by ((repeat first|assumption|exact eR _|exact And.left (by assumption)|apply eA|apply eD|apply eN|refine eS ?_ (by simp<;>omega) _|refine eT ?_ (by assumption));done))))) ?_;intro v1 Wv1 rv1;have RV1:=eH rv1;have HA1:=eH (vB rv1 (show Ext wx _ from (by ((repeat first|assumption|exact eR _|exact And.left (by assumption)|apply eA|apply eD|apply eN|refine eS ?_ (by simp<;>omega) _|refine eT ?_ (by assumption));done))));have hxv1:=zCs rv1;obtain⟨a91,cap91,rfl,_,_⟩:=rv1.1.shape;clear rv1
        go_wp2_with fail
        refine zJ (S6 Wv1 (by ((repeat first|assumption|exact eR _|exact And.left (by assumption)|apply eA|apply eD|apply eN|refine eS ?_ (by simp<;>omega) _|refine eT ?_ (by assumption));done))) ?_;refine zG 13 (by kernel_rfl) rfl ?_;refine zE rfl _ _ 30 rfl (f5+1) 3 i0 (.int .i64 0) 1 8 Tryz.underlying30 hi0 hz0 hz1 hz2 rfl (by decide) _ _ _ rfl (RowAt.nil _ _ _ _) xf.stack.length (ints xf.stack) (qL.up HSS.out (HEX.out.trans (by ((repeat first|assumption|exact eR _|exact And.left (by assumption)|apply eA|apply eD|apply eN|refine eS ?_ (by simp<;>omega) _|refine eT ?_ (by assumption));done)))) (by unfold maxLen;omega) (by omega) (by exact Nat.le_trans HB6.out (Ext.size (show Ext wr _ from (by ((repeat first|assumption|exact eR _|exact And.left (by assumption)|apply eA|apply eD|apply eN|refine eS ?_ (by simp<;>omega) _|refine eT ?_ (by assumption));done))))) ?_;intro v2 Wv2 rv2;have RV2:=eH rv2;have HA2:=eH (vB rv2 (show Ext wx _ from (by ((repeat first|assumption|exact eR _|exact And.left (by assumption)|apply eA|apply eD|apply eN|refine eS ?_ (by simp<;>omega) _|refine eT ?_ (by assumption));done))));have HA3:=eH (vB rv2 (show Ext Wv1 _ from (by ((repeat first|assumption|exact eR _|exact And.left (by assumption)|apply eA|apply eD|apply eN|refine eS ?_ (by simp<;>omega) _|refine eT ?_ (by assumption));done))));have hxv2:=zCs rv2;obtain⟨a92,cap92,rfl,_,_⟩:=rv2.1.shape;clear rv2
        go_wp2_with fail
        refine zJ (S6 Wv2 (by ((repeat first|assumption|exact eR _|exact And.left (by assumption)|apply eA|apply eD|apply eN|refine eS ?_ (by simp<;>omega) _|refine eT ?_ (by assumption));done))) ?_;refine zG 14 (by kernel_rfl) rfl ?_
        go_wp2_with fail
        refine zJ (S6 Wv2 (by ((repeat first|assumption|exact eR _|exact And.left (by assumption)|apply eA|apply eD|apply eN|refine eS ?_ (by simp<;>omega) _|refine eT ?_ (by assumption));done))) ?_;refine zG 15 (by kernel_rfl) rfl ?_
        go_wp2_with fail
        refine zJ (S6 _ (by ((repeat first|assumption|exact eR _|exact And.left (by assumption)|apply eA|apply eD|apply eN|refine eS ?_ (by simp<;>omega) _|refine eT ?_ (by assumption));done))) ?_;refine zG 16 (by kernel_rfl) rfl ?_;refine zE rfl _ _ 110 rfl (f5+1) 108 i1 (.agg #[.int .i64 0,.int .i64 0,.slice none 0 0,.slice none 0 0]) 4 64 Tryz.underlying110 hi1 hz3 hz4 hz5 rfl (by decide) _ _ _ rfl (HRY.out.ext (show Ext wr _ from (by ((repeat first|assumption|exact eR _|exact And.left (by assumption)|apply eA|apply eD|apply eN|refine eS ?_ (by simp<;>omega) _|refine eT ?_ (by assumption));done))) (by decide)) 1 _ (vZ _ _ 4 rfl (by simp [Value.oneCell']) _) (by unfold maxLen;omega) (by omega) (by exact Nat.le_trans HB6.out (Ext.size (show Ext wr _ from (by ((repeat first|assumption|exact eR _|exact And.left (by assumption)|apply eA|apply eD|apply eN|refine eS ?_ (by simp<;>omega) _|refine eT ?_ (by assumption));done))))) ?_;intro v3 Wv3 rv3;have RV3:=eH rv3;obtain⟨a93,cap93,rfl,_,_⟩:=rv3.1.shape;clear rv3
        go_wp2_with fail
        have h12:Ext Wv1 Wv2:=by ((repeat first|assumption|exact eR _|exact And.left (by assumption)|apply eA|apply eD|apply eN|refine eS ?_ (by simp<;>omega) _|refine eT ?_ (by assumption));done)
        have hxx:Ext wx Wv2:=by ((repeat first|assumption|exact eR _|exact And.left (by assumption)|apply eA|apply eD|apply eN|refine eS ?_ (by simp<;>omega) _|refine eT ?_ (by assumption));done)
        have hR3:kO (Wv2.alloc (.cells #[.int .i64 xf.func,.int .i64 xf.at_,.slice a91 xf.locals.length cap91,.slice a92 xf.stack.length cap92] 108)) Wv3 (f5+1) 4 (.slice ay Y.fr.length cy) (.slice a93 (Y.fr.length+1) cap93) (Y.fr.length+1) (Y.fr.flatMap frameF++[.int .i64 xf.func,.int .i64 xf.at_,.slice a91 xf.locals.length cap91,.slice a92 xf.stack.length cap92]):=RV3.out;have hcg:Chg (fun k=>zB (.slice ay Y.fr.length cy)=some k) (Wv2.alloc (.cells #[.int .i64 xf.func,.int .i64 xf.at_,.slice a91 xf.locals.length cap91,.slice a92 xf.stack.length cap92] 108)) Wv3:=hR3.2.1;have hS9:=zHd (S6 _ (by ((repeat first|assumption|exact eR _|exact And.left (by assumption)|apply eA|apply eD|apply eN|refine eS ?_ (by simp<;>omega) _|refine eT ?_ (by assumption));done))) hcg HNF5.out HNX7.out;have HS9:=eH hS9;have hc5:=((hyc.ext hxx).ext ((eR _).alloc (.cells #[.int .i64 xf.func,.int .i64 xf.at_,.slice a91 xf.locals.length cap91,.slice a92 xf.stack.length cap92] 108))).chg hcg HNF5.out;obtain⟨c5,c5'⟩:=hc5;have HR3:=eH hR3;clear hR3 hcg;refine zJ HS9.out ?_;refine zG 17 (by kernel_rfl) rfl ?_
        go_wp2_with fail
        refine zJ HS9.out ?_;refine zG 18 (by kernel_rfl) rfl ?_
        go_wp2_with fail
        refine qM rfl (by kernel_rfl) ?_
        go_wp2_with fail
        have hR1:=RV1.out;have hR2:=RV2.out;have hb1:=HA1.out;have hb2:=HA2.out;have hb3:=HA3.out;simp only [Nat.zero_add,List.nil_append] at hR1 hR2 hb1 hb2 hb3;have hfin:=frame_fin (HYW.out) HEX2.out hxx h12 (Nat.lt_succ_self f5) hR1.1 hR2.1 hb1 hb2 hb3 HIL.out hl9 hs9 (by rw [HEY.out];exact HR3.out) (by omega);go_roundw
        case rel=>exact⟨i+1,_,by omega,by go_num,fin_ext (HRY.out) HEW.out ((HEX2.out.trans hxx).alloc _) HF5.out HR3.out,hfin,by rw [HGD4.out];exact frame_g HYG.out⟩
        case measure=>simp [intOf];omega
      ·go_wp2_with fail
       refine zJ (S6 _ (by ((repeat first|assumption|exact eR _|exact And.left (by assumption)|apply eA|apply eD|apply eN|refine eS ?_ (by simp<;>omega) _|refine eT ?_ (by assumption));done))) ?_;refine zG 6 (by kernel_rfl) rfl ?_
       go_wp2_with fail
       refine zJ (S6 _ (by ((repeat first|assumption|exact eR _|exact And.left (by assumption)|apply eA|apply eD|apply eN|refine eS ?_ (by simp<;>omega) _|refine eT ?_ (by assumption));done))) ?_;refine zG 9 (by kernel_rfl) rfl ?_;refine zE rfl _ _ 30 rfl (f5+1) 3 i0 (.int .i64 0) 1 8 Tryz.underlying30 hi0 hz0 hz1 hz2 rfl (by decide) _ _ _ rfl (RowAt.nil _ _ _ _) xf.locals.length (ints xf.locals) (qL.up HSL.out (HEX.out.trans (by ((repeat first|assumption|exact eR _|exact And.left (by assumption)|apply eA|apply eD|apply eN|refine eS ?_ (by simp<;>omega) _|refine eT ?_ (by assumption));done)))) (by unfold maxLen;omega) (by omega) (by exact Nat.le_trans HB6.out (Ext.size (show Ext wr _ from (by ((repeat first|assumption|exact eR _|exact And.left (by assumption)|apply eA|apply eD|apply eN|refine eS ?_ (by simp<;>omega) _|refine eT ?_ (by assumption));done))))) ?_;intro v1 Wv1 rv1;have RV1:=eH rv1;have HA1:=eH (vB rv1 (show Ext wx _ from (by ((repeat first|assumption|exact eR _|exact And.left (by assumption)|apply eA|apply eD|apply eN|refine eS ?_ (by simp<;>omega) _|refine eT ?_ (by assumption));done))));have hxv1:=zCs rv1;obtain⟨a91,cap91,rfl,_,_⟩:=rv1.1.shape;clear rv1
       go_wp2_with fail
       refine zJ (S6 Wv1 (by ((repeat first|assumption|exact eR _|exact And.left (by assumption)|apply eA|apply eD|apply eN|refine eS ?_ (by simp<;>omega) _|refine eT ?_ (by assumption));done))) ?_;refine zG 13 (by kernel_rfl) rfl ?_;refine zE rfl _ _ 30 rfl (f5+1) 3 i0 (.int .i64 0) 1 8 Tryz.underlying30 hi0 hz0 hz1 hz2 rfl (by decide) _ _ _ rfl (RowAt.nil _ _ _ _) xf.stack.length (ints xf.stack) (qL.up HSS.out (HEX.out.trans (by ((repeat first|assumption|exact eR _|exact And.left (by assumption)|apply eA|apply eD|apply eN|refine eS ?_ (by simp<;>omega) _|refine eT ?_ (by assumption));done)))) (by unfold maxLen;omega) (by omega) (by exact Nat.le_trans HB6.out (Ext.size (show Ext wr _ from (by ((repeat first|assumption|exact eR _|exact And.left (by assumption)|apply eA|apply eD|apply eN|refine eS ?_ (by simp<;>omega) _|refine eT ?_ (by assumption));done))))) ?_;intro v2 Wv2 rv2;have RV2:=eH rv2;have HA2:=eH (vB rv2 (show Ext wx _ from (by ((repeat first|assumption|exact eR _|exact And.left (by assumption)|apply eA|apply eD|apply eN|refine eS ?_ (by simp<;>omega) _|refine eT ?_ (by assumption));done))));have HA3:=eH (vB rv2 (show Ext Wv1 _ from (by ((repeat first|assumption|exact eR _|exact And.left (by assumption)|apply eA|apply eD|apply eN|refine eS ?_ (by simp<;>omega) _|refine eT ?_ (by assumption));done))));have hxv2:=zCs rv2;obtain⟨a92,cap92,rfl,_,_⟩:=rv2.1.shape;clear rv2
       go_wp2_with fail
       refine zJ (S6 Wv2 (by ((repeat first|assumption|exact eR _|exact And.left (by assumption)|apply eA|apply eD|apply eN|refine eS ?_ (by simp<;>omega) _|refine eT ?_ (by assumption));done))) ?_;refine zG 14 (by kernel_rfl) rfl ?_
       go_wp2_with fail
       refine zJ (S6 Wv2 (by ((repeat first|assumption|exact eR _|exact And.left (by assumption)|apply eA|apply eD|apply eN|refine eS ?_ (by simp<;>omega) _|refine eT ?_ (by assumption));done))) ?_;refine zG 15 (by kernel_rfl) rfl ?_
       go_wp2_with fail
       refine zJ (S6 _ (by ((repeat first|assumption|exact eR _|exact And.left (by assumption)|apply eA|apply eD|apply eN|refine eS ?_ (by simp<;>omega) _|refine eT ?_ (by assumption));done))) ?_;refine zG 16 (by kernel_rfl) rfl ?_;refine zE rfl _ _ 110 rfl (f5+1) 108 i1 (.agg #[.int .i64 0,.int .i64 0,.slice none 0 0,.slice none 0 0]) 4 64 Tryz.underlying110 hi1 hz3 hz4 hz5 rfl (by decide) _ _ _ rfl (HRY.out.ext (show Ext wr _ from (by ((repeat first|assumption|exact eR _|exact And.left (by assumption)|apply eA|apply eD|apply eN|refine eS ?_ (by simp<;>omega) _|refine eT ?_ (by assumption));done))) (by decide)) 1 _ (vZ _ _ 4 rfl (by simp [Value.oneCell']) _) (by unfold maxLen;omega) (by omega) (by exact Nat.le_trans HB6.out (Ext.size (show Ext wr _ from (by ((repeat first|assumption|exact eR _|exact And.left (by assumption)|apply eA|apply eD|apply eN|refine eS ?_ (by simp<;>omega) _|refine eT ?_ (by assumption));done))))) ?_;intro v3 Wv3 rv3;have RV3:=eH rv3;obtain⟨a93,cap93,rfl,_,_⟩:=rv3.1.shape;clear rv3
       go_wp2_with fail
       have h12:Ext Wv1 Wv2:=by ((repeat first|assumption|exact eR _|exact And.left (by assumption)|apply eA|apply eD|apply eN|refine eS ?_ (by simp<;>omega) _|refine eT ?_ (by assumption));done)
       have hxx:Ext wx Wv2:=by ((repeat first|assumption|exact eR _|exact And.left (by assumption)|apply eA|apply eD|apply eN|refine eS ?_ (by simp<;>omega) _|refine eT ?_ (by assumption));done)
       have hR3:kO (Wv2.alloc (.cells #[.int .i64 xf.func,.int .i64 xf.at_,.slice a91 xf.locals.length cap91,.slice a92 xf.stack.length cap92] 108)) Wv3 (f5+1) 4 (.slice ay Y.fr.length cy) (.slice a93 (Y.fr.length+1) cap93) (Y.fr.length+1) (Y.fr.flatMap frameF++[.int .i64 xf.func,.int .i64 xf.at_,.slice a91 xf.locals.length cap91,.slice a92 xf.stack.length cap92]):=RV3.out;have hcg:Chg (fun k=>zB (.slice ay Y.fr.length cy)=some k) (Wv2.alloc (.cells #[.int .i64 xf.func,.int .i64 xf.at_,.slice a91 xf.locals.length cap91,.slice a92 xf.stack.length cap92] 108)) Wv3:=hR3.2.1;have hS9:=zHd (S6 _ (by ((repeat first|assumption|exact eR _|exact And.left (by assumption)|apply eA|apply eD|apply eN|refine eS ?_ (by simp<;>omega) _|refine eT ?_ (by assumption));done))) hcg HNF5.out HNX7.out;have HS9:=eH hS9;have hc5:=((hyc.ext hxx).ext ((eR _).alloc (.cells #[.int .i64 xf.func,.int .i64 xf.at_,.slice a91 xf.locals.length cap91,.slice a92 xf.stack.length cap92] 108))).chg hcg HNF5.out;obtain⟨c5,c5'⟩:=hc5;have HR3:=eH hR3;clear hR3 hcg;refine zJ HS9.out ?_;refine zG 17 (by kernel_rfl) rfl ?_
       go_wp2_with fail
       refine zJ HS9.out ?_;refine zG 18 (by kernel_rfl) rfl ?_
       go_wp2_with fail
       refine qM rfl (by kernel_rfl) ?_
       go_wp2_with fail
       have hR1:=RV1.out;have hR2:=RV2.out;have hb1:=HA1.out;have hb2:=HA2.out;have hb3:=HA3.out;simp only [Nat.zero_add,List.nil_append] at hR1 hR2 hb1 hb2 hb3;have hfin:=frame_fin (HYW.out) HEX2.out hxx h12 (Nat.lt_succ_self f5) hR1.1 hR2.1 hb1 hb2 hb3 HIL.out hl9 hs9 (by rw [HEY.out];exact HR3.out) (by omega);go_roundw
       case rel=>exact⟨i+1,_,by omega,by go_num,fin_ext (HRY.out) HEW.out ((HEX2.out.trans hxx).alloc _) HF5.out HR3.out,hfin,by rw [HGD4.out];exact frame_g HYG.out⟩
       case measure=>simp [intOf];omega
     ·obtain rfl:i=fb.frames.length:=by omega
      have hyg:=HYG.out;rw [List.take_length] at hyg;obtain⟨av,cv,ev,hcv,hmv⟩:=(HOK.out).row.shape;obtain⟨ay,cy,ey,hcy,hmy⟩:=(HYW.out).fo.row.shape;obtain⟨z0,z0'⟩:=(HOK.out).c0.ext HEKW.out;obtain⟨y0,y0'⟩:=(HYW.out).c0;obtain⟨y1,y1'⟩:=(HYW.out).c1;rw [ev] at z0;rw [ey] at y0;have HEV:=eH ev;have HEY:=eH ey;have HRK:Hid (RowAt wk w1.heap.size 2 (.slice av P.fs.length cv) P.fs.length (P.fs.flatMap kK)):=by unfold Hid;rw [←ev];exact(HOK.out).row
      have hl9:P.fs.length≤900:=by
       have h1:=congrArg (fun g=>g.fibers.length) HGK.out;simp only [PState.g,List.length_map,List.length_take] at h1;omega
      have HBK:Hid (w1.heap.size≤wr.heap.size):=(HEK.out.trans HEKW.out).size;have HNO:Hid (¬zB (.slice av P.fs.length cv)=some o3):=fun e=>(HOK.out).dis.1 (PState.mem_vfs (by rw [HEV.out];exact e))
      clear ev ey hlt2 hi
      go_wp2_with (first
       | (at_builtin;refine zE rfl _ _ 56 rfl w1.heap.size 112 i2 (.agg #[.slice none 0 0,.int .i64 0]) 2 32 Tryz.underlying56 hi2 hz6 hz7 hz8 rfl (by decide) _ _ _ rfl (by exact(HRK.out.ext (HEKW.out.alloc _) (by decide))) 1 _ (by exact vZ _ _ 2 rfl (by simp [Value.oneCell']) _) (by unfold maxLen;omega) (by omega) (by exact Nat.le_trans HBK.out (Ext.size ((eR _).alloc _))) ?_;intro v1 Wv1 rv1;have RV:=eH rv1;obtain⟨q0,q0'⟩:=((HOK.out).c0.ext (HEKW.out.alloc (.cells #[.slice ay Y.fr.length cy,.int .i64 Y.caller] 112))).chg rv1.2.1 HNO.out;obtain⟨a9,cap9,rfl,_,_⟩:=rv1.1.shape;clear rv1))
      have hR:kO (wr.alloc (.cells #[.slice ay Y.fr.length cy,.int .i64 Y.caller] 112)) Wv1 w1.heap.size 2 (.slice av P.fs.length cv) (.slice a9 (P.fs.length+1) cap9) (P.fs.length+1) (P.fs.flatMap kK++[.slice ay Y.fr.length cy,.int .i64 Y.caller]):=RV.out;have hfin:=fiber_fin (HOK.out) (HYW.out) HF5.out HEKW.out 112 (by rw [HEV.out,HEY.out];exact hR) (by omega);go_roundw
      case rel=>exact⟨k+1,_,by omega,by go_num,(Chg.ext_from (HEK.out.trans (HEKW.out.alloc _)) hR.2.1 (fun g e=>HRK.out.le g e)).setCell (p:=⟨o3,0,none⟩) (HOK.out).le _,hfin,by rw [HGD.out];exact fiber_g HGK.out hyg⟩
      case measure=>simp [intOf];omega
   ·obtain rfl:k=fs.length:=by omega
    have hg2:=HGK.out;rw [List.take_length] at hg2;obtain⟨z0,z0'⟩:=(HOK.out).c0;obtain⟨z1,z1'⟩:=(HOK.out).c1;obtain⟨z2,z2'⟩:=(HOK.out).c2;have hR:=HR1.out;obtain⟨r0,r0'⟩:=(hR.1).ext HEK.out;obtain⟨r1,r1'⟩:=(hR.2.1).ext HEK.out;obtain⟨r2,r2'⟩:=(hR.2.2).ext HEK.out;obtain⟨av,cv,ev,_,_⟩:=(HOK.out).row.shape;obtain⟨ao9,co9,eo,_,_⟩:=(HOK.out).out.shape;rw [ev] at z0;rw [eo] at z2;have HEV:=eH ev;have HEO:=eH eo;clear hR hlt ev eo
    go_wp2_with fail
    refine bodyPost_ret (qG rfl _ _ (w.heap.size+1) 0 _ _ rfl (box3 ⟨r0,r0'⟩ ⟨r1,r1'⟩ ⟨r2,r2'⟩ _ _ _) rfl rfl (by kernel_rfl)) rfl ?_;have hlt9:=(HOK.out).rows.lt;refine⟨⟨P,by rw [HEV.out,HEO.out],?_,hg2⟩,(((HE1.out.trans HEK.out).setCell (p:=⟨w.heap.size+1,0,none⟩) (Nat.le_succ _) _).setCell (p:=⟨w.heap.size+1,1,none⟩) (Nat.le_succ _) _).setCell (p:=⟨w.heap.size+1,2,none⟩) (Nat.le_succ _) _⟩;have hO9:=(HOK.out).chg (chg3 wk (w.heap.size+1) (.slice av P.fs.length cv) (.int .i64 P.now) (.slice ao9 P.out.length co9)) (fun e=>by have h1:=(HOK.out).le;have h2:=HBS.out;have h3:o3=w.heap.size+1:=e;omega) (fun g hg e=>by have h1:=(HOK.out).ge g (List.mem_cons_of_mem _ hg);have h2:=HBS.out;have h3:g=w.heap.size+1:=e;omega);exact hO9.rows.mono (by have h2:=HBS.out;omega)
end Go.Proofs.YtpcjkfppacnkgaaGreatDoor
end
section
namespace Go.Proofs.YtpcjkfppacnkgaaGreatDoor
open Go Go.RowKit
def yM (p:List GFunc) (s:GState):Int × GState:=if s.now<0 then (8,⟨[],0,[]⟩) else if (kF p s).1=0 then (0,(kF p s).2) else ((kF p s).1,⟨[],0,[]⟩)
theorem zW.few {w:World} {S:Nat→Prop} {v:Value} {s:GState} (h:zW w S v s):∃a c b d,v=.agg #[.slice a s.fibers.length c,.int .i64 s.now,.slice b s.out.length d]:=by
 obtain⟨x,y,rfl,⟨a,c,rfl,_⟩,_,⟨b,d,rfl,_⟩⟩:=h;exact⟨a,c,b,d,rfl⟩
theorem OwnR.state {W:World} {B:Nat} {P:PState} (h:OwnR W B P) (S:Nat→Prop) (hS:∀g,B≤g→S g):zW W S (.agg #[P.vfs,.int .i64 P.now,P.vo]) P.g:=by
 have f:=h.few;refine⟨_,_,rfl,Sl.map' PFiber.g (Sl.of_row kK h.row (fun _=>rfl) (by omega) fun b o y hb _ hy hc=>?_),h.i.1,Ints.of_row (by rw [kU];exact h.out) (show P.out.length * 8≤_ by omega) h.i.2 S (fun b hb _=>hS b hb)⟩;have hy':=h.fs y hy;exact⟨⟨_,hc 0 _ rfl,hy'.frames S hS⟩,hS b hb,hc 1 _ rfl,hy'.i⟩
theorem OwnR.chg {M:Nat→Prop} {W W':World} {B:Nat} {P:PState} (h:OwnR W B P) (hc:Chg M W W') (hM:∀g∈P.bl,¬M g):OwnR W' B P :=
 ⟨h.i,h.row.chg hc (fun g e=>hM g (PState.mem_vfs e)) (by decide),h.out.chg hc (fun g e=>hM g (PState.mem_vo e)) (by decide),fun y hy=>(h.fs y hy).chg hc (fun g hg=>hM g (PState.mem_fs hy hg)),h.few,h.nodup⟩
theorem OwnR.ge {W:World} {B:Nat} {P:PState} (h:OwnR W B P):∀g∈P.bl,B≤g:=by
 intro g hg;unfold PState.bl at hg;rcases List.mem_append.1 hg with h1 | h1
 ·rcases List.mem_append.1 h1 with h2 | h2
  ·exact h.row.le g (by simpa using h2)
  ·exact h.out.le g (by simpa using h2)
 ·obtain⟨y,hy,h2⟩:=List.mem_flatMap.1 h1;unfold PFiber.bl at h2;rcases List.mem_append.1 h2 with h3 | h3
  ·exact(h.fs y hy).row.le g (by simpa using h3)
  ·obtain⟨x,hx,h4⟩:=List.mem_flatMap.1 h3;unfold PFrame.bl at h4;rcases List.mem_append.1 h4 with h5 | h5
   ·exact((h.fs y hy).fr x hx).l.le g (by simpa using h5)
   ·exact((h.fs y hy).fr x hx).s.le g (by simpa using h5)
def kZ (W:World) (B:Nat) (x:Value) (s:GState):Prop:=∃P,x=.agg #[P.vfs,.int .i64 P.now,P.vo]∧OwnR W B P∧P.g=s
theorem kZ.state {W:World} {B:Nat} {x:Value} {s:GState} (h:kZ W B x s):zW W (B≤·) x s:=by
 obtain⟨P,rfl,h1,rfl⟩:=h;exact h1.state _ (fun _ h=>h)
theorem kZ.few {W:World} {B:Nat} {x:Value} {s:GState} (h:kZ W B x s):∃a c b d,x=.agg #[.slice a s.fibers.length c,.int .i64 s.now,.slice b s.out.length d]:=h.state.few
theorem kZ.chg {M:Nat→Prop} {W W':World} {B:Nat} {x:Value} {s:GState} (h:kZ W B x s) (hc:Chg M W W') (hM:∀g,B≤g→¬M g):kZ W' B x s:=by
 obtain⟨P,e,h1,h2⟩:=h;exact⟨P,e,h1.chg hc (fun g hg=>hM g (h1.ge g hg)),h2⟩
theorem kZ.ext {W W':World} {B:Nat} {x:Value} {s:GState} (h:kZ W B x s) (he:Ext W W'):kZ W' B x s:=h.chg (M:=fun _=>False) (Chg.of_ext he) (fun _ _ h=>h)
theorem kZ.mono {W:World} {B B':Nat} {x:Value} {s:GState} (h:kZ W B x s) (hb:B'≤B):kZ W B' x s:=by
 obtain⟨P,e,h1,h2⟩:=h;exact⟨P,e,h1.mono hb,h2⟩
theorem zDi (w:World) (B:Nat):kZ w B (.agg #[.slice none 0 0,.int .i64 0,.slice none 0 0]) ⟨[],0,[]⟩ :=
 ⟨⟨[],0,[],.slice none 0 0,.slice none 0 0⟩,rfl,⟨⟨I64.zero,(fun n hn=>by cases hn)⟩,RowAt.nil _ _ _ _,RowAt.nil _ _ _ _,(fun y hy=>by cases hy),⟨by show 0≤1000;omega,by show 0≤1000;omega⟩,by unfold PState.bl;simp [zB]⟩,rfl⟩
theorem stays_below {S:Nat→Prop} {w w':World} {B:Nat} (he:Ext w w') (hB:w.heap.size≤B):uU S (·<B) w w':=fun b o v _ hc=>⟨eC he hc,by have:=zY hc;show b<B;omega⟩
theorem stepped_any (p:List GFunc) (v:Value) (S T:Nat→Prop) (s:GState) (vs:Value) (w:World) (hp:zM w S v p) (hs:zW w T vs s) (hf:FewS s) (hfit:s.now<0∨zEr p s) :
  Calls Tryz.prog 119 #[v,vs] w fun e w'=>(∃x,e=.returned (.tuple #[x,.int .i64 (yM p s).1])∧kZ w' w.heap.size x (yM p s).2)∧Ext w w':=by
 have HP:=eH hp;have HS:=eH hs;obtain⟨a,c,b,d,rfl⟩:=hs.few;obtain⟨ap,cp,rfl,_,_,_⟩:=hp;have RA:=zF;have c0:=eH (Cx.new (w.alloc (.cells #[.slice a s.fibers.length c,.int .i64 s.now,.slice b s.out.length d] 58)) [.slice none 0 0,.int .i64 0,.slice none 0 0] 58 (j:=0) rfl);have c1:=eH (Cx.new (w.alloc (.cells #[.slice a s.fibers.length c,.int .i64 s.now,.slice b s.out.length d] 58)) [.slice none 0 0,.int .i64 0,.slice none 0 0] 58 (j:=1) rfl);have c2:=eH (Cx.new (w.alloc (.cells #[.slice a s.fibers.length c,.int .i64 s.now,.slice b s.out.length d] 58)) [.slice none 0 0,.int .i64 0,.slice none 0 0] 58 (j:=2) rfl);have hs0:(w.alloc (.cells #[.slice a s.fibers.length c,.int .i64 s.now,.slice b s.out.length d] 58)).heap.size=w.heap.size+1:=Array.size_push _;rw [hs0] at c0 c1 c2;have HS0:=eH hs0;clear hs0;by_cases hn:s.now<0
 ·have T1:decide (s.now<0)=true:=decide_eq_true hn;have HG:Hid (yM p s=(8,⟨[],0,[]⟩)):=by unfold Hid yM;rw [if_pos hn]
  clear hn;obtain⟨⟨r0,r0'⟩,⟨r1,r1'⟩,⟨r2,r2'⟩⟩:=(⟨c0.out,c1.out,c2.out⟩:_∧_∧_)
  go_enter Tryz.func119,Tryz.ntmps119
  go_wp2_with fail
  refine bodyPost_ret (kI rfl _ _ (w.heap.size+1) 0 [.slice none 0 0,.int .i64 0,.slice none 0 0] _ rfl (range3 r0 r1 r2) rfl rfl (by kernel_rfl)) rfl ?_;rw [HG.out];exact⟨⟨_,rfl,zDi _ _⟩,((eR w).alloc _).alloc _⟩
 ·have T1:decide (s.now<0)=false:=decide_eq_false hn;have hfit:=hfit.resolve_left hn;have HFIT:=eH hfit;have HFEW:=eH hf;have HN:=eH hn;clear hf hn hfit;have HE1:Hid (Ext w ((w.alloc (.cells #[.slice a s.fibers.length c,.int .i64 s.now,.slice b s.out.length d] 58)).alloc (.cells #[.slice none 0 0,.int .i64 0,.slice none 0 0] 58))):=((eR w).alloc _).alloc _;have HS1:Hid (((w.alloc (.cells #[.slice a s.fibers.length c,.int .i64 s.now,.slice b s.out.length d] 58)).alloc (.cells #[.slice none 0 0,.int .i64 0,.slice none 0 0] 58)).heap.size=w.heap.size+2):=by unfold Hid;simp
  go_enter Tryz.func119,Tryz.ntmps119
  go_upto_region 4 with (first
   | (go_at_call 118;(with_reducible refine(zHs s _ T _ (zW.stays (Ext.stays (by ((repeat first|assumption|exact eR _|exact And.left (by assumption)|apply eA|apply eD|apply eN|refine eS ?_ (by simp<;>omega) _|refine eT ?_ (by assumption));done))) HS.out) HFEW.out).mono ?_);rintro e w2 ⟨⟨P,rfl,hO,hg⟩,hx2⟩;obtain⟨av,cv,ev,_,_⟩:=hO.row.shape;obtain⟨ao,co,eo,_,_⟩:=hO.out.shape;rw [ev,eo];have HO:=eH hO;have HGP:=eH hg;have HX2:=eH hx2;have HEV:=eH ev;have HEO:=eH eo;clear hO hg hx2 ev eo))
  have hO:=HO.out;rw [HS1.out] at hO;have hb3:OwnS (w2.alloc (.cells #[.slice av P.fs.length cv,.int .i64 P.now,.slice ao P.out.length co] 58)) (w.heap.size+2) w2.heap.size P :=
   (hO.ext ((eR _).alloc _)).box (by rw [HEV.out];exact Cx.new w2 [.slice av P.fs.length cv,.int .i64 P.now,.slice ao P.out.length co] _ (j:=0) rfl) (Cx.new w2 [.slice av P.fs.length cv,.int .i64 P.now,.slice ao P.out.length co] _ (j:=1) rfl) (by rw [HEO.out];exact Cx.new w2 [.slice av P.fs.length cv,.int .i64 P.now,.slice ao P.out.length co] _ (j:=2) rfl)
    (by have:=(HX2.out).size;have:=HS1.out;omega) (fun hm=>by have:=hO.lt _ hm;omega)
  have HB3:=eH hb3;have HE3:Hid (Ext w (w2.alloc (.cells #[.slice av P.fs.length cv,.int .i64 P.now,.slice ao P.out.length co] 58))):=((HE1.out).trans HX2.out).alloc _;have HC3:=eH (⟨((c0.out).ext HX2.out).ext ((eR _).alloc (.cells #[.slice av P.fs.length cv,.int .i64 P.now,.slice ao P.out.length co] 58)),((c1.out).ext HX2.out).ext ((eR _).alloc (.cells #[.slice av P.fs.length cv,.int .i64 P.now,.slice ao P.out.length co] 58)),((c2.out).ext HX2.out).ext ((eR _).alloc (.cells #[.slice av P.fs.length cv,.int .i64 P.now,.slice ao P.out.length co] 58))⟩:_∧_∧_);generalize w2.alloc (.cells #[.slice av P.fs.length cv,.int .i64 P.now,.slice ao P.out.length co] 58)=w3 at *;have hp3:zM w3 (·<w.heap.size+2) (.slice ap p.length cp) p:=zM.stays (stays_below HE3.out (by omega)) HP.out;have HP3:=eH hp3;have HFIT3:Hid (zEr p P.g):=by unfold Hid;rw [HGP.out];exact HFIT.out
  have HFEW3:Hid (FewS P.g):=by unfold Hid;rw [HGP.out];exact HFEW.out
  obtain⟨bb,hbb⟩:∃bb,w2.heap.size=bb:=⟨_,rfl⟩
  rw [hbb] at HB3 ⊢;clear hb3 hO hp3 c0 c1 c2 hbb;rename World=>w3
  by_cases he:(kF p s).1=0
  ·have HG:Hid (yM p s=(0,(kF p s).2)):=by unfold Hid yM;rw [if_neg (show ¬s.now<0 by have:=HN.out;omega),if_pos he]
   have HE:=eH he;clear he
   go_upto_region 7 with (first
    | (go_at_call 149;(with_reducible refine(done_any p _ HP3.out HB3.out HFEW3.out HFIT3.out).mono ?_);rintro e w4 ⟨rfl,d4⟩;rw [HGP.out,HE.out];rw [HGP.out] at d4;have D4:=eH d4;clear d4))
   obtain⟨⟨P4,o4,g4,s4⟩,k4⟩:=(D4.out).turn HE.out;obtain⟨av4,cv4,ev4,_,_⟩:=o4.row.shape;obtain⟨ao4,co4,eo4,_,_⟩:=o4.out.shape;obtain⟨z0,z0'⟩:=o4.c0;obtain⟨z1,z1'⟩:=o4.c1;obtain⟨z2,z2'⟩:=o4.c2;rw [ev4] at z0;rw [eo4] at z2;have hnb:¬(w.heap.size+1∈bb::P.bl):=fun hm=>by have:=(HB3.out).ge _ hm;omega
   obtain⟨r0,r0'⟩:=(HC3.out).1.chg k4 hnb;obtain⟨r1,r1'⟩:=(HC3.out).2.1.chg k4 hnb;obtain⟨r2,r2'⟩:=(HC3.out).2.2.chg k4 hnb;have hE4:Ext w w4:=Chg.ext_from HE3.out k4 (fun n hn=>by have:=(HB3.out).ge n hn;omega);have HE4:=eH hE4;have HO4:=eH o4;have HG4:=eH g4;have HEV4:=eH ev4;have HEO4:=eH eo4;clear o4 g4 s4 k4 ev4 eo4 hnb hE4
   go_wp2_with fail
   refine bodyPost_ret (kI rfl _ _ (w.heap.size+1) 0 _ _ rfl (box3 ⟨r0,r0'⟩ ⟨r1,r1'⟩ ⟨r2,r2'⟩ _ _ _) rfl rfl (by kernel_rfl)) rfl ?_;rw [HG.out];refine⟨⟨_,rfl,?_⟩,((HE4.out.setCell (p:=⟨w.heap.size+1,0,none⟩) (Nat.le_succ _) _).setCell (p:=⟨w.heap.size+1,1,none⟩) (Nat.le_succ _) _).setCell (p:=⟨w.heap.size+1,2,none⟩) (Nat.le_succ _) _⟩;have h9:=(HO4.out).chg (chg3 w4 (w.heap.size+1) (.slice av4 P4.fs.length cv4) (.int .i64 P4.now) (.slice ao4 P4.out.length co4)) (fun e=>by have h1:=(HO4.out).le;have h2:bb=w.heap.size+1:=e;omega) (fun g hg e=>by have h1:=(HO4.out).ge g (List.mem_cons_of_mem _ hg);have h2:g=w.heap.size+1:=e;omega);exact⟨P4,by rw [HEV4.out,HEO4.out],h9.rows.mono (by omega),HG4.out⟩
  ·have HG:Hid (yM p s=((kF p s).1,⟨[],0,[]⟩)):=by unfold Hid yM;rw [if_neg (show ¬s.now<0 by have:=HN.out;omega),if_neg he]
   have TE:((kF p s).1 != 0)=true:=bne_iff_ne.2 he;obtain⟨re,hre⟩:∃re,(kF p s).1=re:=⟨_,rfl⟩
   rw [hre] at TE HG;have HRE:=eH hre;clear he hre
   go_upto_region 6 with (first
    | (go_at_call 149;(with_reducible refine(done_any p _ HP3.out HB3.out HFEW3.out HFIT3.out).mono ?_);rintro e w4 ⟨rfl,d4⟩;rw [HGP.out,HRE.out];have K4:=eH d4.chg;clear d4))
   have hnb:¬(w.heap.size+1∈bb::P.bl):=fun hm=>by have:=(HB3.out).ge _ hm;omega
   obtain⟨r0,r0'⟩:=(HC3.out).1.chg K4.out hnb;obtain⟨r1,r1'⟩:=(HC3.out).2.1.chg K4.out hnb;obtain⟨r2,r2'⟩:=(HC3.out).2.2.chg K4.out hnb;have HE4:Hid (Ext w w4):=Chg.ext_from HE3.out K4.out (fun n hn=>by have:=(HB3.out).ge n hn;omega);clear hnb
   go_wp2_with fail
   refine bodyPost_ret (kI rfl _ _ (w.heap.size+1) 0 [.slice none 0 0,.int .i64 0,.slice none 0 0] _ rfl (box3 ⟨r0,r0'⟩ ⟨r1,r1'⟩ ⟨r2,r2'⟩ _ _ _) rfl rfl (by kernel_rfl)) rfl ?_;rw [HG.out];exact⟨⟨_,rfl,zDi _ _⟩,((HE4.out.setCell (p:=⟨w.heap.size+1,0,none⟩) (Nat.le_succ _) _).setCell (p:=⟨w.heap.size+1,1,none⟩) (Nat.le_succ _) _).setCell (p:=⟨w.heap.size+1,2,none⟩) (Nat.le_succ _) _⟩
end Go.Proofs.YtpcjkfppacnkgaaGreatDoor
end
section
namespace Go.Proofs.YtpcjkfppacnkgaaGreatDoor
open Go Go.RowKit
theorem frame_own (p:List GFunc) (v:Value) (S:Nat→Prop) (n:Nat) (f:Int) (hf:f=(n:Int)) (w:World) (hp:zM w S v p) (hn:n<p.length) (hR:RightF p p[n]) :
  Calls Tryz.prog 68 #[v,.int .i64 f] w fun e w'=>(∃g N,e=.returned (.agg #[.int .i64 f,.int .i64 0,.slice (some ⟨g,0,none⟩) N N,.slice none 0 0])∧kY p f=⟨f,0,List.replicate N 0,[]⟩∧N≤4∧I64 f∧w.heap.size≤g∧IRow w' w.heap.size g (List.replicate N 0))∧Ext w w':=by
 have hloc:=hR.locals;obtain⟨b,o,cap,rfl,hcap,hby,_,⟨_,hL,iL⟩,_⟩:=hp.get hn;obtain⟨N,hN⟩:∃N:Nat,p[n].locals=N:=⟨p[n].locals.toNat,by omega⟩
 have HG:Hid (kY p f=⟨f,0,List.replicate N 0,[]⟩):=by
  unfold Hid kY zI;rw [show f.toNat=n by omega,show p.getD n default=p[n] by simp [List.getD,List.getElem?_eq_getElem hn],hN];rfl
 rw [hN] at hL hloc;have hN4:N≤4:=by omega
 have hnI:I64 f:=by rw [hf];exact I64.nat (by omega)
 have FN:0≤f:=by omega
 have FL:f<(p.length:Int):=by omega
 have FT:f.toNat=n:=by omega
 obtain⟨i0,hi0,hz0,hz1,hz2⟩:=info_parts vM;have RA:=zF;have c0:=eH (Cx.new w [.int .i64 0,.int .i64 0,.slice none 0 0,.slice none 0 0] 108 (j:=0) rfl);have c1:=eH (Cx.new w [.int .i64 0,.int .i64 0,.slice none 0 0,.slice none 0 0] 108 (j:=1) rfl);have c2:=eH (Cx.new w [.int .i64 0,.int .i64 0,.slice none 0 0,.slice none 0 0] 108 (j:=2) rfl);have c3:=eH (Cx.new w [.int .i64 0,.int .i64 0,.slice none 0 0,.slice none 0 0] 108 (j:=3) rfl);clear hR hp hN hf;go_enter Tryz.func68,Tryz.ntmps68
 go_wp2_with (first
  | (at_make;refine wpList_make_full _ rfl _ _ 30 rfl (w.heap.size+1) 3 i0 (.int .i64 0) 1 Tryz.underlying30 hi0 hz0 hz1 .i64 .i64 _ _ N rfl rfl rfl rfl (by rw [hz2];omega) (by unfold maxLen;omega) (by simp) ?_;intro w3 hown3 hgr3;have hE3:=uR hgr3;have hrow:=IRow.made hown3;obtain⟨⟨d0,d0'⟩,⟨d1,d1'⟩,⟨d2,d2'⟩,⟨d3,d3'⟩⟩:=(⟨c0.out.ext hE3,c1.out.ext hE3,c2.out.ext hE3,c3.out.ext hE3⟩:_∧_∧_∧_)))
 have hs1:(w.alloc (.cells #[.int .i64 0,.int .i64 0,.slice none 0 0,.slice none 0 0] 108)).heap.size=w.heap.size+1:=Array.size_push _;rw [hs1] at hrow;refine bodyPost_ret (qG rfl _ _ w.heap.size 0 _ _ rfl (box4 ⟨d0,d0'⟩ ⟨d1,d1'⟩ ⟨d2,d2'⟩ ⟨d3,d3'⟩ _ _ _ _) rfl rfl (by kernel_rfl)) rfl ?_;refine⟨⟨w.heap.size+1,N,rfl,HG.out,hN4,hnI,Nat.le_succ _,?_⟩,ext4 (((eR w).alloc _).trans hE3) _ _ _ _⟩;exact(hrow.chg (chg4 w3 w.heap.size (.int .i64 f) (.int .i64 0) (.slice (some ⟨w.heap.size+1,0,none⟩) N N) (.slice none 0 0)) (by omega)).mono (Nat.le_succ _)
theorem begin_rows {w3:World} {B base bx g N:Nat} {f:Int} (t1 t2:TypeId) (h:IRow w3 base g (List.replicate N 0)) (hf:I64 f) (hN:N≤4) (hB:B≤bx) (hb:bx<base) (hb3:bx<w3.heap.size) (u v z:Value) :
  kZ (((((w3.alloc (.cells #[.int .i64 f,.int .i64 0,.slice (some ⟨g,0,none⟩) N N,.slice none 0 0] t1)).alloc (.cells #[.slice (some ⟨w3.heap.size,0,none⟩) 1 1,.int .i64 (-1)] t2)).setCell ⟨bx,0,none⟩ u).setCell ⟨bx,1,none⟩ v).setCell ⟨bx,2,none⟩ z) B
   (.agg #[.slice (some ⟨w3.heap.size+1,0,none⟩) 1 1,.int .i64 0,.slice none 0 0]) ⟨[⟨[⟨f,0,List.replicate N 0,[]⟩],-1⟩],0,[]⟩:=by
 have hs4:(w3.alloc (.cells #[.int .i64 f,.int .i64 0,.slice (some ⟨g,0,none⟩) N N,.slice none 0 0] t1)).heap.size=w3.heap.size+1:=Array.size_push _;have hE4:Ext w3 (w3.alloc (.cells #[.int .i64 f,.int .i64 0,.slice (some ⟨g,0,none⟩) N N,.slice none 0 0] t1)):=(eR _).alloc _;have hr4:=RowAt.made w3 #[.int .i64 f,.int .i64 0,.slice (some ⟨g,0,none⟩) N N,.slice none 0 0] t1 4 1 B (by omega) (by unfold maxLen;omega) rfl;generalize w3.alloc (.cells #[.int .i64 f,.int .i64 0,.slice (some ⟨g,0,none⟩) N N,.slice none 0 0] t1)=w4 at *;have hE5:Ext w4 (w4.alloc (.cells #[.slice (some ⟨w3.heap.size,0,none⟩) 1 1,.int .i64 (-1)] t2)):=(eR _).alloc _;have hr5:=RowAt.made w4 #[.slice (some ⟨w3.heap.size,0,none⟩) 1 1,.int .i64 (-1)] t2 2 1 B (by omega) (by unfold maxLen;omega) rfl;rw [hs4] at hr5;generalize w4.alloc (.cells #[.slice (some ⟨w3.heap.size,0,none⟩) 1 1,.int .i64 (-1)] t2)=w5 at *;have hch:=chg3 w5 bx u v z;generalize ((w5.setCell ⟨bx,0,none⟩ u).setCell ⟨bx,1,none⟩ v).setCell ⟨bx,2,none⟩ z=w6 at *;have hg3:∀k,zB (.slice (some ⟨g,0,none⟩) N N)=some k→k=g∧base≤g∧g<w3.heap.size:=fun k hk=>by
  have h1:=h.lt2 (by decide) k (by rw [List.length_replicate];exact hk);have h2:=h.le k (by rw [List.length_replicate];exact hk);have:k=g:=by
   by_cases hN0:N=0
   ·subst hN0;simp [zB] at hk
   ·rw [zK _ _ _ _ hN0] at hk;cases hk;rfl
  subst this;exact⟨rfl,h2,h1⟩
 have hin:ints (List.replicate N 0)=ints (List.replicate N 0):=rfl;have hloc:RowAt w6 B 1 (.slice (some ⟨g,0,none⟩) N N) (List.replicate N (0:Int)).length (ints (List.replicate N 0)):=by
  have h1:=(((h.ext hE4).ext hE5).mono (show B≤base by omega))
  unfold IRow at h1;rw [List.length_replicate] at h1 ⊢;exact h1.chg hch (fun k hk e=>by obtain⟨rfl,h2,_⟩:=hg3 k hk;omega) (by decide)
 have b4:zB (.slice (some ⟨w3.heap.size,0,none⟩) 1 1)=some w3.heap.size:=zK _ _ _ _ (by decide);have b5:zB (.slice (some ⟨w3.heap.size+1,0,none⟩) 1 1)=some (w3.heap.size+1):=zK _ _ _ _ (by decide);have b0:zB (.slice none 0 0)=none:=rfl;refine⟨⟨[⟨[⟨⟨f,0,List.replicate N 0,[]⟩,.slice (some ⟨g,0,none⟩) N N,.slice none 0 0⟩],-1,.slice (some ⟨w3.heap.size,0,none⟩) 1 1⟩],0,[],.slice (some ⟨w3.heap.size+1,0,none⟩) 1 1,.slice none 0 0⟩,rfl,⟨⟨I64.zero,by simp⟩,?_,RowAt.nil _ _ _ _,?_,by simp,?_⟩,rfl⟩
 ·exact hr5.chg hch (fun k hk e=>by rw [b5] at hk;cases hk;omega) (by decide)
 ·intro y hy;rw [List.mem_singleton.1 hy];refine⟨I64.neg1,(hr4.ext hE5 (by decide)).chg hch (fun k hk e=>by rw [b4] at hk;cases hk;omega) (by decide),?_,by simp⟩;intro x hx;rw [List.mem_singleton.1 hx];refine⟨⟨hf,I64.zero,fun n hn=>by rw [List.eq_of_mem_replicate hn];exact I64.zero,by simp⟩,hloc,RowAt.nil _ _ _ _,by simp;try omega,by simp⟩
 ·unfold PState.bl PFiber.bl PFrame.bl;simp only [List.flatMap_cons,List.flatMap_nil,b4,b5,b0,Option.toList_some,Option.toList_none,List.append_nil]
  cases hk:zB (.slice (some ⟨g,0,none⟩) N N) with
  | none=>simp
  | some k =>
   obtain⟨rfl,h2,h3⟩:=hg3 k hk;simp
   try omega
theorem first_own (p:List GFunc) (v:Value) (S:Nat→Prop) (w:World) (hp:zM w S v p) (hz:zZ p=0) :
  Calls Tryz.prog 27 #[v] w fun e w'=>(∃x,e=.returned x∧kZ w' w.heap.size x (kG p))∧Ext w w':=by
 have HP:=eH hp;have hRP:=kH hz;have hpos:=hRP.pos;obtain⟨_,_,hR'⟩:=vA (hRP.func 0 hpos);have hR:RightF p p[0]:=by have:=hR' (by simpa using hpos);simpa using this
 have RA:=zF;have c0:=eH (Cx.new w [.slice none 0 0,.int .i64 0,.slice none 0 0] 58 (j:=0) rfl);have c1:=eH (Cx.new w [.slice none 0 0,.int .i64 0,.slice none 0 0] 58 (j:=1) rfl);have c2:=eH (Cx.new w [.slice none 0 0,.int .i64 0,.slice none 0 0] 58 (j:=2) rfl);have HS1:Hid ((w.alloc (.cells #[.slice none 0 0,.int .i64 0,.slice none 0 0] 58)).heap.size=w.heap.size+1):=Array.size_push _;obtain⟨a,cap,rfl,_,_,_⟩:=hp;obtain⟨F,hF⟩:∃F,kY p 0=F:=⟨_,rfl⟩
 have HF:=eH hF;have HG:Hid (kG p=⟨[⟨[F],-1⟩],0,[]⟩):=by unfold Hid kG;rw [←hF]
 rw [HG.out];clear hz hRP hF;go_enter Tryz.func27,Tryz.ntmps27
 go_wp2_with (first
  | (go_at_call 68;refine(frame_own p _ S 0 0 rfl _ (zM.stays (Ext.stays ((eR w).alloc _)) HP.out) hpos hR).mono ?_;rintro e w3 ⟨⟨g,N,rfl,hfx,hN,hI,hg,hrow⟩,hE3⟩;rw [HS1.out] at hrow hg;rw [HF.out] at hfx;have HE4:=eH ((hE3.alloc (.cells #[.int .i64 0,.int .i64 0,.slice (some ⟨g,0,none⟩) N N,.slice none 0 0] 108)).alloc (.cells #[.slice (some ⟨w3.heap.size,0,none⟩) 1 1,.int .i64 (-1)] 112));obtain⟨⟨d0,d0'⟩,⟨d1,d1'⟩,⟨d2,d2'⟩⟩:=(⟨c0.out.ext HE4.out,c1.out.ext HE4.out,c2.out.ext HE4.out⟩:_∧_∧_)))
 refine bodyPost_ret (qG rfl _ _ w.heap.size 0 _ _ rfl (box3 ⟨d0,d0'⟩ ⟨d1,d1'⟩ ⟨d2,d2'⟩ _ _ _) rfl rfl (by kernel_rfl)) rfl ?_;refine⟨⟨_,rfl,?_⟩,ext3 (((eR w).alloc _).trans (hE3.trans (((eR _).alloc _).alloc _))) _ _ _⟩;have hsz:=hE3.size;rw [HS1.out] at hsz;subst hfx;exact begin_rows 108 112 hrow hI hN (Nat.le_refl _) (Nat.lt_succ_self _) (by omega) _ _ _
end Go.Proofs.YtpcjkfppacnkgaaGreatDoor
end
section
namespace Go.Proofs.YtpcjkfppacnkgaaGreatDoor
open Go Go.RowKit Go.Deep Go.ChangeShapes Go.WideShapes Go.ChangeAt
end Go.Proofs.YtpcjkfppacnkgaaGreatDoor
end
