/- Contracts and plain facts. -/
import Derived.Test.YtpcjkfppacnkgaaGreatDoorGPAH
import Derived.Test.YtpcjkfppacnkgaaGreatDoorGPAI
set_option maxHeartbeats 4000000
set_option maxRecDepth 100000
namespace Go.Proofs.YtpcjkfppacnkgaaGreatDoor
open Go Go.RowKit
theorem zGy {A X X' C:List Nat} {n:Nat} (h:(A++X++C).Nodup) (hX:X'.Nodup) (hs:∀g∈X',g∈X∨n≤g) (hlt:∀g∈A++C,g<n):(A++X'++C).Nodup:=by
 rw [List.append_assoc,List.nodup_append] at h ⊢;obtain⟨hA,hXC,hd⟩:=h;rw [List.nodup_append] at hXC ⊢;obtain⟨_,hC,hd2⟩:=hXC;refine⟨hA,⟨hX,hC,fun a ha c hc e=>?_⟩,fun a ha c hc e=>?_⟩
 ·rcases hs a ha with h1 | h1
  ·exact hd2 a h1 c hc e
  ·have:=hlt c (List.mem_append.2 (.inr hc));omega
 ·rcases List.mem_append.1 hc with h1 | h1
  ·rcases hs c h1 with h2 | h2
   ·exact hd a ha c (List.mem_append.2 (.inl h2)) e
   ·have:=hlt a (List.mem_append.2 (.inl ha));omega
  ·exact hd a ha c (List.mem_append.2 (.inr h1)) e
theorem nodup_swap' {A X X' C:List Nat} (h:(A++X++C).Nodup) (hX:X'.Nodup) (hs:∀g∈X',g∈X∨g ∉ A++C):(A++X'++C).Nodup:=by
 rw [List.append_assoc,List.nodup_append] at h ⊢;obtain⟨hA,hXC,hd⟩:=h;rw [List.nodup_append] at hXC ⊢;obtain⟨_,hC,hd2⟩:=hXC;refine⟨hA,⟨hX,hC,fun a ha c hc e=>?_⟩,fun a ha c hc e=>?_⟩
 ·rcases hs a ha with h1 | h1
  ·exact hd2 a h1 c hc e
  ·exact h1 (List.mem_append.2 (.inr (e ▸ hc)))
 ·rcases List.mem_append.1 hc with h1 | h1
  ·rcases hs c h1 with h2 | h2
   ·exact hd a ha c (List.mem_append.2 (.inl h2)) e
   ·exact h2 (List.mem_append.2 (.inl (e ▸ ha)))
  ·exact hd a ha c (List.mem_append.2 (.inr h1)) e
theorem RowAt.lt2 {w:World} {base size:Nat} {v:Value} {n:Nat} {xs:List Value} (h:RowAt w base size v n xs) (hs:0<size):∀g,zB v=some g→g<w.heap.size:=by
 obtain⟨_,a,cap,rfl,_,_,h3⟩:=h;intro g hg;rcases h3 with h0 | ⟨g',o,rfl,_,_,ht⟩
 ·subst h0;cases a<;>simp [zB] at hg
 ·by_cases hc:cap=0
  ·subst hc;simp [zB] at hg
  ·rw [zK g' o n cap hc] at hg
   cases hg
   obtain⟨v,hv⟩:=Option.isSome_iff_exists.1 (ht 0 (Nat.mul_pos (by omega) hs)).1;exact zY hv
theorem FrameO.lt {W:World} {B:Nat} {x:PFrame} (h:FrameO W B x):∀g∈x.bl,g<W.heap.size:=by
 intro g hg;unfold PFrame.bl at hg;rcases List.mem_append.1 hg with h1 | h1
 ·exact h.l.lt2 (by decide) g (by simpa using h1)
 ·exact h.s.lt2 (by decide) g (by simpa using h1)
theorem FiberO.lt {W:World} {B:Nat} {y:PFiber} (h:FiberO W B y):∀g∈y.bl,g<W.heap.size:=by
 intro g hg;unfold PFiber.bl at hg;rcases List.mem_append.1 hg with h1 | h1
 ·exact h.row.lt2 (by decide) g (by simpa using h1)
 ·obtain⟨x,hx,h2⟩:=List.mem_flatMap.1 h1;exact(h.fr x hx).lt g h2
theorem OwnS.lt {W:World} {B b:Nat} {P:PState} (h:OwnS W B b P):∀g∈b::P.bl,g<W.heap.size:=by
 intro g hg;rcases List.mem_cons.1 hg with rfl | hg
 ·exact h.c0.lt
 ·unfold PState.bl at hg;rcases List.mem_append.1 hg with h1 | h1
  ·rcases List.mem_append.1 h1 with h2 | h2
   ·exact h.row.lt2 (by decide) g (by simpa using h2)
   ·exact h.out.lt2 (by decide) g (by simpa using h2)
  ·obtain⟨y,hy,h2⟩:=List.mem_flatMap.1 h1;exact(h.fs y hy).lt g h2
theorem OwnS.frame {W W':World} {B b:Nat} {P:PState} {L R:List PFiber} {F G:List PFrame} {y:PFiber} {x x':PFrame} {M:Nat→Prop} (h:OwnS W B b P) (hP:P.fs=L++y::R) (hy:y.fr=F++x::G)
  (hc:Chg M W W') (hM:∀g,M g→g<W.heap.size→zB y.vf=some g∨g∈x.bl) (hx:FrameO W' B x') (hrow:RowAt W' B 4 y.vf (F++x'::G).length ((F++x'::G).flatMap frameF))
  (hn:x'.bl.Nodup) (hs:∀g∈x'.bl,g∈x.bl∨W.heap.size≤g) :
  OwnS W' B b { P with fs:=L++{ y with fr:=F++x'::G }::R }:=by
 have hlt:=h.lt;have hyO:=h.fs y (by rw [hP];simp)
 let A:=b::((zB P.vfs).toList++(zB P.vo).toList++L.flatMap PFiber.bl++(zB y.vf).toList++F.flatMap PFrame.bl)
 let C:=G.flatMap PFrame.bl++R.flatMap PFiber.bl
 have hbl:b::P.bl=A++x.bl++C:=by
  show b::P.bl=b::_++x.bl++C;unfold PState.bl;rw [hP,List.flatMap_append,List.flatMap_cons];have:y.bl=(zB y.vf).toList++(F.flatMap PFrame.bl++(x.bl++G.flatMap PFrame.bl)):=by unfold PFiber.bl;rw [hy,List.flatMap_append,List.flatMap_cons]
  rw [this];simp [C,List.append_assoc]
 have hnd:=h.nodup;rw [hbl] at hnd hlt;have hfree:∀g,g∈A++C→zB y.vf≠some g→¬M g:=fun g hg hvf hm=>by
  rcases hM g hm (hlt g (by rcases List.mem_append.1 hg with h1 | h1<;>simp [h1])) with h1 | h1
  ·exact hvf h1
  ·rw [List.append_assoc,List.nodup_append] at hnd;obtain⟨_,h2,h3⟩:=hnd;rw [List.nodup_append] at h2;rcases List.mem_append.1 hg with h4 | h4
   ·exact h3 g h4 g (by simp [h1]) rfl
   ·exact h2.2.2 g h1 g h4 rfl
 have hnot:∀g,zB y.vf=some g→∀g',g'∈(b::((zB P.vfs).toList++(zB P.vo).toList++L.flatMap PFiber.bl))∨g'∈F.flatMap PFrame.bl++C→g≠g':=fun g hg g' h1 e=>by
  subst e;have hA:A=(b::((zB P.vfs).toList++(zB P.vo).toList++L.flatMap PFiber.bl))++(zB y.vf).toList++F.flatMap PFrame.bl:=by simp [A,List.append_assoc]
  rw [hA,List.append_assoc,List.append_assoc,List.append_assoc,List.nodup_append] at hnd;obtain⟨_,h2,h3⟩:=hnd;rcases h1 with h1 | h1
  ·exact h3 g h1 g (by simp [hg]) rfl
  ·rw [List.nodup_append] at h2;refine h2.2.2 g (by simp [hg]) g ?_ rfl;rcases List.mem_append.1 h1 with h4 | h4<;>simp [h4]
 have hA':A=(b::((zB P.vfs).toList++(zB P.vo).toList++L.flatMap PFiber.bl))++(zB y.vf).toList++F.flatMap PFrame.bl:=by simp [A,List.append_assoc]
 have ne:∀g,(g∈(b::((zB P.vfs).toList++(zB P.vo).toList++L.flatMap PFiber.bl))∨g∈F.flatMap PFrame.bl++C)→¬M g:=fun g hg=>by
  refine hfree g ?_ (fun e=>hnot g e g hg rfl);rcases hg with h1 | h1
  ·exact List.mem_append.2 (.inl (by rw [hA',List.append_assoc];exact List.mem_append.2 (.inl h1)))
  ·rcases List.mem_append.1 h1 with h2 | h2
   ·exact List.mem_append.2 (.inl (by simp only [A];simp [h2]))
   ·exact List.mem_append.2 (.inr h2)
 have hb:¬M b:=ne b (.inl (by simp));have hcells:(L++{ y with fr:=F++x'::G }::R).flatMap kK=P.fs.flatMap kK:=by rw [hP,List.flatMap_append,List.flatMap_append,List.flatMap_cons,List.flatMap_cons];rfl
 have hlen:(L++{ y with fr:=F++x'::G }::R).length=P.fs.length:=by rw [hP];simp
 have hflen:(F++x'::G).length=y.fr.length:=by rw [hy];simp
 have hbl':b::PState.bl { P with fs:=L++{ y with fr:=F++x'::G }::R }=A++x'.bl++C:=by
  show b::_=b::_++x'.bl++C;unfold PState.bl;simp only [List.flatMap_append,List.flatMap_cons];have:PFiber.bl { y with fr:=F++x'::G }=(zB y.vf).toList++(F.flatMap PFrame.bl++(x'.bl++G.flatMap PFrame.bl)):=by unfold PFiber.bl;simp only [List.flatMap_append,List.flatMap_cons]
  rw [this];simp [C,List.append_assoc]
 refine⟨h.c0.chg hc hb,h.c1.chg hc hb,h.c2.chg hc hb,h.i,?_,h.out.chg hc (fun g e=>ne g (.inl (by simp [e]))) (by decide),fun z hz=>?_,h.le,?_,?_⟩
 ·show RowAt W' B 2 P.vfs (L++{ y with fr:=F++x'::G }::R).length ((L++{ y with fr:=F++x'::G }::R).flatMap kK);rw [hcells,hlen];exact h.row.chg hc (fun g e=>ne g (.inl (by simp [e]))) (by decide)
 ·have hz':z∈L++{ y with fr:=F++x'::G }::R:=hz;rcases List.mem_append.1 hz' with h1 | h1
  ·refine(h.fs z (by rw [hP];simp [h1])).chg hc fun g hg=>ne g (.inl ?_)
   exact List.mem_cons_of_mem _ (List.mem_append.2 (.inr (List.mem_flatMap.2 ⟨z,h1,hg⟩)))
  ·rcases List.mem_cons.1 h1 with rfl | h1
   ·refine⟨hyO.i,hrow,fun u hu=>?_,by show (F++x'::G).length≤1000;rw [hflen];exact hyO.few⟩;have hu':u∈F++x'::G:=hu;rcases List.mem_append.1 hu' with h2 | h2
    ·exact(hyO.fr u (by rw [hy];simp [h2])).chg hc fun g hg=>ne g (.inr (List.mem_append.2 (.inl (List.mem_flatMap.2 ⟨u,h2,hg⟩))))
    ·rcases List.mem_cons.1 h2 with rfl | h2
     ·exact hx
     ·exact(hyO.fr u (by rw [hy];simp [h2])).chg hc fun g hg=>ne g (.inr (List.mem_append.2 (.inr (List.mem_append.2 (.inl (List.mem_flatMap.2 ⟨u,h2,hg⟩))))))
   ·exact(h.fs z (by rw [hP];simp [h1])).chg hc fun g hg=>ne g (.inr (List.mem_append.2 (.inr (List.mem_append.2 (.inr (List.mem_flatMap.2 ⟨z,h1,hg⟩))))))
 ·show (L++{ y with fr:=F++x'::G }::R).length≤1000∧P.out.length≤1000;rw [hlen];exact h.few
 ·rw [hbl'];exact zGy hnd hn hs fun g hg=>hlt g (by rcases List.mem_append.1 hg with h1 | h1<;>simp [h1])
def kY (p:List GFunc) (f:Int):GFrame:=⟨f,0,List.replicate (zI p f).locals.toNat 0,[]⟩
def kG (p:List GFunc):GState:=⟨[⟨[kY p 0],-1⟩],0,[]⟩
theorem I64.zero:I64 0:=I64.small (by decide) (by decide)
theorem I64.neg1:I64 (-1):=I64.small (by decide) (by decide)
theorem zAh.cells {w:World} {S:Nat→Prop} {x:GFrame} {sl st:Value} {b o:Nat} (h:zAh w S (.agg #[.int .i64 x.func,.int .i64 x.at_,sl,st]) x) (hb:S b)
  (h0:w.cell? ⟨b,o,none⟩=some (.int .i64 x.func)) (h1:w.cell? ⟨b,o+1,none⟩=some (.int .i64 x.at_)) (h2:w.cell? ⟨b,o+2,none⟩=some sl) (h3:w.cell? ⟨b,o+3,none⟩=some st):FrameC w S b o x:=by
 obtain⟨s,t,e,i0,i1,hl,hs⟩:=h;simp only [Value.agg.injEq] at e;simp at e;obtain⟨rfl,rfl⟩:=e;exact⟨⟨hb,h0,i0⟩,⟨hb,h1,i1⟩,⟨_,h2,hl⟩,_,h3,hs⟩
theorem begin_state {w3:World} {B base bx:Nat} {x:GFrame} {sl st:Value} (t1 t2:TypeId) (h:zAh w3 (base≤·) (.agg #[.int .i64 x.func,.int .i64 x.at_,sl,st]) x) (hB:B≤bx) (hb:bx<base) (hb3:bx<w3.heap.size) (u v z:Value) :
  zW (((((w3.alloc (.cells #[.int .i64 x.func,.int .i64 x.at_,sl,st] t1)).alloc (.cells #[.slice (some ⟨w3.heap.size,0,none⟩) 1 1,.int .i64 (-1)] t2)).setCell ⟨bx,0,none⟩ u).setCell ⟨bx,1,none⟩ v).setCell ⟨bx,2,none⟩ z) (B≤·)
   (.agg #[.slice (some ⟨w3.heap.size+1,0,none⟩) 1 1,.int .i64 0,.slice none 0 0]) ⟨[⟨[x],-1⟩],0,[]⟩:=by
 have hs4:(w3.alloc (.cells #[.int .i64 x.func,.int .i64 x.at_,sl,st] t1)).heap.size=w3.heap.size+1:=Array.size_push _;have hE4:Ext w3 (w3.alloc (.cells #[.int .i64 x.func,.int .i64 x.at_,sl,st] t1)):=(eR _).alloc _;have f0:=Cx.new w3 [.int .i64 x.func,.int .i64 x.at_,sl,st] t1 (j:=0) rfl;have f1:=Cx.new w3 [.int .i64 x.func,.int .i64 x.at_,sl,st] t1 (j:=1) rfl;have f2:=Cx.new w3 [.int .i64 x.func,.int .i64 x.at_,sl,st] t1 (j:=2) rfl;have f3:=Cx.new w3 [.int .i64 x.func,.int .i64 x.at_,sl,st] t1 (j:=3) rfl;generalize w3.alloc (.cells [.int .i64 x.func,.int .i64 x.at_,sl,st].toArray t1)=w4 at *;have hE5:Ext w4 (w4.alloc (.cells #[.slice (some ⟨w3.heap.size,0,none⟩) 1 1,.int .i64 (-1)] t2)):=(eR _).alloc _;have g0:=Cx.new w4 [.slice (some ⟨w3.heap.size,0,none⟩) 1 1,.int .i64 (-1)] t2 (j:=0) rfl;have g1:=Cx.new w4 [.slice (some ⟨w3.heap.size,0,none⟩) 1 1,.int .i64 (-1)] t2 (j:=1) rfl;rw [hs4] at g0 g1;generalize w4.alloc (.cells [.slice (some ⟨w3.heap.size,0,none⟩) 1 1,.int .i64 (-1)].toArray t2)=w5 at *;have hch:=chg3 w5 bx u v z;generalize ((w5.setCell ⟨bx,0,none⟩ u).setCell ⟨bx,1,none⟩ v).setCell ⟨bx,2,none⟩ z=w6 at *;have hfr:zAh w6 (B≤·) (.agg #[.int .i64 x.func,.int .i64 x.at_,sl,st]) x:=zAh.stays (S:=(base≤·)) (fun b o u' hb' hc=>⟨hch.cell (by show ¬b=bx;have:base≤b:=hb';omega) (eC (hE4.trans hE5) hc),by show B≤b;have:base≤b:=hb';omega⟩) h;have k:∀j u',Cx w4 w3.heap.size j u'→w6.cell? ⟨w3.heap.size,j,none⟩=some u':=fun j u' h=>((h.ext hE5).chg hch (by omega)).1
 have k':∀j u',Cx w5 (w3.heap.size+1) j u'→w6.cell? ⟨w3.heap.size+1,j,none⟩=some u':=fun j u' h=>(h.chg hch (by omega)).1
 refine⟨_,_,rfl,Sl.one ⟨⟨_,k' _ _ g0,Sl.one (zAh.cells hfr (by show B≤w3.heap.size;omega) (k _ _ f0) (k _ _ f1) (k _ _ f2) (k _ _ f3)) (by decide)⟩,by show B≤w3.heap.size+1;omega,k' _ _ g1,I64.neg1⟩ (by decide),I64.zero,Sl.nil _ _ _⟩
theorem zFq (p:List GFunc) (v:Value) (S:Nat→Prop) (w:World) (hp:zM w S v p) (hz:zZ p=0) :
  Calls Tryz.prog 33 #[v] w fun e w'=>(∃x,e=.returned x∧zW w' (w.heap.size≤·) x (kG p))∧Ext w w':=by
 have hRP:=kH hz;have hpos:=hRP.pos;obtain⟨_,_,hR'⟩:=vA (hRP.func 0 hpos);have hR:RightF p p[0]:=by have:=hR' (by simpa using hpos);simpa using this
 have hloc:=hR.locals;have hF:zI p 0=p[0]:=by unfold zI;simp [List.getD,List.getElem?_eq_getElem hpos]
 obtain⟨b,o,cap,rfl,hcap,hby,_,⟨_,hL,iL⟩,_⟩:=hp.get hpos;rw [Nat.zero_mul,Nat.add_zero] at hL;obtain⟨N,hN⟩:∃N:Nat,p[0].locals=N:=⟨p[0].locals.toNat,by omega⟩
 have HG:Hid (kY p 0=⟨0,0,List.replicate N 0,[]⟩):=by unfold Hid kY;rw [hF,hN];rfl
 rw [hN] at hL hloc;have hN4:N≤4:=by omega
 obtain⟨i0,hi0,hz0,hz1,hz2⟩:=info_parts vM;have RA:=zF;have c0:=eH (Cx.new w [.slice none 0 0,.int .i64 0,.slice none 0 0] 58 (j:=0) rfl);have c1:=eH (Cx.new w [.slice none 0 0,.int .i64 0,.slice none 0 0] 58 (j:=1) rfl);have c2:=eH (Cx.new w [.slice none 0 0,.int .i64 0,.slice none 0 0] 58 (j:=2) rfl);clear hz hRP hR hF hp hN hR';go_enter Tryz.func33,Tryz.ntmps33
 go_wp2_with (first
  | (at_make;refine wpList_make_full _ rfl _ _ 30 rfl (w.heap.size+1) 3 i0 (.int .i64 0) 1 Tryz.underlying30 hi0 hz0 hz1 .i64 .i64 _ _ N rfl rfl rfl rfl (by rw [hz2];omega) (by unfold maxLen;omega) (by simp) ?_;intro w3 hown3 hgr3;have hE3:=uR hgr3;have hrow:=IRow.made hown3;have HE4:=eH ((hE3.alloc (.cells #[.int .i64 0,.int .i64 0,.slice (some ⟨w.heap.size+1,0,none⟩) N N,.slice none 0 0] 108)).alloc (.cells #[.slice (some ⟨w3.heap.size,0,none⟩) 1 1,.int .i64 (-1)] 112));obtain⟨⟨d0,d0'⟩,⟨d1,d1'⟩,⟨d2,d2'⟩⟩:=(⟨c0.out.ext HE4.out,c1.out.ext HE4.out,c2.out.ext HE4.out⟩:_∧_∧_)))
 have hs1:(w.alloc (.cells #[.slice none 0 0,.int .i64 0,.slice none 0 0] 58)).heap.size=w.heap.size+1:=Array.size_push _;rw [hs1] at hrow;have hfr:zAh w3 (w.heap.size+1≤·) (.agg #[.int .i64 0,.int .i64 0,.slice (some ⟨w.heap.size+1,0,none⟩) N N,.slice none 0 0]) ⟨0,0,List.replicate N 0,[]⟩:=by
  refine⟨_,_,rfl,I64.zero,I64.zero,?_,Sl.nil _ _ _⟩;show Ints w3 _ _ (List.replicate N 0);have:=hrow.ints (by rw [List.length_replicate];omega) (fun x hx=>by rw [List.eq_of_mem_replicate hx];exact I64.small (by decide) (by decide)) (w.heap.size+1≤·) (fun _ h=>h)
  rwa [List.length_replicate] at this
 have hsz:=hE3.size;have hs1:(w.alloc (.cells #[.slice none 0 0,.int .i64 0,.slice none 0 0] 58)).heap.size=w.heap.size+1:=Array.size_push _;refine bodyPost_ret (qG rfl _ _ w.heap.size 0 _ _ rfl (box3 ⟨d0,d0'⟩ ⟨d1,d1'⟩ ⟨d2,d2'⟩ _ _ _) rfl rfl (by kernel_rfl)) rfl ?_;refine⟨⟨_,rfl,?_⟩,ext3 (((eR w).alloc _).trans HE4.out) _ _ _⟩;unfold kG;rw [HG.out];exact begin_state (x:=⟨0,0,List.replicate N 0,[]⟩) 108 112 hfr (Nat.le_refl _) (Nat.lt_succ_self _) (by omega) _ _ _
theorem range4 {w:World} {b:Nat} {x y z u:Value} (h0:w.cell? ⟨b,0,none⟩=some x) (h1:w.cell? ⟨b,1,none⟩=some y) (h2:w.cell? ⟨b,2,none⟩=some z) (h3:w.cell? ⟨b,3,none⟩=some u):w.rangeAt b 0 [x,y,z,u]:=by
 intro j v hj;rw [Nat.zero_add]
 match j,hj with
 | 0,hj=>cases hj;exact h0
 | 1,hj=>cases hj;exact h1
 | 2,hj=>cases hj;exact h2
 | 3,hj=>cases hj;exact h3
theorem box4 {W:World} {b:Nat} {u0 u1 u2 u3:Value} (h0:Cx W b 0 u0) (h1:Cx W b 1 u1) (h2:Cx W b 2 u2) (h3:Cx W b 3 u3) (x y z u:Value) :
  ((((W.setCell ⟨b,0,none⟩ x).setCell ⟨b,1,none⟩ y).setCell ⟨b,2,none⟩ z).setCell ⟨b,3,none⟩ u).rangeAt b 0 [x,y,z,u] :=
 range4 ((((h0.set x).other (.inr (by decide)) y).other (.inr (by decide)) z).other (.inr (by decide)) u).1 ((((h1.other (.inr (by decide)) x).set y).other (.inr (by decide)) z).other (.inr (by decide)) u).1
  ((((h2.other (.inr (by decide)) x).other (.inr (by decide)) y).set z).other (.inr (by decide)) u).1 ((((h3.other (.inr (by decide)) x).other (.inr (by decide)) y).other (.inr (by decide)) z).set u).1
theorem chg4 (W:World) (b:Nat) (x y z u:Value):Chg (·=b) W ((((W.setCell ⟨b,0,none⟩ x).setCell ⟨b,1,none⟩ y).setCell ⟨b,2,none⟩ z).setCell ⟨b,3,none⟩ u):=(chg3 W b x y z).trans (zO _ _ 3 _)
theorem ext4 {w W:World} (h:Ext w W) (x y z u:Value):Ext w ((((W.setCell ⟨w.heap.size,0,none⟩ x).setCell ⟨w.heap.size,1,none⟩ y).setCell ⟨w.heap.size,2,none⟩ z).setCell ⟨w.heap.size,3,none⟩ u) :=
 (ext3 h x y z).setCell (p:=⟨w.heap.size,3,none⟩) (Nat.le_refl _) _
theorem funcOf_nat {p:List GFunc} {k:Nat} (hk:k<p.length):zI p k=p[k]:=by
 unfold zI;rw [show (k:Int).toNat=k by omega];simp [List.getD,List.getElem?_eq_getElem hk]
theorem Ints.at' {w:World} {S:Nat→Prop} {a:Option Addr} {l:List Int} {n c:Nat} (h:Ints w S (.slice a n c) l) {m:Nat} (hm:m<l.length):∃b o,a=some ⟨b,o,none⟩∧w.cell? ⟨b,o+m,none⟩=some (.int .i64 (l.getD m 0)):=by
 obtain⟨b,o,_,e1,_,_,_,x0,_⟩:=h.get hm;simp only [Value.slice.injEq] at e1;obtain⟨rfl,-,rfl⟩:=e1;rw [Nat.mul_one] at x0;refine⟨b,o,rfl,?_⟩;rw [x0];simp [List.getD,List.getElem?_eq_getElem hm]
theorem zFx (l:List Int) (v:Value) (x:Int) (S:Nat→Prop) (w:World) (hl:Ints w S v l) :
  Calls Tryz.prog 116 #[v,.int .i64 x] w fun e w'=>e=.returned (.bool (decide (x∈l)))∧Ext w w':=by
 have HL:=eH hl;obtain⟨pa,ca,rfl,hca,hba,_⟩:=hl;obtain⟨t,ht⟩:∃t,decide (x∈l)=t:=⟨_,rfl⟩
 rw [ht];have HT:=eH ht;clear ht;go_enter Tryz.func116,Tryz.ntmps116
 go_wp2_with fail
 go_loopw [5] (fun q wr=>∃k:Nat,k≤l.length∧q=.int .i64 k∧Ext w wr∧x ∉ l.take k) (fun q _=>l.length - (intOf q).toNat)
 case atStart=>exact⟨0,Nat.zero_le _,rfl,eR _,by simp⟩
 case round =>
  obtain⟨k,hk,rfl,hb3,htk⟩:=hrel;have HB3:=eH hb3;have HTK:=eH htk;clear hb3 htk;by_cases hlt:k<l.length
  ·obtain⟨ba,oa,_,e1,_,_,_,x0,_⟩:=HL.out.get hlt;simp only [Value.slice.injEq] at e1;obtain⟨rfl,-,rfl⟩:=e1;rw [Nat.mul_one] at x0;have x1:=eC HB3.out x0;have HM:Hid (l[k]∈l):=List.getElem_mem hlt;have HS:Hid (l.take (k+1)=l.take k++[l[k]]):=List.take_succ_eq_append_getElem hlt;clear x0;generalize l[k]=u at *;by_cases hu:u=x
   ·have TT:(u == x)=true:=by simp [hu]
    have HX:Hid (t=true):=by unfold Hid;rw [←HT.out];exact decide_eq_true (hu ▸ HM.out)
    clear hu
    go_wp2_with fail
    go_ret;exact⟨by rw [HX.out];rfl,HB3.out⟩
   ·have TT:(u == x)=false:=by simp [hu]
    have HX:Hid (x ∉ l.take (k+1)):=by unfold Hid;rw [HS.out,List.mem_append,List.mem_singleton];exact fun h=>h.elim HTK.out (fun e=>hu e.symm)
    clear hu
    go_wp2_with fail
    go_roundw
    case rel=>exact⟨k+1,by omega,by go_num,HB3.out,HX.out⟩
    case measure=>simp [intOf];omega
  ·obtain rfl:k=l.length:=by omega
   have HX:Hid (t=false):=by unfold Hid;rw [←HT.out];exact decide_eq_false (by have:=HTK.out;rwa [List.take_length] at this)
   go_wp2_with fail
   go_ret;exact⟨by rw [HX.out];rfl,HB3.out⟩
def lenV:Value→Nat
 | .slice _ n _=>n
 | _=>0
def zCp (B:Nat) (s:GState) (e:Ending) (w':World):Prop :=
 match yA s with
 | none=>e=.returned (.tuple #[.slice none 0 0,.bool false])
 | some l=>∃a c,e=.returned (.tuple #[.slice a l.length c,.bool (vR l)])∧Ints w' (B≤·) (.slice a l.length c) l
theorem lineGo_neg {fs:List GFiber} {k:Nat} {n:Int} {out:List Int} (h:n<0):jJ fs (k+1) n out=some out:=by unfold jJ;rw [if_pos h]
theorem lineGo_mem {fs:List GFiber} {k:Nat} {n:Int} {out:List Int} (h:¬n<0) (hm:n∈out):jJ fs (k+1) n out=none:=by unfold jJ;rw [if_neg h,if_pos hm]
theorem lineGo_next {fs:List GFiber} {k:Nat} {n:Int} {out:List Int} (h:¬n<0) (hm:n ∉ out):jJ fs (k+1) n out=jJ fs k (kM fs n) (out++[n]):=by rw [jJ,if_neg h,if_neg hm]
structure Callers (s:GState):Prop where
 now : -1≤s.now∧s.now≤(s.fibers.length:Int) - 1
 all:∀k,k<s.fibers.length → -1≤(s.fibers.getD k default).caller∧(s.fibers.getD k default).caller≤(s.fibers.length:Int) - 1
 few:s.fibers.length≤1000
theorem zDs (s:GState) (vs:Value) (T:Nat→Prop) (w:World) (hs:zW w T vs s) (hc:Callers s) :
    Calls Tryz.prog 115 #[vs] w fun e w'=>zCp w.heap.size s e w'∧Ext w w':=by
  obtain⟨fs,now,outs⟩:=s;obtain⟨x,y,rfl,hfs,_,hout⟩:=hs;have HFS:=eH hfs;obtain⟨af,cf,rfl,_,_,_⟩:=hfs;obtain⟨ao,co,rfl,_,_,_⟩:=hout;simp only at *;have RA:=zF;obtain⟨i0,hi0,hz0,hz1,hz2⟩:=info_parts vM;have HC:=eH hc;have hfew:=hc.few;simp only at hfew;clear hc;obtain⟨S,hS⟩:∃S:GState,(⟨fs,now,outs⟩:GState)=S:=⟨_,rfl⟩
  have hl0:jJ fs (fs.length+2 - ([]:List Int).length) now []=yA S:=by rw [←hS];rfl
  have HS:=eH hS;have bx0:=eH (Cx.new w [.slice af fs.length cf,.int .i64 now,.slice ao outs.length co] 58 (j:=0) rfl);have bx1:=eH (Cx.new w [.slice af fs.length cf,.int .i64 now,.slice ao outs.length co] 58 (j:=1) rfl);have hE1:=(eR w).alloc (.cells #[.slice af fs.length cf,.int .i64 now,.slice ao outs.length co] 58);have hL0:LineOn fs now []:=⟨HC.out.now,List.nodup_nil,by simp⟩
  have HL0:=eH hl0;have HLN:=eH hL0;have HE1:=eH hE1;have HSZ1:Hid ((w.alloc (.cells #[.slice af fs.length cf,.int .i64 now,.slice ao outs.length co] 58)).heap.size=w.heap.size+1):=Array.size_push _;rw [hS];clear hl0 hL0 hE1 hS;go_enter Tryz.func115,Tryz.ntmps115
  go_wp2_with fail
  generalize w.alloc (.cells #[.slice af fs.length cf,.int .i64 now,.slice ao outs.length co] 58)=w1 at *;have hsz1:=bx0.out.lt
  go_loopw [4,5] (fun q4 q5 wr=>∃n out,q5=.int .i64 n∧LineOn fs n out∧jJ fs (fs.length+2 - out.length) n out=yA S∧Ext w1 wr∧RowAt wr (w.heap.size+1) 1 q4 out.length (ints out)∧lenV q4=out.length) (fun q4 _ _=>fs.length+1 - lenV q4)
  case atStart=>exact⟨now,[],rfl,HLN.out,HL0.out,eR _,RowAt.nil _ _ _ _,rfl⟩
  case round =>
    obtain⟨n,out,rfl,hln,hlg,hb,hrow,_⟩:=hrel;have HLN2:=eH hln;have HLG:=eH hlg;have HB:=eH hb;have HROW:=eH hrow;have hol:=hln.len;obtain⟨ar,capr,rfl,_,_⟩:=hrow.shape;have hnow:=hln.now;obtain⟨kf,hkf⟩:∃kf,fs.length+2 - out.length=kf+1:=⟨fs.length+1 - out.length,by omega⟩
    rw [hkf] at HLG;clear hln hlg hb hrow HLN HL0;by_cases h0:n<0
    · have T0:decide (0≤n)=false:=decide_eq_false (by omega)
      have HRES:Hid (yA S=some out):=by unfold Hid;rw [←HLG.out,lineGo_neg h0]
      clear h0 HLG hkf;have hfin:∀wq,Ext wr wq→Ints wq (w.heap.size≤·) (.slice ar out.length capr) out:=fun wq hq=>by
        refine Ints.of_row (base:=w.heap.size+1) (by rw [kU];exact HROW.out.ext hq (by decide)) (by omega) (fun x hx=>?_) _ (fun b hb _=>by show w.heap.size≤b;omega);have:=HLN2.out.range x hx;exact⟨by omega,by omega⟩
      have HFIN:=eH hfin;clear hfin;by_cases h1:out.length=0
      · have T1:((out.length:Int) == 0)=true:=by simp [h1]
        have HE:Hid (vR out=true):=by unfold Hid vR;rw [decide_eq_true h1];rfl
        go_upto_region 11 with fail
        clear h1;refine kB (by kernel_rfl) (by kernel_rfl) ?_
        repeat (first
          | go_big_quiet_skip
          | (go_big_quiet_want
             unfold Oper.quiet;apply Exists.intro;refine⟨fun w' hw'=>?_,?_⟩
             focus
               have hcq:=Ext.keep hw';go_simp
               first
                 | with_reducible rfl
                 | fail
             (try dsimp only [Act.put])
             (try simp only [xL,xM,xN])
             go_big_quiet_on))
        refine wpQuiet_nil ?_;intro wq hq
        go_wp2_with fail
        go_ret2
        refine⟨?_,HE1.out.trans (HB.out.trans hq)⟩;unfold zCp;rw [HRES.out];exact⟨ar,capr,by rw [HE.out];rfl,HFIN.out _ hq⟩
      · obtain⟨j,hj⟩:∃j,out.length=j+1:=⟨out.length - 1,by omega⟩
        have T1:((out.length:Int) == 0)=false:=beq_eq_false_iff_ne.2 (by omega);have KK:IntKind.i64.wrap ((out.length:Int) - 1)=(j:Int):=by rw [IntWalk.i64_in _ (by omega)];omega
        obtain⟨g,o,rfl,_,l0⟩:=HROW.out.get_int (q:=j) (by omega);obtain⟨u,hu⟩:∃u,out.getD j 0=u:=⟨_,rfl⟩
        rw [hu] at l0;have HE:Hid (vR out=(u == 0)):=by
          unfold Hid vR;rw [decide_eq_false h1,show out.length - 1=j by omega,hu,Bool.false_or,Bool.eq_iff_iff];simp
        have hjl:j<out.length:=by omega
        go_upto_region 11 with fail
        clear h1 hj hu;refine kB (by kernel_rfl) (by kernel_rfl) ?_
        repeat (first
          | go_big_quiet_skip
          | (go_big_quiet_want
             unfold Oper.quiet;apply Exists.intro;refine⟨fun w' hw'=>?_,?_⟩
             focus
               have hcq:=Ext.keep hw';go_simp
               first
                 | with_reducible rfl
                 | fail
             (try dsimp only [Act.put])
             (try simp only [xL,xM,xN])
             go_big_quiet_on))
        refine wpQuiet_nil ?_;intro wq hq
        go_wp2_with fail
        go_ret2
        refine⟨?_,HE1.out.trans (HB.out.trans hq)⟩;unfold zCp;rw [HRES.out];exact⟨_,capr,by rw [HE.out];rfl,HFIN.out _ hq⟩
    · have T0:decide (0≤n)=true:=decide_eq_true (by omega)
      obtain⟨m,rfl⟩:∃m:Nat,n=m:=⟨n.toNat,by omega⟩
      have hml:m<fs.length:=by omega
      clear hnow
      go_wp2_with fail
      go_loopw [6] (fun q wx=>∃j:Nat,j≤out.length∧q=.int .i64 j∧wr=wx∧(m:Int) ∉ out.take j) (fun q _=>out.length - (intOf q).toNat)
      case atStart=>exact⟨0,Nat.zero_le _,rfl,rfl,by simp⟩
      case round =>
        obtain⟨j,hj,rfl,rfl,hnm⟩:=hrel;have HNM:=eH hnm;clear hnm;by_cases hlt:j<out.length
        · obtain⟨g,o,rfl,_,l0⟩:=HROW.out.get_int hlt
          have HM:Hid (out[j]∈out):=List.getElem_mem hlt;have HSS:Hid (out.take (j+1)=out.take j++[out[j]]):=List.take_succ_eq_append_getElem hlt;have eg:out.getD j 0=out[j]:=by simp [List.getD,List.getElem?_eq_getElem hlt]
          rw [eg] at l0;clear eg;generalize out[j]=u at *;by_cases hu:u=m
          · have TT:(u == (m:Int))=true:=by simp [hu]
            have HRES:Hid (yA S=none):=by unfold Hid;rw [←HLG.out];exact lineGo_mem (by omega) (hu ▸ HM.out)
            clear hu
            go_wp2_with fail
            go_ret2
            refine⟨?_,HE1.out.trans HB.out⟩;unfold zCp;rw [HRES.out];rfl
          · have TT:(u == (m:Int))=false:=beq_eq_false_iff_ne.2 hu
            have HX:Hid ((m:Int) ∉ out.take (j+1)):=by unfold Hid;rw [HSS.out,List.mem_append,List.mem_singleton];exact fun h=>h.elim HNM.out (fun e=>hu e.symm)
            clear hu
            go_wp2_with fail
            go_roundw
            case rel=>exact⟨j+1,by omega,by go_num,trivial,HX.out⟩
            case measure=>simp [intOf];omega
        · obtain rfl:j=out.length:=by omega
          have HNM2:Hid ((m:Int) ∉ out):=by have:=HNM.out;rwa [List.take_length] at this
          have HNX:=eH (HLN2.out.next (by omega) HNM2.out HC.out.all);have HLG2:Hid (jJ fs kf (kM fs m) (out++[(m:Int)])=yA S):=by unfold Hid;rw [←lineGo_next (n:=(m:Int)) (by omega) HNM2.out];exact HLG.out
          obtain⟨bf,of,_,ef,_,_,_,_,f1,_⟩:=HFS.out.get hml;simp only [Value.slice.injEq] at ef;obtain⟨rfl,-,rfl⟩:=ef;have HCL:Hid (fs[m].caller=kM fs m):=by unfold Hid kM;rw [show (m:Int).toNat=m by omega];simp [List.getD,List.getElem?_eq_getElem hml]
          rw [HCL.out] at f1;generalize kM fs m=cl at *;clear hlt h0 HLG;have HS7:Hid ((wr.alloc (.cells #[.int .i64 (m:Int)] 3)).heap.size=wr.heap.size+1):=Array.size_push _;have HB1:Hid (w.heap.size+1≤wr.heap.size):=by unfold Hid;rw [←HSZ1.out];exact HB.out.size
          go_wp2_with (first
            | (at_builtin;refine zE rfl _ _ 30 rfl (w.heap.size+1) 3 i0 (.int .i64 0) 1 8 Tryz.underlying30 hi0 hz0 hz1 hz2 rfl (by decide) _ _ _ rfl (by exact HROW.out.ext ((eR _).alloc _) (by decide)) 1 (ints [(m:Int)]) (uK _ _ _) (by unfold maxLen;omega) (by omega) (by rw [HS7.out];exact Nat.le_succ_of_le HB1.out) ?_;intro v1 Wv1 rv1;have RV:=eH rv1;obtain⟨a9,cap9,rfl,_,_⟩:=rv1.1.shape;have HX9:=eH (Chg.ext_from (HB.out.alloc (.cells #[.int .i64 (m:Int)] 3)) RV.out.2.1 (fun g e=>by rw [HSZ1.out];exact HROW.out.le g e));have k0:=(bx0.out.ext HX9.out).1;have k1:=eC (HE1.out.trans HX9.out) f1;clear rv1))
          go_roundw
          case rel=>exact⟨cl,out++[(m:Int)],rfl,HNX.out,by rw [←HLG2.out,List.length_append,List.length_singleton,show fs.length+2 - (out.length+1)=kf by omega],HX9.out,by rw [List.length_append,List.length_singleton,yK];exact RV.out.1,by rw [List.length_append,List.length_singleton];rfl⟩
          case measure=>simp [lenV];omega
end Go.Proofs.YtpcjkfppacnkgaaGreatDoor
