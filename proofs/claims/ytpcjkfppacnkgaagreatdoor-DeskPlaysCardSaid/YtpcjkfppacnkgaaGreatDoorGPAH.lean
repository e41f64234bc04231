/- Contracts and plain facts. -/
import Derived.Test.YtpcjkfppacnkgaaGreatDoorGPAG
import Derived.Maps.OwnOps
import Derived.Maps.Views
set_option maxHeartbeats 4000000
set_option maxRecDepth 100000
section
namespace Go.Proofs.YtpcjkfppacnkgaaGreatDoor
open Go Go.RowKit Go.Maps
def MapN (w:World) (b n:Nat) (f:Int→Int):Prop :=
 ∃D:DataW Unit,w.ownsMap Tryz.prog 3 (plainElem Tryz.prog 3) b n D∧IsMap D∧∀k,D.atKey (.int .i64 k) (.lit (.int .i64 0))=.lit (.int .i64 (f k))
theorem MapN.made (w:World):MapN (w.alloc (.map #[] 0)) w.heap.size 0 (fun _=>0):=⟨.map [],World.ownsMap_made w _ _ _,isMap_empty,fun _=>rfl⟩
theorem MapN.chg {M:Nat→Prop} {w w':World} {b n:Nat} {f:Int→Int} (h:MapN w b n f) (hc:Chg M w w') (hM:¬M b):MapN w' b n f:=by
 obtain⟨D,⟨es,clock,hb,h2⟩,h3⟩:=h;exact⟨D,⟨es,clock,hc.heap hM hb,h2⟩,h3⟩
theorem MapN.ext {w w':World} {b n:Nat} {f:Int→Int} (h:MapN w b n f) (hc:Ext w w'):MapN w' b n f:=h.chg (M:=fun _=>False) (Chg.of_ext hc) (fun h=>h)
theorem MapN.lt {w:World} {b n:Nat} {f:Int→Int} (h:MapN w b n f):b<w.heap.size:=by
 obtain⟨D,h1,_⟩:=h;exact h1.lt
theorem MapN.more {w:World} {b n n':Nat} {f g:Int→Int} (h:MapN w b n f) (hn:n≤n') (hf:∀k,f k=g k):MapN w b n' g:=by
 obtain⟨D,h1,h2,h3⟩:=h;exact⟨D,h1.mono hn,h2,fun k=>by rw [h3 k,hf k]⟩
theorem MapN.put {w:World} {b n n':Nat} {f g:Int→Int} {D:DataW Unit} {x y:Int} (h:w.ownsMap Tryz.prog 3 (plainElem Tryz.prog 3) b n' (D.put (.int .i64 x) (.lit (.int .i64 y)))) (hD:IsMap D)
  (hf:∀k,D.atKey (.int .i64 k) (.lit (.int .i64 0))=.lit (.int .i64 (f k))) (hn:n'≤n) (hx:g x=y) (hg:∀k,k≠x→g k=f k):MapN w b n g:=by
 refine⟨_,h.mono hn,hD.put _ _,fun k=>?_⟩;by_cases e:k=x
 ·subst e;rw [atKey_put_same hD (by unfold WideAt.IsKeyLit;trivial),hx]
 ·rw [atKey_put_other (by intro h;injection h with _ h2;exact e h2),hf k,hg k e]
def jR:List GOp→List Int→List GOp
 | x::C,h::m=>if 0≤h then x::jR C m else jR C m
 | _,_=>[]
theorem zGv (l:List Int):∀(C:List GOp) (m:List Int),jE l C m=(jR C m).map (jW l)
 | [],m=>by simp [jE,jR]
 | x::C,[]=>by simp [jE,jR]
 | x::C,h::m=>by
  unfold jE jR;split
  ·rw [List.map_cons,zGv l C m]
  ·exact zGv l C m
theorem keepGo_skip {l:List Int} {C:List GOp} {k:Nat} (hk:k<C.length) (hl:l.length=C.length) (h:¬0≤l.getD k 0):jR (C.drop k) (l.drop k)=jR (C.drop (k+1)) (l.drop (k+1)):=by
 have hk':k<l.length:=by omega
 rw [List.drop_eq_getElem_cons hk,List.drop_eq_getElem_cons hk'];simp only [List.getD,List.getElem?_eq_getElem hk',Option.getD_some] at h;simp only [jR,if_neg h]
theorem keepGo_put {l:List Int} {C:List GOp} {k:Nat} (hk:k<C.length) (hl:l.length=C.length) (h:0≤l.getD k 0):jR (C.drop k) (l.drop k)=C[k]::jR (C.drop (k+1)) (l.drop (k+1)):=by
 have hk':k<l.length:=by omega
 rw [List.drop_eq_getElem_cons hk,List.drop_eq_getElem_cons hk'];simp only [List.getD,List.getElem?_eq_getElem hk',Option.getD_some] at h;simp only [jR,if_pos h]
theorem keepGo_mem:∀(C:List GOp) (m:List Int) (y:GOp),y∈jR C m→∃k,∃hk:k<C.length,C[k]=y∧0≤m.getD k 0
 | [],m,y,h=>by simp [jR] at h
 | x::C,[],y,h=>by simp [jR] at h
 | x::C,u::m,y,h=>by
  have hr:y∈jR C m→∃k,∃hk:k<(x::C).length,(x::C)[k]=y∧0≤(u::m).getD k 0:=fun h=>by
   obtain⟨k,hk,e,h0⟩:=keepGo_mem C m y h;exact⟨k+1,by simpa using hk,by simpa using e,by simpa [List.getD] using h0⟩
  unfold jR at h
  split at h
  ·rename_i h0
   rcases List.mem_cons.1 h with rfl | h
   ·exact⟨0,by simp,rfl,by simpa [List.getD] using h0⟩
   ·exact hr h
  ·exact hr h
def mapF (l:List Int) (k:Nat) (j:Int):Int:=if 0≤j∧j<k∧0≤l.getD j.toNat 0 then qR l j.toNat else 0
theorem mapF_zero (l:List Int) (j:Int):(0:Int)=mapF l 0 j:=by unfold mapF;rw [if_neg (by omega)]
theorem mapF_skip {l:List Int} {k:Nat} (h:¬0≤l.getD k 0) (j:Int):mapF l k j=mapF l (k+1) j:=by
 unfold mapF;by_cases e:j=k
 ·subst e;rw [if_neg (by omega),if_neg (fun hh=>h (by simpa using hh.2.2))]
 ·have:(0≤j∧j<k∧0≤l.getD j.toNat 0)↔(0≤j∧j<(k+1:Nat)∧0≤l.getD j.toNat 0):=by omega
  simp only [this]
theorem mapF_here {l:List Int} {k:Nat} (h:0≤l.getD k 0):mapF l (k+1) k=qR l k:=by
 unfold mapF;rw [if_pos ⟨by omega,by omega,by simpa using h⟩];rfl
theorem mapF_other {l:List Int} {k:Nat} (j:Int) (e:j≠k):mapF l (k+1) j=mapF l k j:=by
 unfold mapF;have:(0≤j∧j<k∧0≤l.getD j.toNat 0)↔(0≤j∧j<(k+1:Nat)∧0≤l.getD j.toNat 0):=by omega
 simp only [this]
theorem mapF_all {l:List Int} {C:List GOp} {j:Nat} (hj:j<C.length) (h:0≤l.getD j 0):mapF l C.length j=qR l j:=by
 unfold mapF;rw [if_pos ⟨by omega,by omega,by simpa using h⟩];rfl
structure TO (w2 w5:World) (m b8:Nat) (A L:Int) (l:List Int) (k:Nat) (cur:List GOp) (wx:World):Prop where
 ext:Ext w2 wx
 mp:MapN wx m k (mapF l k)
 c0:Cx wx b8 0 (.int .i64 A)
 c1:Cx wx b8 1 (.int .i64 L)
 c2:∃v,Cx wx b8 2 v∧RowAt wx (b8+1) 2 v cur.length (cur.flatMap opF)
 size:w5.heap.size≤wx.heap.size
theorem TO.ext' {w2 w5:World} {m b8:Nat} {A L:Int} {l:List Int} {k:Nat} {cur:List GOp} {wx wy:World} (h:TO w2 w5 m b8 A L l k cur wx) (he:Ext wx wy):TO w2 w5 m b8 A L l k cur wy:=by
 obtain⟨v,h4,h5⟩:=h.c2;exact⟨h.ext.trans he,h.mp.ext he,h.c0.ext he,h.c1.ext he,⟨v,h4.ext he,h5.ext he (by decide)⟩,Nat.le_trans h.size he.size⟩
theorem TO.grow {w2 w5:World} {m b8:Nat} {A L:Int} {l:List Int} {k:Nat} {acc:List GOp} {wx W7 W8:World} {y:GOp} {v v1:Value} (h:TO w2 w5 m b8 A L l k acc wx) (hb:w2.heap.size≤b8) (hg:m<b8)
  (he:Ext wx W7) (hc:Cx wx b8 2 v) (hr:RowAt wx (b8+1) 2 v acc.length (acc.flatMap opF)) (hn:kO W7 W8 (b8+1) 2 v v1 (acc.length+1) (acc.flatMap opF++opF y)) :
  TO w2 w5 m b8 A L l k (acc++[y]) (W8.setCell ⟨b8,2,none⟩ v1)∧Cx W8 b8 2 v:=by
 have hM:∀q,zB v=some q→b8+1≤q:=hr.le;have hch:=hn.2.1;have k2:Cx W8 b8 2 v:=(hc.ext he).chg hch (fun e=>by have:=hM _ e;omega);refine⟨⟨?_,?_,?_,?_,⟨v1,k2.set v1,?_⟩,?_⟩,k2⟩
 ·exact(Chg.ext_from (h.ext.trans he) hch (fun q e=>by have:=hM _ e;omega)).setCell (p:=⟨b8,2,none⟩) hb _
 ·exact((h.mp.ext he).chg hch (fun e=>by have:=hM _ e;omega)).chg (zO W8 b8 2 v1) (by omega)
 ·exact((h.c0.ext he).chg hch (fun e=>by have:=hM _ e;omega)).other (.inr (by omega)) _
 ·exact((h.c1.ext he).chg hch (fun e=>by have:=hM _ e;omega)).other (.inr (by omega)) _
 ·rw [List.length_append,List.length_singleton,List.flatMap_append,List.flatMap_singleton];exact hn.1.chg (zO W8 b8 2 v1) (fun q e hq=>by have:=hn.1.le _ e;omega) (by decide)
 ·have e1:=h.size;have e2:=he.size;have e3:=hch.size;have e4:(W8.setCell ⟨b8,2,none⟩ v1).heap.size=W8.heap.size:=zAk b8 [v1] 2 W8;omega
theorem TO.put {w2 w5:World} {m b8:Nat} {A L:Int} {l:List Int} {k:Nat} {acc:List GOp} {W6 W7:World} {v:Value} {D:DataW Unit} (h:TO w2 w5 m b8 A L l k acc W6) (hb:w2.heap.size≤m) (hm:m<b8)
  (h0:0≤l.getD k 0) (hal:acc.length=qR l k) (hD:IsMap D) (hf:∀k',D.atKey (.int .i64 k') (.lit (.int .i64 0))=.lit (.int .i64 (mapF l k k')))
  (hown:W7.ownsMap Tryz.prog 3 (plainElem Tryz.prog 3) m (k+1) (D.put (.int .i64 k) (.lit (.int .i64 acc.length)))) (hg:W6.grownBy W7 (some m)) (hc:Cx W6 b8 2 v) (hr:RowAt W6 (b8+1) 2 v acc.length (acc.flatMap opF)) :
  (TO w2 w5 m b8 A L l (k+1) acc W7∧Cx W7 b8 2 v∧RowAt W7 (b8+1) 2 v acc.length (acc.flatMap opF))∧Chg (·=m) W6 W7:=by
 have hch:Chg (·=m) W6 W7:=(Chg.refl _ _).grown hg (fun k e=>by cases e;exact .inl rfl);have k2:=hc.chg hch (by omega);have k3:RowAt W7 (b8+1) 2 v acc.length (acc.flatMap opF):=hr.chg hch (fun q e hq=>by have:=hr.le _ e;omega) (by decide);refine⟨⟨⟨?_,?_,h.c0.chg hch (by omega),h.c1.chg hch (by omega),⟨v,k2,k3⟩,Nat.le_trans h.size hch.size⟩,k2,k3⟩,hch⟩
 ·exact Chg.ext_from h.ext hch (fun q e=>by omega)
 ·exact MapN.put hown hD hf (Nat.le_refl _) (by rw [mapF_here h0,hal]) (fun j e=>mapF_other j e)
theorem zeroI (w:World):(zeroValue 3).run Tryz.prog w=.ok (.int .i64 0) w:=by kernel_rfl
theorem keyI {k:Int} (h:I64 k):keyOf Tryz.prog 3 (.int .i64 k)=some (.int .i64 k):=keyOf_int_mk Tryz.underlying3 (WalkArith.wf_i64 h)
theorem opF_get {cur:List GOp} {j:Nat} (hj:j<cur.length):(cur.flatMap opF)[j * 2]?=some (.int .i64 cur[j].kind)∧(cur.flatMap opF)[j * 2+1]?=some (.int .i64 cur[j].a):=by
 induction cur generalizing j with
 | nil=>simp at hj
 | cons x cur ih =>
  cases j with
  | zero=>simp [opF]
  | succ j =>
   have:=ih (j:=j) (by simpa using hj);rw [List.flatMap_cons,Nat.succ_mul];simpa [opF] using this
theorem opF_set {cur:List GOp} {j:Nat} (hj:j<cur.length) (n:Int):(cur.flatMap opF).set (j * 2+1) (.int .i64 n)=(cur.set j ⟨cur[j].kind,n⟩).flatMap opF:=by
 induction cur generalizing j with
 | nil=>simp at hj
 | cons x cur ih =>
  cases j with
  | zero=>simp [opF]
  | succ j =>
   have:=ih (j:=j) (by simpa using hj);rw [List.flatMap_cons,Nat.succ_mul];simpa [opF] using this
def cuR (l:List Int) (K:List GOp) (j:Nat):List GOp:=(K.take j).map (jW l)++K.drop j
theorem cuR_len (l:List Int) (K:List GOp) (j:Nat):(cuR l K j).length=K.length:=by
 unfold cuR;simp;omega
theorem cuR_at {l:List Int} {K:List GOp} {j:Nat} (hj:j<K.length):(cuR l K j)[j]'(by rw [cuR_len];exact hj)=K[j]:=by
 unfold cuR;rw [List.getElem_append_right (by simp;omega)];have e:j+(j - min j K.length)=j:=by omega
 simp [e]
theorem cuR_step {l:List Int} {K:List GOp} {j:Nat} (hj:j<K.length):(cuR l K j).set j (jW l K[j])=cuR l K (j+1):=by
 unfold cuR;rw [List.set_append_right _ _ (by simp;omega)];have e:j - (List.map (jW l) (List.take j K)).length=0:=by simp;omega
 rw [e,List.drop_eq_getElem_cons hj,xN,List.take_succ_eq_append_getElem hj,List.map_append,List.append_assoc];rfl
theorem cuR_same {l:List Int} {K:List GOp} {j:Nat} (hj:j<K.length) (h:jW l K[j]=K[j]):cuR l K (j+1)=cuR l K j:=by
 rw [←cuR_step hj,h];have:=cuR_at (l:=l) hj;rw [←this,List.set_getElem_self]
theorem cuR_zero (l:List Int) (K:List GOp):cuR l K 0=K:=by simp [cuR]
theorem cuR_all (l:List Int) (K:List GOp):cuR l K K.length=K.map (jW l):=by simp [cuR]
theorem TO.store {w2 w5:World} {m b8:Nat} {A L:Int} {l:List Int} {k:Nat} {cur:List GOp} {wx:World} {g o cap j:Nat} (h:TO w2 w5 m b8 A L l k cur wx) (hb:w2.heap.size≤b8) (hm:m<b8)
  (hc:Cx wx b8 2 (.slice (some ⟨g,o,none⟩) cur.length cap)) (hr:RowAt wx (b8+1) 2 (.slice (some ⟨g,o,none⟩) cur.length cap) cur.length (cur.flatMap opF)) (hg:b8+1≤g) (hj:j<cur.length) (n:Int) :
  TO w2 w5 m b8 A L l k (cur.set j ⟨cur[j].kind,n⟩) (wx.setCell ⟨g,o+j * 2+1,none⟩ (.int .i64 n)):=by
 rw [Nat.add_assoc];have hch:=zO wx g (o+(j * 2+1)) (.int .i64 n);refine⟨h.ext.setCell (p:=⟨g,_,none⟩) (show w2.heap.size≤g by omega) _,h.mp.chg hch (by omega),h.c0.chg hch (by omega),h.c1.chg hch (by omega),⟨_,hc.chg hch (by omega),?_⟩,Nat.le_trans h.size hch.size⟩;have:=hr.store (j:=j * 2+1) (by omega) (.int .i64 n);rw [opF_set hj] at this;rw [List.length_set];exact this
theorem ints2 (w:World) (x y:Int) (hx:I64 x) (hy:I64 y) (t:TypeId):Ints (w.alloc (.cells #[.int .i64 x,.int .i64 y] t)) (fun _=>True) (.slice (some ⟨w.heap.size,0,none⟩) 2 2) [x,y]:=by
 refine⟨_,2,rfl,Nat.le_refl _,by simp,fun i hi=>⟨w.heap.size,0,rfl,?_⟩⟩
 match i,hi with
 | 0,_=>exact⟨trivial,World.cell?_alloc_new w _ _ 0,hx⟩
 | 1,_=>exact⟨trivial,World.cell?_alloc_new w _ _ 1,hy⟩
theorem trimOf_any (p:List GFunc) (v:Value) (S:Nat→Prop) (n:Nat) (w:World) (hp:zM w S v p) (hn:n<p.length) (hR:RightF p p[n]) (l:List Int) (hl:hts p p[n].code=some l) :
  Calls Tryz.prog 99 #[v,.int .i64 n] w fun e w'=>(∃x,e=.returned x∧FuncV w' (w.heap.size≤·) x (zAq p p[n]))∧Ext w w':=by
 have HH:Hid (∀w1,Ext w w1→Calls Tryz.prog 88 #[v,.int .i64 n] w1 fun e w'=>(∃v2,e=.returned (.tuple #[v2,.bool true])∧Ints w' (w1.heap.size≤·) v2 l)∧Ext w1 w'):=by
  intro w1 h1;refine(zBt p v S n w1 (zM.stays h1.stays hp) hn hR).mono fun e w' ⟨h,hx⟩=>⟨?_,hx⟩
  rw [hl] at h;exact h
 have hfull:=hts_full hR.jumps hl;have HLL:=eH hfull.len;have hle1:=Nat.le_of_eq hfull.len;have hle2:=Nat.le_of_eq hfull.len.symm;have HFULL:=eH hfull;have hHG:zAq p p[n]=⟨p[n].args,p[n].locals,vE p[n].code l⟩:=by unfold zAq;rw [hl];rfl
 rw [hHG];obtain⟨b,o,cap,rfl,hcap,hby,⟨_,hA,iA⟩,⟨_,hL,iL⟩,vc,hC,hcode⟩:=hp.get hn;have HOI:=eH (Ops.i64 hcode);obtain⟨ca,ccap,rfl,hcc,hcby,hops⟩:=hcode;have RA:=zF;have hmm:=@run_makeMap Tryz.prog;have hlen:=hR.len;have hjm:=fun x hx=>(hR.op x hx).2.2
 obtain⟨o0,ho0,hoz0,hoz1,hoz2⟩:=info_parts infoO;generalize hF:p[n]=F at *;obtain⟨A,L,C⟩:=F;simp only at *;have HO:=eH hops;have HJ:=eH hjm;clear hF hp hops hR hl hfull hjm hHG;go_enter Tryz.func99,Tryz.ntmps99
 go_upto_region 3 with (first
  | (go_at_call 88;refine(HH.out _ ((eR w).alloc _)).mono ?_;rintro e w2 ⟨⟨v2,rfl,hi⟩,hx⟩))
 obtain⟨a2,cap2,rfl,hc2,hb2,_⟩:=(⟨hi,trivial⟩:_∧True).1;have hw2:w.heap.size+1≤w2.heap.size:=by have:=hx.size;simpa using this
 have HI:=eH hi;have HX:=eH (((eR w).alloc _).trans hx);have c40:=Cx.ext (Cx.new w [.int .i64 0,.int .i64 0,.slice none 0 0] 49 (j:=0) rfl) hx;have c41:=Cx.ext (Cx.new w [.int .i64 0,.int .i64 0,.slice none 0 0] 49 (j:=1) rfl) hx;have c42:=Cx.ext (Cx.new w [.int .i64 0,.int .i64 0,.slice none 0 0] 49 (j:=2) rfl) hx;clear hi hx;have hmp:=MapN.made w2;have hE3:Ext w2 (w2.alloc (.map #[] 0)):=(eR _).alloc _;have hs3:(w2.alloc (.map #[] 0)).heap.size=w2.heap.size+1:=Array.size_push _;generalize hw3:w2.alloc (.map #[] 0)=w3 at *;have hA':=eC (HX.out.trans hE3) hA;have hL':=eC (HX.out.trans hE3) hL;have hC':=eC (HX.out.trans hE3) hC;have HMP:=eH hmp;have HE3:=eH hE3;have HS3:=eH hs3;clear hw3 hmp hE3 hs3;have hst:TO w2 (w3.alloc (.cells #[.int .i64 A,.int .i64 L,.slice none 0 0] 49)) w2.heap.size w3.heap.size A L l 0 [] (w3.alloc (.cells #[.int .i64 A,.int .i64 L,.slice none 0 0] 49)) :=
  ⟨HE3.out.alloc _,(HMP.out.ext ((eR _).alloc _)).more (Nat.le_refl _) (mapF_zero l),Cx.new w3 [.int .i64 A,.int .i64 L,.slice none 0 0] 49 rfl,Cx.new w3 [.int .i64 A,.int .i64 L,.slice none 0 0] 49 rfl,
   ⟨_,Cx.new w3 [.int .i64 A,.int .i64 L,.slice none 0 0] 49 rfl,RowAt.nil _ _ _ _⟩,Nat.le_refl _⟩
 have hs5:(w3.alloc (.cells #[.int .i64 A,.int .i64 L,.slice none 0 0] 49)).heap.size=w3.heap.size+1:=Array.size_push _;have hM8:w2.heap.size<w3.heap.size:=by rw [HS3.out];exact Nat.lt_succ_self _
 have hA2:=eC (HE3.out.alloc (.cells #[.int .i64 A,.int .i64 L,.slice none 0 0] 49)) (eC HX.out hC)
 go_upto_region 5 with fail
 generalize w3.alloc (.cells #[.int .i64 A,.int .i64 L,.slice none 0 0] 49)=w5 at *;have HST:=eH hst;have HS5:=eH hs5;have HM8:=eH hM8;clear hst hs5 hM8 hA' hL' hC' HMP
 go_wp2_with fail
 clear hA2
 go_loopw [31] (fun q wx=>∃k:Nat,k≤C.length∧q=.int .i64 k∧∃acc,acc++jR (C.drop k) (l.drop k)=jR C l∧acc.length=qR l k∧TO w2 w5 w2.heap.size w3.heap.size A L l k acc wx) (fun q _=>C.length - (intOf q).toNat)
 case atStart=>exact⟨0,Nat.zero_le _,rfl,[],rfl,(keepN_zero l).symm,HST.out⟩
 case round =>
  obtain⟨k,hk,rfl,acc,hacc,hal,hti⟩:=hrel;have HACC:=eH hacc;have HAL:=eH hal;have HTI:=eH hti;have hkn:=keepN_le l k;have hal24:acc.length≤24:=by omega
  clear hacc hti hal HST;by_cases hlt:k<C.length
  ·obtain⟨cb,co,rfl,⟨_,z0,i0'⟩,_,z1,i1'⟩:=HO.out k hlt;have HSKIP:=eH (keepGo_skip hlt HLL.out);have HPUT:=eH (keepGo_put hlt HLL.out);have z0':=eC (HX.out.trans HTI.out.ext) z0;have z1':=eC (HX.out.trans HTI.out.ext) z1;obtain⟨bl,ol,_,e1,_,_,_,x0,_⟩:=HI.out.get (i:=k) (by omega);simp only [Value.slice.injEq] at e1;obtain⟨rfl,-,rfl⟩:=e1;have hlt':k<l.length:=by omega
   have eg:l.getD k 0=l[k]:=by simp [List.getD,List.getElem?_eq_getElem hlt']
   rw [Nat.mul_one,←eg] at x0;have HKS:=eH (keepN_succ hlt');have X0:=eH x0;clear eg x0 z0 z1;generalize C[k]=x at *;rename World=>wx0
   go_upto_region 8 with fail
   have hx0:Cx (wx0.alloc (.cells #[.int .i64 x.kind,.int .i64 x.a] 51)) wx0.heap.size 0 (.int .i64 x.kind):=Cx.new wx0 [.int .i64 x.kind,.int .i64 x.a] 51 rfl;have hx1:Cx (wx0.alloc (.cells #[.int .i64 x.kind,.int .i64 x.a] 51)) wx0.heap.size 1 (.int .i64 x.a):=Cx.new wx0 [.int .i64 x.kind,.int .i64 x.a] 51 rfl;have hs6:(wx0.alloc (.cells #[.int .i64 x.kind,.int .i64 x.a] 51)).heap.size=wx0.heap.size+1:=Array.size_push _;have ht6:=HTI.out.ext' (wy:=wx0.alloc (.cells #[.int .i64 x.kind,.int .i64 x.a] 51)) ((eR _).alloc _);have hs0:=HTI.out.mp.lt;generalize wx0.heap.size=bx at *;generalize wx0.alloc (.cells #[.int .i64 x.kind,.int .i64 x.a] 51)=w6 at *;have HT6:=eH ht6;have HX0:=eH hx0;have HX1:=eH hx1;have HBX:Hid (w2.heap.size<bx):=hs0;clear ht6 hs0 hx0 hx1 hs6 z0' z1' HTI;have g0:=eC HT6.out.ext X0.out;clear X0;generalize hge:l.getD k 0=hgt at *;have HGE:=eH hge;clear hge;by_cases h0:0≤hgt
   ·have T0:decide (0≤hgt)=true:=by simpa using h0
    have HACC2:=eH (HPUT.out h0);have HK2:Hid (qR l (k+1)=qR l k+1):=by unfold Hid;rw [HKS.out,if_pos h0]
    obtain⟨D,hown,hD,hf⟩:=HT6.out.mp;have HOWN:=eH hown;have HD:=eH hD;have HF:=eH hf;obtain⟨vr,hcr,hrow⟩:=HT6.out.c2;have HC2:=eH hcr;have HROW:=eH hrow;obtain⟨c2,c2'⟩:=hcr;obtain⟨ar,capr,rfl,_,_⟩:=hrow.shape;have H0:Hid (0≤l.getD k 0):=by unfold Hid;rw [HGE.out];exact h0
    clear h0 HSKIP HPUT HKS hrow hown hD hf
    go_upto_region 10 with (first
     | (at_mapUpdate;refine wpList_mapUpdate_own _ rfl _ _ _ 141 rfl 3 3 (int_keyed Tryz.underlying3) Tryz.underlying141 _ w2.heap.size k D rfl HOWN.out (by unfold maxLen;omega) _ _ (.int .i64 k) rfl rfl (keyI (I64.nat (by omega))) (.lit (.int .i64 acc.length)) [] (plainElem_int Tryz.underlying3 (WalkArith.wf_i64 (I64.nat (by omega)))) ?_;intro w7 hown7 hgr7))
    obtain⟨⟨ht7,hc7,hr7⟩,hch7⟩:=HT6.out.put (Nat.le_refl _) HM8.out H0.out HAL.out HD.out HF.out hown7 hgr7 HC2.out HROW.out;have hx07:=HX0.out.chg hch7 (fun e=>by have:=HBX.out;omega);have hx17:=HX1.out.chg hch7 (fun e=>by have:=HBX.out;omega);have HT7:=eH ht7;have HC7:=eH hc7;have HR7:=eH hr7;clear hown7 hgr7 HOWN HD HF HROW HC2 c2 c2' ht7 hr7 hch7 HX0 HX1 HT6;obtain⟨c2,c2'⟩:=hc7;obtain⟨q0,q1⟩:=hx07;obtain⟨r0,r1⟩:=hx17;have HSZ7:Hid ((w7.alloc (.cells #[.int .i64 x.kind,.int .i64 x.a] 51)).heap.size=w7.heap.size+1):=Array.size_push _;have HSZ8:Hid (w3.heap.size+1≤w7.heap.size):=by unfold Hid;have:=HT7.out.size;rw [HS5.out] at this;exact this
    have HB8:Hid (w2.heap.size≤w3.heap.size):=Nat.le_of_lt HM8.out
    go_wp2_with (first
     | (at_builtin;refine zE rfl _ _ 47 rfl (w3.heap.size+1) 51 o0 (.agg #[.int .i64 0,.int .i64 0]) 2 16 Tryz.underlying47 ho0 hoz0 hoz1 hoz2 rfl (by decide) _ _ _ rfl (by exact HR7.out.ext ((eR _).alloc _) (by decide)) 1 (opF x) (src_op _ _ _) (by unfold maxLen;omega) (by omega) (by rw [HSZ7.out];exact Nat.le_succ_of_le HSZ8.out) ?_;intro v1 Wv1 rv1;obtain⟨a1,cap1,rfl,_,_⟩:=rv1.1.shape;have HG:=eH (HT7.out.grow HB8.out HM8.out ((eR _).alloc _) HC7.out HR7.out rv1);obtain⟨k20,k21⟩:=HG.out.2))
    go_roundw
    case rel=>exact⟨k+1,by omega,by go_num,acc++[x],by rw [List.append_assoc,List.singleton_append,←HACC2.out];exact HACC.out,by rw [List.length_append,List.length_singleton,HK2.out,HAL.out],HG.out.1⟩
    case measure=>simp [intOf];omega
   ·have T0:decide (0≤hgt)=false:=by simpa using h0
    have HACC2:=eH (HSKIP.out h0);have HK2:Hid (qR l (k+1)=qR l k):=by unfold Hid;rw [HKS.out,if_neg h0];rfl
    have HN0:Hid (¬0≤l.getD k 0):=by unfold Hid;rw [HGE.out];exact h0
    clear h0 HSKIP HPUT HKS
    go_wp2_with fail
    go_roundw
    case rel =>
     have h6:=HT6.out;exact⟨k+1,by omega,by go_num,acc,by rw [←HACC2.out];exact HACC.out,by rw [HK2.out];exact HAL.out,h6.ext,h6.mp.more (Nat.le_succ _) (mapF_skip HN0.out),h6.c0,h6.c1,h6.c2,h6.size⟩
    case measure=>simp [intOf];omega
  ·obtain rfl:k=C.length:=by omega
   have hacc':acc=jR C l:=by have:=HACC.out;simpa [jR] using this
   have hkl:∀x∈acc,(x.kind=9∨x.kind=10→0≤x.a∧x.a.toNat<C.length∧0≤l.getD x.a.toNat 0):=by
    rw [hacc'];intro x hx hkk;obtain⟨i,hi,rfl,h0⟩:=keepGo_mem C l x hx;have hin:C[i].a.toNat∈nx C[i] i:=by unfold nx;rw [if_pos hkk];simp
    obtain⟨q1,_,q3⟩:=HFULL.out.height hi h0 hin;exact⟨(HJ.out _ (List.getElem_mem hi)).1,q1,q3⟩
   have HKL:=eH hkl;have HA2:=eH hacc';obtain⟨vr,⟨c2,c2'⟩,hrow⟩:=HTI.out.c2;obtain⟨ar,capr,rfl,_,_⟩:=hrow.shape;clear hlt HACC hkl hacc' hrow;rename World=>wx0
   go_wp2_with fail
   clear c2 c2'
   go_loopw [56] (fun q wx=>∃j:Nat,j≤acc.length∧q=.int .i64 j∧TO w2 w5 w2.heap.size w3.heap.size A L l C.length (cuR l acc j) wx) (fun q _=>acc.length - (intOf q).toNat)
   case atStart=>exact⟨0,Nat.zero_le _,rfl,by rw [cuR_zero];exact HTI.out⟩
   case round =>
    obtain⟨j,hj,rfl,hto⟩:=hrel;have HTO:=eH hto;clear hto HTI;by_cases hlt:j<acc.length
    ·obtain⟨x,hxe⟩:∃x,x=acc[j]:=⟨_,rfl⟩
     have HXE:=eH hxe;have hxa:Hid (x∈acc):=by unfold Hid;rw [hxe];exact List.getElem_mem hlt
     clear hxe;obtain⟨vr,hcr,hrow⟩:=HTO.out.c2;obtain⟨ar',capr',rfl,_,_⟩:=hrow.shape;have hcl1:=Nat.le_of_eq (cuR_len l acc j);have hcl2:=Nat.le_of_eq (cuR_len l acc j).symm;obtain⟨g,og,rfl,hgb,hcell⟩:=hrow.cell (by omega);have hat:=cuR_at (l:=l) hlt;obtain⟨k0,k0'⟩:=hcell (j * 2) (by omega);obtain⟨k1,k1'⟩:=hcell (j * 2+1) (by omega);rw [(opF_get (by omega)).1,hat,←HXE.out] at k0;rw [←Nat.add_assoc] at k1 k1';rw [(opF_get (by omega)).2,hat,←HXE.out] at k1;have hstep:=cuR_step (l:=l) hlt;have hsame:=cuR_same (l:=l) hlt;rw [←HXE.out] at hstep hsame hat;have HSTEP:=eH hstep;have HSAME:=eH hsame;have HAT:Hid (∀h:j<(cuR l acc j).length,(cuR l acc j)[j]=x):=fun _=>hat
     have HROW:=eH hrow;have HCR:=eH hcr;clear hstep hsame hat hrow hcell;generalize cuR l acc j=cur at *;obtain⟨c2,c2'⟩:=hcr;rename World=>wy
     by_cases hk:x.kind∈[(9:Int),10]
     ·have HC:Hid (decide (x.kind∈[(9:Int),10])=true):=decide_eq_true hk;have hj2:x.kind=9∨x.kind=10:=by simpa using hk
      obtain⟨ha0,ha1,ha2⟩:=HKL.out x hxa.out hj2;obtain⟨m,hm⟩:∃m:Nat,x.a=m:=⟨x.a.toNat,by omega⟩
      have HTR:Hid (jW l x=⟨x.kind,qR l m⟩):=by unfold Hid jW;rw [if_pos hj2,hm];rfl
      rw [hm] at k1 ha1 ha2;have HMF:Hid (mapF l C.length m=qR l m):=mapF_all (C:=C) (j:=m) (by simpa using ha1) (by simpa using ha2);have hmb:m<C.length:=by simpa using ha1
      clear hk hj2 ha0 ha1 ha2
      go_wp2_with (first
       | (at_lookup;refine wpList_lookup_own_int _ rfl _ _ 141 rfl 3 3 .i64 (int_keyed Tryz.underlying3) Tryz.underlying141 Tryz.underlying3 (zeroI _) w2.heap.size C.length D rfl HOWN.out _ (.int .i64 m) rfl (keyI (I64.nat (by omega))) ?_;intro cm hcm _;have hcm2:cm=qR l m:=(by have e:=(HF.out m).symm.trans hcm;rw [HMF.out] at e;cases e;rfl);subst hcm2)
       | (go_at_call 90;(with_reducible refine(qI _ _ _ _ _ (ints2 _ 9 10 (I64.small (by decide) (by decide)) (I64.small (by decide) (by decide)) _)).mono ?_);rintro e w8 ⟨rfl,hx8⟩;rw [HC.out];have HX8:=eH (((eR wy).alloc _).trans hx8);have HT8:=eH (HTO.out.ext' HX8.out);obtain⟨D,hown,hD,hf⟩:=HT8.out.mp;have HOWN:=eH hown;have HF:=eH hf;obtain⟨s1,s1'⟩:=Cx.ext ⟨k1,k1'⟩ HX8.out;clear hx8 hown hf hD))
      go_roundw
      case rel =>
       have hne:j<cur.length:=by omega
       have h9:=HT8.out.store (j:=j) (Nat.le_of_lt HM8.out) HM8.out (HCR.out.ext HX8.out) (HROW.out.ext HX8.out (by decide)) hgb hne (qR l m);rw [HAT.out hne,←HTR.out,HSTEP.out] at h9;exact⟨j+1,by omega,by go_num,h9⟩
      case measure=>simp [intOf];omega
     ·have HC:Hid (decide (x.kind∈[(9:Int),10])=false):=decide_eq_false hk;have HTR:Hid (jW l x=x):=by unfold Hid jW;rw [if_neg (by simpa using hk)]
      go_wp2_with (first
       | (go_at_call 90;(with_reducible refine(qI _ _ _ _ _ (ints2 _ 9 10 (I64.small (by decide) (by decide)) (I64.small (by decide) (by decide)) _)).mono ?_);rintro e w8 ⟨rfl,hx8⟩;rw [HC.out]))
      go_roundw
      case rel=>exact⟨j+1,by omega,by go_num,by rw [HSAME.out HTR.out];exact HTO.out.ext' (((eR _).alloc _).trans hx8)⟩
      case measure=>simp [intOf];omega
    ·obtain rfl:j=acc.length:=by omega
     have hto:=HTO.out;have hcu:cuR l acc acc.length=vE C l:=by
      rw [cuR_all,HA2.out];unfold vE;exact(zGv l C l).symm
     rw [hcu] at hto;have HT9:=eH hto;clear hto hcu HTO hlt;obtain⟨⟨c0,c0'⟩,⟨c1,c1'⟩⟩:=(⟨HT9.out.c0,HT9.out.c1⟩:_∧_)
     obtain⟨vr,⟨c2,c2'⟩,hrow⟩:=HT9.out.c2;obtain⟨ar',capr',rfl,_,_⟩:=hrow.shape;have HROW:=eH hrow;obtain⟨d0,d0'⟩:=c40.ext HT9.out.ext;obtain⟨d1,d1'⟩:=c41.ext HT9.out.ext;obtain⟨d2,d2'⟩:=c42.ext HT9.out.ext;have HM9:Hid (w.heap.size<w3.heap.size):=by unfold Hid;have:=HM8.out;omega
     clear hrow
     go_wp2_with fail
     have e0:=(((Cx.set ⟨d0,d0'⟩ (.int .i64 A)).other (b':=w.heap.size) (j':=1) (.inr (by decide)) (.int .i64 L)).other (b':=w.heap.size) (j':=2) (.inr (by decide)) (.slice ar' (vE C l).length capr')).1;have e1:=(((Cx.other ⟨d1,d1'⟩ (b':=w.heap.size) (j':=0) (.inr (by decide)) (.int .i64 A)).set (.int .i64 L)).other (b':=w.heap.size) (j':=2) (.inr (by decide)) (.slice ar' (vE C l).length capr')).1;have e2:=(((Cx.other ⟨d2,d2'⟩ (b':=w.heap.size) (j':=0) (.inr (by decide)) (.int .i64 A)).other (b':=w.heap.size) (j':=1) (.inr (by decide)) (.int .i64 L)).set (.slice ar' (vE C l).length capr')).1;refine bodyPost_ret (qG rfl _ _ w.heap.size 0 _ _ rfl (range3 e0 e1 e2) rfl rfl (by kernel_rfl)) rfl ⟨⟨_,rfl,_,rfl,iA,iL,?_⟩,?_⟩
     ·have hm9:=HM9.out;refine Ops.of_row (l:=vE C l) (RowAt.chg (M:=(·=w.heap.size)) HROW.out ?_ (fun g e hg=>?_) (by decide)) ?_ (zGw l (by omega) C l HOI.out) _ (fun b hb _=>?_)
      ·exact(((zO _ _ 0 _).trans (zO _ _ 1 _)).trans (zO _ _ 2 _))
      ·have h1:=HROW.out.le _ e;omega
      ·have:(vE C l).length≤C.length:=zDf l C l;omega
      ·show w.heap.size≤b;omega
     ·exact(((HX.out.trans HT9.out.ext).setCell (p:=⟨w.heap.size,0,none⟩) (Nat.le_refl _) _).setCell (p:=⟨w.heap.size,1,none⟩) (Nat.le_refl _) _).setCell (p:=⟨w.heap.size,2,none⟩) (Nat.le_refl _) _
end Go.Proofs.YtpcjkfppacnkgaaGreatDoor
end
section
namespace Go.Proofs.YtpcjkfppacnkgaaGreatDoor
open Go Go.RowKit
theorem hts_at {p:List GFunc} {k:Nat} (h:funcErr p k=0) (hk:k<p.length):p.getD k default=p[k]∧RightF p p[k]:=by
 obtain⟨n,hn,e,hg,hR⟩:=zHz h;obtain rfl:k=n:=by omega
 exact⟨by simpa using hg,hR⟩
theorem zGl (p:List GFunc) (v:Value) (S:Nat→Prop) (w:World) (hp:zM w S v p) :
  Calls Tryz.prog 36 #[v] w fun e w'=>e=.returned (.int .i64 (zZ p))∧Ext w w':=by
 have HP:=eH hp;obtain⟨r,hr⟩:∃r,zZ p=r:=⟨_,rfl⟩
 rw [hr];have HR:=eH hr;clear hr;have hp0:=hp;obtain⟨a,cap,rfl,hcap,hby,_⟩:=hp;by_cases h1:5<p.length
 ·have hres:r=2:=by rw [←HR.out];unfold zZ;rw [if_pos h1]
  subst hres;clear hp0;go_enter Tryz.func36,Tryz.ntmps36
  go_wp2_with fail
  go_ret;exact⟨rfl,eR _⟩
 ·by_cases h2:p.length=0
  ·have hres:r=5:=by rw [←HR.out];unfold zZ;rw [if_neg h1,if_pos h2]
   subst hres;have TZ:((p.length:Int) == 0)=true:=by simp [h2]
   clear hp0 h2;go_enter Tryz.func36,Tryz.ntmps36
   go_wp2_with fail
   go_ret;exact⟨rfl,eR _⟩
  ·have hpos:0<p.length:=by omega
   have TZ:((p.length:Int) == 0)=false:=beq_eq_false_iff_ne.2 (by omega);have h5:p.length≤5:=by omega
   obtain⟨b,o,cap',e0,_,_,⟨_,x0,_⟩,_,_⟩:=hp0.get hpos;simp only [Value.slice.injEq] at e0;obtain⟨rfl,-,rfl⟩:=e0;rw [Nat.zero_mul,Nat.add_zero] at x0;have e1:p.getD 0 default=p[0]:=by simp [List.getD,List.getElem?_eq_getElem hpos]
   by_cases h3:p[0].args≠0
   ·have hres:r=1:=by rw [←HR.out];unfold zZ;rw [if_neg h1,if_neg h2,e1,if_pos h3]
    subst hres;have T3:(p[0].args != 0)=true:=bne_iff_ne.2 h3;clear hp0 h2 h3 e1 h1;go_enter Tryz.func36,Tryz.ntmps36
    go_wp2_with fail
    go_ret;exact⟨rfl,eR _⟩
   ·have HRES:Hid (r=if kX p 0≠0 then kX p 0 else if yI p 0=true then 0 else 1):=by
     unfold Hid;rw [←HR.out,←zBv,←zEj];unfold zZ;rw [if_neg h1,if_neg h2,e1,if_neg h3]
    have T3:(p[0].args != 0)=false:=by rw [bne_eq_false_iff_eq];exact Decidable.byContradiction h3
    clear hp0 h2 h3 e1 HR h1;go_enter Tryz.func36,Tryz.ntmps36
    go_wp2_with fail
    go_loopw [24] (fun q wr=>∃k:Nat,k≤p.length∧q=.int .i64 k∧Ext w wr∧kX p k=kX p 0) (fun q _=>p.length - (intOf q).toNat)
    case atStart=>exact⟨0,Nat.zero_le _,rfl,eR _,rfl⟩
    case round =>
     obtain⟨k,hk,rfl,hb,hff⟩:=hrel;have HB:=eH hb;have HFF:=eH hff;clear hb hff;by_cases hlt:k<p.length
     ·obtain⟨e,he⟩:∃e,funcErr p k=e:=⟨_,rfl⟩
      have HE:=eH he;have HST:=eH (zBw p hlt);clear he;by_cases hz:e=0
      ·subst hz
       go_wp2_with (first
        | (go_at_call 87;(with_reducible refine(zDa p _ S k _ (zM.stays (Ext.stays HB.out) HP.out)).mono ?_);rintro e w1 ⟨rfl,hb1⟩;rw [HE.out]))
       go_roundw
       case rel=>exact⟨k+1,by omega,by go_num,HB.out.trans hb1,by rw [←HFF.out,HST.out,if_neg (fun h=>h HE.out)]⟩
       case measure=>simp [intOf];omega
      ·have TE:(e != 0)=true:=bne_iff_ne.2 hz;have hres:r=e:=by
        rw [HRES.out,←HFF.out,HST.out,HE.out,if_pos hz,if_pos hz]
       subst hres;clear hz
       go_wp2_with (first
        | (go_at_call 87;(with_reducible refine(zDa p _ S k _ (zM.stays (Ext.stays HB.out) HP.out)).mono ?_);rintro e w1 ⟨rfl,hb1⟩;rw [HE.out]))
       go_ret;exact⟨rfl,HB.out.trans hb1⟩
     ·obtain rfl:k=p.length:=by omega
      have HZ:Hid (kX p 0=0):=by
       unfold Hid;rw [←HFF.out,zGo]
      clear hlt HFF;rename World=>wr1
      go_wp2_with fail
      go_loopw [36] (fun q wr=>∃k:Nat,k≤p.length∧q=.int .i64 k∧Ext w wr∧yI p k=yI p 0) (fun q _=>p.length - (intOf q).toNat)
      case atStart=>exact⟨0,Nat.zero_le _,rfl,HB.out,rfl⟩
      case round =>
       obtain⟨k,hk,rfl,hb,hff⟩:=hrel;have HB2:=eH hb;have HFF:=eH hff;clear hb hff HB;by_cases hlt:k<p.length
       ·have hfe:=zAm _ 0 rfl HZ.out k (Nat.zero_le _) hlt;obtain⟨hg,hR⟩:=hts_at hfe hlt;have HST:=eH (zEk p hlt);rw [hg] at HST;clear hfe hg
        cases hh:hts p p[k].code with
        | none =>
         have HH:=eH hh;have hres:r=1:=by
          rw [HRES.out,HZ.out,if_neg (fun h=>h rfl),←HFF.out,HST.out,hh];rfl
         subst hres;clear hh
         go_wp2_with (first
          | (go_at_call 88;(with_reducible refine(zBt p _ S k _ (zM.stays (Ext.stays HB2.out) HP.out) hlt hR).mono ?_);rintro e w2 ⟨hr,hb2⟩;rw [HH.out] at hr;obtain rfl:=hr))
         go_ret;exact⟨rfl,HB2.out.trans hb2⟩
        | some l =>
         have HH:=eH hh;clear hh
         go_wp2_with (first
          | (go_at_call 88;(with_reducible refine(zBt p _ S k _ (zM.stays (Ext.stays HB2.out) HP.out) hlt hR).mono ?_);rintro e w2 ⟨hr,hb2⟩;rw [HH.out] at hr;obtain⟨vl,rfl,hl⟩:=hr;obtain⟨al,cl,rfl,_,_,_⟩:=(⟨hl,trivial⟩:_∧True).1))
         go_roundw
         case rel=>exact⟨k+1,by omega,by go_num,HB2.out.trans hb2,by rw [←HFF.out,HST.out,HH.out];rfl⟩
         case measure=>simp [intOf];omega
       ·obtain rfl:k=p.length:=by omega
        have hres:r=0:=by
         rw [HRES.out,HZ.out,if_neg (fun h=>h rfl),←HFF.out,allFrom_end];rfl
        subst hres;clear hlt HFF
        go_wp2_with fail
        go_ret;exact⟨rfl,HB2.out⟩
theorem zCt (p:List GFunc) (v:Value) (S:Nat→Prop) (w:World) (hp:zM w S v p) :
  Calls Tryz.prog 14 #[v] w fun e w'=>e=.returned (.int .i64 (zZ p))∧Ext w w':=by
 have HP:=eH hp;obtain⟨r,hr⟩:∃r,zZ p=r:=⟨_,rfl⟩
 rw [hr];have HR:=eH hr;clear hr;have hp0:=hp;obtain⟨a,cap,rfl,hcap,hby,_⟩:=hp;by_cases h1:5<p.length
 ·have hres:r=2:=by rw [←HR.out];unfold zZ;rw [if_pos h1]
  subst hres;clear hp0;go_enter Tryz.func14,Tryz.ntmps14
  go_wp2_with fail
  go_ret;exact⟨rfl,eR _⟩
 ·by_cases h2:p.length=0
  ·have hres:r=5:=by rw [←HR.out];unfold zZ;rw [if_neg h1,if_pos h2]
   subst hres;have TZ:((p.length:Int) == 0)=true:=by simp [h2]
   clear hp0 h2;go_enter Tryz.func14,Tryz.ntmps14
   go_wp2_with fail
   go_ret;exact⟨rfl,eR _⟩
  ·have hpos:0<p.length:=by omega
   have TZ:((p.length:Int) == 0)=false:=beq_eq_false_iff_ne.2 (by omega);have h5:p.length≤5:=by omega
   obtain⟨b,o,cap',e0,_,_,⟨_,x0,_⟩,_,_⟩:=hp0.get hpos;simp only [Value.slice.injEq] at e0;obtain⟨rfl,-,rfl⟩:=e0;rw [Nat.zero_mul,Nat.add_zero] at x0;have e1:p.getD 0 default=p[0]:=by simp [List.getD,List.getElem?_eq_getElem hpos]
   by_cases h3:p[0].args≠0
   ·have hres:r=1:=by rw [←HR.out];unfold zZ;rw [if_neg h1,if_neg h2,e1,if_pos h3]
    subst hres;have T3:(p[0].args != 0)=true:=bne_iff_ne.2 h3;clear hp0 h2 h3 e1 h1;go_enter Tryz.func14,Tryz.ntmps14
    go_wp2_with fail
    go_ret;exact⟨rfl,eR _⟩
   ·have HRES:Hid (r=if kX p 0≠0 then kX p 0 else if yI p 0=true then 0 else 1):=by
     unfold Hid;rw [←HR.out,←zBv,←zEj];unfold zZ;rw [if_neg h1,if_neg h2,e1,if_neg h3]
    have T3:(p[0].args != 0)=false:=by rw [bne_eq_false_iff_eq];exact Decidable.byContradiction h3
    clear hp0 h2 h3 e1 HR h1;go_enter Tryz.func14,Tryz.ntmps14
    go_wp2_with fail
    go_loopw [3] (fun q wr=>∃k:Nat,k≤p.length∧q=.int .i64 k∧Ext w wr∧kX p k=kX p 0) (fun q _=>p.length - (intOf q).toNat)
    case atStart=>exact⟨0,Nat.zero_le _,rfl,eR _,rfl⟩
    case round =>
     obtain⟨k,hk,rfl,hb,hff⟩:=hrel;have HB:=eH hb;have HFF:=eH hff;clear hb hff;by_cases hlt:k<p.length
     ·obtain⟨e,he⟩:∃e,funcErr p k=e:=⟨_,rfl⟩
      have HE:=eH he;have HST:=eH (zBw p hlt);clear he;by_cases hz:e=0
      ·subst hz
       go_wp2_with (first
        | (go_at_call 42;(with_reducible refine(vO p _ S k _ (zM.stays (Ext.stays HB.out) HP.out)).mono ?_);rintro e w1 ⟨rfl,hb1⟩;rw [HE.out]))
       go_roundw
       case rel=>exact⟨k+1,by omega,by go_num,HB.out.trans hb1,by rw [←HFF.out,HST.out,if_neg (fun h=>h HE.out)]⟩
       case measure=>simp [intOf];omega
      ·have TE:(e != 0)=true:=bne_iff_ne.2 hz;have hres:r=e:=by
        rw [HRES.out,←HFF.out,HST.out,HE.out,if_pos hz,if_pos hz]
       subst hres;clear hz
       go_wp2_with (first
        | (go_at_call 42;(with_reducible refine(vO p _ S k _ (zM.stays (Ext.stays HB.out) HP.out)).mono ?_);rintro e w1 ⟨rfl,hb1⟩;rw [HE.out]))
       go_ret;exact⟨rfl,HB.out.trans hb1⟩
     ·obtain rfl:k=p.length:=by omega
      have HZ:Hid (kX p 0=0):=by
       unfold Hid;rw [←HFF.out,zGo]
      clear hlt HFF;rename World=>wr1
      go_wp2_with fail
      go_loopw [5] (fun q wr=>∃k:Nat,k≤p.length∧q=.int .i64 k∧Ext w wr∧yI p k=yI p 0) (fun q _=>p.length - (intOf q).toNat)
      case atStart=>exact⟨0,Nat.zero_le _,rfl,HB.out,rfl⟩
      case round =>
       obtain⟨k,hk,rfl,hb,hff⟩:=hrel;have HB2:=eH hb;have HFF:=eH hff;clear hb hff HB;by_cases hlt:k<p.length
       ·have hfe:=zAm _ 0 rfl HZ.out k (Nat.zero_le _) hlt;obtain⟨hg,hR⟩:=hts_at hfe hlt;have HST:=eH (zEk p hlt);rw [hg] at HST;clear hfe hg
        cases hh:hts p p[k].code with
        | none =>
         have HH:=eH hh;have hres:r=1:=by
          rw [HRES.out,HZ.out,if_neg (fun h=>h rfl),←HFF.out,HST.out,hh];rfl
         subst hres;clear hh
         go_wp2_with (first
          | (go_at_call 43;(with_reducible refine(zAv p _ S k _ (zM.stays (Ext.stays HB2.out) HP.out) hlt hR).mono ?_);rintro e w2 ⟨hr,hb2⟩;rw [zIa hR.jumps,HH.out] at hr;obtain rfl:=hr))
         go_ret;exact⟨rfl,HB2.out.trans hb2⟩
        | some l =>
         have HH:=eH hh;clear hh
         go_wp2_with (first
          | (go_at_call 43;(with_reducible refine(zAv p _ S k _ (zM.stays (Ext.stays HB2.out) HP.out) hlt hR).mono ?_);rintro e w2 ⟨hr,hb2⟩;rw [zIa hR.jumps,HH.out] at hr;obtain⟨vl,rfl,hl⟩:=hr;obtain⟨al,cl,rfl,_,_,_⟩:=(⟨hl,trivial⟩:_∧True).1))
         go_roundw
         case rel=>exact⟨k+1,by omega,by go_num,HB2.out.trans hb2,by rw [←HFF.out,HST.out,HH.out];rfl⟩
         case measure=>simp [intOf];omega
       ·obtain rfl:k=p.length:=by omega
        have hres:r=0:=by
         rw [HRES.out,HZ.out,if_neg (fun h=>h rfl),←HFF.out,allFrom_end];rfl
        subst hres;clear hlt HFF
        go_wp2_with fail
        go_ret;exact⟨rfl,HB2.out⟩
end Go.Proofs.YtpcjkfppacnkgaaGreatDoor
end
section
namespace Go.Proofs.YtpcjkfppacnkgaaGreatDoor
open Go Go.RowKit
end Go.Proofs.YtpcjkfppacnkgaaGreatDoor
end
section
namespace Go.Proofs.YtpcjkfppacnkgaaGreatDoor
open Go Go.RowKit
set_option maxRecDepth 100000 in
theorem infoF:(Tryz.prog.info? 49).map (fun i=>(i.zero,i.size,i.bytes))=some (some (.agg #[.int .i64 0,.int .i64 0,.slice none 0 0]),3,40):=by kernel_rfl
theorem RowAt.lt {w:World} {base size:Nat} {v:Value} {n:Nat} {xs:List Value} (h:RowAt w base size v n xs) (hs:0<size):∀g,zB v=some g→g<w.heap.size:=by
 obtain⟨_,a,cap,rfl,_,_,h3⟩:=h;intro g hg;rcases h3 with h0 | ⟨g',o,rfl,_,_,ht⟩
 ·subst h0;cases a<;>simp [zB] at hg
 ·by_cases hc:cap=0
  ·subst hc;simp [zB] at hg
  ·rw [zK g' o n cap hc] at hg
   cases hg
   obtain⟨v,hv⟩:=Option.isSome_iff_exists.1 (ht 0 (Nat.mul_pos (by omega) hs)).1;exact zY hv
theorem Sl.map {α β:Type} {E:Nat→Nat→β→Prop} {sz bytes:Nat} {v:Value} {l:List α} (f:α→β) (h:Sl (fun b o y=>E b o (f y)) sz bytes v l):Sl E sz bytes v (l.map f):=by
 obtain⟨a,cap,rfl,h1,h2,h3⟩:=h;refine⟨a,cap,by rw [List.length_map],by rw [List.length_map];exact h1,by rw [List.length_map];exact h2,fun i hi=>?_⟩;obtain⟨b,o,e,h4⟩:=h3 i (by rwa [List.length_map] at hi);exact⟨b,o,e,by rw [List.getElem_map];exact h4⟩
def zCj (y:GFunc × Value):List Value:=[.int .i64 y.1.args,.int .i64 y.1.locals,y.2]
structure FRow (w:World) (base:Nat) (v:Value) (fs:List (GFunc × Value)):Prop where
 row:RowAt w base 3 v fs.length (fs.flatMap zCj)
 ops:∀y∈fs,I64 y.1.args∧I64 y.1.locals∧Ops w (fun b=>base≤b∧zB v≠some b) y.2 y.1.code
theorem FRow.nil (w:World) (base:Nat):FRow w base (.slice none 0 0) []:=⟨RowAt.nil _ _ _ _,by simp⟩
theorem FRow.chg {M:Nat→Prop} {w w':World} {base:Nat} {v:Value} {fs:List (GFunc × Value)} (h:FRow w base v fs) (hc:Chg M w w') (hM:∀b,base≤b→¬M b):FRow w' base v fs :=
 ⟨h.row.chg hc (fun g e=>hM g (h.row.le g e)) (by decide),fun y hy=>⟨(h.ops y hy).1,(h.ops y hy).2.1,Ops.stays (hc.stays (fun b hb=>hM b hb.1)) (h.ops y hy).2.2⟩⟩
theorem FRow.ext {w w':World} {base:Nat} {v:Value} {fs:List (GFunc × Value)} (h:FRow w base v fs) (he:Ext w w'):FRow w' base v fs:=h.chg (M:=fun _=>False) (Chg.of_ext he) (fun _ _ h=>h)
theorem FRow.funcs {w:World} {base:Nat} {v:Value} {fs:List (GFunc × Value)} (h:FRow w base v fs) (hb:fs.length≤1000000):zM w (base≤·) v (fs.map Prod.fst):=by
 refine Sl.map Prod.fst (Sl.of_row zCj h.row (fun _=>rfl) (by omega) fun b o y hbb _ hy hc=>?_);obtain⟨i1,i2,i3⟩:=h.ops y hy;exact⟨⟨hbb,hc 0 _ rfl,i1⟩,⟨hbb,hc 1 _ rfl,i2⟩,y.2,hc 2 _ rfl,Ops.stays (uU.widen (fun b hb=>hb.1)) i3⟩
theorem src_func (w:World) (F:GFunc) (a:Option Addr) (n cap:Nat) (t:TypeId):qL (w.alloc (.cells #[.int .i64 F.args,.int .i64 F.locals,.slice a n cap] t)) 3 (.slice (some ⟨w.heap.size,0,none⟩) 1 1) 1 (zCj (F,.slice a n cap)):=by
 refine⟨_,1,rfl,rfl,by simp [zCj,Value.oneCell'],.inr ⟨_,rfl,fun j u hj=>?_⟩⟩
 match j,hj with
 | 0,hj=>cases hj;rw [Addr.add_zero'];exact World.cell?_alloc_new w _ _ 0
 | 1,hj=>cases hj;exact World.cell?_alloc_new w _ _ 1
 | 2,hj=>cases hj;exact World.cell?_alloc_new w _ _ 2
end Go.Proofs.YtpcjkfppacnkgaaGreatDoor
end
