/- Contracts and plain facts. -/
import Derived.Test.YtpcjkfppacnkgaaGreatDoorGPBI
set_option maxHeartbeats 4000000
set_option maxRecDepth 100000
namespace Go.Proofs.YtpcjkfppacnkgaaGreatDoor
open Go Go.RowKit
theorem zGn (p:List GFunc) (v:Value) (S:Nat→Prop) (f:Int) (w:World) (hp:zM w S v p) :
  Calls Tryz.prog 86 #[v,.int .i64 f] w fun e w'=>HRet w.heap.size p f e w'∧Ext w w':=by
 have HP:=eH hp;obtain⟨a,cap,rfl,_,_,_⟩:=hp;by_cases h0:funcErr p f=0
 ·obtain⟨n,hn,rfl,hg,hR⟩:=zHz h0;have H0:=eH h0;clear h0
  cases hh:hts p p[n].code with
  | none =>
   have hx:=zBi H0.out (by rw [hg];exact hh);have HH:=eH hh;clear hh;go_enter Tryz.func86,Tryz.ntmps86
   go_wp2_with (first
    | (go_at_call 43;(with_reducible refine(zAv p _ S n _ (zM.stays (Ext.stays hb) HP.out) hn hR).mono ?_);rintro e w2 ⟨hr,hb2⟩;rw [zIa hR.jumps,HH.out] at hr;obtain rfl:=hr)
    | (go_at_call 42;(with_reducible refine(vO p _ S n _ HP.out).mono ?_);rintro e w1 ⟨rfl,hb⟩;rw [H0.out]))
   go_ret2
   exact⟨⟨_,by rw [hx.1];rfl,by rw [hx.2];exact Sl.nil _ _ _⟩,hb.trans hb2⟩
  | some l =>
   have hx:=hErr_some H0.out (by rw [hg];exact hh);have HH:=eH hh;clear hh;go_enter Tryz.func86,Tryz.ntmps86
   go_wp2_with (first
    | (go_at_call 43;(with_reducible refine(zAv p _ S n _ (zM.stays (Ext.stays hb) HP.out) hn hR).mono ?_);rintro e w2 ⟨hr,hb2⟩;rw [zIa hR.jumps,HH.out] at hr;obtain⟨vl,rfl,hl⟩:=hr;obtain⟨al,cl,rfl,_,_,_⟩:=(⟨hl,trivial⟩:_∧True).1)
    | (go_at_call 42;(with_reducible refine(vO p _ S n _ HP.out).mono ?_);rintro e w1 ⟨rfl,hb⟩;rw [H0.out]))
   go_ret2
   exact⟨⟨_,by rw [hx.1];rfl,by rw [hx.2];exact Ints.stays (uU.widen (fun b hB=>Nat.le_trans hb.size hB)) hl⟩,hb.trans hb2⟩
 ·have hx:=zCz h0;obtain⟨r,hr⟩:∃r,funcErr p f=r:=⟨_,rfl⟩
  rw [hr] at hx h0;have HR:=eH hr;clear hr;have TB:(r != 0)=true:=bne_iff_ne.2 h0;clear h0;go_enter Tryz.func86,Tryz.ntmps86
  go_wp2_with (first
   | (go_at_call 42;(with_reducible refine(vO p _ S f _ HP.out).mono ?_);rintro e w1 ⟨rfl,hb⟩;rw [HR.out]))
  go_ret2
  exact⟨⟨_,by rw [hx.1];rfl,by rw [hx.2];exact Sl.nil _ _ _⟩,hb⟩
def zGc (w:World) (T:Nat→Prop) (r:GState × By) (e:Ending) (w':World):Prop:=(∃y,e=.returned (.tuple #[y,.string ⟨r.2.toArray⟩])∧zW w' (Up T w.heap.size) y r.1)∧Ext w w'
def Box3 (W:World) (i:Nat) (x y z:Value):Prop:=Cx W i 0 x∧Cx W i 1 y∧Cx W i 2 z
theorem Box3.ext {W W':World} {i:Nat} {x y z:Value} (h:Box3 W i x y z) (he:Ext W W'):Box3 W' i x y z:=⟨h.1.ext he,h.2.1.ext he,h.2.2.ext he⟩
theorem Box3.drew {W:World} {i:Nat} {x y z:Value} (h:Box3 W i x y z):Box3 W.drew i x y z:=h.ext (eR _).drew
theorem Box3.new (W:World) (x y z:Value) (t:TypeId):Box3 (W.alloc (.cells #[x,y,z] t)) W.heap.size x y z:=⟨Cx.new W [x,y,z] t (j:=0) rfl,Cx.new W [x,y,z] t (j:=1) rfl,Cx.new W [x,y,z] t (j:=2) rfl⟩
theorem ExtS {w W:World} {i:Nat} (hi:w.heap.size≤i) (h:Ext w W) (x y z:Value):Ext w (((W.setCell ⟨i,0,none⟩ x).setCell ⟨i,1,none⟩ y).setCell ⟨i,2,none⟩ z) :=
 ((h.setCell (p:=⟨i,0,none⟩) hi _).setCell (p:=⟨i,1,none⟩) hi _).setCell (p:=⟨i,2,none⟩) hi _
theorem Box3.two (W:World) (x y z x' y' z':Value) (t:TypeId):Box3 ((W.alloc (.cells #[x,y,z] t)).alloc (.cells #[x',y',z'] t)) (W.heap.size+1) x' y' z':=by
 have h:=Box3.new (W.alloc (.cells #[x,y,z] t)) x' y' z' t;have e:(W.alloc (.cells #[x,y,z] t)).heap.size=W.heap.size+1:=Array.size_push _;rw [e] at h;exact h
abbrev rd3 (i:Nat) (x y z:Value) (W:World):Prop:=W.cell? ⟨i,0,none⟩=some x∧W.cell? ⟨i,1,none⟩=some y∧W.cell? ⟨i,2,none⟩=some z
theorem Box3.rd {W:World} {i:Nat} {x y z:Value} (h:Box3 W i x y z):rd3 i x y z W:=⟨h.1.1,h.2.1.1,h.2.2.1⟩
theorem Box3.far {W:World} {i j:Nat} {x y z u0 u1 u2:Value} (h:Box3 W i x y z) (hj:i≠j):rd3 i x y z (((W.setCell ⟨j,0,none⟩ u0).setCell ⟨j,1,none⟩ u1).setCell ⟨j,2,none⟩ u2) :=
 ⟨(chg3 _ _ _ _ _).cell (by show ¬i=j;exact hj) h.1.1,(chg3 _ _ _ _ _).cell (by show ¬i=j;exact hj) h.2.1.1,(chg3 _ _ _ _ _).cell (by show ¬i=j;exact hj) h.2.2.1⟩
theorem few2 {w:World} {T:Nat→Prop} {vs:Value} {s:GState} (h:zW w T vs s):∃a c b d,vs=.agg #[.slice a s.fibers.length c,.int .i64 s.now,.slice b s.out.length d]∧Hid (Ints w T (.slice b s.out.length d) s.out):=by
 obtain⟨a,c,b,d,rfl⟩:=h.few;obtain⟨_,_,e,_,_,hints⟩:=h;simp only [Value.agg.injEq,Array.mk.injEq,List.cons.injEq,true_and,and_true] at e;obtain⟨rfl,rfl⟩:=e;exact⟨a,c,b,d,rfl,hints⟩
structure Tri (w W:World) (i:Nat) (x y z:Value):Prop where
 e:Ext w W
 q:Box3 W i x y z
 r:Box3 W (w.heap.size+1) (.slice none 0 0) (.int .i64 0) (.slice none 0 0)
theorem Tri.ext {w W W':World} {i:Nat} {x y z:Value} (h:Tri w W i x y z) (he:Ext W W'):Tri w W' i x y z:=⟨h.e.trans he,h.q.ext he,h.r.ext he⟩
theorem Tri.drew {w W:World} {i:Nat} {x y z:Value} (h:Tri w W i x y z):Tri w W.drew i x y z:=h.ext (eR _).drew
theorem preU (w:World) (x y z:Value):∃W1,Hid ((w.alloc (.cells #[x,y,z] 58)).alloc (.cells #[.slice none 0 0,.int .i64 0,.slice none 0 0] 58)=W1)∧Hid (Tri w W1 w.heap.size x y z)∧Hid (W1.heap.size=w.heap.size+2) :=
 ⟨_,rfl,⟨((eR w).alloc _).alloc _,(Box3.new w _ _ _ _).ext ((eR _).alloc _),Box3.two w _ _ _ _ _ _ _⟩,by unfold Hid;simp⟩
theorem Tri.ret {w W:World} {i:Nat} {x y z:Value} {s:GState} {T:Nat→Prop} {vs:Value} {e:Ending} {b:By} {u0 u1 u2:Value} (h:Tri w W i x y z) (he:e=.returned (.tuple #[vs,.string ⟨b.toArray⟩])) (hs:zW w T vs s) :
  zGc w T (s,b) e (((W.setCell ⟨w.heap.size+1,0,none⟩ u0).setCell ⟨w.heap.size+1,1,none⟩ u1).setCell ⟨w.heap.size+1,2,none⟩ u2) :=
 ⟨⟨_,he,zW.stays (fun _ _ _ ht hc=>⟨eC (uL h.e _ _ _) hc,.inl ht⟩) hs⟩,uL h.e _ _ _⟩
theorem Tri.ret2 {w W:World} {i m:Nat} {x y z:Value} {s:GState} {T:Nat→Prop} {vs:Value} {e:Ending} {b:By} {u0 u1 u2:Value} (h:Tri w W i x y z) (hm:w.heap.size+2≤m) (he:e=.returned (.tuple #[vs,.string ⟨b.toArray⟩])) (hs:zW W (m≤·) vs s) :
  zGc w T (s,b) e (((W.setCell ⟨w.heap.size+1,0,none⟩ u0).setCell ⟨w.heap.size+1,1,none⟩ u1).setCell ⟨w.heap.size+1,2,none⟩ u2) :=
 ⟨⟨_,he,zW.stays (fun g o v hg hc=>⟨(chg3 _ _ _ _ _).cell (by show ¬g=w.heap.size+1;have h2:m≤g:=hg;omega) hc,.inr (by have h2:m≤g:=hg;omega)⟩) hs⟩,uL h.e _ _ _⟩
structure Pl (w:World) (p:List GFunc) (v vs:Value) (S T:Nat→Prop) (s:GState) (l:List Int) (x:By) (X:ByteArray):Prop where
 hX:(⟨x.toArray⟩:ByteArray)=X
 hp:zM w S v p
 hs:zW w T vs s
 hok:Ok p s l
def PlC (w:World) (v vs:Value) (X:ByteArray) (T:Nat→Prop) (r:GState × By):Prop:=Calls Tryz.prog 34 #[v,vs,.string X] w fun e w'=>zGc w T r e w'
theorem wordG_none {p:List GFunc} {s:GState} {x:By} (h:jN p s x=none):x≠outT∧x≠zGm∧x≠zDu∧x≠trimT∧x≠zHe:=by
 unfold jN at h;refine⟨?_,?_,?_,?_,?_⟩<;>(rintro rfl;revert h;simp [outT,zGm,zDu,trimT,zHe])
theorem nots {p:List GFunc} {s:GState} {x:By} {X:ByteArray} (hX:(⟨x.toArray⟩:ByteArray)=X) (hwd:jN p s x=none):(X.toList == ([111,117,116]:List UInt8))=false∧(X.toList == ([108,105,110,101]:List UInt8))=false∧(X.toList == ([107,105,110,100,115]:List UInt8))=false∧(X.toList == ([116,114,105,109]:List UInt8))=false∧(X.toList == ([97,103,97,105,110]:List UInt8))=false:=by
 obtain⟨h1,h2,h3,h4,h5⟩:=wordG_none hwd;exact⟨qA hX h1,qA hX h2,qA hX h3,qA hX h4,qA hX h5⟩
theorem hsl {x:By} {X:ByteArray} (hX:(⟨x.toArray⟩:ByteArray)=X) (hlx:x.length≤9000):∀W,Hid (Calls Tryz.prog 51 #[.string X,.int .u8 32] W fun e w'=>∃v,e=.returned v∧RowAt w' W.heap.size 1 v (zT 32 x).length ((zT 32 x).flatMap txtF)∧Ext W w'):=fun W=>by
 unfold Hid;rw [←hX];refine(split_any x 32 W (by omega)).mono ?_;rintro e w' ⟨v,rfl,h1,_,h2⟩;exact⟨v,rfl,h1,h2⟩
theorem hnum {r:By} {RE:ByteArray} (hRE:(⟨r.toArray⟩:ByteArray)=RE) (hl:r.length≤9000):∀W,Hid (Calls Tryz.prog 52 #[.string RE] W fun e w'=>e=.returned (.int .i64 (numG r))∧Ext W w'):=fun W=>by
 unfold Hid;rw [←hRE];exact num_any r W (by omega)
theorem zBg {w2:World} {B capw:Nat} {aw:Option Addr} {o r:By} {O RE:ByteArray} (hO:Hid ((⟨o.toArray⟩:ByteArray)=O)) (hRE:Hid ((⟨r.toArray⟩:ByteArray)=RE)) (h:Hid (RowAt w2 B 1 (.slice aw 2 capw) 2 ([o,r].flatMap txtF))) :
  ∃gw ow,aw=some ⟨gw,ow,none⟩∧w2.cell? ⟨gw,ow,none⟩=some (.string O)∧w2.cell? ⟨gw,ow+1,none⟩=some (.string RE):=by
 obtain⟨gw,ow,rfl,_,_,hcw⟩:=RowAt.strs (l:=[o,r]) h.out (by simp);exact⟨gw,ow,rfl,by have:=hcw 0 (by simp);rw [←hO.out];exact this,by have:=hcw 1 (by simp);rw [←hRE.out];exact this⟩
section
variable {p:List GFunc} {v vs:Value} {S T:Nat→Prop} {s:GState} {l:List Int} {x:By} {X:ByteArray} {w:World}
theorem played_out (h:Pl w p v vs S T s l x X) (h1:x=outT):PlC w v vs X T (s,jT s.out):=by
 obtain⟨hX,hp,hs,hok⟩:=h;have HP:=eH hp;have HS:=eH hs;have HOK:=eH hok;have HRR:=eH hok.right;have hout:=hok.out;have hfew:=hok.few;obtain⟨a,c,b,d,rfl,HOUT⟩:=few2 hs;obtain⟨ap,cp,rfl,_,_,_⟩:=hp;have RA:=zF;obtain⟨W1,HW1,HT,HS1⟩:=preU w (.slice a s.fibers.length c) (.int .i64 s.now) (.slice b s.out.length d);clear hs hok;unfold PlC;have t1:(X.toList == ([111,117,116]:List UInt8))=true:=vS hX h1;clear h1 hX;go_enter Tryz.func34,Tryz.ntmps34
 go_upto_region 4 with fail
 rw [HW1.out];refine zX (rd3 w.heap.size _ _ _) 5 [0,1,2] [3,4,5] (by kernel_rfl) (by kernel_rfl) (fun _ _ _ _ _ h=>h) (by exact HT.out.drew.q.rd) ?_
 (try simp only [zH,List.filterMap_cons,List.filterMap_nil,xO,xP])
 repeat (
  refine zN (by rfl) ?_;apply Exists.intro;refine⟨fun w' hw'=>?_,?_⟩
  focus
   (try dsimp only [rd3] at hw')
   go_split_ands;go_simp
   (try with_reducible rfl)
  (try dsimp only [Act.put])
  (try simp only [xL,xM,xN]))
 refine zL ?_;replace HT:=eH HT.out.drew;refine zC ?_
 go_wp2_with (first
  | (go_at_call 81;(with_reducible refine(zCd s.out _ _ _ (Ints.stays (Ext.stays HT.out.e) HOUT.out) (by omega)).mono ?_);rintro e w1 ⟨rfl,hx1⟩))
 replace HT:=eH (HT.out.ext hx1);refine zD HT.out.q.rd ?_;obtain⟨⟨z0,z0'⟩,⟨z1,z1'⟩,⟨z2,z2'⟩⟩:=HT.out.r;refine zC ?_
 go_wp2_with fail
 refine zD (HT.out.q.far (by omega)) ?_;refine zC ?_
 go_wp2_with fail
 refine zS ?_
 go_wp2_with fail
 refine bodyPost_ret (kI rfl _ _ (w.heap.size+1) 0 _ _ rfl (box3 ⟨z0,z0'⟩ ⟨z1,z1'⟩ ⟨z2,z2'⟩ _ _ _) rfl rfl (by kernel_rfl)) rfl ?_;exact HT.out.ret rfl HS.out
theorem played_line (h:Pl w p v vs S T s l x X) (h1:x≠outT) (h2:x=zGm):PlC w v vs X T (s,jT ((yA s).getD [])):=by
 obtain⟨hX,hp,hs,hok⟩:=h;have HP:=eH hp;have HS:=eH hs;have HOK:=eH hok;have HRR:=eH hok.right;have hout:=hok.out;have hfew:=hok.few;obtain⟨a,c,b,d,rfl,HOUT⟩:=few2 hs;obtain⟨ap,cp,rfl,_,_,_⟩:=hp;have RA:=zF;obtain⟨W1,HW1,HT,HS1⟩:=preU w (.slice a s.fibers.length c) (.int .i64 s.now) (.slice b s.out.length d);have t1:(X.toList == ([111,117,116]:List UInt8))=false:=qA hX h1;have t2:(X.toList == ([108,105,110,101]:List UInt8))=true:=vS hX h2;have hll:l.length≤1000:=by
  have h:=hok.right.lineF;have:=uC _ _ (zBp hok.lk) (vJ (fun k hk=>(hok.callers k hk).2) hok.lk hok.now.2);omega
 have HL:=eH hok.right.line;clear h1 h2 hX hs hok;unfold PlC;go_enter Tryz.func34,Tryz.ntmps34
 go_upto_region 6 with fail
 rw [HW1.out];refine zX (rd3 w.heap.size _ _ _) 5 [0,1] [2,3,4,5] (by kernel_rfl) (by kernel_rfl) (fun _ _ _ _ _ h=>h) (by exact HT.out.drew.q.rd) ?_
 (try simp only [zH,List.filterMap_cons,List.filterMap_nil,xO,xP])
 repeat (
  refine zN (by rfl) ?_;apply Exists.intro;refine⟨fun w' hw'=>?_,?_⟩
  focus
   (try dsimp only [rd3] at hw')
   go_split_ands;go_simp
   (try with_reducible rfl)
  (try dsimp only [Act.put])
  (try simp only [xL,xM,xN]))
 refine zL ?_;replace HT:=eH HT.out.drew;refine zC ?_
 go_wp2_with (first
  | (go_at_call 82;(with_reducible refine(zCe s _ _ _ (zW.stays (Ext.stays HT.out.e) HS.out) HRR.out.callers l HL.out).mono ?_);rintro e w1 ⟨⟨a1,k1,rfl,hy1⟩,hx1⟩;have HY1:=eH hy1;clear hy1))
 replace HT:=eH (HT.out.ext hx1);refine zD HT.out.q.rd ?_;refine zC ?_
 go_wp2_with (first
  | (go_at_call 81;(with_reducible refine(zCd l _ _ _ (HY1.out) hll).mono ?_);rintro e w2 ⟨rfl,hx2⟩))
 replace HT:=eH (HT.out.ext hx2);refine zD HT.out.q.rd ?_;obtain⟨⟨z0,z0'⟩,⟨z1,z1'⟩,⟨z2,z2'⟩⟩:=HT.out.r;refine zC ?_
 go_wp2_with fail
 refine zD (HT.out.q.far (by omega)) ?_;refine zC ?_
 go_wp2_with fail
 refine zS ?_
 go_wp2_with fail
 refine bodyPost_ret (kI rfl _ _ (w.heap.size+1) 0 _ _ rfl (box3 ⟨z0,z0'⟩ ⟨z1,z1'⟩ ⟨z2,z2'⟩ _ _ _) rfl rfl (by kernel_rfl)) rfl ?_;exact HT.out.ret (by rw [HL.out];rfl) HS.out
theorem played_kinds (h:Pl w p v vs S T s l x X) (h1:x≠outT) (h2:x≠zGm) (h3:x=zDu):PlC w v vs X T (s,jT (qF p s)):=by
 obtain⟨hX,hp,hs,hok⟩:=h;have HP:=eH hp;have HS:=eH hs;have HOK:=eH hok;have HRR:=eH hok.right;have hout:=hok.out;have hfew:=hok.few;obtain⟨a,c,b,d,rfl,HOUT⟩:=few2 hs;obtain⟨ap,cp,rfl,_,_,_⟩:=hp;have RA:=zF;obtain⟨W1,HW1,HT,HS1⟩:=preU w (.slice a s.fibers.length c) (.int .i64 s.now) (.slice b s.out.length d);clear hs hok;unfold PlC;have t1:(X.toList == ([111,117,116]:List UInt8))=false:=qA hX h1;have t2:(X.toList == ([108,105,110,101]:List UInt8))=false:=qA hX h2;have t3:(X.toList == ([107,105,110,100,115]:List UInt8))=true:=vS hX h3;obtain⟨i0,hi0,hz0,hz1,hz2⟩:=info_parts vM;clear h1 h2 h3 hX;go_enter Tryz.func34,Tryz.ntmps34
 go_wp2_with fail
 rw [HW1.out]
 go_loopw [9,10] (fun q9 q10 wr=>∃k:Nat,k≤s.fibers.length∧q10=.int .i64 k∧Ext W1 wr∧RowAt wr W1.heap.size 1 q9 k (ints ((qF p s).take k))) (fun _ q _=>s.fibers.length - (intOf q).toNat)
 case atStart=>exact⟨0,Nat.zero_le _,rfl,eR _,RowAt.nil _ _ _ _⟩
 case round =>
  obtain⟨k,hk,rfl,hb,hrow⟩:=hrel;have HB:=eH hb;have HROW:=eH hrow;obtain⟨ar,capr,rfl,_,_⟩:=hrow.shape;replace HT:=eH (HT.out.ext hb);by_cases hlt:k<s.fibers.length
  ·obtain⟨q0,q1,q2⟩:=HT.out.q.rd;have HKS:=eH (kindsG_step (p:=p) hlt);have hkl:((qF p s).take k).length=k:=by rw [List.length_take,zBr];omega
   have HCH:=eH (fun W (h:Ext w W)=>kindOf_any p _ _ _ s _ k l W (zM.stays (Ext.stays h) HP.out) (zW.stays (Ext.stays h) HS.out) HRR.out hlt);generalize uN p s k=q at *;obtain⟨L,hL⟩:∃L,(qF p s).take k=L:=⟨_,rfl⟩
   have HL:=eH hL;rw [hL] at hkl;have HROW2:Hid (RowAt wr W1.heap.size 1 (.slice ar k capr) L.length (ints L)):=by rw [hkl,←hL];exact HROW.out
   clear hb hrow hL HROW
   go_wp2_with (first
    | (go_at_call 83;(with_reducible refine(HCH.out _ HT.out.e).mono ?_);rintro e w4 ⟨rfl,hb4⟩;have HE5:=eH (((eR wr).trans hb4).alloc (.cells #[.int .i64 q] 3));have HS5:=eH (Nat.le_trans HB.out.size HE5.out.size))
    | (at_builtin;refine zE rfl _ _ 30 rfl W1.heap.size 3 i0 (.int .i64 0) 1 8 Tryz.underlying30 hi0 hz0 hz1 hz2 rfl (by decide) _ _ _ rfl (by exact HROW2.out.ext HE5.out (by decide)) 1 (ints [q]) (uK _ _ _) (by unfold maxLen;omega) (by omega) (by exact HS5.out) ?_;intro v1 Wv1 rv1;have RV:=eH rv1;obtain⟨a9,cap9,rfl,_,_⟩:=rv1.1.shape;have HX9:=eH (Chg.ext_from (HB.out.trans HE5.out) RV.out.2.1 (fun b e=>HROW2.out.le b e));clear rv1))
   go_roundw
   case rel=>exact⟨k+1,by omega,by go_num,HX9.out,by rw [HKS.out,HL.out,show ints (L++[q])=ints L++ints [q] by simp [ints]];have h:=RV.out.1;rw [hkl] at h;exact h⟩
   case measure=>simp [intOf];omega
  ·obtain rfl:k=s.fibers.length:=by omega
   have hkI:∀n∈qF p s,I64 n:=by
    intro n hn;unfold qF at hn;obtain⟨j,hj,rfl⟩:=List.mem_map.1 hn;have:=(HRR.out.kind (List.mem_range.1 hj)).1;exact I64.small (by omega) (by omega)
   have hlen:=zBr p s;have hints:Ints wr (fun _=>True) (.slice ar s.fibers.length capr) (qF p s):=by
    have h:=HROW.out;rw [←hlen,List.take_length] at h;rw [←hlen];exact Ints.of_row (by rw [kU];exact h) (by omega) hkI _ (fun _ _ _=>trivial)
   have HIN:=eH hints;have hkl:(qF p s).length≤1000:=by omega
   clear hb hrow hints hlen hlt;obtain⟨q0,q1,q2⟩:=HT.out.q.rd
   go_upto_region 13 with fail
   clear q0 q1 q2;refine zX (rd3 w.heap.size _ _ _) 4 [0,1] [2,3,4] (by kernel_rfl) (by kernel_rfl) (fun _ _ _ _ _ h=>h) (by exact HT.out.drew.q.rd) ?_
   (try simp only [zH,List.filterMap_cons,List.filterMap_nil,xO,xP])
   repeat (
    refine zN (by rfl) ?_;apply Exists.intro;refine⟨fun w' hw'=>?_,?_⟩
    focus
     (try dsimp only [rd3] at hw')
     go_split_ands;go_simp
     (try with_reducible rfl)
    (try dsimp only [Act.put])
    (try simp only [xL,xM,xN]))
   refine zL ?_;replace HT:=eH HT.out.drew;refine zC ?_
   go_wp2_with (first
    | (go_at_call 81;(with_reducible refine(zCd (qF p s) _ _ _ (Ints.stays (Ext.stays (eR _).drew) HIN.out) hkl).mono ?_);rintro e w1 ⟨rfl,hx1⟩))
   replace HT:=eH (HT.out.ext hx1);refine zD HT.out.q.rd ?_;obtain⟨⟨z0,z0'⟩,⟨z1,z1'⟩,⟨z2,z2'⟩⟩:=HT.out.r;refine zC ?_
   go_wp2_with fail
   refine zD (HT.out.q.far (by omega)) ?_;refine zC ?_
   go_wp2_with fail
   refine zS ?_
   go_wp2_with fail
   refine bodyPost_ret (kI rfl _ _ (w.heap.size+1) 0 _ _ rfl (box3 ⟨z0,z0'⟩ ⟨z1,z1'⟩ ⟨z2,z2'⟩ _ _ _) rfl rfl (by kernel_rfl)) rfl ?_;exact HT.out.ret rfl HS.out
theorem played_trim (h:Pl w p v vs S T s l x X) (h1:x≠outT) (h2:x≠zGm) (h3:x≠zDu) (h4:x=trimT):PlC w v vs X T (s,Lib.itoa (zBb p p.length)):=by
 obtain⟨hX,hp,hs,hok⟩:=h;have HP:=eH hp;have HS:=eH hs;have HOK:=eH hok;have HRR:=eH hok.right;have hout:=hok.out;have hfew:=hok.few;obtain⟨a,c,b,d,rfl,HOUT⟩:=few2 hs;obtain⟨ap,cp,rfl,_,_,_⟩:=hp;have RA:=zF;obtain⟨W1,HW1,HT,HS1⟩:=preU w (.slice a s.fibers.length c) (.int .i64 s.now) (.slice b s.out.length d);clear hs hok;unfold PlC;have t1:(X.toList == ([111,117,116]:List UInt8))=false:=qA hX h1;have t2:(X.toList == ([108,105,110,101]:List UInt8))=false:=qA hX h2;have t3:(X.toList == ([107,105,110,100,115]:List UInt8))=false:=qA hX h3;have t4:(X.toList == ([116,114,105,109]:List UInt8))=true:=vS hX h4;clear h1 h2 h3 h4 hX;go_enter Tryz.func34,Tryz.ntmps34
 go_wp2_with fail
 rw [HW1.out]
 go_loopw [11,12] (fun q10 q67 wr=>∃k:Nat,k≤p.length∧q67=.int .i64 k∧q10=.int .i64 (zBb p k)∧Ext W1 wr) (fun _ q _=>p.length - (intOf q).toNat)
 case atStart=>exact⟨0,Nat.zero_le _,rfl,rfl,eR _⟩
 case round =>
  obtain⟨k,hk,rfl,rfl,hb⟩:=hrel;have HB:=eH hb;replace HT:=eH (HT.out.ext hb);have hRP:=kH HOK.out.prog;have hp5:=hRP.most;have htk:zBb p k≤k * 24:=zHk HOK.out.prog k hk;by_cases hlt:k<p.length
  ·obtain⟨hgd,hRF⟩:=hts_at (hRP.func k hlt) hlt;have hE:=hRP.hts k hlt;rw [hgd] at hE;obtain⟨lh,hlh⟩:=Option.isSome_iff_exists.1 hE;have HH:=eH hlh;have HRF:=eH hRF;have HSC:=eH (zGu hlt);have hle:(zAq p p[k]).code.length≤24:=trimG_le (jX HOK.out.prog _ (List.getElem_mem hlt)).2.1;generalize hge:zAq p p[k]=F at *;have HGE:=eH hge;clear hb hge hE hRP hlh hRF hgd
   go_wp2_with (first
    | (go_at_call 84;(with_reducible refine(trimmed_any p _ _ k _ (zM.stays (Ext.stays HT.out.e) HP.out) hlt HRF.out lh HH.out).mono ?_);rintro e w3 ⟨⟨y,rfl,hy⟩,hb3⟩;rw [HGE.out] at hy;obtain⟨vs,rfl,_,_,hops⟩:=hy;obtain⟨sa,cs,rfl,_,_,_⟩:=hops;have hfd:=fun w=>field_code F.args F.locals (.slice sa F.code.length cs) w))
   go_roundw
   case rel=>exact⟨k+1,by omega,by go_num,by rw [HSC.out];go_num,HB.out.trans hb3⟩
   case measure=>simp [intOf];omega
  ·obtain rfl:k=p.length:=by omega
   obtain⟨n,hn⟩:∃n,zBb p p.length=n:=⟨_,rfl⟩
   have HN:=eH hn;rw [hn] at htk ⊢;have hIn:I64 (n:Int):=I64.small (by omega) (by omega);clear hb hlt hn
   go_upto_region 20 with fail
   refine zX (rd3 w.heap.size _ _ _) 4 [0,1] [2,3,4] (by kernel_rfl) (by kernel_rfl) (fun _ _ _ _ _ h=>h) (by exact HT.out.drew.q.rd) ?_
   (try simp only [zH,List.filterMap_cons,List.filterMap_nil,xO,xP])
   repeat (
    refine zN (by rfl) ?_;apply Exists.intro;refine⟨fun w' hw'=>?_,?_⟩
    focus
     (try dsimp only [rd3] at hw')
     go_split_ands;go_simp
     (try with_reducible rfl)
    (try dsimp only [Act.put])
    (try simp only [xL,xM,xN]))
   refine zL ?_;replace HT:=eH HT.out.drew;refine zC ?_
   go_wp2_with (first
    | (go_at_call 13;(with_reducible refine(jF (n:Int) _ hIn).mono ?_);rintro e w1 ⟨rfl,hx1⟩))
   replace HT:=eH (HT.out.ext hx1);refine zD HT.out.q.rd ?_;obtain⟨⟨z0,z0'⟩,⟨z1,z1'⟩,⟨z2,z2'⟩⟩:=HT.out.r;refine zC ?_
   go_wp2_with fail
   refine zD (HT.out.q.far (by omega)) ?_;refine zC ?_
   go_wp2_with fail
   refine zS ?_
   go_wp2_with fail
   refine bodyPost_ret (kI rfl _ _ (w.heap.size+1) 0 _ _ rfl (box3 ⟨z0,z0'⟩ ⟨z1,z1'⟩ ⟨z2,z2'⟩ _ _ _) rfl rfl (by kernel_rfl)) rfl ?_;exact HT.out.ret (by rw [HN.out];rfl) HS.out
theorem played_again (h:Pl w p v vs S T s l x X) (h1:x≠outT) (h2:x≠zGm) (h3:x≠zDu) (h4:x≠trimT) (h5:x=zHe):PlC w v vs X T (kG p,okT):=by
 obtain⟨hX,hp,hs,hok⟩:=h;have HP:=eH hp;have HS:=eH hs;have HOK:=eH hok;have HRR:=eH hok.right;have hout:=hok.out;have hfew:=hok.few;obtain⟨a,c,b,d,rfl,HOUT⟩:=few2 hs;obtain⟨ap,cp,rfl,_,_,_⟩:=hp;have RA:=zF;obtain⟨W1,HW1,HT,HS1⟩:=preU w (.slice a s.fibers.length c) (.int .i64 s.now) (.slice b s.out.length d);clear hs hok;unfold PlC;have t1:(X.toList == ([111,117,116]:List UInt8))=false:=qA hX h1;have t2:(X.toList == ([108,105,110,101]:List UInt8))=false:=qA hX h2;have t3:(X.toList == ([107,105,110,100,115]:List UInt8))=false:=qA hX h3;have t4:(X.toList == ([116,114,105,109]:List UInt8))=false:=qA hX h4;have t5:(X.toList == ([97,103,97,105,110]:List UInt8))=true:=vS hX h5;clear h1 h2 h3 h4 h5 hX;go_enter Tryz.func34,Tryz.ntmps34
 go_upto_region 22 with fail
 rw [HW1.out]
 go_wp2_with (first
  | (go_at_call 33;(with_reducible refine(zFq p _ _ _ (zM.stays (Ext.stays HT.out.e) HP.out) HOK.out.prog).mono ?_);rintro e w2 ⟨⟨y,rfl,hy⟩,hx1⟩;obtain⟨ya,yc,yb,yd,rfl⟩:=hy.few;replace HT:=eH (HT.out.ext hx1);obtain⟨⟨z0,z0'⟩,⟨z1,z1'⟩,⟨z2,z2'⟩⟩:=HT.out.r;have HY:=eH hy))
 refine bodyPost_ret (kI rfl _ _ (w.heap.size+1) 0 _ _ rfl (box3 ⟨z0,z0'⟩ ⟨z1,z1'⟩ ⟨z2,z2'⟩ _ _ _) rfl rfl (by kernel_rfl)) rfl ?_;exact HT.out.ret2 (Nat.le_of_eq HS1.out.symm) rfl HY.out
theorem played_many (h:Pl w p v vs S T s l x X) (hwd:jN p s x=none) (hlx:x.length≤9000) (hl2:(zT 32 x).length≠2):PlC w v vs X T (s,errT 1):=by
 obtain⟨hX,hp,hs,hok⟩:=h;have HP:=eH hp;have HS:=eH hs;have HOK:=eH hok;have HRR:=eH hok.right;have hout:=hok.out;have hfew:=hok.few;obtain⟨a,c,b,d,rfl,HOUT⟩:=few2 hs;obtain⟨ap,cp,rfl,_,_,_⟩:=hp;have RA:=zF;obtain⟨W1,HW1,HT,HS1⟩:=preU w (.slice a s.fibers.length c) (.int .i64 s.now) (.slice b s.out.length d);clear hs hok;unfold PlC;obtain⟨t1,t2,t3,t4,t5⟩:=nots hX hwd;have HSL:=hsl hX hlx;obtain⟨sp,hsp⟩:∃sp,zT 32 x=sp:=⟨_,rfl⟩
 rw [hsp] at hl2 HSL;have TL:((sp.length:Int) != 2)=true:=bne_iff_ne.2 (by omega);clear hX hwd hl2 hsp;go_enter Tryz.func34,Tryz.ntmps34
 go_upto_region 23 with fail
 rw [HW1.out]
 go_upto_region 24 with (first
  | (go_at_call 51;(with_reducible refine(HSL _).out.mono ?_);rintro e w2 ⟨v2,rfl,hrw,hx2⟩;have HRW:=eH hrw;have HT:=eH (HT.out.ext hx2);obtain⟨aw,capw,rfl,_,_⟩:=hrw.shape;clear hrw))
 go_upto_region 25 with fail
 refine zX (rd3 w.heap.size _ _ _) 4 [0,1] [2,3,4] (by kernel_rfl) (by kernel_rfl) (fun _ _ _ _ _ h=>h) (by exact HT.out.drew.q.rd) ?_
 (try simp only [zH,List.filterMap_cons,List.filterMap_nil,xO,xP])
 repeat (
  refine zN (by rfl) ?_;apply Exists.intro;refine⟨fun w' hw'=>?_,?_⟩
  focus
   (try dsimp only [rd3] at hw')
   go_split_ands;go_simp
   (try with_reducible rfl)
  (try dsimp only [Act.put])
  (try simp only [xL,xM,xN]))
 refine zL ?_;replace HT:=eH HT.out.drew;refine zC ?_
 go_wp2_with (first
  | (go_at_call 80;(with_reducible refine(yY 1 _ (I64.small (by decide) (by decide))).mono ?_);rintro e w1 ⟨rfl,hx1⟩))
 replace HT:=eH (HT.out.ext hx1);refine zD HT.out.q.rd ?_;obtain⟨⟨z0,z0'⟩,⟨z1,z1'⟩,⟨z2,z2'⟩⟩:=HT.out.r;refine zC ?_
 go_wp2_with fail
 refine zD (HT.out.q.far (by omega)) ?_;refine zC ?_
 go_wp2_with fail
 refine zS ?_
 go_wp2_with fail
 refine bodyPost_ret (kI rfl _ _ (w.heap.size+1) 0 _ _ rfl (box3 ⟨z0,z0'⟩ ⟨z1,z1'⟩ ⟨z2,z2'⟩ _ _ _) rfl rfl (by kernel_rfl)) rfl ?_;exact HT.out.ret rfl HS.out
theorem played_less (h:Pl w p v vs S T s l x X) (hwd:jN p s x=none) (hlx:x.length≤9000) (o r:By) (hsp:zT 32 x=[o,r]) (h0:numG r<0):PlC w v vs X T (s,errT 1):=by
 obtain⟨hX,hp,hs,hok⟩:=h;have HP:=eH hp;have HS:=eH hs;have HOK:=eH hok;have HRR:=eH hok.right;have hout:=hok.out;have hfew:=hok.few;obtain⟨a,c,b,d,rfl,HOUT⟩:=few2 hs;obtain⟨ap,cp,rfl,_,_,_⟩:=hp;have RA:=zF;obtain⟨W1,HW1,HT,HS1⟩:=preU w (.slice a s.fibers.length c) (.int .i64 s.now) (.slice b s.out.length d);clear hs hok;unfold PlC;obtain⟨t1,t2,t3,t4,t5⟩:=nots hX hwd;obtain⟨O,hO⟩:∃O:ByteArray,(⟨o.toArray⟩:ByteArray)=O:=⟨_,rfl⟩
 obtain⟨RE,hRE⟩:∃RE:ByteArray,(⟨r.toArray⟩:ByteArray)=RE:=⟨_,rfl⟩
 have HO:=eH hO;have HRE:=eH hRE;have hrl:r.length≤x.length:=yD (c:=32) (by rw [hsp];simp);obtain⟨m,hm⟩:∃m,numG r=m:=⟨_,rfl⟩
 have hmb:=zAl r;rw [hm] at hmb;have HM:=eH hm;have hN:=hnum hRE (Nat.le_trans hrl hlx);have HSL:=hsl hX hlx;rw [hsp] at HSL;rw [hm] at hN;rw [hm] at h0;have T0:decide (m<0)=true:=decide_eq_true (by omega);clear hX hwd hsp hO hRE hm h0;go_enter Tryz.func34,Tryz.ntmps34
 go_upto_region 23 with fail
 rw [HW1.out]
 go_upto_region 24 with (first
  | (go_at_call 51;(with_reducible refine(HSL _).out.mono ?_);rintro e w2 ⟨v2,rfl,hrw,hx2⟩;have HRW:=eH hrw;have HT:=eH (HT.out.ext hx2);obtain⟨aw,capw,rfl,_,_⟩:=hrw.shape;clear hrw))
 obtain⟨gw,ow,rfl,c0,c1⟩:=zBg HO HRE HRW;clear HRW
 go_upto_region 25 with (first
  | (go_at_call 52;(with_reducible refine(hN _).out.mono ?_);rintro e w3 ⟨rfl,hx3⟩))
 replace HT:=eH (HT.out.ext hx3);replace c0:=eC hx3 c0;replace c1:=eC hx3 c1;refine zX (rd3 w.heap.size _ _ _) 4 [0,1] [2,3,4] (by kernel_rfl) (by kernel_rfl) (fun _ _ _ _ _ h=>h) (by exact HT.out.drew.q.rd) ?_
 (try simp only [zH,List.filterMap_cons,List.filterMap_nil,xO,xP])
 repeat (
  refine zN (by rfl) ?_;apply Exists.intro;refine⟨fun w' hw'=>?_,?_⟩
  focus
   (try dsimp only [rd3] at hw')
   go_split_ands;go_simp
   (try with_reducible rfl)
  (try dsimp only [Act.put])
  (try simp only [xL,xM,xN]))
 refine zL ?_;replace HT:=eH HT.out.drew;refine zC ?_
 go_wp2_with (first
  | (go_at_call 80;(with_reducible refine(yY 1 _ (I64.small (by decide) (by decide))).mono ?_);rintro e w1 ⟨rfl,hx1⟩))
 replace HT:=eH (HT.out.ext hx1);refine zD HT.out.q.rd ?_;obtain⟨⟨z0,z0'⟩,⟨z1,z1'⟩,⟨z2,z2'⟩⟩:=HT.out.r;refine zC ?_
 go_wp2_with fail
 refine zD (HT.out.q.far (by omega)) ?_;refine zC ?_
 go_wp2_with fail
 refine zS ?_
 go_wp2_with fail
 refine bodyPost_ret (kI rfl _ _ (w.heap.size+1) 0 _ _ rfl (box3 ⟨z0,z0'⟩ ⟨z1,z1'⟩ ⟨z2,z2'⟩ _ _ _) rfl rfl (by kernel_rfl)) rfl ?_;exact HT.out.ret rfl HS.out
theorem played_other (h:Pl w p v vs S T s l x X) (hwd:jN p s x=none) (hlx:x.length≤9000) (o r:By) (hsp:zT 32 x=[o,r]) (h0:0≤numG r) (ho1:o≠zHo) (ho2:o≠uO):PlC w v vs X T (s,errT 1):=by
 obtain⟨hX,hp,hs,hok⟩:=h;have HP:=eH hp;have HS:=eH hs;have HOK:=eH hok;have HRR:=eH hok.right;have hout:=hok.out;have hfew:=hok.few;obtain⟨a,c,b,d,rfl,HOUT⟩:=few2 hs;obtain⟨ap,cp,rfl,_,_,_⟩:=hp;have RA:=zF;obtain⟨W1,HW1,HT,HS1⟩:=preU w (.slice a s.fibers.length c) (.int .i64 s.now) (.slice b s.out.length d);clear hs hok;unfold PlC;obtain⟨t1,t2,t3,t4,t5⟩:=nots hX hwd;obtain⟨O,hO⟩:∃O:ByteArray,(⟨o.toArray⟩:ByteArray)=O:=⟨_,rfl⟩
 obtain⟨RE,hRE⟩:∃RE:ByteArray,(⟨r.toArray⟩:ByteArray)=RE:=⟨_,rfl⟩
 have HO:=eH hO;have HRE:=eH hRE;have hrl:r.length≤x.length:=yD (c:=32) (by rw [hsp];simp);obtain⟨m,hm⟩:∃m,numG r=m:=⟨_,rfl⟩
 have hmb:=zAl r;rw [hm] at hmb;have HM:=eH hm;have hN:=hnum hRE (Nat.le_trans hrl hlx);have HSL:=hsl hX hlx;rw [hsp] at HSL;rw [hm] at hN;rw [hm] at h0;have T0:decide (m<0)=false:=decide_eq_false (by omega);have q1:(O.toList == ([115,116,101,112]:List UInt8))=false:=qA hO ho1;have q2:(O.toList == ([104,101,105,103,104,116,115]:List UInt8))=false:=qA hO ho2;clear hX hwd hsp hO hRE hm h0 ho1 ho2;go_enter Tryz.func34,Tryz.ntmps34
 go_upto_region 23 with fail
 rw [HW1.out]
 go_upto_region 24 with (first
  | (go_at_call 51;(with_reducible refine(HSL _).out.mono ?_);rintro e w2 ⟨v2,rfl,hrw,hx2⟩;have HRW:=eH hrw;have HT:=eH (HT.out.ext hx2);obtain⟨aw,capw,rfl,_,_⟩:=hrw.shape;clear hrw))
 obtain⟨gw,ow,rfl,c0,c1⟩:=zBg HO HRE HRW;clear HRW
 go_upto_region 26 with (first
  | (go_at_call 52;(with_reducible refine(hN _).out.mono ?_);rintro e w3 ⟨rfl,hx3⟩))
 replace HT:=eH (HT.out.ext hx3);replace c0:=eC hx3 c0;replace c1:=eC hx3 c1
 go_upto_region 39 with fail
 refine zX (rd3 w.heap.size _ _ _) 4 [0,1] [2,3,4] (by kernel_rfl) (by kernel_rfl) (fun _ _ _ _ _ h=>h) (by exact HT.out.drew.q.rd) ?_
 (try simp only [zH,List.filterMap_cons,List.filterMap_nil,xO,xP])
 repeat (
  refine zN (by rfl) ?_;apply Exists.intro;refine⟨fun w' hw'=>?_,?_⟩
  focus
   (try dsimp only [rd3] at hw')
   go_split_ands;go_simp
   (try with_reducible rfl)
  (try dsimp only [Act.put])
  (try simp only [xL,xM,xN]))
 refine zL ?_;replace HT:=eH HT.out.drew;refine zC ?_
 go_wp2_with (first
  | (go_at_call 80;(with_reducible refine(yY 1 _ (I64.small (by decide) (by decide))).mono ?_);rintro e w1 ⟨rfl,hx1⟩))
 replace HT:=eH (HT.out.ext hx1);refine zD HT.out.q.rd ?_;obtain⟨⟨z0,z0'⟩,⟨z1,z1'⟩,⟨z2,z2'⟩⟩:=HT.out.r;refine zC ?_
 go_wp2_with fail
 refine zD (HT.out.q.far (by omega)) ?_;refine zC ?_
 go_wp2_with fail
 refine zS ?_
 go_wp2_with fail
 refine bodyPost_ret (kI rfl _ _ (w.heap.size+1) 0 _ _ rfl (box3 ⟨z0,z0'⟩ ⟨z1,z1'⟩ ⟨z2,z2'⟩ _ _ _) rfl rfl (by kernel_rfl)) rfl ?_;exact HT.out.ret rfl HS.out
theorem played_far (h:Pl w p v vs S T s l x X) (hwd:jN p s x=none) (hlx:x.length≤9000) (o r:By) (hsp:zT 32 x=[o,r]) (ho1:o=zHo) (h500:500<numG r):PlC w v vs X T (s,errT 3):=by
 obtain⟨hX,hp,hs,hok⟩:=h;have HP:=eH hp;have HS:=eH hs;have HOK:=eH hok;have HRR:=eH hok.right;have hout:=hok.out;have hfew:=hok.few;obtain⟨a,c,b,d,rfl,HOUT⟩:=few2 hs;obtain⟨ap,cp,rfl,_,_,_⟩:=hp;have RA:=zF;obtain⟨W1,HW1,HT,HS1⟩:=preU w (.slice a s.fibers.length c) (.int .i64 s.now) (.slice b s.out.length d);clear hs hok;unfold PlC;obtain⟨t1,t2,t3,t4,t5⟩:=nots hX hwd;obtain⟨O,hO⟩:∃O:ByteArray,(⟨o.toArray⟩:ByteArray)=O:=⟨_,rfl⟩
 obtain⟨RE,hRE⟩:∃RE:ByteArray,(⟨r.toArray⟩:ByteArray)=RE:=⟨_,rfl⟩
 have HO:=eH hO;have HRE:=eH hRE;have hrl:r.length≤x.length:=yD (c:=32) (by rw [hsp];simp);obtain⟨m,hm⟩:∃m,numG r=m:=⟨_,rfl⟩
 have hmb:=zAl r;rw [hm] at hmb;have HM:=eH hm;have hN:=hnum hRE (Nat.le_trans hrl hlx);have HSL:=hsl hX hlx;rw [hsp] at HSL;rw [hm] at hN;rw [hm] at h500;have T0:decide (m<0)=false:=decide_eq_false (by omega);have T5:decide (500<m)=true:=decide_eq_true (by omega);have q1:(O.toList == ([115,116,101,112]:List UInt8))=true:=vS hO ho1;clear hX hwd hsp hO hRE hm ho1 h500;go_enter Tryz.func34,Tryz.ntmps34
 go_upto_region 23 with fail
 rw [HW1.out]
 go_upto_region 24 with (first
  | (go_at_call 51;(with_reducible refine(HSL _).out.mono ?_);rintro e w2 ⟨v2,rfl,hrw,hx2⟩;have HRW:=eH hrw;have HT:=eH (HT.out.ext hx2);obtain⟨aw,capw,rfl,_,_⟩:=hrw.shape;clear hrw))
 obtain⟨gw,ow,rfl,c0,c1⟩:=zBg HO HRE HRW;clear HRW
 go_upto_region 26 with (first
  | (go_at_call 52;(with_reducible refine(hN _).out.mono ?_);rintro e w3 ⟨rfl,hx3⟩))
 replace HT:=eH (HT.out.ext hx3);replace c0:=eC hx3 c0;replace c1:=eC hx3 c1
 go_upto_region 29 with (first
  | (go_at_call 52;(with_reducible refine(hN _).out.mono ?_);rintro e w4 ⟨rfl,hx4⟩))
 replace HT:=eH (HT.out.ext hx4);replace c0:=eC hx4 c0;replace c1:=eC hx4 c1;refine zX (rd3 w.heap.size _ _ _) 4 [0,1] [2,3,4] (by kernel_rfl) (by kernel_rfl) (fun _ _ _ _ _ h=>h) (by exact HT.out.drew.q.rd) ?_
 (try simp only [zH,List.filterMap_cons,List.filterMap_nil,xO,xP])
 repeat (
  refine zN (by rfl) ?_;apply Exists.intro;refine⟨fun w' hw'=>?_,?_⟩
  focus
   (try dsimp only [rd3] at hw')
   go_split_ands;go_simp
   (try with_reducible rfl)
  (try dsimp only [Act.put])
  (try simp only [xL,xM,xN]))
 refine zL ?_;replace HT:=eH HT.out.drew;refine zC ?_
 go_wp2_with (first
  | (go_at_call 80;(with_reducible refine(yY 3 _ (I64.small (by decide) (by decide))).mono ?_);rintro e w1 ⟨rfl,hx1⟩))
 replace HT:=eH (HT.out.ext hx1);refine zD HT.out.q.rd ?_;obtain⟨⟨z0,z0'⟩,⟨z1,z1'⟩,⟨z2,z2'⟩⟩:=HT.out.r;refine zC ?_
 go_wp2_with fail
 refine zD (HT.out.q.far (by omega)) ?_;refine zC ?_
 go_wp2_with fail
 refine zS ?_
 go_wp2_with fail
 refine bodyPost_ret (kI rfl _ _ (w.heap.size+1) 0 _ _ rfl (box3 ⟨z0,z0'⟩ ⟨z1,z1'⟩ ⟨z2,z2'⟩ _ _ _) rfl rfl (by kernel_rfl)) rfl ?_;exact HT.out.ret rfl HS.out
theorem played_hbad (h:Pl w p v vs S T s l x X) (hwd:jN p s x=none) (hlx:x.length≤9000) (o r:By) (hsp:zT 32 x=[o,r]) (h0:0≤numG r) (ho2:o=uO) (hh:hErr p (numG r)≠0):PlC w v vs X T (s,errT (hErr p (numG r))):=by
 obtain⟨hX,hp,hs,hok⟩:=h;have HP:=eH hp;have HS:=eH hs;have HOK:=eH hok;have HRR:=eH hok.right;have hout:=hok.out;have hfew:=hok.few;obtain⟨a,c,b,d,rfl,HOUT⟩:=few2 hs;obtain⟨ap,cp,rfl,_,_,_⟩:=hp;have RA:=zF;obtain⟨W1,HW1,HT,HS1⟩:=preU w (.slice a s.fibers.length c) (.int .i64 s.now) (.slice b s.out.length d);clear hs hok;unfold PlC;obtain⟨t1,t2,t3,t4,t5⟩:=nots hX hwd;obtain⟨O,hO⟩:∃O:ByteArray,(⟨o.toArray⟩:ByteArray)=O:=⟨_,rfl⟩
 obtain⟨RE,hRE⟩:∃RE:ByteArray,(⟨r.toArray⟩:ByteArray)=RE:=⟨_,rfl⟩
 have HO:=eH hO;have HRE:=eH hRE;have hrl:r.length≤x.length:=yD (c:=32) (by rw [hsp];simp);obtain⟨m,hm⟩:∃m,numG r=m:=⟨_,rfl⟩
 have hmb:=zAl r;rw [hm] at hmb;have HM:=eH hm;have hN:=hnum hRE (Nat.le_trans hrl hlx);have HSL:=hsl hX hlx;rw [hsp] at HSL;rw [hm] at hN;rw [hm] at h0;have T0:decide (m<0)=false:=decide_eq_false (by omega);have q1:(O.toList == ([115,116,101,112]:List UInt8))=false:=qA hO (by rw [ho2];decide);have q2:(O.toList == ([104,101,105,103,104,116,115]:List UInt8))=true:=vS hO ho2;have hbd:=hErr_bd p m;have hll:(yL p m).length≤1000:=hList_le HOK.out.prog m;rw [hm] at hh;obtain⟨q,hq⟩:∃q,hErr p m=q:=⟨_,rfl⟩
 rw [hq] at hbd hh;have HQE:=eH hq;have hIq:I64 q:=I64.small (by omega) (by omega);have TE:(q != 0)=true:=bne_iff_ne.2 hh;clear hX hwd hsp hO hRE hm h0 ho2 hh hq;go_enter Tryz.func34,Tryz.ntmps34
 go_upto_region 23 with fail
 rw [HW1.out]
 go_upto_region 24 with (first
  | (go_at_call 51;(with_reducible refine(HSL _).out.mono ?_);rintro e w2 ⟨v2,rfl,hrw,hx2⟩;have HRW:=eH hrw;have HT:=eH (HT.out.ext hx2);obtain⟨aw,capw,rfl,_,_⟩:=hrw.shape;clear hrw))
 obtain⟨gw,ow,rfl,c0,c1⟩:=zBg HO HRE HRW;clear HRW
 go_upto_region 26 with (first
  | (go_at_call 52;(with_reducible refine(hN _).out.mono ?_);rintro e w3 ⟨rfl,hx3⟩))
 replace HT:=eH (HT.out.ext hx3);replace c0:=eC hx3 c0;replace c1:=eC hx3 c1
 go_upto_region 37 with (first
  | (go_at_call 52;(with_reducible refine(hN _).out.mono ?_);rintro e w4 ⟨rfl,hx4⟩;replace HT:=eH (HT.out.ext hx4))
  | (go_at_call 86;(with_reducible refine(zGn p _ _ m _ (zM.stays (Ext.stays HT.out.e) HP.out)).mono ?_);rintro e w5 ⟨⟨v5,rfl,hy5⟩,hx5⟩;have HY5:=eH hy5;clear hy5;replace HT:=eH (HT.out.ext hx5);rw [HQE.out]))
 refine zX (rd3 w.heap.size _ _ _) 5 [0,1,2] [3,4,5] (by kernel_rfl) (by kernel_rfl) (fun _ _ _ _ _ h=>h) (by exact HT.out.drew.q.rd) ?_
 (try simp only [zH,List.filterMap_cons,List.filterMap_nil,xO,xP])
 repeat (
  refine zN (by rfl) ?_;apply Exists.intro;refine⟨fun w' hw'=>?_,?_⟩
  focus
   (try dsimp only [rd3] at hw')
   go_split_ands;go_simp
   (try with_reducible rfl)
  (try dsimp only [Act.put])
  (try simp only [xL,xM,xN]))
 refine zL ?_;replace HT:=eH HT.out.drew;refine zC ?_
 go_wp2_with (first
  | (go_at_call 80;(with_reducible refine(yY q _ hIq).mono ?_);rintro e w1 ⟨rfl,hx1⟩))
 replace HT:=eH (HT.out.ext hx1);refine zD HT.out.q.rd ?_;obtain⟨⟨z0,z0'⟩,⟨z1,z1'⟩,⟨z2,z2'⟩⟩:=HT.out.r;refine zC ?_
 go_wp2_with fail
 refine zD (HT.out.q.far (by omega)) ?_;refine zC ?_
 go_wp2_with fail
 refine zS ?_
 go_wp2_with fail
 refine bodyPost_ret (kI rfl _ _ (w.heap.size+1) 0 _ _ rfl (box3 ⟨z0,z0'⟩ ⟨z1,z1'⟩ ⟨z2,z2'⟩ _ _ _) rfl rfl (by kernel_rfl)) rfl ?_;exact HT.out.ret (by rw [HM.out,HQE.out];rfl) HS.out
theorem played_high (h:Pl w p v vs S T s l x X) (hwd:jN p s x=none) (hlx:x.length≤9000) (o r:By) (hsp:zT 32 x=[o,r]) (h0:0≤numG r) (ho2:o=uO) (hh:hErr p (numG r)=0):PlC w v vs X T (s,jT (yL p (numG r))):=by
 obtain⟨hX,hp,hs,hok⟩:=h;have HP:=eH hp;have HS:=eH hs;have HOK:=eH hok;have HRR:=eH hok.right;have hout:=hok.out;have hfew:=hok.few;obtain⟨a,c,b,d,rfl,HOUT⟩:=few2 hs;obtain⟨ap,cp,rfl,_,_,_⟩:=hp;have RA:=zF;obtain⟨W1,HW1,HT,HS1⟩:=preU w (.slice a s.fibers.length c) (.int .i64 s.now) (.slice b s.out.length d);clear hs hok;unfold PlC;obtain⟨t1,t2,t3,t4,t5⟩:=nots hX hwd;obtain⟨O,hO⟩:∃O:ByteArray,(⟨o.toArray⟩:ByteArray)=O:=⟨_,rfl⟩
 obtain⟨RE,hRE⟩:∃RE:ByteArray,(⟨r.toArray⟩:ByteArray)=RE:=⟨_,rfl⟩
 have HO:=eH hO;have HRE:=eH hRE;have hrl:r.length≤x.length:=yD (c:=32) (by rw [hsp];simp);obtain⟨m,hm⟩:∃m,numG r=m:=⟨_,rfl⟩
 have hmb:=zAl r;rw [hm] at hmb;have HM:=eH hm;have hN:=hnum hRE (Nat.le_trans hrl hlx);have HSL:=hsl hX hlx;rw [hsp] at HSL;rw [hm] at hN;rw [hm] at h0;have T0:decide (m<0)=false:=decide_eq_false (by omega);have q1:(O.toList == ([115,116,101,112]:List UInt8))=false:=qA hO (by rw [ho2];decide);have q2:(O.toList == ([104,101,105,103,104,116,115]:List UInt8))=true:=vS hO ho2;have hbd:=hErr_bd p m;have hll:(yL p m).length≤1000:=hList_le HOK.out.prog m;rw [hm] at hh;have HQE:=eH hh;clear hX hwd hsp hO hRE hm h0 ho2 hh;go_enter Tryz.func34,Tryz.ntmps34
 go_upto_region 23 with fail
 rw [HW1.out]
 go_upto_region 24 with (first
  | (go_at_call 51;(with_reducible refine(HSL _).out.mono ?_);rintro e w2 ⟨v2,rfl,hrw,hx2⟩;have HRW:=eH hrw;have HT:=eH (HT.out.ext hx2);obtain⟨aw,capw,rfl,_,_⟩:=hrw.shape;clear hrw))
 obtain⟨gw,ow,rfl,c0,c1⟩:=zBg HO HRE HRW;clear HRW
 go_upto_region 26 with (first
  | (go_at_call 52;(with_reducible refine(hN _).out.mono ?_);rintro e w3 ⟨rfl,hx3⟩))
 replace HT:=eH (HT.out.ext hx3);replace c0:=eC hx3 c0;replace c1:=eC hx3 c1
 go_upto_region 38 with (first
  | (go_at_call 52;(with_reducible refine(hN _).out.mono ?_);rintro e w4 ⟨rfl,hx4⟩;replace HT:=eH (HT.out.ext hx4))
  | (go_at_call 86;(with_reducible refine(zGn p _ _ m _ (zM.stays (Ext.stays HT.out.e) HP.out)).mono ?_);rintro e w5 ⟨⟨v5,rfl,hy5⟩,hx5⟩;have HY5:=eH hy5;clear hy5;replace HT:=eH (HT.out.ext hx5);rw [HQE.out]))
 refine zX (rd3 w.heap.size _ _ _) 4 [0,1] [2,3,4] (by kernel_rfl) (by kernel_rfl) (fun _ _ _ _ _ h=>h) (by exact HT.out.drew.q.rd) ?_
 (try simp only [zH,List.filterMap_cons,List.filterMap_nil,xO,xP])
 repeat (
  refine zN (by rfl) ?_;apply Exists.intro;refine⟨fun w' hw'=>?_,?_⟩
  focus
   (try dsimp only [rd3] at hw')
   go_split_ands;go_simp
   (try with_reducible rfl)
  (try dsimp only [Act.put])
  (try simp only [xL,xM,xN]))
 refine zL ?_;replace HT:=eH HT.out.drew;refine zC ?_
 go_wp2_with (first
  | (go_at_call 81;(with_reducible refine(zCd (yL p m) _ _ _ (Ints.stays (Ext.stays (eR _).drew) HY5.out) hll).mono ?_);rintro e w1 ⟨rfl,hx1⟩))
 replace HT:=eH (HT.out.ext hx1);refine zD HT.out.q.rd ?_;obtain⟨⟨z0,z0'⟩,⟨z1,z1'⟩,⟨z2,z2'⟩⟩:=HT.out.r;refine zC ?_
 go_wp2_with fail
 refine zD (HT.out.q.far (by omega)) ?_;refine zC ?_
 go_wp2_with fail
 refine zS ?_
 go_wp2_with fail
 refine bodyPost_ret (kI rfl _ _ (w.heap.size+1) 0 _ _ rfl (box3 ⟨z0,z0'⟩ ⟨z1,z1'⟩ ⟨z2,z2'⟩ _ _ _) rfl rfl (by kernel_rfl)) rfl ?_;exact HT.out.ret (by rw [HM.out];rfl) HS.out
theorem played_ran (h:Pl w p v vs S T s l x X) (hwd:jN p s x=none) (hlx:x.length≤9000) (o r:By) (hsp:zT 32 x=[o,r]) (h0:0≤numG r) (ho1:o=zHo) (h500:numG r≤500):PlC w v vs X T ((runG p (numG r).toNat s).1,ranT (runG p (numG r).toNat s)):=by
 obtain⟨hX,hp,hs,hok⟩:=h;have HP:=eH hp;have HS:=eH hs;have HOK:=eH hok;have HRR:=eH hok.right;have hout:=hok.out;have hfew:=hok.few;obtain⟨a,c,b,d,rfl,HOUT⟩:=few2 hs;obtain⟨ap,cp,rfl,_,_,_⟩:=hp;have RA:=zF;obtain⟨W1,HW1,HT,HS1⟩:=preU w (.slice a s.fibers.length c) (.int .i64 s.now) (.slice b s.out.length d);clear hs hok;unfold PlC;obtain⟨t1,t2,t3,t4,t5⟩:=nots hX hwd;obtain⟨O,hO⟩:∃O:ByteArray,(⟨o.toArray⟩:ByteArray)=O:=⟨_,rfl⟩
 obtain⟨RE,hRE⟩:∃RE:ByteArray,(⟨r.toArray⟩:ByteArray)=RE:=⟨_,rfl⟩
 have HO:=eH hO;have HRE:=eH hRE;have hrl:r.length≤x.length:=yD (c:=32) (by rw [hsp];simp);obtain⟨m,hm⟩:∃m,numG r=m:=⟨_,rfl⟩
 have hmb:=zAl r;rw [hm] at hmb;have HM:=eH hm;have hN:=hnum hRE (Nat.le_trans hrl hlx);have HSL:=hsl hX hlx;rw [hsp] at HSL;rw [hm] at hN;rw [hm] at h0;rw [hm] at h500;obtain⟨k,rfl⟩:∃k:Nat,m=k:=⟨m.toNat,by omega⟩
 have T0:decide ((k:Int)<0)=false:=decide_eq_false (by omega);have T5:decide ((500:Int)<(k:Int))=false:=decide_eq_false (by omega);have q1:(O.toList == ([115,116,101,112]:List UInt8))=true:=vS hO ho1;have hbd:=ran_bd HOK.out k;have HON:=eH (fun W (h:Ext w W)=>run_any p _ S T s _ k W (zM.stays (Ext.stays h) HP.out) (zW.stays (Ext.stays h) HS.out) (run_fit k HOK.out) (by omega));obtain⟨⟨R,rn,rg⟩,hrr⟩:∃z,runG p k s=z:=⟨_,rfl⟩
 rw [hrr] at hbd;replace hbd:(0≤rn∧rn≤k)∧0≤rg∧rg≤7:=hbd;have hrn:I64 rn:=I64.small (by omega) (by omega);have hrg:I64 rg:=I64.small (by omega) (by omega);have HRUN:Hid (∀W,Ext w W→Calls Tryz.prog 85 #[.slice ap p.length cp,.agg #[.slice a s.fibers.length c,.int .i64 s.now,.slice b s.out.length d],.int .i64 k] W fun e w'=>(∃x,e=.returned (.tuple #[x,.int .i64 rn,.int .i64 rg])∧kZ w' W.heap.size x R)∧Ext W w'):=by
  intro W h;have:=HON.out W h;rw [hrr] at this;exact this
 have HRES:Hid (((runG p (numG r).toNat s).1,ranT (runG p (numG r).toNat s))=(R,ranT (R,rn,rg))):=by
  unfold Hid;rw [HM.out,Int.toNat_natCast,hrr]
 rw [HRES.out];clear hX hwd hsp hO hRE hm h0 ho1 h500 hrr HON;go_enter Tryz.func34,Tryz.ntmps34
 go_upto_region 23 with fail
 rw [HW1.out]
 go_upto_region 24 with (first
  | (go_at_call 51;(with_reducible refine(HSL _).out.mono ?_);rintro e w2 ⟨v2,rfl,hrw,hx2⟩;have HRW:=eH hrw;have HT:=eH (HT.out.ext hx2);obtain⟨aw,capw,rfl,_,_⟩:=hrw.shape;clear hrw))
 obtain⟨gw,ow,rfl,c0,c1⟩:=zBg HO HRE HRW;clear HRW
 go_upto_region 26 with (first
  | (go_at_call 52;(with_reducible refine(hN _).out.mono ?_);rintro e w3 ⟨rfl,hx3⟩))
 replace HT:=eH (HT.out.ext hx3);replace c0:=eC hx3 c0;replace c1:=eC hx3 c1
 go_upto_region 30 with (first
  | (go_at_call 52;(with_reducible refine(hN _).out.mono ?_);rintro e w4 ⟨rfl,hx4⟩))
 replace HT:=eH (HT.out.ext hx4);replace c0:=eC hx4 c0;replace c1:=eC hx4 c1;clear HW1;rename World=>wc
 have HXC:=eH HT.out.e;have HSC:Hid (w.heap.size+2≤wc.heap.size):=HT.out.r.1.lt;have hcat:=jS;have hlen:=zAo
 go_cut [14,15,16] (fun q14 q15 q16 wr=>∃i a c d e,q14=.pointer (some ⟨i,0,none⟩)∧q15=.int .i64 rn∧q16=.int .i64 rg∧Ext wc wr∧wc.heap.size≤i∧BoxG wr i wc.heap.size R.fibers.length R.out.length R.now a c d e R)
 case first =>
  have hxc:=HXC.out;have S2:∀W,Ext wc W→((fun W'=>rd3 w.heap.size (.slice a s.fibers.length c) (.int .i64 s.now) (.slice b s.out.length d) W'∧W'.cell? ⟨gw,ow+1,none⟩=some (.string RE)) W):=fun W h=>⟨(HT.out.q.ext h).rd,eC h c1⟩
  refine yW (fun W'=>rd3 w.heap.size (.slice a s.fibers.length c) (.int .i64 s.now) (.slice b s.out.length d) W'∧W'.cell? ⟨gw,ow+1,none⟩=some (.string RE)) 14 [0,1,2,3,4] 10 (by kernel_rfl) (by kernel_rfl) (fun _ _ _ _ _ h=>h) (S2 _ (by ((repeat first|assumption|exact eR _|exact And.left (by assumption)|apply eA|apply eD|apply eN|refine eS ?_ (by simp<;>omega) _|refine eT ?_ (by assumption));done))) ?_
  (try simp only [zH,List.filterMap_cons,List.filterMap_nil,xO,xP])
  repeat (
   refine zN (by rfl) ?_;apply Exists.intro;refine⟨fun w' hw'=>?_,?_⟩
   focus
    (try dsimp only [rd3] at hw')
    go_split_ands;go_simp
    (try with_reducible rfl)
   (try dsimp only [Act.put])
   (try simp only [xL,xM,xN]))
  refine zL ?_;clear c0 c1;refine yB 5 11 (by kernel_rfl) rfl rfl ?_ ?_
  ·go_wp2_with (first
     | (go_at_call 52;(with_reducible refine(hN _).out.mono ?_);rintro e w5 ⟨rfl,hx5⟩))
   refine zJ (S2 _ (by ((repeat first|assumption|exact eR _|exact And.left (by assumption)|apply eA|apply eD|apply eN|refine eS ?_ (by simp<;>omega) _|refine eT ?_ (by assumption));done))) ?_;refine yB 6 11 (by kernel_rfl) rfl rfl ?_ ?_
   ·go_wp2_with (first
     | (go_at_call 85;(with_reducible refine(HRUN.out _ (by ((repeat first|assumption|exact eR _|exact And.left (by assumption)|apply eA|apply eD|apply eN|refine eS ?_ (by simp<;>omega) _|refine eT ?_ (by assumption));done))).mono ?_);rintro e w6 ⟨⟨x6,rfl,hy6⟩,hx6⟩;obtain⟨ra,rc,rb,rd,rfl⟩:=hy6.few;have HY6:=eH hy6;clear hy6))
    refine zJ (S2 _ (by ((repeat first|assumption|exact eR _|exact And.left (by assumption)|apply eA|apply eD|apply eN|refine eS ?_ (by simp<;>omega) _|refine eT ?_ (by assumption));done))) ?_;refine kE 7 (by kernel_rfl) (by kernel_rfl) (by kernel_rfl) (by kernel_rfl) (by kernel_rfl) (fun _ _ _ _ _ h=>h) rfl (by rfl) (S2 _ (by ((repeat first|assumption|exact eR _|exact And.left (by assumption)|apply eA|apply eD|apply eN|refine eS ?_ (by simp<;>omega) _|refine eT ?_ (by assumption));done))) ?_;apply Exists.intro;refine⟨fun w' hw'=>?_,?_⟩
    focus
     go_simp
     (try with_reducible rfl)
    (try dsimp only [Act.put])
    (try simp only [xL])
    refine kE 8 (by kernel_rfl) (by kernel_rfl) (by kernel_rfl) (by kernel_rfl) (by kernel_rfl) (fun _ _ _ _ _ h=>h) rfl (by rfl) (S2 _ (by ((repeat first|assumption|exact eR _|exact And.left (by assumption)|apply eA|apply eD|apply eN|refine eS ?_ (by simp<;>omega) _|refine eT ?_ (by assumption));done))) ?_;apply Exists.intro;refine⟨fun w' hw'=>?_,?_⟩
    focus
     go_simp
     (try with_reducible rfl)
    (try dsimp only [Act.put])
    (try simp only [xL])
    refine kE 9 (by kernel_rfl) (by kernel_rfl) (by kernel_rfl) (by kernel_rfl) (by kernel_rfl) (fun _ _ _ _ _ h=>h) rfl (by rfl) (S2 _ (by ((repeat first|assumption|exact eR _|exact And.left (by assumption)|apply eA|apply eD|apply eN|refine eS ?_ (by simp<;>omega) _|refine eT ?_ (by assumption));done))) ?_;apply Exists.intro;refine⟨fun w' hw'=>?_,?_⟩
    focus
     go_simp
     (try with_reducible rfl)
    (try dsimp only [Act.put])
    (try simp only [xL])
    refine kE 10 (by kernel_rfl) (by kernel_rfl) (by kernel_rfl) (by kernel_rfl) (by kernel_rfl) (fun _ _ _ _ _ h=>h) rfl (by rfl) (S2 _ (by ((repeat first|assumption|exact eR _|exact And.left (by assumption)|apply eA|apply eD|apply eN|refine eS ?_ (by simp<;>omega) _|refine eT ?_ (by assumption));done))) ?_;apply Exists.intro;refine⟨fun w' hw'=>?_,?_⟩
    focus
     go_simp
     (try with_reducible rfl)
    (try dsimp only [Act.put])
    (try simp only [xL])
    refine zG 11 (by kernel_rfl) rfl ?_
    go_wp2_with fail
    refine zJ (S2 _ (by ((repeat first|assumption|exact eR _|exact And.left (by assumption)|apply eA|apply eD|apply eN|refine eS ?_ (by simp<;>omega) _|refine eT ?_ (by assumption));done))) ?_;refine zG 12 (by kernel_rfl) rfl ?_
    go_wp2_with fail
    refine zJ (S2 _ (by ((repeat first|assumption|exact eR _|exact And.left (by assumption)|apply eA|apply eD|apply eN|refine eS ?_ (by simp<;>omega) _|refine eT ?_ (by assumption));done))) ?_;refine zG 13 (by kernel_rfl) rfl ?_
    go_wp2_with fail
    refine zJ (S2 _ (by ((repeat first|assumption|exact eR _|exact And.left (by assumption)|apply eA|apply eD|apply eN|refine eS ?_ (by simp<;>omega) _|refine eT ?_ (by assumption));done))) ?_;refine zG 14 (by kernel_rfl) rfl ?_
    go_wp2_with fail
    refine qM rfl (by kernel_rfl) ?_
    go_wp2_with fail
    go_meet
    exact⟨_,_,_,_,_,rfl,rfl,rfl,by ((repeat first|assumption|exact eR _|exact And.left (by assumption)|apply eA|apply eD|apply eN|refine eS ?_ (by simp<;>omega) _|refine eT ?_ (by assumption));done),Nat.le_trans hx5.size hx6.size,BoxG.new HY6.out (i:=wc.heap.size) hx5.size _⟩
   ·go_wp2_with fail
    refine zJ (S2 _ (by ((repeat first|assumption|exact eR _|exact And.left (by assumption)|apply eA|apply eD|apply eN|refine eS ?_ (by simp<;>omega) _|refine eT ?_ (by assumption));done))) ?_;have BX:Hid (Box3 (w5.alloc (.cells #[.slice none 0 0,.int .i64 0,.slice none 0 0] 58)) w5.heap.size (.slice none 0 0) (.int .i64 0) (.slice none 0 0)):=Box3.new w5 _ _ _ _;have hszB:w5.heap.size<(w5.alloc (.cells #[.slice none 0 0,.int .i64 0,.slice none 0 0] 58)).heap.size:=by simp
    refine zG 6 (by kernel_rfl) rfl ?_
    go_wp2_with (first
     | (go_at_call 85;(with_reducible refine(HRUN.out _ (by ((repeat first|assumption|exact eR _|exact And.left (by assumption)|apply eA|apply eD|apply eN|refine eS ?_ (by simp<;>omega) _|refine eT ?_ (by assumption));done))).mono ?_);rintro e w6 ⟨⟨x6,rfl,hy6⟩,hx6⟩;obtain⟨ra,rc,rb,rd,rfl⟩:=hy6.few;have HY6:=eH hy6;clear hy6))
    replace BX:=eH (BX.out.ext hx6);refine zJ (S2 _ (by ((repeat first|assumption|exact eR _|exact And.left (by assumption)|apply eA|apply eD|apply eN|refine eS ?_ (by simp<;>omega) _|refine eT ?_ (by assumption));done))) ?_;refine zG 7 (by kernel_rfl) rfl ?_
    go_wp2_with fail
    refine zJ (S2 _ (by ((repeat first|assumption|exact eR _|exact And.left (by assumption)|apply eA|apply eD|apply eN|refine eS ?_ (by simp<;>omega) _|refine eT ?_ (by assumption));done))) ?_;refine kE 8 (by kernel_rfl) (by kernel_rfl) (by kernel_rfl) (by kernel_rfl) (by kernel_rfl) (fun _ _ _ _ _ h=>h) rfl (by rfl) (S2 _ (by ((repeat first|assumption|exact eR _|exact And.left (by assumption)|apply eA|apply eD|apply eN|refine eS ?_ (by simp<;>omega) _|refine eT ?_ (by assumption));done))) ?_;apply Exists.intro;refine⟨fun w' hw'=>?_,?_⟩
    focus
     go_simp
     (try with_reducible rfl)
    (try dsimp only [Act.put])
    (try simp only [xL])
    refine kE 9 (by kernel_rfl) (by kernel_rfl) (by kernel_rfl) (by kernel_rfl) (by kernel_rfl) (fun _ _ _ _ _ h=>h) rfl (by rfl) (S2 _ (by ((repeat first|assumption|exact eR _|exact And.left (by assumption)|apply eA|apply eD|apply eN|refine eS ?_ (by simp<;>omega) _|refine eT ?_ (by assumption));done))) ?_;apply Exists.intro;refine⟨fun w' hw'=>?_,?_⟩
    focus
     go_simp
     (try with_reducible rfl)
    (try dsimp only [Act.put])
    (try simp only [xL])
    refine kE 10 (by kernel_rfl) (by kernel_rfl) (by kernel_rfl) (by kernel_rfl) (by kernel_rfl) (fun _ _ _ _ _ h=>h) rfl (by rfl) (S2 _ (by ((repeat first|assumption|exact eR _|exact And.left (by assumption)|apply eA|apply eD|apply eN|refine eS ?_ (by simp<;>omega) _|refine eT ?_ (by assumption));done))) ?_;apply Exists.intro;refine⟨fun w' hw'=>?_,?_⟩
    focus
     go_simp
     (try with_reducible rfl)
    (try dsimp only [Act.put])
    (try simp only [xL])
    obtain⟨⟨z0,z0'⟩,⟨z1,z1'⟩,⟨z2,z2'⟩⟩:=BX.out;refine zG 12 (by kernel_rfl) rfl ?_
    go_wp2_with fail
    refine zJ (S2 _ ((ExtS (w:=wc) (by exact hx5.size) (by ((repeat first|assumption|exact eR _|exact And.left (by assumption)|apply eA|apply eD|apply eN|refine eS ?_ (by simp<;>omega) _|refine eT ?_ (by assumption));done)) _ _ _))) ?_;refine zG 13 (by kernel_rfl) rfl ?_
    go_wp2_with fail
    refine zJ (S2 _ ((ExtS (w:=wc) (by exact hx5.size) (by ((repeat first|assumption|exact eR _|exact And.left (by assumption)|apply eA|apply eD|apply eN|refine eS ?_ (by simp<;>omega) _|refine eT ?_ (by assumption));done)) _ _ _))) ?_;refine zG 14 (by kernel_rfl) rfl ?_
    go_wp2_with fail
    refine qM rfl (by kernel_rfl) ?_
    go_wp2_with fail
    go_meet
    exact⟨_,_,_,_,_,rfl,rfl,rfl,ExtS (w:=wc) (by exact hx5.size) (by ((repeat first|assumption|exact eR _|exact And.left (by assumption)|apply eA|apply eD|apply eN|refine eS ?_ (by simp<;>omega) _|refine eT ?_ (by assumption));done)) _ _ _,hx5.size,BoxG.late HY6.out BX.out.1 BX.out.2.1 BX.out.2.2 hszB (Nat.le_of_lt (Nat.lt_of_le_of_lt hx5.size hszB))⟩
  ·go_wp2_with fail
   refine zJ (S2 _ (by ((repeat first|assumption|exact eR _|exact And.left (by assumption)|apply eA|apply eD|apply eN|refine eS ?_ (by simp<;>omega) _|refine eT ?_ (by assumption));done))) ?_;have BX:Hid (Box3 (wc.drew.alloc (.cells #[.slice none 0 0,.int .i64 0,.slice none 0 0] 58)) wc.heap.size (.slice none 0 0) (.int .i64 0) (.slice none 0 0)):=Box3.new wc.drew _ _ _ _;have hszB:wc.heap.size<(wc.drew.alloc (.cells #[.slice none 0 0,.int .i64 0,.slice none 0 0] 58)).heap.size:=by show wc.heap.size<(wc.heap.push _).size;simp
   refine zG 5 (by kernel_rfl) rfl ?_
   go_wp2_with (first
     | (go_at_call 52;(with_reducible refine(hN _).out.mono ?_);rintro e w5 ⟨rfl,hx5⟩))
   replace BX:=eH (BX.out.ext hx5);refine zJ (S2 _ (by ((repeat first|assumption|exact eR _|exact And.left (by assumption)|apply eA|apply eD|apply eN|refine eS ?_ (by simp<;>omega) _|refine eT ?_ (by assumption));done))) ?_;refine zG 6 (by kernel_rfl) rfl ?_
   go_wp2_with (first
     | (go_at_call 85;(with_reducible refine(HRUN.out _ (by ((repeat first|assumption|exact eR _|exact And.left (by assumption)|apply eA|apply eD|apply eN|refine eS ?_ (by simp<;>omega) _|refine eT ?_ (by assumption));done))).mono ?_);rintro e w6 ⟨⟨x6,rfl,hy6⟩,hx6⟩;obtain⟨ra,rc,rb,rd,rfl⟩:=hy6.few;have HY6:=eH hy6;clear hy6))
   replace BX:=eH (BX.out.ext hx6);refine zJ (S2 _ (by ((repeat first|assumption|exact eR _|exact And.left (by assumption)|apply eA|apply eD|apply eN|refine eS ?_ (by simp<;>omega) _|refine eT ?_ (by assumption));done))) ?_;refine zG 7 (by kernel_rfl) rfl ?_
   go_wp2_with fail
   refine zJ (S2 _ (by ((repeat first|assumption|exact eR _|exact And.left (by assumption)|apply eA|apply eD|apply eN|refine eS ?_ (by simp<;>omega) _|refine eT ?_ (by assumption));done))) ?_;refine kE 8 (by kernel_rfl) (by kernel_rfl) (by kernel_rfl) (by kernel_rfl) (by kernel_rfl) (fun _ _ _ _ _ h=>h) rfl (by rfl) (S2 _ (by ((repeat first|assumption|exact eR _|exact And.left (by assumption)|apply eA|apply eD|apply eN|refine eS ?_ (by simp<;>omega) _|refine eT ?_ (by assumption));done))) ?_;apply Exists.intro;refine⟨fun w' hw'=>?_,?_⟩
   focus
    go_simp
    (try with_reducible rfl)
   (try dsimp only [Act.put])
   (try simp only [xL])
   refine kE 9 (by kernel_rfl) (by kernel_rfl) (by kernel_rfl) (by kernel_rfl) (by kernel_rfl) (fun _ _ _ _ _ h=>h) rfl (by rfl) (S2 _ (by ((repeat first|assumption|exact eR _|exact And.left (by assumption)|apply eA|apply eD|apply eN|refine eS ?_ (by simp<;>omega) _|refine eT ?_ (by assumption));done))) ?_;apply Exists.intro;refine⟨fun w' hw'=>?_,?_⟩
   focus
    go_simp
    (try with_reducible rfl)
   (try dsimp only [Act.put])
   (try simp only [xL])
   refine kE 10 (by kernel_rfl) (by kernel_rfl) (by kernel_rfl) (by kernel_rfl) (by kernel_rfl) (fun _ _ _ _ _ h=>h) rfl (by rfl) (S2 _ (by ((repeat first|assumption|exact eR _|exact And.left (by assumption)|apply eA|apply eD|apply eN|refine eS ?_ (by simp<;>omega) _|refine eT ?_ (by assumption));done))) ?_;apply Exists.intro;refine⟨fun w' hw'=>?_,?_⟩
   focus
    go_simp
    (try with_reducible rfl)
   (try dsimp only [Act.put])
   (try simp only [xL])
   obtain⟨⟨z0,z0'⟩,⟨z1,z1'⟩,⟨z2,z2'⟩⟩:=BX.out;refine zG 12 (by kernel_rfl) rfl ?_
   go_wp2_with fail
   refine zJ (S2 _ (ExtS (w:=wc) (Nat.le_refl _) (by ((repeat first|assumption|exact eR _|exact And.left (by assumption)|apply eA|apply eD|apply eN|refine eS ?_ (by simp<;>omega) _|refine eT ?_ (by assumption));done)) _ _ _)) ?_;refine zG 13 (by kernel_rfl) rfl ?_
   go_wp2_with fail
   refine zJ (S2 _ (ExtS (w:=wc) (Nat.le_refl _) (by ((repeat first|assumption|exact eR _|exact And.left (by assumption)|apply eA|apply eD|apply eN|refine eS ?_ (by simp<;>omega) _|refine eT ?_ (by assumption));done)) _ _ _)) ?_;refine zG 14 (by kernel_rfl) rfl ?_
   go_wp2_with fail
   refine qM rfl (by kernel_rfl) ?_
   go_wp2_with fail
   go_meet
   exact⟨_,_,_,_,_,rfl,rfl,rfl,ExtS (w:=wc) (Nat.le_refl _) (by ((repeat first|assumption|exact eR _|exact And.left (by assumption)|apply eA|apply eD|apply eN|refine eS ?_ (by simp<;>omega) _|refine eT ?_ (by assumption));done)) _ _ _,Nat.le_refl _,BoxG.late HY6.out BX.out.1 BX.out.2.1 BX.out.2.2 (Nat.lt_of_lt_of_le hszB hx5.size) (Nat.le_trans (Nat.le_of_lt hszB) hx5.size)⟩
 case rest =>
  obtain⟨i,a1,k1,b1,d1,rfl,rfl,rfl,hE,hi,hB⟩:=hcut;rename World=>wr
  have HB:=eH hB;replace HT:Hid (Tri w wr i (.slice a1 R.fibers.length k1) (.int .i64 R.now) (.slice b1 R.out.length d1)):=⟨HXC.out.trans hE,⟨hB.c0,hB.c1,hB.c2⟩,HT.out.r.ext hE⟩
  have hne:i≠w.heap.size+1:=by have h3:=HSC.out;omega
  have hdl:(Lib.itoa rn).length≤21:=Lib.itoa_length_le rn hrn.1 hrn.2;have hdg:(Lib.itoa rg).length≤21:=Lib.itoa_length_le rg hrg.1 hrg.2;clear hE hB c0 c1;by_cases h0:rg=0
  ·subst h0;have HRT:Hid (ranT (R,rn,0)=Lib.itoa rn):=by unfold Hid ranT;rw [if_neg (fun h=>h rfl)]
   go_upto_region 33 with fail
   refine zX (rd3 i _ _ _) 4 [0,1] [2,3,4] (by kernel_rfl) (by kernel_rfl) (fun _ _ _ _ _ h=>h) (by exact HT.out.drew.q.rd) ?_
   (try simp only [zH,List.filterMap_cons,List.filterMap_nil,xO,xP])
   repeat (
    refine zN (by rfl) ?_;apply Exists.intro;refine⟨fun w' hw'=>?_,?_⟩
    focus
     (try dsimp only [rd3] at hw')
     go_split_ands;go_simp
     (try with_reducible rfl)
    (try dsimp only [Act.put])
    (try simp only [xL,xM,xN]))
   refine zL ?_;replace HT:=eH HT.out.drew;refine zC ?_
   go_wp2_with (first
    | (go_at_call 13;(with_reducible refine(jF rn _ hrn).mono ?_);rintro e w1 ⟨rfl,hx1⟩))
   replace HT:=eH (HT.out.ext hx1);refine zD HT.out.q.rd ?_;obtain⟨⟨z0,z0'⟩,⟨z1,z1'⟩,⟨z2,z2'⟩⟩:=HT.out.r;refine zC ?_
   go_wp2_with fail
   refine zD (HT.out.q.far hne) ?_;refine zC ?_
   go_wp2_with fail
   refine zS ?_
   go_wp2_with fail
   refine bodyPost_ret (kI rfl _ _ (w.heap.size+1) 0 _ _ rfl (box3 ⟨z0,z0'⟩ ⟨z1,z1'⟩ ⟨z2,z2'⟩ _ _ _) rfl rfl (by kernel_rfl)) rfl ?_;exact HT.out.ret2 HSC.out (by rw [HRT.out];rfl) (zW.stays (Ext.stays ((eR wr).drew.trans hx1)) HB.out.st)
  ·have TG:(rg != 0)=true:=bne_iff_ne.2 h0;have HRT0:Hid (ranT (R,rn,rg)=Lib.itoa rn++32::errT rg):=by unfold Hid ranT;rw [if_pos h0]
   obtain⟨d1',hd1⟩:∃d1',Lib.itoa rn=d1':=⟨_,rfl⟩
   obtain⟨d2',hd2⟩:∃d2',errT rg=d2':=⟨_,rfl⟩
   have hdl2:d2'.length≤27:=by rw [←hd2];unfold errT;simp only [List.length_append,List.length_cons,List.length_nil];omega
   rw [hd1] at hdl;have HD1:=eH hd1;have HD2:=eH hd2;have n1:¬9223372036854775807<d1'.length+1:=by omega
   have n2:¬9223372036854775807<d1'.length+1+d2'.length:=by omega
   have HRT:Hid (ranT (R,rn,rg)=d1'++32::d2'):=by rw [←hd1,←hd2];exact HRT0.out
   clear hd1 hd2 h0 HRT0
   go_upto_region 32 with fail
   refine yW (rd3 i _ _ _) 9 [0,1,4,5] 6 (by kernel_rfl) (by kernel_rfl) (fun _ _ _ _ _ h=>h) (by exact HT.out.drew.q.rd) ?_
   (try simp only [zH,List.filterMap_cons,List.filterMap_nil,xO,xP])
   repeat (
    refine zN (by rfl) ?_;apply Exists.intro;refine⟨fun w' hw'=>?_,?_⟩
    focus
     (try dsimp only [rd3] at hw')
     go_split_ands;go_simp
     (try with_reducible rfl)
    (try dsimp only [Act.put])
    (try simp only [xL,xM,xN]))
   refine zL ?_;replace HT:=eH HT.out.drew;refine zG 2 (by kernel_rfl) rfl ?_
   go_wp2_with (first
     | (go_at_call 13;(with_reducible refine(jF rn _ hrn).mono ?_);rintro e w1 ⟨rfl,hx1⟩;rw [HD1.out];replace HT:=eH (HT.out.ext hx1)))
   refine zJ (HT.out.q.rd) ?_;refine kE 3 (by kernel_rfl) (by kernel_rfl) (by kernel_rfl) (by kernel_rfl) (by kernel_rfl) (fun _ _ _ _ _ h=>h) rfl (by rfl) (HT.out.q.rd) ?_;apply Exists.intro;refine⟨fun w' hw'=>?_,?_⟩
   focus
    go_simp
    (try with_reducible rfl)
   (try dsimp only [Act.put])
   (try simp only [xL])
   refine zG 6 (by kernel_rfl) rfl ?_
   go_wp2_with (first
     | (go_at_call 80;(with_reducible refine(yY rg _ hrg).mono ?_);rintro e w2 ⟨rfl,hx2⟩;rw [HD2.out];replace HT:=eH (HT.out.ext hx2)))
   refine zJ (HT.out.q.rd) ?_;refine kE 7 (by kernel_rfl) (by kernel_rfl) (by kernel_rfl) (by kernel_rfl) (by kernel_rfl) (fun _ _ _ _ _ h=>h) rfl (by rfl) (HT.out.q.rd) ?_;apply Exists.intro;refine⟨fun w' hw'=>?_,?_⟩
   focus
    go_simp
    (try with_reducible rfl)
   (try dsimp only [Act.put])
   (try simp only [xL])
   obtain⟨⟨z0,z0'⟩,⟨z1,z1'⟩,⟨z2,z2'⟩⟩:=HT.out.r;refine zG 8 (by kernel_rfl) rfl ?_
   go_wp2_with fail
   refine zJ (HT.out.q.far hne) ?_;refine zG 9 (by kernel_rfl) rfl ?_
   go_wp2_with fail
   refine qM rfl (by kernel_rfl) ?_
   go_wp2_with fail
   refine bodyPost_ret (kI rfl _ _ (w.heap.size+1) 0 _ _ rfl (box3 ⟨z0,z0'⟩ ⟨z1,z1'⟩ ⟨z2,z2'⟩ _ _ _) rfl rfl (by kernel_rfl)) rfl ?_;exact HT.out.ret2 HSC.out (by rw [HRT.out];simp [cat]) (zW.stays (Ext.stays (((eR wr).drew.trans hx1).trans hx2)) HB.out.st)
end
theorem zCx {p:List GFunc} {s:GState} {x:By} {r:GState × By} (h:jN p s x=some r):qQ p s x=r:=by unfold qQ;rw [h]
theorem played_any (p:List GFunc) (v vs:Value) (S T:Nat→Prop) (s:GState) (l:List Int) (x:By) (X:ByteArray) (w:World) (hX:(⟨x.toArray⟩:ByteArray)=X) (hp:zM w S v p) (hs:zW w T vs s) (hok:Ok p s l) (hlx:x.length≤9000) :
  PlC w v vs X T (qQ p s x):=by
 have hpl:Pl w p v vs S T s l x X:=⟨hX,hp,hs,hok⟩
 by_cases h1:x=outT
 ·rw [zCx (r:=(s,jT s.out)) (by unfold jN;rw [if_pos h1])];exact played_out hpl h1
 by_cases h2:x=zGm
 ·rw [zCx (r:=(s,jT ((yA s).getD []))) (by unfold jN;rw [if_neg h1,if_pos h2])];exact played_line hpl h1 h2
 by_cases h3:x=zDu
 ·rw [zCx (r:=(s,jT (qF p s))) (by unfold jN;rw [if_neg h1,if_neg h2,if_pos h3])];exact played_kinds hpl h1 h2 h3
 by_cases h4:x=trimT
 ·rw [zCx (r:=(s,Lib.itoa (zBb p p.length))) (by unfold jN;rw [if_neg h1,if_neg h2,if_neg h3,if_pos h4])];exact played_trim hpl h1 h2 h3 h4
 by_cases h5:x=zHe
 ·rw [zCx (r:=(kG p,okT)) (by unfold jN;rw [if_neg h1,if_neg h2,if_neg h3,if_neg h4,if_pos h5])];exact played_again hpl h1 h2 h3 h4 h5
 have hwd:jN p s x=none:=by unfold jN;rw [if_neg h1,if_neg h2,if_neg h3,if_neg h4,if_neg h5]
 have hpg:qQ p s x=if (zT 32 x).length≠2∨numG ((zT 32 x).getD 1 [])<0 then (s,errT 1)
  else if (zT 32 x).getD 0 []=zHo then zEn p s (numG ((zT 32 x).getD 1 []))
  else if (zT 32 x).getD 0 []=uO then (s,vN p (numG ((zT 32 x).getD 1 [])))
  else (s,errT 1):=by unfold qQ;rw [hwd]
 rw [hpg];by_cases hl2:(zT 32 x).length=2
 ·obtain⟨o,r,hsp⟩:∃o r,zT 32 x=[o,r]:=by
   match h:zT 32 x,hl2 with
   | [o,r],_=>exact⟨o,r,rfl⟩
  rw [hsp];show PlC w v vs X T (if ([o,r]:List By).length≠2∨numG r<0 then (s,errT 1) else if o=zHo then zEn p s (numG r) else if o=uO then (s,vN p (numG r)) else (s,errT 1));by_cases h0:numG r<0
  ·rw [if_pos (.inr h0)];exact played_less hpl hwd hlx o r hsp h0
  rw [if_neg (fun h=>h.elim (fun h=>h rfl) h0)];by_cases ho1:o=zHo
  ·rw [if_pos ho1];unfold zEn;by_cases h500:500<numG r
   ·rw [if_pos h500];exact played_far hpl hwd hlx o r hsp ho1 h500
   ·rw [if_neg h500];exact played_ran hpl hwd hlx o r hsp (by omega) ho1 (by omega)
  rw [if_neg ho1];by_cases ho2:o=uO
  ·rw [if_pos ho2];unfold vN;by_cases hh:hErr p (numG r)=0
   ·rw [if_neg (fun h=>h hh)];exact played_high hpl hwd hlx o r hsp (by omega) ho2 hh
   ·rw [if_pos hh];exact played_hbad hpl hwd hlx o r hsp (by omega) ho2 hh
  rw [if_neg ho2];exact played_other hpl hwd hlx o r hsp (by omega) ho1 ho2
 ·rw [if_pos (.inl hl2)];exact played_many hpl hwd hlx hl2
theorem playS_snoc (p:List GFunc) (x:By):∀(L:List By) (s:GState),playS p s (L++[x])=(qQ p (playS p s L) x).1
 | [],_=>rfl
 | y::L,s=>playS_snoc p x L (qQ p s y).1
theorem playT_snoc (p:List GFunc) (x:By):∀(L:List By) (s:GState),uM p s (L++[x])=uM p s L++(qQ p (playS p s L) x).2++[10]
 | [],s=>by simp [uM,playS]
 | y::L,s=>by
  show (qQ p s y).2++10::uM p (qQ p s y).1 (L++[x])=((qQ p s y).2++10::uM p (qQ p s y).1 L)++_++[10];rw [playT_snoc p x L (qQ p s y).1];simp [playS]
theorem zEh {t:By} {k:Nat} (h:k<t.length):(t.take (k+1)).count 10=(t.take k).count 10+if t[k]=10 then 1 else 0:=by
 rw [List.take_succ_eq_append_getElem h,List.count_append,List.count_singleton];by_cases hb:t[k]=10
 ·rw [if_pos hb,hb];simp
 ·rw [if_neg hb,if_neg (by simpa using hb)]
theorem zHc (t:By) (k:Nat):(t.take k).count 10≤t.count 10:=List.Sublist.count_le _ (List.take_sublist _ _)
def OfI (p:List GFunc) (t:By) (k f:Nat) (L:List By) (s:GState) (o:By):Prop :=
 f≤k∧k≤t.length∧zT 10 t=L++kJ 10 ((t.take k).drop f) (t.drop k)∧L.length=(t.take k).count 10∧o.length≤1001 * L.length∧s=playS p (kG p) L∧o=uM p (kG p) L∧∃l,Ok p s l
theorem OfI.start {p:List GFunc} (t:By) (h:zZ p=0):OfI p t 0 0 [] (kG p) []:=⟨Nat.le_refl _,Nat.zero_le _,by simp [zT],by simp,by simp,rfl,rfl,_,begin_ok h⟩
theorem OfI.next {p:List GFunc} {t:By} {k f:Nat} {L:List By} {s:GState} {o:By} (h:OfI p t k f L s o) (hk:k<t.length) (hc:t[k]≠10):OfI p t (k+1) f L s o:=by
 obtain⟨h1,h2,h3,h4,h5,h6⟩:=h;exact⟨by omega,by omega,by rw [h3,zHp 10 hk h1 hc],by rw [zEh hk,if_neg hc,h4];rfl,h5,h6⟩
theorem OfI.hit {p:List GFunc} {t:By} {k f:Nat} {L:List By} {s:GState} {o:By} (h:OfI p t k f L s o) (hk:k<t.length) (hc:t[k]=10) (hI:∀n∈s.out,I64 n) :
  OfI p t (k+1) (k+1) (L++[(t.take k).drop f]) (qQ p s ((t.take k).drop f)).1 (o++(qQ p s ((t.take k).drop f)).2++[10]):=by
 obtain⟨h1,h2,h3,h4,h5,h6,h7,l,hok⟩:=h;have hl:=play_len ((t.take k).drop f) hok hI;refine⟨Nat.le_refl _,by omega,by rw [h3,splitGo_hit 10 hk hc,List.append_assoc,List.singleton_append],by rw [zEh hk,if_pos hc,List.length_append,h4];rfl,?_,by rw [playS_snoc,←h6],by rw [playT_snoc,←h6,←h7],play_ok _ hok⟩;simp only [List.length_append,List.length_singleton];omega
theorem OfI.end {p:List GFunc} {t:By} {f:Nat} {L:List By} {s:GState} {o:By} (h:OfI p t t.length f L s o):o=uM p (kG p) (vV t):=by
 obtain⟨h1,h2,h3,h4,h5,h6,h7,h8⟩:=h;unfold vV;rw [h3,splitGo_end,List.dropLast_concat,h7]
def OfB (W:World) (g:Nat) (s:GState):Prop:=∃a c b d,Box3 W g (.slice a s.fibers.length c) (.int .i64 s.now) (.slice b s.out.length d)∧zW W (·≠g) (.agg #[.slice a s.fibers.length c,.int .i64 s.now,.slice b s.out.length d]) s
theorem Box3.put {W:World} {i:Nat} {u0 u1 u2:Value} (h:Box3 W i u0 u1 u2) (x y z:Value):Box3 (((W.setCell ⟨i,0,none⟩ x).setCell ⟨i,1,none⟩ y).setCell ⟨i,2,none⟩ z) i x y z :=
 ⟨((h.1.set x).other (.inr (by decide)) y).other (.inr (by decide)) z,((h.2.1.other (.inr (by decide)) x).set y).other (.inr (by decide)) z,((h.2.2.other (.inr (by decide)) x).other (.inr (by decide)) y).set z⟩
theorem OfB.put {W:World} {g:Nat} {s:GState} {u0 u1 u2:Value} {T:Nat→Prop} {a b:Option Addr} {c d:Nat} (h:Box3 W g u0 u1 u2) (hs:zW W T (.agg #[.slice a s.fibers.length c,.int .i64 s.now,.slice b s.out.length d]) s) (hT:∀k,T k→k≠g) :
  OfB (((W.setCell ⟨g,0,none⟩ (.slice a s.fibers.length c)).setCell ⟨g,1,none⟩ (.int .i64 s.now)).setCell ⟨g,2,none⟩ (.slice b s.out.length d)) g s :=
 ⟨a,c,b,d,h.put _ _ _,zW.stays (fun k o v hk hc=>⟨(chg3 _ _ _ _ _).cell (by show ¬k=g;exact hT k hk) hc,hT k hk⟩) hs⟩
theorem OfB.ext {W W':World} {g:Nat} {s:GState} (h:OfB W g s) (he:Ext W W'):OfB W' g s:=by
 obtain⟨a,c,b,d,h1,h2⟩:=h;exact⟨a,c,b,d,h1.ext he,zW.stays (Ext.stays he) h2⟩
theorem OfB.ints {W:World} {g:Nat} {s:GState} (h:OfB W g s):∀n∈s.out,I64 n:=by
 obtain⟨a,c,b,d,_,_,_,e,_,_,hints⟩:=h;intro n hn;obtain⟨i,hi,rfl⟩:=List.getElem_of_mem hn;obtain⟨_,_,_,_,_,_,_,_,h⟩:=Sl.get hints hi;exact h
theorem playOf_any (q t:By) (w:World) (ht:t.length≤maxLen) :
  Calls Tryz.prog 8 #[.string ⟨q.toArray⟩,.string ⟨t.toArray⟩] w fun e w'=>e=.returned (.tuple #[.string ⟨(qB q t).1.toArray⟩,.int .i64 (qB q t).2])∧Ext w w':=by
 obtain⟨Q,hQ⟩:∃Q:ByteArray,(⟨q.toArray⟩:ByteArray)=Q:=⟨_,rfl⟩
 obtain⟨X,hX⟩:∃X:ByteArray,(⟨t.toArray⟩:ByteArray)=X:=⟨_,rfl⟩
 have hM:Q.size=q.length:=by rw [←hQ];exact yN q
 have hN:X.size=t.length:=by rw [←hX];exact yN t
 have HX:=eH hX;by_cases h8:8192<q.length
 ·have HP:Hid (qB q t=([],2)):=by unfold Hid qB;rw [if_pos h8]
  have T8:decide ((8192:Int)<(q.length:Int))=true:=decide_eq_true (by omega);rw [hQ,hX];clear hQ hX h8;go_enter Tryz.func8,Tryz.ntmps8
  go_wp2_with fail
  go_ret2
  exact⟨by rw [HP.out];rfl,eR _⟩
 have T8:decide ((8192:Int)<(q.length:Int))=false:=decide_eq_false (by omega);obtain⟨d,hd⟩:∃d,(docT q).1=d:=⟨_,rfl⟩
 obtain⟨p,hp⟩:∃p,(docT q).2=p:=⟨_,rfl⟩
 have hz:d=true→zZ p=0:=by
  intro h;rw [←hp];rw [←hd] at h;unfold docT at h ⊢;split
  ·rename_i hc;exact hc.1
  ·rename_i hc;rw [if_neg hc] at h;cases h
 have HZ:=eH hz;have hpl:qB q t=if d=false then ([],1) else if 8192<t.length∨40<t.count 10 then ([],2) else if t≠[]∧t.getLast?≠some 10 then ([],1) else (uM p (kG p) (vV t),0):=by
  unfold qB;rw [if_neg h8,hd,hp]
 have HPL:=eH hpl;have HF:∀W,Hid (Calls Tryz.prog 18 #[.string Q] W fun e w'=>(∃a c,e=.returned (.tuple #[.slice a p.length c,.bool d])∧zM w' (W.heap.size≤·) (.slice a p.length c) p)∧Ext W w'):=fun W=>by
  unfold Hid;rw [←hQ];refine(progFrom_any q W (by omega)).mono ?_;rintro e w' ⟨⟨v,rfl,hv⟩,hx⟩;rw [hd];rw [hp] at hv;obtain⟨a,c,rfl,_,_,_⟩:=id hv;exact⟨⟨a,c,rfl,hv⟩,hx⟩
 rw [hQ,hX];have hHG:∀k (hk:k<t.length),X[k]'(by omega)=t[k]:=fun k hk=>by
  have:∀(Y:ByteArray) (hY:(⟨t.toArray⟩:ByteArray)=Y) (h:k<Y.size),Y[k]'h=t[k]:=fun Y hY h=>by subst hY;exact get_by t k h hk
  exact this X HX.out _
 have HHG:=eH hHG;unfold maxLen at ht;clear hQ hX hd hp hpl hz h8 hHG
 cases d with
 | false =>
  have HP:Hid (qB q t=([],1)):=by unfold Hid;rw [HPL.out,if_pos rfl]
  go_enter Tryz.func8,Tryz.ntmps8
  go_wp2_with (first
   | (go_at_call 18;(with_reducible refine(HF _).out.mono ?_);rintro e w3 ⟨⟨a3,c3,rfl,hf3⟩,hx3⟩))
  go_ret2
  exact⟨by rw [HP.out];rfl,hx3⟩
 | true =>
  replace HZ:=eH (HZ.out rfl);by_cases hA:8192<t.length∨40<t.count 10
  ·have HPO:Hid (qB q t=([],2)):=by unfold Hid;rw [HPL.out,if_neg (by decide),if_pos hA]
   go_enter Tryz.func8,Tryz.ntmps8
   go_wp2_with (first
    | (go_at_call 18;(with_reducible refine(HF _).out.mono ?_);rintro e w3 ⟨⟨a3,c3,rfl,hf3⟩,hx3⟩;have HX3:=eH hx3;have HP:=eH hf3))
   have HP1:=HP
   go_loopw [8,9] (fun q8 q9 wr=>∃k:Nat,k≤t.length∧q9=.int .i64 k∧q8=.int .i64 ((t.take k).count 10)∧Ext w3 wr) (fun _ q9 _=>t.length - (intOf q9).toNat)
   case atStart=>exact⟨0,Nat.zero_le _,rfl,by simp,eR _⟩
   case round =>
    obtain⟨k,hk,rfl,rfl,hb⟩:=hrel;have HB:=eH hb;have hct:=zHc t k;by_cases hgo:k<t.length∧(t.take k).count 10≤40
    ·obtain⟨hlt,h40⟩:=hgo;have HST:=eH (zEh hlt);have HGET:=HHG.out k hlt;obtain⟨n,hn⟩:∃n,(t.take k).count 10=n:=⟨_,rfl⟩
     rw [hn] at HST h40 ⊢;have T4:decide ((n:Int)≤40)=true:=decide_eq_true (by omega);by_cases hc:t[k]=10
     ·rw [if_pos hc] at HST;have TC:(((t[k].toNat:Nat):Int) == 10)=true:=by simp [hc]
      generalize t[k]=b at *;clear hc hb hn hct
      go_wp2_with fail
      go_roundw
      case rel=>exact⟨k+1,by omega,by go_num,by rw [HST.out];go_num,HB.out⟩
      case measure=>simp [intOf];omega
     ·rw [if_neg hc] at HST;have TC:(((t[k].toNat:Nat):Int) == 10)=false:=beq_eq_false_iff_ne.2 (fun e=>hc (UInt8.toNat_inj.1 (by simpa using Int.ofNat_inj.1 e)));generalize t[k]=b at *;clear hc hb hn hct
      go_wp2_with fail
      go_roundw
      case rel=>exact⟨k+1,by omega,by go_num,by rw [HST.out];rfl,HB.out⟩
      case measure=>simp [intOf];omega
    ·have hcond:k<t.length→¬(t.take k).count 10≤40:=fun h h'=>hgo ⟨h,h'⟩
     have hfull:k=t.length→(t.take k).count 10=t.count 10:=fun h=>by rw [h,List.take_length]
     obtain⟨n,hn⟩:∃n,(t.take k).count 10=n:=⟨_,rfl⟩
     rw [hn] at hcond hfull hct ⊢;clear hn hgo;by_cases h8:8192<t.length
     ·have T9:decide ((8192:Int)<(t.length:Int))=true:=decide_eq_true (by omega);by_cases hlt:k<t.length
      ·have T4:decide ((n:Int)≤40)=false:=decide_eq_false (by have:=hcond hlt;omega);clear hcond hfull hA h8
       go_wp2_with fail
       go_ret2
       exact⟨by rw [HPO.out];rfl,HX3.out.trans HB.out⟩
      ·clear hcond hfull hA h8
       go_wp2_with fail
       go_ret2
       exact⟨by rw [HPO.out];rfl,HX3.out.trans HB.out⟩
     ·have T9:decide ((8192:Int)<(t.length:Int))=false:=decide_eq_false (by omega);have hn40:40<n:=by
       by_cases hlt:k<t.length
       ·have:=hcond hlt;omega
       ·have:=hfull (by omega);omega
      have T4:decide ((n:Int)≤40)=false:=decide_eq_false (by omega);have T5:decide ((40:Int)<(n:Int))=true:=decide_eq_true (by omega);by_cases hlt:k<t.length
      ·clear hcond hfull hA h8
       go_wp2_with fail
       go_ret2
       exact⟨by rw [HPO.out];rfl,HX3.out.trans HB.out⟩
      ·clear hcond hfull hA h8
       go_wp2_with fail
       go_ret2
       exact⟨by rw [HPO.out];rfl,HX3.out.trans HB.out⟩
  ·have hlen:t.length≤8192:=by omega
   have hcnt:t.count 10≤40:=by omega
   have HCN:=eH hcnt;have T9:decide ((8192:Int)<(t.length:Int))=false:=decide_eq_false (by omega);have HP2:Hid (qB q t=if t≠[]∧t.getLast?≠some 10 then ([],1) else (uM p (kG p) (vV t),0)):=by unfold Hid;rw [HPL.out,if_neg (by decide),if_neg hA]
   clear hA;go_enter Tryz.func8,Tryz.ntmps8
   go_wp2_with (first
    | (go_at_call 18;(with_reducible refine(HF _).out.mono ?_);rintro e w3 ⟨⟨a3,c3,rfl,hf3⟩,hx3⟩;have HX3:=eH hx3;have HP:=eH hf3))
   have HP1:=HP
   go_loopw [8,9] (fun q8 q9 wr=>∃k:Nat,k≤t.length∧q9=.int .i64 k∧q8=.int .i64 ((t.take k).count 10)∧Ext w3 wr) (fun _ q9 _=>t.length - (intOf q9).toNat)
   case atStart=>exact⟨0,Nat.zero_le _,rfl,by simp,eR _⟩
   case round =>
    obtain⟨k,hk,rfl,rfl,hb⟩:=hrel;have HB:=eH hb;have hct:=zHc t k;by_cases hgo:k<t.length∧(t.take k).count 10≤40
    ·obtain⟨hlt,h40⟩:=hgo;have HST:=eH (zEh hlt);have HGET:=HHG.out k hlt;obtain⟨n,hn⟩:∃n,(t.take k).count 10=n:=⟨_,rfl⟩
     rw [hn] at HST h40 ⊢;have T4:decide ((n:Int)≤40)=true:=decide_eq_true (by omega);by_cases hc:t[k]=10
     ·rw [if_pos hc] at HST;have TC:(((t[k].toNat:Nat):Int) == 10)=true:=by simp [hc]
      generalize t[k]=b at *;clear hc hb hn hct
      go_wp2_with fail
      go_roundw
      case rel=>exact⟨k+1,by omega,by go_num,by rw [HST.out];go_num,HB.out⟩
      case measure=>simp [intOf];omega
     ·rw [if_neg hc] at HST;have TC:(((t[k].toNat:Nat):Int) == 10)=false:=beq_eq_false_iff_ne.2 (fun e=>hc (UInt8.toNat_inj.1 (by simpa using Int.ofNat_inj.1 e)));generalize t[k]=b at *;clear hc hb hn hct
      go_wp2_with fail
      go_roundw
      case rel=>exact⟨k+1,by omega,by go_num,by rw [HST.out];rfl,HB.out⟩
      case measure=>simp [intOf];omega
    ·obtain rfl:k=t.length:=by omega
     rw [List.take_length];obtain⟨n,hn⟩:∃n,t.count 10=n:=⟨_,rfl⟩
     rw [hn] at hcnt ⊢;have T5:decide ((40:Int)<(n:Int))=false:=decide_eq_false (by omega);clear hgo hct hb hn;by_cases hnil:t=[]
     ·subst hnil;have HPO:Hid (qB q []=([],0)):=by unfold Hid;rw [HP2.out,if_neg (by simp)];rfl
      have HXB:=eH (HX3.out.trans HB.out);have HPW:=eH (zM.stays (Ext.stays HB.out) HP.out)
      go_wp2_with (first
       | (go_at_call 33;(with_reducible refine(zFq p _ _ _ HPW.out HZ.out).mono ?_);rintro e w4 ⟨⟨y,rfl,hy⟩,hx4⟩;obtain⟨ya,yc,yb,yd,rfl⟩:=hy.few;have HX4:=eH (HXB.out.trans hx4)))
      go_loopw [11,12,13] (fun q11 q12 q13 wr=>q11=.string ⟨#[]⟩∧q13=.int .i64 0∧Ext w wr) (fun _ _ _ _=>0)
      case atStart=>exact⟨rfl,rfl,HX4.out.alloc _⟩
      case round =>
       obtain⟨rfl,rfl,hw⟩:=hrel
       go_wp2_with fail
       go_ret2
       exact⟨by rw [HPO.out];rfl,hw⟩
     ·have hpos:0<t.length:=List.length_pos_iff.2 hnil;obtain⟨m,hm⟩:∃m,t.length=m+1:=⟨t.length - 1,by omega⟩
      have hmlt:m<t.length:=by omega
      have hsub:((t.length:Int) - 1)=(m:Int):=by omega
      have HGL:=HHG.out m hmlt;have hlast:t.getLast?=some t[m]:=by rw [List.getLast?_eq_getElem?,List.getElem?_eq_getElem (by omega)];congr 1;simp [hm]
      have T0:decide ((0:Int)<(t.length:Int))=true:=decide_eq_true (by omega);have HXB:=eH (HX3.out.trans HB.out);have HPW:=eH (zM.stays (Ext.stays HB.out) HP.out);by_cases hc:t[m]=10
      ·have HPO:Hid (qB q t=(uM p (kG p) (vV t),0)):=by unfold Hid;rw [HP2.out,if_neg (by rw [hlast,hc];exact fun h=>h.2 rfl)]
       have TC:(((t[m].toNat:Nat):Int) != 10)=false:=by simp [hc]
       generalize t[m]=b at *;clear hc hm hnil hlast
       go_upto_region 16 with fail
       clear HGL TC hsub hmlt
       go_wp2_with (first
        | (go_at_call 33;(with_reducible refine(zFq p _ _ _ HPW.out HZ.out).mono ?_);rintro e w4 ⟨⟨y,rfl,hy⟩,hx4⟩;obtain⟨ya,yc,yb,yd,rfl⟩:=hy.few;have HX4:=eH (HB.out.trans hx4);have HY:=eH hy))
       have HBX:Hid (OfB (w4.alloc (.cells #[.slice ya (kG p).fibers.length yc,.int .i64 (kG p).now,.slice yb (kG p).out.length yd] 58)) w4.heap.size (kG p)):=⟨ya,yc,yb,yd,Box3.new w4 _ _ _ _,zW.stays (fun k o v hk hc=>⟨eC ((eR w4).alloc _) hc,Nat.ne_of_lt (zY hc)⟩) HY.out⟩
       go_loopw [11,12,13] (fun q11 q12 q13 wv=>∃(k f:Nat) (L:List By) (s:GState) (o:By),q13=.int .i64 k∧q12=.int .i64 f∧q11=.string ⟨o.toArray⟩∧OfI p t k f L s o∧OfB wv w4.heap.size s∧Ext w3 wv) (fun _ _ q13 _=>t.length - (intOf q13).toNat)
       case atStart=>exact⟨0,0,[],_,[],rfl,rfl,rfl,OfI.start t HZ.out,HBX.out,HX4.out.alloc _⟩
       case round =>
        obtain⟨k,f,L,s,o,rfl,rfl,rfl,hI,hbx,hw⟩:=hrel;rename World=>wv
        have HI:=eH hI;have HBV:=eH hbx;have HWV:=eH hw;have hfk:=hI.1;have hkt:=hI.2.1;by_cases hlt:k<t.length
        ·have HGET:=HHG.out k hlt;by_cases hc:t[k]=10
         ·have HNX:=eH (hI.hit hlt hc hbx.ints);obtain⟨l,hok⟩:=hI.2.2.2.2.2.2.2;have HOK:=eH hok;have hol:=hI.2.2.2.2.1;have hLn:L.length≤40:=by rw [hI.2.2.2.1];exact Nat.le_trans (zHc t k) HCN.out
          have hEX:X.extract f k=⟨((t.take k).drop f).toArray⟩:=by rw [←HX.out];exact zEb t f k
          have hxl:((t.take k).drop f).length≤9000:=by simp;omega
          have hal:=play_len ((t.take k).drop f) hok hbx.ints;have TC:(((t[k].toNat:Nat):Int) == 10)=true:=by simp [hc]
          obtain⟨x,hx⟩:∃x,(t.take k).drop f=x:=⟨_,rfl⟩
          rw [hx] at HNX hEX hxl hal;obtain⟨XB,hXB⟩:∃XB:ByteArray,(⟨x.toArray⟩:ByteArray)=XB:=⟨_,rfl⟩
          have HXB2:=eH hXB;rw [hXB] at hEX;obtain⟨⟨s',r⟩,hpl⟩:∃z,qQ p s x=z:=⟨_,rfl⟩
          rw [hpl] at HNX hal;replace hal:r.length≤1000:=hal;have HPLY:Hid (∀vs W,zW W (·≠w4.heap.size) vs s→Ext w3 W→Calls Tryz.prog 34 #[.slice a3 p.length c3,vs,.string XB] W fun e w'=>zGc W (·≠w4.heap.size) (s',r) e w'):=by
           unfold Hid;intro vs W hs hE;rw [←hpl];exact played_any p _ vs _ _ s l x XB W HXB2.out (zM.stays (Ext.stays hE) HP.out) hs HOK.out hxl
          have n1:¬9223372036854775807<o.length+r.length:=by omega
          have n2:¬9223372036854775807<o.length+r.length+1:=by omega
          obtain⟨sa,sc,sb,sd,hb3,hst⟩:=hbx;have HB3:=eH hb3;have HST:=eH hst;have hgl:=hb3.1.lt;have hcat:=jS;have hlen2:=zAo;generalize t[k]=b at *;clear hc hI hw hok hx hXB hpl hb3 hst;obtain⟨⟨q0,q0'⟩,⟨q1,q1'⟩,⟨q2,q2'⟩⟩:=HB3.out
          go_upto_region 24 with fail
          refine yW (fun _=>True) 11 [0,2,3,4,5] 7 (by kernel_rfl) (by kernel_rfl) (fun _ _ _ _ _ h=>h) trivial ?_
          (try simp only [zH,List.filterMap_cons,List.filterMap_nil,xO,xP])
          repeat (
           refine zN (by rfl) ?_;apply Exists.intro;refine⟨fun w' hw'=>?_,?_⟩
           focus
            (try dsimp only at hw')
            go_split_ands;go_simp
            (try with_reducible rfl)
           (try dsimp only [Act.put])
           (try simp only [xL,xM,xN]))
          refine zL ?_;refine zG 1 (by kernel_rfl) rfl ?_
          go_wp2_with fail
          refine zJ trivial ?_;refine zG 6 (by kernel_rfl) rfl ?_
          go_wp2_with (first
           | (go_at_call 34;(with_reducible refine(HPLY.out _ _ (zW.stays (Ext.stays (eR _).drew) HST.out) HWV.out.drew).mono ?_);rintro e w6 ⟨⟨y,rfl,hy⟩,hx6⟩;obtain⟨ra,rc,rb,rd,rfl⟩:=hy.few;have HY6:=eH hy;have HX6:=eH hx6))
          refine zJ trivial ?_;refine zG 7 (by kernel_rfl) rfl ?_
          go_wp2_with fail
          refine zJ trivial ?_;refine kE 8 (by kernel_rfl) (by kernel_rfl) (by kernel_rfl) (by kernel_rfl) (by kernel_rfl) (fun _ _ _ _ _ h=>h) rfl (by rfl) trivial ?_;apply Exists.intro;refine⟨fun w' hw'=>?_,?_⟩
          focus
           go_simp
           (try with_reducible rfl)
          (try dsimp only [Act.put])
          (try simp only [xL])
          refine kE 9 (by kernel_rfl) (by kernel_rfl) (by kernel_rfl) (by kernel_rfl) (by kernel_rfl) (fun _ _ _ _ _ h=>h) rfl (by rfl) trivial ?_;apply Exists.intro;refine⟨fun w' hw'=>?_,?_⟩
          focus
           go_simp
           (try with_reducible rfl)
          (try dsimp only [Act.put])
          (try simp only [xL])
          clear q0 q0' q1 q1' q2 q2';have HB6:=eH (HB3.out.drew.ext HX6.out);obtain⟨⟨q0,q0'⟩,⟨q1,q1'⟩,⟨q2,q2'⟩⟩:=HB6.out;refine zG 10 (by kernel_rfl) rfl ?_
          go_wp2_with fail
          refine zJ trivial ?_;refine zG 11 (by kernel_rfl) rfl ?_
          go_wp2_with fail
          refine qM rfl (by kernel_rfl) ?_;have HOB:Hid (OfB (((w6.setCell ⟨w4.heap.size,0,none⟩ (.slice ra s'.fibers.length rc)).setCell ⟨w4.heap.size,1,none⟩ (.int .i64 s'.now)).setCell ⟨w4.heap.size,2,none⟩ (.slice rb s'.out.length rd)) w4.heap.size s'):=OfB.put HB6.out HY6.out (fun k hk=>hk.elim id (fun h=>Nat.ne_of_gt (Nat.lt_of_lt_of_le hgl h)));have HEX:Hid (Ext w3 (((w6.setCell ⟨w4.heap.size,0,none⟩ (.slice ra s'.fibers.length rc)).setCell ⟨w4.heap.size,1,none⟩ (.int .i64 s'.now)).setCell ⟨w4.heap.size,2,none⟩ (.slice rb s'.out.length rd))):=ExtS HX4.out.size (HWV.out.drew.trans HX6.out) _ _ _;clear q0 q0' q1 q1' q2 q2'
          go_wp2_with fail
          go_roundw
          case rel=>exact⟨k+1,k+1,L++[x],s',o++r++[10],by go_num,by go_num,by simp [cat],HNX.out,HOB.out,HEX.out⟩
          case measure=>simp [intOf];omega
         ·have HNX:=eH (hI.next hlt hc);have TC:(((t[k].toNat:Nat):Int) == 10)=false:=beq_eq_false_iff_ne.2 (fun e=>hc (UInt8.toNat_inj.1 (by simpa using Int.ofNat_inj.1 e)));generalize t[k]=b at *;clear hc hI hbx hw
          go_wp2_with fail
          go_roundw
          case rel=>exact⟨k+1,f,L,s,o,by go_num,rfl,rfl,HNX.out,HBV.out,HWV.out⟩
          case measure=>simp [intOf];omega
        ·obtain rfl:k=t.length:=by omega
         clear hbx hw hI
         go_wp2_with fail
         go_ret2
         exact⟨by rw [HPO.out,←HI.out.end];rfl,HX3.out.trans HWV.out⟩
      ·have HPO:Hid (qB q t=([],1)):=by unfold Hid;rw [HP2.out,if_pos ⟨hnil,by rw [hlast];exact fun h=>hc (Option.some.inj h)⟩]
       have TC:(((t[m].toNat:Nat):Int) != 10)=true:=bne_iff_ne.2 (fun e=>hc (UInt8.toNat_inj.1 (by simpa using Int.ofNat_inj.1 e)));generalize t[m]=b at *;clear hc hm hnil hlast
       go_wp2_with fail
       go_ret2
       exact⟨by rw [HPO.out];rfl,HXB.out⟩
end Go.Proofs.YtpcjkfppacnkgaaGreatDoor
