/- Contracts and plain facts. -/
import Derived.Test.YtpcjkfppacnkgaaGreatDoorGPAP
import Derived.Recover
import Derived.Tactics2
set_option maxHeartbeats 4000000
set_option maxRecDepth 100000
namespace Go.Proofs.YtpcjkfppacnkgaaGreatDoor
open Go Go.RowKit
set_option linter.unusedSimpArgs false
structure RightS (p:List GFunc) (s:GState) (l:List Int):Prop where
 prog:zZ p=0
 few:s.fibers.length≤5
 out:s.out.length≤30
 frames:∀k,k<s.fibers.length→(s.fibers.getD k default).frames.length≤6
 pos:0<s.fibers.length
 callers:Callers s
 line:yA s=some l
 ends:vR l=true
 done:¬(s.now = -1∧0<(s.fibers.getD 0 default).frames.length)
 fib:∀k,k<s.fibers.length→fibK p s l k=true
theorem zFm {p:List GFunc} {s:GState} {l:List Int} {k:Nat} (h:fibK p s l k=true):∀hk:0<(s.fibers.getD k default).frames.length,0≤((s.fibers.getD k default).frames[0]).func∧((s.fibers.getD k default).frames[0]).func<p.length:=by
 intro hk;unfold fibK at h;rw [Bool.and_eq_true] at h;have h1:=h.1;unfold jK at h1;rw [if_neg (by omega),Bool.and_eq_true] at h1;have h2:=allK_of h1.1 0 hk;unfold onB at h2;rw [Bool.and_eq_true] at h2;have h3:=h2.1;unfold qW at h3;simp only [Bool.and_eq_true,decide_eq_true_eq] at h3;have e:∀(L:List GFrame) (h:0<L.length),L.getD 0 default=L[0]:=fun L h=>by simp [List.getD,List.getElem?_eq_getElem h]
 rw [e _ hk] at h3;exact h3.1.1.1
theorem zCi {l m:List Int} {i:Nat} (h:i<l.length):(l++m).getD i 0=l.getD i 0:=by
 simp [List.getD,List.getElem?_append_left h]
theorem zDz {l:List Int} {n:Int}:(l++[n]).getD l.length 0=n:=by simp [List.getD]
theorem zHx {fs:List GFiber} (hc:∀k,k<fs.length → -1≤(fs.getD k default).caller∧(fs.getD k default).caller≤(fs.length:Int) - 1):∀(k:Nat) (n:Int) (out l:List Int),jJ fs k n out=some l→LineOn fs n out →
  (∀i,i+1<out.length→kM fs (out.getD i 0)=out.getD (i+1) 0)→(0<out.length→kM fs (out.getD (out.length - 1) 0)=n) →
  l.Nodup∧(∀x∈l,0≤x∧x<fs.length)∧(∀i,i+1<l.length→kM fs (l.getD i 0)=l.getD (i+1) 0)∧(∀i,i<out.length→l.getD i 0=out.getD i 0)∧(0≤n→out.length<l.length∧l.getD out.length 0=n)∧(n<0→l=out)
 | 0,_,_,_,h,_,_,_=>by cases h
 | k+1,n,out,l,h,hl,h1,h2=>by
  rw [jJ] at h;by_cases hn:n<0
  ·rw [if_pos hn] at h
   cases h
   exact⟨hl.nodup,hl.range,h1,fun _ _=>rfl,fun h=>by omega,fun _=>rfl⟩
  ·rw [if_neg hn] at h;by_cases hm:n∈out
   ·rw [if_pos hm] at h;cases h
   ·rw [if_neg hm] at h;obtain⟨r1,r2,r3,r4,r5,r6⟩:=zHx hc k _ _ l h (hl.next (by omega) hm hc) (fun i hi=>by
     rw [List.length_append,List.length_singleton] at hi;by_cases hi2:i+1<out.length
     ·rw [zCi (by omega),zCi hi2];exact h1 i hi2
     ·obtain rfl:i=out.length - 1:=by omega
      rw [zCi (by omega),h2 (by omega),show out.length - 1+1=out.length by omega,zDz]) (fun _=>by
     rw [List.length_append,List.length_singleton,Nat.add_sub_cancel,zDz])
    have e4:∀i,i<out.length→l.getD i 0=out.getD i 0:=fun i hi=>by rw [r4 i (by simp;omega),zCi hi]
    have e5:l.getD out.length 0=n:=by rw [r4 out.length (by simp),zDz]
    refine⟨r1,r2,r3,e4,fun _=>⟨?_,e5⟩,fun h=>absurd h hn⟩;by_cases hcn:0≤kM fs n
    ·have:=(r5 hcn).1;simp at this;omega
    ·have:=r6 (by omega);rw [this];simp
structure LineF (s:GState) (l:List Int):Prop where
 nodup:l.Nodup
 range:∀x∈l,0≤x∧x<s.fibers.length
 link:∀i,i+1<l.length→(s.fibers.getD (l.getD i 0).toNat default).caller=l.getD (i+1) 0
 head:0≤s.now→0<l.length∧l.getD 0 0=s.now
 none:s.now<0→l=[]
theorem RightS.lineF {p:List GFunc} {s:GState} {l:List Int} (h:RightS p s l):LineF s l:=by
 have hc:=h.callers;obtain⟨r1,r2,r3,_,r5,r6⟩:=zHx hc.all _ _ _ _ h.line ⟨hc.now,by simp,fun x hx=>by cases hx⟩ (fun i hi=>by simp at hi) (fun h=>by simp at h);exact⟨r1,r2,r3,r5,r6⟩
def lineL (s:GState):List Int:=(yA s).getD []
def uN (p:List GFunc) (s:GState) (n:Nat):Int :=
 if (s.fibers.getD n default).frames.length=0 then 0 else if (n:Int)=s.now then 1 else if (n:Int)∈lineL s then 2 else if qV p (s.fibers.getD n default)=true then 3 else 4
theorem zCe (s:GState) (vs:Value) (T:Nat→Prop) (w:World) (hs:zW w T vs s) (hc:Callers s) (l:List Int) (hl:yA s=some l) :
  Calls Tryz.prog 82 #[vs] w fun e w'=>(∃a c,e=.returned (.slice a l.length c)∧Ints w' (w.heap.size≤·) (.slice a l.length c) l)∧Ext w w':=by
 have HS:=eH hs;have HL:=eH hl;obtain⟨x,y,rfl,hfs,_,hout⟩:=hs;obtain⟨af,cf,rfl,_,_,_⟩:=hfs;obtain⟨ao,co,rfl,_,_,_⟩:=hout;have RA:=zF;clear hl;go_enter Tryz.func82,Tryz.ntmps82
 go_wp2_with (first
  | (go_at_call 115;(with_reducible refine(zDs s _ _ _ (zW.stays (Ext.stays ((eR w).alloc _)) HS.out) hc).mono ?_);rintro e w5 ⟨hlr,hx5⟩;unfold zCp at hlr;rw [HL.out] at hlr;obtain⟨al,cl,rfl,hline⟩:=hlr))
 go_ret;exact⟨⟨al,cl,rfl,Ints.stays (uU.widen (fun b hb=>Nat.le_trans ((eR w).alloc _).size hb)) hline⟩,((eR w).alloc _).trans hx5⟩
theorem chainOf_any (p:List GFunc) (v:Value) (S T:Nat→Prop) (s:GState) (vs:Value) (n:Nat) (l:List Int) (w:World) (hp:zM w S v p) (hs:zW w T vs s) (hR:RightS p s l) (hn:n<s.fibers.length) :
  Calls Tryz.prog 110 #[v,vs,.int .i64 n] w fun e w'=>e=.returned (.int .i64 (uN p s n))∧Ext w w':=by
 have HP:=eH hp;have HS:=eH hs;obtain⟨ap,capp,rfl,_,_,_⟩:=hp;obtain⟨x,y,rfl,hfs,_,hout⟩:=hs;have HFS:=eH hfs;obtain⟨af,cf,rfl,_,_,_⟩:=hfs;obtain⟨ao,co,rfl,_,_,_⟩:=hout;have RA:=zF;have HRS:=eH hR;have hE1:=(eR w).alloc (.cells #[.slice af s.fibers.length cf,.int .i64 s.now,.slice ao s.out.length co] 58);have HE1:=eH hE1;have q0:=Cx.new w [.slice af s.fibers.length cf,.int .i64 s.now,.slice ao s.out.length co] 58 (j:=0) rfl;have q1:=Cx.new w [.slice af s.fibers.length cf,.int .i64 s.now,.slice ao s.out.length co] 58 (j:=1) rfl;have Q:=eH (⟨q0,q1⟩:_∧_);obtain⟨r,hr⟩:∃r,uN p s n=r:=⟨_,rfl⟩
 have HK:=eH hr;rw [hr];clear hE1 q0 q1 hr hR;go_enter Tryz.func110,Tryz.ntmps110
 go_upto_region 2 with (first
  | (go_at_call 109;(with_reducible refine(zFg s _ _ _ (zW.stays (Ext.stays HE1.out) HS.out) HRS.out.callers).mono ?_);rintro e w3 ⟨hlr,hx3⟩;unfold zAx at hlr;rw [HRS.out.line] at hlr;obtain⟨al,cl,rfl,hline⟩:=hlr))
 have HE2:=eH (HE1.out.trans hx3);have HLN:=eH hline;obtain⟨⟨b0,-⟩,⟨b1,-⟩⟩:=(⟨Q.out.1.ext hx3,Q.out.2.ext hx3⟩:_∧_)
 clear hx3 hline;rename World=>w3
 obtain⟨bf,of,a1,c1,rfl,x0,x1,hfv⟩:=(zAi.stays (Ext.stays HE2.out) HFS.out).at' hn;have HFV:=eH hfv;have HFR0:=eH (zFm (HRS.out.fib n hn));have HKD:Hid (r=if (s.fibers.getD n default).frames.length=0 then 0 else if (n:Int)=s.now then 1 else if (n:Int)∈l then 2 else if qV p (s.fibers.getD n default)=true then 3 else 4):=by
  unfold Hid;rw [←HK.out];unfold uN lineL;rw [HRS.out.line];rfl
 clear HK hfv;generalize s.fibers.getD n default=F at *;obtain⟨fr,clr⟩:=F;simp only at *
 go_upto_region 3 with fail
 have xb0:=(Cx.new w3 [.slice a1 fr.length c1,.int .i64 clr] 112 (j:=0) rfl).1;have xb1:=(Cx.new w3 [.slice a1 fr.length c1,.int .i64 clr] 112 (j:=1) rfl).1;have hX:=(eR w3).alloc (.cells #[.slice a1 fr.length c1,.int .i64 clr] 112);have c1':=eC hX b1;have HX:=eH hX;have HE3:=eH (HE2.out.trans hX);clear hX b0 b1 x0 x1;generalize w3.alloc (.cells [.slice a1 fr.length c1,.int .i64 clr].toArray 112)=w4 at *;by_cases h1:fr.length=0
 ·have T1:((fr.length:Int) == 0)=true:=by simp [h1]
  have HRR:Hid (r=0):=by unfold Hid;rw [HKD.out,if_pos h1]
  clear h1
  go_wp2_with fail
  go_ret;exact⟨by rw [HRR.out];rfl,HE3.out⟩
 ·have T1:((fr.length:Int) == 0)=false:=beq_eq_false_iff_ne.2 (by omega);by_cases h2:(n:Int)=s.now
  ·have T2:((n:Int) == s.now)=true:=by simp [h2]
   have HRR:Hid (r=1):=by unfold Hid;rw [HKD.out,if_neg h1,if_pos h2]
   clear h1 h2
   go_wp2_with fail
   go_ret;exact⟨by rw [HRR.out];rfl,HE3.out⟩
  ·have T2:((n:Int) == s.now)=false:=beq_eq_false_iff_ne.2 h2;by_cases h3:(n:Int)∈l
   ·have HM:Hid (decide ((n:Int)∈l)=true):=decide_eq_true h3;have HRR:Hid (r=2):=by unfold Hid;rw [HKD.out,if_neg h1,if_neg h2,if_pos h3]
    clear h1 h2 h3
    go_wp2_with (first
     | (go_at_call 90;(with_reducible refine(qI l _ _ _ _ (Ints.stays (Ext.stays HX.out) HLN.out)).mono ?_);rintro e w5 ⟨rfl,hx5⟩;rw [HM.out]))
    go_ret;exact⟨by rw [HRR.out];rfl,HE3.out.trans hx5⟩
   ·have HM:Hid (decide ((n:Int)∈l)=false):=decide_eq_false h3;have HR4:Hid (r=if qV p ⟨fr,clr⟩=true then 3 else 4):=by unfold Hid;rw [HKD.out,if_neg h1,if_neg h2,if_neg h3]
    clear h1 h2 h3
    cases hf:qV p ⟨fr,clr⟩ with
    | true =>
     have HF:=eH hf;have HRR:Hid (r=3):=by unfold Hid;rw [HR4.out,hf,if_pos rfl]
     clear hf
     go_wp2_with (first
      | (go_at_call 90;(with_reducible refine(qI l _ _ _ _ (Ints.stays (Ext.stays HX.out) HLN.out)).mono ?_);rintro e w5 ⟨rfl,hx5⟩;rw [HM.out];have s0:=eC hx5 xb0;have s1:=eC hx5 xb1)
      | (go_at_call 142;(with_reducible refine(zBm p _ _ _ ⟨fr,clr⟩ _ _ (zM.stays (Ext.stays (HE3.out.trans hx5)) HP.out) (uW.stays (Ext.stays (HX.out.trans hx5)) HFV.out) HFR0.out).mono ?_);rintro e w6 ⟨rfl,hx6⟩;rw [HF.out]))
     go_ret;exact⟨by rw [HRR.out];rfl,(HE3.out.trans hx5).trans hx6⟩
    | false =>
     have HF:=eH hf;have HRR:Hid (r=4):=by unfold Hid;rw [HR4.out,hf,if_neg (by decide)]
     clear hf
     go_wp2_with (first
      | (go_at_call 90;(with_reducible refine(qI l _ _ _ _ (Ints.stays (Ext.stays HX.out) HLN.out)).mono ?_);rintro e w5 ⟨rfl,hx5⟩;rw [HM.out];have s0:=eC hx5 xb0;have s1:=eC hx5 xb1)
      | (go_at_call 142;(with_reducible refine(zBm p _ _ _ ⟨fr,clr⟩ _ _ (zM.stays (Ext.stays (HE3.out.trans hx5)) HP.out) (uW.stays (Ext.stays (HX.out.trans hx5)) HFV.out) HFR0.out).mono ?_);rintro e w6 ⟨rfl,hx6⟩;rw [HF.out]))
     go_ret;exact⟨by rw [HRR.out];rfl,(HE3.out.trans hx5).trans hx6⟩
theorem kindOf_any (p:List GFunc) (v:Value) (S T:Nat→Prop) (s:GState) (vs:Value) (n:Nat) (l:List Int) (w:World) (hp:zM w S v p) (hs:zW w T vs s) (hR:RightS p s l) (hn:n<s.fibers.length) :
  Calls Tryz.prog 83 #[v,vs,.int .i64 n] w fun e w'=>e=.returned (.int .i64 (uN p s n))∧Ext w w':=by
 have HP:=eH hp;have HS:=eH hs;obtain⟨ap,capp,rfl,_,_,_⟩:=hp;obtain⟨x,y,rfl,hfs,_,hout⟩:=hs;have HFS:=eH hfs;obtain⟨af,cf,rfl,_,_,_⟩:=hfs;obtain⟨ao,co,rfl,_,_,_⟩:=hout;have RA:=zF;have HRS:=eH hR;have hE1:=(eR w).alloc (.cells #[.slice af s.fibers.length cf,.int .i64 s.now,.slice ao s.out.length co] 58);have HE1:=eH hE1;have q0:=Cx.new w [.slice af s.fibers.length cf,.int .i64 s.now,.slice ao s.out.length co] 58 (j:=0) rfl;have q1:=Cx.new w [.slice af s.fibers.length cf,.int .i64 s.now,.slice ao s.out.length co] 58 (j:=1) rfl;have q2:=Cx.new w [.slice af s.fibers.length cf,.int .i64 s.now,.slice ao s.out.length co] 58 (j:=2) rfl;have Q:=eH (⟨q0,q1,q2⟩:_∧_∧_);obtain⟨r,hr⟩:∃r,uN p s n=r:=⟨_,rfl⟩
 have HK:=eH hr;rw [hr];clear hE1 q0 q1 q2 hr hR;go_enter Tryz.func83,Tryz.ntmps83
 go_upto_region 1 with fail
 have HE2:=HE1;obtain⟨⟨b0,-⟩,⟨b1,-⟩,⟨b2,-⟩⟩:=(⟨Q.out.1,Q.out.2.1,Q.out.2.2⟩:_∧_∧_)
 generalize w.alloc (.cells #[.slice af s.fibers.length cf,.int .i64 s.now,.slice ao s.out.length co] 58)=w3 at *;obtain⟨bf,of,a1,c1,rfl,x0,x1,hfv⟩:=(zAi.stays (Ext.stays HE2.out) HFS.out).at' hn;have HFV:=eH hfv;have HFR0:=eH (zFm (HRS.out.fib n hn));have HKD:Hid (r=if (s.fibers.getD n default).frames.length=0 then 0 else if (n:Int)=s.now then 1 else if (n:Int)∈l then 2 else if qV p (s.fibers.getD n default)=true then 3 else 4):=by
  unfold Hid;rw [←HK.out];unfold uN lineL;rw [HRS.out.line];rfl
 clear HK hfv;generalize s.fibers.getD n default=F at *;obtain⟨fr,clr⟩:=F;simp only at *;have HE3:=HE2;by_cases h1:fr.length=0
 ·have T1:((fr.length:Int) == 0)=true:=by simp [h1]
  have HRR:Hid (r=0):=by unfold Hid;rw [HKD.out,if_pos h1]
  clear h1
  go_wp2_with fail
  go_ret;exact⟨by rw [HRR.out];rfl,HE3.out⟩
 ·have T1:((fr.length:Int) == 0)=false:=beq_eq_false_iff_ne.2 (by omega);by_cases h2:(n:Int)=s.now
  ·have T2:((n:Int) == s.now)=true:=by simp [h2]
   have HRR:Hid (r=1):=by unfold Hid;rw [HKD.out,if_neg h1,if_pos h2]
   clear h1 h2
   go_wp2_with fail
   go_ret;exact⟨by rw [HRR.out];rfl,HE3.out⟩
  ·have T2:((n:Int) == s.now)=false:=beq_eq_false_iff_ne.2 h2;by_cases h3:(n:Int)∈l
   ·have HM:Hid (decide ((n:Int)∈l)=true):=decide_eq_true h3;have HRR:Hid (r=2):=by unfold Hid;rw [HKD.out,if_neg h1,if_neg h2,if_pos h3]
    clear h1 h2 h3
    go_wp2_with (first
     | (go_at_call 82;(with_reducible refine(zCe s _ _ _ (zW.stays (Ext.stays HE3.out) HS.out) HRS.out.callers l HRS.out.line).mono ?_);rintro e w4 ⟨⟨al,cl,rfl,hline⟩,hx4⟩;have HLN:=eH hline;clear hline)
     | (go_at_call 116;(with_reducible refine(zFx l _ _ _ _ HLN.out).mono ?_);rintro e w5 ⟨rfl,hx5⟩;rw [HM.out]))
    go_ret;exact⟨by rw [HRR.out];rfl,HE3.out.trans (hx4.trans hx5)⟩
   ·have HM:Hid (decide ((n:Int)∈l)=false):=decide_eq_false h3;have HR4:Hid (r=if qV p ⟨fr,clr⟩=true then 3 else 4):=by unfold Hid;rw [HKD.out,if_neg h1,if_neg h2,if_neg h3]
    clear h1 h2 h3
    cases hf:qV p ⟨fr,clr⟩ with
    | true =>
     have HF:=eH hf;have HRR:Hid (r=3):=by unfold Hid;rw [HR4.out,hf,if_pos rfl]
     clear hf
     go_wp2_with (first
      | (go_at_call 82;(with_reducible refine(zCe s _ _ _ (zW.stays (Ext.stays HE3.out) HS.out) HRS.out.callers l HRS.out.line).mono ?_);rintro e w4 ⟨⟨al,cl,rfl,hline⟩,hx4⟩;have HLN:=eH hline;clear hline)
      | (go_at_call 116;(with_reducible refine(zFx l _ _ _ _ HLN.out).mono ?_);rintro e w5 ⟨rfl,hx5⟩;rw [HM.out];have s0:=eC (hx4.trans hx5) b0;have s1:=eC (hx4.trans hx5) b1;have s2:=eC (hx4.trans hx5) x0;have s3:=eC (hx4.trans hx5) x1)
      | (go_at_call 117;(with_reducible refine(fresh_any p _ _ _ ⟨fr,clr⟩ _ _ (zM.stays (Ext.stays (HE3.out.trans (hx4.trans hx5))) HP.out) (uW.stays (Ext.stays (hx4.trans hx5)) HFV.out) HFR0.out).mono ?_);rintro e w6 ⟨rfl,hx6⟩;rw [HF.out]))
     go_ret;exact⟨by rw [HRR.out];rfl,(HE3.out.trans (hx4.trans hx5)).trans hx6⟩
    | false =>
     have HF:=eH hf;have HRR:Hid (r=4):=by unfold Hid;rw [HR4.out,hf,if_neg (by decide)]
     clear hf
     go_wp2_with (first
      | (go_at_call 82;(with_reducible refine(zCe s _ _ _ (zW.stays (Ext.stays HE3.out) HS.out) HRS.out.callers l HRS.out.line).mono ?_);rintro e w4 ⟨⟨al,cl,rfl,hline⟩,hx4⟩;have HLN:=eH hline;clear hline)
      | (go_at_call 116;(with_reducible refine(zFx l _ _ _ _ HLN.out).mono ?_);rintro e w5 ⟨rfl,hx5⟩;rw [HM.out];have s0:=eC (hx4.trans hx5) b0;have s1:=eC (hx4.trans hx5) b1;have s2:=eC (hx4.trans hx5) x0;have s3:=eC (hx4.trans hx5) x1)
      | (go_at_call 117;(with_reducible refine(fresh_any p _ _ _ ⟨fr,clr⟩ _ _ (zM.stays (Ext.stays (HE3.out.trans (hx4.trans hx5))) HP.out) (uW.stays (Ext.stays (hx4.trans hx5)) HFV.out) HFR0.out).mono ?_);rintro e w6 ⟨rfl,hx6⟩;rw [HF.out]))
     go_ret;exact⟨by rw [HRR.out];rfl,(HE3.out.trans (hx4.trans hx5)).trans hx6⟩
def cntN (f:Nat→Bool):Nat→Nat
 | 0=>0
 | k+1=>cntN f k+if f k=true then 1 else 0
theorem cnt_eq {f g:Nat→Bool}:∀{m:Nat},(∀k,k<m→f k=g k)→cntN f m=cntN g m
 | 0,_=>rfl
 | m+1,h=>by rw [cntN,cntN,cnt_eq (fun k hk=>h k (by omega)),h m (by omega)]
theorem cnt_or {f g h:Nat→Bool}:∀{m:Nat},(∀k,k<m→f k=(g k || h k)∧¬(g k=true∧h k=true))→cntN f m=cntN g m+cntN h m
 | 0,_=>rfl
 | m+1,e=>by
  rw [cntN,cntN,cntN,cnt_or (fun k hk=>e k (by omega))];obtain⟨e1,e2⟩:=e m (by omega);rw [e1]
  cases hg:g m<;>cases hh:h m<;>simp_all<;>omega
theorem cnt_none {f:Nat→Bool}:∀{m:Nat},(∀k,k<m→f k=false)→cntN f m=0
 | 0,_=>rfl
 | m+1,h=>by rw [cntN,cnt_none (fun k hk=>h k (by omega)),h m (by omega)];rfl
theorem cnt_one (x:Int):∀{m:Nat},0≤x→x<m→cntN (fun k=>decide ((k:Int)=x)) m=1
 | 0,h0,h1=>by omega
 | m+1,h0,h1=>by
  rw [cntN];by_cases e:(m:Int)=x
  ·rw [cnt_none (fun k hk=>decide_eq_false (by omega)),decide_eq_true e];rfl
  ·rw [cnt_one x h0 (by omega),decide_eq_false e];rfl
theorem fibK_on {p:List GFunc} {s:GState} {l:List Int} {k:Nat} (h:fibK p s l k=true) (hm:(k:Int)∈l):(s.fibers.getD k default).frames.length≠0:=by
 intro h0;unfold fibK at h;rw [Bool.and_eq_true] at h;have h1:=h.1;unfold jK at h1;rw [if_pos h0,decide_eq_true hm] at h1;simp at h1
theorem RightS.kind {p:List GFunc} {s:GState} {l:List Int} (h:RightS p s l) {k:Nat} (hk:k<s.fibers.length) :
  (0≤uN p s k∧uN p s k≤4)∧(decide (uN p s k=1)=decide ((k:Int)=s.now))∧(decide (uN p s k=2)=(decide ((k:Int)∈l) && !decide ((k:Int)=s.now)))∧(decide ((k:Int)∈l)=(decide (uN p s k=1) || decide (uN p s k=2))):=by
 have hL:=h.lineF;have hll:lineL s=l:=by unfold lineL;rw [h.line];rfl
 have hon:=fibK_on (h.fib k hk);have hnow:(k:Int)=s.now→(k:Int)∈l:=fun e=>line_now h.line k e
 unfold uN;rw [hll];by_cases h0:(s.fibers.getD k default).frames.length=0
 ·have hn1:¬(k:Int)∈l:=fun e=>hon e h0
  have hn2:¬(k:Int)=s.now:=fun e=>hn1 (hnow e)
  rw [if_pos h0];simp [hn1,hn2]
 ·rw [if_neg h0];by_cases h1:(k:Int)=s.now
  ·have:=hnow h1;simp [h1];rw [←h1];exact this
  ·rw [if_neg h1];by_cases h2:(k:Int)∈l
   ·simp [h1,h2]
   ·rw [if_neg h2];by_cases h3:qV p (s.fibers.getD k default)=true
    ·rw [if_pos h3];simp [h1,h2]
    ·rw [if_neg h3];simp [h1,h2]
end Go.Proofs.YtpcjkfppacnkgaaGreatDoor
