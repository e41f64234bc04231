/- Contracts and plain facts. -/
import Derived.Test.YtpcjkfppacnkgaaGreatDoorGPAO
set_option maxHeartbeats 4000000
set_option maxRecDepth 100000
namespace Go.Proofs.YtpcjkfppacnkgaaGreatDoor
open Go Go.RowKit
theorem nonzero_any (n:Int) (w:World):Calls Tryz.prog 173 #[.int .i64 n] w fun e w'=>e=.returned (.bool (n != 0))∧w=w':=by
 go_enter Tryz.func173,Tryz.ntmps173
 go_wp2_with fail
 go_ret;exact⟨rfl,rfl⟩
theorem indexFunc_any (l:List Int) (v:Value) (S:Nat→Prop) (w:World) (hl:Ints w S v l) :
  Calls Tryz.prog 101 #[v,.func (.func 173) #[] #[]] w fun e w'=>(∃i:Int,e=.returned (.int .i64 i)∧(0≤i↔∃k,k<l.length∧l.getD k 0≠0))∧Ext w w':=by
 have HL:=eH hl;obtain⟨pa,ca,rfl,hca,hba,_⟩:=hl;go_enter Tryz.func101,Tryz.ntmps101
 go_wp2_with fail
 go_loopw [8] (fun q wr=>∃k:Nat,k≤l.length∧q=.int .i64 k∧Ext w wr∧∀i,i<k→l.getD i 0=0) (fun q _=>l.length - (intOf q).toNat)
 case atStart=>exact⟨0,Nat.zero_le _,rfl,eR _,fun i hi=>absurd hi (Nat.not_lt_zero _)⟩
 case round =>
  obtain⟨k,hk,rfl,hb3,htk⟩:=hrel;have HB3:=eH hb3;have HTK:=eH htk;clear hb3 htk;by_cases hlt:k<l.length
  ·obtain⟨ba,oa,rfl,x0⟩:=Ints.at' HL.out hlt;have x1:=eC HB3.out x0;clear x0;obtain⟨u,hu⟩:∃u,l.getD k 0=u:=⟨_,rfl⟩
   rw [hu] at x1;have HU:=eH hu;clear hu;by_cases h0:u=0
   ·have HT:Hid ((u != 0)=false):=by unfold Hid;rw [bne_eq_false_iff_eq];exact h0
    have HX:Hid (∀i,i<k+1→l.getD i 0=0):=fun i hi=>by
     by_cases e:i=k
     ·rw [e,HU.out];exact h0
     ·exact HTK.out i (by omega)
    clear h0
    go_wp2_with (first | (go_at_call 173;(with_reducible refine(nonzero_any _ _).mono ?_);rintro e w4 ⟨rfl,rfl⟩;rw [HT.out]))
    go_roundw
    case rel=>exact⟨k+1,by omega,by go_num,HB3.out,HX.out⟩
    case measure=>simp [intOf];omega
   ·have HT:Hid ((u != 0)=true):=bne_iff_ne.2 h0;have HX:Hid (∃k,k<l.length∧l.getD k 0≠0):=⟨k,hlt,by rw [HU.out];exact h0⟩
    clear h0
    go_wp2_with (first | (go_at_call 173;(with_reducible refine(nonzero_any _ _).mono ?_);rintro e w4 ⟨rfl,rfl⟩;rw [HT.out]))
    go_ret;exact⟨⟨k,rfl,⟨fun _=>HX.out,fun _=>by omega⟩⟩,HB3.out⟩
  ·obtain rfl:k=l.length:=by omega
   have HX:Hid (¬∃k,k<l.length∧l.getD k 0≠0):=fun ⟨k,h1,h2⟩=>h2 (HTK.out k h1)
   clear hlt
   go_wp2_with fail
   go_ret;exact⟨⟨-1,rfl,⟨fun h=>by omega,fun h=>(HX.out h).elim⟩⟩,HB3.out⟩
theorem containsFunc_any (l:List Int) (v:Value) (S:Nat→Prop) (w:World) (hl:Ints w S v l) :
  Calls Tryz.prog 57 #[v,.func (.func 173) #[] #[]] w fun e w'=>e=.returned (.bool (!allK l.length (fun k=>decide (l.getD k 0=0))))∧Ext w w':=by
 have HL:=eH hl;obtain⟨pa,ca,rfl,hca,hba,_⟩:=hl;obtain⟨t,ht⟩:∃t,(!allK l.length (fun k=>decide (l.getD k 0=0)))=t:=⟨_,rfl⟩
 rw [ht];have HT:Hid (decide (∃k,k<l.length∧l.getD k 0≠0)=t):=by
  unfold Hid;rw [←ht]
  cases h:allK l.length (fun k=>decide (l.getD k 0=0)) with
  | true =>
   have:=allK_of h;exact decide_eq_false (fun ⟨k,h1,h2⟩=>h2 (of_decide_eq_true (this k h1)))
  | false =>
   refine decide_eq_true (Classical.byContradiction fun hn=>?_);have:allK l.length (fun k=>decide (l.getD k 0=0))=true:=zGb fun k hk=>decide_eq_true (Classical.byContradiction fun h2=>hn ⟨k,hk,h2⟩)
   rw [this] at h
   cases h
 clear ht;go_enter Tryz.func57,Tryz.ntmps57
 go_wp2_with (first
  | (go_at_call 101;(with_reducible refine(indexFunc_any l _ S _ HL.out).mono ?_);rintro e w2 ⟨⟨i,rfl,hi⟩,hx⟩;have HI:=eH hi;clear hi))
 go_ret;refine⟨?_,hx⟩;exact congrArg (fun b=>Ending.returned (.bool b)) ((decide_eq_decide.2 HI.out).trans HT.out)
theorem zBm (p:List GFunc) (v:Value) (S T:Nat→Prop) (x:GFiber) (vx:Value) (w:World) (hp:zM w S v p) (hx:uW w T vx x) (hf:∀h:0<x.frames.length,0≤x.frames[0].func∧x.frames[0].func<p.length) :
  Calls Tryz.prog 142 #[v,vx] w fun e w'=>e=.returned (.bool (qV p x))∧Ext w w':=by
 have HP:=eH hp;obtain⟨fs,cl⟩:=x;obtain⟨vf,rfl,hfr,_⟩:=hx;have hfr0:=hfr;obtain⟨a1,c1,rfl,_,_,_⟩:=hfr;simp only at *;have RA:=zF;obtain⟨r,hr⟩:∃r,qV p ⟨fs,cl⟩=r:=⟨_,rfl⟩
 rw [hr];have HR:=eH hr;clear hr;by_cases h1:fs.length=1
 ·have T1:((fs.length:Int) != 1)=false:=by rw [bne_eq_false_iff_eq];omega
  obtain⟨x,rfl⟩:∃x,fs=[x]:=List.length_eq_one_iff.1 h1;obtain⟨b0,b1⟩:=hf (by simp);obtain⟨bf,of,cf,e1,_,_,⟨_,x0,_⟩,⟨_,x1,_⟩,⟨vl,x2,hls⟩,⟨vs,x3,hss⟩⟩:=hfr0.get (i:=0) (by simp);simp only [Value.slice.injEq,List.getElem_cons_zero] at e1 x0 x1 hls hss b0 b1;obtain⟨rfl,-,rfl⟩:=e1;rw [Nat.zero_mul,Nat.add_zero] at x0 x1 x2 x3;obtain⟨fn,at_,ls,st⟩:=x;simp only at *;obtain⟨n,rfl⟩:∃n:Nat,fn=n:=⟨fn.toNat,by omega⟩
  have hn:n<p.length:=by omega
  obtain⟨b,o,cap,rfl,hcap,hby,⟨_,hA,iA⟩,_,_⟩:=hp.get hn;have hF:=funcOf_nat hn;have HLS:=eH hls;obtain⟨a2,c2,rfl,_,_,_⟩:=hls;obtain⟨a3,c3,rfl,_,_,_⟩:=hss;have HRR:Hid (r=(decide (at_=0) && decide (p[n].args=1) && decide (st.length=0) && allK ls.length (fun k=>decide (ls.getD k 0=0)))):=by
   unfold Hid;rw [←HR.out];unfold qV;simp only [List.getD_cons_zero,hF];simp
  clear hF HR hfr0 hp b0 b1 hf h1;by_cases h2:at_=0
  ·have T2:(at_ == 0)=true:=by simp [h2]
   by_cases h3:p[n].args=1
   ·have T3:(p[n].args == 1)=true:=by simp [h3]
    by_cases h4:st.length=0
    ·have T4:((st.length:Int) == 0)=true:=by simp [h4]
     have HR2:Hid (r=allK ls.length (fun k=>decide (ls.getD k 0=0))):=by unfold Hid;rw [HRR.out];simp [h2,h3,h4]
     clear h2 h3 h4 HRR;go_enter Tryz.func142,Tryz.ntmps142
     go_wp2_with (first
      | (go_at_call 57;(with_reducible refine(containsFunc_any ls _ _ _ (Ints.stays (Ext.stays (((eR w).alloc _).alloc _)) HLS.out)).mono ?_);rintro e w2 ⟨rfl,hx2⟩;rw [←HR2.out]))
     go_ret;exact⟨rfl,by ((repeat first|assumption|exact eR _|exact And.left (by assumption)|apply eA|apply eD|apply eN|refine eS ?_ (by simp<;>omega) _|refine eT ?_ (by assumption));done)⟩
    ·have T4:((st.length:Int) == 0)=false:=beq_eq_false_iff_ne.2 (by omega);have HR2:Hid (r=false):=by unfold Hid;rw [HRR.out];simp [h4]
     clear h2 h3 h4 HRR;go_enter Tryz.func142,Tryz.ntmps142
     go_wp2_with fail
     go_ret;exact⟨by rw [HR2.out];rfl,by ((repeat first|assumption|exact eR _|exact And.left (by assumption)|apply eA|apply eD|apply eN|refine eS ?_ (by simp<;>omega) _|refine eT ?_ (by assumption));done)⟩
   ·have T3:(p[n].args == 1)=false:=beq_eq_false_iff_ne.2 h3;have HR2:Hid (r=false):=by unfold Hid;rw [HRR.out];simp [h3]
    clear h2 h3 HRR;go_enter Tryz.func142,Tryz.ntmps142
    go_wp2_with fail
    go_ret;exact⟨by rw [HR2.out];rfl,by ((repeat first|assumption|exact eR _|exact And.left (by assumption)|apply eA|apply eD|apply eN|refine eS ?_ (by simp<;>omega) _|refine eT ?_ (by assumption));done)⟩
  ·have T2:(at_ == 0)=false:=beq_eq_false_iff_ne.2 h2;have HR2:Hid (r=false):=by unfold Hid;rw [HRR.out];simp [h2]
   clear h2 HRR;go_enter Tryz.func142,Tryz.ntmps142
   go_wp2_with fail
   go_ret;exact⟨by rw [HR2.out];rfl,by ((repeat first|assumption|exact eR _|exact And.left (by assumption)|apply eA|apply eD|apply eN|refine eS ?_ (by simp<;>omega) _|refine eT ?_ (by assumption));done)⟩
 ·have T1:((fs.length:Int) != 1)=true:=bne_iff_ne.2 (by omega);have HR2:Hid (r=false):=by unfold Hid;rw [←HR.out];unfold qV;simp [h1]
  obtain⟨a,cap,rfl,_,_,_⟩:=hp;clear h1 HR;go_enter Tryz.func142,Tryz.ntmps142
  go_wp2_with fail
  go_ret;exact⟨by rw [HR2.out];rfl,by ((repeat first|assumption|exact eR _|exact And.left (by assumption)|apply eA|apply eD|apply eN|refine eS ?_ (by simp<;>omega) _|refine eT ?_ (by assumption));done)⟩
set_option linter.unusedSimpArgs false
def zAx (B:Nat) (s:GState) (e:Ending) (w':World):Prop :=
 match yA s with
 | none=>e=.returned (.tuple #[.slice none 0 0,.bool false])
 | some l=>∃a c,e=.returned (.tuple #[.slice a l.length c,.bool true])∧Ints w' (B≤·) (.slice a l.length c) l
theorem zFg (s:GState) (vs:Value) (T:Nat→Prop) (w:World) (hs:zW w T vs s) (hc:Callers s) :
  Calls Tryz.prog 109 #[vs] w fun e w'=>zAx w.heap.size s e w'∧Ext w w':=by
 obtain⟨fs,now,outs⟩:=s;obtain⟨x,y,rfl,hfs,_,hout⟩:=hs;have HFS:=eH hfs;obtain⟨af,cf,rfl,_,_,_⟩:=hfs;obtain⟨ao,co,rfl,_,_,_⟩:=hout;simp only at *;have RA:=zF;obtain⟨i0,hi0,hz0,hz1,hz2⟩:=info_parts vM;have HC:=eH hc;have hfew:=hc.few;simp only at hfew;clear hc;obtain⟨S,hS⟩:∃S:GState,(⟨fs,now,outs⟩:GState)=S:=⟨_,rfl⟩
 have hl0:jJ fs (fs.length+2 - ([]:List Int).length) now []=yA S:=by rw [←hS];rfl
 have HS:=eH hS;have bx0:=eH (Cx.new w [.slice af fs.length cf,.int .i64 now,.slice ao outs.length co] 58 (j:=0) rfl);have bx1:=eH (Cx.new w [.slice af fs.length cf,.int .i64 now,.slice ao outs.length co] 58 (j:=1) rfl);have hE1:=(eR w).alloc (.cells #[.slice af fs.length cf,.int .i64 now,.slice ao outs.length co] 58);have hL0:LineOn fs now []:=⟨HC.out.now,List.nodup_nil,by simp⟩
 have HL0:=eH hl0;have HLN:=eH hL0;have HE1:=eH hE1;have HSZ1:Hid ((w.alloc (.cells #[.slice af fs.length cf,.int .i64 now,.slice ao outs.length co] 58)).heap.size=w.heap.size+1):=Array.size_push _;rw [hS];clear hl0 hL0 hE1 hS;go_enter Tryz.func109,Tryz.ntmps109
 go_wp2_with fail
 generalize w.alloc (.cells #[.slice af fs.length cf,.int .i64 now,.slice ao outs.length co] 58)=w1 at *;have hsz1:=bx0.out.lt
 go_loopw [4,5] (fun q4 q5 wr=>∃n out,q5=.int .i64 n∧LineOn fs n out∧jJ fs (fs.length+2 - out.length) n out=yA S∧Ext w1 wr∧RowAt wr (w.heap.size+1) 1 q4 out.length (ints out)∧lenV q4=out.length) (fun q4 _ _=>fs.length+1 - lenV q4)
 case atStart=>exact⟨now,[],rfl,HLN.out,HL0.out,eR _,RowAt.nil _ _ _ _,rfl⟩
 case round =>
  obtain⟨n,out,rfl,hln,hlg,hb,hrow,_⟩:=hrel;have HLN2:=eH hln;have HLG:=eH hlg;have HB:=eH hb;have HROW:=eH hrow;have hol:=hln.len;obtain⟨ar,capr,rfl,_,_⟩:=hrow.shape;have hnow:=hln.now;obtain⟨kf,hkf⟩:∃kf,fs.length+2 - out.length=kf+1:=⟨fs.length+1 - out.length,by omega⟩
  rw [hkf] at HLG;clear hln hlg hb hrow HLN HL0;by_cases h0:n<0
  ·have T0:decide (0≤n)=false:=decide_eq_false (by omega);have HRES:Hid (yA S=some out):=by unfold Hid;rw [←HLG.out,lineGo_neg h0]
   clear h0 HLG hkf;have hfin:∀wq,Ext wr wq→Ints wq (w.heap.size≤·) (.slice ar out.length capr) out:=fun wq hq=>by
    refine Ints.of_row (base:=w.heap.size+1) (by rw [kU];exact HROW.out.ext hq (by decide)) (by omega) (fun x hx=>?_) _ (fun b hb _=>by show w.heap.size≤b;omega);have:=HLN2.out.range x hx;exact⟨by omega,by omega⟩
   have HFIN:=eH hfin;clear hfin
   go_wp2_with fail
   go_ret2
   refine⟨?_,HE1.out.trans HB.out⟩;unfold zAx;rw [HRES.out];exact⟨ar,capr,rfl,HFIN.out _ (eR _)⟩
  ·have T0:decide (0≤n)=true:=decide_eq_true (by omega);obtain⟨m,rfl⟩:∃m:Nat,n=m:=⟨n.toNat,by omega⟩
   have hml:m<fs.length:=by omega
   clear hnow;have HI64:Hid (∀x∈out,I64 x):=fun x hx=>by
    have:=HLN2.out.range x hx;exact⟨by omega,by omega⟩
   have HOUT:Hid (Ints wr (fun _=>True) (.slice ar out.length capr) out):=Ints.of_row (base:=w.heap.size+1) (by rw [kU];exact HROW.out) (by omega) HI64.out _ (fun _ _ _=>trivial);by_cases hmem:(m:Int)∈out
   ·have HM:Hid (decide ((m:Int)∈out)=true):=decide_eq_true hmem;have HRES:Hid (yA S=none):=by unfold Hid;rw [←HLG.out];exact lineGo_mem (by omega) hmem
    clear hmem
    go_wp2_with (first
     | (go_at_call 90;(with_reducible refine(qI out _ _ _ _ HOUT.out).mono ?_);rintro e w2 ⟨rfl,hx2⟩;rw [HM.out]))
    go_ret2
    refine⟨?_,HE1.out.trans (HB.out.trans hx2)⟩;unfold zAx;rw [HRES.out];rfl
   ·have HM:Hid (decide ((m:Int)∈out)=false):=decide_eq_false hmem;have HNM2:Hid ((m:Int) ∉ out):=hmem;clear hmem;have HNX:=eH (HLN2.out.next (by omega) HNM2.out HC.out.all);have HLG2:Hid (jJ fs kf (kM fs m) (out++[(m:Int)])=yA S):=by unfold Hid;rw [←lineGo_next (n:=(m:Int)) (by omega) HNM2.out];exact HLG.out
    obtain⟨bf,of,_,ef,_,_,_,_,f1,_⟩:=HFS.out.get hml;simp only [Value.slice.injEq] at ef;obtain⟨rfl,-,rfl⟩:=ef;have HCL:Hid (fs[m].caller=kM fs m):=by unfold Hid kM;rw [show (m:Int).toNat=m by omega];simp [List.getD,List.getElem?_eq_getElem hml]
    rw [HCL.out] at f1;generalize kM fs m=cl at *;clear h0 HLG
    go_upto_region 7 with (first
     | (go_at_call 90;(with_reducible refine(qI out _ _ _ _ HOUT.out).mono ?_);rintro e w2 ⟨rfl,hx2⟩;rw [HM.out]))
    have HRW:=eH (HROW.out.ext hx2 (by decide));have HBW:=eH (HB.out.trans hx2);have HS7:Hid ((w2.alloc (.cells #[.int .i64 (m:Int)] 3)).heap.size=w2.heap.size+1):=Array.size_push _;have HB1:Hid (w.heap.size+1≤w2.heap.size):=by unfold Hid;rw [←HSZ1.out];exact HBW.out.size
    clear hx2
    go_wp2_with (first
     | (at_builtin;refine zE rfl _ _ 30 rfl (w.heap.size+1) 3 i0 (.int .i64 0) 1 8 Tryz.underlying30 hi0 hz0 hz1 hz2 rfl (by decide) _ _ _ rfl (by exact HRW.out.ext ((eR _).alloc _) (by decide)) 1 (ints [(m:Int)]) (uK _ _ _) (by unfold maxLen;omega) (by omega) (by rw [HS7.out];exact Nat.le_succ_of_le HB1.out) ?_;intro v1 Wv1 rv1;have RV:=eH rv1;obtain⟨a9,cap9,rfl,_,_⟩:=rv1.1.shape;have HX9:=eH (Chg.ext_from (HBW.out.alloc (.cells #[.int .i64 (m:Int)] 3)) RV.out.2.1 (fun g e=>by rw [HSZ1.out];exact HRW.out.le g e));have k0:=(bx0.out.ext HX9.out).1;have k1:=eC (HE1.out.trans HX9.out) f1;clear rv1))
    go_roundw
    case rel=>exact⟨cl,out++[(m:Int)],rfl,HNX.out,by rw [←HLG2.out,List.length_append,List.length_singleton,show fs.length+2 - (out.length+1)=kf by omega],HX9.out,by rw [List.length_append,List.length_singleton,yK];exact RV.out.1,by rw [List.length_append,List.length_singleton];rfl⟩
    case measure=>simp [lenV];omega
set_option linter.unusedSimpArgs false
structure HRow (w:World) (base:Nat) (v:Value) (hs:List (Value × List Int)):Prop where
 row:RowAt w base 1 v hs.length (hs.map Prod.fst)
 ints:∀y∈hs,(∃a n c,y.1=.slice a n c)∧Ints w (fun b=>base≤b∧zB v≠some b) y.1 y.2
theorem HRow.nil (w:World) (base:Nat):HRow w base (.slice none 0 0) []:=⟨RowAt.nil _ _ _ _,by simp⟩
theorem HRow.chg {M:Nat→Prop} {w w':World} {base:Nat} {v:Value} {hs:List (Value × List Int)} (h:HRow w base v hs) (hc:Chg M w w') (hM:∀b,base≤b→¬M b):HRow w' base v hs :=
 ⟨h.row.chg hc (fun g e=>hM g (h.row.le g e)) (by decide),fun y hy=>⟨(h.ints y hy).1,Ints.stays (hc.stays (fun b hb=>hM b hb.1)) (h.ints y hy).2⟩⟩
theorem HRow.grow {w w':World} {base:Nat} {v v':Value} {hs:List (Value × List Int)} {y:Value × List Int} (h:HRow w base v hs) (hn:kO w w' base 1 v v' (hs.length+1) (hs.map Prod.fst++[y.1]))
  (hy:(∃a n c,y.1=.slice a n c)∧Ints w (fun b=>base≤b∧zB v≠some b) y.1 y.2):HRow w' base v' (hs++[y]):=by
 obtain⟨hr,hc,hb⟩:=hn;refine⟨?_,fun z hz=>?_⟩
 ·rw [List.length_append,List.length_singleton,List.map_append];exact hr
 ·have hz':(∃a n c,z.1=.slice a n c)∧Ints w (fun b=>base≤b∧zB v≠some b) z.1 z.2:=by
   rcases List.mem_append.1 hz with h1 | h1
   ·exact h.ints z h1
   ·rw [List.mem_singleton] at h1;subst h1;exact hy
  refine⟨hz'.1,Ints.stays (fun b o u hS hu=>⟨hc.cell hS.2 hu,hS.1,?_⟩) hz'.2⟩;rcases hb with e | e
  ·rw [e];exact hS.2
  ·intro e2;have:=e b e2;have:=zY hu;omega
structure LK (w3 wr:World) (jb:Nat) (p:List GFunc) (vf vp vl:Value) (now:Int) (k:Nat):Prop where
 chg:Chg (·=jb) w3 wr
 c0:Cx wr jb 0 vf
 c1:Cx wr jb 1 (.int .i64 now)
 c3:Cx wr jb 3 vp
 c5:Cx wr jb 5 vl
 hts:∃v hs,Cx wr jb 4 v∧HRow wr w3.heap.size v hs∧hs.map Prod.snd=(List.range k).map (fun i:Nat=>hgt p i)
theorem lineGo_has {fs:List GFiber}:∀(k:Nat) (n:Int) (out l:List Int),jJ fs k n out=some l→(∀x∈out,x∈l)∧(0≤n→n∈l)
 | 0,n,out,l,h=>by cases h
 | k+1,n,out,l,h=>by
  rw [jJ] at h;by_cases h0:n<0
  ·rw [if_pos h0] at h
   cases h
   exact⟨fun x hx=>hx,fun h=>by omega⟩
  ·rw [if_neg h0] at h;by_cases hm:n∈out
   ·rw [if_pos hm] at h;cases h
   ·rw [if_neg hm] at h;obtain⟨h1,_⟩:=lineGo_has k _ _ _ h;exact⟨fun x hx=>h1 x (by simp [hx]),fun _=>h1 n (by simp)⟩
theorem line_now {s:GState} {l:List Int} (h:yA s=some l) (n:Nat) (hn:(n:Int)=s.now):(n:Int)∈l:=by
 rw [hn];exact(lineGo_has _ _ _ _ h).2 (by omega)
end Go.Proofs.YtpcjkfppacnkgaaGreatDoor
