/- Contracts and plain facts. -/
import Derived.Test.YtpcjkfppacnkgaaGreatDoorGPBH
set_option maxHeartbeats 4000000
set_option maxRecDepth 100000
namespace Go.Proofs.YtpcjkfppacnkgaaGreatDoor
open Go Go.RowKit
def countCode0:List GOp:=[⟨13,1⟩,⟨3,0⟩,⟨2,0⟩,⟨0,7⟩,⟨14,0⟩,⟨16,0⟩,⟨2,0⟩,⟨0,0⟩,⟨14,0⟩,⟨16,0⟩,⟨2,0⟩,⟨0,0⟩,⟨14,0⟩,⟨12,0⟩]
def countCode1:List GOp:=[⟨2,0⟩,⟨15,0⟩,⟨1,0⟩,⟨2,0⟩,⟨0,1⟩,⟨11,2⟩,⟨15,0⟩,⟨1,0⟩,⟨0,99⟩,⟨12,0⟩,⟨0,5⟩,⟨9,9⟩]
def countCode2:List GOp:=[⟨2,0⟩,⟨2,1⟩,⟨4,0⟩,⟨12,0⟩]
def countP:List GFunc:=[⟨0,1,countCode0⟩,⟨1,1,countCode1⟩,⟨2,2,countCode2⟩]
theorem o_any (k a:Int) (w:World) :
  Calls Tryz.prog 23 #[.int .i64 k,.int .i64 a] w fun e w'=>e=.returned (.agg #[.int .i64 k,.int .i64 a])∧Ext w w':=by
 go_enter Tryz.func23,Tryz.ntmps23
 go_wp2
 exact bodyPost_ret (v:=.agg #[.int .i64 k,.int .i64 a]) (by simp [results,Tryz.results23,go_sem]) rfl ⟨rfl,(eR _).alloc _⟩
def CountIs (w w':World) (v:Value):Prop:=∃g c0 c1 c2:Nat,v=.slice (some ⟨g,0,none⟩) 3 3∧w.heap.size≤c0∧c0<c1∧c1<c2∧c2<g ∧
 w'.heap[c0]?=some (.cells #[.int .i64 13,.int .i64 1,.int .i64 3,.int .i64 0,.int .i64 2,.int .i64 0,.int .i64 0,.int .i64 7,.int .i64 14,.int .i64 0,.int .i64 16,.int .i64 0,.int .i64 2,.int .i64 0,.int .i64 0,.int .i64 0,.int .i64 14,.int .i64 0,.int .i64 16,.int .i64 0,.int .i64 2,.int .i64 0,.int .i64 0,.int .i64 0,.int .i64 14,.int .i64 0,.int .i64 12,.int .i64 0] 51 (0,0)) ∧
 w'.heap[c1]?=some (.cells #[.int .i64 2,.int .i64 0,.int .i64 15,.int .i64 0,.int .i64 1,.int .i64 0,.int .i64 2,.int .i64 0,.int .i64 0,.int .i64 1,.int .i64 11,.int .i64 2,.int .i64 15,.int .i64 0,.int .i64 1,.int .i64 0,.int .i64 0,.int .i64 99,.int .i64 12,.int .i64 0,.int .i64 0,.int .i64 5,.int .i64 9,.int .i64 9] 51 (0,0)) ∧
 w'.heap[c2]?=some (.cells #[.int .i64 2,.int .i64 0,.int .i64 2,.int .i64 1,.int .i64 4,.int .i64 0,.int .i64 12,.int .i64 0] 51 (0,0)) ∧
 w'.heap[g]?=some (.cells #[.int .i64 0,.int .i64 1,.slice (some ⟨c0,0,none⟩) 14 14,.int .i64 1,.int .i64 1,.slice (some ⟨c1,0,none⟩) 12 12,.int .i64 2,.int .i64 2,.slice (some ⟨c2,0,none⟩) 4 4] 49 (0,0))
theorem count_any (w:World) :
  Calls Tryz.prog 35 #[] w fun e w'=>(∃v,e=.returned v∧CountIs w w' v)∧Ext w w':=by
 go_enter Tryz.func35,Tryz.ntmps35
 go_wp2_with (first
  | (go_at_call 23;refine(o_any _ _ _).mono ?_;rintro e w1 ⟨rfl,hb⟩))
 go_ret;refine⟨⟨_,rfl,?_⟩,?_⟩
 ·refine⟨_,_,_,_,rfl,?_,?_,?_,?_,?_,?_,heap_alloc2_old _ _ _,heap_alloc2_new _ _ _⟩
  ·(repeat (first | exact Nat.le_refl _ | refine Nat.le_trans ?_ (Ext.size (by assumption)) | refine Nat.le_trans ?_ (Ext.size ((eR _).alloc _))))
  ·show _+1≤_
   (repeat (first | (simp;done) | refine Nat.le_trans ?_ (Ext.size (by assumption)) | refine Nat.le_trans ?_ (Ext.size ((eR _).alloc _))))
  ·show _+1≤_
   (repeat (first | (simp;done) | refine Nat.le_trans ?_ (Ext.size (by assumption)) | refine Nat.le_trans ?_ (Ext.size ((eR _).alloc _))))
  ·omega
  ·refine Ext.heap (((eR _).alloc _).alloc _) ?_
   (repeat (first | exact heap_alloc_new _ _ | refine Ext.heap (by assumption) ?_ | refine Ext.heap ((eR _).alloc _) ?_))
  ·refine Ext.heap (((eR _).alloc _).alloc _) ?_
   (repeat (first | exact heap_alloc_new _ _ | refine Ext.heap (by assumption) ?_ | refine Ext.heap ((eR _).alloc _) ?_))
 ·((repeat first|assumption|exact eR _|exact And.left (by assumption)|apply eA|apply eD|apply eN|refine eS ?_ (by simp<;>omega) _|refine eT ?_ (by assumption));done)
def opCells:List GOp→List Value
 | []=>[]
 | x::l=>.int .i64 x.kind::.int .i64 x.a::opCells l
theorem opCells_at:∀(l:List GOp) (i:Nat) (h:i<l.length),(opCells l)[i * 2]?=some (.int .i64 l[i].kind)∧(opCells l)[i * 2+1]?=some (.int .i64 l[i].a)
 | [],i,h=>absurd h (by simp)
 | x::l,0,_=>⟨rfl,rfl⟩
 | x::l,i+1,h=>by
  have:=opCells_at l i (by simpa using h);rw [show (i+1) * 2=i * 2+2 by omega];exact this
theorem zDn {w:World} {S:Nat→Prop} {c:Nat} {cs:Array Value} {t:TypeId} {fr:Nat × Nat} (l:List GOp) (hc:w.heap[c]?=some (.cells cs t fr)) (hl:cs.toList=opCells l)
  (hS:S c) (hI:∀x∈l,I64 x.kind∧I64 x.a) (hlen:l.length * 16≤140737488355328):Ops w S (.slice (some ⟨c,0,none⟩) l.length l.length) l:=by
 refine⟨_,_,rfl,Nat.le_refl _,⟨hlen,by omega⟩,fun i hi=>⟨c,0,rfl,?_⟩⟩;obtain⟨h0,h1⟩:=opCells_at l i hi;have hx:=hI _ (List.getElem_mem hi);refine⟨⟨hS,?_,hx.1⟩,hS,?_,hx.2⟩
 ·rw [cell_of_row w c _ cs t fr hc,←Array.getElem?_toList,hl,Nat.zero_add];exact h0
 ·rw [cell_of_row w c _ cs t fr hc,←Array.getElem?_toList,hl,Nat.zero_add];exact h1
theorem ops_small (l:List GOp) (h:∀x∈l,(-1000≤x.kind∧x.kind≤1000) ∧ -1000≤x.a∧x.a≤1000):∀x∈l,I64 x.kind∧I64 x.a:=fun x hx =>
 ⟨I64.small (by have:=(h x hx).1.1;omega) (by have:=(h x hx).1.2;omega),I64.small (by have:=(h x hx).2.1;omega) (by have:=(h x hx).2.2;omega)⟩
theorem CountIs.funcs {w w':World} {v:Value} (h:CountIs w w' v):zM w' (fun _=>True) v countP:=by
 obtain⟨g,c0,c1,c2,rfl,_,_,_,_,h0,h1,h2,hg⟩:=h;have f0:=zDn (S:=fun _=>True) countCode0 h0 rfl trivial (ops_small _ (by decide)) (by decide);have f1:=zDn (S:=fun _=>True) countCode1 h1 rfl trivial (ops_small _ (by decide)) (by decide);have f2:=zDn (S:=fun _=>True) countCode2 h2 rfl trivial (ops_small _ (by decide)) (by decide);have cell:=fun j=>cell_of_row w' g j _ _ _ hg
 refine⟨_,_,rfl,Nat.le_refl _,by decide,fun i hi=>⟨g,0,rfl,?_⟩⟩
 match i,hi with
 | 0,_=>exact⟨⟨trivial,cell _,I64.small (by simp [countP]) (by simp [countP])⟩,⟨trivial,cell _,I64.small (by simp [countP]) (by simp [countP])⟩,_,cell _,f0⟩
 | 1,_=>exact⟨⟨trivial,cell _,I64.small (by simp [countP]) (by simp [countP])⟩,⟨trivial,cell _,I64.small (by simp [countP]) (by simp [countP])⟩,_,cell _,f1⟩
 | 2,_=>exact⟨⟨trivial,cell _,I64.small (by simp [countP]) (by simp [countP])⟩,⟨trivial,cell _,I64.small (by simp [countP]) (by simp [countP])⟩,_,cell _,f2⟩
def scA:By:=[107,105,110,100,115,10,108,105,110,101,10,115,116,101,112,32,54,10,107,105,110,100,115,10,108,105,110,101,10,111,117,116,10,115,116,101,112,32,53,48,48,10,111,117,116,10,107,105,110,100,115,10,108,105,110,101,10,104,101,105,103,104,116,115,32,50,10,104,101,105,103,104,116,115,32,51,10,116,114,105,109,10,97,103,97,105,110,10,115,116,101,112,32,53,48,49,10,115,116,101,112,10,111,117,116,10]
def ouA:By:=[49,10,48,10,54,10,50,32,49,10,49,32,48,10,45,10,50,50,10,55,32,56,32,57,57,10,48,32,48,10,45,10,48,32,49,32,50,32,49,10,101,114,114,111,114,32,53,10,50,56,10,111,107,10,101,114,114,111,114,32,51,10,101,114,114,111,114,32,49,10,45,10]
def prB:By:=[102,117,110,99,32,48,32,48,10,112,117,115,104,32,49,10,121,105,101,108,100,10,114,101,116,117,114,110,10]
def scB:By:=[115,116,101,112,32,53,10,115,116,101,112,32,53,10]
def ouB:By:=[49,32,101,114,114,111,114,32,55,10,48,32,101,114,114,111,114,32,55,10]
theorem begun_a:qB (qZ countP) scA=(ouA,0):=by decide +kernel
theorem begun_b:qB prB scB=(ouB,0):=by decide +kernel
theorem begun_p:zZ countP=0:=by decide
theorem deskBegun_any (w:World) (hg:Glob w):Calls Tryz.prog 9 #[] w fun e w'=>e=.returned (.bool true)∧Ext w w':=by
 have HG:=eH hg;obtain⟨T,hT⟩:∃T,qZ countP=T:=⟨_,rfl⟩
 obtain⟨OA,hOA⟩:∃Y:ByteArray,(⟨ouA.toArray⟩:ByteArray)=Y:=⟨_,rfl⟩
 obtain⟨OB,hOB⟩:∃Y:ByteArray,(⟨ouB.toArray⟩:ByteArray)=Y:=⟨_,rfl⟩
 have HSH:Hid (∀(v:Value) (w:World),Glob w→zM w (fun _=>True) v countP→Calls Tryz.prog 11 #[v] w fun e w'=>e=.returned (.tuple #[.string ⟨T.toArray⟩,.int .i64 0])∧Ext w w'):=by
  unfold Hid;intro v w hg hv;refine(show_any countP v _ w hg hv).mono ?_;rintro e w' ⟨rfl,hx⟩;refine⟨?_,hx⟩;unfold showT;rw [if_pos begun_p,begun_p,hT]
 have HPA:Hid (∀w,Glob w→Calls Tryz.prog 7 #[.string ⟨T.toArray⟩,.string ⟨scA.toArray⟩] w fun e w'=>e=.returned (.tuple #[.string OA,.int .i64 0])∧Ext w w'):=by
  unfold Hid;intro w hg;refine(play_any T scA w hg).mono ?_;rintro e w' ⟨rfl,hx⟩;rw [←hT,begun_a,←hOA];exact⟨rfl,hx⟩
 have HPB:Hid (∀w,Glob w→Calls Tryz.prog 7 #[.string ⟨prB.toArray⟩,.string ⟨scB.toArray⟩] w fun e w'=>e=.returned (.tuple #[.string OB,.int .i64 0])∧Ext w w'):=by
  unfold Hid;intro w hg;refine(play_any prB scB w hg).mono ?_;rintro e w' ⟨rfl,hx⟩;rw [begun_b,←hOB];exact⟨rfl,hx⟩
 obtain⟨SA,hSA⟩:∃Y:ByteArray,(⟨scA.toArray⟩:ByteArray)=Y:=⟨_,rfl⟩
 obtain⟨SB,hSB⟩:∃Y:ByteArray,(⟨scB.toArray⟩:ByteArray)=Y:=⟨_,rfl⟩
 obtain⟨PB,hPB⟩:∃Y:ByteArray,(⟨prB.toArray⟩:ByteArray)=Y:=⟨_,rfl⟩
 rw [hSA] at HPA;rw [hSB,hPB] at HPB;unfold scA at hSA;unfold scB at hSB;unfold prB at hPB;unfold ouA at hOA;unfold ouB at hOB;have HSA:=eH hSA;have HSB:=eH hSB;have HPRB:=eH hPB;have HOA:=eH hOA;have HOB:=eH hOB;clear hg hT hOA hOB hSA hSB hPB;go_enter Tryz.func9,Tryz.ntmps9
 go_upto_region 2 with (first
  | (go_at_call 35;refine(count_any _).mono ?_;rintro e w1 ⟨⟨v1,rfl,hv1⟩,hb1⟩;have hfA:=eH hv1.funcs)
  | (go_at_call 11;(with_reducible refine(HSH.out _ _ (HG.out.ext hb1) hfA.out).mono ?_);rintro e w2 ⟨rfl,hb2⟩;have E2:=eH (hb1.trans hb2)))
 dsimp only [List.append];rw [HSA.out]
 go_upto_region 3 with (first
  | (go_at_call 7;(with_reducible refine(HPA.out _ (HG.out.ext E2.out)).mono ?_);rintro e w3 ⟨rfl,hb3⟩;have E3:=eH (E2.out.trans hb3)))
 rw [HPRB.out,HSB.out]
 go_upto_region 4 with (first
  | (go_at_call 7;(with_reducible refine(HPB.out _ (HG.out.ext E3.out)).mono ?_);rintro e w4 ⟨rfl,hb4⟩;have E4:=eH (E3.out.trans hb4)))
 dsimp only [List.append];rw [HOA.out,HOB.out]
 go_wp2_with fail
 go_ret;exact⟨rfl,E4.out⟩
theorem yY (n:Int) (w:World) (hn:I64 n):Calls Tryz.prog 80 #[.int .i64 n] w fun e w'=>e=.returned (.string ⟨(errT n).toArray⟩)∧Ext w w':=by
 have hcat:=jS;have hlen:=zAo;have hdl:(Lib.itoa n).length≤21:=Lib.itoa_length_le n hn.1 hn.2;obtain⟨d,hd⟩:∃d,Lib.itoa n=d:=⟨_,rfl⟩
 have HD:=eH hd;rw [hd] at hdl;have n1:¬9223372036854775807<6+d.length:=by omega
 clear hd;go_enter Tryz.func80,Tryz.ntmps80
 go_wp2_with (first
  | (go_at_call 13;(with_reducible refine(jF _ _ hn).mono ?_);rintro e w3 ⟨rfl,hb3⟩;rw [HD.out]))
 go_ret;exact⟨by unfold errT;rw [HD.out];rfl,hb3⟩
theorem zCd (l:List Int) (v:Value) (S:Nat→Prop) (w:World) (hv:Ints w S v l) (hl:l.length≤1000) :
  Calls Tryz.prog 81 #[v] w fun e w'=>e=.returned (.string ⟨(jT l).toArray⟩)∧Ext w w':=by
 have HV:=eH hv;have hcat:=jS;have hlen:=zAo;have hI:∀n∈l,I64 n:=fun n hn=>by
  obtain⟨i,hi,rfl⟩:=List.getElem_of_mem hn;obtain⟨b,o,cap,_,_,_,_,_,h⟩:=Sl.get hv hi;exact h
 have HI:=eH hI;obtain⟨a,cap,rfl,hcap,hby,_⟩:=hv;clear hI;go_enter Tryz.func81,Tryz.ntmps81
 go_wp2_with fail
 go_loopw [3,4] (fun q3 q4 wr=>∃k:Nat,k≤l.length∧q4=.int .i64 k∧q3=.string ⟨(zCg (l.take k)).toArray⟩∧Ext w wr) (fun _ q _=>l.length - (intOf q).toNat)
 case atStart=>exact⟨0,Nat.zero_le _,rfl,by simp [zCg],eR _⟩
 case round =>
  obtain⟨k,hk,rfl,rfl,hb⟩:=hrel;have HB:=eH hb;clear hb;have hsl:=joinI_len (l.take k) (fun n hn=>HI.out n (List.mem_of_mem_take hn));have hkk:(l.take k).length≤1000:=by simp;omega
  by_cases hlt:k<l.length
  ·have HST:=eH (joinI_step hlt);obtain⟨s,hs⟩:∃s,zCg (l.take k)=s:=⟨_,rfl⟩
   rw [hs] at hsl HST;rw [hs];obtain⟨b,o,cap',e0,_,_,_,x0,iN⟩:=(Ints.stays (Ext.stays HB.out) HV.out).get hlt;simp only [Value.slice.injEq] at e0;obtain⟨rfl,-,rfl⟩:=e0;rw [Nat.mul_one] at x0;generalize l[k]=n at *;have hdl:(Lib.itoa n).length≤21:=Lib.itoa_length_le n iN.1 iN.2;obtain⟨d,hd⟩:∃d,Lib.itoa n=d:=⟨_,rfl⟩
   have HD:=eH hd;rw [hd] at hdl HST;by_cases h0:k=0
   ·subst h0;have hs0:s=[]:=by rw [←hs];rfl
    rw [if_pos rfl] at HST;subst hs0;have n0:¬9223372036854775807<0+d.length:=by omega
    have n1:¬9223372036854775807<d.length:=by omega
    clear hd hs;rw [Nat.add_zero] at x0
    go_wp2_with (first
     | (go_at_call 13;(with_reducible refine(jF _ _ iN).mono ?_);rintro e w3 ⟨rfl,hb3⟩;rw [HD.out]))
    go_roundw
    case rel=>exact⟨1,by omega,by go_num,by rw [HST.out];first | rfl | (simp [cat]),HB.out.trans hb3⟩
    case measure=>simp [intOf];omega
   ·rw [if_neg h0] at HST;have T0:decide ((0:Int)<(k:Int))=true:=decide_eq_true (by omega);have n1:¬9223372036854775807<s.length+1:=by omega
    have n2:¬9223372036854775807<s.length+1+d.length:=by omega
    clear hd hs
    go_wp2_with (first
     | (go_at_call 13;(with_reducible refine(jF _ _ iN).mono ?_);rintro e w3 ⟨rfl,hb3⟩;rw [HD.out]))
    go_roundw
    case rel=>exact⟨k+1,by omega,by go_num,by rw [HST.out];simp [cat],HB.out.trans hb3⟩
    case measure=>simp [intOf];omega
  ·obtain rfl:k=l.length:=by omega
   rw [List.take_length];by_cases h0:l=[]
   ·subst h0
    go_wp2_with fail
    go_ret;exact⟨rfl,HB.out⟩
   ·have hp:0<l.length:=List.length_pos_iff.2 h0;have T0:((l.length:Int) == 0)=false:=beq_eq_false_iff_ne.2 (by omega);have HJ:Hid (jT l=zCg l):=by unfold Hid jT;rw [if_neg h0]
    clear h0 hlt
    go_wp2_with fail
    go_ret;exact⟨by rw [HJ.out];rfl,HB.out⟩
theorem trimmed_any (p:List GFunc) (v:Value) (S:Nat→Prop) (n:Nat) (w:World) (hp:zM w S v p) (hn:n<p.length) (hR:RightF p p[n]) (l:List Int) (hl:hts p p[n].code=some l) :
  Calls Tryz.prog 84 #[v,.int .i64 n] w fun e w'=>(∃x,e=.returned x∧FuncV w' (w.heap.size≤·) x (zAq p p[n]))∧Ext w w':=by
 have HH:Hid (∀w1,Ext w w1→Calls Tryz.prog 43 #[v,.int .i64 n] w1 fun e w'=>(∃v2,e=.returned (.tuple #[v2,.bool true])∧Ints w' (w1.heap.size≤·) v2 l)∧Ext w1 w'):=by
  intro w1 h1;refine(zAv p v S n w1 (zM.stays h1.stays hp) hn hR).mono fun e w' ⟨h,hx⟩=>⟨?_,hx⟩
  rw [zIa hR.jumps,hl] at h;exact h
 have hfull:=hts_full hR.jumps hl;have hll:=hfull.len;have hHG:zAq p p[n]=⟨p[n].args,p[n].locals,vE p[n].code l⟩:=by unfold zAq;rw [hl];rfl
 rw [hHG];obtain⟨b,o,cap,rfl,hcap,hby,⟨_,hA,iA⟩,⟨_,hL,iL⟩,vc,hC,hcode⟩:=hp.get hn;have HOI:=eH (Ops.i64 hcode);obtain⟨ca,ccap,rfl,hcc,hcby,hops⟩:=hcode;have RA:=zF;have hlen:=hR.len;have hjm:=fun x hx=>(hR.op x hx).2.2
 obtain⟨i0,hi0,hz0,hz1,hz2⟩:=info_parts vM;obtain⟨o0,ho0,hoz0,hoz1,hoz2⟩:=info_parts infoO;generalize hF:p[n]=F at *;obtain⟨A,L,C⟩:=F;simp only at *;have HO:=eH hops;have HJ:=eH hjm;clear hF hp hops hR hl hfull hjm hHG;go_enter Tryz.func84,Tryz.ntmps84
 go_upto_region 2 with (first
  | (go_at_call 43;refine(HH.out _ ((eR w).alloc _)).mono ?_;rintro e w2 ⟨⟨v2,rfl,hi⟩,hx⟩))
 obtain⟨a2,cap2,rfl,hc2,hb2,_⟩:=(⟨hi,trivial⟩:_∧True).1;have hw2:w.heap.size+1≤w2.heap.size:=by have:=hx.size;simpa using this
 have HI:=eH hi;have HX:=eH (((eR w).alloc _).trans hx);have c40:=Cx.ext (Cx.new w [.int .i64 0,.int .i64 0,.slice none 0 0] 49 (j:=0) rfl) hx;have c41:=Cx.ext (Cx.new w [.int .i64 0,.int .i64 0,.slice none 0 0] 49 (j:=1) rfl) hx;have c42:=Cx.ext (Cx.new w [.int .i64 0,.int .i64 0,.slice none 0 0] 49 (j:=2) rfl) hx;clear hi hx
 go_wp2_with (first
  | (at_make;refine wpList_make_full _ rfl _ _ 30 rfl w2.heap.size 3 i0 (.int .i64 0) 1 Tryz.underlying30 hi0 hz0 hz1 .i64 .i64 _ _ C.length rfl rfl rfl rfl (by rw [hz2];omega) (by unfold maxLen;omega) (Nat.le_refl _) ?_;intro w3 hown3 hgr3))
 have hE3:=uR hgr3;have hrow:=IRow.made hown3;clear hown3 hgr3
 go_loopw [8,9] (fun q8 q9 wr=>∃k:Nat,k≤C.length∧q8=.int .i64 (qR l k)∧q9=.int .i64 k∧Ext w2 wr∧∃t,IRow wr w2.heap.size w2.heap.size t∧t.length=C.length∧∀i,i<k→t.getD i 0=qR l i) (fun _ q _=>C.length - (intOf q).toNat)
 case atStart=>exact⟨0,Nat.zero_le _,by rw [keepN_zero];rfl,rfl,hE3,_,hrow,by simp,fun i hi=>absurd hi (Nat.not_lt_zero _)⟩
 case round =>
  obtain⟨k,hk,rfl,rfl,hbr,t,hrt,htl,hti⟩:=hrel;have hkb:=keepN_le l k;have HB:=eH hbr;have HT:=eH hrt;have HTI:=eH hti;clear hbr hrt hti hE3 hrow;by_cases hlt:k<C.length
  ·obtain⟨r0,r1,_⟩:=HT.out.at (k:=k) (by omega)
   go_upto_region 8 with fail
   have hst:=HT.out.store (k:=k) (by omega) (qR l k);have hE4:=HB.out.setCell (p:=⟨w2.heap.size,k,none⟩) (Nat.le_refl _) (.int .i64 (qR l k));have hgt:∀i,i<k+1→(t.set k (qR l k)).getD i 0=qR l i:=fun i hi=>by
    by_cases e:i=k
    ·subst e;simp [List.getD,htl,hlt]
    ·have:=HTI.out i (by omega);simp only [List.getD,List.getElem?_set_ne (Ne.symm e)] at this ⊢;exact this
   have htl':(t.set k (qR l k:Int)).length=C.length:=by rw [List.length_set];exact htl
   generalize t.set k (qR l k:Int)=t2 at *;generalize wr.setCell ⟨w2.heap.size,k,none⟩ (.int .i64 (qR l k))=w4 at *;clear HB HT HTI r0 r1 htl;have HE4:=eH hE4;have HST:=eH hst;have HGT:=eH hgt;clear hE4 hst hgt;obtain⟨bl,ol,_,e1,_,_,_,x0,_⟩:=HI.out.get (i:=k) (by omega);simp only [Value.slice.injEq] at e1;obtain⟨rfl,-,-⟩:=e1;have y0:=eC HE4.out x0;rw [Nat.mul_one] at y0;have hlt':k<l.length:=by omega
   have hks:=keepN_succ hlt';have eg:l.getD k 0=l[k]:=by simp [List.getD,List.getElem?_eq_getElem hlt']
   rw [eg] at hks;have HKS:=eH hks;clear hks eg x0;generalize l[k]=u at *;by_cases h0:0≤u
   ·have T0:decide (0≤u)=true:=by simpa using h0
    have HK2:Hid (qR l (k+1)=qR l k+1):=by unfold Hid;rw [HKS.out,if_pos h0]
    clear h0 HKS
    go_wp2_with fail
    go_roundw
    case rel=>exact⟨k+1,by omega,by rw [HK2.out];go_num,by go_num,HE4.out,t2,HST.out,htl',HGT.out⟩
    case measure=>simp [intOf];omega
   ·have T0:decide (0≤u)=false:=by simpa using h0
    have HK2:Hid (qR l (k+1)=qR l k):=by unfold Hid;rw [HKS.out,if_neg h0];rfl
    clear h0 HKS
    go_wp2_with fail
    go_roundw
    case rel=>exact⟨k+1,by omega,by rw [HK2.out],by go_num,HE4.out,t2,HST.out,htl',HGT.out⟩
    case measure=>simp [intOf];omega
  ·obtain rfl:k=C.length:=by omega
   clear hlt;have HBS:=eH HB.out.size;have HG1:Hid (0<C.length→w2.heap.size<wr.heap.size):=fun h0=>zY (HT.out.at (k:=0) (by omega)).1
   go_upto_region 10 with fail
   have hA':=eC (HX.out.trans HB.out) hA;have hL':=eC (HX.out.trans HB.out) hL;have hC':=eC (HX.out.trans HB.out) hC
   go_region
   have hE5:Ext wr (wr.alloc (.cells #[.int .i64 A,.int .i64 L,.slice none 0 0] 49)).drew:=((eR _).alloc _).drew;generalize hw5:(wr.alloc (.cells #[.int .i64 A,.int .i64 L,.slice none 0 0] 49)).drew=w5 at *;have hB10:=hE5.size;have hc0:Cx w5 wr.heap.size 0 (.int .i64 A):=by rw [←hw5];exact(Cx.new wr [.int .i64 A,.int .i64 L,.slice none 0 0] 49 rfl).ext (eR _).drew
   have hc1:Cx w5 wr.heap.size 1 (.int .i64 L):=by rw [←hw5];exact(Cx.new wr [.int .i64 A,.int .i64 L,.slice none 0 0] 49 rfl).ext (eR _).drew
   have hc2:Cx w5 wr.heap.size 2 (.slice none 0 0):=by rw [←hw5];exact(Cx.new wr [.int .i64 A,.int .i64 L,.slice none 0 0] 49 rfl).ext (eR _).drew
   have hs5:w5.heap.size=wr.heap.size+1:=by rw [←hw5];exact Array.size_push _
   have hst:TI w2 w5 w2.heap.size wr.heap.size C.length A L l [] w5:=⟨HB.out.trans hE5,⟨t,HT.out.ext hE5,htl,HTI.out⟩,hc0,hc1,⟨_,hc2,RowAt.nil _ _ _ _⟩,Nat.le_refl _⟩
   have HST:=eH hst;clear hw5 hst hc0 hc1 hc2 hA' hL' hC' HT HTI hE5
   go_wp2_with fail
   go_loopw [11] (fun q wx=>∃k:Nat,k≤C.length∧q=.int .i64 k∧∃acc,acc++jE l (C.drop k) (l.drop k)=vE C l∧acc.length≤k∧TI w2 w5 w2.heap.size wr.heap.size C.length A L l acc wx) (fun q _=>C.length - (intOf q).toNat)
   case atStart=>exact⟨0,Nat.zero_le _,rfl,[],rfl,Nat.le_refl _,HST.out⟩
   case round =>
    obtain⟨k,hk,rfl,acc,hacc,hal,hti⟩:=hrel;have HACC:=eH hacc;have HTI:=eH hti;clear hacc hti HST;by_cases hlt:k<C.length
    ·obtain⟨cb,co,rfl,⟨_,z0,i0'⟩,_,z1,i1'⟩:=HO.out k hlt;have hxj:=HJ.out _ (List.getElem_mem hlt);have HSKIP:=eH (trimGo_skip hlt hll);have HPUT:=eH (trimGo_put hlt hll);have z0':=eC (HX.out.trans HTI.out.ext) z0;have z1':=eC (HX.out.trans HTI.out.ext) z1;have hC':=eC (HX.out.trans HTI.out.ext) hC;obtain⟨bl,ol,_,e1,_,_,_,x0,_⟩:=HI.out.get (i:=k) (by omega);simp only [Value.slice.injEq] at e1;obtain⟨rfl,-,-⟩:=e1;have hlt':k<l.length:=by omega
     have eg:l.getD k 0=l[k]:=by simp [List.getD,List.getElem?_eq_getElem hlt']
     rw [Nat.mul_one,←eg] at x0;have X0:=eH x0;clear eg x0 z0 z1;generalize C[k]=x at *;rename World=>wx0
     go_upto_region 15 with fail
     have he6:Ext wx0 (wx0.alloc (.cells #[.int .i64 x.kind,.int .i64 x.a] 51)):=(eR _).alloc _;have hx0:Cx (wx0.alloc (.cells #[.int .i64 x.kind,.int .i64 x.a] 51)) wx0.heap.size 0 (.int .i64 x.kind):=Cx.new wx0 [.int .i64 x.kind,.int .i64 x.a] 51 rfl;have hx1:Cx (wx0.alloc (.cells #[.int .i64 x.kind,.int .i64 x.a] 51)) wx0.heap.size 1 (.int .i64 x.a):=Cx.new wx0 [.int .i64 x.kind,.int .i64 x.a] 51 rfl;have hs6:(wx0.alloc (.cells #[.int .i64 x.kind,.int .i64 x.a] 51)).heap.size=wx0.heap.size+1:=Array.size_push _;have hs5x:=HTI.out.size;generalize hbx:wx0.heap.size=bx at *;generalize wx0.alloc (.cells #[.int .i64 x.kind,.int .i64 x.a] 51)=w6 at *;have HE6:=eH he6;clear z0' z1' hC' he6
     go_cut [71] (fun v wx=>∃c:Bool,v=.bool c∧(c=true↔(x.kind=9∨x.kind=10))∧w6=wx)
     case first =>
      obtain⟨q0,q1⟩:=hx0;by_cases hk:x.kind=9
      ·have T9:(x.kind == 9)=true:=by simp [hk]
       have TT:=eH (show (x.kind=9∨x.kind=10) by simp [hk]);clear hk
       go_wp2_with fail
       go_meet
       exact⟨true,rfl,⟨fun _=>TT.out,fun _=>rfl⟩,rfl⟩
      ·have T9:(x.kind == 9)=false:=by simp [hk]
       by_cases hk':x.kind=10
       ·have T10:(x.kind == 10)=true:=by simp [hk']
        have TT:=eH (show (x.kind=9∨x.kind=10) by simp [hk']);clear hk hk'
        go_wp2_with fail
        go_meet
        exact⟨true,rfl,⟨fun _=>TT.out,fun _=>rfl⟩,rfl⟩
       ·have T10:(x.kind == 10)=false:=by simp [hk']
        have TT:=eH (show ¬(x.kind=9∨x.kind=10) by simp [hk,hk']);clear hk hk'
        go_wp2_with fail
        go_meet
        exact⟨false,rfl,⟨fun h=>(by cases h),fun h=>(TT.out h).elim⟩,rfl⟩
     case rest =>
      obtain⟨c,rfl,hcj,rfl⟩:=hcut;have HCJ:=eH hcj;clear hcj
      go_upto_if 71 with fail
      go_cut [12] (fun v wx=>v=.pointer (some ⟨bx,0,none⟩)∧Cx wx bx 0 (.int .i64 (jW l x).kind)∧Cx wx bx 1 (.int .i64 (jW l x).a)∧TI w2 w5 w2.heap.size wr.heap.size C.length A L l acc wx)
      case first =>
       obtain⟨q0,q1⟩:=hx0;obtain⟨r0,r1⟩:=hx1
       cases c with
       | true =>
        have hJ:=HCJ.out.1 rfl;obtain⟨ha0,ha1,_⟩:=hxj;have ha2:=ha1 hJ;obtain⟨m,hm⟩:∃m:Nat,x.a=m:=⟨x.a.toNat,by omega⟩
        have hml:m<C.length:=by omega
        have HTR:Hid (jW l x=⟨x.kind,qR l m⟩):=by unfold Hid jW;rw [if_pos hJ,hm];rfl
        rw [hm] at r0;obtain⟨t,hrt,htl2,hti⟩:=HTI.out.tt;obtain⟨d0,_,_⟩:=(hrt.ext HE6.out).at (k:=m) (by omega);rw [hti m hml] at d0;clear hJ ha0 ha1 ha2 hti
        go_wp2_with fail
        go_meet
        rw [HTR.out];exact⟨rfl,Cx.other ⟨q0,q1⟩ (.inr (by omega)) _,Cx.set ⟨r0,r1⟩ _,HTI.out.ext' (HE6.out.setCell (p:=⟨bx,1,none⟩) (by show wx0.heap.size≤bx;omega) _)⟩
       | false =>
        have hJ:¬(x.kind=9∨x.kind=10):=fun h=>by have:=HCJ.out.2 h;cases this
        have HTR:Hid (jW l x=x):=by unfold Hid jW;rw [if_neg hJ]
        clear hJ
        go_wp2_with fail
        go_meet
        rw [HTR.out];exact⟨rfl,⟨q0,q1⟩,⟨r0,r1⟩,HTI.out.ext' HE6.out⟩
      case rest =>
       obtain⟨rfl,hy0,hy1,hti2⟩:=hcut;clear hx0 hx1 HTI HE6 hxj hs6 HCJ;rename World=>w7
       have HT2:=eH hti2;have Y0:=eH hy0;have Y1:=eH hy1;clear hti2;generalize jW l x=y at *;have g0:=eC HT2.out.ext X0.out;obtain⟨q0,q1⟩:=hy0;obtain⟨r0,r1⟩:=hy1;obtain⟨⟨c0,c0'⟩,⟨c1,c1'⟩⟩:=(⟨HT2.out.c0,HT2.out.c1⟩:_∧_)
       obtain⟨vr,hcr,hrow⟩:=HT2.out.c2;have HC2:=eH hcr;obtain⟨c2,c2'⟩:=hcr;obtain⟨ar,capr,rfl,_,_⟩:=hrow.shape;have HROW:=eH hrow;clear X0;generalize l.getD k 0=hgt at *;by_cases h0:0≤hgt
       ·have T0:decide (0≤hgt)=true:=by simpa using h0
        have HACC2:=eH (HPUT.out h0);have HSZ7:Hid ((w7.alloc (.cells #[.int .i64 y.kind,.int .i64 y.a] 51)).heap.size=w7.heap.size+1):=Array.size_push _;have HSZ8:Hid (wr.heap.size+1≤w7.heap.size):=by unfold Hid;have:=HT2.out.size;omega
        have HB10:Hid (w2.heap.size≤wr.heap.size):=HB.out.size;have HG10:Hid (w2.heap.size<wr.heap.size):=HG1.out (by omega);clear h0 HSKIP HPUT hrow
        go_wp2_with (first
         | (at_builtin;refine zE rfl _ _ 47 rfl (wr.heap.size+1) 51 o0 (.agg #[.int .i64 0,.int .i64 0]) 2 16 Tryz.underlying47 ho0 hoz0 hoz1 hoz2 rfl (by decide) _ _ _ rfl (by exact HROW.out.ext ((eR _).alloc _) (by decide)) 1 (opF y) (src_op _ _ _) (by unfold maxLen;omega) (by omega) (by rw [HSZ7.out];exact Nat.le_succ_of_le HSZ8.out) ?_;intro v1 Wv1 rv1;obtain⟨a1,cap1,rfl,_,_⟩:=rv1.1.shape;have HG:=eH (HT2.out.grow HB10.out HG10.out ((eR _).alloc _) HC2.out HROW.out rv1);obtain⟨k20,k21⟩:=HG.out.2))
        go_roundw
        case rel=>exact⟨k+1,by omega,by go_num,acc++[y],by rw [List.append_assoc,List.singleton_append,←HACC2.out];exact HACC.out,by rw [List.length_append,List.length_singleton];omega,HG.out.1⟩
        case measure=>simp [intOf];omega
       ·have T0:decide (0≤hgt)=false:=by simpa using h0
        have HACC2:=eH (HSKIP.out h0);clear h0 HSKIP HPUT hrow
        go_wp2_with fail
        go_roundw
        case rel=>exact⟨k+1,by omega,by go_num,acc,by rw [←HACC2.out];exact HACC.out,by omega,HT2.out⟩
        case measure=>simp [intOf];omega
    ·obtain rfl:k=C.length:=by omega
     have hacc':acc=vE C l:=by have:=HACC.out;simpa [jE] using this
     subst hacc';obtain⟨⟨c0,c0'⟩,⟨c1,c1'⟩⟩:=(⟨HTI.out.c0,HTI.out.c1⟩:_∧_)
     obtain⟨vr,⟨c2,c2'⟩,hrow⟩:=HTI.out.c2;obtain⟨ar,capr,rfl,_,_⟩:=hrow.shape;have HROW:=eH hrow;obtain⟨d0,d0'⟩:=c40.ext HTI.out.ext;obtain⟨d1,d1'⟩:=c41.ext HTI.out.ext;obtain⟨d2,d2'⟩:=c42.ext HTI.out.ext;clear hlt HACC hrow
     go_wp2_with fail
     have e0:=(((Cx.set ⟨d0,d0'⟩ (.int .i64 A)).other (b':=w.heap.size) (j':=1) (.inr (by decide)) (.int .i64 L)).other (b':=w.heap.size) (j':=2) (.inr (by decide)) (.slice ar (vE C l).length capr)).1;have e1:=(((Cx.other ⟨d1,d1'⟩ (b':=w.heap.size) (j':=0) (.inr (by decide)) (.int .i64 A)).set (.int .i64 L)).other (b':=w.heap.size) (j':=2) (.inr (by decide)) (.slice ar (vE C l).length capr)).1;have e2:=(((Cx.other ⟨d2,d2'⟩ (b':=w.heap.size) (j':=0) (.inr (by decide)) (.int .i64 A)).other (b':=w.heap.size) (j':=1) (.inr (by decide)) (.int .i64 L)).set (.slice ar (vE C l).length capr)).1;refine bodyPost_ret (qG rfl _ _ w.heap.size 0 _ _ rfl (range3 e0 e1 e2) rfl rfl (by kernel_rfl)) rfl ⟨⟨_,rfl,_,rfl,iA,iL,?_⟩,?_⟩
     ·have hh:=HX.out.size;have hb2:=HBS.out;refine Ops.of_row (l:=vE C l) (RowAt.chg (M:=(·=w.heap.size)) HROW.out ?_ (fun g e hg=>?_) (by decide)) ?_ (zGw l (by omega) C l HOI.out) _ (fun b hb _=>?_)
      ·exact(((zO _ _ 0 _).trans (zO _ _ 1 _)).trans (zO _ _ 2 _))
      ·have h1:=HROW.out.le _ e;omega
      ·have:(vE C l).length≤C.length:=zDf l C l;omega
      ·show w.heap.size≤b;omega
     ·exact(((HX.out.trans HTI.out.ext).setCell (p:=⟨w.heap.size,0,none⟩) (Nat.le_refl _) _).setCell (p:=⟨w.heap.size,1,none⟩) (Nat.le_refl _) _).setCell (p:=⟨w.heap.size,2,none⟩) (Nat.le_refl _) _
end Go.Proofs.YtpcjkfppacnkgaaGreatDoor
