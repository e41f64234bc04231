/- Contracts and plain facts. -/
import Derived.Test.YtpcjkfppacnkgaaGreatDoorGPAK
import Derived.OrdersHeld
import Derived.StillTail
set_option maxHeartbeats 4000000
set_option maxRecDepth 100000
section
namespace Go.Proofs.YtpcjkfppacnkgaaGreatDoor
open Go Go.RowKit
theorem zAb (w:World):Calls Tryz.prog 44 #[] w fun e w'=>∃v,e=.returned v∧Strs w' (fun b=>w.heap.size≤b) v kC∧Ext w w':=by
 go_enter Tryz.func44,Tryz.ntmps44
 go_wp2_with fail
 go_ret;refine⟨_,rfl,⟨some ⟨w.heap.size,0,none⟩,17,rfl,by decide,by decide,fun i hi=>⟨w.heap.size,0,rfl,Nat.le_refl _,?_⟩⟩,(eR w).alloc _⟩;rw [World.cell?_alloc_new]
 match i,hi with
 | 0,_=>rfl
 | 1,_=>rfl
 | 2,_=>rfl
 | 3,_=>rfl
 | 4,_=>rfl
 | 5,_=>rfl
 | 6,_=>rfl
 | 7,_=>rfl
 | 8,_=>rfl
 | 9,_=>rfl
 | 10,_=>rfl
 | 11,_=>rfl
 | 12,_=>rfl
 | 13,_=>rfl
 | 14,_=>rfl
 | 15,_=>rfl
 | 16,_=>rfl
 | k+17,h=>exact absurd h (by simp [kC])
theorem hasA_any (k:Int) (w:World):Calls Tryz.prog 45 #[.int .i64 k] w fun e w'=>e=.returned (.bool (jG k))∧w'=w:=by
 obtain⟨r,hr⟩:∃r,jG k=r:=⟨_,rfl⟩
 rw [hr];have HR:=eH hr;clear hr;by_cases h:k∈([0,2,3,9,10,11,13]:List Int)
 ·simp only [List.mem_cons,List.not_mem_nil,or_false] at h;rcases h with rfl | rfl | rfl | rfl | rfl | rfl | rfl
  all_goals
   obtain rfl:r=true:=by rw [←HR.out];rfl
   go_enter Tryz.func45,Tryz.ntmps45
   go_wp2_with fail
   go_ret;exact⟨rfl,rfl⟩
 ·simp only [List.mem_cons,List.not_mem_nil,or_false,not_or] at h;obtain⟨h0,h2,h3,h4,h5,h6,h7⟩:=h;have T0:(k == 0)=false:=beq_eq_false_iff_ne.2 h0;have T2:(k == 2)=false:=beq_eq_false_iff_ne.2 h2;have T3:(k == 3)=false:=beq_eq_false_iff_ne.2 h3;have T4:(k == 9)=false:=beq_eq_false_iff_ne.2 h4;have T5:(k == 10)=false:=beq_eq_false_iff_ne.2 h5;have T6:(k == 11)=false:=beq_eq_false_iff_ne.2 h6;have T7:(k == 13)=false:=beq_eq_false_iff_ne.2 h7;obtain rfl:r=false:=by rw [←HR.out];unfold jG;rw [T0,T2,T3,T4,T5,T6,T7];rfl
  clear h0 h2 h3 h4 h5 h6 h7;go_enter Tryz.func45,Tryz.ntmps45
  go_wp2_with fail
  go_ret;exact⟨rfl,rfl⟩
end Go.Proofs.YtpcjkfppacnkgaaGreatDoor
end
section
namespace Go.Proofs.YtpcjkfppacnkgaaGreatDoor
open Go
section
variable {P:Program} {md:Region.Mode} {ops:Array Oper} {C:World→Prop}
def headQ (P:Program) (md:Region.Mode) (ops:Array Oper) (C:World→Prop) (n:Nat) (L:Array Bool→Act→Prop):Nat→Array Bool→Act→Prop
 | 0,listed,a=>L listed a
 | f+1,listed,a=>Region.ready md ops listed≠[]∧∀i∈Region.ready md ops listed,i<n∧qOp P ops C i (headQ P md ops C n L f (listed.setIfInBounds i true)) a
theorem zEt {n g:Nat} {L:Array Bool→Act→Prop} {Q':Exit→Act→World→Prop} (hL:∀listed a w,C w→L listed a→wpAny P md ops Q' g listed a w) :
  ∀(f:Nat) (listed:Array Bool) (a:Act) (w:World),C w→headQ P md ops C n L f listed a→wpAny P md ops Q' (f+g) listed a w
 | 0,listed,a,w,hw,h=>by rw [Nat.zero_add];exact hL _ _ _ hw h
 | f+1,listed,a,w,hw,h=>by
  rw [show f+1+g=(f+g)+1 by omega];exact⟨fun h0=>absurd h0 h.1,fun i hi=>wpOp_of_qOp hw (fun a' w' hw' h'=>zEt hL f _ a' w' hw' h') (h.2 i hi).2⟩
theorem headQ_first {n i:Nat} {oi:Oper} {v:Value} {L:Array Bool→Act→Prop} (hi:ops[i]?=some oi) (hsel:∀(j:Nat) (o:Oper) cs b,ops[j]?=some o→o.op≠.select cs b)
  (hs:Region.sinkB md ops n=true) (hc:Region.chainB md ops n=true) (hn:n<ops.size) (hin:i<n) (hdone:∀listed a,L listed a→∀j∈Region.ready md ops listed,n≤j) :
  ∀(f:Nat) (listed:Array Bool) (a:Act),HeadInv md ops n listed →
   (∀j oj,ops[j]?=some oj→j≠i→listed.getD j true=false→(∀e∈oj.after,Region.binds md e=true→e.on≠i)→oi.apart ops oj=true) →
   i∈Region.ready md ops listed→YieldsIn P ops C oi v a →
   headQ P md ops C n L f (listed.setIfInBounds i true) (a.put oi.dst v)→headQ P md ops C n L (f+1) listed a:=by
 intro f
 induction f with
 | zero =>
  intro listed a inv _ hr hy H;have hun:=(mem_ready.1 hr).1;refine⟨fun h=>(by rw [h] at hr;cases hr),fun j hj=>?_⟩;have hjn:j<n:=by
   rcases Nat.lt_or_ge j n with h | h
   ·exact h
   ·exact absurd hj (tail_waits hs hc hn inv _ i rfl hin hun j h)
  refine⟨hjn,?_⟩;by_cases hji:j=i
  ·subst hji;exact hy.qOp hi H
  ·have:=hdone _ _ H j (ready_mono hj hji);omega
 | succ f ih =>
  intro listed a inv hfree hr hy H;have hun:=(mem_ready.1 hr).1;refine⟨fun h=>(by rw [h] at hr;cases hr),fun j hj=>?_⟩;have hjn:j<n:=by
   rcases Nat.lt_or_ge j n with h | h
   ·exact h
   ·exact absurd hj (tail_waits hs hc hn inv _ i rfl hin hun j h)
  refine⟨hjn,?_⟩;by_cases hji:j=i
  ·subst hji;exact hy.qOp hi H
  ·have h1:=(H.2 j (ready_mono hj hji)).2;obtain⟨hjun,oj,hoj,hall⟩:=mem_ready.1 hj;have hnot:∀e∈oj.after,Region.binds md e=true→e.on≠i:=fun e he hb heq=>by
    have h1:=hall e he hb;rw [heq,getD_both hun] at h1
    cases h1
   have h2:=qOp_put hoj (hfree j oj hoj hji hjun hnot) (fun cs b=>hsel i oi cs b hi) (fun cs b=>hsel j oj cs b hoj) hy h1;have hfree':∀k ok,ops[k]?=some ok→k≠i→(listed.setIfInBounds j true).getD k true=false →
     (∀e∈ok.after,Region.binds md e=true→e.on≠i)→oi.apart ops ok=true:=fun k ok hk hki hun hno=>by
    refine hfree k ok hk hki ?_ hno;by_cases hjk:j=k
    ·subst hjk;exact hjun
    ·rw [getD_set_ne true hjk] at hun;exact hun
   refine qOp_mono (fun a' h3=>ih (listed.setIfInBounds j true) a' (inv.set hj hjn) hfree' (ready_mono hr (Ne.symm hji)) h3.1 ?_) h2;rw [Array.setIfInBounds_comm _ _ hji];exact h3.2
theorem headQ_lex {n g:Nat} {Lq:Act→Prop} (hsel:Region.noSelect ops=true) (hs:Region.sinkB md ops n=true) (hc:Region.chainB md ops n=true) (hn:n<ops.size) :
  ∀(l:List Oper) (k:Nat) (listed:Array Bool) (a:Act),(∀j,j<l.length→l[j]?=ops[k+j]?)→k+l.length=n→HeadInv md ops n listed →
  Region.lexHead md ops g l.length k listed=true→wpQuiet P ops C Lq l a →
  headQ P md ops C n (fun listed' a'=>Region.seqB md ops g n listed'=true∧Lq a') l.length listed a
 | [],k,listed,a,_,hk,_,hB,h=>by
  have:k=n:=by simpa using hk
  subst this;exact⟨by simpa [Region.lexHead] using hB,h⟩
 | o::l,k,listed,a,hl,hk,inv,hB,h=>by
  have h0:ops[k]?=some o:=by simpa using (hl 0 (by simp)).symm
  simp only [List.length_cons,Region.lexHead,Bool.and_eq_true] at hB;obtain⟨⟨hr,hf⟩,hB'⟩:=hB;have hkn:k<n:=by simp only [List.length_cons] at hk;omega
  have hr':k∈Region.ready md ops listed:=by simpa using hr
  have hst:qOp P ops C k (wpQuiet P ops C Lq l) a:=by unfold qOp;simp only [h0];exact h
  obtain⟨v,hy,hK⟩:=yieldsIn_of_qOp h0 hst;exact headQ_first h0 (Region.noSelect_spec hsel) hs hc hn hkn (fun listed' a' hL=>seqB_ready hL.1) l.length listed a inv (Region.free_spec h0 hf) hr' hy
   (headQ_lex hsel hs hc hn l (k+1) _ _ (fun j hj=>by have:=hl (j+1) (by simp;omega);simpa [Nat.add_assoc,Nat.add_comm 1 j] using this) (by simp only [List.length_cons] at hk;omega) (inv.set hr' hkn) hB' hK)
theorem kW {id:Nat} {Q:Exit→Act→World→Prop} {a:Act} {w:World} {l:List Oper} (n:Nat) (hm:P.follows .mixedOrders=true) (hB:Region.lexTailB .any l.toArray n=true)
  (h:wpQuiet P l.toArray (Ext w) (fun a'=>∀w',Ext w w'→wpList P l.toArray Q (l.drop n) a' w') (l.take n) a):(Code.region id l.toArray true).wp P Q a w:=by
 simp only [Region.lexTailB,Bool.and_eq_true,decide_eq_true_eq] at hB;obtain⟨⟨⟨⟨hsel,hn⟩,hs⟩,hc⟩,hlex⟩:=hB;have hn':n<l.length:=by simpa using hn
 have htl:(l.take n).length=n:=by simp;omega
 have hdl:(l.drop n).length=l.toArray.size - n:=by simp
 have inv0:HeadInv .any l.toArray n (Array.replicate l.toArray.size false) :=
  ⟨by simp,fun j oj _ hl=>(by rw [getD_replicate_false] at hl;cases hl),fun t _ ht=>getD_in (by simpa using ht) (getD_replicate_false _ _)⟩
 have H:=headQ_lex (md:=.any) (g:=l.toArray.size - n) hsel hs hc hn (l.take n) 0 _ a (fun j hj=>by
  have hj':j<n:=by rw [htl] at hj;exact hj
  simp [hj']) (by simpa using htl) inv0 (by rw [htl];exact hlex) h
 refine wp_region_any hm ?_;have:=zEt (Q':=Q) (g:=l.toArray.size - n) (fun listed a' w' hw' hL=>by
  have:=wpAny_of_seq (md:=.any) (Q':=Q) (l.drop n) n listed a' w' (fun j=>by simp [List.getElem?_drop]) (by rw [hdl];exact hL.1) (hL.2 w' hw')
  rwa [hdl] at this) _ _ _ _ (Ext.drew (eR w)) H
 rw [htl,show n+(l.toArray.size - n)=l.toArray.size by omega] at this;exact this
end
end Go.Proofs.YtpcjkfppacnkgaaGreatDoor
end
section
namespace Go.Proofs.YtpcjkfppacnkgaaGreatDoor
open Go
section
variable {P:Program} {md:Region.Mode} {ops:Array Oper} {Q:Exit→Act→World→Prop} {S:World→Prop} {z:Nat}
def jO (P:Program) (md:Region.Mode) (ops:Array Oper) (Q:Exit→Act→World→Prop) (S:World→Prop) (z:Nat):Nat→Array Bool→Act→World→Prop
 | 0,listed,a,w=>Region.ready md ops listed=[]∧Q .normal a w
 | fuel+1,listed,a,w =>
  (Region.ready md ops listed=[]→Q .normal a w) ∧
  ∀i∈Region.ready md ops listed,wpOp P ops Q i (fun a' w'=>(i=z∨S w')∧jO P md ops Q S z fuel (listed.setIfInBounds i true) a' w') a w
theorem jC:∀(fuel:Nat) (listed:Array Bool) (a:Act) (w:World),jO P md ops Q S z fuel listed a w→wpAny P md ops Q fuel listed a w
 | 0,_,_,_,h=>h
 | fuel+1,_,_,_,h=>⟨h.1,fun i hi=>wpOp_mono (fun a' w' h'=>jC fuel _ a' w' h'.2) (h.2 i hi)⟩
theorem zDd {i:Nat} {oi:Oper} {v:Value} (hz:Region.waitsFor md ops z i=true) (hi:ops[i]?=some oi) (hsel:∀(j:Nat) (o:Oper) cs b,ops[j]?=some o→o.op≠.select cs b)
  (hQ:∀c a w,Q (.panic c) (a.put oi.dst v) w→Q (.panic c) a w) :
  ∀(fuel:Nat) (listed:Array Bool) (a:Act) (w:World),listed.size=ops.size →
   (∀j oj,ops[j]?=some oj→j≠i→listed.getD j true=false→(∀e∈oj.after,Region.binds md e=true→e.on≠i)→oi.apart ops oj=true) →
   i∈Region.ready md ops listed→YieldsIf P ops S oi v a→S w →
   jO P md ops Q S z fuel (listed.setIfInBounds i true) (a.put oi.dst v) w→jO P md ops Q S z (fuel+1) listed a w:=by
 intro fuel
 induction fuel with
 | zero =>
  intro listed a w _ _ hr hy hS H;refine⟨fun h=>(by rw [h] at hr;cases hr),fun j hj=>?_⟩;by_cases hji:j=i
  ·subst hji;exact hy.wpOp hi hS ⟨.inr hS,H⟩
  ·have:=ready_mono hj hji;rw [H.1] at this
   cases this
 | succ fuel ih =>
  intro listed a w hsz hfree hr hy hS H;refine⟨fun h=>(by rw [h] at hr;cases hr),fun j hj=>?_⟩;by_cases hji:j=i
  ·subst hji;exact hy.wpOp hi hS ⟨.inr hS,H⟩
  ·have h1:=H.2 j (ready_mono hj hji);obtain⟨hjun,oj,hoj,hall⟩:=mem_ready.1 hj;have hnot:∀e∈oj.after,Region.binds md e=true→e.on≠i:=fun e he hb heq=>by
    have h1:=hall e he hb;have h0:=(mem_ready.1 hr).1;rw [heq] at h1;rcases Nat.lt_or_ge i listed.size with h' | h'
    ·simp [h'] at h0 h1;rw [h0] at h1;cases h1
    ·simp [Array.getElem?_eq_none h'] at h1
   have hjz:j≠z:=fun e=>by
    subst e;obtain⟨oz,hoz,e,he,hb,hon⟩:=Region.waitsFor_spec hz;rw [hoj] at hoz
    cases hoz
    exact hnot e he hb hon
   have h2:=wpOp_putIf hoj (hfree j oj hoj hji hjun hnot) (fun cs b=>hsel i oi cs b hi) (fun cs b=>hsel j oj cs b hoj) hQ hy h1;have hfree':∀k ok,ops[k]?=some ok→k≠i→(listed.setIfInBounds j true).getD k true=false →
     (∀e∈ok.after,Region.binds md e=true→e.on≠i)→oi.apart ops ok=true:=fun k ok hk hki hun hno=>by
    refine hfree k ok hk hki ?_ hno;by_cases hjk:j=k
    ·subst hjk;exact hjun
    ·rw [getD_set_ne true hjk] at hun;exact hun
   refine wpOp_mono (fun a' w' h3=>?_) h2;have h4:=h3.2.1.resolve_left hjz;exact⟨.inr h4,ih (listed.setIfInBounds j true) a' w' (by simpa using hsz) hfree' (ready_mono hr (Ne.symm hji)) h3.1 h4 (by rw [Array.setIfInBounds_comm _ _ hji];exact h3.2.2)⟩
def vT (P:Program) (ops:Array Oper) (S:World→Prop) (K:Act→Prop):List Oper→Act→Prop
 | [],a=>K a
 | o::l,a=>∃v,YieldsIf P ops S o v a∧vT P ops S K l (a.put o.dst v)
def vY (P:Program) (ops:Array Oper) (S:World→Prop) (Q:Exit→Act→World→Prop):List Oper→Act→World→Prop
 | [],a,w=>Q .normal a w
 | o::l,a,w=>if Region.wanted o (yielded ops a.tmps) then o.wp P a w (fun a' w'=>(l=[]∨S w')∧vY P ops S Q l a' w') Q∨(o.asks P a w∧LetsOut Q) else (l=[]∨S w)∧vY P ops S Q l (a.put o.dst undef) w
def zH (l:List Oper) (ord:List Nat):List Oper:=ord.filterMap (fun i=>l[i]?)
def zEz (md:Region.Mode) (ops:Array Oper) (z:Nat):List Nat→Array Bool→Bool
 | [],listed=>(Region.ready md ops listed).isEmpty
 | k::l,listed=>decide (Region.ready md ops listed=[k]) && decide (k<ops.size) && (decide (k=z) == l.isEmpty) && zEz md ops z l (listed.setIfInBounds k true)
def rtHead (md:Region.Mode) (ops:Array Oper) (z:Nat) (tl:List Nat):List Nat→Array Bool→Bool
 | [],listed=>zEz md ops z tl listed
 | k::l,listed=>(Region.ready md ops listed).contains k && Region.free md ops listed k && decide (k<ops.size) && Region.waitsFor md ops z k && rtHead md ops z tl l (listed.setIfInBounds k true)
def rtB (md:Region.Mode) (ops:Array Oper) (z:Nat) (rd tl:List Nat):Bool :=
 Region.noSelect ops && decide (rd.length+tl.length=ops.size) && rtHead md ops z tl rd (Array.replicate ops.size false)
theorem zCa {l:List Oper} (hl:ops=l.toArray):∀(tl:List Nat) (fuel:Nat) (listed:Array Bool) (a:Act) (w:World),tl.length=fuel→zEz md ops z tl listed=true→vY P ops S Q (zH l tl) a w→jO P md ops Q S z fuel listed a w
 | [],0,listed,a,w,_,hB,h=>⟨by simpa [zEz] using hB,h⟩
 | k::tl,fuel+1,listed,a,w,hf,hB,h=>by
  simp only [zEz,Bool.and_eq_true,decide_eq_true_eq] at hB;obtain⟨⟨⟨h1,h2⟩,h3⟩,h4⟩:=hB;obtain⟨o,ho⟩:∃o,l[k]?=some o:=⟨l[k]'(by subst hl;simpa using h2),by rw [List.getElem?_eq_getElem]⟩
  have ho':ops[k]?=some o:=by subst hl;simpa using ho
  have e:zH l (k::tl)=o::zH l tl:=by unfold zH;simp [ho]
  rw [e] at h;refine⟨fun h0=>(by rw [h1] at h0;cases h0),fun i hi=>?_⟩;rw [h1] at hi;obtain rfl:i=k:=by simpa using hi
  have hnil:zH l tl=[]→i=z:=fun h0=>by
   cases tl with
   | nil=>simpa using h3
   | cons j tl' =>
    exfalso;simp only [zEz,Bool.and_eq_true,decide_eq_true_eq] at h4;have hj:=h4.1.1.2;have:(zH l (j::tl'))≠[]:=by
     unfold zH;have hj':l[j]?=some (l[j]'(by subst hl;simpa using hj)):=List.getElem?_eq_getElem _;simp [hj']
    exact this h0
  have hw:wpOp P ops Q i (fun a' w'=>(zH l tl=[]∨S w')∧vY P ops S Q (zH l tl) a' w') a w:=by unfold wpOp;simp only [ho'];exact h
  exact wpOp_mono (fun a' w' h'=>⟨h'.1.imp hnil id,zCa hl tl fuel _ a' w' (by simpa using hf) h4 h'.2⟩) hw
theorem wpAnyW_head {l:List Oper} (hl:ops=l.toArray) (hsel:Region.noSelect ops=true)  (hQ:∀c a d v w,Q (.panic c) (Act.put a (some d) v) w→Q (.panic c) a w) {w:World} (hS:S w) (tl:List Nat) :
  ∀(rd:List Nat) (fuel:Nat) (listed:Array Bool) (a:Act),listed.size=ops.size→rd.length+tl.length=fuel→rtHead md ops z tl rd listed=true→vT P ops S (fun a'=>vY P ops S Q (zH l tl) a' w) (zH l rd) a→jO P md ops Q S z fuel listed a w
 | [],fuel,listed,a,hs,hf,hB,h=>zCa hl tl fuel listed a w (by simpa using hf) hB h
 | k::rd,fuel,listed,a,hs,hf,hB,h=>by
  simp only [rtHead,Bool.and_eq_true,decide_eq_true_eq] at hB;obtain⟨⟨⟨⟨h1,h2⟩,h3⟩,h4⟩,h5⟩:=hB;obtain⟨o,ho⟩:∃o,l[k]?=some o:=⟨l[k]'(by subst hl;simpa using h3),by rw [List.getElem?_eq_getElem]⟩
  have ho':ops[k]?=some o:=by subst hl;simpa using ho
  have e:zH l (k::rd)=o::zH l rd:=by unfold zH;simp [ho]
  rw [e] at h;obtain⟨v,hy,hK⟩:=h;obtain⟨f,rfl⟩:∃f,fuel=f+1:=⟨fuel - 1,by simp at hf;omega⟩
  exact zDd h4 ho' (Region.noSelect_spec hsel) (fun c a w h=>by cases hd:o.dst with | none=>rw [hd] at h;exact h | some d=>rw [hd] at h;exact hQ c _ _ _ w h) f listed a w hs (Region.free_spec ho' h2) (by simpa using h1) hy hS
   (wpAnyW_head hl hsel hQ hS tl rd f _ _ (by simpa using hs) (by simp at hf;omega) h5 hK)
theorem zX {id:Nat} {l:List Oper} {a:Act} {w:World} (S:World→Prop) (z:Nat) (rd tl:List Nat) (hm:P.follows .mixedOrders=true) (hB:rtB .any l.toArray z rd tl=true) (hQ:∀c a d v w,Q (.panic c) (Act.put a (some d) v) w→Q (.panic c) a w) (hS:S w.drew)
  (h:vT P l.toArray S (fun a'=>vY P l.toArray S Q (zH l tl) a' w.drew) (zH l rd) a):(Code.region id l.toArray true).wp P Q a w:=by
 simp only [rtB,Bool.and_eq_true,decide_eq_true_eq] at hB;obtain⟨⟨h1,h2⟩,h4⟩:=hB;refine wp_region_any hm (jC (S:=S) (z:=z) _ _ _ _ ?_);exact wpAnyW_head rfl h1 hQ hS tl rd _ _ a (by simp) h2 h4 h
theorem zN {o:Oper} {l:List Oper} {a:Act} {K:Act→Prop} (hw:Region.wanted o (yielded ops a.tmps)=true) (h:∃v,(∀w,S w→(execOp a.eval o).run P w=.ok (.value v) w)∧vT P ops S K l (a.put o.dst v)):vT P ops S K (o::l) a:=by
 obtain⟨v,h1,h2⟩:=h;exact⟨v,.inl ⟨hw,h1⟩,h2⟩
theorem zL {a:Act} {K:Act→Prop} (h:K a):vT P ops S K [] a:=h
theorem Oper.wp_exits {o:Oper} {a:Act} {w:World} {K:Act→World→Prop} {Q':Exit→Act→World→Prop} (hQ:∀c a w,Q' (.panic c) a w→Q (.panic c) a w) (hL:LetsOut Q'→LetsOut Q) (hh:o.wp P a w K Q'):o.wp P a w K Q:=by
 unfold Oper.wp at *;generalize (execOp a.eval o).run P w=r at *
 cases r with
 | ok n w' =>
  cases n<;>simp only [Oper.upon] at hh ⊢ <;>
   first
    | exact hh
    | exact Calls.mono hh (fun e w'' he=>by cases e<;>first | exact he | exact hQ _ _ _ he | exact hL he)
 | halt x w'=>cases x<;>simp only [Oper.upon] at hh ⊢<;>first | exact hh | exact hQ _ _ _ hh
def nextW (P:Program) (ops:Array Oper) (S:World→Prop) (Q:Exit→Act→World→Prop) (l:List Oper):Exit→Act→World→Prop
 | .normal,a,w=>(l=[]∨S w)∧vY P ops S Q l a w
 | e,a,w=>Q e a w
theorem zC {o:Oper} {l:List Oper} {a:Act} {w:World} (h:wpList P ops (nextW P ops S Q l) [o] a w):vY P ops S Q (o::l) a w:=by
 have hL:LetsOut (nextW P ops S Q l)→LetsOut Q:=fun ⟨a,w,h⟩=>⟨a,w,h⟩
 unfold vY;unfold wpList at h
 split at h
 ·rename_i hw
  rw [if_pos hw];refine h.imp (fun h1=>Oper.wp_exits (fun _ _ _ h=>h) hL h1) (fun h1=>⟨h1.1,hL h1.2⟩)
 ·rename_i hw
  rw [if_neg hw];exact h
theorem zD {l:List Oper} {a:Act} {w:World} (hS:S w) (h:vY P ops S Q l a w):nextW P ops S Q l .normal a w:=⟨.inr hS,h⟩
theorem zS {a:Act} {w:World} (h:Q .normal a w):nextW P ops S Q [] .normal a w:=⟨.inl rfl,h⟩
def rwHead (md:Region.Mode) (ops:Array Oper) (z:Nat):List Nat→Array Bool→Bool
 | [],_=>true
 | k::l,listed=>(Region.ready md ops listed).contains k && Region.free md ops listed k && decide (k<ops.size) && Region.waitsFor md ops z k && rwHead md ops z l (listed.setIfInBounds k true)
def rwB (md:Region.Mode) (ops:Array Oper) (z:Nat) (rd:List Nat) (f:Nat):Bool :=
 Region.noSelect ops && decide (rd.length+f=ops.size) && rwHead md ops z rd (Array.replicate ops.size false)
def listedOf (n:Nat) (rd:List Nat):Array Bool:=rd.foldl (fun l i=>l.setIfInBounds i true) (Array.replicate n false)
theorem zDb {l:List Oper} (hl:ops=l.toArray) (hsel:Region.noSelect ops=true) (hQ:∀c a d v w,Q (.panic c) (Act.put a (some d) v) w→Q (.panic c) a w) {w:World} (hS:S w) (f:Nat) :
  ∀(rd:List Nat) (listed:Array Bool) (a:Act),listed.size=ops.size→rwHead md ops z rd listed=true →
   vT P ops S (fun a'=>jO P md ops Q S z f (rd.foldl (fun l i=>l.setIfInBounds i true) listed) a' w) (zH l rd) a→jO P md ops Q S z (rd.length+f) listed a w
 | [],listed,a,hs,hB,h=>by
  rw [List.length_nil,Nat.zero_add];exact h
 | k::rd,listed,a,hs,hB,h=>by
  simp only [rwHead,Bool.and_eq_true,decide_eq_true_eq] at hB;obtain⟨⟨⟨⟨h1,h2⟩,h3⟩,h4⟩,h5⟩:=hB;obtain⟨o,ho⟩:∃o,l[k]?=some o:=⟨l[k]'(by subst hl;simpa using h3),by rw [List.getElem?_eq_getElem]⟩
  have ho':ops[k]?=some o:=by subst hl;simpa using ho
  have e:zH l (k::rd)=o::zH l rd:=by unfold zH;simp [ho]
  rw [e] at h;obtain⟨v,hy,hK⟩:=h;rw [List.length_cons,show rd.length+1+f=(rd.length+f)+1 by omega];exact zDd h4 ho' (Region.noSelect_spec hsel) (fun c a w h=>by cases hd:o.dst with | none=>rw [hd] at h;exact h | some d=>rw [hd] at h;exact hQ c _ _ _ w h) _ listed a w hs (Region.free_spec ho' h2) (by simpa using h1) hy hS
   (zDb hl hsel hQ hS f rd _ _ (by simpa using hs) h5 hK)
theorem yW {id:Nat} {l:List Oper} {a:Act} {w:World} (S:World→Prop) (z:Nat) (rd:List Nat) (f:Nat) (hm:P.follows .mixedOrders=true) (hB:rwB .any l.toArray z rd f=true) (hQ:∀c a d v w,Q (.panic c) (Act.put a (some d) v) w→Q (.panic c) a w) (hS:S w.drew)
  (h:vT P l.toArray S (fun a'=>jO P .any l.toArray Q S z f (listedOf l.toArray.size rd) a' w.drew) (zH l rd) a):(Code.region id l.toArray true).wp P Q a w:=by
 simp only [rwB,Bool.and_eq_true,decide_eq_true_eq] at hB;obtain⟨⟨h1,h2⟩,h4⟩:=hB;refine wp_region_any hm (jC (S:=S) (z:=z) _ _ _ _ ?_);have h5:=zDb rfl h1 hQ hS f rd (Array.replicate l.toArray.size false) a (by simp) h4 h
 rwa [h2] at h5
def nextA (P:Program) (md:Region.Mode) (ops:Array Oper) (Q:Exit→Act→World→Prop) (S:World→Prop) (z f:Nat) (listed:Array Bool) (i:Nat):Exit→Act→World→Prop
 | .normal,a,w=>(i=z∨S w)∧jO P md ops Q S z f (listed.setIfInBounds i true) a w
 | e,a,w=>Q e a w
theorem zGr {f i:Nat} {listed:Array Bool} {o:Oper} {a:Act} {w:World} (ho:ops[i]?=some o) (h:wpList P ops (nextA P md ops Q S z f listed i) [o] a w) :
  wpOp P ops Q i (fun a' w'=>(i=z∨S w')∧jO P md ops Q S z f (listed.setIfInBounds i true) a' w') a w:=by
 have hL:LetsOut (nextA P md ops Q S z f listed i)→LetsOut Q:=fun ⟨a,w,h⟩=>⟨a,w,h⟩
 unfold wpOp;unfold wpList at h;simp only [ho]
 split at h
 ·rename_i hw
  rw [if_pos hw];exact h.imp (fun h1=>Oper.wp_exits (fun _ _ _ h=>h) hL h1) (fun h1=>⟨h1.1,hL h1.2⟩)
 ·rename_i hw
  rw [if_neg hw];exact h
theorem zG {f:Nat} {listed:Array Bool} {a:Act} {w:World} (i:Nat) {o:Oper} (hr:Region.ready md ops listed=[i]) (ho:ops[i]?=some o) (h:wpList P ops (nextA P md ops Q S z f listed i) [o] a w):jO P md ops Q S z (f+1) listed a w:=by
 refine⟨fun h0=>(by rw [hr] at h0;cases h0),fun j hj=>?_⟩;rw [hr] at hj;obtain rfl:j=i:=by simpa using hj
 exact zGr ho h
theorem yB {f:Nat} {listed:Array Bool} {a:Act} {w:World} (i k:Nat) {o o':Oper} (hr:Region.ready md ops listed=[i,k]) (ho:ops[i]?=some o) (ho':ops[k]?=some o')
  (h:wpList P ops (nextA P md ops Q S z f listed i) [o] a w) (h':wpList P ops (nextA P md ops Q S z f listed k) [o'] a w):jO P md ops Q S z (f+1) listed a w:=by
 refine⟨fun h0=>(by rw [hr] at h0;cases h0),fun j hj=>?_⟩;rw [hr] at hj;simp only [List.mem_cons,List.not_mem_nil,or_false] at hj;rcases hj with rfl | rfl
 ·exact zGr ho h
 ·exact zGr ho' h'
theorem zJ {f i:Nat} {listed:Array Bool} {a:Act} {w:World} (hS:S w) (h:jO P md ops Q S z f (listed.setIfInBounds i true) a w):nextA P md ops Q S z f listed i .normal a w:=⟨.inr hS,h⟩
theorem qM {i:Nat} {listed:Array Bool} {a:Act} {w:World} (hi:i=z) (hr:(Region.ready md ops (listed.setIfInBounds i true)).isEmpty=true) (h:Q .normal a w):nextA P md ops Q S z 0 listed i .normal a w:=⟨.inl hi,by simpa using hr,h⟩
theorem kE {f:Nat} {listed:Array Bool} {a:Act} {w:World} (i:Nat) {o:Oper} (hsel:Region.noSelect ops=true) (hsz:listed.size=ops.size) (hr:(Region.ready md ops listed).contains i=true) (hf:Region.free md ops listed i=true) (hz:Region.waitsFor md ops z i=true)
  (hQ:∀c a d v w,Q (.panic c) (Act.put a (some d) v) w→Q (.panic c) a w) (ho:ops[i]?=some o) (hw:Region.wanted o (yielded ops a.tmps)=true) (hS:S w)
  (h:∃v,(∀w,S w→(execOp a.eval o).run P w=.ok (.value v) w)∧jO P md ops Q S z f (listed.setIfInBounds i true) (a.put o.dst v) w):jO P md ops Q S z (f+1) listed a w:=by
 obtain⟨v,h1,h2⟩:=h;exact zDd hz ho (Region.noSelect_spec hsel) (fun c a w h=>by cases hd:o.dst with | none=>rw [hd] at h;exact h | some d=>rw [hd] at h;exact hQ c _ _ _ w h) f listed a w hsz (Region.free_spec ho hf) (by simpa using hr) (.inl ⟨hw,h1⟩) hS h2
end
end Go.Proofs.YtpcjkfppacnkgaaGreatDoor
end
section
namespace Go.Proofs.YtpcjkfppacnkgaaGreatDoor
open Go Go.RowKit
theorem zHm (l r:List GFunc):qZ (l++r)=qZ l++qZ r:=by unfold qZ jI;simp
theorem textP_one (y:GFunc):qZ [y]=vH y++10::(y.code.flatMap fun x=>opW x++[10]):=by
 unfold qZ jI;simp [List.flatMap_map]
def preT (p:List GFunc) (y:GFunc) (f k:Nat):By:=qZ (p.take f)++(vH y++10::((y.code.take k).flatMap fun x=>opW x++[10]))
theorem preT_zero (p:List GFunc) (y:GFunc) (f:Nat):preT p y f 0=qZ (p.take f)++(vH y++[10]):=by unfold preT;simp
theorem preT_step (p:List GFunc) (y:GFunc) (f:Nat) {k:Nat} (h:k<y.code.length):preT p y f (k+1)=preT p y f k++(opW y.code[k]++[10]):=by
 unfold preT;rw [List.take_succ_eq_append_getElem h,List.flatMap_append];simp
theorem preT_end (p:List GFunc) {f:Nat} (h:f<p.length):preT p p[f] f p[f].code.length=qZ (p.take (f+1)):=by
 rw [List.take_succ_eq_append_getElem h,zHm,textP_one];unfold preT;rw [List.take_length]
theorem take_len {p:List GFunc} (h:zZ p=0) (f:Nat):(qZ (p.take f)).length≤8192:=by
 have:=textP_len h;have e:qZ p=qZ (p.take f)++qZ (p.drop f):=by rw [←zHm,List.take_append_drop]
 rw [e,List.length_append] at this;omega
theorem preT_len {p:List GFunc} (h:zZ p=0) {f:Nat} (hf:f<p.length) (k:Nat):(preT p p[f] f k).length≤8192:=by
 have:=take_len h (f+1);rw [←preT_end p hf] at this;have e:(p[f].code.flatMap fun x=>opW x++[10])=((p[f].code.take k).flatMap fun x=>opW x++[10])++((p[f].code.drop k).flatMap fun x=>opW x++[10]):=by
  rw [←List.flatMap_append,List.take_append_drop]
 unfold preT at this ⊢;rw [List.take_length,e] at this;simp only [List.length_append,List.length_cons] at this ⊢;omega
theorem zDh {w:World} {S:Nat→Prop} {v:Value} {l:List By} (h:Strs w S v l) {i:Nat} (hi:i<l.length):∃b o cap,v=.slice (some ⟨b,o,none⟩) l.length cap∧S b∧w.cell? ⟨b,o+i,none⟩=some (txtV l[i]):=by
 obtain⟨b,o,cap,rfl,_,_,hS,hc⟩:=Sl.get h hi;exact⟨b,o,cap,rfl,hS,by rw [←hc,Nat.mul_one]⟩
def cat (l m:By):By:=l++m
theorem zAo (l m:By):(cat l m).length=l.length+m.length:=List.length_append
theorem jS (l m:List UInt8):(⟨l.toArray⟩:ByteArray)++(⟨m.toArray⟩:ByteArray)=⟨(cat l m).toArray⟩:=cat_bytes l m
theorem progText_any (p:List GFunc) (v:Value) (S:Nat→Prop) (w:World) (hp:zM w S v p) (hz:zZ p=0) :
    Calls Tryz.prog 15 #[v] w fun e w'=>e=.returned (txtV (qZ p))∧Ext w w':=by
  have HP:=eH hp;have HZ:=eH hz;have h5:=(kH hz).most;have hcat:=jS;have hlen:=zAo;clear hz;obtain⟨a,cap,rfl,hcap,hby,_⟩:=hp;go_enter Tryz.func15,Tryz.ntmps15
  go_wp2_with fail
  go_loopw [3,4] (fun q3 q4 wr=>∃k:Nat,k≤p.length∧q4=.int .i64 k∧q3=.string ⟨(qZ (p.take k)).toArray⟩∧Ext w wr) (fun _ q _=>p.length - (intOf q).toNat)
  case atStart=>exact⟨0,Nat.zero_le _,rfl,rfl,eR _⟩
  case round =>
    obtain⟨k,hk,rfl,rfl,hb⟩:=hrel;have HB:=eH hb;clear hb;have hsl:=take_len HZ.out k;by_cases hlt:k<p.length
    · obtain⟨s,hs⟩:∃s,qZ (p.take k)=s:=⟨_,rfl⟩
      rw [hs] at hsl;have HS:=eH hs;obtain⟨⟨ra0,ra1,rl0,rl1⟩,hcl,hop⟩:=jX HZ.out _ (List.getElem_mem hlt);obtain⟨bP,oP,capP,e0,_,_,⟨_,x0,_⟩,⟨_,x1,_⟩,vc,x2,hops⟩:=(zM.stays (Ext.stays HB.out) HP.out).get hlt;simp only [Value.slice.injEq] at e0;obtain⟨rfl,-,rfl⟩:=e0;obtain⟨da,hda⟩:∃da,Lib.itoa p[k].args=da:=⟨_,rfl⟩
      obtain⟨dl,hdl⟩:∃dl,Lib.itoa p[k].locals=dl:=⟨_,rfl⟩
      have la:=zCy ra0 (by omega);have ll:=zCy rl0 (by omega);have HDA:=eH hda;have HDL:=eH hdl;rw [hda] at la;rw [hdl] at ll;rw [hs];have i0:I64 p[k].args:=by unfold I64;omega
      have i1:I64 p[k].locals:=by unfold I64;omega
      have HH:Hid (vH p[k]=zBc++32::(da++32::dl)):=by unfold Hid vH;rw [HDA.out,HDL.out]
      generalize p[k].args=A at *;generalize p[k].locals=L at *;have HOPS:=eH hops;have HOP:=eH hop;clear hs hda hdl hops hop ra0 ra1 rl0 rl1;obtain⟨ac,capc,rfl,hcapc,hbyc,_⟩:=HOPS.out
      go_upto_region 5 with fail
      have n1:¬9223372036854775807<s.length+5:=by omega
      have n2:¬9223372036854775807<s.length+5+da.length:=by omega
      have n3:¬9223372036854775807<s.length+5+da.length+1:=by omega
      have n4:¬9223372036854775807<s.length+5+da.length+1+dl.length:=by omega
      have n5:¬9223372036854775807<s.length+5+da.length+1+dl.length+1:=by omega
      refine kB (by kernel_rfl) (by kernel_rfl) ?_
      repeat (first
        | go_big_quiet_skip
        | (go_big_quiet_want
           unfold Oper.quiet;apply Exists.intro;refine⟨fun w' hw'=>?_,?_⟩
           focus
             have hcq:=Ext.keep hw';go_simp
             first
               | with_reducible rfl
               | (go_at_call 13;first | ((with_reducible refine(jF _ _ i0).mono ?_);rintro e w4 ⟨rfl,hx4⟩;rw [HDA.out];exact⟨rfl,hw'.trans hx4⟩) | ((with_reducible refine(jF _ _ i1).mono ?_);rintro e w4 ⟨rfl,hx4⟩;rw [HDL.out];exact⟨rfl,hw'.trans hx4⟩))
           (try dsimp only [Act.put])
           (try simp only [xL,xM,xN])
           go_big_quiet_on))
      refine wpQuiet_nil ?_;intro wq hq;have HT:Hid (cat (cat (cat (cat (cat s [102,117,110,99,32]) da) [32]) dl) [10]=preT p p[k] k 0):=by
        unfold Hid;rw [preT_zero,HH.out,HS.out];simp [cat,zBc]
      rw [HT.out];clear n1 n2 n3 n4 n5 HT HH HS HDA HDL la ll hsl x0 x1 i0 i1;have HB:=eH (HB.out.trans hq);have x2':=eC hq x2;have HOPS:=eH (Ops.stays (Ext.stays hq) HOPS.out);clear hq x2;rename World=>wa
      go_wp2_with fail
      go_loopw [3,5] (fun q3 q5 wr=>∃j:Nat,j≤p[k].code.length∧q5=.int .i64 j∧q3=.string ⟨(preT p p[k] k j).toArray⟩∧Ext wa wr) (fun _ q _=>p[k].code.length - (intOf q).toNat)
      case atStart=>exact⟨0,Nat.zero_le _,rfl,rfl,eR _⟩
      case round =>
        obtain⟨j,hj,rfl,rfl,hb⟩:=hrel;have x2'':=eC hb x2';have HB2:=eH (HB.out.trans hb);have HBa:=eH hb;clear hb x2';have hsl:=preT_len HZ.out hlt j;by_cases hjt:j<p[k].code.length
        · obtain⟨s,hs⟩:∃s,preT p p[k] k j=s:=⟨_,rfl⟩
          rw [hs] at hsl;have HS:=eH hs;rw [hs];obtain⟨⟨k0,k1⟩,⟨a0,a1⟩,_⟩:=HOP.out _ (List.getElem_mem hjt);obtain⟨bc,oc,capc',e0,_,_,⟨_,x3,_⟩,⟨_,x4,_⟩⟩:=(Ops.stays (Ext.stays HBa.out) HOPS.out).get hjt;simp only [Value.slice.injEq] at e0;obtain⟨rfl,-,rfl⟩:=e0;have HX:Hid (preT p p[k] k (j+1)=s++(yR p[k].code[j].kind++(if jG p[k].code[j].kind then 32::Lib.itoa p[k].code[j].a else [])++[10])):=by
            unfold Hid;rw [preT_step _ _ _ hjt,hs];rfl
          generalize p[k].code[j].kind=K at *;generalize p[k].code[j].a=A at *;obtain⟨m,rfl⟩:∃m:Nat,K=m:=⟨K.toNat,by omega⟩
          have hK:m<kC.length:=by show m<17;omega
          have HNX:Hid (kC[m]=yR (m:Int)):=by unfold Hid yR;simp [List.getD,List.getElem?_eq_getElem hK]
          obtain⟨nm,hnm⟩:∃nm,yR (m:Int)=nm:=⟨_,rfl⟩
          have ln:=zDp _ (uD k0 k1);have la:=zCy a0 (by omega);have iA:I64 A:=by unfold I64;omega
          obtain⟨da,hda⟩:∃da,Lib.itoa A=da:=⟨_,rfl⟩
          have HNM:=eH hnm;have HDA:=eH hda;rw [hnm] at ln HX HNX;rw [hda] at la HX;clear hs hnm hda k0 k1 a0 a1
          go_upto_region 10 with fail
          rename World=>wb
          have y0:=(Cx.new wb [.int .i64 m,.int .i64 A] 51 (j:=0) rfl).1;have y1:=(Cx.new wb [.int .i64 m,.int .i64 A] 51 (j:=1) rfl).1;have HBN:=eH ((eR wb).alloc (.cells #[.int .i64 m,.int .i64 A] 51));generalize wb.heap.size=sx at *;generalize wb.alloc (.cells #[.int .i64 m,.int .i64 A] 51)=wc at *;clear x3 x4;refine zX (fun w'=>w'.cell? ⟨sx,0,none⟩=some (.int .i64 (m:Int))) 7 [0,2,3] [1,4,5,6,7] (by kernel_rfl) (by kernel_rfl) (fun _ _ _ _ _ h=>h) (by exact y0) ?_
          (try simp only [zH,List.filterMap_cons,List.filterMap_nil,xO,xP])
          repeat (
            refine zN (by rfl) ?_;apply Exists.intro;refine⟨fun w' hw'=>?_,?_⟩
            focus
              (try dsimp only at hw')
              go_split_ands;go_simp
              (try with_reducible rfl)
            (try dsimp only [Act.put])
            (try simp only [xL,xM,xN]))
          refine zL ?_;refine zC ?_
          go_wp2_with (first
            | (go_at_call 44;refine(zAb _).mono ?_;rintro e w1 ⟨v,rfl,hv,hb1⟩;obtain⟨bn,on,cn,rfl,_,xn⟩:=zDh hv hK;rw [HNX.out] at xn;replace xn:w1.cell? ⟨bn,on+m,none⟩=some (.string ⟨nm.toArray⟩):=xn))
          have y0:=eC hb1 y0;have y1:=eC hb1 y1;refine zD (by exact y0) ?_;refine zC ?_
          go_wp2_with fail
          refine zD (by exact y0) ?_;refine zC ?_
          go_wp2_with fail
          refine zD (by exact y0) ?_;have n1:¬9223372036854775807<s.length+nm.length:=by omega
          refine zC ?_
          go_wp2_with fail
          refine zD (by exact y0) ?_;refine zC ?_
          go_wp2_with fail
          refine zS ?_;have HBE:=eH ((Ext.drew HBN.out).trans hb1);clear hb1 HBN xn hv;rename World=>wd
          cases htb:jG (m:Int) with
          | false =>
            have HTB:=eH htb;rw [htb,if_neg (by decide),List.append_nil] at HX;clear htb;have n2:¬9223372036854775807<s.length+nm.length+1:=by omega
            go_wp2_with (first
              | (go_at_call 45;refine(hasA_any _ _).mono ?_;rintro e w2 ⟨rfl,rfl⟩;rw [HTB.out]))
            go_roundw
            case rel=>exact⟨j+1,by omega,by go_num,by rw [HX.out];simp [cat],HBa.out.trans HBE.out⟩
            case measure=>simp [intOf];omega
          | true =>
            have HTB:=eH htb;rw [htb,if_pos rfl] at HX;clear htb;have n2:¬9223372036854775807<s.length+nm.length+1:=by omega
            have n3:¬9223372036854775807<s.length+nm.length+1+da.length:=by omega
            have n4:¬9223372036854775807<s.length+nm.length+1+da.length+1:=by omega
            go_wp2_with (first
              | (go_at_call 45;refine(hasA_any _ _).mono ?_;rintro e w2 ⟨rfl,rfl⟩;rw [HTB.out])
              | (go_at_call 13;(with_reducible refine(jF _ _ iA).mono ?_);rintro e w4 ⟨rfl,hx4⟩;rw [HDA.out]))
            go_roundw
            case rel=>exact⟨j+1,by omega,by go_num,by rw [HX.out];simp [cat],(HBa.out.trans HBE.out).trans hx4⟩
            case measure=>simp [intOf];omega
        · obtain rfl:j=p[k].code.length:=by omega
          rw [preT_end p hlt];clear hjt hsl
          go_wp2_with fail
          go_roundw
          case rel=>exact⟨k+1,by omega,by go_num,rfl,HB2.out⟩
          case measure=>simp [intOf];omega
    · obtain rfl:k=p.length:=by omega
      rw [List.take_length];clear hlt hsl
      go_wp2_with fail
      go_ret;exact⟨rfl,HB.out⟩
end Go.Proofs.YtpcjkfppacnkgaaGreatDoor
end
