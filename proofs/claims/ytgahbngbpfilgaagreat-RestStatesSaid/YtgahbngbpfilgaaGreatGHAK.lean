/- Merged texts: contracts and plain facts, one part behind another; each part begins with what it says. -/
import Derived.Test.YtgahbngbpfilgaaGreatGHAA
import Derived.Test.YtgahbngbpfilgaaGreatGHAE
import Derived.Test.YtgahbngbpfilgaaGreatGHAJ
import Derived.OrdersHeld
import Derived.StillTail
section
set_option maxHeartbeats 400000
namespace Go.Proofs.YtgahbngbpfilgaaGreat
open Go
section
variable {P : Program} {md : Region.Mode} {ops : Array Oper} {C : World → Prop}
def headQ (P : Program) (md : Region.Mode) (ops : Array Oper) (C : World → Prop) (n : Nat) (L : Array Bool → Act → Prop) : Nat → Array Bool → Act → Prop
 | 0, listed, a => L listed a
 | f + 1, listed, a => Region.ready md ops listed ≠ [] ∧ ∀ i ∈ Region.ready md ops listed, i < n ∧ qOp P ops C i (headQ P md ops C n L f (listed.setIfInBounds i true)) a
theorem wpAny_of_headQ {n g : Nat} {L : Array Bool → Act → Prop} {Q' : Exit → Act → World → Prop} (hL : ∀ listed a w, C w → L listed a → wpAny P md ops Q' g listed a w) :
  ∀ (f : Nat) (listed : Array Bool) (a : Act) (w : World), C w → headQ P md ops C n L f listed a → wpAny P md ops Q' (f + g) listed a w
 | 0, listed, a, w, hw, h => by rw [Nat.zero_add]; exact hL _ _ _ hw h
 | f + 1, listed, a, w, hw, h => by
  rw [show f + 1 + g = (f + g) + 1 by omega]
  exact ⟨fun h0 => absurd h0 h.1, fun i hi => wpOp_of_qOp hw (fun a' w' hw' h' => wpAny_of_headQ hL f _ a' w' hw' h') (h.2 i hi).2⟩
theorem headQ_first {n i : Nat} {oi : Oper} {v : Value} {L : Array Bool → Act → Prop} (hi : ops[i]? = some oi) (hsel : ∀ (j : Nat) (o : Oper) cs b, ops[j]? = some o → o.op ≠ .select cs b)
  (hs : Region.sinkB md ops n = true) (hc : Region.chainB md ops n = true) (hn : n < ops.size) (hin : i < n) (hdone : ∀ listed a, L listed a → ∀ j ∈ Region.ready md ops listed, n ≤ j) :
  ∀ (f : Nat) (listed : Array Bool) (a : Act), HeadInv md ops n listed →
   (∀ j oj, ops[j]? = some oj → j ≠ i → listed.getD j true = false → (∀ e ∈ oj.after, Region.binds md e = true → e.on ≠ i) → oi.apart ops oj = true) →
   i ∈ Region.ready md ops listed → YieldsIn P ops C oi v a →
   headQ P md ops C n L f (listed.setIfInBounds i true) (a.put oi.dst v) → headQ P md ops C n L (f + 1) listed a := by
 intro f
 induction f with
 | zero =>
  intro listed a inv _ hr hy H
  have hun := (mem_ready.1 hr).1
  refine ⟨fun h => (by rw [h] at hr; cases hr), fun j hj => ?_⟩
  have hjn : j < n := by
   rcases Nat.lt_or_ge j n with h | h
   ·exact h
   ·exact absurd hj (tail_waits hs hc hn inv _ i rfl hin hun j h)
  refine ⟨hjn, ?_⟩
  by_cases hji : j = i
  ·subst hji; exact hy.qOp hi H
  ·have := hdone _ _ H j (ready_mono hj hji)
   omega
 | succ f ih =>
  intro listed a inv hfree hr hy H
  have hun := (mem_ready.1 hr).1
  refine ⟨fun h => (by rw [h] at hr; cases hr), fun j hj => ?_⟩
  have hjn : j < n := by
   rcases Nat.lt_or_ge j n with h | h
   ·exact h
   ·exact absurd hj (tail_waits hs hc hn inv _ i rfl hin hun j h)
  refine ⟨hjn, ?_⟩
  by_cases hji : j = i
  ·subst hji; exact hy.qOp hi H
  ·have h1 := (H.2 j (ready_mono hj hji)).2
   obtain ⟨hjun, oj, hoj, hall⟩ := mem_ready.1 hj
   have hnot : ∀ e ∈ oj.after, Region.binds md e = true → e.on ≠ i := fun e he hb heq => by
    have h1 := hall e he hb
    rw [heq, getD_both hun] at h1
    cases h1
   have h2 := qOp_put hoj (hfree j oj hoj hji hjun hnot) (fun cs b => hsel i oi cs b hi) (fun cs b => hsel j oj cs b hoj) hy h1
   have hfree' : ∀ k ok, ops[k]? = some ok → k ≠ i → (listed.setIfInBounds j true).getD k true = false →
     (∀ e ∈ ok.after, Region.binds md e = true → e.on ≠ i) → oi.apart ops ok = true := fun k ok hk hki hun hno => by
    refine hfree k ok hk hki ?_ hno
    by_cases hjk : j = k
    ·subst hjk; exact hjun
    ·rw [getD_set_ne true hjk] at hun; exact hun
   refine qOp_mono (fun a' h3 => ih (listed.setIfInBounds j true) a' (inv.set hj hjn) hfree' (ready_mono hr (Ne.symm hji)) h3.1 ?_) h2
   rw [Array.setIfInBounds_comm _ _ hji]
   exact h3.2
theorem headQ_lex {n g : Nat} {Lq : Act → Prop} (hsel : Region.noSelect ops = true) (hs : Region.sinkB md ops n = true) (hc : Region.chainB md ops n = true) (hn : n < ops.size) :
  ∀ (l : List Oper) (k : Nat) (listed : Array Bool) (a : Act), (∀ j, j < l.length → l[j]? = ops[k + j]?) → k + l.length = n → HeadInv md ops n listed →
  Region.lexHead md ops g l.length k listed = true → wpQuiet P ops C Lq l a →
  headQ P md ops C n (fun listed' a' => Region.seqB md ops g n listed' = true ∧ Lq a') l.length listed a
 | [], k, listed, a, _, hk, _, hB, h => by
  have : k = n := by simpa using hk
  subst this
  exact ⟨by simpa [Region.lexHead] using hB, h⟩
 | o :: l, k, listed, a, hl, hk, inv, hB, h => by
  have h0 : ops[k]? = some o := by simpa using (hl 0 (by simp)).symm
  simp only [List.length_cons, Region.lexHead, Bool.and_eq_true] at hB
  obtain ⟨⟨hr, hf⟩, hB'⟩ := hB
  have hkn : k < n := by simp only [List.length_cons] at hk; omega
  have hr' : k ∈ Region.ready md ops listed := by simpa using hr
  have hst : qOp P ops C k (wpQuiet P ops C Lq l) a := by unfold qOp; simp only [h0]; exact h
  obtain ⟨v, hy, hK⟩ := yieldsIn_of_qOp h0 hst
  exact headQ_first h0 (Region.noSelect_spec hsel) hs hc hn hkn (fun listed' a' hL => seqB_ready hL.1) l.length listed a inv (Region.free_spec h0 hf) hr' hy
   (headQ_lex hsel hs hc hn l (k + 1) _ _ (fun j hj => by have := hl (j + 1) (by simp; omega); simpa [Nat.add_assoc, Nat.add_comm 1 j] using this) (by simp only [List.length_cons] at hk; omega) (inv.set hr' hkn) hB' hK)
theorem wp_region_ext_tail {id : Nat} {Q : Exit → Act → World → Prop} {a : Act} {w : World} {l : List Oper} (n : Nat) (hm : P.follows .mixedOrders = true) (hB : Region.lexTailB .any l.toArray n = true)
  (h : wpQuiet P l.toArray (Ext w) (fun a' => ∀ w', Ext w w' → wpList P l.toArray Q (l.drop n) a' w') (l.take n) a) : (Code.region id l.toArray true).wp P Q a w := by
 simp only [Region.lexTailB, Bool.and_eq_true, decide_eq_true_eq] at hB
 obtain ⟨⟨⟨⟨hsel, hn⟩, hs⟩, hc⟩, hlex⟩ := hB
 have hn' : n < l.length := by simpa using hn
 have htl : (l.take n).length = n := by simp; omega
 have hdl : (l.drop n).length = l.toArray.size - n := by simp
 have inv0 : HeadInv .any l.toArray n (Array.replicate l.toArray.size false) :=
  ⟨by simp, fun j oj _ hl => (by rw [getD_replicate_false] at hl; cases hl), fun t _ ht => getD_in (by simpa using ht) (getD_replicate_false _ _)⟩
 have H := headQ_lex (md := .any) (g := l.toArray.size - n) hsel hs hc hn (l.take n) 0 _ a (fun j hj => by
  have hj' : j < n := by rw [htl] at hj; exact hj
  simp [hj']) (by simpa using htl) inv0 (by rw [htl]; exact hlex) h
 refine wp_region_any hm ?_
 have := wpAny_of_headQ (Q' := Q) (g := l.toArray.size - n) (fun listed a' w' hw' hL => by
  have := wpAny_of_seq (md := .any) (Q' := Q) (l.drop n) n listed a' w' (fun j => by simp [List.getElem?_drop]) (by rw [hdl]; exact hL.1) (hL.2 w' hw')
  rwa [hdl] at this) _ _ _ _ (Ext.drew (Ext.refl w)) H
 rw [htl, show n + (l.toArray.size - n) = l.toArray.size by omega] at this
 exact this
end
end Go.Proofs.YtgahbngbpfilgaaGreat
end
section
set_option maxHeartbeats 400000
namespace Go.Proofs.YtgahbngbpfilgaaGreat
open Go
section
variable {P : Program} {md : Region.Mode} {ops : Array Oper} {Q : Exit → Act → World → Prop} {S : World → Prop} {z : Nat}
def wpAnyW (P : Program) (md : Region.Mode) (ops : Array Oper) (Q : Exit → Act → World → Prop) (S : World → Prop) (z : Nat) : Nat → Array Bool → Act → World → Prop
 | 0, listed, a, w => Region.ready md ops listed = [] ∧ Q .normal a w
 | fuel + 1, listed, a, w =>
  (Region.ready md ops listed = [] → Q .normal a w) ∧
  ∀ i ∈ Region.ready md ops listed, wpOp P ops Q i (fun a' w' => (i = z ∨ S w') ∧ wpAnyW P md ops Q S z fuel (listed.setIfInBounds i true) a' w') a w
theorem wpAny_of_weak : ∀ (fuel : Nat) (listed : Array Bool) (a : Act) (w : World), wpAnyW P md ops Q S z fuel listed a w → wpAny P md ops Q fuel listed a w
 | 0, _, _, _, h => h
 | fuel + 1, _, _, _, h => ⟨h.1, fun i hi => wpOp_mono (fun a' w' h' => wpAny_of_weak fuel _ a' w' h'.2) (h.2 i hi)⟩
theorem wpAnyW_first {i : Nat} {oi : Oper} {v : Value} (hz : Region.waitsFor md ops z i = true) (hi : ops[i]? = some oi) (hsel : ∀ (j : Nat) (o : Oper) cs b, ops[j]? = some o → o.op ≠ .select cs b)
  (hQ : ∀ c a w, Q (.panic c) (a.put oi.dst v) w → Q (.panic c) a w) :
  ∀ (fuel : Nat) (listed : Array Bool) (a : Act) (w : World), listed.size = ops.size →
   (∀ j oj, ops[j]? = some oj → j ≠ i → listed.getD j true = false → (∀ e ∈ oj.after, Region.binds md e = true → e.on ≠ i) → oi.apart ops oj = true) →
   i ∈ Region.ready md ops listed → YieldsIf P ops S oi v a → S w →
   wpAnyW P md ops Q S z fuel (listed.setIfInBounds i true) (a.put oi.dst v) w → wpAnyW P md ops Q S z (fuel + 1) listed a w := by
 intro fuel
 induction fuel with
 | zero =>
  intro listed a w _ _ hr hy hS H
  refine ⟨fun h => (by rw [h] at hr; cases hr), fun j hj => ?_⟩
  by_cases hji : j = i
  ·subst hji; exact hy.wpOp hi hS ⟨.inr hS, H⟩
  ·have := ready_mono hj hji
   rw [H.1] at this
   cases this
 | succ fuel ih =>
  intro listed a w hsz hfree hr hy hS H
  refine ⟨fun h => (by rw [h] at hr; cases hr), fun j hj => ?_⟩
  by_cases hji : j = i
  ·subst hji; exact hy.wpOp hi hS ⟨.inr hS, H⟩
  ·have h1 := H.2 j (ready_mono hj hji)
   obtain ⟨hjun, oj, hoj, hall⟩ := mem_ready.1 hj
   have hnot : ∀ e ∈ oj.after, Region.binds md e = true → e.on ≠ i := fun e he hb heq => by
    have h1 := hall e he hb
    have h0 := (mem_ready.1 hr).1
    rw [heq] at h1
    rcases Nat.lt_or_ge i listed.size with h' | h'
    ·simp [h'] at h0 h1; rw [h0] at h1; cases h1
    ·simp [Array.getElem?_eq_none h'] at h1
   have hjz : j ≠ z := fun e => by
    subst e
    obtain ⟨oz, hoz, e, he, hb, hon⟩ := Region.waitsFor_spec hz
    rw [hoj] at hoz
    cases hoz
    exact hnot e he hb hon
   have h2 := wpOp_putIf hoj (hfree j oj hoj hji hjun hnot) (fun cs b => hsel i oi cs b hi) (fun cs b => hsel j oj cs b hoj) hQ hy h1
   have hfree' : ∀ k ok, ops[k]? = some ok → k ≠ i → (listed.setIfInBounds j true).getD k true = false →
     (∀ e ∈ ok.after, Region.binds md e = true → e.on ≠ i) → oi.apart ops ok = true := fun k ok hk hki hun hno => by
    refine hfree k ok hk hki ?_ hno
    by_cases hjk : j = k
    ·subst hjk; exact hjun
    ·rw [getD_set_ne true hjk] at hun; exact hun
   refine wpOp_mono (fun a' w' h3 => ?_) h2
   have h4 := h3.2.1.resolve_left hjz
   exact ⟨.inr h4, ih (listed.setIfInBounds j true) a' w' (by simpa using hsz) hfree' (ready_mono hr (Ne.symm hji)) h3.1 h4 (by rw [Array.setIfInBounds_comm _ _ hji]; exact h3.2.2)⟩
def readsQ (P : Program) (ops : Array Oper) (S : World → Prop) (K : Act → Prop) : List Oper → Act → Prop
 | [], a => K a
 | o :: l, a => ∃ v, YieldsIf P ops S o v a ∧ readsQ P ops S K l (a.put o.dst v)
def tailW (P : Program) (ops : Array Oper) (S : World → Prop) (Q : Exit → Act → World → Prop) : List Oper → Act → World → Prop
 | [], a, w => Q .normal a w
 | o :: l, a, w => if Region.wanted o (yielded ops a.tmps) then o.wp P a w (fun a' w' => (l = [] ∨ S w') ∧ tailW P ops S Q l a' w') Q ∨ (o.asks P a w ∧ LetsOut Q) else (l = [] ∨ S w) ∧ tailW P ops S Q l (a.put o.dst undef) w
def pickOps (l : List Oper) (ord : List Nat) : List Oper := ord.filterMap (fun i => l[i]?)
def rtTail (md : Region.Mode) (ops : Array Oper) (z : Nat) : List Nat → Array Bool → Bool
 | [], listed => (Region.ready md ops listed).isEmpty
 | k :: l, listed => decide (Region.ready md ops listed = [k]) && decide (k < ops.size) && (decide (k = z) == l.isEmpty) && rtTail md ops z l (listed.setIfInBounds k true)
def rtHead (md : Region.Mode) (ops : Array Oper) (z : Nat) (tl : List Nat) : List Nat → Array Bool → Bool
 | [], listed => rtTail md ops z tl listed
 | k :: l, listed => (Region.ready md ops listed).contains k && Region.free md ops listed k && decide (k < ops.size) && Region.waitsFor md ops z k && rtHead md ops z tl l (listed.setIfInBounds k true)
def rtB (md : Region.Mode) (ops : Array Oper) (z : Nat) (rd tl : List Nat) : Bool :=
 Region.noSelect ops && decide (rd.length + tl.length = ops.size) && rtHead md ops z tl rd (Array.replicate ops.size false)
theorem wpAnyW_tail {l : List Oper} (hl : ops = l.toArray) : ∀ (tl : List Nat) (fuel : Nat) (listed : Array Bool) (a : Act) (w : World), tl.length = fuel → rtTail md ops z tl listed = true → tailW P ops S Q (pickOps l tl) a w → wpAnyW P md ops Q S z fuel listed a w
 | [], 0, listed, a, w, _, hB, h => ⟨by simpa [rtTail] using hB, h⟩
 | k :: tl, fuel + 1, listed, a, w, hf, hB, h => by
  simp only [rtTail, Bool.and_eq_true, decide_eq_true_eq] at hB
  obtain ⟨⟨⟨h1, h2⟩, h3⟩, h4⟩ := hB
  obtain ⟨o, ho⟩ : ∃ o, l[k]? = some o := ⟨l[k]'(by subst hl; simpa using h2), by rw [List.getElem?_eq_getElem]⟩
  have ho' : ops[k]? = some o := by subst hl; simpa using ho
  have e : pickOps l (k :: tl) = o :: pickOps l tl := by unfold pickOps; simp [ho]
  rw [e] at h
  refine ⟨fun h0 => (by rw [h1] at h0; cases h0), fun i hi => ?_⟩
  rw [h1] at hi
  obtain rfl : i = k := by simpa using hi
  have hnil : pickOps l tl = [] → i = z := fun h0 => by
   cases tl with
   | nil => simpa using h3
   | cons j tl' =>
    exfalso
    simp only [rtTail, Bool.and_eq_true, decide_eq_true_eq] at h4
    have hj := h4.1.1.2
    have : (pickOps l (j :: tl')) ≠ [] := by
     unfold pickOps
     have hj' : l[j]? = some (l[j]'(by subst hl; simpa using hj)) := List.getElem?_eq_getElem _
     simp [hj']
    exact this h0
  have hw : wpOp P ops Q i (fun a' w' => (pickOps l tl = [] ∨ S w') ∧ tailW P ops S Q (pickOps l tl) a' w') a w := by unfold wpOp; simp only [ho']; exact h
  exact wpOp_mono (fun a' w' h' => ⟨h'.1.imp hnil id, wpAnyW_tail hl tl fuel _ a' w' (by simpa using hf) h4 h'.2⟩) hw
theorem wpAnyW_head {l : List Oper} (hl : ops = l.toArray) (hsel : Region.noSelect ops = true)  (hQ : ∀ c a d v w, Q (.panic c) (Act.put a (some d) v) w → Q (.panic c) a w) {w : World} (hS : S w) (tl : List Nat) :
  ∀ (rd : List Nat) (fuel : Nat) (listed : Array Bool) (a : Act), listed.size = ops.size → rd.length + tl.length = fuel → rtHead md ops z tl rd listed = true → readsQ P ops S (fun a' => tailW P ops S Q (pickOps l tl) a' w) (pickOps l rd) a → wpAnyW P md ops Q S z fuel listed a w
 | [], fuel, listed, a, hs, hf, hB, h => wpAnyW_tail hl tl fuel listed a w (by simpa using hf) hB h
 | k :: rd, fuel, listed, a, hs, hf, hB, h => by
  simp only [rtHead, Bool.and_eq_true, decide_eq_true_eq] at hB
  obtain ⟨⟨⟨⟨h1, h2⟩, h3⟩, h4⟩, h5⟩ := hB
  obtain ⟨o, ho⟩ : ∃ o, l[k]? = some o := ⟨l[k]'(by subst hl; simpa using h3), by rw [List.getElem?_eq_getElem]⟩
  have ho' : ops[k]? = some o := by subst hl; simpa using ho
  have e : pickOps l (k :: rd) = o :: pickOps l rd := by unfold pickOps; simp [ho]
  rw [e] at h
  obtain ⟨v, hy, hK⟩ := h
  obtain ⟨f, rfl⟩ : ∃ f, fuel = f + 1 := ⟨fuel - 1, by simp at hf; omega⟩
  exact wpAnyW_first h4 ho' (Region.noSelect_spec hsel) (fun c a w h => by cases hd : o.dst with | none => rw [hd] at h; exact h | some d => rw [hd] at h; exact hQ c _ _ _ w h) f listed a w hs (Region.free_spec ho' h2) (by simpa using h1) hy hS
   (wpAnyW_head hl hsel hQ hS tl rd f _ _ (by simpa using hs) (by simp at hf; omega) h5 hK)
theorem wp_region_rt {id : Nat} {l : List Oper} {a : Act} {w : World} (S : World → Prop) (z : Nat) (rd tl : List Nat) (hm : P.follows .mixedOrders = true) (hB : rtB .any l.toArray z rd tl = true) (hQ : ∀ c a d v w, Q (.panic c) (Act.put a (some d) v) w → Q (.panic c) a w) (hS : S w.drew)
  (h : readsQ P l.toArray S (fun a' => tailW P l.toArray S Q (pickOps l tl) a' w.drew) (pickOps l rd) a) : (Code.region id l.toArray true).wp P Q a w := by
 simp only [rtB, Bool.and_eq_true, decide_eq_true_eq] at hB
 obtain ⟨⟨h1, h2⟩, h4⟩ := hB
 refine wp_region_any hm (wpAny_of_weak (S := S) (z := z) _ _ _ _ ?_)
 exact wpAnyW_head rfl h1 hQ hS tl rd _ _ a (by simp) h2 h4 h
theorem readsQ_do {o : Oper} {l : List Oper} {a : Act} {K : Act → Prop} (hw : Region.wanted o (yielded ops a.tmps) = true) (h : ∃ v, (∀ w, S w → (execOp a.eval o).run P w = .ok (.value v) w) ∧ readsQ P ops S K l (a.put o.dst v)) : readsQ P ops S K (o :: l) a := by
 obtain ⟨v, h1, h2⟩ := h
 exact ⟨v, .inl ⟨hw, h1⟩, h2⟩
theorem readsQ_nil {a : Act} {K : Act → Prop} (h : K a) : readsQ P ops S K [] a := h
theorem Oper.wp_exits {o : Oper} {a : Act} {w : World} {K : Act → World → Prop} {Q' : Exit → Act → World → Prop} (hQ : ∀ c a w, Q' (.panic c) a w → Q (.panic c) a w) (hL : LetsOut Q' → LetsOut Q) (hh : o.wp P a w K Q') : o.wp P a w K Q := by
 unfold Oper.wp at *
 generalize (execOp a.eval o).run P w = r at *
 cases r with
 | ok n w' =>
  cases n <;> simp only [Oper.upon] at hh ⊢ <;>
   first
    | exact hh
    | exact Calls.mono hh (fun e w'' he => by cases e <;> first | exact he | exact hQ _ _ _ he | exact hL he)
 | halt x w' => cases x <;> simp only [Oper.upon] at hh ⊢ <;> first | exact hh | exact hQ _ _ _ hh
def nextW (P : Program) (ops : Array Oper) (S : World → Prop) (Q : Exit → Act → World → Prop) (l : List Oper) : Exit → Act → World → Prop
 | .normal, a, w => (l = [] ∨ S w) ∧ tailW P ops S Q l a w
 | e, a, w => Q e a w
theorem tailW_step {o : Oper} {l : List Oper} {a : Act} {w : World} (h : wpList P ops (nextW P ops S Q l) [o] a w) : tailW P ops S Q (o :: l) a w := by
 have hL : LetsOut (nextW P ops S Q l) → LetsOut Q := fun ⟨a, w, h⟩ => ⟨a, w, h⟩
 unfold tailW
 unfold wpList at h
 split at h
 ·rename_i hw
  rw [if_pos hw]
  refine h.imp (fun h1 => Oper.wp_exits (fun _ _ _ h => h) hL h1) (fun h1 => ⟨h1.1, hL h1.2⟩)
 ·rename_i hw
  rw [if_neg hw]
  exact h
theorem nextW_go {l : List Oper} {a : Act} {w : World} (hS : S w) (h : tailW P ops S Q l a w) : nextW P ops S Q l .normal a w := ⟨.inr hS, h⟩
theorem nextW_end {a : Act} {w : World} (h : Q .normal a w) : nextW P ops S Q [] .normal a w := ⟨.inl rfl, h⟩
def rwHead (md : Region.Mode) (ops : Array Oper) (z : Nat) : List Nat → Array Bool → Bool
 | [], _ => true
 | k :: l, listed => (Region.ready md ops listed).contains k && Region.free md ops listed k && decide (k < ops.size) && Region.waitsFor md ops z k && rwHead md ops z l (listed.setIfInBounds k true)
def rwB (md : Region.Mode) (ops : Array Oper) (z : Nat) (rd : List Nat) (f : Nat) : Bool :=
 Region.noSelect ops && decide (rd.length + f = ops.size) && rwHead md ops z rd (Array.replicate ops.size false)
def listedOf (n : Nat) (rd : List Nat) : Array Bool := rd.foldl (fun l i => l.setIfInBounds i true) (Array.replicate n false)
theorem wpAnyW_reads {l : List Oper} (hl : ops = l.toArray) (hsel : Region.noSelect ops = true) (hQ : ∀ c a d v w, Q (.panic c) (Act.put a (some d) v) w → Q (.panic c) a w) {w : World} (hS : S w) (f : Nat) :
  ∀ (rd : List Nat) (listed : Array Bool) (a : Act), listed.size = ops.size → rwHead md ops z rd listed = true →
   readsQ P ops S (fun a' => wpAnyW P md ops Q S z f (rd.foldl (fun l i => l.setIfInBounds i true) listed) a' w) (pickOps l rd) a → wpAnyW P md ops Q S z (rd.length + f) listed a w
 | [], listed, a, hs, hB, h => by
  rw [List.length_nil, Nat.zero_add]
  exact h
 | k :: rd, listed, a, hs, hB, h => by
  simp only [rwHead, Bool.and_eq_true, decide_eq_true_eq] at hB
  obtain ⟨⟨⟨⟨h1, h2⟩, h3⟩, h4⟩, h5⟩ := hB
  obtain ⟨o, ho⟩ : ∃ o, l[k]? = some o := ⟨l[k]'(by subst hl; simpa using h3), by rw [List.getElem?_eq_getElem]⟩
  have ho' : ops[k]? = some o := by subst hl; simpa using ho
  have e : pickOps l (k :: rd) = o :: pickOps l rd := by unfold pickOps; simp [ho]
  rw [e] at h
  obtain ⟨v, hy, hK⟩ := h
  rw [List.length_cons, show rd.length + 1 + f = (rd.length + f) + 1 by omega]
  exact wpAnyW_first h4 ho' (Region.noSelect_spec hsel) (fun c a w h => by cases hd : o.dst with | none => rw [hd] at h; exact h | some d => rw [hd] at h; exact hQ c _ _ _ w h) _ listed a w hs (Region.free_spec ho' h2) (by simpa using h1) hy hS
   (wpAnyW_reads hl hsel hQ hS f rd _ _ (by simpa using hs) h5 hK)
theorem wp_region_rw {id : Nat} {l : List Oper} {a : Act} {w : World} (S : World → Prop) (z : Nat) (rd : List Nat) (f : Nat) (hm : P.follows .mixedOrders = true) (hB : rwB .any l.toArray z rd f = true) (hQ : ∀ c a d v w, Q (.panic c) (Act.put a (some d) v) w → Q (.panic c) a w) (hS : S w.drew)
  (h : readsQ P l.toArray S (fun a' => wpAnyW P .any l.toArray Q S z f (listedOf l.toArray.size rd) a' w.drew) (pickOps l rd) a) : (Code.region id l.toArray true).wp P Q a w := by
 simp only [rwB, Bool.and_eq_true, decide_eq_true_eq] at hB
 obtain ⟨⟨h1, h2⟩, h4⟩ := hB
 refine wp_region_any hm (wpAny_of_weak (S := S) (z := z) _ _ _ _ ?_)
 have h5 := wpAnyW_reads rfl h1 hQ hS f rd (Array.replicate l.toArray.size false) a (by simp) h4 h
 rwa [h2] at h5
def nextA (P : Program) (md : Region.Mode) (ops : Array Oper) (Q : Exit → Act → World → Prop) (S : World → Prop) (z f : Nat) (listed : Array Bool) (i : Nat) : Exit → Act → World → Prop
 | .normal, a, w => (i = z ∨ S w) ∧ wpAnyW P md ops Q S z f (listed.setIfInBounds i true) a w
 | e, a, w => Q e a w
theorem wpOp_nextA {f i : Nat} {listed : Array Bool} {o : Oper} {a : Act} {w : World} (ho : ops[i]? = some o) (h : wpList P ops (nextA P md ops Q S z f listed i) [o] a w) :
  wpOp P ops Q i (fun a' w' => (i = z ∨ S w') ∧ wpAnyW P md ops Q S z f (listed.setIfInBounds i true) a' w') a w := by
 have hL : LetsOut (nextA P md ops Q S z f listed i) → LetsOut Q := fun ⟨a, w, h⟩ => ⟨a, w, h⟩
 unfold wpOp
 unfold wpList at h
 simp only [ho]
 split at h
 ·rename_i hw
  rw [if_pos hw]
  exact h.imp (fun h1 => Oper.wp_exits (fun _ _ _ h => h) hL h1) (fun h1 => ⟨h1.1, hL h1.2⟩)
 ·rename_i hw
  rw [if_neg hw]
  exact h
theorem wpAnyW_one {f : Nat} {listed : Array Bool} {a : Act} {w : World} (i : Nat) {o : Oper} (hr : Region.ready md ops listed = [i]) (ho : ops[i]? = some o) (h : wpList P ops (nextA P md ops Q S z f listed i) [o] a w) : wpAnyW P md ops Q S z (f + 1) listed a w := by
 refine ⟨fun h0 => (by rw [hr] at h0; cases h0), fun j hj => ?_⟩
 rw [hr] at hj
 obtain rfl : j = i := by simpa using hj
 exact wpOp_nextA ho h
theorem wpAnyW_two {f : Nat} {listed : Array Bool} {a : Act} {w : World} (i k : Nat) {o o' : Oper} (hr : Region.ready md ops listed = [i, k]) (ho : ops[i]? = some o) (ho' : ops[k]? = some o')
  (h : wpList P ops (nextA P md ops Q S z f listed i) [o] a w) (h' : wpList P ops (nextA P md ops Q S z f listed k) [o'] a w) : wpAnyW P md ops Q S z (f + 1) listed a w := by
 refine ⟨fun h0 => (by rw [hr] at h0; cases h0), fun j hj => ?_⟩
 rw [hr] at hj
 simp only [List.mem_cons, List.not_mem_nil, or_false] at hj
 rcases hj with rfl | rfl
 ·exact wpOp_nextA ho h
 ·exact wpOp_nextA ho' h'
theorem nextA_go {f i : Nat} {listed : Array Bool} {a : Act} {w : World} (hS : S w) (h : wpAnyW P md ops Q S z f (listed.setIfInBounds i true) a w) : nextA P md ops Q S z f listed i .normal a w := ⟨.inr hS, h⟩
theorem nextA_end {i : Nat} {listed : Array Bool} {a : Act} {w : World} (hi : i = z) (hr : (Region.ready md ops (listed.setIfInBounds i true)).isEmpty = true) (h : Q .normal a w) : nextA P md ops Q S z 0 listed i .normal a w := ⟨.inl hi, by simpa using hr, h⟩
theorem wpAnyW_take {f : Nat} {listed : Array Bool} {a : Act} {w : World} (i : Nat) {o : Oper} (hsel : Region.noSelect ops = true) (hsz : listed.size = ops.size) (hr : (Region.ready md ops listed).contains i = true) (hf : Region.free md ops listed i = true) (hz : Region.waitsFor md ops z i = true)
  (hQ : ∀ c a d v w, Q (.panic c) (Act.put a (some d) v) w → Q (.panic c) a w) (ho : ops[i]? = some o) (hw : Region.wanted o (yielded ops a.tmps) = true) (hS : S w)
  (h : ∃ v, (∀ w, S w → (execOp a.eval o).run P w = .ok (.value v) w) ∧ wpAnyW P md ops Q S z f (listed.setIfInBounds i true) (a.put o.dst v) w) : wpAnyW P md ops Q S z (f + 1) listed a w := by
 obtain ⟨v, h1, h2⟩ := h
 exact wpAnyW_first hz ho (Region.noSelect_spec hsel) (fun c a w h => by cases hd : o.dst with | none => rw [hd] at h; exact h | some d => rw [hd] at h; exact hQ c _ _ _ w h) f listed a w hsz (Region.free_spec ho hf) (by simpa using hr) (.inl ⟨hw, h1⟩) hS h2
end
end Go.Proofs.YtgahbngbpfilgaaGreat
end
section
set_option maxHeartbeats 1000000
namespace Go.Proofs.YtgahbngbpfilgaaGreat
open Go Go.RowKit
theorem modify_same {α : Type} : ∀ (l : List α) (n : Nat) (g : α → α), (∀ x, g x = x) → l.modify n g = l
 | [], n, g, _ => by cases n <;> rfl
 | a :: l, 0, g, h => by rw [List.modify_zero_cons, h]
 | a :: l, n + 1, g, h => by rw [List.modify_succ_cons, modify_same l n g h]
theorem modify_twice {α : Type} : ∀ (l : List α) (n : Nat) (g f : α → α), (l.modify n f).modify n g = l.modify n (fun x => g (f x))
 | [], n, g, f => by cases n <;> rfl
 | a :: l, 0, g, f => by simp only [List.modify_zero_cons]
 | a :: l, n + 1, g, f => by simp only [List.modify_succ_cons, modify_twice l n g f]
theorem modFib_same (s : GState) (n : Int) (g : GFiber → GFiber) (h : ∀ f, g f = f) : modFib s n g = s := by
 unfold modFib; rw [modify_same _ _ _ h]
theorem modFib_twice (s : GState) (n : Int) (g f : GFiber → GFiber) : modFib (modFib s n f) n g = modFib s n fun x => g (f x) := by
 unfold modFib; simp only [modify_twice]
theorem modTop_same (s : GState) (n : Int) (g : GFrame → GFrame) (h : ∀ f, g f = f) : modTop s n g = s :=
 modFib_same s n _ fun f => by rw [modify_same _ _ _ h]
theorem modTop_twice (s : GState) (n : Int) (g f : GFrame → GFrame) : modTop (modTop s n f) n g = modTop s n fun x => g (f x) := by
 unfold modTop
 rw [modFib_twice]
 simp only [List.length_modify, modify_twice]
theorem leave_zero (s : GState) : leaveG s 0 = s := modTop_same s _ _ fun x => by rw [Nat.sub_zero, List.take_length]
theorem leave_succ (s : GState) (j : Nat) : leaveG s (j + 1) = popG (leaveG s j) := by
 unfold leaveG popG
 show _ = modTop (modTop s s.now _) s.now _
 rw [modTop_twice]
 refine congrArg (modTop s s.now) (funext fun x => ?_)
 simp only [GFrame.mk.injEq, true_and]
 rw [List.dropLast_eq_take, List.take_take, List.length_take]
 congr 1
 omega
theorem curX_leave (s : GState) (h : HasTop s s.now) (j : Nat) : curX (leaveG s j) = { curX s with stack := (curX s).stack.take ((curX s).stack.length - j) } := curX_mod s h _
theorem HasTop.leave {s : GState} {n : Int} (h : HasTop s n) (j : Nat) : HasTop (leaveG s j) n := h.top _
theorem Room.leave {s : GState} (h : Room s) (j : Nat) : Room (leaveG s j) := h.top _ fun x => by simp
theorem argsOf_len (p : List GFunc) (s : GState) (a : Int) (j : Nat) (hj : j ≤ (funcOf p a).args.toNat) (hl : j ≤ (curX s).stack.length) (h0 : 0 ≤ (funcOf p a).args ∧ (funcOf p a).args ≤ (funcOf p a).locals) : (argsOf p s a j).length = (funcOf p a).locals.toNat := by
 unfold argsOf
 simp only [List.length_append, List.length_replicate, List.length_drop]
 omega
theorem argsOf_zero (p : List GFunc) (s : GState) (a : Int) (h0 : 0 ≤ (funcOf p a).args ∧ (funcOf p a).args ≤ (funcOf p a).locals) : argsOf p s a 0 = List.replicate (funcOf p a).locals.toNat 0 := by
 unfold argsOf
 rw [Nat.sub_zero, Nat.sub_zero, List.drop_length, List.append_nil, List.replicate_append_replicate]
 congr 1
 omega
theorem argsOf_succ (p : List GFunc) (s : GState) (h : HasTop s s.now) (a : Int) (j : Nat) (hj : j < (funcOf p a).args.toNat) (hl : j < (curX s).stack.length) :
  (argsOf p s a j).set ((funcOf p a).args.toNat - j - 1) (lastV (leaveG s j)) = argsOf p s a (j + 1) := by
 obtain ⟨A, hA⟩ : ∃ A, (funcOf p a).args.toNat = A := ⟨_, rfl⟩
 have hlast : lastV (leaveG s j) = (curX s).stack.getD ((curX s).stack.length - (j + 1)) 0 := by
  unfold lastV
  rw [curX_leave s h]
  simp only [List.length_take]
  have e : min ((curX s).stack.length - j) (curX s).stack.length - 1 = (curX s).stack.length - (j + 1) := by omega
  rw [e, List.getD_eq_getElem?_getD, List.getElem?_take_of_lt (by omega), ← List.getD_eq_getElem?_getD]
 have hd : (curX s).stack.drop ((curX s).stack.length - (j + 1)) = (curX s).stack.getD ((curX s).stack.length - (j + 1)) 0 :: (curX s).stack.drop ((curX s).stack.length - j) := by
  have hlt : (curX s).stack.length - (j + 1) < (curX s).stack.length := by omega
  rw [List.drop_eq_getElem_cons hlt, List.getD_eq_getElem?_getD, List.getElem?_eq_getElem hlt]
  congr 2
  omega
 unfold argsOf
 rw [hlast, hd]
 rw [hA] at hj ⊢
 obtain ⟨d, rfl⟩ : ∃ d, A = j + 1 + d := ⟨A - (j + 1), by omega⟩
 have e1 : j + 1 + d - j = d + 1 := by omega
 have e2 : j + 1 + d - (j + 1) = d := by omega
 have e3 : j + 1 + d - j - 1 = d := by omega
 rw [e3, e1, e2, List.replicate_succ']
 simp only [List.append_assoc]
 rw [List.set_append_right _ _ (by rw [List.length_replicate]; exact Nat.le_refl _), List.length_replicate, Nat.sub_self]
 simp
theorem argsOf_i64 (p : List GFunc) (s : GState) (a : Int) (j : Nat) (h : ∀ k ∈ (curX s).stack, I64 k) : ∀ k ∈ argsOf p s a j, I64 k := by
 intro k hk
 unfold argsOf at hk
 simp only [List.mem_append] at hk
 rcases hk with (hk | hk) | hk
 ·rw [List.eq_of_mem_replicate hk]; exact I64.zero
 ·exact h k (List.drop_subset _ _ hk)
 ·rw [List.eq_of_mem_replicate hk]; exact I64.zero
theorem src_cells (w : World) (cs : List Value) (n : Nat) (hn : cs.length = n) (h1 : ∀ u ∈ cs, u.oneCell' = true) (t : TypeId) : SrcSl (w.alloc (.cells cs.toArray t)) n (.slice (some ⟨w.heap.size, 0, none⟩) 1 1) 1 cs := by
 refine ⟨_, 1, rfl, by omega, h1, .inr ⟨_, rfl, fun j u hj => ?_⟩⟩
 rw [show ((⟨w.heap.size, 0, none⟩ : Addr).add j) = ⟨w.heap.size, j, none⟩ by unfold Addr.add; split <;> simp_all, World.cell?_alloc_new, List.getElem?_toArray, hj]
theorem infoFr : (Tryz.prog.info? 43).map (fun i => (i.zero, i.size, i.bytes)) = some (some (.agg #[.int .i64 0, .int .i64 0, .slice none 0 0, .slice none 0 0]), 4, 64) := by kernel_rfl
theorem infoFb : (Tryz.prog.info? 41).map (fun i => (i.zero, i.size, i.bytes)) = some (some (.agg #[.slice none 0 0, .int .i64 0]), 2, 32) := by kernel_rfl
theorem OwnS.addFrame {P : PState} {L R : List PFiber} {y : PFiber} {x : PFrame} {W W1 : World} {B b g o n cap : Nat} (h : OwnS W B b P) (hP : P.fs = L ++ y :: R) (hv : P.vfs = .slice (some ⟨g, o, none⟩) n cap) {v1 : Value}
  (hc : Chg (fun k => rowBlock y.vf = some k) W W1) (hr : RowAt W1 B 4 v1 (y.fr ++ [x]).length ((y.fr ++ [x]).flatMap frameF)) (hx : FrameO W1 B x) (hl : y.fr.length < 1000)
  (hv1 : rowBlock v1 = rowBlock y.vf ∨ ∀ k, rowBlock v1 = some k → W.heap.size ≤ k) (hn : x.bl.Nodup) (hf : ∀ k ∈ x.bl, k ∉ b :: P.bl ∧ rowBlock v1 ≠ some k) :
  OwnS (W1.setCell ⟨g, o + L.length * 2, none⟩ v1) B b { P with fs := L ++ ⟨y.fr ++ [x], y.caller, v1⟩ :: R } ∧ Chg (· ∈ P.bl) W (W1.setCell ⟨g, o + L.length * 2, none⟩ v1) := by
 have hym : y ∈ P.fs := by rw [hP]; simp
 have hy := h.fs y hym
 have hnd := h.fnodup hP
 have hsub : ∀ k ∈ y.bl, k ∈ P.bl := fun k hk => PState.mem_fs hym hk
 have hbl : y.bl = (rowBlock y.vf).toList ++ y.fr.flatMap PFrame.bl := rfl
 have hbl' : PFiber.bl ⟨y.fr ++ [x], y.caller, v1⟩ = (rowBlock v1).toList ++ (y.fr.flatMap PFrame.bl ++ x.bl) := by unfold PFiber.bl; simp
 rw [hbl] at hnd
 obtain ⟨-, hn2, hn3⟩ := List.nodup_append.1 hnd
 have hfr : ∀ u ∈ y.fr, FrameO W1 B u := fun u hu => (hy.fr u hu).chg hc fun k hk e => by
  have h1 : k ∈ y.fr.flatMap PFrame.bl := List.mem_flatMap.2 ⟨u, hu, hk⟩
  exact hn3 k (by rw [show rowBlock y.vf = some k from e]; simp) k h1 rfl
 refine h.setFrames' (y' := ⟨y.fr ++ [x], y.caller, v1⟩) hP hv hc rfl ⟨hy.i, hr, fun u hu => ?_, ?_⟩ ?_ fun k hk => ?_
 ·have hu' : u ∈ y.fr ++ [x] := hu
  rcases List.mem_append.1 hu' with h1 | h1
  ·exact hfr u h1
  ·rw [List.mem_singleton.1 h1]; exact hx
 ·show (y.fr ++ [x]).length ≤ 1000
  rw [List.length_append, List.length_singleton]; omega
 ·rw [hbl', List.nodup_append]
  refine ⟨by cases rowBlock v1 <;> simp, List.nodup_append.2 ⟨hn2, hn, fun a ha c hc e => ?_⟩, fun a ha c hc e => ?_⟩
  ·subst e
   exact (hf a hc).1 (List.mem_cons_of_mem _ (hsub a (by rw [hbl]; exact List.mem_append.2 (.inr ha))))
  ·subst e
   have ha' : rowBlock v1 = some a := by simpa using ha
   rcases List.mem_append.1 hc with h1 | h1
   ·rcases hv1 with h2 | h2
    ·exact hn3 a (by rw [← h2, ha']; simp) a h1 rfl
    ·have h3 := h2 a ha'
     have h4 := h.lt a (List.mem_cons_of_mem _ (hsub a (by rw [hbl]; exact List.mem_append.2 (.inr h1))))
     omega
   ·exact (hf a h1).2 ha'
 ·rw [hbl'] at hk
  rcases List.mem_append.1 hk with h1 | h1
  ·have h1' : rowBlock v1 = some k := by simpa using h1
   rcases hv1 with h2 | h2
   ·exact .inl (by rw [hbl, ← h2, h1']; simp)
   ·refine .inr fun h3 => ?_
    have h4 := h2 k h1'
    have h5 := h.lt k h3
    omega
  ·rcases List.mem_append.1 h1 with h2 | h2
   ·exact .inl (by rw [hbl]; exact List.mem_append.2 (.inr h2))
   ·exact .inr (hf k h2).1
end Go.Proofs.YtgahbngbpfilgaaGreat
end
section
set_option maxHeartbeats 4000000
set_option maxRecDepth 100000
namespace Go.Proofs.YtgahbngbpfilgaaGreat
open Go Go.RowKit
structure CallI (w wr : World) (B b : Nat) (P : PState) (p : List GFunc) (a : Int) (bx gl N j : Nat) (P' : PState) : Prop where
 own : OwnS wr B b P'
 g : P'.g = leaveG P.g j
 bl : ∀ k ∈ P'.bl, k ∈ P.bl ∨ w.heap.size ≤ k
 chg : Chg (· ∈ b :: P.bl) w wr
 nb : bx ∉ b :: P'.bl
 nl : gl ∉ b :: P'.bl
 row : RowAt wr w.heap.size 1 (.slice (some ⟨gl, 0, none⟩) N N) N (ints (argsOf p P.g a j))
 c0 : Cx wr bx 0 (.int .i64 a)
 c1 : Cx wr bx 1 (.int .i64 0)
 c2 : Cx wr bx 2 (.slice (some ⟨gl, 0, none⟩) N N)
 c3 : Cx wr bx 3 (.slice none 0 0)
theorem CallI.ext {w wr wr' : World} {B b : Nat} {P P' : PState} {p : List GFunc} {a : Int} {bx gl N j : Nat} (h : CallI w wr B b P p a bx gl N j P') (he : Ext wr wr') : CallI w wr' B b P p a bx gl N j P' :=
 ⟨h.own.ext he, h.g, h.bl, h.chg.trans (Chg.of_ext he), h.nb, h.nl, h.row.ext he (by decide), h.c0.ext he, h.c1.ext he, h.c2.ext he, h.c3.ext he⟩
theorem CallI.cell {w wr : World} {B b : Nat} {P P' : PState} {p : List GFunc} {a : Int} {bx gl N j : Nat} (h : CallI w wr B b P p a bx gl N j P') {r : Nat} (hr : r < N) (hN : N = (argsOf p P.g a j).length) : ∃ u, Cx wr gl r u := by
 obtain ⟨g, o, e, _, hc⟩ := h.row.cell (by omega)
 simp only [Option.some.injEq, Addr.mk.injEq] at e
 obtain ⟨rfl, rfl, -⟩ := e
 have := hc r (by omega)
 rw [ints_get _ _ (by omega), Nat.zero_add] at this
 exact ⟨_, this⟩
theorem CallI.pull {w wr wr' : World} {B b : Nat} {P P' : PState} {p : List GFunc} {a : Int} {bx gl N j r : Nat} (h : CallI w wr B b P p a bx gl N j P') (ht : HasTop P.g P.g.now) (hgl : w.heap.size ≤ gl) (hne : gl ≠ bx)
  (hj : j < (funcOf p a).args.toNat) (hl : j < (curX P.g).stack.length) (hr : (funcOf p a).args.toNat - j - 1 = r) (hN : r < N) (hNN : N = (argsOf p P.g a j).length) (t : Turn wr wr' B b P' (popG P'.g)) :
  ∃ P'', CallI w (wr'.setCell ⟨gl, r, none⟩ (.int .i64 (lastV P'.g))) B b P p a bx gl N (j + 1) P'' := by
 have hlg : gl < wr.heap.size := by
  obtain ⟨g, o, e, _, hc⟩ := h.row.cell (by omega)
  simp only [Option.some.injEq, Addr.mk.injEq] at e
  obtain ⟨rfl, rfl, -⟩ := e
  have := (hc 0 (by omega)).1
  rw [ints_get _ _ (by omega)] at this
  exact lt_of_cell this
 have hlb := h.c0.lt
 have hNM : ∀ k, k ∉ b :: P'.bl → ¬ (k ∈ b :: P'.bl) := fun k h => h
 obtain ⟨⟨P'', o, e, hs⟩, hc⟩ := t
 have nsub : ∀ k, k < wr.heap.size → k ∉ b :: P'.bl → k ∉ b :: P''.bl := fun k hk hn hm => by
  rcases List.mem_cons.1 hm with rfl | h1
  ·exact hn List.mem_cons_self
  ·rcases hs k h1 with h2 | h2
   ·exact hn (List.mem_cons_of_mem _ h2)
   ·omega
 have hnl := nsub gl hlg h.nl
 have hnb := nsub bx hlb h.nb
 have hC := chg_one wr' gl r (.int .i64 (lastV P'.g))
 have hrow : RowAt wr' w.heap.size 1 (.slice (some ⟨gl, 0, none⟩) N N) N (ints (argsOf p P.g a j)) := h.row.chg hc (fun k hk e => by
  have : k = gl := by
   by_cases h0 : N = 0
   ·omega
   ·rw [rowBlock_some _ _ _ _ h0] at hk; cases hk; rfl
  subst this; exact h.nl e) (by decide)
 refine ⟨P'', o.chg hC (fun e => hnl (by rw [show b = gl from e]; exact List.mem_cons_self)) (fun k hk e => hnl (by rw [← show k = gl from e]; exact List.mem_cons_of_mem _ hk)), ?_, fun k hk => ?_, ?_, hnb, hnl, ?_, ?_, ?_, ?_, ?_⟩
 ·rw [e, h.g, ← leave_succ]
 ·rcases hs k hk with h1 | h1
  ·exact h.bl k h1
  ·exact .inr (Nat.le_trans h.chg.size h1)
 ·refine (h.chg.trans' hc fun n hn hm => ?_).setCell (p := ⟨gl, r, none⟩) (.inr hgl) _
  rcases List.mem_cons.1 hm with rfl | h1
  ·exact List.mem_cons_self
  ·rcases h.bl n h1 with h2 | h2
   ·exact List.mem_cons_of_mem _ h2
   ·omega
 ·rw [← argsOf_succ p P.g ht a j hj hl, hr, ← ints_set, ← h.g]
  have h9 := hrow.store (j := r) (by omega) (.int .i64 (lastV P'.g))
  rwa [Nat.zero_add] at h9
 ·exact (h.c0.chg hc h.nb).other (.inl (Ne.symm hne)) _
 ·exact (h.c1.chg hc h.nb).other (.inl (Ne.symm hne)) _
 ·exact (h.c2.chg hc h.nb).other (.inl (Ne.symm hne)) _
 ·exact (h.c3.chg hc h.nb).other (.inl (Ne.symm hne)) _
theorem cell_other {W : World} {bx g j : Nat} {u : Value} (h : W.cell? ⟨bx, 2, none⟩ = some u) (hne : bx ≠ g) (v : Value) : (W.setCell ⟨g, j, none⟩ v).cell? ⟨bx, 2, none⟩ = some u := by
 rw [World.cell?_setCell_other (a := ⟨g, j, none⟩) (b := ⟨bx, 2, none⟩) (h := by intro e; simp only [Addr.mk.injEq] at e; omega)]; exact h
theorem src_drew {w : World} {size : Nat} {x : Value} {m : Nat} {news : List Value} (h : SrcSl w size x m news) : SrcSl w.drew size x m news := h
theorem call_fin {w wq Wm Wv : World} {B b : Nat} {P P' : PState} {p : List GFunc} {n : Int} {bx gl N j : Nat} {L R : List PFiber} {y : PFiber} {F : List PFrame} {x : PFrame} {g o nn cap : Nat} {v1 : Value} (h : CallI w wq B b P p n bx gl N j P')
  (hs : Spot P' L y R F x) (hnw : P'.now = L.length) (hv : P'.vfs = .slice (some ⟨g, o, none⟩) nn cap) (hRV : NewRow Wm Wv B 4 y.vf v1 (y.fr.length + 1) (y.fr.flatMap frameF ++ [.int .i64 n, .int .i64 0, .slice (some ⟨gl, 0, none⟩) N N, .slice none 0 0]))
  (hE : Ext wq Wm) (h9 : y.fr.length < 1000) (hgl : w.heap.size = gl) (hB : B ≤ gl) (hlt : 0 < N → gl < bx) (hI : I64 n) (hA : ∀ k ∈ argsOf p P.g n j, I64 k) (hlen : (argsOf p P.g n j).length = N) (hN : N ≤ 1000) :
  Did w (Wv.setCell ⟨g, o + L.length * 2, none⟩ v1) B b P (0, modFib (leaveG P.g j) P.g.now fun f => { f with frames := f.frames ++ [⟨n, 0, argsOf p P.g n j, []⟩] }) := by
 obtain ⟨r1, r2, r3⟩ := hRV
 have hym : y ∈ P'.fs := by rw [hs.fs]; simp
 have hyb : ∀ k, rowBlock y.vf = some k → k ∈ P'.bl := fun k hk => PState.mem_fs hym (by unfold PFiber.bl; simp [hk])
 have hvb : ∀ k, rowBlock (.slice (some ⟨gl, 0, none⟩) N N) = some k → k = gl ∧ 0 < N := fun k hk => by
  by_cases h0 : N = 0
  ·subst h0; simp [rowBlock] at hk
  ·rw [rowBlock_some _ _ _ _ h0] at hk; cases hk; exact ⟨rfl, by omega⟩
 let X : PFrame := ⟨⟨n, 0, argsOf p P.g n j, []⟩, .slice (some ⟨gl, 0, none⟩) N N, .slice none 0 0⟩
 have hXbl : ∀ k ∈ X.bl, k = gl ∧ 0 < N := fun k hk => by
  unfold PFrame.bl at hk
  rcases List.mem_append.1 hk with h1 | h1
  ·exact hvb k (by simpa using h1)
  ·simp [X, rowBlock] at h1
 have hlg : 0 < N → gl < wq.heap.size := fun h0 => Nat.lt_trans (hlt h0) h.c0.lt
 have hXO : FrameO Wv B X := by
  refine ⟨⟨hI, I64.zero, hA, fun k hk => by cases hk⟩, ?_, RowAt.nil _ _ _ _, ⟨by show (argsOf p P.g n j).length ≤ 1000; omega, by show 0 ≤ 1000; omega⟩⟩
  show RowAt Wv B 1 (.slice (some ⟨gl, 0, none⟩) N N) (argsOf p P.g n j).length (ints (argsOf p P.g n j))
  rw [hlen]
  refine ((h.row.mono (by omega)).ext hE (by decide)).chg r2 (fun k hk e => ?_) (by decide)
  obtain ⟨rfl, _⟩ := hvb k hk
  exact h.nl (List.mem_cons_of_mem _ (hyb _ e))
 have hcg : Chg (fun k => rowBlock y.vf = some k) wq Wv := (Chg.of_ext hE).trans r2
 have hv1 : rowBlock v1 = rowBlock y.vf ∨ ∀ k, rowBlock v1 = some k → wq.heap.size ≤ k := r3.imp id fun e k hk => Nat.le_trans hE.size (e k hk)
 obtain ⟨o9, c9⟩ := h.own.addFrame (x := X) hs.fs hv hcg (by
   have e : (y.fr ++ [X]).flatMap frameF = y.fr.flatMap frameF ++ [.int .i64 n, .int .i64 0, .slice (some ⟨gl, 0, none⟩) N N, .slice none 0 0] := by rw [List.flatMap_append]; rfl
   rw [e, List.length_append, List.length_singleton]; exact r1) hXO h9 hv1 (by
   show ((rowBlock (.slice (some ⟨gl, 0, none⟩) N N)).toList ++ (rowBlock (.slice none 0 0)).toList).Nodup
   cases rowBlock (.slice (some ⟨gl, 0, none⟩) N N) <;> simp [rowBlock]) (fun k hk => by
   obtain ⟨rfl, h0⟩ := hXbl k hk
   refine ⟨h.nl, fun e => ?_⟩
   rcases hv1 with h1 | h1
   ·exact h.nl (List.mem_cons_of_mem _ (hyb _ (h1 ▸ e)))
   ·have := h1 _ e; have := hlg h0; omega)
 refine Did.of ⟨⟨_, o9, ?_, fun k hk => ?_⟩, h.chg.trans' c9 fun k hk hm => ?_⟩
 ·rw [← h.g]
  refine (modFib_at hs.fs (n := P.g.now) ?_ ?_).symm
  ·have e : P'.g.now = P.g.now := by rw [h.g]; rfl
   rw [← e]; exact hnw
  ·unfold PFiber.g
   simp [X]
 ·unfold PState.bl at hk
  simp only [List.flatMap_append, List.flatMap_cons, List.mem_append] at hk
  have hback : k ∈ P'.bl → k ∈ P.bl ∨ w.heap.size ≤ k := h.bl k
  rcases hk with (h3 | h3) | h3 | h3 | h3
  ·exact hback (PState.mem_vfs (by simpa using h3))
  ·exact hback (PState.mem_vo (by simpa using h3))
  ·obtain ⟨z, hz, h4⟩ := List.mem_flatMap.1 h3
   exact hback (PState.mem_fs (y := z) (by rw [hs.fs]; simp [hz]) h4)
  ·unfold PFiber.bl at h3
   simp only [List.flatMap_append, List.mem_append] at h3
   rcases h3 with h4 | h4 | h4
   ·have h5 : rowBlock v1 = some k := by simpa using h4
    rcases hv1 with h6 | h6
    ·exact hback (hyb k (h6 ▸ h5))
    ·exact .inr (Nat.le_trans h.chg.size (h6 k h5))
   ·refine hback (PState.mem_fs hym ?_)
    unfold PFiber.bl
    exact List.mem_append.2 (.inr h4)
   ·have h5 : k ∈ X.bl := by simpa using h4
    exact .inr (by rw [hgl, (hXbl k h5).1]; exact Nat.le_refl _)
  ·obtain ⟨z, hz, h4⟩ := List.mem_flatMap.1 h3
   exact hback (PState.mem_fs (y := z) (by rw [hs.fs]; simp [hz]) h4)
 ·rcases h.bl k hm with h1 | h1
  ·exact List.mem_cons_of_mem _ h1
  ·omega
theorem called_any (p : List GFunc) (v : Value) (S : Nat → Prop) {P : PState} {w : World} {B b : Nat} (n : Nat) (hp : Funcs w S v p) (h : OwnS w B b P) (ht : HasTop P.g P.g.now) (hfr9 : (curF P.g).frames.length < 1000) (hb : CallFit p P.g n) :
    Calls Tryz.prog 94 #[v, .pointer (some ⟨b, 0, none⟩), .int .i64 n] w fun e w' => e = .returned (.int .i64 (callG p P.g n).1) ∧ Did w w' B b P (callG p P.g n) := by
  obtain ⟨-, hn, hA0, hAL, hL9, hst⟩ := hb
  have hn : n < p.length := by omega
  have hF : funcOf p n = p[n] := by unfold funcOf; simp [List.getD, List.getElem?_eq_getElem hn]
  obtain ⟨A, hA⟩ : ∃ A : Nat, (funcOf p n).args = A := ⟨(funcOf p n).args.toNat, by omega⟩
  obtain ⟨N, hN⟩ : ∃ N : Nat, (funcOf p n).locals = N := ⟨(funcOf p n).locals.toNat, by omega⟩
  obtain ⟨bp, op, cap, rfl, hcap, hby, ⟨_, hpA, _⟩, ⟨_, hpL, _⟩, _⟩ := hp.get hn
  rw [← hF, hA] at hpA
  rw [← hF, hN] at hpL
  have hAN : A ≤ N := by omega
  have hAs : A ≤ (curX P.g).stack.length := by omega
  have hN9 : N ≤ 900 := by omega
  have hAt : (funcOf p n).args.toNat = A := by omega
  have hNt : (funcOf p n).locals.toNat = N := by omega
  have ha0 : argsOf p P.g n 0 = List.replicate N 0 := by rw [argsOf_zero p P.g n ⟨hA0, hAL⟩, hNt]
  have hal : ∀ j, j ≤ A → (argsOf p P.g n j).length = N := fun j hj => by rw [argsOf_len p P.g n j (by omega) (by omega) ⟨hA0, hAL⟩, hNt]
  have H := Lib.hid h
  have HT := Lib.hid ht
  have HP := Lib.hid hp
  have HA := Lib.hid hA
  have HN := Lib.hid hN
  have HAT := Lib.hid hAt
  have HA0 := Lib.hid ha0
  have HAL := Lib.hid hal
  have HB : Hid (B ≤ w.heap.size) := Nat.le_trans h.le (Nat.le_of_lt h.c0.lt)
  obtain ⟨i0, hi0, hz0, hz1, hz2⟩ := info_parts infoI
  have RA := alloc_keep
  have KA : IntKind.i64.wrap ((A : Int) - 1) = (A : Int) - 1 := IntWalk.i64_in _ (by omega)
  clear hp h hF hA0 hAL hL9 hA hN hAt hNt ha0 hal
  go_enter Tryz.func94, Tryz.ntmps94
  go_wp2_with (first
    | (at_make; refine wpList_make_full _ rfl _ _ 24 rfl w.heap.size 3 i0 (.int .i64 0) 1 Tryz.underlying24 hi0 hz0 hz1 .i64 .i64 _ _ N rfl rfl rfl rfl (by rw [hz2]; omega) (by unfold maxLen; omega) (by simp) ?_; intro w3 hown3 hgr3; have hE3 := ext_none hgr3; have hrow := IRow.made hown3; have hpA3 := Ext.cell hE3 hpA))
  have HS3 : Hid (w.heap.size ≤ w3.heap.size) := hE3.size
  obtain ⟨W4, hW4⟩ : ∃ W4, W4 = w3.alloc (.cells #[.int .i64 n, .int .i64 0, .slice (some ⟨w.heap.size, 0, none⟩) N N, .slice none 0 0] 43) := ⟨_, rfl⟩
  have hE4 : Ext w W4 := by rw [hW4]; exact hE3.alloc _
  have hgl3 : w.heap.size < w3.heap.size ∨ N = 0 := by
    by_cases h0 : N = 0
    · exact .inr h0
    · refine .inl ?_
      have hr : RowAt w3 w.heap.size 1 (.slice (some ⟨w.heap.size, 0, none⟩) N N) N (ints (List.replicate N 0)) := by have := hrow; unfold IRow at this; rwa [List.length_replicate] at this
      exact hr.lt2 (by decide) _ (rowBlock_some _ _ _ _ h0)
  have hI0 : CallI w W4 B b P p n w3.heap.size w.heap.size N 0 P := by
    have hlt := (H.out).lt
    refine ⟨(H.out).ext hE4, (leave_zero _).symm, fun k hk => .inl hk, Chg.of_ext hE4, fun hm => ?_, fun hm => ?_, ?_, ?_, ?_, ?_, ?_⟩
    · have := hlt _ hm; have := HS3.out; omega
    · have := hlt _ hm; omega
    · rw [HA0.out]
      have hr : RowAt w3 w.heap.size 1 (.slice (some ⟨w.heap.size, 0, none⟩) N N) N (ints (List.replicate N 0)) := by have := hrow; unfold IRow at this; rwa [List.length_replicate] at this
      rw [hW4]
      exact hr.ext ((Ext.refl _).alloc _) (by decide)
    · rw [hW4]; exact Cx.new w3 [.int .i64 n, .int .i64 0, .slice (some ⟨w.heap.size, 0, none⟩) N N, .slice none 0 0] _ (j := 0) rfl
    · rw [hW4]; exact Cx.new w3 [.int .i64 n, .int .i64 0, .slice (some ⟨w.heap.size, 0, none⟩) N N, .slice none 0 0] _ (j := 1) rfl
    · rw [hW4]; exact Cx.new w3 [.int .i64 n, .int .i64 0, .slice (some ⟨w.heap.size, 0, none⟩) N N, .slice none 0 0] _ (j := 2) rfl
    · rw [hW4]; exact Cx.new w3 [.int .i64 n, .int .i64 0, .slice (some ⟨w.heap.size, 0, none⟩) N N, .slice none 0 0] _ (j := 3) rfl
  rw [← hW4]
  have HI0 := Lib.hid hI0
  generalize hbx : w3.heap.size = bx at *
  have HBX : Hid (w.heap.size ≤ bx ∧ (w.heap.size < bx ∨ N = 0)) := ⟨HS3.out, hgl3⟩
  clear hE3 hgr3 hrow hpA hpL hpA3 hW4 hE4 hgl3 hI0 hbx HS3 hown3
  generalize hgl : w.heap.size = gl at *
  have HGL := Lib.hid hgl
  clear hgl
  go_loopw [8] (fun q8 wr => ∃ (j r : Nat) (P' : PState), j + r = A ∧ q8 = .int .i64 ((r : Int) - 1) ∧ CallI w wr B b P p n bx gl N j P') (fun q _ => (intOf q + 1).toNat)
  case atStart => exact ⟨0, A, P, by omega, rfl, HI0.out⟩
  case round =>
    obtain ⟨j, r, P', hjr, rfl, hI⟩ := hrel
    have HI := Lib.hid hI
    clear hI
    rcases r with _ | r
    · have e1 : (((0 : Nat) : Int) - 1) = -1 := rfl
      rw [e1]
      obtain rfl : j = A := by omega
      clear e1
      have hT' : HasTop P'.g P'.g.now := by rw [(HI.out).g]; exact (HT.out).leave _
      obtain ⟨L, y, R, F, x, hs, hnw⟩ := hasSpot hT'
      have hnw : P'.now = L.length := hnw
      obtain ⟨g, o, cap2, hvf, hlt, d0, -, hbl⟩ := (HI.out).own.place hs.fs
      obtain ⟨ay, cy, ey, hcy, _⟩ := ((HI.out).own.fs y (by rw [hs.fs]; simp)).row.shape
      have hfew := ((HI.out).own.fs y (by rw [hs.fs]; simp)).few
      obtain ⟨c0, c0'⟩ := (HI.out).own.c0
      obtain ⟨k1, k1'⟩ := (HI.out).own.c1
      rw [hnw] at k1
      rw [hvf] at c0
      rw [ey] at d0
      have hCF : curF P'.g = y.g := curF_at hs.fs hnw
      have hfl : (curF P.g).frames.length = y.fr.length := by
        have e : (curF P'.g).frames.length = (curF P.g).frames.length := by
          rw [(HI.out).g]
          unfold leaveG modTop
          rw [curF_mod P.g ⟨(HT.out).1, (HT.out).2.1⟩]
          simp
        rw [← e, hCF]
        unfold PFiber.g
        simp
      have HS := Lib.hid hs
      have HVF := Lib.hid hvf
      have HEY := Lib.hid ey
      have HNW := Lib.hid hnw
      have HFL := Lib.hid hfl
      have HBL := Lib.hid hbl
      have D0 := Lib.hid d0
      obtain ⟨d0, d0'⟩ := d0
      clear hT' hvf ey hnw hfl hs hCF hbl
      go_upto_region 6 with fail
      by_cases h6 : y.fr.length = 6
      · have T6 : (((y.fr.length : Nat) : Int) == 6) = true := by rw [h6]; rfl
        have HG : Hid (callG p P.g n = (2, P.g)) := by unfold Hid callG; rw [if_pos (by rw [HFL.out]; exact h6)]
        clear h6
        refine wp_region_ext (by kernel_rfl) (by kernel_rfl) ?_
        repeat (first
          | go_big_quiet_skip
          | (go_big_quiet_want
             unfold Oper.quiet
             apply Exists.intro
             refine ⟨fun w' hw' => ?_, ?_⟩
             focus
               have hcq := Ext.keep hw'
               go_simp
               first
                 | with_reducible rfl
             (try dsimp only [Act.put])
             (try simp only [List.setIfInBounds_toArray, List.set_cons_succ, List.set_cons_zero])
             go_big_quiet_on))
        refine wpQuiet_nil ?_
        intro wq hq
        go_wp2_with fail
        go_ret
        rw [HG.out]
        exact ⟨rfl, ⟨(HI.out).chg.trans (Chg.of_ext hq), fun h => by cases h⟩⟩
      · have T6 : (((y.fr.length : Nat) : Int) == 6) = false := beq_false_of_ne (by omega)
        have HG : Hid (callG p P.g n = (0, modFib (leaveG P.g (funcOf p n).args.toNat) P.g.now fun f => { f with frames := f.frames ++ [⟨n, 0, argsOf p P.g n (funcOf p n).args.toNat, []⟩] })) := by unfold Hid callG; rw [if_neg (by rw [HFL.out]; exact h6)]
        clear h6
        refine wp_region_ext (by kernel_rfl) (by kernel_rfl) ?_
        repeat (first
          | go_big_quiet_skip
          | (go_big_quiet_want
             unfold Oper.quiet
             apply Exists.intro
             refine ⟨fun w' hw' => ?_, ?_⟩
             focus
               have hcq := Ext.keep hw'
               go_simp
               first
                 | with_reducible rfl
             (try dsimp only [Act.put])
             (try simp only [List.setIfInBounds_toArray, List.set_cons_succ, List.set_cons_zero])
             go_big_quiet_on))
        refine wpQuiet_nil ?_
        intro wq hq
        have HQ := Lib.hid hq
        obtain ⟨i1, hi1, hz3, hz4, hz5⟩ := info_parts infoFr
        have HIQ := Lib.hid ((HI.out).ext hq)
        obtain ⟨c0, c0'⟩ := Cx.ext (W := wr) ⟨c0, c0'⟩ hq
        obtain ⟨k1, k1'⟩ := Cx.ext (W := wr) ⟨k1, k1'⟩ hq
        obtain ⟨d0, d0'⟩ := Cx.ext (W := wr) ⟨d0, d0'⟩ hq
        obtain ⟨b0, b0'⟩ := (HIQ.out).c0
        obtain ⟨b1, b1'⟩ := (HIQ.out).c1
        obtain ⟨b2, b2'⟩ := (HIQ.out).c2
        obtain ⟨b3, b3'⟩ := (HIQ.out).c3
        clear hq
        go_upto_region 8 with fail
        refine wp_region_rt (fun w' => w'.cell? ⟨b, 0, none⟩ = some (.slice (some ⟨g, o, none⟩) P'.fs.length cap2) ∧ w'.cell? ⟨b, 1, none⟩ = some (.int .i64 (L.length : Int)) ∧ w'.cell? ⟨g, o + L.length * 2, none⟩ = some (.slice ay y.fr.length cy) ∧
            w'.cell? ⟨bx, 0, none⟩ = some (.int .i64 n) ∧ w'.cell? ⟨bx, 1, none⟩ = some (.int .i64 0) ∧ w'.cell? ⟨bx, 2, none⟩ = some (.slice (some ⟨gl, 0, none⟩) N N) ∧ w'.cell? ⟨bx, 3, none⟩ = some (.slice none 0 0))
          24 [0, 1, 2, 3, 4, 5, 6, 7, 8, 9, 10, 11, 12, 13, 14, 15, 16, 17, 18, 19] [20, 21, 22, 23, 24] (by kernel_rfl) (by kernel_rfl) (fun _ _ _ _ _ h => h) (by refine ⟨?_, ?_, ?_, ?_, ?_, ?_, ?_⟩ <;> simpa) ?_
        (try simp only [pickOps, List.filterMap_cons, List.filterMap_nil, List.getElem?_cons_zero, List.getElem?_cons_succ])
        repeat (
          refine readsQ_do (by rfl) ?_
          apply Exists.intro
          refine ⟨fun w' hw' => ?_, ?_⟩
          focus
            (try dsimp only at hw')
            go_split_ands
            go_simp
            (try with_reducible rfl)
          (try dsimp only [Act.put])
          (try simp only [List.setIfInBounds_toArray, List.set_cons_succ, List.set_cons_zero]))
        refine readsQ_nil ?_
        have hown := (HIQ.out).own
        have hyO := hown.fs y (by rw [(HS.out).fs]; simp)
        have HROW : Hid (RowAt wq B 4 (.slice ay y.fr.length cy) y.fr.length (y.fr.flatMap frameF)) := by unfold Hid; rw [← HEY.out]; exact hyO.row
        have HX9 : Hid (frameF ⟨⟨n, 0, argsOf p P.g n j, []⟩, .slice (some ⟨gl, 0, none⟩) N N, .slice none 0 0⟩ = [.int .i64 n, .int .i64 0, .slice (some ⟨gl, 0, none⟩) N N, .slice none 0 0]) := rfl
        have HBW : Hid (B ≤ wq.heap.size) := Nat.le_trans HB.out (by rw [← HGL.out]; exact (HIQ.out).chg.size)
        have HGY : Hid (∀ k, rowBlock (.slice ay y.fr.length cy) = some k → k ≠ b ∧ k ≠ g ∧ k ≠ bx ∧ k ∈ P'.bl) := by
          intro k hk
          rw [← HEY.out] at hk
          have hm : k ∈ y.bl := by unfold PFiber.bl; simp [hk]
          have hym : y ∈ P'.fs := by rw [(HS.out).fs]; simp
          have hmp := PState.mem_fs hym hm
          obtain ⟨d0, d1, _⟩ := hown.dis
          exact ⟨fun e => d0 (e ▸ hmp), fun e => (d1 g HBL.out).2 y hym (e ▸ hm), fun e => (HIQ.out).nb (List.mem_cons_of_mem _ (e ▸ hmp)), hmp⟩
        have HIQ2 := Lib.hid ((HIQ.out).ext ((Ext.refl wq).alloc (.cells #[.int .i64 n, .int .i64 0, .slice (some ⟨gl, 0, none⟩) N N, .slice none 0 0] 43)).drew)
        have D0Q := Lib.hid (Cx.ext (W := wq) ⟨d0, d0'⟩ ((Ext.refl wq).alloc (.cells #[.int .i64 n, .int .i64 0, .slice (some ⟨gl, 0, none⟩) N N, .slice none 0 0] 43)).drew)
        clear hown hyO
        refine tailW_step ?_
        go_wp2_with fail
        refine nextW_go (by refine ⟨?_, ?_, ?_, ?_, ?_, ?_, ?_⟩ <;> simp [*]) ?_
        refine tailW_step ?_
        go_wp2_with (first
          | (at_builtin; refine wpList_append_row rfl _ _ 39 rfl B 43 i1 (.agg #[.int .i64 0, .int .i64 0, .slice none 0 0, .slice none 0 0]) 4 64 Tryz.underlying39 hi1 hz3 hz4 hz5 rfl (by decide) _ _ _ rfl (by exact (HROW.out.ext (((Ext.refl _).alloc _).drew) (by decide))) 1 _ (by exact src_drew (src_cells _ _ 4 rfl (by simp [Value.oneCell']) _)) (by unfold maxLen; omega) (by omega) (by exact Nat.le_trans HBW.out (Ext.size (((Ext.refl _).alloc _).drew))) ?_; intro v1 Wv1 rv1; have RV := Lib.hid rv1; obtain ⟨a9, cap9, rfl, _, _⟩ := rv1.1.shape; clear rv1))
        have hRV : NewRow (wq.alloc (.cells #[.int .i64 n, .int .i64 0, .slice (some ⟨gl, 0, none⟩) N N, .slice none 0 0] 43)).drew Wv1 B 4 (.slice ay y.fr.length cy) (.slice a9 (y.fr.length + 1) cap9) (y.fr.length + 1) (y.fr.flatMap frameF ++ [.int .i64 n, .int .i64 0, .slice (some ⟨gl, 0, none⟩) N N, .slice none 0 0]) := RV.out
        have e0 := Chg.cell hRV.2.1 (b := b) (o := 0) (fun e => (HGY.out b e).1 rfl) (HIQ2.out).own.c0.1
        have e1 := Chg.cell hRV.2.1 (b := b) (o := 1) (fun e => (HGY.out b e).1 rfl) (HIQ2.out).own.c1.1
        have e2 := Cx.chg (D0Q.out) hRV.2.1 (fun e => (HGY.out g e).2.1 rfl)
        have e3 := Chg.cell hRV.2.1 (b := bx) (o := 0) (fun e => (HGY.out bx e).2.2.1 rfl) (HIQ2.out).c0.1
        have e4 := Chg.cell hRV.2.1 (b := bx) (o := 1) (fun e => (HGY.out bx e).2.2.1 rfl) (HIQ2.out).c1.1
        have e5 := Chg.cell hRV.2.1 (b := bx) (o := 2) (fun e => (HGY.out bx e).2.2.1 rfl) (HIQ2.out).c2.1
        have e6 := Chg.cell hRV.2.1 (b := bx) (o := 3) (fun e => (HGY.out bx e).2.2.1 rfl) (HIQ2.out).c3.1
        rw [HVF.out] at e0
        rw [HNW.out] at e1
        have HSS := Lib.hid (⟨e0, e1, e2.1, e3, e4, e5, e6⟩ : _ ∧ _ ∧ _ ∧ _ ∧ _ ∧ _ ∧ _)
        refine nextW_go HSS.out ?_
        obtain ⟨e2, e2'⟩ := e2
        clear e0 e1 e3 e4 e5 e6
        refine tailW_step ?_
        go_wp2_with fail
        refine nextW_go HSS.out ?_
        refine tailW_step ?_
        go_wp2_with fail
        refine nextW_go HSS.out ?_
        refine tailW_step ?_
        go_wp2_with fail
        refine nextW_end ?_
        go_wp2_with fail
        go_ret
        rw [HG.out, HAT.out]
        have hfin := call_fin (HIQ.out) (HS.out) (HNW.out) (HVF.out) (by rw [HEY.out]; exact hRV) (Ext.refl wq |>.alloc _ |>.drew) (by rw [← HFL.out]; exact hfr9) (HGL.out) (HB.out) (fun hN => by have := (HBX.out).2; omega) (I64.nat (by omega)) (argsOf_i64 p P.g n _ ((H.out).i64s HT.out).1) (by rw [HAL.out _ (Nat.le_refl _)]) (by omega)
        exact ⟨rfl, hfin⟩
    · have e1 : (((r + 1 : Nat) : Int) - 1) = (r : Int) := by omega
      rw [e1]
      have hT' : HasTop P'.g P'.g.now := by rw [(HI.out).g]; exact (HT.out).leave j
      have hcx : (curX P'.g).stack.length = (curX P.g).stack.length - j := by rw [(HI.out).g, curX_leave _ HT.out, List.length_take]; omega
      have HT' := Lib.hid hT'
      have HL' : Hid (1 ≤ (curX P'.g).stack.length) := by unfold Hid; omega
      obtain ⟨x2, x2'⟩ := (HI.out).c2
      have hrN : r < N := by omega
      have KR : IntKind.i64.wrap ((r : Int) - 1) = (r : Int) - 1 := IntWalk.i64_in _ (by omega)
      have hne2 : bx ≠ gl := by have := (HBX.out).2; omega
      clear hT' hcx e1
      go_upto_region 5 with fail
      obtain ⟨u, hu⟩ := (HI.out).cell hrN (by rw [HAL.out j (by omega)])
      have HU := Lib.hid hu
      clear hu
      go_region_held3 (fun w' => w'.cell? ⟨bx, 2, none⟩ = some (.slice (some ⟨gl, 0, none⟩) N N))
        (first | assumption | exact cell_other (by assumption) hne2 _)
        ((go_at_call 93; (with_reducible refine (pull_any ((HI.out).own.ext (by ((repeat (first | assumption | exact Ext.refl _ | (exact And.left (by assumption)) | refine Ext.alloc ?_ _ | refine Ext.drew ?_ | refine Ext.drewN ?_ _ | refine Ext.setCell ?_ (by simp) _ | refine Ext.setCell ?_ (by simp; omega) _ | refine Ext.trans ?_ (by assumption))); done))) HT'.out HL'.out).mono ?_); rintro e w2 ⟨rfl, t2⟩; have hk2 : w2.cell? ⟨bx, 2, none⟩ = some (.slice (some ⟨gl, 0, none⟩) N N) := Chg.cell t2.chg (HI.out).nb (by simpa using x2); obtain ⟨y2, y2'⟩ := ((HU.out).ext (Ext.refl _).drew).chg t2.chg (HI.out).nl))
      go_wp2_with fail
      have t3 : Turn wr w2 B b P' (popG P'.g) := Turn.pre (Ext.refl _).drew t2
      obtain ⟨P'', hI2⟩ := (HI.out).pull HT.out (Nat.le_of_eq HGL.out) (Ne.symm hne2) (by rw [HAT.out]; omega) (by omega) (by rw [HAT.out]; omega) hrN (by rw [HAL.out j (by omega)]) t3
      go_roundw
      case rel => exact ⟨j + 1, r, P'', by omega, rfl, hI2⟩
      case measure => simp [intOf]
end Go.Proofs.YtgahbngbpfilgaaGreat
end
