/- Merged texts: contracts and plain facts, one part behind another; each part begins with what it says. -/
import Derived.Test.YtfajkebkhdcapaaGUAA
import Derived.Test.YtfajkebkhdcapaaGUAH
import Derived.Test.YtfajkebkhdcapaaGUAP
import Derived.OrdersHeld
import Derived.StillTail
section
/- A region that draws its order: all but the last operations read, or call what may make memory and gives one value; the last ones come up in one order. No condition. -/
set_option maxHeartbeats 400000
namespace Go.Proofs.Ytfajkebkhdcapaa
open Go

section
variable {P : Program} {md : Region.Mode} {ops : Array Oper} {C : World → Prop}

/-- Whatever order is picked, as long as operations ahead of number n come up: all of them are quiet. -/
def headQ (P : Program) (md : Region.Mode) (ops : Array Oper) (C : World → Prop) (n : Nat) (L : Array Bool → Act → Prop) : Nat → Array Bool → Act → Prop
  | 0, listed, a => L listed a
  | f + 1, listed, a => Region.ready md ops listed ≠ [] ∧ ∀ i ∈ Region.ready md ops listed, i < n ∧ qOp P ops C i (headQ P md ops C n L f (listed.setIfInBounds i true)) a

theorem wpAny_of_headQ {n g : Nat} {L : Array Bool → Act → Prop} {Q' : Exit → Act → World → Prop} (hL : ∀ listed a w, C w → L listed a → wpAny P md ops Q' g listed a w) :
    ∀ (f : Nat) (listed : Array Bool) (a : Act) (w : World), C w → headQ P md ops C n L f listed a → wpAny P md ops Q' (f + g) listed a w
  | 0, listed, a, w, hw, h => by rw [Nat.zero_add]; exact hL _ _ _ hw h
  | f + 1, listed, a, w, hw, h => by
    rw [show f + 1 + g = (f + g) + 1 by omega]
    exact ⟨fun h0 => absurd h0 h.1, fun i hi => wpOp_of_qOp hw (fun a' w' hw' h' => wpAny_of_headQ hL f _ a' w' hw' h') (h.2 i hi).2⟩

theorem headQ_first {n i : Nat} {oi : Oper} {v : Value} {L : Array Bool → Act → Prop} (hi : ops[i]? = some oi) (hsel : ∀ (j : Nat) (o : Oper) cs b, ops[j]? = some o → o.op ≠ .select cs b)
    (hs : Region.sinkB md ops n = true) (hc : Region.chainB md ops n = true) (hn : n < ops.size) (hin : i < n) (hdone : ∀ listed a, L listed a → ∀ j ∈ Region.ready md ops listed, n ≤ j) :
    ∀ (f : Nat) (listed : Array Bool) (a : Act), HeadInv md ops n listed →
      (∀ j oj, ops[j]? = some oj → j ≠ i → listed.getD j true = false → (∀ e ∈ oj.after, Region.binds md e = true → e.on ≠ i) → oi.apart ops oj = true) →
      i ∈ Region.ready md ops listed → YieldsIn P ops C oi v a →
      headQ P md ops C n L f (listed.setIfInBounds i true) (a.put oi.dst v) → headQ P md ops C n L (f + 1) listed a := by
  intro f
  induction f with
  | zero =>
    intro listed a inv _ hr hy H
    have hun := (mem_ready.1 hr).1
    refine ⟨fun h => (by rw [h] at hr; cases hr), fun j hj => ?_⟩
    have hjn : j < n := by
      rcases Nat.lt_or_ge j n with h | h
      · exact h
      · exact absurd hj (tail_waits hs hc hn inv _ i rfl hin hun j h)
    refine ⟨hjn, ?_⟩
    by_cases hji : j = i
    · subst hji; exact hy.qOp hi H
    · have := hdone _ _ H j (ready_mono hj hji)
      omega
  | succ f ih =>
    intro listed a inv hfree hr hy H
    have hun := (mem_ready.1 hr).1
    refine ⟨fun h => (by rw [h] at hr; cases hr), fun j hj => ?_⟩
    have hjn : j < n := by
      rcases Nat.lt_or_ge j n with h | h
      · exact h
      · exact absurd hj (tail_waits hs hc hn inv _ i rfl hin hun j h)
    refine ⟨hjn, ?_⟩
    by_cases hji : j = i
    · subst hji; exact hy.qOp hi H
    · have h1 := (H.2 j (ready_mono hj hji)).2
      obtain ⟨hjun, oj, hoj, hall⟩ := mem_ready.1 hj
      have hnot : ∀ e ∈ oj.after, Region.binds md e = true → e.on ≠ i := fun e he hb heq => by
        have h1 := hall e he hb
        rw [heq, getD_both hun] at h1
        cases h1
      have h2 := qOp_put hoj (hfree j oj hoj hji hjun hnot) (fun cs b => hsel i oi cs b hi) (fun cs b => hsel j oj cs b hoj) hy h1
      have hfree' : ∀ k ok, ops[k]? = some ok → k ≠ i → (listed.setIfInBounds j true).getD k true = false →
          (∀ e ∈ ok.after, Region.binds md e = true → e.on ≠ i) → oi.apart ops ok = true := fun k ok hk hki hun hno => by
        refine hfree k ok hk hki ?_ hno
        by_cases hjk : j = k
        · subst hjk; exact hjun
        · rw [getD_set_ne true hjk] at hun; exact hun
      refine qOp_mono (fun a' h3 => ih (listed.setIfInBounds j true) a' (inv.set hj hjn) hfree' (ready_mono hr (Ne.symm hji)) h3.1 ?_) h2
      rw [Array.setIfInBounds_comm _ _ hji]
      exact h3.2

theorem headQ_lex {n g : Nat} {Lq : Act → Prop} (hsel : Region.noSelect ops = true) (hs : Region.sinkB md ops n = true) (hc : Region.chainB md ops n = true) (hn : n < ops.size) :
    ∀ (l : List Oper) (k : Nat) (listed : Array Bool) (a : Act), (∀ j, j < l.length → l[j]? = ops[k + j]?) → k + l.length = n → HeadInv md ops n listed →
    Region.lexHead md ops g l.length k listed = true → wpQuiet P ops C Lq l a →
    headQ P md ops C n (fun listed' a' => Region.seqB md ops g n listed' = true ∧ Lq a') l.length listed a
  | [], k, listed, a, _, hk, _, hB, h => by
    have : k = n := by simpa using hk
    subst this
    exact ⟨by simpa [Region.lexHead] using hB, h⟩
  | o :: l, k, listed, a, hl, hk, inv, hB, h => by
    have h0 : ops[k]? = some o := by simpa using (hl 0 (by simp)).symm
    simp only [List.length_cons, Region.lexHead, Bool.and_eq_true] at hB
    obtain ⟨⟨hr, hf⟩, hB'⟩ := hB
    have hkn : k < n := by simp only [List.length_cons] at hk; omega
    have hr' : k ∈ Region.ready md ops listed := by simpa using hr
    have hst : qOp P ops C k (wpQuiet P ops C Lq l) a := by unfold qOp; simp only [h0]; exact h
    obtain ⟨v, hy, hK⟩ := yieldsIn_of_qOp h0 hst
    exact headQ_first h0 (Region.noSelect_spec hsel) hs hc hn hkn (fun listed' a' hL => seqB_ready hL.1) l.length listed a inv (Region.free_spec h0 hf) hr' hy
      (headQ_lex hsel hs hc hn l (k + 1) _ _ (fun j hj => by have := hl (j + 1) (by simp; omega); simpa [Nat.add_assoc, Nat.add_comm 1 j] using this) (by simp only [List.length_cons] at hk; omega) (inv.set hr' hkn) hB' hK)

theorem wp_region_ext_tail {id : Nat} {Q : Exit → Act → World → Prop} {a : Act} {w : World} {l : List Oper} (n : Nat) (hm : P.follows .mixedOrders = true) (hB : Region.lexTailB .any l.toArray n = true)
    (h : wpQuiet P l.toArray (Ext w) (fun a' => ∀ w', Ext w w' → wpList P l.toArray Q (l.drop n) a' w') (l.take n) a) : (Code.region id l.toArray true).wp P Q a w := by
  simp only [Region.lexTailB, Bool.and_eq_true, decide_eq_true_eq] at hB
  obtain ⟨⟨⟨⟨hsel, hn⟩, hs⟩, hc⟩, hlex⟩ := hB
  have hn' : n < l.length := by simpa using hn
  have htl : (l.take n).length = n := by simp; omega
  have hdl : (l.drop n).length = l.toArray.size - n := by simp
  have inv0 : HeadInv .any l.toArray n (Array.replicate l.toArray.size false) :=
    ⟨by simp, fun j oj _ hl => (by rw [getD_replicate_false] at hl; cases hl), fun t _ ht => getD_in (by simpa using ht) (getD_replicate_false _ _)⟩
  have H := headQ_lex (md := .any) (g := l.toArray.size - n) hsel hs hc hn (l.take n) 0 _ a (fun j hj => by
    have hj' : j < n := by rw [htl] at hj; exact hj
    simp [hj']) (by simpa using htl) inv0 (by rw [htl]; exact hlex) h
  refine wp_region_any hm ?_
  have := wpAny_of_headQ (Q' := Q) (g := l.toArray.size - n) (fun listed a' w' hw' hL => by
    have := wpAny_of_seq (md := .any) (Q' := Q) (l.drop n) n listed a' w' (fun j => by simp [List.getElem?_drop]) (by rw [hdl]; exact hL.1) (hL.2 w' hw')
    rwa [hdl] at this) _ _ _ _ (Ext.drew (Ext.refl w)) H
  rw [htl, show n + (l.toArray.size - n) = l.toArray.size by omega] at this
  exact this
end
end Go.Proofs.Ytfajkebkhdcapaa
end
section
/- A region that draws its order: operations that read whatever comes, in whatever order, and others that come up one at a time and keep what is read, but for the last one, which waits for all. No condition. -/
set_option maxHeartbeats 400000
namespace Go.Proofs.Ytfajkebkhdcapaa
open Go

section
variable {P : Program} {md : Region.Mode} {ops : Array Oper} {Q : Exit → Act → World → Prop} {S : World → Prop} {z : Nat}

/-- 'wpAny' with S anew behind each operation but number z. -/
def wpAnyW (P : Program) (md : Region.Mode) (ops : Array Oper) (Q : Exit → Act → World → Prop) (S : World → Prop) (z : Nat) : Nat → Array Bool → Act → World → Prop
  | 0, listed, a, w => Region.ready md ops listed = [] ∧ Q .normal a w
  | fuel + 1, listed, a, w =>
    (Region.ready md ops listed = [] → Q .normal a w) ∧
    ∀ i ∈ Region.ready md ops listed, wpOp P ops Q i (fun a' w' => (i = z ∨ S w') ∧ wpAnyW P md ops Q S z fuel (listed.setIfInBounds i true) a' w') a w

theorem wpAny_of_weak : ∀ (fuel : Nat) (listed : Array Bool) (a : Act) (w : World), wpAnyW P md ops Q S z fuel listed a w → wpAny P md ops Q fuel listed a w
  | 0, _, _, _, h => h
  | fuel + 1, _, _, _, h => ⟨h.1, fun i hi => wpOp_mono (fun a' w' h' => wpAny_of_weak fuel _ a' w' h'.2) (h.2 i hi)⟩

theorem wpAnyW_first {i : Nat} {oi : Oper} {v : Value} (hz : Region.waitsFor md ops z i = true) (hi : ops[i]? = some oi) (hsel : ∀ (j : Nat) (o : Oper) cs b, ops[j]? = some o → o.op ≠ .select cs b)
    (hQ : ∀ c a w, Q (.panic c) (a.put oi.dst v) w → Q (.panic c) a w) :
    ∀ (fuel : Nat) (listed : Array Bool) (a : Act) (w : World), listed.size = ops.size →
      (∀ j oj, ops[j]? = some oj → j ≠ i → listed.getD j true = false → (∀ e ∈ oj.after, Region.binds md e = true → e.on ≠ i) → oi.apart ops oj = true) →
      i ∈ Region.ready md ops listed → YieldsIf P ops S oi v a → S w →
      wpAnyW P md ops Q S z fuel (listed.setIfInBounds i true) (a.put oi.dst v) w → wpAnyW P md ops Q S z (fuel + 1) listed a w := by
  intro fuel
  induction fuel with
  | zero =>
    intro listed a w _ _ hr hy hS H
    refine ⟨fun h => (by rw [h] at hr; cases hr), fun j hj => ?_⟩
    by_cases hji : j = i
    · subst hji; exact hy.wpOp hi hS ⟨.inr hS, H⟩
    · have := ready_mono hj hji
      rw [H.1] at this
      cases this
  | succ fuel ih =>
    intro listed a w hsz hfree hr hy hS H
    refine ⟨fun h => (by rw [h] at hr; cases hr), fun j hj => ?_⟩
    by_cases hji : j = i
    · subst hji; exact hy.wpOp hi hS ⟨.inr hS, H⟩
    · have h1 := H.2 j (ready_mono hj hji)
      obtain ⟨hjun, oj, hoj, hall⟩ := mem_ready.1 hj
      have hnot : ∀ e ∈ oj.after, Region.binds md e = true → e.on ≠ i := fun e he hb heq => by
        have h1 := hall e he hb
        have h0 := (mem_ready.1 hr).1
        rw [heq] at h1
        rcases Nat.lt_or_ge i listed.size with h' | h'
        · simp [h'] at h0 h1; rw [h0] at h1; cases h1
        · simp [Array.getElem?_eq_none h'] at h1
      have hjz : j ≠ z := fun e => by
        subst e
        obtain ⟨oz, hoz, e, he, hb, hon⟩ := Region.waitsFor_spec hz
        rw [hoj] at hoz
        cases hoz
        exact hnot e he hb hon
      have h2 := wpOp_putIf hoj (hfree j oj hoj hji hjun hnot) (fun cs b => hsel i oi cs b hi) (fun cs b => hsel j oj cs b hoj) hQ hy h1
      have hfree' : ∀ k ok, ops[k]? = some ok → k ≠ i → (listed.setIfInBounds j true).getD k true = false →
          (∀ e ∈ ok.after, Region.binds md e = true → e.on ≠ i) → oi.apart ops ok = true := fun k ok hk hki hun hno => by
        refine hfree k ok hk hki ?_ hno
        by_cases hjk : j = k
        · subst hjk; exact hjun
        · rw [getD_set_ne true hjk] at hun; exact hun
      refine wpOp_mono (fun a' w' h3 => ?_) h2
      have h4 := h3.2.1.resolve_left hjz
      exact ⟨.inr h4, ih (listed.setIfInBounds j true) a' w' (by simpa using hsz) hfree' (ready_mono hr (Ne.symm hji)) h3.1 h4 (by rw [Array.setIfInBounds_comm _ _ hji]; exact h3.2.2)⟩

/-- What operations read, whatever world of S it is. -/
def readsQ (P : Program) (ops : Array Oper) (S : World → Prop) (K : Act → Prop) : List Oper → Act → Prop
  | [], a => K a
  | o :: l, a => ∃ v, YieldsIf P ops S o v a ∧ readsQ P ops S K l (a.put o.dst v)
/-- Operations one behind another: S anew behind each but the last. -/
def tailW (P : Program) (ops : Array Oper) (S : World → Prop) (Q : Exit → Act → World → Prop) : List Oper → Act → World → Prop
  | [], a, w => Q .normal a w
  | o :: l, a, w => if Region.wanted o (yielded ops a.tmps) then o.wp P a w (fun a' w' => (l = [] ∨ S w') ∧ tailW P ops S Q l a' w') Q ∨ (o.asks P a w ∧ LetsOut Q) else (l = [] ∨ S w) ∧ tailW P ops S Q l (a.put o.dst undef) w

def pickOps (l : List Oper) (ord : List Nat) : List Oper := ord.filterMap (fun i => l[i]?)

def rtTail (md : Region.Mode) (ops : Array Oper) (z : Nat) : List Nat → Array Bool → Bool
  | [], listed => (Region.ready md ops listed).isEmpty
  | k :: l, listed => decide (Region.ready md ops listed = [k]) && decide (k < ops.size) && (decide (k = z) == l.isEmpty) && rtTail md ops z l (listed.setIfInBounds k true)
def rtHead (md : Region.Mode) (ops : Array Oper) (z : Nat) (tl : List Nat) : List Nat → Array Bool → Bool
  | [], listed => rtTail md ops z tl listed
  | k :: l, listed => (Region.ready md ops listed).contains k && Region.free md ops listed k && decide (k < ops.size) && Region.waitsFor md ops z k && rtHead md ops z tl l (listed.setIfInBounds k true)
/-- The check on a region. -/
def rtB (md : Region.Mode) (ops : Array Oper) (z : Nat) (rd tl : List Nat) : Bool :=
  Region.noSelect ops && decide (rd.length + tl.length = ops.size) && rtHead md ops z tl rd (Array.replicate ops.size false)

theorem wpAnyW_tail {l : List Oper} (hl : ops = l.toArray) : ∀ (tl : List Nat) (fuel : Nat) (listed : Array Bool) (a : Act) (w : World), tl.length = fuel → rtTail md ops z tl listed = true → tailW P ops S Q (pickOps l tl) a w → wpAnyW P md ops Q S z fuel listed a w
  | [], 0, listed, a, w, _, hB, h => ⟨by simpa [rtTail] using hB, h⟩
  | k :: tl, fuel + 1, listed, a, w, hf, hB, h => by
    simp only [rtTail, Bool.and_eq_true, decide_eq_true_eq] at hB
    obtain ⟨⟨⟨h1, h2⟩, h3⟩, h4⟩ := hB
    obtain ⟨o, ho⟩ : ∃ o, l[k]? = some o := ⟨l[k]'(by subst hl; simpa using h2), by rw [List.getElem?_eq_getElem]⟩
    have ho' : ops[k]? = some o := by subst hl; simpa using ho
    have e : pickOps l (k :: tl) = o :: pickOps l tl := by unfold pickOps; simp [ho]
    rw [e] at h
    refine ⟨fun h0 => (by rw [h1] at h0; cases h0), fun i hi => ?_⟩
    rw [h1] at hi
    obtain rfl : i = k := by simpa using hi
    have hnil : pickOps l tl = [] → i = z := fun h0 => by
      cases tl with
      | nil => simpa using h3
      | cons j tl' =>
        exfalso
        simp only [rtTail, Bool.and_eq_true, decide_eq_true_eq] at h4
        have hj := h4.1.1.2
        have : (pickOps l (j :: tl')) ≠ [] := by
          unfold pickOps
          have hj' : l[j]? = some (l[j]'(by subst hl; simpa using hj)) := List.getElem?_eq_getElem _
          simp [hj']
        exact this h0
    have hw : wpOp P ops Q i (fun a' w' => (pickOps l tl = [] ∨ S w') ∧ tailW P ops S Q (pickOps l tl) a' w') a w := by unfold wpOp; simp only [ho']; exact h
    exact wpOp_mono (fun a' w' h' => ⟨h'.1.imp hnil id, wpAnyW_tail hl tl fuel _ a' w' (by simpa using hf) h4 h'.2⟩) hw

theorem wpAnyW_head {l : List Oper} (hl : ops = l.toArray) (hsel : Region.noSelect ops = true)  (hQ : ∀ c a d v w, Q (.panic c) (Act.put a (some d) v) w → Q (.panic c) a w) {w : World} (hS : S w) (tl : List Nat) :
    ∀ (rd : List Nat) (fuel : Nat) (listed : Array Bool) (a : Act), listed.size = ops.size → rd.length + tl.length = fuel → rtHead md ops z tl rd listed = true → readsQ P ops S (fun a' => tailW P ops S Q (pickOps l tl) a' w) (pickOps l rd) a → wpAnyW P md ops Q S z fuel listed a w
  | [], fuel, listed, a, hs, hf, hB, h => wpAnyW_tail hl tl fuel listed a w (by simpa using hf) hB h
  | k :: rd, fuel, listed, a, hs, hf, hB, h => by
    simp only [rtHead, Bool.and_eq_true, decide_eq_true_eq] at hB
    obtain ⟨⟨⟨⟨h1, h2⟩, h3⟩, h4⟩, h5⟩ := hB
    obtain ⟨o, ho⟩ : ∃ o, l[k]? = some o := ⟨l[k]'(by subst hl; simpa using h3), by rw [List.getElem?_eq_getElem]⟩
    have ho' : ops[k]? = some o := by subst hl; simpa using ho
    have e : pickOps l (k :: rd) = o :: pickOps l rd := by unfold pickOps; simp [ho]
    rw [e] at h
    obtain ⟨v, hy, hK⟩ := h
    obtain ⟨f, rfl⟩ : ∃ f, fuel = f + 1 := ⟨fuel - 1, by simp at hf; omega⟩
    exact wpAnyW_first h4 ho' (Region.noSelect_spec hsel) (fun c a w h => by cases hd : o.dst with | none => rw [hd] at h; exact h | some d => rw [hd] at h; exact hQ c _ _ _ w h) f listed a w hs (Region.free_spec ho' h2) (by simpa using h1) hy hS
      (wpAnyW_head hl hsel hQ hS tl rd f _ _ (by simpa using hs) (by simp at hf; omega) h5 hK)

theorem wp_region_rt {id : Nat} {l : List Oper} {a : Act} {w : World} (S : World → Prop) (z : Nat) (rd tl : List Nat) (hm : P.follows .mixedOrders = true) (hB : rtB .any l.toArray z rd tl = true) (hQ : ∀ c a d v w, Q (.panic c) (Act.put a (some d) v) w → Q (.panic c) a w) (hS : S w.drew)
    (h : readsQ P l.toArray S (fun a' => tailW P l.toArray S Q (pickOps l tl) a' w.drew) (pickOps l rd) a) : (Code.region id l.toArray true).wp P Q a w := by
  simp only [rtB, Bool.and_eq_true, decide_eq_true_eq] at hB
  obtain ⟨⟨h1, h2⟩, h4⟩ := hB
  refine wp_region_any hm (wpAny_of_weak (S := S) (z := z) _ _ _ _ ?_)
  exact wpAnyW_head rfl h1 hQ hS tl rd _ _ a (by simp) h2 h4 h

/-- A read. -/
theorem readsQ_do {o : Oper} {l : List Oper} {a : Act} {K : Act → Prop} (hw : Region.wanted o (yielded ops a.tmps) = true) (h : ∃ v, (∀ w, S w → (execOp a.eval o).run P w = .ok (.value v) w) ∧ readsQ P ops S K l (a.put o.dst v)) : readsQ P ops S K (o :: l) a := by
  obtain ⟨v, h1, h2⟩ := h
  exact ⟨v, .inl ⟨hw, h1⟩, h2⟩
theorem readsQ_nil {a : Act} {K : Act → Prop} (h : K a) : readsQ P ops S K [] a := h

theorem Oper.wp_exits {o : Oper} {a : Act} {w : World} {K : Act → World → Prop} {Q' : Exit → Act → World → Prop} (hQ : ∀ c a w, Q' (.panic c) a w → Q (.panic c) a w) (hL : LetsOut Q' → LetsOut Q) (hh : o.wp P a w K Q') : o.wp P a w K Q := by
  unfold Oper.wp at *
  generalize (execOp a.eval o).run P w = r at *
  cases r with
  | ok n w' =>
    cases n <;> simp only [Oper.upon] at hh ⊢ <;>
      first
        | exact hh
        | exact Calls.mono hh (fun e w'' he => by cases e <;> first | exact he | exact hQ _ _ _ he | exact hL he)
  | halt x w' => cases x <;> simp only [Oper.upon] at hh ⊢ <;> first | exact hh | exact hQ _ _ _ hh
/-- One operation, by the walk's own words. -/
def nextW (P : Program) (ops : Array Oper) (S : World → Prop) (Q : Exit → Act → World → Prop) (l : List Oper) : Exit → Act → World → Prop
  | .normal, a, w => (l = [] ∨ S w) ∧ tailW P ops S Q l a w
  | e, a, w => Q e a w
theorem tailW_step {o : Oper} {l : List Oper} {a : Act} {w : World} (h : wpList P ops (nextW P ops S Q l) [o] a w) : tailW P ops S Q (o :: l) a w := by
  have hL : LetsOut (nextW P ops S Q l) → LetsOut Q := fun ⟨a, w, h⟩ => ⟨a, w, h⟩
  unfold tailW
  unfold wpList at h
  split at h
  · rename_i hw
    rw [if_pos hw]
    refine h.imp (fun h1 => Oper.wp_exits (fun _ _ _ h => h) hL h1) (fun h1 => ⟨h1.1, hL h1.2⟩)
  · rename_i hw
    rw [if_neg hw]
    exact h
theorem nextW_go {l : List Oper} {a : Act} {w : World} (hS : S w) (h : tailW P ops S Q l a w) : nextW P ops S Q l .normal a w := ⟨.inr hS, h⟩
theorem nextW_end {a : Act} {w : World} (h : Q .normal a w) : nextW P ops S Q [] .normal a w := ⟨.inl rfl, h⟩

/-! ### Where more than one operation may come up behind the reads -/
end
end Go.Proofs.Ytfajkebkhdcapaa
end
section
/- A state in own memory: plain facts of a call's args; a frame put on top. No condition. -/
set_option maxHeartbeats 1000000
namespace Go.Proofs.Ytfajkebkhdcapaa
open Go Go.RowKit

theorem modify_same {α : Type} : ∀ (l : List α) (n : Nat) (g : α → α), (∀ x, g x = x) → l.modify n g = l
  | [], n, g, _ => by cases n <;> rfl
  | a :: l, 0, g, h => by rw [List.modify_zero_cons, h]
  | a :: l, n + 1, g, h => by rw [List.modify_succ_cons, modify_same l n g h]
theorem modify_twice {α : Type} : ∀ (l : List α) (n : Nat) (g f : α → α), (l.modify n f).modify n g = l.modify n (fun x => g (f x))
  | [], n, g, f => by cases n <;> rfl
  | a :: l, 0, g, f => by simp only [List.modify_zero_cons]
  | a :: l, n + 1, g, f => by simp only [List.modify_succ_cons, modify_twice l n g f]
theorem modFib_same (s : GState) (n : Int) (g : GFiber → GFiber) (h : ∀ f, g f = f) : modFib s n g = s := by
  unfold modFib; rw [modify_same _ _ _ h]
theorem modFib_twice (s : GState) (n : Int) (g f : GFiber → GFiber) : modFib (modFib s n f) n g = modFib s n fun x => g (f x) := by
  unfold modFib; simp only [modify_twice]
theorem modTop_same (s : GState) (n : Int) (g : GFrame → GFrame) (h : ∀ f, g f = f) : modTop s n g = s :=
  modFib_same s n _ fun f => by rw [modify_same _ _ _ h]
theorem modTop_twice (s : GState) (n : Int) (g f : GFrame → GFrame) : modTop (modTop s n f) n g = modTop s n fun x => g (f x) := by
  unfold modTop
  rw [modFib_twice]
  simp only [List.length_modify, modify_twice]
theorem leave_zero (s : GState) : leaveG s 0 = s := modTop_same s _ _ fun x => by rw [Nat.sub_zero, List.take_length]
theorem leave_succ (s : GState) (j : Nat) : leaveG s (j + 1) = popG (leaveG s j) := by
  unfold leaveG popG
  show _ = modTop (modTop s s.now _) s.now _
  rw [modTop_twice]
  refine congrArg (modTop s s.now) (funext fun x => ?_)
  simp only [GFrame.mk.injEq, true_and]
  rw [List.dropLast_eq_take, List.take_take, List.length_take]
  congr 1
  omega
theorem curX_leave (s : GState) (h : HasTop s s.now) (j : Nat) : curX (leaveG s j) = { curX s with stack := (curX s).stack.take ((curX s).stack.length - j) } := curX_mod s h _
theorem HasTop.leave {s : GState} {n : Int} (h : HasTop s n) (j : Nat) : HasTop (leaveG s j) n := h.top _
theorem Room.leave {s : GState} (h : Room s) (j : Nat) : Room (leaveG s j) := h.top _ fun x => by simp

theorem argsOf_succ (p : List GFunc) (s : GState) (h : HasTop s s.now) (a : Int) (j : Nat) (hj : j < (funcOf p a).args.toNat) (hl : j < (curX s).stack.length) :
    (argsOf p s a j).set ((funcOf p a).args.toNat - j - 1) (lastV (leaveG s j)) = argsOf p s a (j + 1) := by
  obtain ⟨A, hA⟩ : ∃ A, (funcOf p a).args.toNat = A := ⟨_, rfl⟩
  have hlast : lastV (leaveG s j) = (curX s).stack.getD ((curX s).stack.length - (j + 1)) 0 := by
    unfold lastV
    rw [curX_leave s h]
    simp only [List.length_take]
    have e : min ((curX s).stack.length - j) (curX s).stack.length - 1 = (curX s).stack.length - (j + 1) := by omega
    rw [e, List.getD_eq_getElem?_getD, List.getElem?_take_of_lt (by omega), ← List.getD_eq_getElem?_getD]
  have hd : (curX s).stack.drop ((curX s).stack.length - (j + 1)) = (curX s).stack.getD ((curX s).stack.length - (j + 1)) 0 :: (curX s).stack.drop ((curX s).stack.length - j) := by
    have hlt : (curX s).stack.length - (j + 1) < (curX s).stack.length := by omega
    rw [List.drop_eq_getElem_cons hlt, List.getD_eq_getElem?_getD, List.getElem?_eq_getElem hlt]
    congr 2
    omega
  unfold argsOf
  rw [hlast, hd]
  rw [hA] at hj ⊢
  obtain ⟨d, rfl⟩ : ∃ d, A = j + 1 + d := ⟨A - (j + 1), by omega⟩
  have e1 : j + 1 + d - j = d + 1 := by omega
  have e2 : j + 1 + d - (j + 1) = d := by omega
  have e3 : j + 1 + d - j - 1 = d := by omega
  rw [e3, e1, e2, List.replicate_succ']
  simp only [List.append_assoc]
  rw [List.set_append_right _ _ (by rw [List.length_replicate]; exact Nat.le_refl _), List.length_replicate, Nat.sub_self]
  simp
theorem argsOf_i64 (p : List GFunc) (s : GState) (a : Int) (j : Nat) (h : ∀ k ∈ (curX s).stack, I64 k) : ∀ k ∈ argsOf p s a j, I64 k := by
  intro k hk
  unfold argsOf at hk
  simp only [List.mem_append] at hk
  rcases hk with (hk | hk) | hk
  · rw [List.eq_of_mem_replicate hk]; exact I64.zero
  · exact h k (List.drop_subset _ _ hk)
  · rw [List.eq_of_mem_replicate hk]; exact I64.zero

theorem src_cells (w : World) (cs : List Value) (n : Nat) (hn : cs.length = n) (h1 : ∀ u ∈ cs, u.oneCell' = true) (t : TypeId) : SrcSl (w.alloc (.cells cs.toArray t)) n (.slice (some ⟨w.heap.size, 0, none⟩) 1 1) 1 cs := by
  refine ⟨_, 1, rfl, by omega, h1, .inr ⟨_, rfl, fun j u hj => ?_⟩⟩
  rw [show ((⟨w.heap.size, 0, none⟩ : Addr).add j) = ⟨w.heap.size, j, none⟩ by unfold Addr.add; split <;> simp_all, World.cell?_alloc_new, List.getElem?_toArray, hj]
theorem infoFr : (Try.prog.info? 45).map (fun i => (i.zero, i.size, i.bytes)) = some (some (.agg #[.int .i64 0, .int .i64 0, .slice none 0 0, .slice none 0 0]), 4, 64) := by kernel_rfl
theorem infoFb : (Try.prog.info? 43).map (fun i => (i.zero, i.size, i.bytes)) = some (some (.agg #[.slice none 0 0, .int .i64 0]), 2, 32) := by kernel_rfl

/-- A frame is put on a fiber's row of frames. -/
theorem OwnS.addFrame {P : PState} {L R : List PFiber} {y : PFiber} {x : PFrame} {W W1 : World} {B b g o n cap : Nat} (h : OwnS W B b P) (hP : P.fs = L ++ y :: R) (hv : P.vfs = .slice (some ⟨g, o, none⟩) n cap) {v1 : Value}
    (hc : Chg (fun k => rowBlock y.vf = some k) W W1) (hr : RowAt W1 B 4 v1 (y.fr ++ [x]).length ((y.fr ++ [x]).flatMap frameF)) (hx : FrameO W1 B x) (hl : y.fr.length < 1000)
    (hv1 : rowBlock v1 = rowBlock y.vf ∨ ∀ k, rowBlock v1 = some k → W.heap.size ≤ k) (hn : x.bl.Nodup) (hf : ∀ k ∈ x.bl, k ∉ b :: P.bl ∧ rowBlock v1 ≠ some k) :
    OwnS (W1.setCell ⟨g, o + L.length * 2, none⟩ v1) B b { P with fs := L ++ ⟨y.fr ++ [x], y.caller, v1⟩ :: R } ∧ Chg (· ∈ P.bl) W (W1.setCell ⟨g, o + L.length * 2, none⟩ v1) := by
  have hym : y ∈ P.fs := by rw [hP]; simp
  have hy := h.fs y hym
  have hnd := h.fnodup hP
  have hsub : ∀ k ∈ y.bl, k ∈ P.bl := fun k hk => PState.mem_fs hym hk
  have hbl : y.bl = (rowBlock y.vf).toList ++ y.fr.flatMap PFrame.bl := rfl
  have hbl' : PFiber.bl ⟨y.fr ++ [x], y.caller, v1⟩ = (rowBlock v1).toList ++ (y.fr.flatMap PFrame.bl ++ x.bl) := by unfold PFiber.bl; simp
  rw [hbl] at hnd
  obtain ⟨-, hn2, hn3⟩ := List.nodup_append.1 hnd
  have hfr : ∀ u ∈ y.fr, FrameO W1 B u := fun u hu => (hy.fr u hu).chg hc fun k hk e => by
    have h1 : k ∈ y.fr.flatMap PFrame.bl := List.mem_flatMap.2 ⟨u, hu, hk⟩
    exact hn3 k (by rw [show rowBlock y.vf = some k from e]; simp) k h1 rfl
  refine h.setFrames' (y' := ⟨y.fr ++ [x], y.caller, v1⟩) hP hv hc rfl ⟨hy.i, hr, fun u hu => ?_, ?_⟩ ?_ fun k hk => ?_
  · have hu' : u ∈ y.fr ++ [x] := hu
    rcases List.mem_append.1 hu' with h1 | h1
    · exact hfr u h1
    · rw [List.mem_singleton.1 h1]; exact hx
  · show (y.fr ++ [x]).length ≤ 1000
    rw [List.length_append, List.length_singleton]; omega
  · rw [hbl', List.nodup_append]
    refine ⟨by cases rowBlock v1 <;> simp, List.nodup_append.2 ⟨hn2, hn, fun a ha c hc e => ?_⟩, fun a ha c hc e => ?_⟩
    · subst e
      exact (hf a hc).1 (List.mem_cons_of_mem _ (hsub a (by rw [hbl]; exact List.mem_append.2 (.inr ha))))
    · subst e
      have ha' : rowBlock v1 = some a := by simpa using ha
      rcases List.mem_append.1 hc with h1 | h1
      · rcases hv1 with h2 | h2
        · exact hn3 a (by rw [← h2, ha']; simp) a h1 rfl
        · have h3 := h2 a ha'
          have h4 := h.lt a (List.mem_cons_of_mem _ (hsub a (by rw [hbl]; exact List.mem_append.2 (.inr h1))))
          omega
      · exact (hf a h1).2 ha'
  · rw [hbl'] at hk
    rcases List.mem_append.1 hk with h1 | h1
    · have h1' : rowBlock v1 = some k := by simpa using h1
      rcases hv1 with h2 | h2
      · exact .inl (by rw [hbl, ← h2, h1']; simp)
      · refine .inr fun h3 => ?_
        have h4 := h2 k h1'
        have h5 := h.lt k h3
        omega
    · rcases List.mem_append.1 h1 with h2 | h2
      · exact .inl (by rw [hbl]; exact List.mem_append.2 (.inr h2))
      · exact .inr (hf k h2).1
end Go.Proofs.Ytfajkebkhdcapaa
end
section
/- The engine of package step: push. -/
set_option maxHeartbeats 4000000
set_option maxRecDepth 100000
namespace Go.Proofs.Ytfajkebkhdcapaa
open Go Go.RowKit

theorem src_given {w : World} {b o c : Nat} {v : Int} (h : w.cell? ⟨b, o, none⟩ = some (.int .i64 v)) : SrcSl w 1 (.slice (some ⟨b, o, none⟩) 1 c) 1 (ints [v]) := by
  refine ⟨_, _, rfl, by simp [ints], fun u hu => by simp [ints] at hu; subst hu; rfl, .inr ⟨_, rfl, fun j u hj => ?_⟩⟩
  cases j with
  | zero => simp [ints] at hj; subst hj; exact h
  | succ j => simp [ints] at hj

theorem engPush_at {P : PState} {L R : List PFiber} {y : PFiber} {F : List PFrame} {x : PFrame} {w : World} {B b eb : Nat} {p : List GFunc} {a : Option Addr} {cp lb lo lc : Nat} (h : OwnS w B b P) (hE : Eng w eb b p a cp) (hs : Spot P L y R F x) (hnow : P.now = (L.length : Int)) (v : Int) (hv : I64 v) (hlen : x.f.stack.length < 1000) (hc : w.cell? ⟨lb, lo, none⟩ = some (.int .i64 v)) :
    Calls Try.prog 74 #[.pointer (some ⟨eb, 0, none⟩), .slice (some ⟨lb, lo, none⟩) 1 lc] w fun e w' => e = .returned (.tuple #[]) ∧ (∃ v1, OwnS w' B b (replTop P L y R F ⟨{ x.f with stack := x.f.stack ++ [v] }, x.vl, v1⟩) ∧ (rowBlock v1 = rowBlock x.vs ∨ ∀ k, rowBlock v1 = some k → w.heap.size ≤ k)) ∧
      Chg (fun k => rowBlock y.vf = some k ∨ rowBlock x.vs = some k) w w' := by
  obtain ⟨g, o, cap, e1, hcap, hmax, -, -, -, d3, hbl⟩ := h.spot hs
  have hx := (h.fs y (by rw [hs.fs]; simp)).fr x (by rw [hs.fr]; simp)
  have H := Lib.hid h
  have HB : Hid (B ≤ w.heap.size) := Nat.le_trans h.le (Nat.le_of_lt h.c0.lt)
  have HX := Lib.hid hx
  have D3 := Lib.hid d3
  have HE1 := Lib.hid e1
  obtain ⟨i0, hi0, hz0, hz1, hz2⟩ := info_parts infoI
  have RA := alloc_keep
  obtain ⟨as_, cs, es, hcs, hms⟩ := hx.s.shape
  have HES := Lib.hid es
  have HENG := Lib.hid hE
  have HC := Lib.hid hc
  have HXS : Hid (RowAt w B 1 (.slice as_ x.f.stack.length cs) x.f.stack.length (ints x.f.stack)) := by unfold Hid; rw [← es]; exact hx.s
  have HGX : Hid (¬ rowBlock (.slice as_ x.f.stack.length cs) = some g) := by unfold Hid; rw [← es]; exact fun e => (h.sep hs).1 g hbl (by unfold PFrame.bl; simp [e])
  clear hc hE h hx d3 e1 hcap hmax es hcs hms
  go_enter Try.func74, Try.ntmps74
  go_upto_region 1 with (first
    | (go_at_call 73; (with_reducible refine (engTop_any H.out HENG.out hs HE1.out hnow).mono ?_); rintro e w2 ⟨rfl, hx2⟩))
  have HX2 := Lib.hid hx2
  obtain ⟨d3, d3'⟩ := D3.out.ext hx2
  rw [HES.out] at d3
  have HS2 : Hid (B ≤ w2.heap.size) := Nat.le_trans HB.out hx2.size
  clear hx2
  go_wp2_with (first
    | (at_builtin; refine wpList_append_row rfl _ _ 27 rfl B 3 i0 (.int .i64 0) 1 8 Try.underlying27 hi0 hz0 hz1 hz2 rfl (by decide) _ _ _ rfl (by exact (HXS.out.ext (HX2.out) (by decide))) 1 (ints [v]) (src_given (Ext.cell HX2.out HC.out)) (by unfold maxLen; omega) (by omega) (by exact Nat.le_trans HS2.out (Nat.le_refl _)) ?_; intro v1 Wv1 rv1; have RV := Lib.hid rv1; obtain ⟨k0, k0'⟩ := (D3.out.ext (HX2.out)).chg rv1.2.1 HGX.out; obtain ⟨a9, cap9, rfl, _, _⟩ := rv1.1.shape; clear rv1))
  go_end0
  have hRV : NewRow w2 Wv1 B 1 (.slice as_ x.f.stack.length cs) (.slice a9 (x.f.stack.length + 1) cap9) (x.f.stack.length + 1) (ints x.f.stack ++ ints [v]) := RV.out
  have hA : Ext w w2 := HX2.out
  obtain ⟨r1, r2, r3⟩ := hRV
  have hfin := H.out.stack hs HE1.out (W1 := Wv1) (st := x.f.stack ++ [v]) (v1 := .slice a9 (x.f.stack.length + 1) cap9)
    ((Chg.of_ext hA).trans (r2.mono (fun k _ e => by rw [HES.out]; exact e)))
    (by rw [List.length_append, List.length_singleton, ints_app]; exact r1) (fun k hk => by rcases List.mem_append.1 hk with h1 | h1; exact HX.out.i.2.2.2 k h1; rw [List.mem_singleton.1 h1]; exact hv)
    (by rw [List.length_append, List.length_singleton]; omega) (r3.imp (fun e => by rw [HES.out]; exact e) (fun e k hk => Nat.le_trans hA.size (e k hk)))
  exact ⟨rfl, ⟨_, hfin.1, r3.imp (fun e => by rw [HES.out]; exact e) (fun e k hk => Nat.le_trans hA.size (e k hk))⟩, hfin.2⟩

end Go.Proofs.Ytfajkebkhdcapaa
end
