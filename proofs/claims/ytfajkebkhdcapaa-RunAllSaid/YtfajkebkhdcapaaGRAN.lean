/- Merged texts: contracts and plain facts, one part behind another; each part begins with what it says. -/
import Derived.Test.YtfajkebkhdcapaaGRAH
import Derived.Test.YtfajkebkhdcapaaGRAM
import Derived.OrdersHeld
section
/- A region that draws its order: operations that read whatever comes, in whatever order, and others that come up one at a time and keep what is read, but for the last one, which waits for all. No condition. -/
set_option maxHeartbeats 400000
namespace Go.Proofs.Ytfajkebkhdcapaa
open Go

section
variable {P : Program} {md : Region.Mode} {ops : Array Oper} {Q : Exit → Act → World → Prop} {S : World → Prop} {z : Nat}

/-- 'wpAny' with S anew behind each operation but number z. -/
def wpAnyW (P : Program) (md : Region.Mode) (ops : Array Oper) (Q : Exit → Act → World → Prop) (S : World → Prop) (z : Nat) : Nat → Array Bool → Act → World → Prop
  | 0, listed, a, w => Region.ready md ops listed = [] ∧ Q .normal a w
  | fuel + 1, listed, a, w =>
    (Region.ready md ops listed = [] → Q .normal a w) ∧
    ∀ i ∈ Region.ready md ops listed, wpOp P ops Q i (fun a' w' => (i = z ∨ S w') ∧ wpAnyW P md ops Q S z fuel (listed.setIfInBounds i true) a' w') a w

theorem wpAny_of_weak : ∀ (fuel : Nat) (listed : Array Bool) (a : Act) (w : World), wpAnyW P md ops Q S z fuel listed a w → wpAny P md ops Q fuel listed a w
  | 0, _, _, _, h => h
  | fuel + 1, _, _, _, h => ⟨h.1, fun i hi => wpOp_mono (fun a' w' h' => wpAny_of_weak fuel _ a' w' h'.2) (h.2 i hi)⟩

theorem wpAnyW_first {i : Nat} {oi : Oper} {v : Value} (hz : Region.waitsFor md ops z i = true) (hi : ops[i]? = some oi) (hsel : ∀ (j : Nat) (o : Oper) cs b, ops[j]? = some o → o.op ≠ .select cs b)
    (hQ : ∀ c a w, Q (.panic c) (a.put oi.dst v) w → Q (.panic c) a w) :
    ∀ (fuel : Nat) (listed : Array Bool) (a : Act) (w : World), listed.size = ops.size →
      (∀ j oj, ops[j]? = some oj → j ≠ i → listed.getD j true = false → (∀ e ∈ oj.after, Region.binds md e = true → e.on ≠ i) → oi.apart ops oj = true) →
      i ∈ Region.ready md ops listed → YieldsIf P ops S oi v a → S w →
      wpAnyW P md ops Q S z fuel (listed.setIfInBounds i true) (a.put oi.dst v) w → wpAnyW P md ops Q S z (fuel + 1) listed a w := by
  intro fuel
  induction fuel with
  | zero =>
    intro listed a w _ _ hr hy hS H
    refine ⟨fun h => (by rw [h] at hr; cases hr), fun j hj => ?_⟩
    by_cases hji : j = i
    · subst hji; exact hy.wpOp hi hS ⟨.inr hS, H⟩
    · have := ready_mono hj hji
      rw [H.1] at this
      cases this
  | succ fuel ih =>
    intro listed a w hsz hfree hr hy hS H
    refine ⟨fun h => (by rw [h] at hr; cases hr), fun j hj => ?_⟩
    by_cases hji : j = i
    · subst hji; exact hy.wpOp hi hS ⟨.inr hS, H⟩
    · have h1 := H.2 j (ready_mono hj hji)
      obtain ⟨hjun, oj, hoj, hall⟩ := mem_ready.1 hj
      have hnot : ∀ e ∈ oj.after, Region.binds md e = true → e.on ≠ i := fun e he hb heq => by
        have h1 := hall e he hb
        have h0 := (mem_ready.1 hr).1
        rw [heq] at h1
        rcases Nat.lt_or_ge i listed.size with h' | h'
        · simp [h'] at h0 h1; rw [h0] at h1; cases h1
        · simp [Array.getElem?_eq_none h'] at h1
      have hjz : j ≠ z := fun e => by
        subst e
        obtain ⟨oz, hoz, e, he, hb, hon⟩ := Region.waitsFor_spec hz
        rw [hoj] at hoz
        cases hoz
        exact hnot e he hb hon
      have h2 := wpOp_putIf hoj (hfree j oj hoj hji hjun hnot) (fun cs b => hsel i oi cs b hi) (fun cs b => hsel j oj cs b hoj) hQ hy h1
      have hfree' : ∀ k ok, ops[k]? = some ok → k ≠ i → (listed.setIfInBounds j true).getD k true = false →
          (∀ e ∈ ok.after, Region.binds md e = true → e.on ≠ i) → oi.apart ops ok = true := fun k ok hk hki hun hno => by
        refine hfree k ok hk hki ?_ hno
        by_cases hjk : j = k
        · subst hjk; exact hjun
        · rw [getD_set_ne true hjk] at hun; exact hun
      refine wpOp_mono (fun a' w' h3 => ?_) h2
      have h4 := h3.2.1.resolve_left hjz
      exact ⟨.inr h4, ih (listed.setIfInBounds j true) a' w' (by simpa using hsz) hfree' (ready_mono hr (Ne.symm hji)) h3.1 h4 (by rw [Array.setIfInBounds_comm _ _ hji]; exact h3.2.2)⟩

/-- What operations read, whatever world of S it is. -/
def readsQ (P : Program) (ops : Array Oper) (S : World → Prop) (K : Act → Prop) : List Oper → Act → Prop
  | [], a => K a
  | o :: l, a => ∃ v, YieldsIf P ops S o v a ∧ readsQ P ops S K l (a.put o.dst v)
/-- Operations one behind another: S anew behind each but the last. -/
def tailW (P : Program) (ops : Array Oper) (S : World → Prop) (Q : Exit → Act → World → Prop) : List Oper → Act → World → Prop
  | [], a, w => Q .normal a w
  | o :: l, a, w => if Region.wanted o (yielded ops a.tmps) then o.wp P a w (fun a' w' => (l = [] ∨ S w') ∧ tailW P ops S Q l a' w') Q ∨ (o.asks P a w ∧ LetsOut Q) else (l = [] ∨ S w) ∧ tailW P ops S Q l (a.put o.dst undef) w

def pickOps (l : List Oper) (ord : List Nat) : List Oper := ord.filterMap (fun i => l[i]?)

def rtTail (md : Region.Mode) (ops : Array Oper) (z : Nat) : List Nat → Array Bool → Bool
  | [], listed => (Region.ready md ops listed).isEmpty
  | k :: l, listed => decide (Region.ready md ops listed = [k]) && decide (k < ops.size) && (decide (k = z) == l.isEmpty) && rtTail md ops z l (listed.setIfInBounds k true)
def rtHead (md : Region.Mode) (ops : Array Oper) (z : Nat) (tl : List Nat) : List Nat → Array Bool → Bool
  | [], listed => rtTail md ops z tl listed
  | k :: l, listed => (Region.ready md ops listed).contains k && Region.free md ops listed k && decide (k < ops.size) && Region.waitsFor md ops z k && rtHead md ops z tl l (listed.setIfInBounds k true)
/-- The check on a region. -/
def rtB (md : Region.Mode) (ops : Array Oper) (z : Nat) (rd tl : List Nat) : Bool :=
  Region.noSelect ops && decide (rd.length + tl.length = ops.size) && rtHead md ops z tl rd (Array.replicate ops.size false)

theorem wpAnyW_tail {l : List Oper} (hl : ops = l.toArray) : ∀ (tl : List Nat) (fuel : Nat) (listed : Array Bool) (a : Act) (w : World), tl.length = fuel → rtTail md ops z tl listed = true → tailW P ops S Q (pickOps l tl) a w → wpAnyW P md ops Q S z fuel listed a w
  | [], 0, listed, a, w, _, hB, h => ⟨by simpa [rtTail] using hB, h⟩
  | k :: tl, fuel + 1, listed, a, w, hf, hB, h => by
    simp only [rtTail, Bool.and_eq_true, decide_eq_true_eq] at hB
    obtain ⟨⟨⟨h1, h2⟩, h3⟩, h4⟩ := hB
    obtain ⟨o, ho⟩ : ∃ o, l[k]? = some o := ⟨l[k]'(by subst hl; simpa using h2), by rw [List.getElem?_eq_getElem]⟩
    have ho' : ops[k]? = some o := by subst hl; simpa using ho
    have e : pickOps l (k :: tl) = o :: pickOps l tl := by unfold pickOps; simp [ho]
    rw [e] at h
    refine ⟨fun h0 => (by rw [h1] at h0; cases h0), fun i hi => ?_⟩
    rw [h1] at hi
    obtain rfl : i = k := by simpa using hi
    have hnil : pickOps l tl = [] → i = z := fun h0 => by
      cases tl with
      | nil => simpa using h3
      | cons j tl' =>
        exfalso
        simp only [rtTail, Bool.and_eq_true, decide_eq_true_eq] at h4
        have hj := h4.1.1.2
        have : (pickOps l (j :: tl')) ≠ [] := by
          unfold pickOps
          have hj' : l[j]? = some (l[j]'(by subst hl; simpa using hj)) := List.getElem?_eq_getElem _
          simp [hj']
        exact this h0
    have hw : wpOp P ops Q i (fun a' w' => (pickOps l tl = [] ∨ S w') ∧ tailW P ops S Q (pickOps l tl) a' w') a w := by unfold wpOp; simp only [ho']; exact h
    exact wpOp_mono (fun a' w' h' => ⟨h'.1.imp hnil id, wpAnyW_tail hl tl fuel _ a' w' (by simpa using hf) h4 h'.2⟩) hw

theorem wpAnyW_head {l : List Oper} (hl : ops = l.toArray) (hsel : Region.noSelect ops = true)  (hQ : ∀ c a d v w, Q (.panic c) (Act.put a (some d) v) w → Q (.panic c) a w) {w : World} (hS : S w) (tl : List Nat) :
    ∀ (rd : List Nat) (fuel : Nat) (listed : Array Bool) (a : Act), listed.size = ops.size → rd.length + tl.length = fuel → rtHead md ops z tl rd listed = true → readsQ P ops S (fun a' => tailW P ops S Q (pickOps l tl) a' w) (pickOps l rd) a → wpAnyW P md ops Q S z fuel listed a w
  | [], fuel, listed, a, hs, hf, hB, h => wpAnyW_tail hl tl fuel listed a w (by simpa using hf) hB h
  | k :: rd, fuel, listed, a, hs, hf, hB, h => by
    simp only [rtHead, Bool.and_eq_true, decide_eq_true_eq] at hB
    obtain ⟨⟨⟨⟨h1, h2⟩, h3⟩, h4⟩, h5⟩ := hB
    obtain ⟨o, ho⟩ : ∃ o, l[k]? = some o := ⟨l[k]'(by subst hl; simpa using h3), by rw [List.getElem?_eq_getElem]⟩
    have ho' : ops[k]? = some o := by subst hl; simpa using ho
    have e : pickOps l (k :: rd) = o :: pickOps l rd := by unfold pickOps; simp [ho]
    rw [e] at h
    obtain ⟨v, hy, hK⟩ := h
    obtain ⟨f, rfl⟩ : ∃ f, fuel = f + 1 := ⟨fuel - 1, by simp at hf; omega⟩
    exact wpAnyW_first h4 ho' (Region.noSelect_spec hsel) (fun c a w h => by cases hd : o.dst with | none => rw [hd] at h; exact h | some d => rw [hd] at h; exact hQ c _ _ _ w h) f listed a w hs (Region.free_spec ho' h2) (by simpa using h1) hy hS
      (wpAnyW_head hl hsel hQ hS tl rd f _ _ (by simpa using hs) (by simp at hf; omega) h5 hK)

theorem wp_region_rt {id : Nat} {l : List Oper} {a : Act} {w : World} (S : World → Prop) (z : Nat) (rd tl : List Nat) (hm : P.follows .mixedOrders = true) (hB : rtB .any l.toArray z rd tl = true) (hQ : ∀ c a d v w, Q (.panic c) (Act.put a (some d) v) w → Q (.panic c) a w) (hS : S w.drew)
    (h : readsQ P l.toArray S (fun a' => tailW P l.toArray S Q (pickOps l tl) a' w.drew) (pickOps l rd) a) : (Code.region id l.toArray true).wp P Q a w := by
  simp only [rtB, Bool.and_eq_true, decide_eq_true_eq] at hB
  obtain ⟨⟨h1, h2⟩, h4⟩ := hB
  refine wp_region_any hm (wpAny_of_weak (S := S) (z := z) _ _ _ _ ?_)
  exact wpAnyW_head rfl h1 hQ hS tl rd _ _ a (by simp) h2 h4 h

/-- A read. -/
theorem readsQ_do {o : Oper} {l : List Oper} {a : Act} {K : Act → Prop} (hw : Region.wanted o (yielded ops a.tmps) = true) (h : ∃ v, (∀ w, S w → (execOp a.eval o).run P w = .ok (.value v) w) ∧ readsQ P ops S K l (a.put o.dst v)) : readsQ P ops S K (o :: l) a := by
  obtain ⟨v, h1, h2⟩ := h
  exact ⟨v, .inl ⟨hw, h1⟩, h2⟩
theorem readsQ_skip {o : Oper} {l : List Oper} {a : Act} {K : Act → Prop} (hw : Region.wanted o (yielded ops a.tmps) = false) (h : readsQ P ops S K l (a.put o.dst undef)) : readsQ P ops S K (o :: l) a :=
  ⟨undef, .inr ⟨hw, rfl⟩, h⟩

theorem readsQ_nil {a : Act} {K : Act → Prop} (h : K a) : readsQ P ops S K [] a := h

theorem Oper.wp_exits {o : Oper} {a : Act} {w : World} {K : Act → World → Prop} {Q' : Exit → Act → World → Prop} (hQ : ∀ c a w, Q' (.panic c) a w → Q (.panic c) a w) (hL : LetsOut Q' → LetsOut Q) (hh : o.wp P a w K Q') : o.wp P a w K Q := by
  unfold Oper.wp at *
  generalize (execOp a.eval o).run P w = r at *
  cases r with
  | ok n w' =>
    cases n <;> simp only [Oper.upon] at hh ⊢ <;>
      first
        | exact hh
        | exact Calls.mono hh (fun e w'' he => by cases e <;> first | exact he | exact hQ _ _ _ he | exact hL he)
  | halt x w' => cases x <;> simp only [Oper.upon] at hh ⊢ <;> first | exact hh | exact hQ _ _ _ hh
/-- One operation, by the walk's own words. -/
def nextW (P : Program) (ops : Array Oper) (S : World → Prop) (Q : Exit → Act → World → Prop) (l : List Oper) : Exit → Act → World → Prop
  | .normal, a, w => (l = [] ∨ S w) ∧ tailW P ops S Q l a w
  | e, a, w => Q e a w
theorem tailW_step {o : Oper} {l : List Oper} {a : Act} {w : World} (h : wpList P ops (nextW P ops S Q l) [o] a w) : tailW P ops S Q (o :: l) a w := by
  have hL : LetsOut (nextW P ops S Q l) → LetsOut Q := fun ⟨a, w, h⟩ => ⟨a, w, h⟩
  unfold tailW
  unfold wpList at h
  split at h
  · rename_i hw
    rw [if_pos hw]
    refine h.imp (fun h1 => Oper.wp_exits (fun _ _ _ h => h) hL h1) (fun h1 => ⟨h1.1, hL h1.2⟩)
  · rename_i hw
    rw [if_neg hw]
    exact h
theorem nextW_go {l : List Oper} {a : Act} {w : World} (hS : S w) (h : tailW P ops S Q l a w) : nextW P ops S Q l .normal a w := ⟨.inr hS, h⟩
theorem nextW_end {a : Act} {w : World} (h : Q .normal a w) : nextW P ops S Q [] .normal a w := ⟨.inl rfl, h⟩

/-! ### Where more than one operation may come up behind the reads -/
def rwHead (md : Region.Mode) (ops : Array Oper) (z : Nat) : List Nat → Array Bool → Bool
  | [], _ => true
  | k :: l, listed => (Region.ready md ops listed).contains k && Region.free md ops listed k && decide (k < ops.size) && Region.waitsFor md ops z k && rwHead md ops z l (listed.setIfInBounds k true)
def rwB (md : Region.Mode) (ops : Array Oper) (z : Nat) (rd : List Nat) (f : Nat) : Bool :=
  Region.noSelect ops && decide (rd.length + f = ops.size) && rwHead md ops z rd (Array.replicate ops.size false)
def listedOf (n : Nat) (rd : List Nat) : Array Bool := rd.foldl (fun l i => l.setIfInBounds i true) (Array.replicate n false)

theorem wpAnyW_reads {l : List Oper} (hl : ops = l.toArray) (hsel : Region.noSelect ops = true) (hQ : ∀ c a d v w, Q (.panic c) (Act.put a (some d) v) w → Q (.panic c) a w) {w : World} (hS : S w) (f : Nat) :
    ∀ (rd : List Nat) (listed : Array Bool) (a : Act), listed.size = ops.size → rwHead md ops z rd listed = true →
      readsQ P ops S (fun a' => wpAnyW P md ops Q S z f (rd.foldl (fun l i => l.setIfInBounds i true) listed) a' w) (pickOps l rd) a → wpAnyW P md ops Q S z (rd.length + f) listed a w
  | [], listed, a, hs, hB, h => by
    rw [List.length_nil, Nat.zero_add]
    exact h
  | k :: rd, listed, a, hs, hB, h => by
    simp only [rwHead, Bool.and_eq_true, decide_eq_true_eq] at hB
    obtain ⟨⟨⟨⟨h1, h2⟩, h3⟩, h4⟩, h5⟩ := hB
    obtain ⟨o, ho⟩ : ∃ o, l[k]? = some o := ⟨l[k]'(by subst hl; simpa using h3), by rw [List.getElem?_eq_getElem]⟩
    have ho' : ops[k]? = some o := by subst hl; simpa using ho
    have e : pickOps l (k :: rd) = o :: pickOps l rd := by unfold pickOps; simp [ho]
    rw [e] at h
    obtain ⟨v, hy, hK⟩ := h
    rw [List.length_cons, show rd.length + 1 + f = (rd.length + f) + 1 by omega]
    exact wpAnyW_first h4 ho' (Region.noSelect_spec hsel) (fun c a w h => by cases hd : o.dst with | none => rw [hd] at h; exact h | some d => rw [hd] at h; exact hQ c _ _ _ w h) _ listed a w hs (Region.free_spec ho' h2) (by simpa using h1) hy hS
      (wpAnyW_reads hl hsel hQ hS f rd _ _ (by simpa using hs) h5 hK)

theorem wp_region_rw {id : Nat} {l : List Oper} {a : Act} {w : World} (S : World → Prop) (z : Nat) (rd : List Nat) (f : Nat) (hm : P.follows .mixedOrders = true) (hB : rwB .any l.toArray z rd f = true) (hQ : ∀ c a d v w, Q (.panic c) (Act.put a (some d) v) w → Q (.panic c) a w) (hS : S w.drew)
    (h : readsQ P l.toArray S (fun a' => wpAnyW P .any l.toArray Q S z f (listedOf l.toArray.size rd) a' w.drew) (pickOps l rd) a) : (Code.region id l.toArray true).wp P Q a w := by
  simp only [rwB, Bool.and_eq_true, decide_eq_true_eq] at hB
  obtain ⟨⟨h1, h2⟩, h4⟩ := hB
  refine wp_region_any hm (wpAny_of_weak (S := S) (z := z) _ _ _ _ ?_)
  have h5 := wpAnyW_reads rfl h1 hQ hS f rd (Array.replicate l.toArray.size false) a (by simp) h4 h
  rwa [h2] at h5

def nextA (P : Program) (md : Region.Mode) (ops : Array Oper) (Q : Exit → Act → World → Prop) (S : World → Prop) (z f : Nat) (listed : Array Bool) (i : Nat) : Exit → Act → World → Prop
  | .normal, a, w => (i = z ∨ S w) ∧ wpAnyW P md ops Q S z f (listed.setIfInBounds i true) a w
  | e, a, w => Q e a w
theorem wpOp_nextA {f i : Nat} {listed : Array Bool} {o : Oper} {a : Act} {w : World} (ho : ops[i]? = some o) (h : wpList P ops (nextA P md ops Q S z f listed i) [o] a w) :
    wpOp P ops Q i (fun a' w' => (i = z ∨ S w') ∧ wpAnyW P md ops Q S z f (listed.setIfInBounds i true) a' w') a w := by
  have hL : LetsOut (nextA P md ops Q S z f listed i) → LetsOut Q := fun ⟨a, w, h⟩ => ⟨a, w, h⟩
  unfold wpOp
  unfold wpList at h
  simp only [ho]
  split at h
  · rename_i hw
    rw [if_pos hw]
    exact h.imp (fun h1 => Oper.wp_exits (fun _ _ _ h => h) hL h1) (fun h1 => ⟨h1.1, hL h1.2⟩)
  · rename_i hw
    rw [if_neg hw]
    exact h
theorem wpAnyW_one {f : Nat} {listed : Array Bool} {a : Act} {w : World} (i : Nat) {o : Oper} (hr : Region.ready md ops listed = [i]) (ho : ops[i]? = some o) (h : wpList P ops (nextA P md ops Q S z f listed i) [o] a w) : wpAnyW P md ops Q S z (f + 1) listed a w := by
  refine ⟨fun h0 => (by rw [hr] at h0; cases h0), fun j hj => ?_⟩
  rw [hr] at hj
  obtain rfl : j = i := by simpa using hj
  exact wpOp_nextA ho h
theorem wpAnyW_two {f : Nat} {listed : Array Bool} {a : Act} {w : World} (i k : Nat) {o o' : Oper} (hr : Region.ready md ops listed = [i, k]) (ho : ops[i]? = some o) (ho' : ops[k]? = some o')
    (h : wpList P ops (nextA P md ops Q S z f listed i) [o] a w) (h' : wpList P ops (nextA P md ops Q S z f listed k) [o'] a w) : wpAnyW P md ops Q S z (f + 1) listed a w := by
  refine ⟨fun h0 => (by rw [hr] at h0; cases h0), fun j hj => ?_⟩
  rw [hr] at hj
  simp only [List.mem_cons, List.not_mem_nil, or_false] at hj
  rcases hj with rfl | rfl
  · exact wpOp_nextA ho h
  · exact wpOp_nextA ho' h'
theorem nextA_go {f i : Nat} {listed : Array Bool} {a : Act} {w : World} (hS : S w) (h : wpAnyW P md ops Q S z f (listed.setIfInBounds i true) a w) : nextA P md ops Q S z f listed i .normal a w := ⟨.inr hS, h⟩
theorem nextA_end {i : Nat} {listed : Array Bool} {a : Act} {w : World} (hi : i = z) (hr : (Region.ready md ops (listed.setIfInBounds i true)).isEmpty = true) (h : Q .normal a w) : nextA P md ops Q S z 0 listed i .normal a w := ⟨.inl hi, by simpa using hr, h⟩
theorem wpAnyW_take {f : Nat} {listed : Array Bool} {a : Act} {w : World} (i : Nat) {o : Oper} (hsel : Region.noSelect ops = true) (hsz : listed.size = ops.size) (hr : (Region.ready md ops listed).contains i = true) (hf : Region.free md ops listed i = true) (hz : Region.waitsFor md ops z i = true)
    (hQ : ∀ c a d v w, Q (.panic c) (Act.put a (some d) v) w → Q (.panic c) a w) (ho : ops[i]? = some o) (hw : Region.wanted o (yielded ops a.tmps) = true) (hS : S w)
    (h : ∃ v, (∀ w, S w → (execOp a.eval o).run P w = .ok (.value v) w) ∧ wpAnyW P md ops Q S z f (listed.setIfInBounds i true) (a.put o.dst v) w) : wpAnyW P md ops Q S z (f + 1) listed a w := by
  obtain ⟨v, h1, h2⟩ := h
  exact wpAnyW_first hz ho (Region.noSelect_spec hsel) (fun c a w h => by cases hd : o.dst with | none => rw [hd] at h; exact h | some d => rw [hd] at h; exact hQ c _ _ _ w h) f listed a w hsz (Region.free_spec ho hf) (by simpa using hr) (.inl ⟨hw, h1⟩) hS h2
end
end Go.Proofs.Ytfajkebkhdcapaa
end
section
/- A state in own memory: plain facts of a call's args; a frame put on top. No condition. -/
set_option maxHeartbeats 1000000
namespace Go.Proofs.Ytfajkebkhdcapaa
open Go Go.RowKit

theorem modify_same {α : Type} : ∀ (l : List α) (n : Nat) (g : α → α), (∀ x, g x = x) → l.modify n g = l
  | [], n, g, _ => by cases n <;> rfl
  | a :: l, 0, g, h => by rw [List.modify_zero_cons, h]
  | a :: l, n + 1, g, h => by rw [List.modify_succ_cons, modify_same l n g h]
theorem modify_twice {α : Type} : ∀ (l : List α) (n : Nat) (g f : α → α), (l.modify n f).modify n g = l.modify n (fun x => g (f x))
  | [], n, g, f => by cases n <;> rfl
  | a :: l, 0, g, f => by simp only [List.modify_zero_cons]
  | a :: l, n + 1, g, f => by simp only [List.modify_succ_cons, modify_twice l n g f]
theorem modFib_same (s : GState) (n : Int) (g : GFiber → GFiber) (h : ∀ f, g f = f) : modFib s n g = s := by
  unfold modFib; rw [modify_same _ _ _ h]
theorem modFib_twice (s : GState) (n : Int) (g f : GFiber → GFiber) : modFib (modFib s n f) n g = modFib s n fun x => g (f x) := by
  unfold modFib; simp only [modify_twice]
theorem modTop_same (s : GState) (n : Int) (g : GFrame → GFrame) (h : ∀ f, g f = f) : modTop s n g = s :=
  modFib_same s n _ fun f => by rw [modify_same _ _ _ h]
theorem modTop_twice (s : GState) (n : Int) (g f : GFrame → GFrame) : modTop (modTop s n f) n g = modTop s n fun x => g (f x) := by
  unfold modTop
  rw [modFib_twice]
  simp only [List.length_modify, modify_twice]
theorem leave_zero (s : GState) : leaveG s 0 = s := modTop_same s _ _ fun x => by rw [Nat.sub_zero, List.take_length]
theorem leave_succ (s : GState) (j : Nat) : leaveG s (j + 1) = popG (leaveG s j) := by
  unfold leaveG popG
  show _ = modTop (modTop s s.now _) s.now _
  rw [modTop_twice]
  refine congrArg (modTop s s.now) (funext fun x => ?_)
  simp only [GFrame.mk.injEq, true_and]
  rw [List.dropLast_eq_take, List.take_take, List.length_take]
  congr 1
  omega
theorem curX_leave (s : GState) (h : HasTop s s.now) (j : Nat) : curX (leaveG s j) = { curX s with stack := (curX s).stack.take ((curX s).stack.length - j) } := curX_mod s h _
theorem HasTop.leave {s : GState} {n : Int} (h : HasTop s n) (j : Nat) : HasTop (leaveG s j) n := h.top _
theorem Room.leave {s : GState} (h : Room s) (j : Nat) : Room (leaveG s j) := h.top _ fun x => by simp

theorem argsOf_len (p : List GFunc) (s : GState) (a : Int) (j : Nat) (hj : j ≤ (funcOf p a).args.toNat) (hl : j ≤ (curX s).stack.length) (h0 : 0 ≤ (funcOf p a).args ∧ (funcOf p a).args ≤ (funcOf p a).locals) : (argsOf p s a j).length = (funcOf p a).locals.toNat := by
  unfold argsOf
  simp only [List.length_append, List.length_replicate, List.length_drop]
  omega
theorem argsOf_zero (p : List GFunc) (s : GState) (a : Int) (h0 : 0 ≤ (funcOf p a).args ∧ (funcOf p a).args ≤ (funcOf p a).locals) : argsOf p s a 0 = List.replicate (funcOf p a).locals.toNat 0 := by
  unfold argsOf
  rw [Nat.sub_zero, Nat.sub_zero, List.drop_length, List.append_nil, List.replicate_append_replicate]
  congr 1
  omega
theorem argsOf_succ (p : List GFunc) (s : GState) (h : HasTop s s.now) (a : Int) (j : Nat) (hj : j < (funcOf p a).args.toNat) (hl : j < (curX s).stack.length) :
    (argsOf p s a j).set ((funcOf p a).args.toNat - j - 1) (lastV (leaveG s j)) = argsOf p s a (j + 1) := by
  obtain ⟨A, hA⟩ : ∃ A, (funcOf p a).args.toNat = A := ⟨_, rfl⟩
  have hlast : lastV (leaveG s j) = (curX s).stack.getD ((curX s).stack.length - (j + 1)) 0 := by
    unfold lastV
    rw [curX_leave s h]
    simp only [List.length_take]
    have e : min ((curX s).stack.length - j) (curX s).stack.length - 1 = (curX s).stack.length - (j + 1) := by omega
    rw [e, List.getD_eq_getElem?_getD, List.getElem?_take_of_lt (by omega), ← List.getD_eq_getElem?_getD]
  have hd : (curX s).stack.drop ((curX s).stack.length - (j + 1)) = (curX s).stack.getD ((curX s).stack.length - (j + 1)) 0 :: (curX s).stack.drop ((curX s).stack.length - j) := by
    have hlt : (curX s).stack.length - (j + 1) < (curX s).stack.length := by omega
    rw [List.drop_eq_getElem_cons hlt, List.getD_eq_getElem?_getD, List.getElem?_eq_getElem hlt]
    congr 2
    omega
  unfold argsOf
  rw [hlast, hd]
  rw [hA] at hj ⊢
  obtain ⟨d, rfl⟩ : ∃ d, A = j + 1 + d := ⟨A - (j + 1), by omega⟩
  have e1 : j + 1 + d - j = d + 1 := by omega
  have e2 : j + 1 + d - (j + 1) = d := by omega
  have e3 : j + 1 + d - j - 1 = d := by omega
  rw [e3, e1, e2, List.replicate_succ']
  simp only [List.append_assoc]
  rw [List.set_append_right _ _ (by rw [List.length_replicate]; exact Nat.le_refl _), List.length_replicate, Nat.sub_self]
  simp
theorem argsOf_i64 (p : List GFunc) (s : GState) (a : Int) (j : Nat) (h : ∀ k ∈ (curX s).stack, I64 k) : ∀ k ∈ argsOf p s a j, I64 k := by
  intro k hk
  unfold argsOf at hk
  simp only [List.mem_append] at hk
  rcases hk with (hk | hk) | hk
  · rw [List.eq_of_mem_replicate hk]; exact I64.zero
  · exact h k (List.drop_subset _ _ hk)
  · rw [List.eq_of_mem_replicate hk]; exact I64.zero

theorem src_cells (w : World) (cs : List Value) (n : Nat) (hn : cs.length = n) (h1 : ∀ u ∈ cs, u.oneCell' = true) (t : TypeId) : SrcSl (w.alloc (.cells cs.toArray t)) n (.slice (some ⟨w.heap.size, 0, none⟩) 1 1) 1 cs := by
  refine ⟨_, 1, rfl, by omega, h1, .inr ⟨_, rfl, fun j u hj => ?_⟩⟩
  rw [show ((⟨w.heap.size, 0, none⟩ : Addr).add j) = ⟨w.heap.size, j, none⟩ by unfold Addr.add; split <;> simp_all, World.cell?_alloc_new, List.getElem?_toArray, hj]
theorem infoFr : (Try.prog.info? 45).map (fun i => (i.zero, i.size, i.bytes)) = some (some (.agg #[.int .i64 0, .int .i64 0, .slice none 0 0, .slice none 0 0]), 4, 64) := by kernel_rfl
theorem infoFb : (Try.prog.info? 43).map (fun i => (i.zero, i.size, i.bytes)) = some (some (.agg #[.slice none 0 0, .int .i64 0]), 2, 32) := by kernel_rfl

/-- A frame is put on a fiber's row of frames. -/
theorem OwnS.addFrame {P : PState} {L R : List PFiber} {y : PFiber} {x : PFrame} {W W1 : World} {B b g o n cap : Nat} (h : OwnS W B b P) (hP : P.fs = L ++ y :: R) (hv : P.vfs = .slice (some ⟨g, o, none⟩) n cap) {v1 : Value}
    (hc : Chg (fun k => rowBlock y.vf = some k) W W1) (hr : RowAt W1 B 4 v1 (y.fr ++ [x]).length ((y.fr ++ [x]).flatMap frameF)) (hx : FrameO W1 B x) (hl : y.fr.length < 1000)
    (hv1 : rowBlock v1 = rowBlock y.vf ∨ ∀ k, rowBlock v1 = some k → W.heap.size ≤ k) (hn : x.bl.Nodup) (hf : ∀ k ∈ x.bl, k ∉ b :: P.bl ∧ rowBlock v1 ≠ some k) :
    OwnS (W1.setCell ⟨g, o + L.length * 2, none⟩ v1) B b { P with fs := L ++ ⟨y.fr ++ [x], y.caller, v1⟩ :: R } ∧ Chg (· ∈ P.bl) W (W1.setCell ⟨g, o + L.length * 2, none⟩ v1) := by
  have hym : y ∈ P.fs := by rw [hP]; simp
  have hy := h.fs y hym
  have hnd := h.fnodup hP
  have hsub : ∀ k ∈ y.bl, k ∈ P.bl := fun k hk => PState.mem_fs hym hk
  have hbl : y.bl = (rowBlock y.vf).toList ++ y.fr.flatMap PFrame.bl := rfl
  have hbl' : PFiber.bl ⟨y.fr ++ [x], y.caller, v1⟩ = (rowBlock v1).toList ++ (y.fr.flatMap PFrame.bl ++ x.bl) := by unfold PFiber.bl; simp
  rw [hbl] at hnd
  obtain ⟨-, hn2, hn3⟩ := List.nodup_append.1 hnd
  have hfr : ∀ u ∈ y.fr, FrameO W1 B u := fun u hu => (hy.fr u hu).chg hc fun k hk e => by
    have h1 : k ∈ y.fr.flatMap PFrame.bl := List.mem_flatMap.2 ⟨u, hu, hk⟩
    exact hn3 k (by rw [show rowBlock y.vf = some k from e]; simp) k h1 rfl
  refine h.setFrames' (y' := ⟨y.fr ++ [x], y.caller, v1⟩) hP hv hc rfl ⟨hy.i, hr, fun u hu => ?_, ?_⟩ ?_ fun k hk => ?_
  · have hu' : u ∈ y.fr ++ [x] := hu
    rcases List.mem_append.1 hu' with h1 | h1
    · exact hfr u h1
    · rw [List.mem_singleton.1 h1]; exact hx
  · show (y.fr ++ [x]).length ≤ 1000
    rw [List.length_append, List.length_singleton]; omega
  · rw [hbl', List.nodup_append]
    refine ⟨by cases rowBlock v1 <;> simp, List.nodup_append.2 ⟨hn2, hn, fun a ha c hc e => ?_⟩, fun a ha c hc e => ?_⟩
    · subst e
      exact (hf a hc).1 (List.mem_cons_of_mem _ (hsub a (by rw [hbl]; exact List.mem_append.2 (.inr ha))))
    · subst e
      have ha' : rowBlock v1 = some a := by simpa using ha
      rcases List.mem_append.1 hc with h1 | h1
      · rcases hv1 with h2 | h2
        · exact hn3 a (by rw [← h2, ha']; simp) a h1 rfl
        · have h3 := h2 a ha'
          have h4 := h.lt a (List.mem_cons_of_mem _ (hsub a (by rw [hbl]; exact List.mem_append.2 (.inr h1))))
          omega
      · exact (hf a h1).2 ha'
  · rw [hbl'] at hk
    rcases List.mem_append.1 hk with h1 | h1
    · have h1' : rowBlock v1 = some k := by simpa using h1
      rcases hv1 with h2 | h2
      · exact .inl (by rw [hbl, ← h2, h1']; simp)
      · refine .inr fun h3 => ?_
        have h4 := h2 k h1'
        have h5 := h.lt k h3
        omega
    · rcases List.mem_append.1 h1 with h2 | h2
      · exact .inl (by rw [hbl]; exact List.mem_append.2 (.inr h2))
      · exact .inr (hf k h2).1
end Go.Proofs.Ytfajkebkhdcapaa
end
section
/- The engine of package step: push. -/
set_option maxHeartbeats 4000000
set_option maxRecDepth 100000
namespace Go.Proofs.Ytfajkebkhdcapaa
open Go Go.RowKit

theorem src_given {w : World} {b o c : Nat} {v : Int} (h : w.cell? ⟨b, o, none⟩ = some (.int .i64 v)) : SrcSl w 1 (.slice (some ⟨b, o, none⟩) 1 c) 1 (ints [v]) := by
  refine ⟨_, _, rfl, by simp [ints], fun u hu => by simp [ints] at hu; subst hu; rfl, .inr ⟨_, rfl, fun j u hj => ?_⟩⟩
  cases j with
  | zero => simp [ints] at hj; subst hj; exact h
  | succ j => simp [ints] at hj

theorem engPush_at {P : PState} {L R : List PFiber} {y : PFiber} {F : List PFrame} {x : PFrame} {w : World} {B b eb : Nat} {p : List GFunc} {a : Option Addr} {cp lb lo lc : Nat} (h : OwnS w B b P) (hE : Eng w eb b p a cp) (hs : Spot P L y R F x) (hnow : P.now = (L.length : Int)) (v : Int) (hv : I64 v) (hlen : x.f.stack.length < 1000) (hc : w.cell? ⟨lb, lo, none⟩ = some (.int .i64 v)) :
    Calls Try.prog 74 #[.pointer (some ⟨eb, 0, none⟩), .slice (some ⟨lb, lo, none⟩) 1 lc] w fun e w' => e = .returned (.tuple #[]) ∧ (∃ v1, OwnS w' B b (replTop P L y R F ⟨{ x.f with stack := x.f.stack ++ [v] }, x.vl, v1⟩) ∧ (rowBlock v1 = rowBlock x.vs ∨ ∀ k, rowBlock v1 = some k → w.heap.size ≤ k)) ∧
      Chg (fun k => rowBlock y.vf = some k ∨ rowBlock x.vs = some k) w w' := by
  obtain ⟨g, o, cap, e1, hcap, hmax, -, -, -, d3, hbl⟩ := h.spot hs
  have hx := (h.fs y (by rw [hs.fs]; simp)).fr x (by rw [hs.fr]; simp)
  have H := Lib.hid h
  have HB : Hid (B ≤ w.heap.size) := Nat.le_trans h.le (Nat.le_of_lt h.c0.lt)
  have HX := Lib.hid hx
  have D3 := Lib.hid d3
  have HE1 := Lib.hid e1
  obtain ⟨i0, hi0, hz0, hz1, hz2⟩ := info_parts infoI
  have RA := alloc_keep
  obtain ⟨as_, cs, es, hcs, hms⟩ := hx.s.shape
  have HES := Lib.hid es
  have HENG := Lib.hid hE
  have HC := Lib.hid hc
  have HXS : Hid (RowAt w B 1 (.slice as_ x.f.stack.length cs) x.f.stack.length (ints x.f.stack)) := by unfold Hid; rw [← es]; exact hx.s
  have HGX : Hid (¬ rowBlock (.slice as_ x.f.stack.length cs) = some g) := by unfold Hid; rw [← es]; exact fun e => (h.sep hs).1 g hbl (by unfold PFrame.bl; simp [e])
  clear hc hE h hx d3 e1 hcap hmax es hcs hms
  go_enter Try.func74, Try.ntmps74
  go_upto_region 1 with (first
    | (go_at_call 73; (with_reducible refine (engTop_any H.out HENG.out hs HE1.out hnow).mono ?_); rintro e w2 ⟨rfl, hx2⟩))
  have HX2 := Lib.hid hx2
  obtain ⟨d3, d3'⟩ := D3.out.ext hx2
  rw [HES.out] at d3
  have HS2 : Hid (B ≤ w2.heap.size) := Nat.le_trans HB.out hx2.size
  clear hx2
  go_wp2_with (first
    | (at_builtin; refine wpList_append_row rfl _ _ 27 rfl B 3 i0 (.int .i64 0) 1 8 Try.underlying27 hi0 hz0 hz1 hz2 rfl (by decide) _ _ _ rfl (by exact (HXS.out.ext (HX2.out) (by decide))) 1 (ints [v]) (src_given (Ext.cell HX2.out HC.out)) (by unfold maxLen; omega) (by omega) (by exact Nat.le_trans HS2.out (Nat.le_refl _)) ?_; intro v1 Wv1 rv1; have RV := Lib.hid rv1; obtain ⟨k0, k0'⟩ := (D3.out.ext (HX2.out)).chg rv1.2.1 HGX.out; obtain ⟨a9, cap9, rfl, _, _⟩ := rv1.1.shape; clear rv1))
  go_end0
  have hRV : NewRow w2 Wv1 B 1 (.slice as_ x.f.stack.length cs) (.slice a9 (x.f.stack.length + 1) cap9) (x.f.stack.length + 1) (ints x.f.stack ++ ints [v]) := RV.out
  have hA : Ext w w2 := HX2.out
  obtain ⟨r1, r2, r3⟩ := hRV
  have hfin := H.out.stack hs HE1.out (W1 := Wv1) (st := x.f.stack ++ [v]) (v1 := .slice a9 (x.f.stack.length + 1) cap9)
    ((Chg.of_ext hA).trans (r2.mono (fun k _ e => by rw [HES.out]; exact e)))
    (by rw [List.length_append, List.length_singleton, ints_app]; exact r1) (fun k hk => by rcases List.mem_append.1 hk with h1 | h1; exact HX.out.i.2.2.2 k h1; rw [List.mem_singleton.1 h1]; exact hv)
    (by rw [List.length_append, List.length_singleton]; omega) (r3.imp (fun e => by rw [HES.out]; exact e) (fun e k hk => Nat.le_trans hA.size (e k hk)))
  exact ⟨rfl, ⟨_, hfin.1, r3.imp (fun e => by rw [HES.out]; exact e) (fun e k hk => Nat.le_trans hA.size (e k hk))⟩, hfin.2⟩

end Go.Proofs.Ytfajkebkhdcapaa
end
section
/- The engine of package step: slices.Clone of a row of ints, pull, one. -/
set_option maxHeartbeats 4000000
set_option maxRecDepth 100000
namespace Go.Proofs.Ytfajkebkhdcapaa
open Go Go.RowKit

theorem Ints.srcV {w : World} {S : Nat → Prop} {v : Value} {l : List Int} (h : Ints w S v l) : SrcSl w 1 v l.length (ints l) := by have := h.src; rwa [flatMap_intF] at this
theorem src_up {w w' : World} {size : Nat} {x : Value} {m : Nat} {news : List Value} (h : SrcSl w size x m news) (he : Ext w w') : SrcSl w' size x m news := by
  obtain ⟨a, c, rfl, h1, h2, h3⟩ := h
  refine ⟨a, c, rfl, h1, h2, h3.imp id fun ⟨ad, ha, hc⟩ => ⟨ad, ha, fun j u hj => ?_⟩⟩
  have hcj := hc j u hj
  exact (Ext.keep he _ (by rw [hcj]; rfl)).trans hcj
theorem row_ext {W W' : World} {base size n : Nat} {a : Option Addr} {v' : Value} {xs : List Value} (h : NewRow W W' base size (.slice a 0 0) v' n xs) : Ext W W' := h.2.1.ext (fun k _ e => by cases a <;> simp [rowBlock] at e)

theorem cloneI_any (l : List Int) (v : Value) (S : Nat → Prop) (w : World) (hl : Ints w S v l) (hn : l.length ≤ 1000) :
    Calls Try.prog 65 #[v] w fun e w' => (∃ v1, e = .returned v1 ∧ RowAt w' w.heap.size 1 v1 l.length (ints l)) ∧ Ext w w' := by
  have HSRC := Lib.hid hl.srcV
  obtain ⟨a, c, rfl, hc, hb, hel⟩ := hl
  obtain ⟨i0, hi0, hz0, hz1, hz2⟩ := info_parts infoI
  have RA := alloc_keep
  cases a with
  | none =>
    have hl0 : l = [] := by
      cases l with
      | nil => rfl
      | cons x l => obtain ⟨b, o, e, _⟩ := hel 0 (by simp); cases e
    subst hl0
    have hbn : ∀ w, (binOp .eql 27 (.slice none 0 c) (.slice none 0 0)).run Try.prog w = .ok (.bool true) w := fun w => by kernel_rfl
    clear hel hc hb
    go_enter Try.func65, Try.ntmps65
    go_wp2_with fail
    go_ret
    exact ⟨⟨_, rfl, RowAt.nil _ _ _ _⟩, Ext.refl _⟩
  | some ad =>
    have hbn : ∀ w, (binOp .eql 27 (.slice (some ad) l.length c) (.slice none 0 0)).run Try.prog w = .ok (.bool false) w := fun w => by kernel_rfl
    clear hel
    go_enter Try.func65, Try.ntmps65
    go_wp2_with (first
      | (at_builtin; refine wpList_append_row rfl _ _ 27 rfl w.heap.size 3 i0 (.int .i64 0) 1 8 Try.underlying27 hi0 hz0 hz1 hz2 rfl (by decide) _ _ _ rfl (RowAt.nil _ _ _ _) l.length (ints l) (src_up HSRC.out (by ((repeat (first | assumption | exact Ext.refl _ | (exact And.left (by assumption)) | refine Ext.alloc ?_ _ | refine Ext.drew ?_ | refine Ext.drewN ?_ _ | refine Ext.setCell ?_ (by simp) _ | refine Ext.setCell ?_ (by simp; omega) _ | refine Ext.trans ?_ (by assumption))); done))) (by unfold maxLen; omega) (by omega) (by exact Ext.size (by ((repeat (first | assumption | exact Ext.refl _ | (exact And.left (by assumption)) | refine Ext.alloc ?_ _ | refine Ext.drew ?_ | refine Ext.drewN ?_ _ | refine Ext.setCell ?_ (by simp) _ | refine Ext.setCell ?_ (by simp; omega) _ | refine Ext.trans ?_ (by assumption))); done))) ?_; intro v1 Wv1 rv1; have RV := Lib.hid rv1; have hxv := row_ext rv1; obtain ⟨a9, cap9, rfl, _, _⟩ := rv1.1.shape; clear rv1))
    go_ret
    have hR := RV.out
    rw [Nat.zero_add, List.nil_append] at hR
    exact ⟨⟨_, rfl, hR.1⟩, by ((repeat (first | assumption | exact Ext.refl _ | (exact And.left (by assumption)) | refine Ext.alloc ?_ _ | refine Ext.drew ?_ | refine Ext.drewN ?_ _ | refine Ext.setCell ?_ (by simp) _ | refine Ext.setCell ?_ (by simp; omega) _ | refine Ext.trans ?_ (by assumption))); done)⟩

/-- The tail of a row, as a slice. -/
theorem RowAt.hind {w : World} {base : Nat} {a : Option Addr} {n cap : Nat} {l : List Int} (h : RowAt w base 1 (.slice a n cap) l.length (ints l)) (hI : ∀ k ∈ l, I64 k) (hl : l.length ≤ 1000) (m : Nat) (hm : m ≤ l.length) :
    Ints w (fun _ => True) (.slice (if cap = m then a else a.map (·.add m)) (n - m) (cap - m)) (l.drop m) := by
  obtain ⟨_, a', cap', e, h1, h2, h3⟩ := h
  simp only [Value.slice.injEq] at e
  obtain ⟨rfl, rfl, rfl⟩ := e
  unfold maxLen at h2
  refine ⟨_, cap - m, by rw [List.length_drop], by rw [List.length_drop]; omega, ⟨by rw [List.length_drop]; omega, by omega⟩, fun i hi => ?_⟩
  rw [List.length_drop] at hi
  obtain ⟨g, o, rfl, _, hc, _⟩ := h3.resolve_left (by omega)
  rw [if_neg (by omega)]
  refine ⟨g, o + m, by simp [Addr.add], trivial, ?_, hI _ (List.mem_of_mem_drop (List.getElem_mem _))⟩
  have := hc (m + i) (by omega)
  rw [← Nat.add_assoc] at this
  rw [Nat.mul_one, this, List.getElem_drop]
  unfold Proofs.Ytfajkebkhdcapaa.ints
  rw [List.getElem?_map, List.getElem?_eq_getElem (by omega)]
  rfl
theorem RowAt.front {w : World} {base n cap : Nat} {a : Option Addr} {l : List Int} (h : RowAt w base 1 (.slice a n cap) l.length (ints l)) (m : Nat) (hm : m ≤ l.length) : RowAt w base 1 (.slice a m cap) (l.take m).length (ints (l.take m)) := by
  obtain ⟨hl, a', cap', e, h1, h2, h3⟩ := h
  simp only [Value.slice.injEq] at e
  obtain ⟨rfl, rfl, rfl⟩ := e
  have hlen : (l.take m).length = m := by rw [List.length_take]; omega
  refine ⟨by rw [ints_len, Nat.mul_one], _, _, by rw [hlen], by rw [hlen]; omega, h2, ?_⟩
  rcases h3 with h3 | ⟨g, o, rfl, hb, hc, ht⟩
  · exact .inl h3
  · refine .inr ⟨g, o, rfl, hb, fun j hj => ?_, ht⟩
    rw [hlen, Nat.mul_one] at hj
    rw [hc j (by omega)]
    unfold Proofs.Ytfajkebkhdcapaa.ints
    rw [List.getElem?_map, List.getElem?_map, List.getElem?_take, if_pos hj]

theorem engPull_at {P : PState} {L R : List PFiber} {y : PFiber} {F : List PFrame} {x : PFrame} {w : World} {B b eb : Nat} {p : List GFunc} {a : Option Addr} {cp : Nat} (h : OwnS w B b P) (hE : Eng w eb b p a cp) (hs : Spot P L y R F x) (hnw : P.now = (L.length : Int)) (n : Nat) (hn : n ≤ x.f.stack.length) :
    Calls Try.prog 75 #[.pointer (some ⟨eb, 0, none⟩), .int .i64 n] w fun e w' => ∃ v1, e = .returned v1 ∧ Ints w' (w.heap.size ≤ ·) v1 (x.f.stack.drop (x.f.stack.length - n)) ∧
      (∃ v2, OwnS w' B b (replTop P L y R F ⟨{ x.f with stack := x.f.stack.take (x.f.stack.length - n) }, x.vl, v2⟩) ∧ rowBlock v2 = rowBlock x.vs) ∧ Chg (fun k => rowBlock y.vf = some k ∨ rowBlock x.vs = some k) w w' := by
  obtain ⟨g, o, cap, e1, hcap, hmax, -, -, -, d3, hbl⟩ := h.spot hs
  have hx := (h.fs y (by rw [hs.fs]; simp)).fr x (by rw [hs.fr]; simp)
  have hrow := hx.s
  obtain ⟨as_, cs, es, hcs, hms⟩ := hrow.shape
  rw [es] at hrow
  rw [es] at d3
  have hfew := hx.few.2
  obtain ⟨m, hm⟩ : ∃ m, x.f.stack.length - n = m := ⟨_, rfl⟩
  have hmn : m + n = x.f.stack.length := by omega
  have htail := hrow.hind hx.i.2.2.2 hfew m (by omega)
  have hfront := hrow.front m (by omega)
  have KK : IntKind.i64.wrap ((x.f.stack.length : Int) - (n : Int)) = (m : Int) := by
    have e : ((x.f.stack.length : Int) - (n : Int)) = (m : Int) := by omega
    rw [e]; exact IntWalk.i64_in _ (by omega)
  have H := Lib.hid h
  have HX := Lib.hid hx
  have HE := Lib.hid hE
  have D3 := Lib.hid d3
  have HE1 := Lib.hid e1
  have HES := Lib.hid es
  have HT := Lib.hid htail
  have HFR := Lib.hid hfront
  have HDL : Hid ((x.f.stack.drop m).length = n) := by unfold Hid; rw [List.length_drop]; omega
  have HBK : Hid (rowBlock (.slice as_ m cs) = rowBlock x.vs) := by unfold Hid; rw [es]; cases as_ <;> rfl
  have HDE : Hid ((x.f.stack.drop m).length ≤ 1000) := by unfold Hid; rw [List.length_drop]; omega
  have HTL : Hid ((x.f.stack.take m).length = m) := by unfold Hid; rw [List.length_take]; omega
  have HMM : Hid (x.f.stack.length - n = m) := hm
  have hmN : m ≤ x.f.stack.length := by omega
  have hmC : m ≤ cs := by omega
  rw [hm]
  clear h hx hE d3 e1 hcap hmax es hrow htail hfront hm hmn hn
  have RA := alloc_keep
  generalize hN : x.f.stack.length = N at *
  have HN := Lib.hid hN
  clear hN
  go_enter Try.func75, Try.ntmps75
  go_upto_region 2 with (first
    | (go_at_call 73; (with_reducible refine (engTop_any H.out HE.out hs HE1.out hnw).mono ?_); rintro e w2 ⟨rfl, hx2⟩))
  have HX2 := Lib.hid hx2
  obtain ⟨d3, d3'⟩ := D3.out.ext hx2
  have HT2 := Lib.hid (Ints.stays (Ext.stays hx2) HT.out)
  clear hx2
  rcases Classical.em (cs = m) with hcm | hcm
  all_goals (first | (subst hcm; (obtain rfl : N = cs := by omega); rw [if_pos rfl, Nat.sub_self] at HT2) | rw [if_neg hcm] at HT2)
  all_goals (
    go_upto_region 4 with (first
      | (go_at_call 65; (with_reducible refine (cloneI_any (x.f.stack.drop _) _ (fun _ => True) _ HT2.out HDE.out).mono ?_); rintro e w3 ⟨⟨v1, rfl, hr3⟩, hx3⟩))
    have HX3 := Lib.hid hx3
    have HR3 := Lib.hid hr3
    obtain ⟨d4, d4'⟩ := Cx.ext (W := w2) ⟨d3, d3'⟩ hx3
    clear d3 d3' hx3 hr3
    go_wp2_with fail
    go_ret
    have hE : Ext w w3 := HX2.out.trans HX3.out
    have hgw : g < w2.heap.size := lt_of_cell (HX2.out.cell (D3.out.1))
    have hrow := fun u => HR3.out.chg (chg_one w3 g (o + F.length * 4 + 3) u) (fun k hk e => by have e : k = g := e; have := HR3.out.le k hk; omega) (by decide)
    have hfin := H.out.stack hs HE1.out (W1 := w3) (Chg.of_ext hE) (HFR.out.ext hE (by decide)) (fun k hk => HX.out.i.2.2.2 k (List.mem_of_mem_take hk)) (by rw [HTL.out]; omega) (.inl HBK.out)
    refine ⟨v1, rfl, ?_, ⟨_, hfin.1, HBK.out⟩, hfin.2⟩
    exact Ints.of_row (by rw [flatMap_intF]; exact hrow _) (by have := HDE.out; omega) (fun k hk => HX.out.i.2.2.2 k (List.mem_of_mem_drop hk)) _ (fun k hk _ => Nat.le_trans HX2.out.size hk))

theorem engPull_any {P : PState} {w : World} {B b eb : Nat} {p : List GFunc} {a : Option Addr} {cp : Nat} (h : OwnS w B b P) (hE : Eng w eb b p a cp) (ht : HasTop P.g P.g.now) (n : Nat) (hn : n ≤ (curX P.g).stack.length) :
    Calls Try.prog 75 #[.pointer (some ⟨eb, 0, none⟩), .int .i64 n] w fun e w' => ∃ v1, e = .returned v1 ∧ Ints w' (w.heap.size ≤ ·) v1 ((curX P.g).stack.drop ((curX P.g).stack.length - n)) ∧ Turn w w' B b P (leaveG P.g n) := by
  obtain ⟨L, y, R, F, x, hs, hnw⟩ := hasSpot ht
  have hnw : P.now = (L.length : Int) := hnw
  have hcx := curX_at hs hnw
  rw [hcx] at hn ⊢
  refine (engPull_at h hE hs hnw n hn).mono ?_
  rintro e w' ⟨v1, rfl, hv, ⟨v2, o2, hb2⟩, hc⟩
  exact ⟨v1, rfl, hv, ⟨⟨_, o2, (modTop_at hs hnw rfl).symm, repl_bl hs (frame_bl (.inl hb2))⟩, chg_spot hs hc⟩⟩
theorem engPull_k {P : PState} {w : World} {B b eb : Nat} {p : List GFunc} {a : Option Addr} {cp : Nat} (h : OwnS w B b P) (hE : Eng w eb b p a cp) (ht : HasTop P.g P.g.now) (n : Nat) (hn : n ≤ (curX P.g).stack.length) (k : Int) (hk : k = n) :
    Calls Try.prog 75 #[.pointer (some ⟨eb, 0, none⟩), .int .i64 k] w fun e w' => ∃ v1, e = .returned v1 ∧ Ints w' (w.heap.size ≤ ·) v1 ((curX P.g).stack.drop ((curX P.g).stack.length - n)) ∧ Turn w w' B b P (leaveG P.g n) := by
  subst hk
  exact engPull_any h hE ht n hn
theorem leave_one (s : GState) : leaveG s 1 = popG s := by rw [leave_succ, leave_zero]
theorem drop_last (l : List Int) (h : 1 ≤ l.length) : l.drop (l.length - 1) = [l.getD (l.length - 1) 0] := by
  obtain ⟨F, x, rfl⟩ := split_last l (by omega)
  rw [getD_last _ _ _ _ rfl]
  simp
theorem engOne_any {P : PState} {w : World} {B b eb : Nat} {p : List GFunc} {a : Option Addr} {cp : Nat} (h : OwnS w B b P) (hE : Eng w eb b p a cp) (ht : HasTop P.g P.g.now) (hn : 1 ≤ (curX P.g).stack.length) :
    Calls Try.prog 76 #[.pointer (some ⟨eb, 0, none⟩)] w fun e w' => e = .returned (.int .i64 (lastV P.g)) ∧ Turn w w' B b P (popG P.g) := by
  have H := Lib.hid h
  have HE := Lib.hid hE
  have HT := Lib.hid ht
  have HN := Lib.hid hn
  have HD := Lib.hid (drop_last _ hn)
  clear h hE ht hn
  have RA := alloc_keep
  go_enter Try.func76, Try.ntmps76
  go_wp2_with (first
    | (go_at_call 75; (with_reducible refine (engPull_k H.out HE.out HT.out 1 HN.out 1 rfl).mono ?_); rintro e w2 ⟨v1, rfl, hv, t2⟩; rw [HD.out] at hv; rw [leave_one] at t2; obtain ⟨b1, o1, c1, rfl, _, _, _, hc1, _⟩ := Sl.get hv (i := 0) (by simp); simp only [Nat.zero_mul, Nat.add_zero, List.getElem_cons_zero] at hc1))
  go_ret
  exact ⟨rfl, t2⟩

/-- One value is pulled: where it stood. -/
theorem engOne_at {P : PState} {L R : List PFiber} {y : PFiber} {F : List PFrame} {x : PFrame} {w : World} {B b eb : Nat} {p : List GFunc} {a : Option Addr} {cp : Nat} (h : OwnS w B b P) (hE : Eng w eb b p a cp) (hs : Spot P L y R F x) (hnw : P.now = (L.length : Int)) (hn : 1 ≤ x.f.stack.length) :
    Calls Try.prog 76 #[.pointer (some ⟨eb, 0, none⟩)] w fun e w' => e = .returned (.int .i64 (x.f.stack.getD (x.f.stack.length - 1) 0)) ∧
      (∃ v2, OwnS w' B b (replTop P L y R F ⟨{ x.f with stack := x.f.stack.dropLast }, x.vl, v2⟩) ∧ rowBlock v2 = rowBlock x.vs) ∧ Chg (fun k => rowBlock y.vf = some k ∨ rowBlock x.vs = some k) w w' := by
  have H := Lib.hid h
  have HE := Lib.hid hE
  have HS := Lib.hid hs
  have HNW := Lib.hid hnw
  have HN := Lib.hid hn
  have HD := Lib.hid (drop_last _ hn)
  clear h hE hs hnw hn
  have RA := alloc_keep
  have pk := fun (W : World) (h : OwnS W B b P) (hE : Eng W eb b p a cp) => engPull_at h hE HS.out HNW.out 1 HN.out
  have PK := Lib.hid pk
  clear pk
  go_enter Try.func76, Try.ntmps76
  go_wp2_with (first
    | (go_at_call 75; (refine (PK.out _ H.out HE.out).mono ?_); rintro e w2 ⟨v1, rfl, hv, t2, c2⟩; rw [HD.out] at hv; obtain ⟨b1, o1, c1, rfl, _, _, _, hc1, _⟩ := Sl.get hv (i := 0) (by simp); simp only [Nat.zero_mul, Nat.add_zero, List.getElem_cons_zero] at hc1; have HT2 := Lib.hid t2; clear t2))
  go_ret
  obtain ⟨v2, o2, hb2⟩ := HT2.out
  rw [← List.dropLast_eq_take] at o2
  exact ⟨rfl, ⟨v2, o2, hb2⟩, c2⟩
end Go.Proofs.Ytfajkebkhdcapaa
end
