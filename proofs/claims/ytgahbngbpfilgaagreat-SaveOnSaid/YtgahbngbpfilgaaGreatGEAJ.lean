/- Merged texts: contracts and plain facts, one part behind another; each part begins with what it says. -/
import Derived.Test.YtgahbngbpfilgaaGreatGEAF
import Derived.Test.YtgahbngbpfilgaaGreatGEAI
import Derived.OrdersHeld
section
set_option maxHeartbeats 400000
namespace Go.Proofs.YtgahbngbpfilgaaGreat
open Go
section
variable {P : Program} {md : Region.Mode} {ops : Array Oper} {Q : Exit → Act → World → Prop} {S : World → Prop} {z : Nat}
def wpAnyW (P : Program) (md : Region.Mode) (ops : Array Oper) (Q : Exit → Act → World → Prop) (S : World → Prop) (z : Nat) : Nat → Array Bool → Act → World → Prop
 | 0, listed, a, w => Region.ready md ops listed = [] ∧ Q .normal a w
 | fuel + 1, listed, a, w =>
  (Region.ready md ops listed = [] → Q .normal a w) ∧
  ∀ i ∈ Region.ready md ops listed, wpOp P ops Q i (fun a' w' => (i = z ∨ S w') ∧ wpAnyW P md ops Q S z fuel (listed.setIfInBounds i true) a' w') a w
theorem wpAny_of_weak : ∀ (fuel : Nat) (listed : Array Bool) (a : Act) (w : World), wpAnyW P md ops Q S z fuel listed a w → wpAny P md ops Q fuel listed a w
 | 0, _, _, _, h => h
 | fuel + 1, _, _, _, h => ⟨h.1, fun i hi => wpOp_mono (fun a' w' h' => wpAny_of_weak fuel _ a' w' h'.2) (h.2 i hi)⟩
theorem wpAnyW_first {i : Nat} {oi : Oper} {v : Value} (hz : Region.waitsFor md ops z i = true) (hi : ops[i]? = some oi) (hsel : ∀ (j : Nat) (o : Oper) cs b, ops[j]? = some o → o.op ≠ .select cs b)
  (hQ : ∀ c a w, Q (.panic c) (a.put oi.dst v) w → Q (.panic c) a w) :
  ∀ (fuel : Nat) (listed : Array Bool) (a : Act) (w : World), listed.size = ops.size →
   (∀ j oj, ops[j]? = some oj → j ≠ i → listed.getD j true = false → (∀ e ∈ oj.after, Region.binds md e = true → e.on ≠ i) → oi.apart ops oj = true) →
   i ∈ Region.ready md ops listed → YieldsIf P ops S oi v a → S w →
   wpAnyW P md ops Q S z fuel (listed.setIfInBounds i true) (a.put oi.dst v) w → wpAnyW P md ops Q S z (fuel + 1) listed a w := by
 intro fuel
 induction fuel with
 | zero =>
  intro listed a w _ _ hr hy hS H
  refine ⟨fun h => (by rw [h] at hr; cases hr), fun j hj => ?_⟩
  by_cases hji : j = i
  ·subst hji; exact hy.wpOp hi hS ⟨.inr hS, H⟩
  ·have := ready_mono hj hji
   rw [H.1] at this
   cases this
 | succ fuel ih =>
  intro listed a w hsz hfree hr hy hS H
  refine ⟨fun h => (by rw [h] at hr; cases hr), fun j hj => ?_⟩
  by_cases hji : j = i
  ·subst hji; exact hy.wpOp hi hS ⟨.inr hS, H⟩
  ·have h1 := H.2 j (ready_mono hj hji)
   obtain ⟨hjun, oj, hoj, hall⟩ := mem_ready.1 hj
   have hnot : ∀ e ∈ oj.after, Region.binds md e = true → e.on ≠ i := fun e he hb heq => by
    have h1 := hall e he hb
    have h0 := (mem_ready.1 hr).1
    rw [heq] at h1
    rcases Nat.lt_or_ge i listed.size with h' | h'
    ·simp [h'] at h0 h1; rw [h0] at h1; cases h1
    ·simp [Array.getElem?_eq_none h'] at h1
   have hjz : j ≠ z := fun e => by
    subst e
    obtain ⟨oz, hoz, e, he, hb, hon⟩ := Region.waitsFor_spec hz
    rw [hoj] at hoz
    cases hoz
    exact hnot e he hb hon
   have h2 := wpOp_putIf hoj (hfree j oj hoj hji hjun hnot) (fun cs b => hsel i oi cs b hi) (fun cs b => hsel j oj cs b hoj) hQ hy h1
   have hfree' : ∀ k ok, ops[k]? = some ok → k ≠ i → (listed.setIfInBounds j true).getD k true = false →
     (∀ e ∈ ok.after, Region.binds md e = true → e.on ≠ i) → oi.apart ops ok = true := fun k ok hk hki hun hno => by
    refine hfree k ok hk hki ?_ hno
    by_cases hjk : j = k
    ·subst hjk; exact hjun
    ·rw [getD_set_ne true hjk] at hun; exact hun
   refine wpOp_mono (fun a' w' h3 => ?_) h2
   have h4 := h3.2.1.resolve_left hjz
   exact ⟨.inr h4, ih (listed.setIfInBounds j true) a' w' (by simpa using hsz) hfree' (ready_mono hr (Ne.symm hji)) h3.1 h4 (by rw [Array.setIfInBounds_comm _ _ hji]; exact h3.2.2)⟩
def readsQ (P : Program) (ops : Array Oper) (S : World → Prop) (K : Act → Prop) : List Oper → Act → Prop
 | [], a => K a
 | o :: l, a => ∃ v, YieldsIf P ops S o v a ∧ readsQ P ops S K l (a.put o.dst v)
def tailW (P : Program) (ops : Array Oper) (S : World → Prop) (Q : Exit → Act → World → Prop) : List Oper → Act → World → Prop
 | [], a, w => Q .normal a w
 | o :: l, a, w => if Region.wanted o (yielded ops a.tmps) then o.wp P a w (fun a' w' => (l = [] ∨ S w') ∧ tailW P ops S Q l a' w') Q ∨ (o.asks P a w ∧ LetsOut Q) else (l = [] ∨ S w) ∧ tailW P ops S Q l (a.put o.dst undef) w
def pickOps (l : List Oper) (ord : List Nat) : List Oper := ord.filterMap (fun i => l[i]?)
def rtTail (md : Region.Mode) (ops : Array Oper) (z : Nat) : List Nat → Array Bool → Bool
 | [], listed => (Region.ready md ops listed).isEmpty
 | k :: l, listed => decide (Region.ready md ops listed = [k]) && decide (k < ops.size) && (decide (k = z) == l.isEmpty) && rtTail md ops z l (listed.setIfInBounds k true)
def rtHead (md : Region.Mode) (ops : Array Oper) (z : Nat) (tl : List Nat) : List Nat → Array Bool → Bool
 | [], listed => rtTail md ops z tl listed
 | k :: l, listed => (Region.ready md ops listed).contains k && Region.free md ops listed k && decide (k < ops.size) && Region.waitsFor md ops z k && rtHead md ops z tl l (listed.setIfInBounds k true)
def rtB (md : Region.Mode) (ops : Array Oper) (z : Nat) (rd tl : List Nat) : Bool :=
 Region.noSelect ops && decide (rd.length + tl.length = ops.size) && rtHead md ops z tl rd (Array.replicate ops.size false)
theorem wpAnyW_tail {l : List Oper} (hl : ops = l.toArray) : ∀ (tl : List Nat) (fuel : Nat) (listed : Array Bool) (a : Act) (w : World), tl.length = fuel → rtTail md ops z tl listed = true → tailW P ops S Q (pickOps l tl) a w → wpAnyW P md ops Q S z fuel listed a w
 | [], 0, listed, a, w, _, hB, h => ⟨by simpa [rtTail] using hB, h⟩
 | k :: tl, fuel + 1, listed, a, w, hf, hB, h => by
  simp only [rtTail, Bool.and_eq_true, decide_eq_true_eq] at hB
  obtain ⟨⟨⟨h1, h2⟩, h3⟩, h4⟩ := hB
  obtain ⟨o, ho⟩ : ∃ o, l[k]? = some o := ⟨l[k]'(by subst hl; simpa using h2), by rw [List.getElem?_eq_getElem]⟩
  have ho' : ops[k]? = some o := by subst hl; simpa using ho
  have e : pickOps l (k :: tl) = o :: pickOps l tl := by unfold pickOps; simp [ho]
  rw [e] at h
  refine ⟨fun h0 => (by rw [h1] at h0; cases h0), fun i hi => ?_⟩
  rw [h1] at hi
  obtain rfl : i = k := by simpa using hi
  have hnil : pickOps l tl = [] → i = z := fun h0 => by
   cases tl with
   | nil => simpa using h3
   | cons j tl' =>
    exfalso
    simp only [rtTail, Bool.and_eq_true, decide_eq_true_eq] at h4
    have hj := h4.1.1.2
    have : (pickOps l (j :: tl')) ≠ [] := by
     unfold pickOps
     have hj' : l[j]? = some (l[j]'(by subst hl; simpa using hj)) := List.getElem?_eq_getElem _
     simp [hj']
    exact this h0
  have hw : wpOp P ops Q i (fun a' w' => (pickOps l tl = [] ∨ S w') ∧ tailW P ops S Q (pickOps l tl) a' w') a w := by unfold wpOp; simp only [ho']; exact h
  exact wpOp_mono (fun a' w' h' => ⟨h'.1.imp hnil id, wpAnyW_tail hl tl fuel _ a' w' (by simpa using hf) h4 h'.2⟩) hw
theorem wpAnyW_head {l : List Oper} (hl : ops = l.toArray) (hsel : Region.noSelect ops = true)  (hQ : ∀ c a d v w, Q (.panic c) (Act.put a (some d) v) w → Q (.panic c) a w) {w : World} (hS : S w) (tl : List Nat) :
  ∀ (rd : List Nat) (fuel : Nat) (listed : Array Bool) (a : Act), listed.size = ops.size → rd.length + tl.length = fuel → rtHead md ops z tl rd listed = true → readsQ P ops S (fun a' => tailW P ops S Q (pickOps l tl) a' w) (pickOps l rd) a → wpAnyW P md ops Q S z fuel listed a w
 | [], fuel, listed, a, hs, hf, hB, h => wpAnyW_tail hl tl fuel listed a w (by simpa using hf) hB h
 | k :: rd, fuel, listed, a, hs, hf, hB, h => by
  simp only [rtHead, Bool.and_eq_true, decide_eq_true_eq] at hB
  obtain ⟨⟨⟨⟨h1, h2⟩, h3⟩, h4⟩, h5⟩ := hB
  obtain ⟨o, ho⟩ : ∃ o, l[k]? = some o := ⟨l[k]'(by subst hl; simpa using h3), by rw [List.getElem?_eq_getElem]⟩
  have ho' : ops[k]? = some o := by subst hl; simpa using ho
  have e : pickOps l (k :: rd) = o :: pickOps l rd := by unfold pickOps; simp [ho]
  rw [e] at h
  obtain ⟨v, hy, hK⟩ := h
  obtain ⟨f, rfl⟩ : ∃ f, fuel = f + 1 := ⟨fuel - 1, by simp at hf; omega⟩
  exact wpAnyW_first h4 ho' (Region.noSelect_spec hsel) (fun c a w h => by cases hd : o.dst with | none => rw [hd] at h; exact h | some d => rw [hd] at h; exact hQ c _ _ _ w h) f listed a w hs (Region.free_spec ho' h2) (by simpa using h1) hy hS
   (wpAnyW_head hl hsel hQ hS tl rd f _ _ (by simpa using hs) (by simp at hf; omega) h5 hK)
theorem wp_region_rt {id : Nat} {l : List Oper} {a : Act} {w : World} (S : World → Prop) (z : Nat) (rd tl : List Nat) (hm : P.follows .mixedOrders = true) (hB : rtB .any l.toArray z rd tl = true) (hQ : ∀ c a d v w, Q (.panic c) (Act.put a (some d) v) w → Q (.panic c) a w) (hS : S w.drew)
  (h : readsQ P l.toArray S (fun a' => tailW P l.toArray S Q (pickOps l tl) a' w.drew) (pickOps l rd) a) : (Code.region id l.toArray true).wp P Q a w := by
 simp only [rtB, Bool.and_eq_true, decide_eq_true_eq] at hB
 obtain ⟨⟨h1, h2⟩, h4⟩ := hB
 refine wp_region_any hm (wpAny_of_weak (S := S) (z := z) _ _ _ _ ?_)
 exact wpAnyW_head rfl h1 hQ hS tl rd _ _ a (by simp) h2 h4 h
theorem readsQ_do {o : Oper} {l : List Oper} {a : Act} {K : Act → Prop} (hw : Region.wanted o (yielded ops a.tmps) = true) (h : ∃ v, (∀ w, S w → (execOp a.eval o).run P w = .ok (.value v) w) ∧ readsQ P ops S K l (a.put o.dst v)) : readsQ P ops S K (o :: l) a := by
 obtain ⟨v, h1, h2⟩ := h
 exact ⟨v, .inl ⟨hw, h1⟩, h2⟩
theorem readsQ_nil {a : Act} {K : Act → Prop} (h : K a) : readsQ P ops S K [] a := h
theorem Oper.wp_exits {o : Oper} {a : Act} {w : World} {K : Act → World → Prop} {Q' : Exit → Act → World → Prop} (hQ : ∀ c a w, Q' (.panic c) a w → Q (.panic c) a w) (hL : LetsOut Q' → LetsOut Q) (hh : o.wp P a w K Q') : o.wp P a w K Q := by
 unfold Oper.wp at *
 generalize (execOp a.eval o).run P w = r at *
 cases r with
 | ok n w' =>
  cases n <;> simp only [Oper.upon] at hh ⊢ <;>
   first
    | exact hh
    | exact Calls.mono hh (fun e w'' he => by cases e <;> first | exact he | exact hQ _ _ _ he | exact hL he)
 | halt x w' => cases x <;> simp only [Oper.upon] at hh ⊢ <;> first | exact hh | exact hQ _ _ _ hh
def nextW (P : Program) (ops : Array Oper) (S : World → Prop) (Q : Exit → Act → World → Prop) (l : List Oper) : Exit → Act → World → Prop
 | .normal, a, w => (l = [] ∨ S w) ∧ tailW P ops S Q l a w
 | e, a, w => Q e a w
theorem tailW_step {o : Oper} {l : List Oper} {a : Act} {w : World} (h : wpList P ops (nextW P ops S Q l) [o] a w) : tailW P ops S Q (o :: l) a w := by
 have hL : LetsOut (nextW P ops S Q l) → LetsOut Q := fun ⟨a, w, h⟩ => ⟨a, w, h⟩
 unfold tailW
 unfold wpList at h
 split at h
 ·rename_i hw
  rw [if_pos hw]
  refine h.imp (fun h1 => Oper.wp_exits (fun _ _ _ h => h) hL h1) (fun h1 => ⟨h1.1, hL h1.2⟩)
 ·rename_i hw
  rw [if_neg hw]
  exact h
theorem nextW_go {l : List Oper} {a : Act} {w : World} (hS : S w) (h : tailW P ops S Q l a w) : nextW P ops S Q l .normal a w := ⟨.inr hS, h⟩
theorem nextW_end {a : Act} {w : World} (h : Q .normal a w) : nextW P ops S Q [] .normal a w := ⟨.inl rfl, h⟩
def rwHead (md : Region.Mode) (ops : Array Oper) (z : Nat) : List Nat → Array Bool → Bool
 | [], _ => true
 | k :: l, listed => (Region.ready md ops listed).contains k && Region.free md ops listed k && decide (k < ops.size) && Region.waitsFor md ops z k && rwHead md ops z l (listed.setIfInBounds k true)
def rwB (md : Region.Mode) (ops : Array Oper) (z : Nat) (rd : List Nat) (f : Nat) : Bool :=
 Region.noSelect ops && decide (rd.length + f = ops.size) && rwHead md ops z rd (Array.replicate ops.size false)
def listedOf (n : Nat) (rd : List Nat) : Array Bool := rd.foldl (fun l i => l.setIfInBounds i true) (Array.replicate n false)
theorem wpAnyW_reads {l : List Oper} (hl : ops = l.toArray) (hsel : Region.noSelect ops = true) (hQ : ∀ c a d v w, Q (.panic c) (Act.put a (some d) v) w → Q (.panic c) a w) {w : World} (hS : S w) (f : Nat) :
  ∀ (rd : List Nat) (listed : Array Bool) (a : Act), listed.size = ops.size → rwHead md ops z rd listed = true →
   readsQ P ops S (fun a' => wpAnyW P md ops Q S z f (rd.foldl (fun l i => l.setIfInBounds i true) listed) a' w) (pickOps l rd) a → wpAnyW P md ops Q S z (rd.length + f) listed a w
 | [], listed, a, hs, hB, h => by
  rw [List.length_nil, Nat.zero_add]
  exact h
 | k :: rd, listed, a, hs, hB, h => by
  simp only [rwHead, Bool.and_eq_true, decide_eq_true_eq] at hB
  obtain ⟨⟨⟨⟨h1, h2⟩, h3⟩, h4⟩, h5⟩ := hB
  obtain ⟨o, ho⟩ : ∃ o, l[k]? = some o := ⟨l[k]'(by subst hl; simpa using h3), by rw [List.getElem?_eq_getElem]⟩
  have ho' : ops[k]? = some o := by subst hl; simpa using ho
  have e : pickOps l (k :: rd) = o :: pickOps l rd := by unfold pickOps; simp [ho]
  rw [e] at h
  obtain ⟨v, hy, hK⟩ := h
  rw [List.length_cons, show rd.length + 1 + f = (rd.length + f) + 1 by omega]
  exact wpAnyW_first h4 ho' (Region.noSelect_spec hsel) (fun c a w h => by cases hd : o.dst with | none => rw [hd] at h; exact h | some d => rw [hd] at h; exact hQ c _ _ _ w h) _ listed a w hs (Region.free_spec ho' h2) (by simpa using h1) hy hS
   (wpAnyW_reads hl hsel hQ hS f rd _ _ (by simpa using hs) h5 hK)
theorem wp_region_rw {id : Nat} {l : List Oper} {a : Act} {w : World} (S : World → Prop) (z : Nat) (rd : List Nat) (f : Nat) (hm : P.follows .mixedOrders = true) (hB : rwB .any l.toArray z rd f = true) (hQ : ∀ c a d v w, Q (.panic c) (Act.put a (some d) v) w → Q (.panic c) a w) (hS : S w.drew)
  (h : readsQ P l.toArray S (fun a' => wpAnyW P .any l.toArray Q S z f (listedOf l.toArray.size rd) a' w.drew) (pickOps l rd) a) : (Code.region id l.toArray true).wp P Q a w := by
 simp only [rwB, Bool.and_eq_true, decide_eq_true_eq] at hB
 obtain ⟨⟨h1, h2⟩, h4⟩ := hB
 refine wp_region_any hm (wpAny_of_weak (S := S) (z := z) _ _ _ _ ?_)
 have h5 := wpAnyW_reads rfl h1 hQ hS f rd (Array.replicate l.toArray.size false) a (by simp) h4 h
 rwa [h2] at h5
def nextA (P : Program) (md : Region.Mode) (ops : Array Oper) (Q : Exit → Act → World → Prop) (S : World → Prop) (z f : Nat) (listed : Array Bool) (i : Nat) : Exit → Act → World → Prop
 | .normal, a, w => (i = z ∨ S w) ∧ wpAnyW P md ops Q S z f (listed.setIfInBounds i true) a w
 | e, a, w => Q e a w
theorem wpOp_nextA {f i : Nat} {listed : Array Bool} {o : Oper} {a : Act} {w : World} (ho : ops[i]? = some o) (h : wpList P ops (nextA P md ops Q S z f listed i) [o] a w) :
  wpOp P ops Q i (fun a' w' => (i = z ∨ S w') ∧ wpAnyW P md ops Q S z f (listed.setIfInBounds i true) a' w') a w := by
 have hL : LetsOut (nextA P md ops Q S z f listed i) → LetsOut Q := fun ⟨a, w, h⟩ => ⟨a, w, h⟩
 unfold wpOp
 unfold wpList at h
 simp only [ho]
 split at h
 ·rename_i hw
  rw [if_pos hw]
  exact h.imp (fun h1 => Oper.wp_exits (fun _ _ _ h => h) hL h1) (fun h1 => ⟨h1.1, hL h1.2⟩)
 ·rename_i hw
  rw [if_neg hw]
  exact h
theorem wpAnyW_one {f : Nat} {listed : Array Bool} {a : Act} {w : World} (i : Nat) {o : Oper} (hr : Region.ready md ops listed = [i]) (ho : ops[i]? = some o) (h : wpList P ops (nextA P md ops Q S z f listed i) [o] a w) : wpAnyW P md ops Q S z (f + 1) listed a w := by
 refine ⟨fun h0 => (by rw [hr] at h0; cases h0), fun j hj => ?_⟩
 rw [hr] at hj
 obtain rfl : j = i := by simpa using hj
 exact wpOp_nextA ho h
theorem wpAnyW_two {f : Nat} {listed : Array Bool} {a : Act} {w : World} (i k : Nat) {o o' : Oper} (hr : Region.ready md ops listed = [i, k]) (ho : ops[i]? = some o) (ho' : ops[k]? = some o')
  (h : wpList P ops (nextA P md ops Q S z f listed i) [o] a w) (h' : wpList P ops (nextA P md ops Q S z f listed k) [o'] a w) : wpAnyW P md ops Q S z (f + 1) listed a w := by
 refine ⟨fun h0 => (by rw [hr] at h0; cases h0), fun j hj => ?_⟩
 rw [hr] at hj
 simp only [List.mem_cons, List.not_mem_nil, or_false] at hj
 rcases hj with rfl | rfl
 ·exact wpOp_nextA ho h
 ·exact wpOp_nextA ho' h'
theorem nextA_go {f i : Nat} {listed : Array Bool} {a : Act} {w : World} (hS : S w) (h : wpAnyW P md ops Q S z f (listed.setIfInBounds i true) a w) : nextA P md ops Q S z f listed i .normal a w := ⟨.inr hS, h⟩
theorem nextA_end {i : Nat} {listed : Array Bool} {a : Act} {w : World} (hi : i = z) (hr : (Region.ready md ops (listed.setIfInBounds i true)).isEmpty = true) (h : Q .normal a w) : nextA P md ops Q S z 0 listed i .normal a w := ⟨.inl hi, by simpa using hr, h⟩
theorem wpAnyW_take {f : Nat} {listed : Array Bool} {a : Act} {w : World} (i : Nat) {o : Oper} (hsel : Region.noSelect ops = true) (hsz : listed.size = ops.size) (hr : (Region.ready md ops listed).contains i = true) (hf : Region.free md ops listed i = true) (hz : Region.waitsFor md ops z i = true)
  (hQ : ∀ c a d v w, Q (.panic c) (Act.put a (some d) v) w → Q (.panic c) a w) (ho : ops[i]? = some o) (hw : Region.wanted o (yielded ops a.tmps) = true) (hS : S w)
  (h : ∃ v, (∀ w, S w → (execOp a.eval o).run P w = .ok (.value v) w) ∧ wpAnyW P md ops Q S z f (listed.setIfInBounds i true) (a.put o.dst v) w) : wpAnyW P md ops Q S z (f + 1) listed a w := by
 obtain ⟨v, h1, h2⟩ := h
 exact wpAnyW_first hz ho (Region.noSelect_spec hsel) (fun c a w h => by cases hd : o.dst with | none => rw [hd] at h; exact h | some d => rw [hd] at h; exact hQ c _ _ _ w h) f listed a w hsz (Region.free_spec ho hf) (by simpa using hr) (.inl ⟨hw, h1⟩) hS h2
end
end Go.Proofs.YtgahbngbpfilgaaGreat
end
section
set_option maxHeartbeats 400000
namespace Go.Proofs.YtgahbngbpfilgaaGreat
open Go
section
variable {P : Program} {md : Region.Mode} {ops : Array Oper} {Q : Exit → Act → World → Prop} {S : World → Prop} {z : Nat}
def wpAnyZ (P : Program) (md : Region.Mode) (ops : Array Oper) (Q : Exit → Act → World → Prop) (S : World → Prop) (z : Nat) : Nat → Array Bool → Act → World → Prop
 | 0, listed, a, w => Region.ready md ops listed = [] ∧ Q .normal a w
 | fuel + 1, listed, a, w =>
  (Region.ready md ops listed = [] → Q .normal a w) ∧
  ∀ i ∈ Region.ready md ops listed, wpOp P ops Q i (fun a' w' => if i = z then wpAny P md ops Q fuel (listed.setIfInBounds i true) a' w' else S w' ∧ wpAnyZ P md ops Q S z fuel (listed.setIfInBounds i true) a' w') a w
theorem wpAny_of_Z : ∀ (fuel : Nat) (listed : Array Bool) (a : Act) (w : World), wpAnyZ P md ops Q S z fuel listed a w → wpAny P md ops Q fuel listed a w
 | 0, _, _, _, h => h
 | fuel + 1, _, _, _, h => ⟨h.1, fun i hi => wpOp_mono (fun a' w' h' => by
   by_cases e : i = z
   ·rw [if_pos e] at h'; exact h'
   ·rw [if_neg e] at h'; exact wpAny_of_Z fuel _ a' w' h'.2) (h.2 i hi)⟩
def thenZ (P : Program) (ops : Array Oper) (Q : Exit → Act → World → Prop) (l : List Oper) : Exit → Act → World → Prop
 | .normal, a, w => tailW P ops (fun _ => True) Q l a w
 | e, a, w => Q e a w
def rzTail (md : Region.Mode) (ops : Array Oper) (z z2 : Nat) (tl2 : List Nat) : List Nat → Array Bool → Bool
 | [], _ => false
 | k :: l, listed => decide (Region.ready md ops listed = [k]) && decide (k < ops.size) && (decide (k = z) == l.isEmpty) && (if l.isEmpty then !tl2.isEmpty && rtTail md ops z2 tl2 (listed.setIfInBounds k true) else rzTail md ops z z2 tl2 l (listed.setIfInBounds k true))
theorem wpAnyZ_tail {l : List Oper} (hl : ops = l.toArray) (z2 : Nat) (tl2 : List Nat) : ∀ (tl : List Nat) (fuel : Nat) (listed : Array Bool) (a : Act) (w : World), tl.length + tl2.length = fuel → rzTail md ops z z2 tl2 tl listed = true → tailW P ops S (thenZ P ops Q (pickOps l tl2)) (pickOps l tl) a w → wpAnyZ P md ops Q S z fuel listed a w
 | [], _, _, _, _, _, hB, _ => by simp [rzTail] at hB
 | k :: tl, fuel, listed, a, w, hf, hB, h => by
  obtain ⟨f, rfl⟩ : ∃ f, fuel = f + 1 := ⟨fuel - 1, by simp at hf; omega⟩
  simp only [rzTail, Bool.and_eq_true, decide_eq_true_eq] at hB
  obtain ⟨⟨⟨h1, h2⟩, h3⟩, h4⟩ := hB
  obtain ⟨o, ho⟩ : ∃ o, l[k]? = some o := ⟨l[k]'(by subst hl; simpa using h2), by rw [List.getElem?_eq_getElem]⟩
  have ho' : ops[k]? = some o := by subst hl; simpa using ho
  have e : pickOps l (k :: tl) = o :: pickOps l tl := by unfold pickOps; simp [ho]
  rw [e] at h
  refine ⟨fun h0 => (by rw [h1] at h0; cases h0), fun i hi => ?_⟩
  rw [h1] at hi
  obtain rfl : i = k := by simpa using hi
  have hL : LetsOut (thenZ P ops Q (pickOps l tl2)) → LetsOut Q := fun ⟨a, w, h⟩ => ⟨a, w, h⟩
  have hw : wpOp P ops Q i (fun a' w' => (pickOps l tl = [] ∨ S w') ∧ tailW P ops S (thenZ P ops Q (pickOps l tl2)) (pickOps l tl) a' w') a w := by
   unfold wpOp
   simp only [ho']
   unfold tailW at h
   split at h
   ·rename_i hw
    rw [if_pos hw]
    exact h.imp (fun h1 => Oper.wp_exits (fun _ _ _ h => h) hL h1) (fun h1 => ⟨h1.1, hL h1.2⟩)
   ·rename_i hw
    rw [if_neg hw]
    exact h
  cases tl with
  | nil =>
   have hz : i = z := by simpa using h3
   simp only [List.isEmpty_nil, if_true, Bool.and_eq_true] at h4
   refine wpOp_mono (fun a' w' h' => ?_) hw
   rw [if_pos hz]
   exact wpAny_of_weak _ _ _ _ (wpAnyW_tail hl tl2 f _ a' w' (by simp at hf; omega) h4.2 h'.2)
  | cons j tl' =>
   have hz : i ≠ z := by simpa using h3
   simp only [List.isEmpty_cons, Bool.false_eq_true, if_false] at h4
   have hne : pickOps l (j :: tl') ≠ [] := by
    have hj : j < ops.size := by
     unfold rzTail at h4
     simp only [Bool.and_eq_true, decide_eq_true_eq] at h4
     exact h4.1.1.2
    unfold pickOps
    have hj' : l[j]? = some (l[j]'(by subst hl; simpa using hj)) := List.getElem?_eq_getElem _
    simp [hj']
   refine wpOp_mono (fun a' w' h' => ?_) hw
   rw [if_neg hz]
   exact ⟨h'.1.resolve_left hne, wpAnyZ_tail hl z2 tl2 (j :: tl') f _ a' w' (by simp at hf ⊢; omega) h4 h'.2⟩
theorem thenZ_go {l : List Oper} {a : Act} {w : World} (h : tailW P ops (fun _ => True) Q l a w) : thenZ P ops Q l .normal a w := h
end
end Go.Proofs.YtgahbngbpfilgaaGreat
end
section
set_option maxHeartbeats 400000
namespace Go.Proofs.YtgahbngbpfilgaaGreat
open Go
section
variable {P : Program} {md : Region.Mode} {ops : Array Oper} {Q : Exit → Act → World → Prop} {S : World → Prop} {z : Nat}
def ClosedL (md : Region.Mode) (ops : Array Oper) (listed : Array Bool) : Prop := ∀ k ok, ops[k]? = some ok → listed.getD k false = true → ∀ e ∈ ok.after, Region.binds md e = true → listed.getD e.on false = true
theorem getD_set_or {listed : Array Bool} {i k : Nat} (h : (listed.setIfInBounds i true).getD k false = true) : k = i ∨ listed.getD k false = true := by
 by_cases e : k = i
 ·exact .inl e
 ·rw [getD_set_ne false (Ne.symm e)] at h; exact .inr h
theorem ClosedL.set {listed : Array Bool} (h : ClosedL md ops listed) {i : Nat} (hr : i ∈ Region.ready md ops listed) : ClosedL md ops (listed.setIfInBounds i true) := by
 intro k ok hk hl e he hb
 obtain ⟨_, oi, hoi, hall⟩ := mem_ready.1 hr
 rcases getD_set_or hl with rfl | h1
 ·rw [hoi] at hk; cases hk
  exact getD_set_true (hall e he hb)
 ·exact getD_set_true (h k ok hk h1 e he hb)
theorem closedL_nil (n : Nat) : ClosedL md ops (Array.replicate n false) := by
 intro k ok _ hl
 exfalso
 rw [Array.getD_eq_getD_getElem?, Array.getElem?_replicate] at hl
 split at hl <;> simp at hl
def waitsT (md : Region.Mode) (ops : Array Oper) : Nat → Nat → Nat → Bool
 | 0, _, _ => false
 | f + 1, j, i => match ops[j]? with
  | some oj => oj.after.any fun e => Region.binds md e && (e.on == i || waitsT md ops f e.on i)
  | none => false
theorem waitsT_listed {listed : Array Bool} (hc : ClosedL md ops listed) {i : Nat} : ∀ (f j : Nat), waitsT md ops f j i = true → (∀ oj, ops[j]? = some oj → ∀ e ∈ oj.after, Region.binds md e = true → listed.getD e.on false = true) → listed.getD i false = true
 | 0, _, h, _ => by simp [waitsT] at h
 | f + 1, j, h, hj => by
  unfold waitsT at h
  split at h
  ·rename_i oj hoj
   obtain ⟨e, he, hb⟩ := Array.any_eq_true'.1 h
   simp only [Bool.and_eq_true, Bool.or_eq_true, beq_iff_eq] at hb
   have hl := hj oj hoj e he hb.1
   rcases hb.2 with h1 | h1
   ·rw [← h1]; exact hl
   ·exact waitsT_listed hc f e.on h1 (fun ok hk => hc e.on ok hk hl)
  ·cases h
theorem wpAnyW_firstT {i F : Nat} {oi : Oper} {v : Value} (hz : waitsT md ops F z i = true) (hi : ops[i]? = some oi) (hsel : ∀ (j : Nat) (o : Oper) cs b, ops[j]? = some o → o.op ≠ .select cs b)
  (hQ : ∀ c a w, Q (.panic c) (a.put oi.dst v) w → Q (.panic c) a w) :
  ∀ (fuel : Nat) (listed : Array Bool) (a : Act) (w : World), listed.size = ops.size → ClosedL md ops listed →
   (∀ j oj, ops[j]? = some oj → j ≠ i → listed.getD j true = false → (∀ e ∈ oj.after, Region.binds md e = true → e.on ≠ i) → oi.apart ops oj = true) →
   i ∈ Region.ready md ops listed → YieldsIf P ops S oi v a → S w →
   wpAnyW P md ops Q S z fuel (listed.setIfInBounds i true) (a.put oi.dst v) w → wpAnyW P md ops Q S z (fuel + 1) listed a w := by
 intro fuel
 induction fuel with
 | zero =>
  intro listed a w _ _ _ hr hy hS H
  refine ⟨fun h => (by rw [h] at hr; cases hr), fun j hj => ?_⟩
  by_cases hji : j = i
  ·subst hji; exact hy.wpOp hi hS ⟨.inr hS, H⟩
  ·have := ready_mono hj hji
   rw [H.1] at this
   cases this
 | succ fuel ih =>
  intro listed a w hsz hcl hfree hr hy hS H
  refine ⟨fun h => (by rw [h] at hr; cases hr), fun j hj => ?_⟩
  by_cases hji : j = i
  ·subst hji; exact hy.wpOp hi hS ⟨.inr hS, H⟩
  ·have h1 := H.2 j (ready_mono hj hji)
   obtain ⟨hjun, oj, hoj, hall⟩ := mem_ready.1 hj
   have hun0 : listed.getD i false ≠ true := fun h => by
    have h0 := (mem_ready.1 hr).1
    rcases Nat.lt_or_ge i listed.size with h' | h'
    ·simp [h'] at h0 h; rw [h0] at h; cases h
    ·simp [Array.getElem?_eq_none h'] at h
   have hnot : ∀ e ∈ oj.after, Region.binds md e = true → e.on ≠ i := fun e he hb heq => hun0 (heq ▸ hall e he hb)
   have hjz : j ≠ z := fun e => by
    subst e
    exact hun0 (waitsT_listed hcl F j hz (fun ok hk e he hb => by rw [hoj] at hk; cases hk; exact hall e he hb))
   have h2 := wpOp_putIf hoj (hfree j oj hoj hji hjun hnot) (fun cs b => hsel i oi cs b hi) (fun cs b => hsel j oj cs b hoj) hQ hy h1
   have hfree' : ∀ k ok, ops[k]? = some ok → k ≠ i → (listed.setIfInBounds j true).getD k true = false →
     (∀ e ∈ ok.after, Region.binds md e = true → e.on ≠ i) → oi.apart ops ok = true := fun k ok hk hki hun hno => by
    refine hfree k ok hk hki ?_ hno
    by_cases hjk : j = k
    ·subst hjk; exact hjun
    ·rw [getD_set_ne true hjk] at hun; exact hun
   refine wpOp_mono (fun a' w' h3 => ?_) h2
   have h4 := h3.2.1.resolve_left hjz
   exact ⟨.inr h4, ih (listed.setIfInBounds j true) a' w' (by simpa using hsz) (hcl.set hj) hfree' (ready_mono hr (Ne.symm hji)) h3.1 h4 (by rw [Array.setIfInBounds_comm _ _ hji]; exact h3.2.2)⟩
def rtHeadT (md : Region.Mode) (ops : Array Oper) (z : Nat) (tl : List Nat) : List Nat → Array Bool → Bool
 | [], listed => rtTail md ops z tl listed
 | k :: l, listed => (Region.ready md ops listed).contains k && Region.free md ops listed k && decide (k < ops.size) && waitsT md ops ops.size z k && rtHeadT md ops z tl l (listed.setIfInBounds k true)
def rtBT (md : Region.Mode) (ops : Array Oper) (z : Nat) (rd tl : List Nat) : Bool :=
 Region.noSelect ops && decide (rd.length + tl.length = ops.size) && rtHeadT md ops z tl rd (Array.replicate ops.size false)
theorem wpAnyW_headT {l : List Oper} (hl : ops = l.toArray) (hsel : Region.noSelect ops = true)  (hQ : ∀ c a d v w, Q (.panic c) (Act.put a (some d) v) w → Q (.panic c) a w) {w : World} (hS : S w) (tl : List Nat) :
  ∀ (rd : List Nat) (fuel : Nat) (listed : Array Bool) (a : Act), listed.size = ops.size → ClosedL md ops listed → rd.length + tl.length = fuel → rtHeadT md ops z tl rd listed = true → readsQ P ops S (fun a' => tailW P ops S Q (pickOps l tl) a' w) (pickOps l rd) a → wpAnyW P md ops Q S z fuel listed a w
 | [], fuel, listed, a, hs, _, hf, hB, h => wpAnyW_tail hl tl fuel listed a w (by simpa using hf) hB h
 | k :: rd, fuel, listed, a, hs, hcl, hf, hB, h => by
  simp only [rtHeadT, Bool.and_eq_true, decide_eq_true_eq] at hB
  obtain ⟨⟨⟨⟨h1, h2⟩, h3⟩, h4⟩, h5⟩ := hB
  obtain ⟨o, ho⟩ : ∃ o, l[k]? = some o := ⟨l[k]'(by subst hl; simpa using h3), by rw [List.getElem?_eq_getElem]⟩
  have ho' : ops[k]? = some o := by subst hl; simpa using ho
  have e : pickOps l (k :: rd) = o :: pickOps l rd := by unfold pickOps; simp [ho]
  rw [e] at h
  obtain ⟨v, hy, hK⟩ := h
  obtain ⟨f, rfl⟩ : ∃ f, fuel = f + 1 := ⟨fuel - 1, by simp at hf; omega⟩
  have hr : k ∈ Region.ready md ops listed := by simpa using h1
  exact wpAnyW_firstT h4 ho' (Region.noSelect_spec hsel) (fun c a w h => by cases hd : o.dst with | none => rw [hd] at h; exact h | some d => rw [hd] at h; exact hQ c _ _ _ w h) f listed a w hs hcl (Region.free_spec ho' h2) hr hy hS
   (wpAnyW_headT hl hsel hQ hS tl rd f _ _ (by simpa using hs) (hcl.set hr) (by simp at hf; omega) h5 hK)
theorem wp_region_rtt {id : Nat} {l : List Oper} {a : Act} {w : World} (S : World → Prop) (z : Nat) (rd tl : List Nat) (hm : P.follows .mixedOrders = true) (hB : rtBT .any l.toArray z rd tl = true) (hQ : ∀ c a d v w, Q (.panic c) (Act.put a (some d) v) w → Q (.panic c) a w) (hS : S w.drew)
  (h : readsQ P l.toArray S (fun a' => tailW P l.toArray S Q (pickOps l tl) a' w.drew) (pickOps l rd) a) : (Code.region id l.toArray true).wp P Q a w := by
 simp only [rtBT, Bool.and_eq_true, decide_eq_true_eq] at hB
 obtain ⟨⟨h1, h2⟩, h4⟩ := hB
 refine wp_region_any hm (wpAny_of_weak (S := S) (z := z) _ _ _ _ ?_)
 exact wpAnyW_headT rfl h1 hQ hS tl rd _ _ a (by simp) (closedL_nil _) h2 h4 h
end
end Go.Proofs.YtgahbngbpfilgaaGreat
end
section
namespace Go.Proofs.YtgahbngbpfilgaaGreat
open Go Go.RowKit
def topOf (f : GFiber) : GFrame := f.frames.getD (f.frames.length - 1) default
def curF (s : GState) : GFiber := s.fibers.getD s.now.toNat default
def curX (s : GState) : GFrame := topOf (curF s)
def modFib (s : GState) (n : Int) (g : GFiber → GFiber) : GState := { s with fibers := s.fibers.modify n.toNat g }
def modTop (s : GState) (n : Int) (g : GFrame → GFrame) : GState := modFib s n fun f => { f with frames := f.frames.modify (f.frames.length - 1) g }
def pushG (s : GState) (n v : Int) : GState := modTop s n fun x => { x with stack := x.stack ++ [v] }
def popG (s : GState) : GState := modTop s s.now fun x => { x with stack := x.stack.dropLast }
def lastV (s : GState) : Int := (curX s).stack.getD ((curX s).stack.length - 1) 0
def putG (s : GState) (v : Int) : Int × GState := if s.out.length = 30 then (2, s) else (0, { s with out := s.out ++ [v] })
def advG (s : GState) : GState := modTop s s.now fun x => { x with at_ := x.at_ + 1 }
def setAtG (s : GState) (a : Int) : GState := modTop s s.now fun x => { x with at_ := a }
def backG (s : GState) (v : Int) : GState := pushG { modFib s s.now (fun f => { f with caller := -1 }) with now := (curF s).caller } (curF s).caller v
def dropG (s : GState) : GState := modFib s s.now fun f => { f with frames := f.frames.dropLast }
def returnG (s : GState) : Int × GState :=
 if 0 < (curF (dropG (popG s))).frames.length then (0, pushG (dropG (popG s)) s.now (lastV s))
 else if (curF (dropG (popG s))).caller < 0 then putG { dropG (popG s) with now := -1 } (lastV s)
 else (0, backG (dropG (popG s)) (lastV s))
def yieldG (s : GState) : Int × GState := if (curF (popG s)).caller < 0 then (7, s) else (0, backG (popG s) (lastV s))
def lineLL (s : GState) : List Int := (lineS s).getD []
def wakeG (s : GState) (n v : Int) : GState :=
 if (topOf (s.fibers.getD n.toNat default)).at_ = 0 then modTop { modFib s n (fun f => { f with caller := s.now }) with now := n } n (fun x => { x with locals := x.locals.set 0 v })
 else pushG { modFib s n (fun f => { f with caller := s.now }) with now := n } n v
def resumeG (s : GState) : Int × GState :=
 if ¬ (0 ≤ lastV (popG s) ∧ lastV (popG s) < s.fibers.length) then (5, s)
 else if lastV (popG s) ∈ lineLL (popG (popG s)) ∨ ((popG (popG s)).fibers.getD (lastV (popG s)).toNat default).frames.length = 0 then (6, s)
 else (0, wakeG (popG (popG s)) (lastV (popG s)) (lastV s))
def leaveG (s : GState) (m : Nat) : GState := modTop s s.now fun x => { x with stack := x.stack.take (x.stack.length - m) }
def argsOf (p : List GFunc) (s : GState) (a : Int) (m : Nat) : List Int := List.replicate ((funcOf p a).args.toNat - m) 0 ++ (curX s).stack.drop ((curX s).stack.length - m) ++ List.replicate ((funcOf p a).locals.toNat - (funcOf p a).args.toNat) 0
def callG (p : List GFunc) (s : GState) (a : Int) : Int × GState :=
 if (curF s).frames.length = 6 then (2, s)
 else (0, modFib (leaveG s (funcOf p a).args.toNat) s.now fun f => { f with frames := f.frames ++ [⟨a, 0, argsOf p s a (funcOf p a).args.toNat, []⟩] })
def truthG (b : Bool) : Int := if b then 1 else 0
def reckG (k a b : Int) : Int :=
 if k = 4 then wrap64 (a + b) else if k = 5 then wrap64 (a - b) else if k = 6 then wrap64 (a * b) else if k = 7 then truthG (decide (a < b)) else truthG (decide (a = b))
def makeG (p : List GFunc) (s : GState) (a : Int) : Int × GState :=
 if s.fibers.length = 5 then (2, s) else (0, { pushG s s.now s.fibers.length with fibers := (pushG s s.now s.fibers.length).fibers ++ [⟨[freshFrame p a], -1⟩] })
def opAt (p : List GFunc) (x : GFrame) : GOp := (funcOf p x.func).code.getD x.at_.toNat default
def workG (p : List GFunc) (s : GState) (k a : Int) : Int × GState :=
 if k = 0 then (0, pushG s s.now a)
 else if k = 1 then (0, popG s)
 else if k = 2 then (0, pushG s s.now ((curX s).locals.getD a.toNat 0))
 else if k = 3 then (0, modTop (popG s) s.now fun x => { x with locals := x.locals.set a.toNat (lastV s) })
 else if k = 9 then (0, setAtG s a)
 else if k = 10 then (0, if lastV s = 0 then setAtG (popG s) a else popG s)
 else if k = 11 then callG p s a
 else if k = 12 then returnG s
 else if k = 13 then makeG p s a
 else if k = 14 then resumeG s
 else if k = 15 then yieldG s
 else if k = 16 then putG (popG s) (lastV s)
 else (0, pushG (popG (popG s)) s.now (reckG k (lastV (popG s)) (lastV s)))
def doneG (p : List GFunc) (s : GState) : Int × GState := workG p (advG s) (opAt p (curX s)).kind (opAt p (curX s)).a
def runG (p : List GFunc) : Nat → GState → GState × Int × Int
 | 0, s => (s, 0, 0)
 | k + 1, s => if s.now < 0 then (s, 0, 0) else if (doneG p s).1 ≠ 0 then (s, 0, (doneG p s).1) else ((runG p k (doneG p s).2).1, (runG p k (doneG p s).2).2.1 + 1, (runG p k (doneG p s).2).2.2)
def FewF (f : GFiber) : Prop := f.frames.length ≤ 900 ∧ ∀ x ∈ f.frames, x.locals.length ≤ 900 ∧ x.stack.length ≤ 900
def FewS (s : GState) : Prop := s.fibers.length ≤ 900 ∧ s.out.length ≤ 900 ∧ ∀ f ∈ s.fibers, FewF f
def HasTop (s : GState) (n : Int) : Prop := 0 ≤ n ∧ n < s.fibers.length ∧ 0 < (s.fibers.getD n.toNat default).frames.length
def NowTop (p : List GFunc) (s : GState) : Prop := HasTop s s.now ∧ 0 ≤ (curX s).func ∧ (curX s).func < p.length ∧ 0 ≤ (curX s).at_ ∧ (curX s).at_ < (funcOf p (curX s).func).code.length
def CallFit (p : List GFunc) (s : GState) (a : Int) : Prop := 0 ≤ a ∧ a < p.length ∧ 0 ≤ (funcOf p a).args ∧ (funcOf p a).args ≤ (funcOf p a).locals ∧ (funcOf p a).locals ≤ 900 ∧ (funcOf p a).args ≤ (curX s).stack.length
def BackFit (s : GState) : Prop := (curF s).caller < 0 ∨ HasTop { modFib s s.now (fun f => { f with caller := -1 }) with now := (curF s).caller } (curF s).caller
def ReturnFit (s : GState) : Prop := 1 ≤ (curX s).stack.length ∧ (0 < (curF (dropG (popG s))).frames.length ∨ BackFit (dropG (popG s)))
def MakeFit (p : List GFunc) (a : Int) : Prop := 0 ≤ a ∧ a < p.length ∧ 0 ≤ (funcOf p a).locals ∧ (funcOf p a).locals ≤ 900
def CallersOk (s : GState) : Prop := (-1 ≤ s.now ∧ s.now ≤ (s.fibers.length : Int) - 1) ∧ ∀ f ∈ s.fibers, -1 ≤ f.caller ∧ f.caller ≤ (s.fibers.length : Int) - 1
def ResumeFit (s : GState) : Prop := 2 ≤ (curX s).stack.length ∧ CallersOk (popG (popG s)) ∧
 (0 ≤ lastV (popG s) ∧ lastV (popG s) < (popG (popG s)).fibers.length ∧ 0 < ((popG (popG s)).fibers.getD (lastV (popG s)).toNat default).frames.length →
  (topOf ((popG (popG s)).fibers.getD (lastV (popG s)).toNat default)).at_ = 0 → 0 < (topOf ((popG (popG s)).fibers.getD (lastV (popG s)).toNat default)).locals.length)
def WorkFit (p : List GFunc) (s : GState) (k a : Int) : Prop :=
 if k = 0 then True
 else if k = 1 then 1 ≤ (curX s).stack.length
 else if k = 2 then 0 ≤ a ∧ a < (curX s).locals.length
 else if k = 3 then 0 ≤ a ∧ a < (curX s).locals.length ∧ 1 ≤ (curX s).stack.length
 else if k = 9 then True
 else if k = 10 then 1 ≤ (curX s).stack.length
 else if k = 11 then CallFit p s a
 else if k = 12 then ReturnFit s
 else if k = 13 then MakeFit p a
 else if k = 14 then ResumeFit s
 else if k = 15 then 1 ≤ (curX s).stack.length ∧ BackFit (popG s)
 else if k = 16 then 1 ≤ (curX s).stack.length
 else 2 ≤ (curX s).stack.length
def OpFit (p : List GFunc) (s : GState) : Prop := NowTop p s ∧ WorkFit p (advG s) (opAt p (curX s)).kind (opAt p (curX s)).a
def RunFit (p : List GFunc) : Nat → GState → Prop
 | 0, s => FewS s
 | k + 1, s => FewS s ∧ (s.now < 0 ∨ (OpFit p s ∧ ((doneG p s).1 ≠ 0 ∨ RunFit p k (doneG p s).2)))
instance (f : GFiber) : Decidable (FewF f) := by unfold FewF; infer_instance
instance (s : GState) : Decidable (FewS s) := by unfold FewS; infer_instance
instance (s : GState) (n : Int) : Decidable (HasTop s n) := by unfold HasTop; infer_instance
instance (p : List GFunc) (s : GState) : Decidable (NowTop p s) := by unfold NowTop; infer_instance
instance (p : List GFunc) (s : GState) (a : Int) : Decidable (CallFit p s a) := by unfold CallFit; infer_instance
instance (s : GState) : Decidable (BackFit s) := by unfold BackFit; infer_instance
instance (s : GState) : Decidable (ReturnFit s) := by unfold ReturnFit; infer_instance
instance (p : List GFunc) (a : Int) : Decidable (MakeFit p a) := by unfold MakeFit; infer_instance
instance (s : GState) : Decidable (CallersOk s) := by unfold CallersOk; infer_instance
instance (s : GState) : Decidable (ResumeFit s) := by unfold ResumeFit; infer_instance
instance (p : List GFunc) (s : GState) (k a : Int) : Decidable (WorkFit p s k a) := by unfold WorkFit; infer_instance
instance (p : List GFunc) (s : GState) : Decidable (OpFit p s) := by unfold OpFit; infer_instance
instance decRunFit (p : List GFunc) : (k : Nat) → (s : GState) → Decidable (RunFit p k s)
 | 0, s => by unfold RunFit; infer_instance
 | k + 1, s => by
  have := decRunFit p k
  unfold RunFit
  infer_instance
end Go.Proofs.YtgahbngbpfilgaaGreat
end
