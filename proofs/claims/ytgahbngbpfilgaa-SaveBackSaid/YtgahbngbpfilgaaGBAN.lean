/- Merged texts: contracts and plain facts, one part behind another; each part begins with what it says. -/
import Derived.Test.YtgahbngbpfilgaaGBAM
section
/- Plain data: what comes of a step of a right state is right, and every op is fit. No program in sight; no condition. -/
set_option maxHeartbeats 1000000
namespace Go.Proofs.Ytgahbngbpfilgaa
open Go Go.RowKit

end Go.Proofs.Ytgahbngbpfilgaa
end
section
/- Plain data: making and resuming fibers keep a state right; so a right state's steps are all fit. No program in sight; no condition. -/
set_option maxHeartbeats 1000000
namespace Go.Proofs.Ytgahbngbpfilgaa
open Go Go.RowKit

/-- One fiber more. -/
theorem Ok.add {p : List GFunc} {s : GState} {l : List Int} (h : Ok p s l) (h5 : s.fibers.length ≤ 4) {f : GFiber} (hf : fiberB p f false false = true) (hm : f.frames.length ≤ 6) (hc : f.caller = -1) :
    Ok p { s with fibers := s.fibers ++ [f] } l := by
  have hr := lk_range (fun k hk => (h.callers k hk).2) h.lk h.now.2
  have hfr : ∀ j, j < s.fibers.length → (s.fibers ++ [f]).getD j default = s.fibers.getD j default := fun j hj => getD_front hj
  have hen : (s.fibers ++ [f]).getD s.fibers.length default = f := getD_end
  have hlen : (s.fibers ++ [f]).length = s.fibers.length + 1 := by simp
  have hn := h.now
  refine ⟨h.prog, by show (s.fibers ++ [f]).length ≤ 5; omega, h.out, fun j hj => ?_, by show 0 < (s.fibers ++ [f]).length; omega, ?_, fun j hj => ?_, ?_, h.ends, fun h0 => ?_, fun j hj => ?_⟩
  · have hj : j < (s.fibers ++ [f]).length := hj
    show ((s.fibers ++ [f]).getD j default).frames.length ≤ 6
    by_cases e : j < s.fibers.length
    · rw [hfr j e]; exact h.frames j e
    · obtain rfl : j = s.fibers.length := by omega
      rw [hen]; exact hm
  · show -1 ≤ s.now ∧ s.now ≤ ((s.fibers ++ [f]).length : Int) - 1
    rw [hlen]
    omega
  · have hj : j < (s.fibers ++ [f]).length := hj
    show -1 ≤ ((s.fibers ++ [f]).getD j default).caller ∧ ((s.fibers ++ [f]).getD j default).caller ≤ ((s.fibers ++ [f]).length : Int) - 1
    rw [hlen] at hj ⊢
    by_cases e : j < s.fibers.length
    · rw [hfr j e]
      have := h.callers j e
      omega
    · obtain rfl : j = s.fibers.length := by omega
      rw [hen, hc]
      omega
  · show Lk (s.fibers ++ [f]) s.now l
    refine lk_congr (fun z hz => ?_) h.lk
    have := hr z hz
    unfold callerOf
    rw [hfr _ (by omega)]
  · show ((s.fibers ++ [f]).getD 0 default).frames.length = 0
    rw [hfr 0 h.pos]
    exact h.zero h0
  · have hj : j < (s.fibers ++ [f]).length := hj
    rw [hlen] at hj
    show fiberB p ((s.fibers ++ [f]).getD j default) (decide ((j : Int) ∈ l)) (decide ((j : Int) = s.now)) = true
    by_cases e : j < s.fibers.length
    · rw [hfr j e]; exact h.fib j e
    · obtain rfl : j = s.fibers.length := by omega
      rw [hen, decide_eq_false (show ¬ ((s.fibers.length : Nat) : Int) ∈ l from fun hh => by have := hr _ hh; omega), decide_eq_false (show ¬ ((s.fibers.length : Nat) : Int) = s.now by omega)]
      exact hf

end Go.Proofs.Ytgahbngbpfilgaa
end
section
/- Plain data: what a step of a right state does, for the laws of steps. No program in sight; no condition. -/
set_option maxHeartbeats 1000000
namespace Go.Proofs.Ytgahbngbpfilgaa
open Go Go.RowKit

theorem RightS.err {p : List GFunc} {s : GState} {l : List Int} (h : RightS p s l) : stateErr p s = 0 := by
  have e1 : allK s.fibers.length (framesFew s) = true := allK_true fun k hk => decide_eq_true (h.frames k hk)
  have e2 : allK s.fibers.length (callersB s) = true := allK_true fun k hk => decide_eq_true (h.callers.all k hk)
  have e3 : allK s.fibers.length (fibK p s l) = true := allK_true h.fib
  have := h.few
  have := h.out
  have := h.pos
  unfold stateErr
  rw [if_neg (fun k => k h.prog), if_neg (by omega), e1, if_neg (by decide), if_neg (by omega), if_neg (fun k => k h.callers.now), e2, if_neg (by decide)]
  unfold lineErr
  rw [h.line]
  simp only
  rw [h.ends, if_neg (by decide), if_neg h.done, e3, if_neg (by decide)]
theorem Ok.err {p : List GFunc} {s : GState} {l : List Int} (h : Ok p s l) : stateErr p s = 0 := h.right.err
/-- As s was, but for two fibers. -/
structure Off (s u : GState) (n m : Int) : Prop where
  len : u.fibers.length = s.fibers.length
  out : u.out = s.out
  keep : ∀ j, j < s.fibers.length → (j : Int) ≠ n → (j : Int) ≠ m → u.fibers.getD j default = s.fibers.getD j default
theorem Off.refl (s : GState) (n m : Int) : Off s s n m := ⟨rfl, rfl, fun _ _ _ _ => rfl⟩
theorem Off.fib {s u : GState} {n m : Int} (h : Off s u n m) {i : Int} (hi : i = n ∨ i = m) (h0 : 0 ≤ i) (g : GFiber → GFiber) : Off s (modFib u i g) n m := by
  refine ⟨(modFib_len _ _ _).trans h.len, h.out, fun j hj h1 h2 => ?_⟩
  rw [modFib_get _ _ _ _ (by rw [h.len]; exact hj), if_neg (fun e => by
    have : (j : Int) = i := by omega
    rcases hi with hi | hi
    · exact h1 (this.trans hi)
    · exact h2 (this.trans hi))]
  exact h.keep j hj h1 h2
theorem Off.top {s u : GState} {n m : Int} (h : Off s u n m) {i : Int} (hi : i = n ∨ i = m) (h0 : 0 ≤ i) (g : GFrame → GFrame) : Off s (modTop u i g) n m := h.fib hi h0 _
theorem Off.now {s u : GState} {n m : Int} (h : Off s u n m) (k : Int) : Off s { u with now := k } n m := ⟨h.len, h.out, h.keep⟩

/-- What a step leaves as it was. -/
structure OneS (s t : GState) : Prop where
  len : s.fibers.length ≤ t.fibers.length ∧ t.fibers.length ≤ s.fibers.length + 1
  out : t.out = s.out ∨ ∃ v, t.out = s.out ++ [v]
  keep : ∀ j, j < s.fibers.length → (j : Int) ≠ s.now → (j : Int) ≠ t.now → t.fibers.getD j default = s.fibers.getD j default
theorem Off.one {s u : GState} (h : Off s u s.now u.now) : OneS s u := ⟨by rw [h.len]; omega, .inl h.out, h.keep⟩

/-- The fiber that is gone back to. -/
structure BackF (s t : GState) (k m : Nat) (gs : List GFrame) (y : GFrame) (v : Int) : Prop where
  caller : (s.fibers.getD k default).caller = (m : Nat)
  lt : m < s.fibers.length
  was : (s.fibers.getD m default).frames = gs ++ [y]
  now : t.now = (m : Nat)
  is_ : (t.fibers.getD m default).frames = gs ++ [{ y with stack := y.stack ++ [v] }]
  gone : (t.fibers.getD k default).caller = -1
  len : t.fibers.length = s.fibers.length
/-- Who is resumed. -/
structure WakeF (s t : GState) (m : Nat) : Prop where
  lt : m < s.fibers.length
  now : t.now = (m : Nat)
  is_ : (t.fibers.getD m default).caller = s.now
  was : (s.fibers.getD m default).caller = -1
  len : t.fibers.length = s.fibers.length
end Go.Proofs.Ytgahbngbpfilgaa
end
section
/- Plain data: what running gives, for the laws of runs. No program in sight; no condition. -/
set_option maxHeartbeats 1000000
namespace Go.Proofs.Ytgahbngbpfilgaa
open Go Go.RowKit

/-- Where running has stopped. -/
structure RanF (p : List GFunc) (n : Nat) (r : GState × Int × Int) : Prop where
  right : ∃ l, Ok p r.1 l
  fine : r.2.2 = 0 → r.2.1 = n ∨ r.1.now = -1
  bad : r.2.2 ≠ 0 → r.2.1 < n ∧ 0 ≤ r.1.now ∧ (doneG p r.1).1 = r.2.2
end Go.Proofs.Ytgahbngbpfilgaa
end
