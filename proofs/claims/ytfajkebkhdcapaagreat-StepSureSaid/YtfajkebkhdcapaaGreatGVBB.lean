/- Merged texts: contracts and plain facts, one part behind another; each part begins with what it says. -/
import Derived.Test.YtfajkebkhdcapaaGreatGVAQ
import Derived.Test.YtfajkebkhdcapaaGreatGVBA
section
/- The law's next by its values. -/
set_option maxHeartbeats 1000000
namespace Go.Proofs.YtfajkebkhdcapaaGreat
open Go Go.RowKit

theorem nextL_eq (x : GOp) (k : Nat) (h : 0 ≤ x.a) : nextL x k = nats (nx x k) := by
  unfold nextL nx nats
  by_cases h9 : x.kind = 9
  · simp [h9]; omega
  · by_cases h10 : x.kind = 10
    · simp [h10]; omega
    · by_cases h12 : x.kind = 12
      · simp [h12]
      · simp [h9, h10, h12]

theorem next_val (x : GOp) (k : Nat) (w : World) (hk1 : k ≤ 24) (h0 : 0 ≤ x.a) (hx : I64 x.a) :
    Calls Tryz.prog 12 #[.agg #[.int .i64 x.kind, .int .i64 x.a], .int .i64 k] w fun e w' => (∃ a cap, e = .returned (.slice a (nx x k).length cap) ∧ Ints w' (fun _ => True) (.slice a (nx x k).length cap) (nats (nx x k))) ∧ Ext w w' := by
  refine (next_law x k w (by omega) (by omega) hx).mono fun e w' ⟨⟨v, he, hi⟩, hb⟩ => ⟨?_, hb⟩
  rw [nextL_eq x k h0] at hi
  have hi2 := hi
  obtain ⟨a, cap, rfl, _, _, _⟩ := hi
  rw [nats_len] at he hi2
  exact ⟨a, cap, he, Ints.stays (Stays.widen (fun _ _ => trivial)) hi2⟩

end Go.Proofs.YtfajkebkhdcapaaGreat
end
