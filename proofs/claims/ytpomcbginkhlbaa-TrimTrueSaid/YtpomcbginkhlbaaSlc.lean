/- Contracts of slices.Index and slices.Contains at ints. -/
import Derived.Test.YtpomcbginkhlbaaRowI
set_option maxHeartbeats 2000000
set_option maxRecDepth 100000
namespace Go.Proofs.Ytpomcbginkhlbaa
open Go Go.RowKit

theorem indexI_any (l : List Int) (v : Value) (x : Int) (S : Nat → Prop) (w : World) (hl : Ints w S v l) :
    Calls Try.prog 71 #[v, .int .i64 x] w fun e w' => (∃ i : Int, e = .returned (.int .i64 i) ∧ (0 ≤ i ↔ x ∈ l) ∧ I64 i) ∧ Ext w w' := by
  have HL := Lib.hid hl
  obtain ⟨pa, ca, rfl, hca, hba, _⟩ := hl
  go_enter Try.func71, Try.ntmps71
  go_wp2_with fail
  go_loopw [8] (fun q wr => ∃ k : Nat, k ≤ l.length ∧ q = .int .i64 k ∧ Ext w wr ∧ x ∉ l.take k) (fun q _ => l.length - (intOf q).toNat)
  case atStart => exact ⟨0, Nat.zero_le _, rfl, Ext.refl _, by simp⟩
  case round =>
    obtain ⟨k, hk, rfl, hb3, htk⟩ := hrel
    have HB3 := Lib.hid hb3
    have HTK := Lib.hid htk
    clear hb3 htk
    by_cases hlt : k < l.length
    · obtain ⟨ba, oa, _, e1, _, _, _, x0, _⟩ := HL.out.get hlt
      simp only [Value.slice.injEq] at e1
      obtain ⟨rfl, -, rfl⟩ := e1
      rw [Nat.mul_one] at x0
      have x1 := Ext.cell HB3.out x0
      have HM : Hid (l[k] ∈ l) := List.getElem_mem hlt
      have HS : Hid (l.take (k + 1) = l.take k ++ [l[k]]) := List.take_succ_eq_append_getElem hlt
      clear x0
      generalize l[k] = u at *
      by_cases hu : x = u
      · have TT : (x == u) = true := by simp [hu]
        have HX : Hid (x ∈ l) := hu ▸ HM.out
        clear hu
        go_wp2_with fail
        go_ret
        exact ⟨⟨k, rfl, ⟨fun _ => HX.out, fun _ => by omega⟩, I64.nat (by omega)⟩, HB3.out⟩
      · have TT : (x == u) = false := by simp [hu]
        have HX : Hid (x ∉ l.take (k + 1)) := by unfold Hid; rw [HS.out, List.mem_append, List.mem_singleton]; exact fun h => h.elim HTK.out hu
        clear hu
        go_wp2_with fail
        go_roundw
        case rel => exact ⟨k + 1, by omega, by go_num, HB3.out, HX.out⟩
        case measure => simp [intOf]; omega
    · obtain rfl : k = l.length := by omega
      have HX : Hid (x ∉ l) := by have := HTK.out; rwa [List.take_length] at this
      go_wp2_with fail
      go_ret
      exact ⟨⟨-1, rfl, ⟨fun h => by omega, fun h => (HX.out h).elim⟩, I64.small (by omega) (by omega)⟩, HB3.out⟩

theorem containsI_any (l : List Int) (v : Value) (x : Int) (S : Nat → Prop) (w : World) (hl : Ints w S v l) :
    Calls Try.prog 55 #[v, .int .i64 x] w fun e w' => e = .returned (.bool (decide (x ∈ l))) ∧ Ext w w' := by
  have HL := Lib.hid hl
  obtain ⟨pa, ca, rfl, hca, hba, _⟩ := hl
  obtain ⟨t, ht⟩ : ∃ t, decide (x ∈ l) = t := ⟨_, rfl⟩
  rw [ht]
  have HT := Lib.hid ht
  clear ht
  go_enter Try.func55, Try.ntmps55
  go_wp2_with (first
    | (go_at_call 71; (with_reducible refine (indexI_any l _ x S _ HL.out).mono ?_); rintro e w2 ⟨⟨i, rfl, hi, _⟩, hx⟩; have HI := Lib.hid hi; clear hi))
  go_ret
  refine ⟨?_, hx⟩
  exact congrArg (fun b => Ending.returned (.bool b)) ((decide_eq_decide.2 HI.out).trans HT.out)
end Go.Proofs.Ytpomcbginkhlbaa
