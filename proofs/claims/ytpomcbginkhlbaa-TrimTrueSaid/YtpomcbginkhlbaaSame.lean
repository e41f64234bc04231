/- Contracts of SameInts and next. -/
import Derived.Test.YtpomcbginkhlbaaRowI
set_option maxHeartbeats 2000000
set_option maxRecDepth 100000
namespace Go.Proofs.Ytpomcbginkhlbaa
open Go Go.RowKit

theorem take_eq_of_ne {a b : List Int} {k : Nat} (_ : k < a.length) (_ : k < b.length) (h : a.getD k 0 ≠ b.getD k 0) : a ≠ b := fun e => h (by rw [e])
theorem take_succ_eq {a b : List Int} {k : Nat} (h1 : k < a.length) (h2 : k < b.length) (ht : a.take k = b.take k) (h : a.getD k 0 = b.getD k 0) : a.take (k + 1) = b.take (k + 1) := by
  simp only [List.getD, List.getElem?_eq_getElem h1, List.getElem?_eq_getElem h2, Option.getD_some] at h
  rw [List.take_succ_eq_append_getElem h1, List.take_succ_eq_append_getElem h2, ht, h]

theorem sameInts_any (a b : List Int) (va vb : Value) (S T : Nat → Prop) (w : World) (ha : Ints w S va a) (hb : Ints w T vb b) :
    Calls Try.prog 19 #[va, vb] w fun e w' => e = .returned (.bool (decide (a = b))) ∧ Ext w w' := by
  have HA := Lib.hid ha
  have HB := Lib.hid hb
  obtain ⟨pa, ca, rfl, hca, hba, _⟩ := ha
  obtain ⟨pb, cb, rfl, hcb, hbb, _⟩ := hb
  obtain ⟨t, ht⟩ : ∃ t, decide (a = b) = t := ⟨_, rfl⟩
  rw [ht]
  have HT := Lib.hid ht
  clear ht
  go_enter Try.func19, Try.ntmps19
  by_cases hl : a.length = b.length
  · have TL : ((a.length : Int) != (b.length : Int)) = false := by rw [bne_eq_false_iff_eq]; omega
    go_wp2_with fail
    go_loopw [5] (fun q wr => ∃ k : Nat, k ≤ a.length ∧ q = .int .i64 k ∧ Ext w wr ∧ a.take k = b.take k) (fun q _ => a.length - (intOf q).toNat)
    case atStart => exact ⟨0, Nat.zero_le _, rfl, Ext.refl _, rfl⟩
    case round =>
      obtain ⟨k, hk, rfl, hb3, htk⟩ := hrel
      have HB3 := Lib.hid hb3
      have HTK := Lib.hid htk
      clear hb3 htk
      by_cases hlt : k < a.length
      · have hlt' : k < b.length := by omega
        obtain ⟨ba, oa, _, e1, _, _, _, x0, _⟩ := HA.out.get hlt
        obtain ⟨bb, ob, _, e2, _, _, _, y0, _⟩ := HB.out.get hlt'
        simp only [Value.slice.injEq] at e1 e2
        obtain ⟨rfl, -, rfl⟩ := e1
        obtain ⟨rfl, -, rfl⟩ := e2
        rw [Nat.mul_one] at x0 y0
        have x1 := Ext.cell HB3.out x0
        have y1 := Ext.cell HB3.out y0
        have ea : a[k] = a.getD k 0 := by simp [List.getD, List.getElem?_eq_getElem hlt]
        have eb : b[k] = b.getD k 0 := by simp [List.getD, List.getElem?_eq_getElem hlt']
        rw [ea] at x1
        rw [eb] at y1
        clear x0 y0 ea eb
        obtain ⟨u, hu⟩ : ∃ u, a.getD k 0 = u := ⟨_, rfl⟩
        obtain ⟨z, hz⟩ : ∃ z, b.getD k 0 = z := ⟨_, rfl⟩
        rw [hu] at x1
        rw [hz] at y1
        have HU := Lib.hid hu
        have HZ := Lib.hid hz
        clear hu hz
        by_cases hne : u = z
        · have TN : (u != z) = false := by rw [bne_eq_false_iff_eq]; exact hne
          have HTK2 := Lib.hid (take_succ_eq hlt hlt' HTK.out (by rw [HU.out, HZ.out, hne]))
          clear hne
          go_wp2_with fail
          go_big_quiet (fail)
          go_wp2_with fail
          go_roundw
          case rel => exact ⟨k + 1, by omega, by go_num, HB3.out.drewN _, HTK2.out⟩
          case measure => simp [intOf]; omega
        · have TN : (u != z) = true := bne_iff_ne.2 hne
          have HF : Hid (t = false) := by
            unfold Hid
            rw [← HT.out]
            exact decide_eq_false (take_eq_of_ne hlt hlt' (by rw [HU.out, HZ.out]; exact hne))
          clear hne
          go_wp2_with fail
          go_big_quiet (fail)
          go_wp2_with fail
          go_ret
          exact ⟨by rw [HF.out]; rfl, HB3.out.drewN _⟩
      · obtain rfl : k = a.length := by omega
        have HF : Hid (t = true) := by
          unfold Hid
          rw [← HT.out]
          have := HTK.out
          rw [List.take_length, hl, List.take_length] at this
          exact decide_eq_true this
        clear hlt
        go_wp2_with fail
        go_ret
        exact ⟨by rw [HF.out]; rfl, HB3.out⟩
  · have TL : ((a.length : Int) != (b.length : Int)) = true := bne_iff_ne.2 (by omega)
    have HF : Hid (t = false) := by
      unfold Hid
      rw [← HT.out]
      exact decide_eq_false (fun e => hl (by rw [e]))
    clear hl
    go_wp2_with fail
    go_ret
    exact ⟨by rw [HF.out]; rfl, Ext.refl _⟩

theorem ints_block {w : World} {g : Nat} {t : TypeId} (l : List Int) (h : w.heap[g]? = some (.cells (ints l).toArray t (0, 0))) (S : Nat → Prop) (hS : S g) (hI : ∀ x ∈ l, I64 x) (hl : l.length ≤ 1000) : Ints w S (.slice (some ⟨g, 0, none⟩) l.length l.length) l := by
  refine ⟨_, _, rfl, Nat.le_refl _, by omega, fun i hi => ⟨g, 0, rfl, hS, ?_, hI _ (List.getElem_mem hi)⟩⟩
  rw [cell_of_row w g _ _ t (0, 0) h]
  simp [ints, hi]

end Go.Proofs.Ytpomcbginkhlbaa
