/- Contracts of SameBools, and rows of Bools of the call's own. -/
import Derived.Test.YtpiechbjponicaaRowI
import Derived.Test.YtpiechbjponicaaProgP
set_option maxHeartbeats 2000000
set_option maxRecDepth 100000
namespace Go.Proofs.Ytpiechbjponicaa
open Go Go.RowKit

theorem takeB_eq_of_ne {a b : List Bool} {k : Nat} (_ : k < a.length) (_ : k < b.length) (h : a.getD k false ≠ b.getD k false) : a ≠ b := fun e => h (by rw [e])
theorem takeB_succ_eq {a b : List Bool} {k : Nat} (h1 : k < a.length) (h2 : k < b.length) (ht : a.take k = b.take k) (h : a.getD k false = b.getD k false) : a.take (k + 1) = b.take (k + 1) := by
  simp only [List.getD, List.getElem?_eq_getElem h1, List.getElem?_eq_getElem h2, Option.getD_some] at h
  rw [List.take_succ_eq_append_getElem h1, List.take_succ_eq_append_getElem h2, ht, h]

theorem sameBools_any (a b : List Bool) (va vb : Value) (S T : Nat → Prop) (w : World) (ha : Bools w S va a) (hb : Bools w T vb b) :
    Calls Try.prog 35 #[va, vb] w fun e w' => e = .returned (.bool (decide (a = b))) ∧ Ext w w' := by
  have HA := Lib.hid ha
  have HB := Lib.hid hb
  obtain ⟨pa, ca, rfl, hca, hba, _⟩ := ha
  obtain ⟨pb, cb, rfl, hcb, hbb, _⟩ := hb
  obtain ⟨t, ht⟩ : ∃ t, decide (a = b) = t := ⟨_, rfl⟩
  rw [ht]
  have HT := Lib.hid ht
  clear ht
  go_enter Try.func35, Try.ntmps35
  by_cases hl : a.length = b.length
  · have TL : ((a.length : Int) != (b.length : Int)) = false := by rw [bne_eq_false_iff_eq]; omega
    go_wp2_with fail
    go_loopw [5] (fun q wr => ∃ k : Nat, k ≤ a.length ∧ q = .int .i64 k ∧ Ext w wr ∧ a.take k = b.take k) (fun q _ => a.length - (intOf q).toNat)
    case atStart => exact ⟨0, Nat.zero_le _, rfl, Ext.refl _, rfl⟩
    case round =>
      obtain ⟨k, hk, rfl, hb3, htk⟩ := hrel
      have HB3 := Lib.hid hb3
      have HTK := Lib.hid htk
      clear hb3 htk
      by_cases hlt : k < a.length
      · have hlt' : k < b.length := by omega
        obtain ⟨ba, oa, _, e1, _, _, _, x0⟩ := HA.out.get hlt
        obtain ⟨bb, ob, _, e2, _, _, _, y0⟩ := HB.out.get hlt'
        simp only [Value.slice.injEq] at e1 e2
        obtain ⟨rfl, -, rfl⟩ := e1
        obtain ⟨rfl, -, rfl⟩ := e2
        rw [Nat.mul_one] at x0 y0
        have x1 := Ext.cell HB3.out x0
        have y1 := Ext.cell HB3.out y0
        have ea : a[k] = a.getD k false := by simp [List.getD, List.getElem?_eq_getElem hlt]
        have eb : b[k] = b.getD k false := by simp [List.getD, List.getElem?_eq_getElem hlt']
        rw [ea] at x1
        rw [eb] at y1
        clear x0 y0 ea eb
        obtain ⟨u, hu⟩ : ∃ u, a.getD k false = u := ⟨_, rfl⟩
        obtain ⟨z, hz⟩ : ∃ z, b.getD k false = z := ⟨_, rfl⟩
        rw [hu] at x1
        rw [hz] at y1
        have HU := Lib.hid hu
        have HZ := Lib.hid hz
        clear hu hz
        have eqv : ∀ y : Bool, u = y → z = y → a.take (k + 1) = b.take (k + 1) := fun y h1 h2 => takeB_succ_eq hlt hlt' HTK.out (by rw [HU.out, HZ.out, h1, h2])
        have nev : u ≠ z → t = false := fun h => by
          rw [← HT.out]
          exact decide_eq_false (takeB_eq_of_ne hlt hlt' (by rw [HU.out, HZ.out]; exact h))
        have HEQ := Lib.hid eqv
        have HNE := Lib.hid nev
        clear eqv nev HU HZ
        cases u with
        | true =>
          cases z with
          | true =>
            go_wp2_with fail
            go_big_quiet (fail)
            go_wp2_with fail
            go_roundw
            case rel => exact ⟨k + 1, by omega, by go_num, HB3.out.drewN _, HEQ.out true rfl rfl⟩
            case measure => simp [intOf]; omega
          | false =>
            have hf := HNE.out (by decide)
            clear HNE HEQ HT
            subst hf
            go_wp2_with fail
            go_big_quiet (fail)
            go_wp2_with fail
            go_ret
            exact ⟨rfl, HB3.out.drewN _⟩
        | false =>
          cases z with
          | false =>
            go_wp2_with fail
            go_big_quiet (fail)
            go_wp2_with fail
            go_roundw
            case rel => exact ⟨k + 1, by omega, by go_num, HB3.out.drewN _, HEQ.out false rfl rfl⟩
            case measure => simp [intOf]; omega
          | true =>
            have hf := HNE.out (by decide)
            clear HNE HEQ HT
            subst hf
            go_wp2_with fail
            go_big_quiet (fail)
            go_wp2_with fail
            go_ret
            exact ⟨rfl, HB3.out.drewN _⟩
      · obtain rfl : k = a.length := by omega
        have HF : Hid (t = true) := by
          unfold Hid
          rw [← HT.out]
          have := HTK.out
          rw [List.take_length, hl, List.take_length] at this
          exact decide_eq_true this
        clear hlt
        go_wp2_with fail
        go_ret
        exact ⟨by rw [HF.out]; rfl, HB3.out⟩
  · have TL : ((a.length : Int) != (b.length : Int)) = true := bne_iff_ne.2 (by omega)
    have HF : Hid (t = false) := by
      unfold Hid
      rw [← HT.out]
      exact decide_eq_false (fun e => hl (by rw [e]))
    clear hl
    go_wp2_with fail
    go_ret
    exact ⟨by rw [HF.out]; rfl, Ext.refl _⟩


def bools (l : List Bool) : List Value := l.map Value.bool
theorem bools_set (l : List Bool) (k : Nat) (n : Bool) : (bools l).set k (.bool n) = bools (l.set k n) := by simp [bools, List.map_set]
theorem bools_get (l : List Bool) (k : Nat) (h : k < l.length) : (bools l)[k]? = some (.bool (l.getD k false)) := by simp [bools, List.getD, h]

/-- A row of Bools at the head of block g. -/
def BRow (w : World) (base g : Nat) (l : List Bool) : Prop := RowAt w base 1 (.slice (some ⟨g, 0, none⟩) l.length l.length) l.length (bools l)
theorem BRow.at {w : World} {base g : Nat} {l : List Bool} (h : BRow w base g l) {k : Nat} (hk : k < l.length) : w.cell? ⟨g, k, none⟩ = some (.bool (l.getD k false)) ∧ w.frozen? ⟨g, k, none⟩ = false ∧ base ≤ g := by
  obtain ⟨g', o, e, hb, hc⟩ := h.cell (by omega)
  simp only [Option.some.injEq, Addr.mk.injEq] at e
  obtain ⟨rfl, rfl, -⟩ := e
  have := hc k (by omega)
  rw [Nat.zero_add, bools_get l k hk] at this
  exact ⟨this.1, this.2, hb⟩
theorem BRow.store {w : World} {base g : Nat} {l : List Bool} (h : BRow w base g l) {k : Nat} (hk : k < l.length) (n : Bool) : BRow (w.setCell ⟨g, k, none⟩ (.bool n)) base g (l.set k n) := by
  have := RowAt.store h (j := k) (by omega) (.bool n)
  rw [Nat.zero_add, bools_set] at this
  unfold BRow
  rw [List.length_set]
  exact this
theorem BRow.ext {w w' : World} {base g : Nat} {l : List Bool} (h : BRow w base g l) (he : Ext w w') : BRow w' base g l := RowAt.ext h he (by decide)
theorem BRow.bools {w : World} {base g : Nat} {l : List Bool} (h : BRow w base g l) (hb : l.length ≤ 1000000) (S : Nat → Prop) (hS : ∀ b, base ≤ b → S b) : Bools w S (.slice (some ⟨g, 0, none⟩) l.length l.length) l := by
  refine ⟨_, _, rfl, Nat.le_refl _, ⟨by omega, by omega⟩, fun i hi => ?_⟩
  obtain ⟨c, _, hbg⟩ := h.at hi
  refine ⟨g, 0, rfl, hS _ hbg, ?_⟩
  rw [Nat.zero_add, Nat.mul_one, c]
  simp [List.getD, List.getElem?_eq_getElem hi]
theorem infoB : (Try.prog.info? 4).map (fun i => (i.zero, i.size, i.bytes)) = some (some (.bool false), 1, 1) := by kernel_rfl

theorem BRow.made {w : World} {base : Nat} {e : TypeId} {g n : Nat} (h : w.ownsRow base e 1 (.slice (some ⟨g, 0, none⟩) n n) n (madeCells (Value.bool false).cells (n * 1)).toList) : BRow w base g (List.replicate n false) := by
  have := RowAt.of_own h
  unfold BRow
  rw [List.length_replicate]
  rw [show (Value.bool false).cells = #[.bool false] from rfl, toList_madeCells_one, Nat.mul_one] at this
  rwa [show Proofs.Ytpiechbjponicaa.bools (List.replicate n false) = List.replicate n (Value.bool false) by simp [Proofs.Ytpiechbjponicaa.bools]]
end Go.Proofs.Ytpiechbjponicaa
