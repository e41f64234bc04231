/- Contracts of package expr: Size, Skip, truth. -/
import Derived.Test.YtpiechbjponicaaProg
import Derived.Test.YtpiechbjponicaaBase
import Derived.Test.YtpiechbjponicaaExprP
set_option maxHeartbeats 1000000
set_option maxRecDepth 100000
namespace Go.Proofs.Ytpiechbjponicaa
open Go Go.RowKit

theorem exprSize_any (k : Int) (w : World) : Calls Try.prog 60 #[.int .i64 k] w fun e w' => e = .returned (.int .i64 (sizeN k)) ∧ w = w' := by
  by_cases h1 : k ≤ 1
  · go_enter Try.func60, Try.ntmps60
    go_wp2
    go_ret
    exact ⟨ret_int (by simp [sizeN, h1]), rfl⟩
  · have h1' : 1 < k := by omega
    by_cases h7 : k = 7
    · have T7 : (k == 7) = true := by simp [h7]
      have H7 := Lib.hid h7
      clear h7 h1
      go_enter Try.func60, Try.ntmps60
      go_wp2
      go_ret
      exact ⟨ret_int (by simp [sizeN, H7.out]), rfl⟩
    · have T7 : (k == 7) = false := by simp [h7]
      have H7 := Lib.hid h7
      clear h7 h1
      go_enter Try.func60, Try.ntmps60
      go_wp2
      go_ret
      exact ⟨ret_int (by simp only [sizeN]; rw [if_neg (by omega), if_neg H7.out]; rfl), rfl⟩

theorem skipIter_bd (e : List GNode) (k : Nat) (h : k ≤ e.length) (i : Nat) : skipIter e i k = -1 ∨ ((k : Int) ≤ skipIter e i k ∧ skipIter e i k ≤ e.length) := by
  rw [skipIter_some e i k h]
  cases hr : skipC i (e.drop k) with
  | none => exact .inl rfl
  | some r =>
    obtain ⟨_, h2⟩ := skipC_len _ _ _ hr
    simp at h2 ⊢
    right; omega

theorem skip_any (e : List GNode) (v : Value) (S : Nat → Prop) (w : World) (hp : Nodes w S v e) (_hl : e.length ≤ 9) : ∀ (n : Nat) (k : Int), -1 ≤ k → k ≤ e.length → (k < 0 ∨ e.length ≤ k.toNat + n) →
    Calls Try.prog 50 #[v, .int .i64 k] w fun e' w' => e' = .returned (.int .i64 (skipPos e k)) ∧ w = w' := by
  intro n
  induction n with
  | zero =>
    intro k h0 h1 h2
    have HS : Hid (skipPos e k = -1) := by
      unfold Hid skipPos
      by_cases hk : k < 0
      · rw [if_pos hk]
      · rw [if_neg hk, List.drop_eq_nil_of_le (by omega)]; rfl
    obtain ⟨a, cap, rfl, hcap, hby, _⟩ := hp
    rw [HS.out]
    by_cases hk : k < 0
    · go_enter Try.func50, Try.ntmps50
      go_wp2
      go_ret
      exact ⟨rfl, rfl⟩
    · have hk' : (e.length : Int) ≤ k := by omega
      go_enter Try.func50, Try.ntmps50
      go_wp2
      go_ret
      exact ⟨rfl, rfl⟩
  | succ n ih =>
    intro k h0 h1 h2
    have IH := Lib.hid ih
    clear ih
    by_cases hk : 0 ≤ k ∧ k < e.length
    · obtain ⟨m, rfl⟩ := Int.eq_ofNat_of_zero_le hk.1
      have hm : m < e.length := by omega
      have HS : Hid (skipPos e m = skipIter e (sizeN e[m].kind) ((m : Int) + 1)) := skipPos_step e m hm
      obtain ⟨b, o, cap, rfl, hcap, hby, ⟨_, g0, _⟩, _⟩ := hp.get hm
      have HBD : Hid (∀ i, skipIter e i ((m : Int) + 1) = -1 ∨ ((m : Int) + 1 ≤ skipIter e i ((m : Int) + 1) ∧ skipIter e i ((m : Int) + 1) ≤ e.length)) := fun i => by
        have := skipIter_bd e (m + 1) (by omega) i
        simpa using this
      have hsz := sizeN_cases e[m].kind
      have hs3 : sizeN e[m].kind ≤ 3 := by omega
      clear hk h0 h1 hsz
      go_enter Try.func50, Try.ntmps50
      go_wp2_with (first
        | (go_at_call 60; (with_reducible refine (exprSize_any _ _).mono ?_); rintro e w1 ⟨rfl, rfl⟩))
      go_loop [5, 22] (fun q i => ∃ j : Nat, j ≤ sizeN e[m].kind ∧ i = .int .i64 j ∧ q = .int .i64 (skipIter e j ((m : Int) + 1))) (fun _ i => sizeN e[m].kind - (intOf i).toNat)
      case atStart => exact ⟨0, Nat.zero_le _, rfl, rfl⟩
      case round =>
        obtain ⟨j, hj, rfl, rfl⟩ := hrel
        by_cases hlt : j < sizeN e[m].kind
        · have HC := Lib.hid (IH.out (skipIter e j ((m : Int) + 1)) (by have := HBD.out j; omega) (by have := HBD.out j; omega) (by have := HBD.out j; omega))
          go_wp2_with (first
            | (go_at_call 50; (with_reducible refine HC.out.mono ?_); rintro e w1 ⟨rfl, rfl⟩))
          go_round
          case rel => exact ⟨j + 1, by omega, by go_num, rfl⟩
          case measure => simp [intOf]; omega
        · have hj' : j = sizeN e[m].kind := by omega
          subst hj'
          go_wp2
          go_ret
          exact ⟨ret_int HS.out.symm, rfl⟩
    · refine ?_
      have HS : Hid (skipPos e k = -1) := by
        unfold Hid skipPos
        by_cases hk : k < 0
        · rw [if_pos hk]
        · rw [if_neg hk, List.drop_eq_nil_of_le (by omega)]; rfl
      obtain ⟨a, cap, rfl, hcap, hby, _⟩ := hp
      rw [HS.out]
      by_cases hk0 : k < 0
      · go_enter Try.func50, Try.ntmps50
        go_wp2
        go_ret
        exact ⟨rfl, rfl⟩
      · have hk' : (e.length : Int) ≤ k := by omega
        clear hk
        go_enter Try.func50, Try.ntmps50
        go_wp2
        go_ret
        exact ⟨rfl, rfl⟩
end Go.Proofs.Ytpiechbjponicaa
