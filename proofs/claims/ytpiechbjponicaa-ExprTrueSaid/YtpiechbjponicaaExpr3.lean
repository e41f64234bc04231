/- Contract of the document's ExprError. -/
import Derived.Test.YtpiechbjponicaaExpr2
import Derived.Test.YtpiechbjponicaaOp
set_option maxHeartbeats 1000000
set_option maxRecDepth 100000
namespace Go.Proofs.Ytpiechbjponicaa
open Go Go.RowKit

theorem refSize_any (k : Int) (w : World) (hk : k ≤ 7) : Calls Try.prog 51 #[.int .i64 k] w fun e w' => e = .returned (.int .i64 (sizeN k)) ∧ w = w' := by
  go_enter Try.func51, Try.ntmps51
  go_wp2
  all_goals (go_ret; refine ⟨ret_int ?_, rfl⟩; unfold sizeN; (repeat' split) <;> simp at * <;> omega)

theorem exprError_any (e : List GNode) (v : Value) (S : Nat → Prop) (locals : Int) (w : World) (hp : Nodes w S v e) :
    Calls Try.prog 23 #[v, .int .i64 locals] w fun e' w' => e' = .returned (.int .i64 (exprErr e locals)) ∧ w = w' := by
  obtain ⟨a, cap, rfl, hcap, hby, hel⟩ := hp
  have HX : Hid (exprErr e locals = exprErr e locals) := rfl
  unfold Hid at HX
  conv at HX => rhs; unfold exprErr
  by_cases hl : 0 ≤ locals ∧ locals ≤ 4
  · rw [if_neg (fun h => h hl)] at HX
    obtain ⟨hl0, hl1⟩ := hl
    by_cases h9 : 9 < e.length
    · rw [if_pos h9] at HX
      replace HX := Lib.hid HX
      go_enter Try.func23, Try.ntmps23
      go_wp2_with (first
        | (go_at_call 38; (with_reducible refine (within_any _ _ _ _).mono ?_); rintro e w1 ⟨rfl, rfl⟩))
      go_ret
      exact ⟨ret_int HX.out.symm, rfl⟩
    · rw [if_neg h9] at HX
      have h9' : e.length ≤ 9 := by omega
      replace HX := Lib.hid HX
      clear h9
      go_enter Try.func23, Try.ntmps23
      go_wp2_with (first
        | (go_at_call 38; (with_reducible refine (within_any _ _ _ _).mono ?_); rintro e w1 ⟨rfl, rfl⟩))
      go_loop [5] (fun i => ∃ k : Nat, k ≤ e.length ∧ i = .int .i64 k ∧ ∀ j (h : j < e.length), j < k → 0 ≤ e[j].kind ∧ e[j].kind ≤ 7) (fun i => e.length - (intOf i).toNat)
      case atStart => exact ⟨0, Nat.zero_le _, rfl, fun j h h' => by omega⟩
      case round =>
        obtain ⟨k, hk, rfl, hall⟩ := hrel
        have HA := Lib.hid hall
        clear hall
        by_cases hlt : k < e.length
        · obtain ⟨b, o, rfl, ⟨_, g0, _⟩, _, g1, _⟩ := hel k hlt
          by_cases hk7 : 0 ≤ e[k].kind ∧ e[k].kind ≤ 7
          · have HK := Lib.hid hk7
            obtain ⟨hk0, hk1⟩ := hk7
            go_wp2_with (first
              | (go_at_call 38; (with_reducible refine (within_any _ _ _ _).mono ?_); rintro e w1 ⟨rfl, rfl⟩))
            go_round
            case rel => exact ⟨k + 1, by omega, by go_num, fun j h h' => by
              by_cases hj : j < k
              · exact HA.out j h hj
              · obtain rfl : j = k := by omega
                exact HK.out⟩
            case measure => simp [intOf]; omega
          · have HX4 : Hid (exprErr e locals = 4) := by
              have := HX.out
              rwa [if_pos (fun h => hk7 (h _ (List.getElem_mem hlt)))] at this
            by_cases hk0 : 0 ≤ e[k].kind
            · have hk1 : decide (e[k].kind ≤ 7) = false := by simp; omega
              clear hk7
              go_wp2_with (first
                | (go_at_call 38; (with_reducible refine (within_any _ _ _ _).mono ?_); rintro e w1 ⟨rfl, rfl⟩))
              go_ret
              exact ⟨ret_int HX4.out.symm, rfl⟩
            · have hk1 : decide (0 ≤ e[k].kind) = false := by simp; omega
              clear hk7 hk0
              go_wp2_with (first
                | (go_at_call 38; (with_reducible refine (within_any _ _ _ _).mono ?_); rintro e w1 ⟨rfl, rfl⟩))
              go_ret
              exact ⟨ret_int HX4.out.symm, rfl⟩
        · have HX2 : Hid (exprErr e locals = if ¬ (∀ x ∈ e, 0 ≤ x.n ∧ x.n ≤ mostN locals x.kind) then 3 else if openOk 1 e = false then 1 else 0) := by
            have := HX.out
            rwa [if_neg (fun h => h (fun x hx => by
              obtain ⟨j, hj, rfl⟩ := List.getElem_of_mem hx
              exact HA.out j hj (by omega)))] at this
          obtain rfl : k = e.length := by omega
          clear hlt
          go_wp2_with fail
          go_loop [6] (fun i => ∃ k : Nat, k ≤ e.length ∧ i = .int .i64 k ∧ ∀ j (h : j < e.length), j < k → 0 ≤ e[j].n ∧ e[j].n ≤ mostN locals e[j].kind) (fun i => e.length - (intOf i).toNat)
          case atStart => exact ⟨0, Nat.zero_le _, rfl, fun j h h' => by omega⟩
          case round =>
            obtain ⟨k, hk, rfl, hall⟩ := hrel
            have HA2 := Lib.hid hall
            clear hall
            by_cases hlt : k < e.length
            · obtain ⟨b, o, rfl, ⟨_, g0, _⟩, _, g1, _⟩ := hel k hlt
              by_cases k0 : e[k].kind = 0
              · have HM : Hid (mostN locals e[k].kind = 999) := by unfold Hid mostN; rw [if_pos k0]
                have T0 : (e[k].kind == 0) = true := by simp [k0]
                have T1 : (e[k].kind == 1) = false := by simp [k0]
                clear k0
                by_cases hn : 0 ≤ e[k].n ∧ e[k].n ≤ 999
                · obtain ⟨hn0, hn1⟩ := hn
                  go_wp2_with (first
                  | (go_at_call 38; (with_reducible refine (within_any _ _ _ _).mono ?_); rintro e w1 ⟨rfl, rfl⟩))
                  go_round
                  case rel => exact ⟨k + 1, by omega, by go_num, fun j h h' => by
                    by_cases hj : j < k
                    · exact HA2.out j h hj
                    · obtain rfl : j = k := by omega
                      rw [HM.out]
                      exact ⟨hn0, hn1⟩⟩
                  case measure => simp [intOf]; omega
                · have HX3 : Hid (exprErr e locals = 3) := by
                    have := HX2.out
                    rwa [if_pos (fun h => hn (by have := h _ (List.getElem_mem hlt); rwa [HM.out] at this))] at this
                  by_cases hn0 : 0 ≤ e[k].n
                  · have hn1 : decide (e[k].n ≤ 999) = false := by simp; omega
                    clear hn
                    go_wp2_with (first
                  | (go_at_call 38; (with_reducible refine (within_any _ _ _ _).mono ?_); rintro e w1 ⟨rfl, rfl⟩))
                    go_ret
                    exact ⟨ret_int HX3.out.symm, rfl⟩
                  · have hn1 : decide (0 ≤ e[k].n) = false := by simp; omega
                    clear hn hn0
                    go_wp2_with (first
                  | (go_at_call 38; (with_reducible refine (within_any _ _ _ _).mono ?_); rintro e w1 ⟨rfl, rfl⟩))
                    go_ret
                    exact ⟨ret_int HX3.out.symm, rfl⟩
              · by_cases k1 : e[k].kind = 1
                · have HM : Hid (mostN locals e[k].kind = locals - 1) := by unfold Hid mostN; rw [if_neg k0, if_pos k1]
                  have T0 : (e[k].kind == 0) = false := by simp [k1]
                  have T1 : (e[k].kind == 1) = true := by simp [k1]
                  clear k0 k1
                  by_cases hn : 0 ≤ e[k].n ∧ e[k].n ≤ locals - 1
                  · obtain ⟨hn0, hn1⟩ := hn
                    go_wp2_with (first
                  | (go_at_call 38; (with_reducible refine (within_any _ _ _ _).mono ?_); rintro e w1 ⟨rfl, rfl⟩))
                    go_round
                    case rel => exact ⟨k + 1, by omega, by go_num, fun j h h' => by
                      by_cases hj : j < k
                      · exact HA2.out j h hj
                      · obtain rfl : j = k := by omega
                        rw [HM.out]
                        exact ⟨hn0, hn1⟩⟩
                    case measure => simp [intOf]; omega
                  · have HX3 : Hid (exprErr e locals = 3) := by
                      have := HX2.out
                      rwa [if_pos (fun h => hn (by have := h _ (List.getElem_mem hlt); rwa [HM.out] at this))] at this
                    by_cases hn0 : 0 ≤ e[k].n
                    · have hn1 : decide (e[k].n ≤ locals - 1) = false := by simp; omega
                      clear hn
                      go_wp2_with (first
                  | (go_at_call 38; (with_reducible refine (within_any _ _ _ _).mono ?_); rintro e w1 ⟨rfl, rfl⟩))
                      go_ret
                      exact ⟨ret_int HX3.out.symm, rfl⟩
                    · have hn1 : decide (0 ≤ e[k].n) = false := by simp; omega
                      clear hn hn0
                      go_wp2_with (first
                  | (go_at_call 38; (with_reducible refine (within_any _ _ _ _).mono ?_); rintro e w1 ⟨rfl, rfl⟩))
                      go_ret
                      exact ⟨ret_int HX3.out.symm, rfl⟩
                · have HM : Hid (mostN locals e[k].kind = 0) := by unfold Hid mostN; rw [if_neg k0, if_neg k1]
                  have T0 : (e[k].kind == 0) = false := by simp [k0]
                  have T1 : (e[k].kind == 1) = false := by simp [k1]
                  clear k0 k1
                  by_cases hn : 0 ≤ e[k].n ∧ e[k].n ≤ 0
                  · obtain ⟨hn0, hn1⟩ := hn
                    go_wp2_with (first
                  | (go_at_call 38; (with_reducible refine (within_any _ _ _ _).mono ?_); rintro e w1 ⟨rfl, rfl⟩))
                    go_round
                    case rel => exact ⟨k + 1, by omega, by go_num, fun j h h' => by
                      by_cases hj : j < k
                      · exact HA2.out j h hj
                      · obtain rfl : j = k := by omega
                        rw [HM.out]
                        exact ⟨hn0, hn1⟩⟩
                    case measure => simp [intOf]; omega
                  · have HX3 : Hid (exprErr e locals = 3) := by
                      have := HX2.out
                      rwa [if_pos (fun h => hn (by have := h _ (List.getElem_mem hlt); rwa [HM.out] at this))] at this
                    by_cases hn0 : 0 ≤ e[k].n
                    · have hn1 : decide (e[k].n ≤ 0) = false := by simp; omega
                      clear hn
                      go_wp2_with (first
                  | (go_at_call 38; (with_reducible refine (within_any _ _ _ _).mono ?_); rintro e w1 ⟨rfl, rfl⟩))
                      go_ret
                      exact ⟨ret_int HX3.out.symm, rfl⟩
                    · have hn1 : decide (0 ≤ e[k].n) = false := by simp; omega
                      clear hn hn0
                      go_wp2_with (first
                  | (go_at_call 38; (with_reducible refine (within_any _ _ _ _).mono ?_); rintro e w1 ⟨rfl, rfl⟩))
                      go_ret
                      exact ⟨ret_int HX3.out.symm, rfl⟩
            · obtain rfl : k = e.length := by omega
              have HX5 : Hid (exprErr e locals = if openOk 1 e = false then 1 else 0) := by
                have := HX2.out
                rwa [if_neg (fun h => h (fun x hx => by
                  obtain ⟨j, hj, rfl⟩ := List.getElem_of_mem hx
                  exact HA2.out j hj (by omega)))] at this
              clear hlt
              go_wp2_with fail
              go_loop [8, 9] (fun c i => ∃ k c' : Nat, k ≤ e.length ∧ c' ≤ 1 + 3 * k ∧ i = .int .i64 k ∧ c = .int .i64 c' ∧ openOk c' (e.drop k) = openOk 1 e) (fun _ i => e.length - (intOf i).toNat)
              case atStart => exact ⟨0, 1, Nat.zero_le _, by omega, rfl, rfl, rfl⟩
              case round =>
                obtain ⟨k, c', hk, hcb, rfl, rfl, hop⟩ := hrel
                have HO := Lib.hid hop
                clear hop
                by_cases hlt : k < e.length
                · obtain ⟨b, o, rfl, ⟨_, g0, _⟩, _, g1, _⟩ := hel k hlt
                  have hk7 := HA.out k hlt hlt
                  match c' with
                  | 0 =>
                    have HZ : Hid (openOk 1 e = false) := by
                      have := HO.out
                      rw [List.drop_eq_getElem_cons hlt] at this
                      exact this.symm
                    go_wp2_with fail
                    go_ret
                    exact ⟨ret_int (by rw [HX5.out, if_pos HZ.out]), rfl⟩
                  | c + 1 =>
                    have HN : Hid (openOk (c + sizeN e[k].kind) (e.drop (k + 1)) = openOk 1 e) := by
                      have := HO.out
                      rw [List.drop_eq_getElem_cons hlt] at this
                      exact this
                    have hsz := sizeN_cases e[k].kind
                    have hs3 : sizeN e[k].kind ≤ 3 := by omega
                    have hc1 : c ≤ 3 * k := by omega
                    clear hsz hcb
                    go_wp2_with (first
                      | (go_at_call 51; (with_reducible refine (refSize_any _ _ hk7.2).mono ?_); rintro e w1 ⟨rfl, rfl⟩))
                    go_round
                    case rel => exact ⟨k + 1, c + sizeN e[k].kind, by omega, by omega, by go_num, by go_num, HN.out⟩
                    case measure => simp [intOf]; omega
                · obtain rfl : k = e.length := by omega
                  clear hlt
                  by_cases hc0 : c' = 0
                  · subst hc0
                    have HZ : Hid (openOk 1 e = true) := by
                      have := HO.out
                      rw [List.drop_length] at this
                      exact this.symm
                    go_wp2_with fail
                    go_ret
                    exact ⟨ret_int (by rw [HX5.out, if_neg (by rw [HZ.out]; decide)]), rfl⟩
                  · have HZ : Hid (openOk 1 e = false) := by
                      have := HO.out
                      rw [List.drop_length] at this
                      rw [← this]
                      obtain ⟨d, rfl⟩ := Nat.exists_eq_succ_of_ne_zero hc0
                      rfl
                    have TC : ((c' : Int) != 0) = true := bne_iff_ne.2 (by omega)
                    clear hc0
                    go_wp2_with fail
                    go_ret
                    exact ⟨ret_int (by rw [HX5.out, if_pos HZ.out]), rfl⟩
  · rw [if_pos hl] at HX
    replace HX := Lib.hid HX
    by_cases h0 : 0 ≤ locals
    · have h4 : decide (locals ≤ 4) = false := by simp; omega
      clear hl
      go_enter Try.func23, Try.ntmps23
      go_wp2_with (first
                  | (go_at_call 38; (with_reducible refine (within_any _ _ _ _).mono ?_); rintro e w1 ⟨rfl, rfl⟩))
      go_ret
      exact ⟨ret_int HX.out.symm, rfl⟩
    · have h4 : decide (0 ≤ locals) = false := by simp; omega
      clear hl h0
      go_enter Try.func23, Try.ntmps23
      go_wp2_with (first
                  | (go_at_call 38; (with_reducible refine (within_any _ _ _ _).mono ?_); rintro e w1 ⟨rfl, rfl⟩))
      go_ret
      exact ⟨ret_int HX.out.symm, rfl⟩
end Go.Proofs.Ytpiechbjponicaa
