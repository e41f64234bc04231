/- Contract of expr.Check. -/
import Derived.Test.YtpiechbjponicaaExpr
import Derived.Test.YtpiechbjponicaaMap
set_option maxHeartbeats 1000000
set_option maxRecDepth 100000
namespace Go.Proofs.Ytpiechbjponicaa
open Go Go.RowKit

theorem exprCheck_any (e : List GNode) (v : Value) (S : Nat → Prop) (locals : Int) (w : World) (hp : Nodes w S v e) (_hI : I64 locals) :
    Calls Try.prog 22 #[v, .int .i64 locals] w fun e' w' => e' = .returned (.int .i64 (exprErr e locals)) ∧ Ext w w' := by
  have hp0 := hp
  obtain ⟨a, cap, rfl, hcap, hby, hel⟩ := hp
  have HX : Hid (exprErr e locals = exprErr e locals) := rfl
  unfold Hid at HX
  conv at HX => rhs; unfold exprErr
  by_cases hl : 0 ≤ locals ∧ locals ≤ 4
  · rw [if_neg (fun h => h hl)] at HX
    obtain ⟨hl0, hl1⟩ := hl
    by_cases h9 : 9 < e.length
    · rw [if_pos h9] at HX
      replace HX := Lib.hid HX
      go_enter Try.func22, Try.ntmps22
      go_wp2
      go_ret
      exact ⟨ret_int HX.out.symm, Ext.refl _⟩
    · rw [if_neg h9] at HX
      have h9' : e.length ≤ 9 := by omega
      replace HX := Lib.hid HX
      have RA := alloc_keep
      clear h9
      go_enter Try.func22, Try.ntmps22
      go_wp2_with fail
      go_loopw [21] (fun i wr => ∃ k : Nat, k ≤ e.length ∧ i = .int .i64 k ∧ Ext w wr ∧ ∀ j (h : j < e.length), j < k → 0 ≤ e[j].kind ∧ e[j].kind ≤ 7) (fun i _ => e.length - (intOf i).toNat)
      case atStart => exact ⟨0, Nat.zero_le _, rfl, Ext.refl _, fun j h h' => by omega⟩
      case round =>
        obtain ⟨k, hk, rfl, hbr, hall⟩ := hrel
        have HB := Lib.hid hbr
        have hcr := Ext.keep hbr
        have HA := Lib.hid hall
        clear hbr hall
        by_cases hlt : k < e.length
        · obtain ⟨b, o, rfl, ⟨_, g0, _⟩, _, g1, _⟩ := hel k hlt
          by_cases hk7 : 0 ≤ e[k].kind ∧ e[k].kind ≤ 7
          · have HK := Lib.hid hk7
            obtain ⟨hk0, hk1⟩ := hk7
            go_wp2
            go_roundw
            case rel => exact ⟨k + 1, by omega, by go_num, HB.out.alloc _, fun j h h' => by
              by_cases hj : j < k
              · exact HA.out j h hj
              · obtain rfl : j = k := by omega
                exact HK.out⟩
            case measure => simp [intOf]; omega
          · have HX4 : Hid (exprErr e locals = 4) := by
              have := HX.out
              rwa [if_pos (fun h => hk7 (h _ (List.getElem_mem hlt)))] at this
            by_cases hk0 : e[k].kind < 0
            · clear hk7
              go_wp2
              go_ret
              exact ⟨ret_int HX4.out.symm, HB.out.alloc _⟩
            · have hk1 : 7 < e[k].kind := by omega
              clear hk7
              go_wp2
              go_ret
              exact ⟨ret_int HX4.out.symm, HB.out.alloc _⟩
        · have HX2 : Hid (exprErr e locals = if ¬ (∀ x ∈ e, 0 ≤ x.n ∧ x.n ≤ mostN locals x.kind) then 3 else if openOk 1 e = false then 1 else 0) := by
            have := HX.out
            rwa [if_neg (fun h => h (fun x hx => by
              obtain ⟨j, hj, rfl⟩ := List.getElem_of_mem hx
              exact HA.out j hj (by omega)))] at this
          obtain rfl : k = e.length := by omega
          clear hlt hcr
          rename World => w1
          go_wp2_with fail
          go_loopw [36] (fun i wr => ∃ k : Nat, k ≤ e.length ∧ i = .int .i64 k ∧ Ext w wr ∧ ∀ j (h : j < e.length), j < k → 0 ≤ e[j].n ∧ e[j].n ≤ mostN locals e[j].kind) (fun i _ => e.length - (intOf i).toNat)
          case atStart => exact ⟨0, Nat.zero_le _, rfl, HB.out, fun j h h' => by omega⟩
          case round =>
            obtain ⟨k, hk, rfl, hbr, hall⟩ := hrel
            have HB2 := Lib.hid hbr
            have hcr := Ext.keep hbr
            have HA2 := Lib.hid hall
            clear hbr hall
            by_cases hlt : k < e.length
            · obtain ⟨b, o, rfl, ⟨_, g0, _⟩, _, g1, _⟩ := hel k hlt
              have hmm := @run_makeMap Try.prog
              obtain ⟨m0, m1, m2⟩ := run_map2 (P := Try.prog) (T := 78) (K := 3) (E := 3) (by kernel_rfl) (by kernel_rfl) (wr.alloc (.cells #[.int .i64 e[k].kind, .int .i64 e[k].n] 44)) (fun w => by kernel_rfl) (wr.heap.size + 1) (by simp) 999 (locals - 1) e[k].kind
              have hM : Hid ((if e[k].kind = 0 then 999 else if e[k].kind = 1 then locals - 1 else 0) = mostN locals e[k].kind) := rfl
              rw [hM.out] at m2
              by_cases hn : 0 ≤ e[k].n ∧ e[k].n ≤ mostN locals e[k].kind
              · have HN := Lib.hid hn
                obtain ⟨hn0, hn1⟩ := hn
                go_wp2
                go_roundw
                case rel => exact ⟨k + 1, by omega, by go_num, (HB2.out.alloc _).alloc _, fun j h h' => by
                  by_cases hj : j < k
                  · exact HA2.out j h hj
                  · obtain rfl : j = k := by omega
                    exact HN.out⟩
                case measure => simp [intOf]; omega
              · have HX3 : Hid (exprErr e locals = 3) := by
                  have := HX2.out
                  rwa [if_pos (fun h => hn (h _ (List.getElem_mem hlt)))] at this
                by_cases hn0 : e[k].n < 0
                · clear hn
                  go_wp2
                  go_ret
                  exact ⟨ret_int HX3.out.symm, (HB2.out.alloc _).alloc _⟩
                · have hn1 : mostN locals e[k].kind < e[k].n := by omega
                  clear hn
                  go_wp2
                  go_ret
                  exact ⟨ret_int HX3.out.symm, (HB2.out.alloc _).alloc _⟩
            · obtain rfl : k = e.length := by omega
              have HX5 : Hid (exprErr e locals = if openOk 1 e = false then 1 else 0) := by
                have := HX2.out
                rwa [if_neg (fun h => h (fun x hx => by
                  obtain ⟨j, hj, rfl⟩ := List.getElem_of_mem hx
                  exact HA2.out j hj (by omega)))] at this
              have HS := Lib.hid (skip_any e _ S wr (Nodes.stays HB2.out.stays hp0) h9' e.length 0 (by omega) (by omega) (by omega))
              cases ho : openOk 1 e
              · have TS : (skipPos e 0 != (e.length : Int)) = true := by
                  rw [bne_iff_ne]
                  intro h
                  rw [(skipPos_zero e).1 h] at ho
                  cases ho
                have HO := Lib.hid ho
                clear ho hcr
                go_wp2_with (first
                  | (go_at_call 50; (with_reducible refine HS.out.mono ?_); rintro e' w2 ⟨rfl, rfl⟩))
                go_ret
                exact ⟨ret_int (by rw [HX5.out, if_pos HO.out]), HB2.out⟩
              · have TS : (skipPos e 0 != (e.length : Int)) = false := by
                  rw [bne_eq_false_iff_eq]
                  exact (skipPos_zero e).2 ho
                have HO := Lib.hid ho
                clear ho hcr
                go_wp2_with (first
                  | (go_at_call 50; (with_reducible refine HS.out.mono ?_); rintro e' w2 ⟨rfl, rfl⟩))
                go_ret
                exact ⟨ret_int (by rw [HX5.out, if_neg (by rw [HO.out]; decide)]), HB2.out⟩
  · rw [if_pos hl] at HX
    replace HX := Lib.hid HX
    by_cases h0 : locals < 0
    · clear hl
      go_enter Try.func22, Try.ntmps22
      go_wp2
      go_ret
      exact ⟨ret_int HX.out.symm, Ext.refl _⟩
    · have h4 : 4 < locals := by omega
      clear hl
      go_enter Try.func22, Try.ntmps22
      go_wp2
      go_ret
      exact ⟨ret_int HX.out.symm, Ext.refl _⟩
end Go.Proofs.Ytpiechbjponicaa
