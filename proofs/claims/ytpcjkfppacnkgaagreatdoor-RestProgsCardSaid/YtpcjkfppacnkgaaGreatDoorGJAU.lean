/- Merged texts: contracts and plain facts, one part behind another; each part begins with what it says. -/
import Derived.Test.YtpcjkfppacnkgaaGreatDoorGJAB
import Derived.Test.YtpcjkfppacnkgaaGreatDoorGJAC
import Derived.Test.YtpcjkfppacnkgaaGreatDoorGJAT
import Derived.RowKit
section
/- Contract of the document's ExprError. -/
set_option maxHeartbeats 1000000
set_option maxRecDepth 100000
namespace Go.Proofs.YtpcjkfppacnkgaaGreatDoor
open Go Go.RowKit

theorem refSize_any (k : Int) (w : World) (hk : k ≤ 7) : Calls Tryz.prog 103 #[.int .i64 k] w fun e w' => e = .returned (.int .i64 (sizeN k)) ∧ w = w' := by
  go_enter Tryz.func103, Tryz.ntmps103
  go_wp2
  all_goals (go_ret; refine ⟨ret_int ?_, rfl⟩; unfold sizeN; (repeat' split) <;> simp at * <;> omega)

theorem exprError_any (e : List GNode) (v : Value) (S : Nat → Prop) (locals : Int) (w : World) (hp : Nodes w S v e) :
    Calls Tryz.prog 61 #[v, .int .i64 locals] w fun e' w' => e' = .returned (.int .i64 (exprErr e locals)) ∧ w = w' := by
  obtain ⟨a, cap, rfl, hcap, hby, hel⟩ := hp
  have HX : Hid (exprErr e locals = exprErr e locals) := rfl
  unfold Hid at HX
  conv at HX => rhs; unfold exprErr
  by_cases hl : 0 ≤ locals ∧ locals ≤ 4
  · rw [if_neg (fun h => h hl)] at HX
    obtain ⟨hl0, hl1⟩ := hl
    by_cases h9 : 9 < e.length
    · rw [if_pos h9] at HX
      replace HX := Lib.hid HX
      go_enter Tryz.func61, Tryz.ntmps61
      go_wp2_with (first
        | (go_at_call 62; (with_reducible refine (within_any _ _ _ _).mono ?_); rintro e w1 ⟨rfl, rfl⟩))
      go_ret
      exact ⟨ret_int HX.out.symm, rfl⟩
    · rw [if_neg h9] at HX
      have h9' : e.length ≤ 9 := by omega
      replace HX := Lib.hid HX
      clear h9
      go_enter Tryz.func61, Tryz.ntmps61
      go_wp2_with (first
        | (go_at_call 62; (with_reducible refine (within_any _ _ _ _).mono ?_); rintro e w1 ⟨rfl, rfl⟩))
      go_loop [5] (fun i => ∃ k : Nat, k ≤ e.length ∧ i = .int .i64 k ∧ ∀ j (h : j < e.length), j < k → 0 ≤ e[j].kind ∧ e[j].kind ≤ 7) (fun i => e.length - (intOf i).toNat)
      case atStart => exact ⟨0, Nat.zero_le _, rfl, fun j h h' => by omega⟩
      case round =>
        obtain ⟨k, hk, rfl, hall⟩ := hrel
        have HA := Lib.hid hall
        clear hall
        by_cases hlt : k < e.length
        · obtain ⟨b, o, rfl, ⟨_, g0, _⟩, _, g1, _⟩ := hel k hlt
          by_cases hk7 : 0 ≤ e[k].kind ∧ e[k].kind ≤ 7
          · have HK := Lib.hid hk7
            obtain ⟨hk0, hk1⟩ := hk7
            go_wp2_with (first
              | (go_at_call 62; (with_reducible refine (within_any _ _ _ _).mono ?_); rintro e w1 ⟨rfl, rfl⟩))
            go_round
            case rel => exact ⟨k + 1, by omega, by go_num, fun j h h' => by
              by_cases hj : j < k
              · exact HA.out j h hj
              · obtain rfl : j = k := by omega
                exact HK.out⟩
            case measure => simp [intOf]; omega
          · have HX4 : Hid (exprErr e locals = 4) := by
              have := HX.out
              rwa [if_pos (fun h => hk7 (h _ (List.getElem_mem hlt)))] at this
            by_cases hk0 : 0 ≤ e[k].kind
            · have hk1 : decide (e[k].kind ≤ 7) = false := by simp; omega
              clear hk7
              go_wp2_with (first
                | (go_at_call 62; (with_reducible refine (within_any _ _ _ _).mono ?_); rintro e w1 ⟨rfl, rfl⟩))
              go_ret
              exact ⟨ret_int HX4.out.symm, rfl⟩
            · have hk1 : decide (0 ≤ e[k].kind) = false := by simp; omega
              clear hk7 hk0
              go_wp2_with (first
                | (go_at_call 62; (with_reducible refine (within_any _ _ _ _).mono ?_); rintro e w1 ⟨rfl, rfl⟩))
              go_ret
              exact ⟨ret_int HX4.out.symm, rfl⟩
        · have HX2 : Hid (exprErr e locals = if ¬ (∀ x ∈ e, 0 ≤ x.n ∧ x.n ≤ mostN locals x.kind) then 3 else if openOk 1 e = false then 1 else 0) := by
            have := HX.out
            rwa [if_neg (fun h => h (fun x hx => by
              obtain ⟨j, hj, rfl⟩ := List.getElem_of_mem hx
              exact HA.out j hj (by omega)))] at this
          obtain rfl : k = e.length := by omega
          clear hlt
          go_wp2_with fail
          go_loop [6] (fun i => ∃ k : Nat, k ≤ e.length ∧ i = .int .i64 k ∧ ∀ j (h : j < e.length), j < k → 0 ≤ e[j].n ∧ e[j].n ≤ mostN locals e[j].kind) (fun i => e.length - (intOf i).toNat)
          case atStart => exact ⟨0, Nat.zero_le _, rfl, fun j h h' => by omega⟩
          case round =>
            obtain ⟨k, hk, rfl, hall⟩ := hrel
            have HA2 := Lib.hid hall
            clear hall
            by_cases hlt : k < e.length
            · obtain ⟨b, o, rfl, ⟨_, g0, _⟩, _, g1, _⟩ := hel k hlt
              by_cases k0 : e[k].kind = 0
              · have HM : Hid (mostN locals e[k].kind = 999) := by unfold Hid mostN; rw [if_pos k0]
                have T0 : (e[k].kind == 0) = true := by simp [k0]
                have T1 : (e[k].kind == 1) = false := by simp [k0]
                clear k0
                by_cases hn : 0 ≤ e[k].n ∧ e[k].n ≤ 999
                · obtain ⟨hn0, hn1⟩ := hn
                  go_wp2_with (first
                  | (go_at_call 62; (with_reducible refine (within_any _ _ _ _).mono ?_); rintro e w1 ⟨rfl, rfl⟩))
                  go_round
                  case rel => exact ⟨k + 1, by omega, by go_num, fun j h h' => by
                    by_cases hj : j < k
                    · exact HA2.out j h hj
                    · obtain rfl : j = k := by omega
                      rw [HM.out]
                      exact ⟨hn0, hn1⟩⟩
                  case measure => simp [intOf]; omega
                · have HX3 : Hid (exprErr e locals = 3) := by
                    have := HX2.out
                    rwa [if_pos (fun h => hn (by have := h _ (List.getElem_mem hlt); rwa [HM.out] at this))] at this
                  by_cases hn0 : 0 ≤ e[k].n
                  · have hn1 : decide (e[k].n ≤ 999) = false := by simp; omega
                    clear hn
                    go_wp2_with (first
                  | (go_at_call 62; (with_reducible refine (within_any _ _ _ _).mono ?_); rintro e w1 ⟨rfl, rfl⟩))
                    go_ret
                    exact ⟨ret_int HX3.out.symm, rfl⟩
                  · have hn1 : decide (0 ≤ e[k].n) = false := by simp; omega
                    clear hn hn0
                    go_wp2_with (first
                  | (go_at_call 62; (with_reducible refine (within_any _ _ _ _).mono ?_); rintro e w1 ⟨rfl, rfl⟩))
                    go_ret
                    exact ⟨ret_int HX3.out.symm, rfl⟩
              · by_cases k1 : e[k].kind = 1
                · have HM : Hid (mostN locals e[k].kind = locals - 1) := by unfold Hid mostN; rw [if_neg k0, if_pos k1]
                  have T0 : (e[k].kind == 0) = false := by simp [k1]
                  have T1 : (e[k].kind == 1) = true := by simp [k1]
                  clear k0 k1
                  by_cases hn : 0 ≤ e[k].n ∧ e[k].n ≤ locals - 1
                  · obtain ⟨hn0, hn1⟩ := hn
                    go_wp2_with (first
                  | (go_at_call 62; (with_reducible refine (within_any _ _ _ _).mono ?_); rintro e w1 ⟨rfl, rfl⟩))
                    go_round
                    case rel => exact ⟨k + 1, by omega, by go_num, fun j h h' => by
                      by_cases hj : j < k
                      · exact HA2.out j h hj
                      · obtain rfl : j = k := by omega
                        rw [HM.out]
                        exact ⟨hn0, hn1⟩⟩
                    case measure => simp [intOf]; omega
                  · have HX3 : Hid (exprErr e locals = 3) := by
                      have := HX2.out
                      rwa [if_pos (fun h => hn (by have := h _ (List.getElem_mem hlt); rwa [HM.out] at this))] at this
                    by_cases hn0 : 0 ≤ e[k].n
                    · have hn1 : decide (e[k].n ≤ locals - 1) = false := by simp; omega
                      clear hn
                      go_wp2_with (first
                  | (go_at_call 62; (with_reducible refine (within_any _ _ _ _).mono ?_); rintro e w1 ⟨rfl, rfl⟩))
                      go_ret
                      exact ⟨ret_int HX3.out.symm, rfl⟩
                    · have hn1 : decide (0 ≤ e[k].n) = false := by simp; omega
                      clear hn hn0
                      go_wp2_with (first
                  | (go_at_call 62; (with_reducible refine (within_any _ _ _ _).mono ?_); rintro e w1 ⟨rfl, rfl⟩))
                      go_ret
                      exact ⟨ret_int HX3.out.symm, rfl⟩
                · have HM : Hid (mostN locals e[k].kind = 0) := by unfold Hid mostN; rw [if_neg k0, if_neg k1]
                  have T0 : (e[k].kind == 0) = false := by simp [k0]
                  have T1 : (e[k].kind == 1) = false := by simp [k1]
                  clear k0 k1
                  by_cases hn : 0 ≤ e[k].n ∧ e[k].n ≤ 0
                  · obtain ⟨hn0, hn1⟩ := hn
                    go_wp2_with (first
                  | (go_at_call 62; (with_reducible refine (within_any _ _ _ _).mono ?_); rintro e w1 ⟨rfl, rfl⟩))
                    go_round
                    case rel => exact ⟨k + 1, by omega, by go_num, fun j h h' => by
                      by_cases hj : j < k
                      · exact HA2.out j h hj
                      · obtain rfl : j = k := by omega
                        rw [HM.out]
                        exact ⟨hn0, hn1⟩⟩
                    case measure => simp [intOf]; omega
                  · have HX3 : Hid (exprErr e locals = 3) := by
                      have := HX2.out
                      rwa [if_pos (fun h => hn (by have := h _ (List.getElem_mem hlt); rwa [HM.out] at this))] at this
                    by_cases hn0 : 0 ≤ e[k].n
                    · have hn1 : decide (e[k].n ≤ 0) = false := by simp; omega
                      clear hn
                      go_wp2_with (first
                  | (go_at_call 62; (with_reducible refine (within_any _ _ _ _).mono ?_); rintro e w1 ⟨rfl, rfl⟩))
                      go_ret
                      exact ⟨ret_int HX3.out.symm, rfl⟩
                    · have hn1 : decide (0 ≤ e[k].n) = false := by simp; omega
                      clear hn hn0
                      go_wp2_with (first
                  | (go_at_call 62; (with_reducible refine (within_any _ _ _ _).mono ?_); rintro e w1 ⟨rfl, rfl⟩))
                      go_ret
                      exact ⟨ret_int HX3.out.symm, rfl⟩
            · obtain rfl : k = e.length := by omega
              have HX5 : Hid (exprErr e locals = if openOk 1 e = false then 1 else 0) := by
                have := HX2.out
                rwa [if_neg (fun h => h (fun x hx => by
                  obtain ⟨j, hj, rfl⟩ := List.getElem_of_mem hx
                  exact HA2.out j hj (by omega)))] at this
              clear hlt
              go_wp2_with fail
              go_loop [8, 9] (fun c i => ∃ k c' : Nat, k ≤ e.length ∧ c' ≤ 1 + 3 * k ∧ i = .int .i64 k ∧ c = .int .i64 c' ∧ openOk c' (e.drop k) = openOk 1 e) (fun _ i => e.length - (intOf i).toNat)
              case atStart => exact ⟨0, 1, Nat.zero_le _, by omega, rfl, rfl, rfl⟩
              case round =>
                obtain ⟨k, c', hk, hcb, rfl, rfl, hop⟩ := hrel
                have HO := Lib.hid hop
                clear hop
                by_cases hlt : k < e.length
                · obtain ⟨b, o, rfl, ⟨_, g0, _⟩, _, g1, _⟩ := hel k hlt
                  have hk7 := HA.out k hlt hlt
                  match c' with
                  | 0 =>
                    have HZ : Hid (openOk 1 e = false) := by
                      have := HO.out
                      rw [List.drop_eq_getElem_cons hlt] at this
                      exact this.symm
                    go_wp2_with fail
                    go_ret
                    exact ⟨ret_int (by rw [HX5.out, if_pos HZ.out]), rfl⟩
                  | c + 1 =>
                    have HN : Hid (openOk (c + sizeN e[k].kind) (e.drop (k + 1)) = openOk 1 e) := by
                      have := HO.out
                      rw [List.drop_eq_getElem_cons hlt] at this
                      exact this
                    have hsz := sizeN_cases e[k].kind
                    have hs3 : sizeN e[k].kind ≤ 3 := by omega
                    have hc1 : c ≤ 3 * k := by omega
                    clear hsz hcb
                    go_wp2_with (first
                      | (go_at_call 103; (with_reducible refine (refSize_any _ _ hk7.2).mono ?_); rintro e w1 ⟨rfl, rfl⟩))
                    go_round
                    case rel => exact ⟨k + 1, c + sizeN e[k].kind, by omega, by omega, by go_num, by go_num, HN.out⟩
                    case measure => simp [intOf]; omega
                · obtain rfl : k = e.length := by omega
                  clear hlt
                  by_cases hc0 : c' = 0
                  · subst hc0
                    have HZ : Hid (openOk 1 e = true) := by
                      have := HO.out
                      rw [List.drop_length] at this
                      exact this.symm
                    go_wp2_with fail
                    go_ret
                    exact ⟨ret_int (by rw [HX5.out, if_neg (by rw [HZ.out]; decide)]), rfl⟩
                  · have HZ : Hid (openOk 1 e = false) := by
                      have := HO.out
                      rw [List.drop_length] at this
                      rw [← this]
                      obtain ⟨d, rfl⟩ := Nat.exists_eq_succ_of_ne_zero hc0
                      rfl
                    have TC : ((c' : Int) != 0) = true := bne_iff_ne.2 (by omega)
                    clear hc0
                    go_wp2_with fail
                    go_ret
                    exact ⟨ret_int (by rw [HX5.out, if_pos HZ.out]), rfl⟩
  · rw [if_pos hl] at HX
    replace HX := Lib.hid HX
    by_cases h0 : 0 ≤ locals
    · have h4 : decide (locals ≤ 4) = false := by simp; omega
      clear hl
      go_enter Tryz.func61, Tryz.ntmps61
      go_wp2_with (first
                  | (go_at_call 62; (with_reducible refine (within_any _ _ _ _).mono ?_); rintro e w1 ⟨rfl, rfl⟩))
      go_ret
      exact ⟨ret_int HX.out.symm, rfl⟩
    · have h4 : decide (0 ≤ locals) = false := by simp; omega
      clear hl h0
      go_enter Tryz.func61, Tryz.ntmps61
      go_wp2_with (first
                  | (go_at_call 62; (with_reducible refine (within_any _ _ _ _).mono ?_); rintro e w1 ⟨rfl, rfl⟩))
      go_ret
      exact ⟨ret_int HX.out.symm, rfl⟩
end Go.Proofs.YtpcjkfppacnkgaaGreatDoor
end
section
/- What an expression is worth: plain facts. No program in sight; no condition. -/
namespace Go.Proofs.YtpcjkfppacnkgaaGreatDoor
open Go Go.RowKit

def ETree.root : ETree → GNode
  | .leaf x => x
  | .two x _ _ => x
  | .three x _ _ _ => x
def ETree.parts : ETree → List ETree
  | .leaf _ => []
  | .two _ a b => [a, b]
  | .three _ a b c => [a, b, c]

theorem ETree.flat_parts (t : ETree) : t.flat = t.root :: flatAll t.parts := by cases t <;> simp [ETree.flat, ETree.root, ETree.parts, flatAll]
/-- All kinds and numbers are such as Check lets pass. -/
def nodesOk (vals : List Int) (l : List GNode) : Prop := ∀ x ∈ l, 0 ≤ x.kind ∧ x.kind ≤ 7 ∧ 0 ≤ x.n ∧ x.n ≤ mostN vals.length x.kind

theorem nodesOk.part {vals : List Int} {t : ETree} (h : nodesOk vals t.flat) : ∀ s ∈ t.parts, nodesOk vals s.flat := by
  intro s hs x hx
  refine h x ?_
  rw [t.flat_parts]
  refine List.mem_cons_of_mem _ ?_
  have : ∀ ts : List ETree, s ∈ ts → x ∈ flatAll ts := by
    intro ts
    induction ts with
    | nil => simp
    | cons t ts ih =>
      intro h
      simp only [flatAll, List.mem_append]
      rcases List.mem_cons.1 h with rfl | h
      · exact .inl hx
      · exact .inr (ih h)
  exact this _ hs

theorem nodesOk.root {vals : List Int} {t : ETree} (h : nodesOk vals t.flat) : 0 ≤ t.root.kind ∧ t.root.kind ≤ 7 ∧ 0 ≤ t.root.n ∧ t.root.n ≤ mostN vals.length t.root.kind :=
  h _ (by rw [t.flat_parts]; simp)

end Go.Proofs.YtpcjkfppacnkgaaGreatDoor
end
section
/- Contracts of the document's worth. -/
set_option maxHeartbeats 1000000
set_option maxRecDepth 100000
namespace Go.Proofs.YtpcjkfppacnkgaaGreatDoor
open Go Go.RowKit

theorem Nodes.tail {w : World} {S : Nat → Prop} {b o n cap : Nat} {x : GNode} {l : List GNode} (h : Nodes w S (.slice (some ⟨b, o, none⟩) n cap) (x :: l)) :
    Nodes w S (.slice (if cap = 1 then some ⟨b, o, none⟩ else some ⟨b, o + 2, none⟩) l.length (cap - 1)) l := by
  obtain ⟨a, cap', e, h1, h2, h3⟩ := h
  simp only [Value.slice.injEq] at e
  obtain ⟨rfl, rfl, rfl⟩ := e
  refine ⟨_, cap - 1, rfl, by simp at h1; omega, ⟨by have := h2.1; rw [List.length_cons] at this; omega, by have := h2.2; omega⟩, fun i hi => ?_⟩
  have hc : cap ≠ 1 := by simp at h1; omega
  obtain ⟨b', o', e, hE⟩ := h3 (i + 1) (by simp; omega)
  simp only [Option.some.injEq, Addr.mk.injEq] at e
  obtain ⟨rfl, rfl, _⟩ := e
  refine ⟨b, o + 2, by rw [if_neg hc], ?_⟩
  simpa [Nat.add_mul, Nat.add_assoc, Nat.add_comm 2] using hE


end Go.Proofs.YtpcjkfppacnkgaaGreatDoor
end
section
/- Expressions as functions: plain facts. No program in sight; no condition. -/
namespace Go.Proofs.YtpcjkfppacnkgaaGreatDoor

/-- How many ops a tree has. -/
def ETree.cost : ETree → Nat
  | .leaf _ => 1
  | .two _ a b => a.cost + b.cost + 1
  | .three _ a b c => a.cost + b.cost + c.cost + 2

/-- Where the third part of a tree begins. -/
def thirdAt (k a b : Nat) : Nat := k + a + 1 + b + 1

/-- A tree's ops, when so many stand ahead. -/
def ETree.laid : ETree → Nat → List GOp
  | .leaf x, _ => [⟨if x.kind = 0 then 0 else 2, x.n⟩]
  | .two x a b, k => a.laid k ++ (b.laid (k + a.cost) ++ [⟨x.kind + 2, 0⟩])
  | .three _ a b c, k => a.laid k ++ (⟨10, (thirdAt k a.cost b.cost : Nat)⟩ :: (b.laid (k + a.cost + 1) ++ (⟨9, (thirdAt k a.cost b.cost + c.cost : Nat)⟩ :: c.laid (thirdAt k a.cost b.cost))))

theorem ETree.laid_len : ∀ (t : ETree) (k : Nat), (t.laid k).length = t.cost
  | .leaf _, _ => rfl
  | .two _ a b, k => by simp [ETree.laid, ETree.cost, a.laid_len, b.laid_len]; omega
  | .three _ a b c, k => by simp [ETree.laid, ETree.cost, a.laid_len, b.laid_len, c.laid_len]; omega

theorem ETree.cost_pos : ∀ t : ETree, 0 < t.cost
  | .leaf _ => Nat.one_pos
  | .two _ _ _ => Nat.succ_pos _
  | .three _ _ _ _ => Nat.succ_pos _

/-- So many more ops than nodes at most. -/
theorem ETree.cost_le : ∀ t : ETree, 3 * t.cost + 1 ≤ 4 * t.flat.length
  | .leaf _ => by simp [ETree.cost, ETree.flat]
  | .two _ a b => by have := a.cost_le; have := b.cost_le; simp [ETree.cost, ETree.flat]; omega
  | .three _ a b c => by
    have h1 := a.cost_le
    have h2 := b.cost_le
    have h3 := c.cost_le
    simp only [ETree.cost, ETree.flat, List.length_cons, List.length_append]
    omega

/-- The heights of a tree's ops. -/
def ETree.high : ETree → Int → List Int
  | .leaf _, h => [h]
  | .two _ a b, h => a.high h ++ (b.high (h + 1) ++ [h + 2])
  | .three _ a b c, h => a.high h ++ ((h + 1) :: (b.high h ++ ((h + 1) :: c.high h)))
/-- A list stands in another one at a place. -/
def Sits {α : Type} (code : List α) (k : Nat) (l : List α) : Prop := ∃ pre post, code = pre ++ (l ++ post) ∧ pre.length = k
theorem Sits.cons {α : Type} {code : List α} {k : Nat} {x : α} {l : List α} (h : Sits code k (x :: l)) : (k < code.length ∧ ∀ d, code.getD k d = x) ∧ Sits code (k + 1) l := by
  obtain ⟨pre, post, e, hk⟩ := h
  subst e hk
  refine ⟨⟨by simp, fun d => by simp [List.getD]⟩, pre ++ [x], post, by simp, by simp⟩
theorem Sits.self {α : Type} (l : List α) : Sits l 0 l := ⟨[], [], by simp, rfl⟩
theorem Sits.le {α : Type} {code : List α} {k : Nat} {l : List α} (h : Sits code k l) : k + l.length ≤ code.length := by
  obtain ⟨pre, post, e, hk⟩ := h
  subst e hk
  simp
/-- The tree of a right expression. -/
noncomputable def treeOf (e : List GNode) : ETree := by
  classical exact if h : ∃ t : ETree, t.fits ∧ e = t.flat then h.choose else .leaf ⟨0, 0⟩
theorem treeOf_flat (t : ETree) (ht : t.fits) : treeOf t.flat = t := by
  unfold treeOf
  have h : ∃ t' : ETree, t'.fits ∧ t.flat = t'.flat := ⟨t, ht, rfl⟩
  rw [dif_pos h]
  have h1 := h.choose_spec
  exact ((ETree.flat_inj t h.choose [] [] ht h1.1 (by simpa using h1.2)).1).symm

/-- The function of a tree. -/
def ETree.func (t : ETree) (locals : Int) : GFunc := ⟨locals, locals, t.laid 0 ++ [⟨12, 0⟩]⟩
def forgeErr (e : List GNode) (vals : List Int) : Int :=
  if exprErr e vals.length ≠ 0 then exprErr e vals.length else if ∃ v ∈ vals, ¬ (0 ≤ v ∧ v ≤ 999) then 3 else 0
def mainF (vals : List Int) : GFunc := ⟨0, 0, vals.map (fun v => ⟨0, v⟩) ++ [⟨11, 1⟩, ⟨12, 0⟩]⟩
noncomputable def forgePr (e : List GNode) (vals : List Int) : List GFunc := if forgeErr e vals = 0 then [mainF vals, (treeOf e).func vals.length] else []

/-- All kinds and numbers of a right tree's nodes. -/
def ETree.nodes (t : ETree) (locals : Nat) : Prop := ∀ x ∈ t.flat, 0 ≤ x.kind ∧ x.kind ≤ 7 ∧ 0 ≤ x.n ∧ x.n ≤ mostN locals x.kind
theorem exprErr_tree {e : List GNode} {locals : Int} (h : exprErr e locals = 0) : ∃ t : ETree, t.fits ∧ e = t.flat ∧ treeOf e = t ∧ t.flat.length ≤ 9 ∧ 0 ≤ locals ∧ locals ≤ 4 ∧ t.nodes locals.toNat := by
  unfold exprErr at h
  split at h
  · omega
  split at h
  · omega
  split at h
  · omega
  split at h
  · omega
  split at h
  · omega
  rename_i h1 h2 h3 h4 h5
  obtain ⟨t, ht, rfl⟩ := (openOk_one e).1 (by simpa using h5)
  refine ⟨t, ht, rfl, treeOf_flat t ht, by omega, by omega, by omega, fun x hx => ?_⟩
  have a := (Decidable.not_not.1 h3) x hx
  have b := (Decidable.not_not.1 h4) x hx
  refine ⟨a.1, a.2, b.1, ?_⟩
  have e : ((locals.toNat : Nat) : Int) = locals := Int.toNat_of_nonneg (by omega)
  rw [e]
  exact b.2
theorem ETree.nodes.two {x : GNode} {a b : ETree} {n : Nat} (h : (ETree.two x a b).nodes n) : a.nodes n ∧ b.nodes n :=
  ⟨fun y hy => h y (by simp [ETree.flat, hy]), fun y hy => h y (by simp [ETree.flat, hy])⟩
theorem ETree.nodes.three {x : GNode} {a b c : ETree} {n : Nat} (h : (ETree.three x a b c).nodes n) : a.nodes n ∧ b.nodes n ∧ c.nodes n :=
  ⟨fun y hy => h y (by simp [ETree.flat, hy]), fun y hy => h y (by simp [ETree.flat, hy]), fun y hy => h y (by simp [ETree.flat, hy])⟩
theorem ETree.fits_two {x : GNode} {a b : ETree} (h : (ETree.two x a b).fits) : 2 ≤ x.kind ∧ x.kind ≤ 6 ∨ 8 ≤ x.kind := by
  have := h.1
  unfold sizeN at this
  split at this
  · omega
  · split at this <;> omega
end Go.Proofs.YtpcjkfppacnkgaaGreatDoor
end
