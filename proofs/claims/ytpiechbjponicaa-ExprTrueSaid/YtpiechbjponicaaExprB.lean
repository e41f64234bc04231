/- exprBegun of the laws. -/
import Derived.Test.YtpiechbjponicaaExprV
set_option maxHeartbeats 1000000
set_option maxRecDepth 100000
namespace Go.Proofs.Ytpiechbjponicaa
open Go Go.RowKit

def nodesT : ETree := .three ⟨7, 0⟩ (.two ⟨5, 0⟩ (.leaf ⟨1, 0⟩) (.leaf ⟨0, 5⟩)) (.two ⟨4, 0⟩ (.leaf ⟨1, 0⟩) (.leaf ⟨1, 0⟩)) (.leaf ⟨0, 7⟩)
/-- The example expression. -/
def nodesL : List GNode := [⟨7, 0⟩, ⟨5, 0⟩, ⟨1, 0⟩, ⟨0, 5⟩, ⟨4, 0⟩, ⟨1, 0⟩, ⟨1, 0⟩, ⟨0, 7⟩]
theorem nodesT_flat : nodesT.flat = nodesL := rfl
theorem nodesT_fits : nodesT.fits := by simp [nodesT, ETree.fits, sizeN]

theorem valErr_flat {t : ETree} {vals : List Int} (ht : t.fits) (h : exprErr t.flat vals.length = 0) : valErr t.flat vals = valT vals t := by
  unfold valErr; rw [if_pos h, valOf_flat vals t ht]
theorem valErr_bad {e : List GNode} {vals : List Int} (h : exprErr e vals.length ≠ 0) : valErr e vals = 0 := by
  unfold valErr; rw [if_neg h]

theorem nodesL_3 : valErr nodesL [3] = 9 := by rw [← nodesT_flat, valErr_flat nodesT_fits (by decide)]; simp [nodesT, valT, reckN]; exact IntWalk.wrap64_in 9 ⟨by decide, by decide⟩
theorem nodesL_6 : valErr nodesL [6] = 7 := by rw [← nodesT_flat, valErr_flat nodesT_fits (by decide)]; simp [nodesT, valT, reckN]
theorem nodesL_n : valErr nodesL [] = 0 := valErr_bad (by decide)

def nodeCells : List GNode → List Value
  | [] => []
  | x :: l => .int .i64 x.kind :: .int .i64 x.n :: nodeCells l

theorem nodeCells_at : ∀ (l : List GNode) (i : Nat) (h : i < l.length), (nodeCells l)[i * 2]? = some (.int .i64 l[i].kind) ∧ (nodeCells l)[i * 2 + 1]? = some (.int .i64 l[i].n)
  | [], i, h => absurd h (by simp)
  | x :: l, 0, _ => ⟨rfl, rfl⟩
  | x :: l, i + 1, h => by
    have := nodeCells_at l i (by simpa using h)
    rw [show (i + 1) * 2 = i * 2 + 2 by omega]
    exact this

theorem nodes_of_block {w : World} {S : Nat → Prop} {c : Nat} {cs : Array Value} {t : TypeId} {fr : Nat × Nat} (l : List GNode) (hc : w.heap[c]? = some (.cells cs t fr)) (hl : cs.toList = nodeCells l)
    (hS : S c) (hI : ∀ x ∈ l, I64 x.kind ∧ I64 x.n) (hlen : l.length * 16 ≤ 140737488355328) : Nodes w S (.slice (some ⟨c, 0, none⟩) l.length l.length) l := by
  refine ⟨_, _, rfl, Nat.le_refl _, ⟨hlen, by omega⟩, fun i hi => ⟨c, 0, rfl, ?_⟩⟩
  obtain ⟨h0, h1⟩ := nodeCells_at l i hi
  have hx := hI _ (List.getElem_mem hi)
  refine ⟨⟨hS, ?_, hx.1⟩, hS, ?_, hx.2⟩
  · rw [cell_of_row w c _ cs t fr hc, ← Array.getElem?_toList, hl, Nat.zero_add]; exact h0
  · rw [cell_of_row w c _ cs t fr hc, ← Array.getElem?_toList, hl, Nat.zero_add]; exact h1

theorem nodes_small (l : List GNode) (h : ∀ x ∈ l, (-1000 ≤ x.kind ∧ x.kind ≤ 1000) ∧ -1000 ≤ x.n ∧ x.n ≤ 1000) : ∀ x ∈ l, I64 x.kind ∧ I64 x.n := fun x hx =>
  ⟨I64.small (by have := (h x hx).1.1; omega) (by have := (h x hx).1.2; omega), I64.small (by have := (h x hx).2.1; omega) (by have := (h x hx).2.2; omega)⟩

theorem Sl.take {α : Type} {E : Nat → Nat → α → Prop} {sz bytes n cap : Nat} {a : Option Addr} {l : List α} (h : Sl E sz bytes (.slice a n cap) l) {k : Nat} (hk : k ≤ n) : Sl E sz bytes (.slice a k cap) (l.take k) := by
  obtain ⟨a', cap', e, h1, h2, h3⟩ := h
  simp only [Value.slice.injEq] at e
  obtain ⟨rfl, rfl, rfl⟩ := e
  refine ⟨a, cap, by rw [List.length_take, Nat.min_eq_left hk], by rw [List.length_take]; omega, ⟨Nat.le_trans (Nat.mul_le_mul_right _ (by rw [List.length_take]; omega)) h2.1, h2.2⟩, fun i hi => ?_⟩
  rw [List.length_take] at hi
  obtain ⟨b, o, e, hE⟩ := h3 i (by omega)
  exact ⟨b, o, e, by rw [List.getElem_take]; exact hE⟩

theorem Nodes.take7 {w : World} {S : Nat → Prop} {g : Nat} (h : Nodes w S (.slice (some ⟨g, 0, none⟩) 8 8) nodesL) : Nodes w S (.slice (some ⟨g, 0, none⟩) 7 8) (nodesL.take 7) := Sl.take h (by omega)

theorem ints_one (w : World) (a : Int) (ha : I64 a) (t : TypeId) : Ints (w.alloc (.cells #[.int .i64 a] t)) (fun _ => True) (.slice (some ⟨w.heap.size, 0, none⟩) 1 1) [a] := by
  refine ⟨_, _, rfl, Nat.le_refl _, by simp, fun i hi => ⟨_, 0, rfl, ?_⟩⟩
  match i, hi with
  | 0, _ => exact ⟨trivial, by simp, ha⟩

theorem nodes_any (w : World) :
    Calls Try.prog 49 #[] w fun e w' => (∃ g, e = .returned (.slice (some ⟨g, 0, none⟩) 8 8) ∧ Nodes w' (fun _ => True) (.slice (some ⟨g, 0, none⟩) 8 8) nodesL) ∧ Ext w w' := by
  go_enter Try.func49, Try.ntmps49
  go_wp2
  go_ret
  exact ⟨⟨_, rfl, nodes_of_block nodesL (heap_alloc_new _ _) rfl trivial (nodes_small _ (by decide)) (by decide)⟩, by ((repeat (first | assumption | exact Ext.refl _ | (exact And.left (by assumption)) | refine Ext.alloc ?_ _ | refine Ext.drew ?_ | refine Ext.drewN ?_ _ | refine Ext.setCell ?_ (by simp) _ | refine Ext.setCell ?_ (by simp; omega) _ | refine Ext.trans ?_ (by assumption))); done)⟩

theorem exprValue_val (e : List GNode) (v : Value) (vals : List Int) (vv : Value) (w : World) (hp : Nodes w (fun _ => True) v e) (hv : Ints w (fun _ => True) vv vals) (r x : Int) (hr : valErr e vals = r) (hx : exprErr e vals.length = x) :
    Calls Try.prog 19 #[v, vv] w fun e' w' => e' = .returned (.tuple #[.int .i64 r, .int .i64 x]) ∧ Ext w w' := by
  rw [← hr, ← hx]; exact exprValue_any e v vals vv w hp hv
theorem exprCheck_val (e : List GNode) (v : Value) (locals : Int) (w : World) (hp : Nodes w (fun _ => True) v e) (hI : I64 locals) (x : Int) (hx : exprErr e locals = x) :
    Calls Try.prog 22 #[v, .int .i64 locals] w fun e' w' => e' = .returned (.int .i64 x) ∧ Ext w w' := by
  rw [← hx]; exact exprCheck_any e v (fun _ => True) locals w hp hI

theorem nodes_one (w : World) (k n : Int) (hk : I64 k) (hn : I64 n) (t : TypeId) : Nodes (w.alloc (.cells #[.int .i64 k, .int .i64 n] t)) (fun _ => True) (.slice (some ⟨w.heap.size, 0, none⟩) 1 1) [⟨k, n⟩] :=
  nodes_of_block [⟨k, n⟩] (heap_alloc_new _ _) rfl trivial (by simp; exact ⟨hk, hn⟩) (by simp)

theorem i64_8 : I64 8 := by unfold I64; omega
theorem xe_1 : exprErr nodesL 1 = 0 := by decide
theorem xe_5 : exprErr nodesL 5 = 3 := by decide
theorem xe_7 : exprErr (nodesL.take 7) 1 = 1 := by decide
theorem xe_0 : exprErr [] 0 = 1 := by decide
theorem xe_8 : exprErr [⟨8, 0⟩] 0 = 4 := by decide
theorem i64_0 : I64 0 := by unfold I64; omega
theorem i64_1 : I64 1 := by unfold I64; omega
theorem i64_5 : I64 5 := by unfold I64; omega

theorem exprBegun_any (w : World) : Calls Try.prog 21 #[] w fun e w' => e = .returned (.bool true) ∧ Ext w w' := by
  have hn : ∀ w : World, Nodes w (fun _ => True) (.slice none 0 0) [] := fun w => Sl.nil _ _ _
  have hi : ∀ w : World, Ints w (fun _ => True) (.slice none 0 0) [] := fun w => Sl.nil _ _ _
  go_enter Try.func21, Try.ntmps21
  go_wp2_with (first
    | (go_at_call 49; refine (nodes_any _).mono ?_; rintro e w1 ⟨⟨g, rfl, hf⟩, hb⟩)
    | (go_at_call 19; (with_reducible refine (exprValue_val nodesL _ [3] _ _ (Nodes.stays (Ext.stays ((Ext.refl _).alloc _)) hf) (ints_one _ 3 (by unfold I64; omega) _) 9 0 nodesL_3 (by decide)).mono ?_); rintro e w1 ⟨rfl, hb⟩)
    | (go_at_call 19; (with_reducible refine (exprValue_val nodesL _ [6] _ _ (Nodes.stays (Ext.stays ((Ext.refl _).alloc _)) hf) (ints_one _ 6 (by unfold I64; omega) _) 7 0 nodesL_6 (by decide)).mono ?_); rintro e w1 ⟨rfl, hb⟩)
    | (go_at_call 19; (with_reducible refine (exprValue_val nodesL _ [] _ _ hf (hi _) 0 3 nodesL_n (by decide)).mono ?_); rintro e w1 ⟨rfl, hb⟩)
    | (go_at_call 22; (with_reducible refine (exprCheck_val nodesL _ 1 _ hf i64_1 0 xe_1).mono ?_); rintro e w1 ⟨rfl, hb⟩)
    | (go_at_call 22; (with_reducible refine (exprCheck_val nodesL _ 5 _ hf i64_5 3 xe_5).mono ?_); rintro e w1 ⟨rfl, hb⟩)
    | (go_at_call 22; (with_reducible refine (exprCheck_val (nodesL.take 7) _ 1 _ (Nodes.take7 hf) i64_1 1 xe_7).mono ?_); rintro e w1 ⟨rfl, hb⟩)
    | (go_at_call 22; (with_reducible refine (exprCheck_val [] _ 0 _ (hn _) i64_0 1 xe_0).mono ?_); rintro e w1 ⟨rfl, hb⟩)
    | (go_at_call 22; (with_reducible refine (exprCheck_val [⟨8, 0⟩] _ 0 _ (nodes_one _ 8 0 i64_8 i64_0 _) i64_0 4 xe_8).mono ?_); rintro e w1 ⟨rfl, hb⟩))
  go_ret
  exact ⟨rfl, by ((repeat (first | assumption | exact Ext.refl _ | (exact And.left (by assumption)) | refine Ext.alloc ?_ _ | refine Ext.drew ?_ | refine Ext.drewN ?_ _ | refine Ext.setCell ?_ (by simp) _ | refine Ext.setCell ?_ (by simp; omega) _ | refine Ext.trans ?_ (by assumption))); done)⟩
end Go.Proofs.Ytpiechbjponicaa
