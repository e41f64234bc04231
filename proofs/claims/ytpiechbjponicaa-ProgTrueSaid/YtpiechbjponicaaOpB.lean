/- What must be in any case of the laws on ops: opBegun gives true. -/
import Derived.Test.YtpiechbjponicaaCnt
set_option maxHeartbeats 1000000
set_option maxRecDepth 100000
namespace Go.Proofs.Ytpiechbjponicaa
open Go Go.RowKit

theorem effect_val (p : List GFunc) (v : Value) (S : Nat → Prop) (k a : Int) (w : World) (hp : Funcs w S v p) (t l r : Int) (ht : effTakes p ⟨k, a⟩ = t) (hl : effLeaves p ⟨k, a⟩ = l) (hr : effErr p ⟨k, a⟩ = r) :
    Calls Try.prog 13 #[v, .agg #[.int .i64 k, .int .i64 a]] w fun e w' => e = .returned (.tuple #[.int .i64 t, .int .i64 l, .int .i64 r]) ∧ Ext w w' := by
  subst ht hl hr
  exact effect_any p v S ⟨k, a⟩ w hp
theorem check_val (p : List GFunc) (v : Value) (S : Nat → Prop) (f : Int) (w : World) (hp : Funcs w S v p) (r : Int) (hr : funcErr p f = r) :
    Calls Try.prog 16 #[v, .int .i64 f] w fun e w' => e = .returned (.int .i64 r) ∧ Ext w w' := by
  subst hr
  exact check_any p v S f w hp

def countX : List GFunc := ⟨0, 1, ⟨13, 2⟩ :: countCode0.tail⟩ :: countP.tail

theorem CountIs.turned {w w' : World} {v : Value} (h : CountIs w w' v) : ∃ g c0 : Nat, v = .slice (some ⟨g, 0, none⟩) 3 3 ∧ w.heap.size ≤ c0 ∧ w'.cell? ⟨g, 2, none⟩ = some (.slice (some ⟨c0, 0, none⟩) 14 14) ∧
    w'.cell? ⟨c0, 1, none⟩ = some (.int .i64 1) ∧ w'.frozen? ⟨c0, 1, none⟩ = false ∧ Funcs (w'.setCell ⟨c0, 1, none⟩ (.int .i64 2)) (fun _ => True) v countX := by
  obtain ⟨g, c0, c1, c2, rfl, hB, l0, l1, l2, h0, h1, h2, hg⟩ := h
  have k0 := heap_setCell_same w' c0 1 _ _ (.int .i64 2) h0
  have k1 := (heap_setCell_other w' ⟨c0, 1, none⟩ c1 (.int .i64 2) (by simp; omega)).trans h1
  have k2 := (heap_setCell_other w' ⟨c0, 1, none⟩ c2 (.int .i64 2) (by simp; omega)).trans h2
  have kg := (heap_setCell_other w' ⟨c0, 1, none⟩ g (.int .i64 2) (by simp; omega)).trans hg
  have f0 := ops_of_block (S := fun _ => True) (⟨13, 2⟩ :: countCode0.tail) k0 rfl trivial (ops_small _ (by decide)) (by decide)
  have f1 := ops_of_block (S := fun _ => True) countCode1 k1 rfl trivial (ops_small _ (by decide)) (by decide)
  have f2 := ops_of_block (S := fun _ => True) countCode2 k2 rfl trivial (ops_small _ (by decide)) (by decide)
  have cell := fun j => cell_of_row _ g j _ _ _ kg
  refine ⟨g, c0, rfl, hB, cell_of_row w' g 2 _ _ _ hg, cell_of_row w' c0 1 _ _ _ h0, frozen_of_row w' c0 1 _ _ h0, ?_⟩
  refine ⟨_, _, rfl, Nat.le_refl _, by decide, fun i hi => ⟨g, 0, rfl, ?_⟩⟩
  match i, hi with
  | 0, _ => exact ⟨⟨trivial, cell _, I64.small (by simp [countX, countP]) (by simp [countX, countP])⟩, ⟨trivial, cell _, I64.small (by simp [countX, countP]) (by simp [countX, countP])⟩, _, cell _, f0⟩
  | 1, _ => exact ⟨⟨trivial, cell _, I64.small (by simp [countX, countP]) (by simp [countX, countP])⟩, ⟨trivial, cell _, I64.small (by simp [countX, countP]) (by simp [countX, countP])⟩, _, cell _, f1⟩
  | 2, _ => exact ⟨⟨trivial, cell _, I64.small (by simp [countX, countP]) (by simp [countX, countP])⟩, ⟨trivial, cell _, I64.small (by simp [countX, countP]) (by simp [countX, countP])⟩, _, cell _, f2⟩

/-- A program of one function of one op, in two new blocks. -/
theorem one_funcs (w : World) (a l k n : Int) (ha : I64 a) (hl : I64 l) (hk : I64 k) (hn : I64 n) (t u : TypeId) :
    Funcs ((w.alloc (.cells #[.int .i64 k, .int .i64 n] t)).alloc (.cells #[.int .i64 a, .int .i64 l, .slice (some ⟨w.heap.size, 0, none⟩) 1 1] u)) (fun _ => True) (.slice (some ⟨w.heap.size + 1, 0, none⟩) 1 1) [⟨a, l, [⟨k, n⟩]⟩] := by
  have hg := heap_alloc2_new w (.cells #[.int .i64 k, .int .i64 n] t) (.cells #[.int .i64 a, .int .i64 l, .slice (some ⟨w.heap.size, 0, none⟩) 1 1] u)
  have h0 := heap_alloc2_old w (.cells #[.int .i64 k, .int .i64 n] t) (.cells #[.int .i64 a, .int .i64 l, .slice (some ⟨w.heap.size, 0, none⟩) 1 1] u)
  have f0 := ops_of_block (S := fun _ => True) [⟨k, n⟩] h0 rfl trivial (by simp; exact ⟨hk, hn⟩) (by simp)
  have cell := fun j => cell_of_row _ _ j _ _ _ hg
  refine ⟨_, _, rfl, Nat.le_refl _, by simp, fun i hi => ⟨_, 0, rfl, ?_⟩⟩
  match i, hi with
  | 0, _ => exact ⟨⟨trivial, cell _, ha⟩, ⟨trivial, cell _, hl⟩, _, cell _, f0⟩

theorem opBegun_any (w : World) : Calls Try.prog 15 #[] w fun e w' => e = .returned (.bool true) ∧ Ext w w' := by
  have hn : ∀ w : World, Funcs w (fun _ => True) (.slice none 0 0) [] := fun w => Sl.nil _ _ _
  go_enter Try.func15, Try.ntmps15
  go_upto_region 5 with (first
    | (go_at_call 41; refine (count_any _).mono ?_; rintro e w1 ⟨⟨v, rfl, hv⟩, hb⟩; have hf := hv.funcs)
    | (go_at_call 42; refine (o_any _ _ _).mono ?_; rintro e w1 ⟨rfl, hb⟩; (try replace hf := Funcs.stays hb.stays hf))
    | (go_at_call 13; (with_reducible refine (effect_val countP _ _ 11 2 _ hf 2 1 0 (by decide) (by decide) (by decide)).mono ?_); rintro e w1 ⟨rfl, hb⟩)
    | (go_at_call 13; (with_reducible refine (effect_val countP _ _ 14 0 _ hf 2 1 0 (by decide) (by decide) (by decide)).mono ?_); rintro e w1 ⟨rfl, hb⟩)
    | (go_at_call 13; (with_reducible refine (effect_val countP _ _ 11 3 _ hf 0 0 5 (by decide) (by decide) (by decide)).mono ?_); rintro e w1 ⟨rfl, hb⟩)
    | (go_at_call 13; (with_reducible refine (effect_val [] _ _ 17 0 _ (hn _) 0 0 4 (by decide) (by decide) (by decide)).mono ?_); rintro e w1 ⟨rfl, hb⟩))
  have e5 : Ext w w1 := by ((repeat (first | assumption | exact Ext.refl _ | (exact And.left (by assumption)) | refine Ext.alloc ?_ _ | refine Ext.drew ?_ | refine Ext.drewN ?_ _ | refine Ext.setCell ?_ (by simp) _ | refine Ext.setCell ?_ (by simp; omega) _ | refine Ext.trans ?_ (by assumption))); done)
  have E5 := Lib.hid e5
  clear e5
  go_upto_region 6 with (first
    | (go_at_call 41; refine (count_any _).mono ?_; rintro e w1 ⟨⟨v, rfl, hv⟩, hb⟩; have hf := hv.funcs))
  obtain ⟨g, c0, rfl, hB, x2, x1s, x1f, hX⟩ := hv.turned
  have E6 : Ext w (w1.setCell ⟨c0, 1, none⟩ (.int .i64 2)) := Ext.setCell (E5.out.trans hb) (Nat.le_trans (Ext.size E5.out) hB) _
  clear hB
  go_wp2_with (first
    | (go_at_call 41; refine (count_any _).mono ?_; rintro e w1 ⟨⟨v, rfl, hv⟩, hb⟩; have hf := hv.funcs; replace hX := Funcs.stays hb.stays hX)
    | (go_at_call 42; refine (o_any _ _ _).mono ?_; rintro e w1 ⟨rfl, hb⟩)
    | (go_at_call 16; (with_reducible refine (check_val countP _ _ 1 _ hf 0 (by decide)).mono ?_); rintro e w1 ⟨rfl, hb⟩; replace hX := Funcs.stays hb.stays hX)
    | (go_at_call 16; (with_reducible refine (check_val countP _ _ 3 _ hf 5 (by decide)).mono ?_); rintro e w1 ⟨rfl, hb⟩; replace hX := Funcs.stays hb.stays hX)
    | (go_at_call 16; (with_reducible refine (check_val countX _ _ 0 _ hX 1 (by decide)).mono ?_); rintro e w1 ⟨rfl, hb⟩)
    | (go_at_call 16; (with_reducible refine (check_val [⟨0, 0, [⟨2, 0⟩]⟩] _ _ 0 _ (one_funcs _ 0 0 2 0 (by unfold I64; omega) (by unfold I64; omega) (by unfold I64; omega) (by unfold I64; omega) _ _) 3 (by decide)).mono ?_); rintro e w1 ⟨rfl, hb⟩))
  go_ret
  exact ⟨rfl, by ((repeat (first | assumption | exact Ext.refl _ | (exact And.left (by assumption)) | refine Ext.alloc ?_ _ | refine Ext.drew ?_ | refine Ext.drewN ?_ _ | refine Ext.setCell ?_ (by simp) _ | refine Ext.setCell ?_ (by simp; omega) _ | refine Ext.trans ?_ (by assumption))); done)⟩
end Go.Proofs.Ytpiechbjponicaa
