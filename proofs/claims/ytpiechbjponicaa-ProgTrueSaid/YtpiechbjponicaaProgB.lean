/- Contract of progBegun. -/
import Derived.Test.YtpiechbjponicaaCalls2
import Derived.Test.YtpiechbjponicaaCalls3
import Derived.Test.YtpiechbjponicaaOpB
set_option maxHeartbeats 4000000
set_option maxRecDepth 100000
namespace Go.Proofs.Ytpiechbjponicaa
open Go Go.RowKit

theorem progCheck_many (a : Option Addr) (n cap : Nat) (w : World) (h : 5 < n) (h' : n ≤ 1000) :
    Calls Try.prog 33 #[.slice a n cap] w fun e w' => e = .returned (.int .i64 2) ∧ Ext w w' := by
  go_enter Try.func33, Try.ntmps33
  go_wp2_with fail
  go_ret
  exact ⟨rfl, Ext.refl _⟩
theorem progCheck_val (p : List GFunc) (v : Value) (S : Nat → Prop) (w : World) (hp : Funcs w S v p) (r : Int) (hr : progErr p = r) :
    Calls Try.prog 33 #[v] w fun e w' => e = .returned (.int .i64 r) ∧ Ext w w' := by
  rw [← hr]; exact progCheck_any p v S w hp

theorem cnt_calls : IsCalls countP 1 [false, true, true] := by
  have c1 : callees countP 1 = [2] := by decide
  have c2 : callees countP 2 = [] := by decide
  refine ⟨rfl, rfl, fun k hk j hj => ?_, fun k hk => ?_⟩
  · match k, hk with
    | 1, _ => rw [c1] at hj; simp at hj; subst hj; rfl
    | 2, _ => rw [c2] at hj; cases hj
  · match k, hk with
    | 1, _ => exact .here
    | 2, _ => exact .step .here (by rw [c1]; simp)

theorem pe_count : progErr countP = 0 := by decide
theorem pe_nil : progErr [] = 5 := by decide
def countY : List GFunc := ⟨1, 1, countCode0⟩ :: countP.tail
theorem pe_y : progErr countY = 1 := by decide
theorem ce_1 : cErr countP 1 = 0 := by decide
theorem ce_3 : cErr countP 3 = 5 := by decide

theorem calls_cnt1 (v : Value) (S : Nat → Prop) (w : World) (hp : Funcs w S v countP) :
    Calls Try.prog 29 #[v, .int .i64 1] w fun e w' => (∃ a cap, e = .returned (.tuple #[.slice a 3 cap, .int .i64 0]) ∧ Bools w' (fun _ => True) (.slice a 3 cap) [false, true, true]) ∧ Ext w w' := by
  refine (progCalls_any countP v S 1 w hp).mono fun e w' ⟨⟨a, cap, o, he, hb, hc⟩, hE⟩ => ⟨⟨a, cap, ?_⟩, hE⟩
  unfold CallsIs at hc
  rw [ce_1, if_pos rfl] at hc
  obtain rfl : o = [false, true, true] := hc.eq cnt_calls
  rw [ce_1] at he
  exact ⟨he, hb⟩
theorem calls_cnt3 (v : Value) (S : Nat → Prop) (w : World) (hp : Funcs w S v countP) :
    Calls Try.prog 29 #[v, .int .i64 3] w fun e w' => (∃ a cap, e = .returned (.tuple #[.slice a 0 cap, .int .i64 5])) ∧ Ext w w' := by
  refine (progCalls_any countP v S 3 w hp).mono fun e w' ⟨⟨a, cap, o, he, hb, hc⟩, hE⟩ => ⟨⟨a, cap, ?_⟩, hE⟩
  unfold CallsIs at hc
  rw [ce_3, if_neg (by decide)] at hc
  subst hc
  rw [ce_3] at he
  exact he

theorem CountIs.argued {w w' : World} {v : Value} (h : CountIs w w' v) : ∃ g : Nat, v = .slice (some ⟨g, 0, none⟩) 3 3 ∧ w.heap.size ≤ g ∧ w'.cell? ⟨g, 0, none⟩ = some (.int .i64 0) ∧ w'.frozen? ⟨g, 0, none⟩ = false ∧ Funcs (w'.setCell ⟨g, 0, none⟩ (.int .i64 1)) (fun _ => True) v countY := by
  obtain ⟨g, c0, c1, c2, rfl, hB, l0, l1, l2, h0, h1, h2, hg⟩ := h
  have k0 := (heap_setCell_other w' ⟨g, 0, none⟩ c0 (.int .i64 1) (by simp; omega)).trans h0
  have k1 := (heap_setCell_other w' ⟨g, 0, none⟩ c1 (.int .i64 1) (by simp; omega)).trans h1
  have k2 := (heap_setCell_other w' ⟨g, 0, none⟩ c2 (.int .i64 1) (by simp; omega)).trans h2
  have kg := heap_setCell_same w' g 0 _ _ (.int .i64 1) hg
  have f0 := ops_of_block (S := fun _ => True) countCode0 k0 rfl trivial (ops_small _ (by decide)) (by decide)
  have f1 := ops_of_block (S := fun _ => True) countCode1 k1 rfl trivial (ops_small _ (by decide)) (by decide)
  have f2 := ops_of_block (S := fun _ => True) countCode2 k2 rfl trivial (ops_small _ (by decide)) (by decide)
  have cell := fun j => cell_of_row _ g j _ _ _ kg
  refine ⟨g, rfl, by omega, cell_of_row w' g 0 _ _ _ hg, frozen_of_row w' g 0 _ _ hg, ?_⟩
  refine ⟨_, _, rfl, Nat.le_refl _, by decide, fun i hi => ⟨g, 0, rfl, ?_⟩⟩
  match i, hi with
  | 0, _ => exact ⟨⟨trivial, cell _, I64.small (by simp [countY, countP]) (by simp [countY, countP])⟩, ⟨trivial, cell _, I64.small (by simp [countY, countP]) (by simp [countY, countP])⟩, _, cell _, f0⟩
  | 1, _ => exact ⟨⟨trivial, cell _, I64.small (by simp [countY, countP]) (by simp [countY, countP])⟩, ⟨trivial, cell _, I64.small (by simp [countY, countP]) (by simp [countY, countP])⟩, _, cell _, f1⟩
  | 2, _ => exact ⟨⟨trivial, cell _, I64.small (by simp [countY, countP]) (by simp [countY, countP])⟩, ⟨trivial, cell _, I64.small (by simp [countY, countP]) (by simp [countY, countP])⟩, _, cell _, f2⟩

theorem bools_new (w : World) (l : List Bool) (n : Nat) (hn : l.length = n) (cs : Array Value) (hcs : cs = (bools l).toArray) (hl : l.length ≤ 1000) (t : TypeId) : Bools (w.alloc (.cells cs t)) (fun _ => True) (.slice (some ⟨w.heap.size, 0, none⟩) n n) l := by
  subst hcs hn
  refine ⟨_, _, rfl, Nat.le_refl _, ⟨by omega, by omega⟩, fun i hi => ⟨_, 0, rfl, trivial, ?_⟩⟩
  rw [cell_of_row _ _ _ _ t (0, 0) (heap_alloc_new _ _)]
  simp [bools, hi]

theorem infoFn : (Try.prog.info? 34).map (fun i => (i.zero, i.size, i.bytes)) = some (some (.agg #[.int .i64 0, .int .i64 0, .slice none 0 0]), 3, 40) := by kernel_rfl
theorem make6 (w : World) : Sem.run Try.prog (Instr.makeSlice 22 (.int .i64 6) (.int .i64 6)) w = .ok (.slice (some ⟨w.heap.size, 0, none⟩) 6 6) (w.alloc (.cells (madeCells (Value.agg #[.int .i64 0, .int .i64 0, .slice none 0 0]).cells 18) 34)) := by
  obtain ⟨i0, hi0, hz0, hz1, hz2⟩ := info_parts infoFn
  have := run_makeSlice (P := Try.prog) w 22 34 i0 _ Try.underlying22 hi0 hz0 .i64 .i64 6 6 (by decide) (by decide) (by rw [hz1]; decide) (by rw [hz2]; decide) (by decide)
  rw [hz1] at this
  exact this

theorem progBegun_any (w : World) : Calls Try.prog 32 #[] w fun e w' => e = .returned (.bool true) ∧ Ext w w' := by
  have hmk := make6
  have hnil : ∀ w : World, Funcs w (fun _ => True) (.slice none 0 0) [] := fun w => Sl.nil _ _ _
  go_enter Try.func32, Try.ntmps32
  go_upto_region 2 with (first
    | (go_at_call 41; refine (count_any _).mono ?_; rintro e w1 ⟨⟨v, rfl, hv⟩, hb1⟩; have hf := hv.funcs)
    | (go_at_call 29; (with_reducible refine (calls_cnt1 _ _ _ hf).mono ?_); rintro e w2 ⟨⟨a1, c1, rfl, hl1⟩, hb2⟩))
  have e2 : Ext w w2 := by ((repeat (first | assumption | exact Ext.refl _ | (exact And.left (by assumption)) | refine Ext.alloc ?_ _ | refine Ext.drew ?_ | refine Ext.drewN ?_ _ | refine Ext.setCell ?_ (by simp) _ | refine Ext.setCell ?_ (by simp; omega) _ | refine Ext.trans ?_ (by assumption))); done)
  have E2 := Lib.hid e2
  have L1 := Lib.hid hl1
  clear hf hv hb1 hb2 e2 hl1
  rename World => w2
  go_upto_region 3 with (first
    | (go_at_call 41; refine (count_any _).mono ?_; rintro e w1 ⟨⟨v, rfl, hv⟩, hb1⟩; have hf := hv.funcs)
    | (go_at_call 29; (with_reducible refine (calls_cnt3 _ _ _ hf).mono ?_); rintro e w3 ⟨⟨a2, c2, rfl⟩, hb2⟩))
  have e3 : Ext w2 w3 := by ((repeat (first | assumption | exact Ext.refl _ | (exact And.left (by assumption)) | refine Ext.alloc ?_ _ | refine Ext.drew ?_ | refine Ext.drewN ?_ _ | refine Ext.setCell ?_ (by simp) _ | refine Ext.setCell ?_ (by simp; omega) _ | refine Ext.trans ?_ (by assumption))); done)
  have E3 := Lib.hid e3
  clear hf hv hb1 hb2 e3
  rename World => w3
  go_upto_region 4 with (first
    | (go_at_call 41; refine (count_any _).mono ?_; rintro e w4 ⟨⟨v, rfl, hv⟩, hb4⟩))
  obtain ⟨g, rfl, hB, x2, x1f, hX⟩ := hv.argued
  have E6 : Ext w3 (w4.setCell ⟨g, 0, none⟩ (.int .i64 1)) := Ext.setCell hb4 hB _
  have HE6 := Lib.hid E6
  have HX := Lib.hid hX
  clear hB hv E6 hb4 hX
  go_upto_region 5 with fail
  obtain ⟨w5, hw5⟩ : ∃ w5, w4.setCell ⟨g, 0, none⟩ (.int .i64 1) = w5 := ⟨_, rfl⟩
  rw [hw5] at HE6 HX ⊢
  clear hw5 x2 x1f
  have L5 := Lib.hid (Bools.stays (Ext.stays (E3.out.trans HE6.out)) L1.out)
  go_wp2_with (first
    | (go_at_call 41; refine (count_any _).mono ?_; rintro e w6 ⟨⟨v, rfl, hv⟩, hb6⟩; have hf := hv.funcs)
    | (go_at_call 33; (with_reducible refine (progCheck_val [] _ _ _ (hnil _) 5 pe_nil).mono ?_); rintro e w8 ⟨rfl, hb8⟩)
    | (go_at_call 33; (with_reducible refine (progCheck_val countP _ _ _ hf 0 pe_count).mono ?_); rintro e w7 ⟨rfl, hb7⟩)
    | (go_at_call 33; (with_reducible refine (progCheck_val countY _ _ _ (Funcs.stays (Ext.stays ((hb6.trans hb7).trans hb8)) HX.out) 1 pe_y).mono ?_); rintro e w9 ⟨rfl, hb9⟩)
    | (go_at_call 33; (with_reducible refine (progCheck_many _ 6 6 _ (by omega) (by omega)).mono ?_); rintro e w10 ⟨rfl, hb10⟩)
    | (go_at_call 35; (with_reducible refine (sameBools_any [false, true, true] [false, true, true] _ _ (fun _ => True) (fun _ => True) _ (Bools.stays (Ext.stays (Ext.alloc (Ext.trans (Ext.alloc ((hb6.trans hb7).trans (hb8.trans hb9)) _) hb10) _)) L5.out) (bools_new _ [false, true, true] 3 rfl #[.bool false, .bool true, .bool true] rfl (by decide) _)).mono ?_); rintro e w11 ⟨rfl, hb11⟩))
  go_ret
  have e7 := (E2.out.trans E3.out).trans HE6.out
  exact ⟨rfl, by ((repeat (first | assumption | exact Ext.refl _ | (exact And.left (by assumption)) | refine Ext.alloc ?_ _ | refine Ext.drew ?_ | refine Ext.drewN ?_ _ | refine Ext.setCell ?_ (by simp) _ | refine Ext.setCell ?_ (by simp; omega) _ | refine Ext.trans ?_ (by assumption))); done)⟩
end Go.Proofs.Ytpiechbjponicaa
