/- Contract of flowBegun. -/
import Derived.Test.YtpiechbjponicaaFlowH
import Derived.Test.YtpiechbjponicaaSame
import Derived.Test.YtpiechbjponicaaOpB
set_option maxHeartbeats 4000000
set_option maxRecDepth 100000
namespace Go.Proofs.Ytpiechbjponicaa
open Go Go.RowKit

theorem heights_val (p : List GFunc) (v : Value) (S : Nat → Prop) (f : Int) (w : World) (hp : Funcs w S v p) (r : Int) (l : List Int) (n : Nat) (hr : hErr p f = r) (hl : hList p f = l) (hn : l.length = n) :
    Calls Try.prog 24 #[v, .int .i64 f] w fun e w' => (∃ a cap, e = .returned (.tuple #[.slice a n cap, .int .i64 r]) ∧ Ints w' (fun _ => True) (.slice a n cap) l) ∧ Ext w w' := by
  subst hn
  refine (flowHeights_any p v S f w hp).mono fun e w' ⟨⟨v, he, hi⟩, hb⟩ => ⟨?_, hb⟩
  rw [hl] at hi
  rw [hr] at he
  have hi2 := hi
  obtain ⟨a, cap, rfl, _, _, _⟩ := hi
  exact ⟨a, cap, he, Ints.stays (Stays.widen (fun _ _ => trivial)) hi2⟩

theorem heightsOf_val (p : List GFunc) (v : Value) (S : Nat → Prop) (f : Int) (w : World) (hp : Funcs w S v p) :
    Calls Try.prog 25 #[v, .int .i64 f] w fun e w' => (∃ a cap, e = .returned (.tuple #[.slice a (hList p f).length cap, .int .i64 (hErr p f)]) ∧ Ints w' (fun _ => True) (.slice a (hList p f).length cap) (hList p f)) ∧ Ext w w' := by
  refine (heightsOf_any p v S f w hp).mono fun e w' ⟨⟨v, he, hi⟩, hb⟩ => ⟨?_, hb⟩
  have hi2 := hi
  obtain ⟨a, cap, rfl, _, _, _⟩ := hi
  exact ⟨a, cap, he, Ints.stays (Stays.widen (fun _ _ => trivial)) hi2⟩

theorem prog_ops (w : World) (l : List GOp) (n : Nat) (hn : l.length = n) (cs : Array Value) (hcs : cs.toList = opCells l) (hI : ∀ x ∈ l, I64 x.kind ∧ I64 x.a) (hl : l.length ≤ 1000) (t u : TypeId) :
    Funcs ((w.alloc (.cells cs t)).alloc (.cells #[.int .i64 0, .int .i64 0, .slice (some ⟨w.heap.size, 0, none⟩) n n] u)) (fun _ => True) (.slice (some ⟨w.heap.size + 1, 0, none⟩) 1 1) [⟨0, 0, l⟩] := by
  subst hn
  have hg := heap_alloc2_new w (.cells cs t) (.cells #[.int .i64 0, .int .i64 0, .slice (some ⟨w.heap.size, 0, none⟩) l.length l.length] u)
  have h0 := heap_alloc2_old w (.cells cs t) (.cells #[.int .i64 0, .int .i64 0, .slice (some ⟨w.heap.size, 0, none⟩) l.length l.length] u)
  have f0 := ops_of_block (S := fun _ => True) l h0 hcs trivial hI (by omega)
  have cell := fun j => cell_of_row _ _ j _ _ _ hg
  refine ⟨_, _, rfl, Nat.le_refl _, by simp, fun i hi => ⟨_, 0, rfl, ?_⟩⟩
  match i, hi with
  | 0, _ => exact ⟨⟨trivial, cell _, I64.small (by simp) (by simp)⟩, ⟨trivial, cell _, I64.small (by simp) (by simp)⟩, _, cell _, f0⟩

theorem ints_new (w : World) (l : List Int) (n : Nat) (hn : l.length = n) (cs : Array Value) (hcs : cs = (ints l).toArray) (hI : ∀ x ∈ l, I64 x) (hl : l.length ≤ 1000) (t : TypeId) : Ints (w.alloc (.cells cs t)) (fun _ => True) (.slice (some ⟨w.heap.size, 0, none⟩) n n) l := by
  subst hcs hn
  exact ints_block l (heap_alloc_new _ _) _ trivial hI hl

theorem hc1 : hErr countP 1 = 0 := by decide
theorem hc2 : hList countP 1 = [0, 1, 1, 0, 1, 2, 1, 1, 0, 1, -1, -1] := by decide
theorem hc3 : hErr countP 3 = 5 := by decide
theorem hc4 : hList countP 3 = [] := by decide
theorem hp1 : hErr [⟨0, 0, [⟨1, 0⟩, ⟨12, 0⟩]⟩] 0 = 1 := by decide
theorem hp2 : hList [⟨0, 0, [⟨1, 0⟩, ⟨12, 0⟩]⟩] 0 = [] := by decide
theorem hq1 : hErr [⟨0, 0, [⟨0, 0⟩]⟩] 0 = 1 := by decide
theorem hq2 : hList [⟨0, 0, [⟨0, 0⟩]⟩] 0 = [] := by decide
def jumpsL : List GOp := [⟨0, 0⟩, ⟨10, 3⟩, ⟨9, 0⟩, ⟨0, 1⟩, ⟨12, 0⟩]
theorem hj1 : hErr [⟨0, 0, jumpsL⟩] 0 = 0 := by decide
theorem hj2 : hList [⟨0, 0, jumpsL⟩] 0 = [0, 1, 0, 0, 1] := by decide
theorem small_ops {l : List GOp} (h : ∀ x ∈ l, -1000000 ≤ x.kind ∧ x.kind ≤ 1000000 ∧ -1000000 ≤ x.a ∧ x.a ≤ 1000000) : ∀ x ∈ l, I64 x.kind ∧ I64 x.a := fun x hx => ⟨I64.small (h x hx).1 (h x hx).2.1, I64.small (h x hx).2.2.1 (h x hx).2.2.2⟩
theorem small_ints {l : List Int} (h : ∀ x ∈ l, -1000000 ≤ x ∧ x ≤ 1000000) : ∀ x ∈ l, I64 x := fun x hx => I64.small (h x hx).1 (h x hx).2

theorem flowBegun_any (w : World) : Calls Try.prog 26 #[] w fun e w' => e = .returned (.bool true) ∧ Ext w w' := by
  go_enter Try.func26, Try.ntmps26
  go_upto_region 2 with (first
    | (go_at_call 41; refine (count_any _).mono ?_; rintro e w1 ⟨⟨v, rfl, hv⟩, hb1⟩; have hf := hv.funcs)
    | (go_at_call 24; (with_reducible refine (heights_val countP _ _ 1 _ hf _ _ 12 hc1 hc2 rfl).mono ?_); rintro e w2 ⟨⟨a1, c1, rfl, hl1⟩, hb2⟩))
  have e2 : Ext w w2 := by ((repeat (first | assumption | exact Ext.refl _ | (exact And.left (by assumption)) | refine Ext.alloc ?_ _ | refine Ext.drew ?_ | refine Ext.drewN ?_ _ | refine Ext.setCell ?_ (by simp) _ | refine Ext.setCell ?_ (by simp; omega) _ | refine Ext.trans ?_ (by assumption))); done)
  have E2 := Lib.hid e2
  have L1 := Lib.hid hl1
  clear hf hv hb1 hb2 e2 hl1
  rename World => w2
  go_upto_region 3 with (first
    | (go_at_call 41; refine (count_any _).mono ?_; rintro e w1 ⟨⟨v, rfl, hv⟩, hb1⟩; have hf := hv.funcs)
    | (go_at_call 24; (with_reducible refine (heights_val countP _ _ 3 _ hf _ _ 0 hc3 hc4 rfl).mono ?_); rintro e w3 ⟨⟨a2, c2, rfl, hl2⟩, hb2⟩))
  have e3 : Ext w2 w3 := by ((repeat (first | assumption | exact Ext.refl _ | (exact And.left (by assumption)) | refine Ext.alloc ?_ _ | refine Ext.drew ?_ | refine Ext.drewN ?_ _ | refine Ext.setCell ?_ (by simp) _ | refine Ext.setCell ?_ (by simp; omega) _ | refine Ext.trans ?_ (by assumption))); done)
  have E3 := Lib.hid e3
  clear hf hv hb1 hb2 e3 hl2
  go_upto_region 4 with (first
    | (go_at_call 42; refine (o_any _ _ _).mono ?_; rintro e w1 ⟨rfl, hb⟩)
    | (go_at_call 24; (with_reducible refine (heights_val [⟨0, 0, [⟨1, 0⟩, ⟨12, 0⟩]⟩] _ _ 0 _ (prog_ops _ [⟨1, 0⟩, ⟨12, 0⟩] 2 rfl #[.int .i64 1, .int .i64 0, .int .i64 12, .int .i64 0] rfl (small_ops (by decide)) (by decide) _ _) _ _ 0 hp1 hp2 rfl).mono ?_); rintro e w4 ⟨⟨a3, c3, rfl, hl3⟩, hb3⟩))
  have e4 : Ext w3 w4 := by ((repeat (first | assumption | exact Ext.refl _ | (exact And.left (by assumption)) | refine Ext.alloc ?_ _ | refine Ext.drew ?_ | refine Ext.drewN ?_ _ | refine Ext.setCell ?_ (by simp) _ | refine Ext.setCell ?_ (by simp; omega) _ | refine Ext.trans ?_ (by assumption))); done)
  have E4 := Lib.hid e4
  clear e4 hl3 hb3
  go_upto_region 5 with (first
    | (go_at_call 42; refine (o_any _ _ _).mono ?_; rintro e w1 ⟨rfl, hb⟩)
    | (go_at_call 24; (with_reducible refine (heights_val [⟨0, 0, [⟨0, 0⟩]⟩] _ _ 0 _ (prog_ops _ [⟨0, 0⟩] 1 rfl #[.int .i64 0, .int .i64 0] rfl (small_ops (by decide)) (by decide) _ _) _ _ 0 hq1 hq2 rfl).mono ?_); rintro e w5 ⟨⟨a4, c4, rfl, hl4⟩, hb4⟩))
  have e5 : Ext w4 w5 := by ((repeat (first | assumption | exact Ext.refl _ | (exact And.left (by assumption)) | refine Ext.alloc ?_ _ | refine Ext.drew ?_ | refine Ext.drewN ?_ _ | refine Ext.setCell ?_ (by simp) _ | refine Ext.setCell ?_ (by simp; omega) _ | refine Ext.trans ?_ (by assumption))); done)
  have E5 := Lib.hid e5
  clear e5 hl4 hb4
  go_upto_region 6 with (first
    | (go_at_call 42; refine (o_any _ _ _).mono ?_; rintro e w1 ⟨rfl, hb⟩)
    | (go_at_call 24; (with_reducible refine (heights_val [⟨0, 0, jumpsL⟩] _ _ 0 _ (prog_ops _ jumpsL 5 rfl #[.int .i64 0, .int .i64 0, .int .i64 10, .int .i64 3, .int .i64 9, .int .i64 0, .int .i64 0, .int .i64 1, .int .i64 12, .int .i64 0] rfl (small_ops (by decide)) (by decide) _ _) _ _ 5 hj1 hj2 rfl).mono ?_); rintro e w6 ⟨⟨a5, c5, rfl, hl5⟩, hb5⟩))
  have e6 : Ext w5 w6 := by ((repeat (first | assumption | exact Ext.refl _ | (exact And.left (by assumption)) | refine Ext.alloc ?_ _ | refine Ext.drew ?_ | refine Ext.drewN ?_ _ | refine Ext.setCell ?_ (by simp) _ | refine Ext.setCell ?_ (by simp; omega) _ | refine Ext.trans ?_ (by assumption))); done)
  have E6 := Lib.hid e6
  have L5 := Lib.hid hl5
  clear e6 hl5 hb5
  have L1' := Lib.hid (Ints.stays (Ext.stays (((E3.out.trans E4.out).trans E5.out).trans E6.out)) L1.out)
  go_wp2_with (first
    | (go_at_call 27; (with_reducible refine (sameInts_any [0, 1, 1, 0, 1, 2, 1, 1, 0, 1, -1, -1] _ _ _ (fun _ => True) (fun _ => True) _ (Ints.stays (Ext.stays ((Ext.refl _).alloc _)) L1'.out) (ints_new _ [0, 1, 1, 0, 1, 2, 1, 1, 0, 1, -1, -1] 12 rfl #[.int .i64 0, .int .i64 1, .int .i64 1, .int .i64 0, .int .i64 1, .int .i64 2, .int .i64 1, .int .i64 1, .int .i64 0, .int .i64 1, .int .i64 (-1), .int .i64 (-1)] rfl (small_ints (by decide)) (by decide) _)).mono ?_); rintro e w7 ⟨rfl, hb7⟩)
    | (go_at_call 27; (with_reducible refine (sameInts_any [0, 1, 0, 0, 1] _ _ _ (fun _ => True) (fun _ => True) _ (Ints.stays (Ext.stays (Ext.alloc (Ext.trans ((Ext.refl _).alloc _) hb7) _)) L5.out) (ints_new _ [0, 1, 0, 0, 1] 5 rfl #[.int .i64 0, .int .i64 1, .int .i64 0, .int .i64 0, .int .i64 1] rfl (small_ints (by decide)) (by decide) _)).mono ?_); rintro e w8 ⟨rfl, hb8⟩))
  go_ret
  have e7 := (((E2.out.trans E3.out).trans E4.out).trans E5.out).trans E6.out
  exact ⟨rfl, by ((repeat (first | assumption | exact Ext.refl _ | (exact And.left (by assumption)) | refine Ext.alloc ?_ _ | refine Ext.drew ?_ | refine Ext.drewN ?_ _ | refine Ext.setCell ?_ (by simp) _ | refine Ext.setCell ?_ (by simp; omega) _ | refine Ext.trans ?_ (by assumption))); done)⟩
end Go.Proofs.Ytpiechbjponicaa
