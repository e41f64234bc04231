/- Merged texts: contracts and plain facts, one part behind another; each part begins with what it says. -/
import Derived.Test.YtgahbngbpfilgaaGreatGHAH
import Derived.Test.YtgahbngbpfilgaaGreatGHAM
import Derived.Test.YtgahbngbpfilgaaGreatGHAQ
import Derived.Test.YtgahbngbpfilgaaGreatGHAR
import Derived.Test.YtgahbngbpfilgaaGreatGHAY
section
set_option maxHeartbeats 4000000
set_option maxRecDepth 100000
namespace Go.Proofs.YtgahbngbpfilgaaGreat
open Go Go.RowKit
def yl3 : List GOp := [⟨0, 1⟩, ⟨15, 0⟩, ⟨12, 0⟩]
end Go.Proofs.YtgahbngbpfilgaaGreat
end
section
set_option maxHeartbeats 4000000
set_option maxRecDepth 100000
namespace Go.Proofs.YtgahbngbpfilgaaGreat
open Go Go.RowKit
def A4 : GState := ⟨[⟨[⟨0, 4, [1], [1, 7]⟩], -1⟩, ⟨[⟨1, 0, [0], []⟩], -1⟩], 0, []⟩
def D4 : GState := ⟨[⟨[⟨0, 5, [1], []⟩], -1⟩, ⟨[⟨1, 0, [7], []⟩], 0⟩], 1, []⟩
def ADone : GState := ⟨[⟨[], -1⟩, ⟨[], -1⟩], -1, [7, 8, 99]⟩
def YS : GState := ⟨[⟨[⟨0, 1, [], [1]⟩], -1⟩], 0, []⟩
theorem after4 : afterG 4 = A4 := of_decide_eq_true (by kernel_rfl)
theorem afterDone : afterG 99 = ADone := of_decide_eq_true (by kernel_rfl)
theorem do4 : doS countP A4 = (0, D4) := of_decide_eq_true (by kernel_rfl)
theorem do6 : doS countP A6 = (0, A7) := of_decide_eq_true (by kernel_rfl)
theorem doDone : doS countP ADone = (8, ⟨[], 0, []⟩) := of_decide_eq_true (by kernel_rfl)
theorem doY : doS [⟨0, 0, yl3⟩] YS = (7, ⟨[], 0, []⟩) := of_decide_eq_true (by kernel_rfl)
theorem after_4 (v : Value) (S : Nat → Prop) (w : World) (hv : Funcs w S v countP) : Calls Tryz.prog 26 #[v, .int .i64 4] w fun e w' => (∃ x, e = .returned x ∧ StateO w' w.heap.size x A4) ∧ Ext w w' := after_val v S 4 w A4 hv fit_4 after4
theorem after_done (v : Value) (S : Nat → Prop) (w : World) (hv : Funcs w S v countP) : Calls Tryz.prog 26 #[v, .int .i64 99] w fun e w' => (∃ x, e = .returned x ∧ StateO w' w.heap.size x ADone) ∧ Ext w w' := after_val v S 99 w ADone hv fit_99 afterDone
theorem do_val (p : List GFunc) (s t : GState) (v vs : Value) (S T : Nat → Prop) (w : World) (hp : Funcs w S v p) (hs : StateV w T vs s) {e k : Int} {n m : Nat} (h : doS p s = (e, t)) (hn : t.fibers.length = n) (hm : t.out.length = m) (hk : t.now = k) :
  Calls Tryz.prog 10 #[v, vs] w fun r w' => (∃ a c b d, r = .returned (.tuple #[.agg #[.slice a n c, .int .i64 k, .slice b m d], .int .i64 e]) ∧ StateV w' (fun _ => True) (.agg #[.slice a n c, .int .i64 k, .slice b m d]) t) ∧ Ext w w' := by
 refine (stepDo_any p v S T s vs w hp hs).mono fun r w' ⟨⟨x, hr, hx⟩, hb⟩ => ⟨?_, hb⟩
 rw [h] at hr hx
 have hx2 := StateV.stays (T := fun _ => True) (Stays.widen (fun _ _ => trivial)) hx.state
 obtain ⟨a, c, b, d, rfl⟩ := hx.few
 subst hn hm hk
 exact ⟨a, c, b, d, hr, hx2⟩
theorem D4_read {w : World} {a b : Option Addr} {n m c d : Nat} {k : Int} (h : StateV w (fun _ => True) (.agg #[.slice a n c, .int .i64 k, .slice b m d]) D4) : ∃ g o, a = some ⟨g, o, none⟩ ∧ w.cell? ⟨g, o + 2 + 1, none⟩ = some (.int .i64 0) ∧ ∃ g2 o2 c2, w.cell? ⟨g, o + 2, none⟩ = some (.slice (some ⟨g2, o2, none⟩) 1 c2) ∧ ∃ a3 c3, w.cell? ⟨g2, o2 + 2, none⟩ = some (.slice a3 1 c3) ∧ Ints w (fun _ => True) (.slice a3 1 c3) [7] := by
 obtain ⟨x, y, e, hF, _, _⟩ := h
 simp only [Value.agg.injEq, Array.mk.injEq, List.cons.injEq, and_true] at e
 obtain ⟨rfl, -, -⟩ := e
 obtain ⟨g, o, cap, e, _, _, ⟨vf, h0, hf⟩, _, h1, _⟩ := hF.get (i := 1) (by show 1 < 2; omega)
 simp only [Value.slice.injEq] at e
 obtain ⟨rfl, -, -⟩ := e
 obtain ⟨g2, o2, c2, rfl, _, _, _, _, ⟨vl, h2, hl⟩, _⟩ := hf.get (i := 0) (by show 0 < 1; omega)
 have hl2 := hl
 obtain ⟨a3, c3, rfl, _, _, _⟩ := hl
 exact ⟨g, o, rfl, h1, g2, o2, c2, h0, a3, c3, h2, hl2⟩
theorem A7_read {w : World} {a b : Option Addr} {n m c d : Nat} {k : Int} (h : StateV w (fun _ => True) (.agg #[.slice a n c, .int .i64 k, .slice b m d]) A7) : ∃ g o, a = some ⟨g, o, none⟩ ∧ w.cell? ⟨g, o + 2 + 1, none⟩ = some (.int .i64 (-1)) ∧ ∃ g2 o2 c2, w.cell? ⟨g, o, none⟩ = some (.slice (some ⟨g2, o2, none⟩) 1 c2) ∧ ∃ a3 c3, w.cell? ⟨g2, o2 + 3, none⟩ = some (.slice a3 1 c3) ∧ Ints w (fun _ => True) (.slice a3 1 c3) [7] := by
 obtain ⟨x, y, e, hF, _, _⟩ := h
 simp only [Value.agg.injEq, Array.mk.injEq, List.cons.injEq, and_true] at e
 obtain ⟨rfl, -, -⟩ := e
 obtain ⟨g, o, cap, e, _, _, _, _, h1, _⟩ := hF.get (i := 1) (by show 1 < 2; omega)
 obtain ⟨g', o', cap', e', _, _, ⟨vf, h0, hf⟩, _⟩ := hF.get (i := 0) (by show 0 < 2; omega)
 simp only [Value.slice.injEq] at e e'
 obtain ⟨rfl, -, -⟩ := e
 obtain ⟨e', -, -⟩ := e'
 simp only [Option.some.injEq, Addr.mk.injEq, and_true] at e'
 obtain ⟨rfl, rfl⟩ := e'
 obtain ⟨g2, o2, c2, rfl, _, _, _, _, _, vl, h2, hl⟩ := hf.get (i := 0) (by show 0 < 1; omega)
 have hl2 := hl
 obtain ⟨a3, c3, rfl, _, _, _⟩ := hl
 exact ⟨g, o, rfl, h1, g2, o2, c2, h0, a3, c3, h2, hl2⟩
theorem ys_state (W : World) (N : Nat) (hN : W.heap.size = N) (t1 t2 t3 : TypeId) : StateV (((W.alloc (.cells #[.int .i64 1] t1)).alloc (.cells #[.int .i64 0, .int .i64 1, .slice none 0 0, .slice (some ⟨N, 0, none⟩) 1 1] t2)).alloc (.cells #[.slice (some ⟨N + 1, 0, none⟩) 1 1, .int .i64 (-1)] t3)) (fun _ => True) (.agg #[.slice (some ⟨N + 1 + 1, 0, none⟩) 1 1, .int .i64 0, .slice none 0 0]) YS := by
 subst hN
 have s1 : (W.alloc (.cells #[.int .i64 1] t1)).heap.size = W.heap.size + 1 := Array.size_push _
 have s2 : ((W.alloc (.cells #[.int .i64 1] t1)).alloc (.cells #[.int .i64 0, .int .i64 1, .slice none 0 0, .slice (some ⟨W.heap.size, 0, none⟩) 1 1] t2)).heap.size = W.heap.size + 1 + 1 := by rw [show ∀ (u : World) o, (u.alloc o).heap.size = u.heap.size + 1 from fun u o => Array.size_push _, s1]
 have X2 : Ext ((W.alloc (.cells #[.int .i64 1] t1)).alloc (.cells #[.int .i64 0, .int .i64 1, .slice none 0 0, .slice (some ⟨W.heap.size, 0, none⟩) 1 1] t2)) (((W.alloc (.cells #[.int .i64 1] t1)).alloc (.cells #[.int .i64 0, .int .i64 1, .slice none 0 0, .slice (some ⟨W.heap.size, 0, none⟩) 1 1] t2)).alloc (.cells #[.slice (some ⟨W.heap.size + 1, 0, none⟩) 1 1, .int .i64 (-1)] t3)) := (Ext.refl _).alloc _
 have X1 : Ext (W.alloc (.cells #[.int .i64 1] t1)) (((W.alloc (.cells #[.int .i64 1] t1)).alloc (.cells #[.int .i64 0, .int .i64 1, .slice none 0 0, .slice (some ⟨W.heap.size, 0, none⟩) 1 1] t2)).alloc (.cells #[.slice (some ⟨W.heap.size + 1, 0, none⟩) 1 1, .int .i64 (-1)] t3)) := ((Ext.refl _).alloc _).trans X2
 have c0 := ((Cx.new W [.int .i64 1] t1 (j := 0) rfl).ext X1).1
 have f0 := ((Cx.new (W.alloc (.cells #[.int .i64 1] t1)) [.int .i64 0, .int .i64 1, .slice none 0 0, .slice (some ⟨W.heap.size, 0, none⟩) 1 1] t2 (j := 0) rfl).ext X2).1
 have f1 := ((Cx.new (W.alloc (.cells #[.int .i64 1] t1)) [.int .i64 0, .int .i64 1, .slice none 0 0, .slice (some ⟨W.heap.size, 0, none⟩) 1 1] t2 (j := 1) rfl).ext X2).1
 have f2 := ((Cx.new (W.alloc (.cells #[.int .i64 1] t1)) [.int .i64 0, .int .i64 1, .slice none 0 0, .slice (some ⟨W.heap.size, 0, none⟩) 1 1] t2 (j := 2) rfl).ext X2).1
 have f3 := ((Cx.new (W.alloc (.cells #[.int .i64 1] t1)) [.int .i64 0, .int .i64 1, .slice none 0 0, .slice (some ⟨W.heap.size, 0, none⟩) 1 1] t2 (j := 3) rfl).ext X2).1
 have g0 := (Cx.new ((W.alloc (.cells #[.int .i64 1] t1)).alloc (.cells #[.int .i64 0, .int .i64 1, .slice none 0 0, .slice (some ⟨W.heap.size, 0, none⟩) 1 1] t2)) [.slice (some ⟨W.heap.size + 1, 0, none⟩) 1 1, .int .i64 (-1)] t3 (j := 0) rfl).1
 have g1 := (Cx.new ((W.alloc (.cells #[.int .i64 1] t1)).alloc (.cells #[.int .i64 0, .int .i64 1, .slice none 0 0, .slice (some ⟨W.heap.size, 0, none⟩) 1 1] t2)) [.slice (some ⟨W.heap.size + 1, 0, none⟩) 1 1, .int .i64 (-1)] t3 (j := 1) rfl).1
 rw [s1] at f0 f1 f2 f3
 rw [s2] at g0 g1
 have i64 : ∀ n : Int, -5 ≤ n → n ≤ 5 → I64 n := fun n a b => I64.small (by omega) (by omega)
 refine ⟨_, _, rfl, ⟨_, _, rfl, Nat.le_refl _, by simp [YS], fun i hi => ⟨_, 0, rfl, ?_⟩⟩, I64.zero, Sl.nil _ _ _⟩
 match i, hi with
 | 0, _ =>
  refine ⟨⟨_, g0, ⟨_, _, rfl, Nat.le_refl _, by simp [YS], fun i hi => ⟨_, 0, rfl, ?_⟩⟩⟩, trivial, g1, (i64 (-1) (by decide) (by decide) : I64 (-1))⟩
  match i, hi with
  | 0, _ =>
   refine ⟨⟨trivial, f0, I64.zero⟩, ⟨trivial, f1, (i64 1 (by decide) (by decide) : I64 1)⟩, ⟨_, f2, Sl.nil _ _ _⟩, _, f3, ⟨_, _, rfl, Nat.le_refl _, by simp [YS], fun i hi => ⟨_, 0, rfl, ?_⟩⟩⟩
   match i, hi with
   | 0, _ => exact ⟨trivial, c0, (i64 1 (by decide) (by decide) : I64 1)⟩
theorem same7_any (v : Value) (w : World) (t : TypeId) (hv : Ints w (fun _ => True) v [7]) : Calls Tryz.prog 28 #[v, .slice (some ⟨w.heap.size, 0, none⟩) 1 1] (w.alloc (.cells #[.int .i64 7] t)) fun e w' => e = .returned (.bool true) ∧ Ext w w' := by
 refine (sameInts_any [7] [7] _ _ (fun _ => True) (fun _ => True) _ (Ints.stays (Ext.stays ((Ext.refl _).alloc _)) hv) (ints_box _ [7] 1 rfl (by intro x hx; simp at hx; rcases hx with rfl; exact I64.small (by decide) (by decide)) (by decide) _ _ rfl)).mono ?_
 rintro e w12 ⟨rfl, hb12⟩
 rw [show decide (([7] : List Int) = [7]) = true by decide]
 exact ⟨rfl, ((Ext.refl _).alloc _).trans hb12⟩
theorem stepBegun_any (w : World) : Calls Tryz.prog 6 #[] w fun e w' => e = .returned (.bool true) ∧ Ext w w' := by
 go_enter Tryz.func6, Tryz.ntmps6
 go_upto_region 2 with (first
  | (go_at_call 25; have _z := hfA.out; refine (count_any _).mono ?_; rintro e w2 ⟨⟨v2, rfl, hv2⟩, hb2⟩; have hfB := hv2.funcs)
  | (go_at_call 25; refine (count_any _).mono ?_; rintro e w1 ⟨⟨v1, rfl, hv1⟩, hb1⟩; have hfA := Lib.hid hv1.funcs)
  | (go_at_call 26; (with_reducible refine (after_4 _ _ _ hfB).mono ?_); rintro e w3 ⟨⟨x, rfl, hx⟩, hb3⟩; have hxs := hx.state)
  | (go_at_call 10; (with_reducible refine (do_val countP A4 D4 _ _ _ _ _ (Funcs.stays (Ext.stays (hb2.trans hb3)) hfA.out) hxs do4 (n := 2) (m := 0) (k := 1) rfl rfl rfl).mono ?_); rintro e w4 ⟨⟨aA, cA, bA, dA, rfl, hA⟩, hb4⟩))
 have e1 : Ext w (w4.alloc (.cells #[.slice aA 2 cA, .int .i64 1, .slice bA 0 dA] 26)) := (((hb1.trans hb2).trans hb3).trans hb4).alloc _
 have XA := Lib.hid (⟨Cx.new w4 [.slice aA 2 cA, .int .i64 1, .slice bA 0 dA] 26 (j := 0) rfl, Cx.new w4 [.slice aA 2 cA, .int .i64 1, .slice bA 0 dA] 26 (j := 1) rfl⟩ : _ ∧ _)
 have HA := Lib.hid (StateV.stays (Ext.stays ((Ext.refl w4).alloc (.cells #[.slice aA 2 cA, .int .i64 1, .slice bA 0 dA] 26))) hA)
 generalize w4.heap.size = bx1 at *
 generalize w4.alloc (.cells #[.slice aA 2 cA, .int .i64 1, .slice bA 0 dA] 26) = u0 at *
 have E := Lib.hid e1
 clear hfA hfB hv1 hv2 hb1 hb2 hb3 hb4 hx hxs hA e1
 rename World => u0
 go_upto_region 3 with (first
  | (go_at_call 25; have _z := hfA.out; refine (count_any _).mono ?_; rintro e w2 ⟨⟨v2, rfl, hv2⟩, hb2⟩; have hfB := hv2.funcs)
  | (go_at_call 25; refine (count_any _).mono ?_; rintro e w1 ⟨⟨v1, rfl, hv1⟩, hb1⟩; have hfA := Lib.hid hv1.funcs)
  | (go_at_call 26; (with_reducible refine (after_6 _ _ _ hfB).mono ?_); rintro e w3 ⟨⟨x, rfl, hx⟩, hb3⟩; have hxs := hx.state)
  | (go_at_call 10; (with_reducible refine (do_val countP A6 A7 _ _ _ _ _ (Funcs.stays (Ext.stays (hb2.trans hb3)) hfA.out) hxs do6 (n := 2) (m := 0) (k := 0) rfl rfl rfl).mono ?_); rintro e w4 ⟨⟨aB, cB, bB, dB, rfl, hB⟩, hb4⟩))
 have e1 : Ext u0 (w4.alloc (.cells #[.slice aB 2 cB, .int .i64 0, .slice bB 0 dB] 26)) := (((hb1.trans hb2).trans hb3).trans hb4).alloc _
 have XB := Lib.hid (⟨Cx.new w4 [.slice aB 2 cB, .int .i64 0, .slice bB 0 dB] 26 (j := 0) rfl, Cx.new w4 [.slice aB 2 cB, .int .i64 0, .slice bB 0 dB] 26 (j := 1) rfl⟩ : _ ∧ _)
 have HB := Lib.hid (StateV.stays (Ext.stays ((Ext.refl w4).alloc (.cells #[.slice aB 2 cB, .int .i64 0, .slice bB 0 dB] 26))) hB)
 generalize w4.heap.size = bx2 at *
 generalize w4.alloc (.cells #[.slice aB 2 cB, .int .i64 0, .slice bB 0 dB] 26) = u1 at *
 have E := Lib.hid (E.out.trans e1)
 have XA := Lib.hid (⟨XA.out.1.ext e1, XA.out.2.ext e1⟩ : _ ∧ _)
 have HA := Lib.hid (StateV.stays (Ext.stays e1) HA.out)
 clear hfA hfB hv1 hv2 hb1 hb2 hb3 hb4 hx hxs hB e1
 rename World => u1
 go_upto_region 4 with (first
  | (go_at_call 25; have _z := hfA.out; refine (count_any _).mono ?_; rintro e w2 ⟨⟨v2, rfl, hv2⟩, hb2⟩; have hfB := hv2.funcs)
  | (go_at_call 25; refine (count_any _).mono ?_; rintro e w1 ⟨⟨v1, rfl, hv1⟩, hb1⟩; have hfA := Lib.hid hv1.funcs)
  | (go_at_call 26; (with_reducible refine (after_done _ _ _ hfB).mono ?_); rintro e w3 ⟨⟨x, rfl, hx⟩, hb3⟩; have hxs := hx.state)
  | (go_at_call 10; (with_reducible refine (do_val countP ADone _ _ _ _ _ _ (Funcs.stays (Ext.stays (hb2.trans hb3)) hfA.out) hxs doDone (n := 0) (m := 0) (k := 0) rfl rfl rfl).mono ?_); rintro e w4 ⟨⟨aC, cC, bC, dC, rfl, hC⟩, hb4⟩))
 have e1 : Ext u1 (w4.alloc (.cells #[.slice aC 0 cC, .int .i64 0, .slice bC 0 dC] 26)) := (((hb1.trans hb2).trans hb3).trans hb4).alloc _
 generalize w4.heap.size = bx3 at *
 generalize w4.alloc (.cells #[.slice aC 0 cC, .int .i64 0, .slice bC 0 dC] 26) = u2 at *
 have E := Lib.hid (E.out.trans e1)
 have XA := Lib.hid (⟨XA.out.1.ext e1, XA.out.2.ext e1⟩ : _ ∧ _)
 have HA := Lib.hid (StateV.stays (Ext.stays e1) HA.out)
 have XB := Lib.hid (⟨XB.out.1.ext e1, XB.out.2.ext e1⟩ : _ ∧ _)
 have HB := Lib.hid (StateV.stays (Ext.stays e1) HB.out)
 clear hfA hfB hv1 hv2 hb1 hb2 hb3 hb4 hx hxs hC e1
 rename World => u2
 go_upto_region 5 with (first
  | (go_at_call 27; refine (o_any _ _ _).mono ?_; rintro e w10 ⟨rfl, hb⟩)
  | (go_at_call 10; (with_reducible refine (do_val [⟨0, 0, yl3⟩] YS _ _ _ (fun _ => True) (fun _ => True) _ (Funcs.stays (Ext.stays (by ((repeat (first | assumption | exact Ext.refl _ | (exact And.left (by assumption)) | refine Ext.alloc ?_ _ | refine Ext.drew ?_ | refine Ext.drewN ?_ _ | refine Ext.setCell ?_ (by simp) _ | refine Ext.setCell ?_ (by simp; omega) _ | refine Ext.trans ?_ (by assumption))); done))) (prog_ops _ yl3 3 rfl #[.int .i64 0, .int .i64 1, .int .i64 15, .int .i64 0, .int .i64 12, .int .i64 0] rfl (small_ops (by decide)) (by decide) _ _)) (ys_state _ _ (by simp) _ _ _) doY (n := 0) (m := 0) (k := 0) rfl rfl rfl).mono ?_); rintro e w11 ⟨⟨aD, cD, bD, dD, rfl, hD⟩, hb4⟩))
 have e1 : Ext u2 (w11.alloc (.cells #[.slice aD 0 cD, .int .i64 0, .slice bD 0 dD] 26)) := by ((repeat (first | assumption | exact Ext.refl _ | (exact And.left (by assumption)) | refine Ext.alloc ?_ _ | refine Ext.drew ?_ | refine Ext.drewN ?_ _ | refine Ext.setCell ?_ (by simp) _ | refine Ext.setCell ?_ (by simp; omega) _ | refine Ext.trans ?_ (by assumption))); done)
 generalize w11.heap.size = bx4 at *
 generalize w11.alloc (.cells #[.slice aD 0 cD, .int .i64 0, .slice bD 0 dD] 26) = u3 at *
 have E := Lib.hid (E.out.trans e1)
 obtain ⟨⟨xa0, -⟩, xa1, -⟩ := (⟨XA.out.1.ext e1, XA.out.2.ext e1⟩ : _ ∧ _)
 obtain ⟨⟨xb0, -⟩, xb1, -⟩ := (⟨XB.out.1.ext e1, XB.out.2.ext e1⟩ : _ ∧ _)
 obtain ⟨ga, oa, rfl, ha1, ga2, oa2, ca2, ha2, aa3, ca3, ha3, hai⟩ := D4_read (StateV.stays (Ext.stays e1) HA.out)
 obtain ⟨gb, ob, rfl, hb1, gb2, ob2, cb2, hb2, ab3, cb3, hb3, hbi⟩ := A7_read (StateV.stays (Ext.stays e1) HB.out)
 have HAI := Lib.hid hai
 have HBI := Lib.hid hbi
 clear hD hb4 e1 hai hbi XA XB HA HB
 rename World => u3
 dsimp only [List.append]
 have RA := alloc_keep
 go_wp2_with (first
  | (go_at_call 28; have _z := HAI.out; (with_reducible refine (same7_any _ _ _ HAI.out).mono ?_); rintro e w12 ⟨rfl, hb12⟩; have hc := Ext.keep hb12; have HB2 := Lib.hid (Ints.stays (Ext.stays hb12) HBI.out); have E := Lib.hid (E.out.trans hb12); clear HAI HBI _z hb12)
  | (go_at_call 28; (with_reducible refine (same7_any _ _ _ HB2.out).mono ?_); rintro e w13 ⟨rfl, hb13⟩))
 go_ret
 exact ⟨rfl, E.out.trans hb13⟩
end Go.Proofs.YtgahbngbpfilgaaGreat
end
section
set_option maxHeartbeats 1000000
namespace Go.Proofs.YtgahbngbpfilgaaGreat
open Go Go.RowKit
abbrev Kd := Nat → Nat → Nat → Prop
structure KFun (K : Kd) (B H bl : Nat) : Prop where
 one : ∀ g k o k' o', K g k o → K g k' o' → k = k' ∧ o = o'
 bd : ∀ g k o, K g k o → B ≤ g ∧ g < H ∧ g ≠ bl
def GI (K : Kd) (w : World) (v : Value) : Prop := ∃ a n c, v = .slice a n c ∧ n ≤ 1000 ∧ ∀ i, i < n → ∃ g o, a = some ⟨g, o, none⟩ ∧ K g 1 o ∧ ∃ u, Cx w g (o + i) u
def FrOk (K : Kd) (w : World) (g o j : Nat) : Prop := ∃ x y vl vs, Cx w g (o + j * 4) (.int .i64 x) ∧ Cx w g (o + j * 4 + 1) (.int .i64 y) ∧ Cx w g (o + j * 4 + 2) vl ∧ Cx w g (o + j * 4 + 3) vs ∧ GI K w vl ∧ GI K w vs
def GX (K : Kd) (w : World) (v : Value) : Prop := ∃ a n c, v = .slice a n c ∧ n ≤ 1000 ∧ ∀ j, j < n → ∃ g o, a = some ⟨g, o, none⟩ ∧ K g 2 o ∧ FrOk K w g o j
def FbOk (K : Kd) (w : World) (g o k : Nat) : Prop := ∃ vf x, Cx w g (o + k * 2) vf ∧ Cx w g (o + k * 2 + 1) (.int .i64 x) ∧ GX K w vf
def GB (K : Kd) (w : World) (v : Value) : Prop := ∃ a n c, v = .slice a n c ∧ n ≤ 1000 ∧ ∀ k, k < n → ∃ g o, a = some ⟨g, o, none⟩ ∧ K g 3 o ∧ FbOk K w g o k
structure Pres (K : Kd) (w w' : World) : Prop where
 ints : ∀ g o i u, K g 1 o → Cx w g (o + i) u → ∃ u', Cx w' g (o + i) u'
 fr : ∀ g o j, K g 2 o → FrOk K w g o j → (∀ v, GI K w v → GI K w' v) → FrOk K w' g o j
 fb : ∀ g o k, K g 3 o → FbOk K w g o k → (∀ v, GX K w v → GX K w' v) → FbOk K w' g o k
theorem GI.pres {K : Kd} {w w' : World} (h : Pres K w w') {v : Value} (hv : GI K w v) : GI K w' v := by
 obtain ⟨a, n, c, rfl, hn, hi⟩ := hv
 refine ⟨a, n, c, rfl, hn, fun i h0 => ?_⟩
 obtain ⟨g, o, rfl, hk, u, hu⟩ := hi i h0
 exact ⟨g, o, rfl, hk, h.ints g o i u hk hu⟩
theorem GX.pres {K : Kd} {w w' : World} (h : Pres K w w') {v : Value} (hv : GX K w v) : GX K w' v := by
 obtain ⟨a, n, c, rfl, hn, hi⟩ := hv
 refine ⟨a, n, c, rfl, hn, fun i h0 => ?_⟩
 obtain ⟨g, o, rfl, hk, hu⟩ := hi i h0
 exact ⟨g, o, rfl, hk, h.fr g o i hk hu fun v hv => hv.pres h⟩
theorem GB.pres {K : Kd} {w w' : World} (h : Pres K w w') {v : Value} (hv : GB K w v) : GB K w' v := by
 obtain ⟨a, n, c, rfl, hn, hi⟩ := hv
 refine ⟨a, n, c, rfl, hn, fun i h0 => ?_⟩
 obtain ⟨g, o, rfl, hk, hu⟩ := hi i h0
 exact ⟨g, o, rfl, hk, h.fb g o i hk hu fun v hv => hv.pres h⟩
theorem Pres.ext {K : Kd} {w w' : World} (he : Ext w w') : Pres K w w' := by
 refine ⟨fun g o i u _ h => ⟨u, h.ext he⟩, fun g o j _ ⟨x, y, vl, vs, h0, h1, h2, h3, h4, h5⟩ hv => ⟨x, y, vl, vs, h0.ext he, h1.ext he, h2.ext he, h3.ext he, hv _ h4, hv _ h5⟩,
  fun g o k _ ⟨vf, x, h0, h1, h2⟩ hv => ⟨vf, x, h0.ext he, h1.ext he, hv _ h2⟩⟩
theorem FrOk.other {K : Kd} {w w' : World} {g0 g o j : Nat} (hc : Chg (· = g0) w w') (hg : g ≠ g0) (h : FrOk K w g o j) (hv : ∀ v, GI K w v → GI K w' v) : FrOk K w' g o j := by
 obtain ⟨x, y, vl, vs, h0, h1, h2, h3, h4, h5⟩ := h
 exact ⟨x, y, vl, vs, h0.chg hc hg, h1.chg hc hg, h2.chg hc hg, h3.chg hc hg, hv _ h4, hv _ h5⟩
theorem FbOk.other {K : Kd} {w w' : World} {g0 g o j : Nat} (hc : Chg (· = g0) w w') (hg : g ≠ g0) (h : FbOk K w g o j) (hv : ∀ v, GX K w v → GX K w' v) : FbOk K w' g o j := by
 obtain ⟨vf, x, h0, h1, h2⟩ := h
 exact ⟨vf, x, h0.chg hc hg, h1.chg hc hg, hv _ h2⟩
theorem Cx.any {w : World} {b j b' j' : Nat} {v u : Value} (h : Cx w b j v) : ∃ v', Cx (w.setCell ⟨b', j', none⟩ u) b j v' := by
 by_cases e : b = b' ∧ j = j'
 ·obtain ⟨rfl, rfl⟩ := e; exact ⟨u, h.set u⟩
 ·exact ⟨v, h.other (by omega) u⟩
theorem Pres.int {K : Kd} {B H bl : Nat} (hK : KFun K B H bl) {w : World} {g0 o0 : Nat} (hk : K g0 1 o0) (q : Nat) (u : Value) : Pres K w (w.setCell ⟨g0, q, none⟩ u) := by
 have hc := chg_one w g0 q u
 have ne : ∀ g k o, K g k o → k ≠ 1 → g ≠ g0 := fun g k o h hk1 e => hk1 (by subst e; exact (hK.one _ _ _ _ _ h hk).1)
 exact ⟨fun g o i v _ h => h.any, fun g o j h hf hv => hf.other hc (ne _ _ _ h (by decide)) hv, fun g o j h hf hv => hf.other hc (ne _ _ _ h (by decide)) hv⟩
theorem GI.nil (K : Kd) (w : World) : GI K w (.slice none 0 0) := ⟨none, 0, 0, rfl, by decide, fun i hi => by omega⟩
theorem GX.nil (K : Kd) (w : World) : GX K w (.slice none 0 0) := ⟨none, 0, 0, rfl, by decide, fun i hi => by omega⟩
theorem chgs4 (W : World) (g p : Nat) (x y z u : Value) : Chg (· = g) W ((((W.setCell ⟨g, p, none⟩ x).setCell ⟨g, p + 1, none⟩ y).setCell ⟨g, p + 2, none⟩ z).setCell ⟨g, p + 3, none⟩ u) :=
 (((chg_one _ _ _ _).trans (chg_one _ _ _ _)).trans (chg_one _ _ _ _)).trans (chg_one _ _ _ _)
theorem chgs2 (W : World) (g p : Nat) (x y : Value) : Chg (· = g) W ((W.setCell ⟨g, p, none⟩ x).setCell ⟨g, p + 1, none⟩ y) := (chg_one _ _ _ _).trans (chg_one _ _ _ _)
theorem Pres.frame {K : Kd} {B H bl : Nat} (hK : KFun K B H bl) {w : World} {g0 o0 : Nat} (hk : K g0 2 o0) (j0 : Nat) (x y : Int) :
  Pres K w ((((w.setCell ⟨g0, o0 + j0 * 4, none⟩ (.int .i64 x)).setCell ⟨g0, o0 + j0 * 4 + 1, none⟩ (.int .i64 y)).setCell ⟨g0, o0 + j0 * 4 + 2, none⟩ (.slice none 0 0)).setCell ⟨g0, o0 + j0 * 4 + 3, none⟩ (.slice none 0 0)) := by
 have hc := chgs4 w g0 (o0 + j0 * 4) (.int .i64 x) (.int .i64 y) (.slice none 0 0) (.slice none 0 0)
 have ne : ∀ g k o, K g k o → k ≠ 2 → g ≠ g0 := fun g k o h hk1 e => hk1 (by subst e; exact (hK.one _ _ _ _ _ h hk).1)
 refine ⟨fun g o i v h hv => ⟨v, hv.chg hc (ne _ _ _ h (by decide))⟩, fun g o j h hf hv => ?_, fun g o j h hf hv => hf.other hc (ne _ _ _ h (by decide)) hv⟩
 by_cases e : g = g0
 ·subst e
  obtain ⟨_, rfl⟩ := hK.one _ _ _ _ _ h hk
  obtain ⟨x', y', vl, vs, h0, h1, h2, h3, h4, h5⟩ := hf
  by_cases ej : j = j0
  ·subst ej
   exact ⟨x, y, _, _, (((h0.set _).other (.inr (by omega)) _).other (.inr (by omega)) _).other (.inr (by omega)) _, (((h1.other (.inr (by omega)) _).set _).other (.inr (by omega)) _).other (.inr (by omega)) _,
    (((h2.other (.inr (by omega)) _).other (.inr (by omega)) _).set _).other (.inr (by omega)) _, (((h3.other (.inr (by omega)) _).other (.inr (by omega)) _).other (.inr (by omega)) _).set _, GI.nil _ _, GI.nil _ _⟩
  ·have far : ∀ r r', r < 4 → r' < 4 → o + j * 4 + r ≠ o + j0 * 4 + r' := fun r r' h1 h2 => by omega
   have keep : ∀ r u, r < 4 → Cx w g (o + j * 4 + r) u → Cx ((((w.setCell ⟨g, o + j0 * 4, none⟩ (.int .i64 x)).setCell ⟨g, o + j0 * 4 + 1, none⟩ (.int .i64 y)).setCell ⟨g, o + j0 * 4 + 2, none⟩ (.slice none 0 0)).setCell ⟨g, o + j0 * 4 + 3, none⟩ (.slice none 0 0)) g (o + j * 4 + r) u := fun r u hr h =>
    (((h.other (.inr (far r 0 hr (by decide))) _).other (.inr (far r 1 hr (by decide))) _).other (.inr (far r 2 hr (by decide))) _).other (.inr (far r 3 hr (by decide))) _
   exact ⟨x', y', vl, vs, keep 0 _ (by decide) h0, keep 1 _ (by decide) h1, keep 2 _ (by decide) h2, keep 3 _ (by decide) h3, hv _ h4, hv _ h5⟩
 ·exact hf.other hc e hv
theorem Pres.fiber {K : Kd} {B H bl : Nat} (hK : KFun K B H bl) {w : World} {g0 o0 : Nat} (hk : K g0 3 o0) (j0 : Nat) (y : Int) :
  Pres K w ((w.setCell ⟨g0, o0 + j0 * 2, none⟩ (.slice none 0 0)).setCell ⟨g0, o0 + j0 * 2 + 1, none⟩ (.int .i64 y)) := by
 have hc := chgs2 w g0 (o0 + j0 * 2) (.slice none 0 0) (.int .i64 y)
 have ne : ∀ g k o, K g k o → k ≠ 3 → g ≠ g0 := fun g k o h hk1 e => hk1 (by subst e; exact (hK.one _ _ _ _ _ h hk).1)
 refine ⟨fun g o i v h hv => ⟨v, hv.chg hc (ne _ _ _ h (by decide))⟩, fun g o j h hf hv => hf.other hc (ne _ _ _ h (by decide)) hv, fun g o j h hf hv => ?_⟩
 by_cases e : g = g0
 ·subst e
  obtain ⟨_, rfl⟩ := hK.one _ _ _ _ _ h hk
  obtain ⟨vf, x', h0, h1, h2⟩ := hf
  by_cases ej : j = j0
  ·subst ej
   exact ⟨_, y, (h0.set _).other (.inr (by omega)) _, (h1.other (.inr (by omega)) _).set _, GX.nil _ _⟩
  ·exact ⟨vf, x', (h0.other (.inr (by omega)) _).other (.inr (by omega)) _, (h1.other (.inr (by omega)) _).other (.inr (by omega)) _, hv _ h2⟩
 ·exact hf.other hc e hv
structure RestI (K : Kd) (W : World) (bl H : Nat) (w : World) : Prop where
 kf : KFun K W.heap.size H bl
 ext : Ext W w
 size : H ≤ w.heap.size
 lbl : bl < H
 good : ∀ i, i < 3 → ∃ vf x vo, w.cell? ⟨bl, i * 3, none⟩ = some vf ∧ w.cell? ⟨bl, i * 3 + 1, none⟩ = some (.int .i64 x) ∧ w.cell? ⟨bl, i * 3 + 2, none⟩ = some vo ∧ GB K w vf ∧ GI K w vo
theorem RestI.chg {K : Kd} {W w w' : World} {bl H g : Nat} (h : RestI K W bl H w) (hc : Chg (· = g) w w') (hg : W.heap.size ≤ g ∧ g ≠ bl) (hp : Pres K w w') : RestI K W bl H w' :=
 ⟨h.kf, Chg.ext_from h.ext hc (fun n e => by subst e; exact hg.1), Nat.le_trans h.size hc.size, h.lbl, fun i hi => by
  obtain ⟨vf, x, vo, h0, h1, h2, h3, h4⟩ := h.good i hi
  exact ⟨vf, x, vo, hc.cell (fun e => hg.2 e.symm) h0, hc.cell (fun e => hg.2 e.symm) h1, hc.cell (fun e => hg.2 e.symm) h2, h3.pres hp, h4.pres hp⟩⟩
theorem RestI.more {K : Kd} {W w w' : World} {bl H : Nat} (h : RestI K W bl H w) (he : Ext w w') : RestI K W bl H w' :=
 ⟨h.kf, h.ext.trans he, Nat.le_trans h.size he.size, h.lbl, fun i hi => by
  obtain ⟨vf, x, vo, h0, h1, h2, h3, h4⟩ := h.good i hi
  exact ⟨vf, x, vo, Ext.cell he h0, Ext.cell he h1, Ext.cell he h2, h3.pres (Pres.ext he), h4.pres (Pres.ext he)⟩⟩
theorem RestI.int {K : Kd} {W w : World} {bl H g o : Nat} (h : RestI K W bl H w) (hk : K g 1 o) (q : Nat) (u : Value) : RestI K W bl H (w.setCell ⟨g, q, none⟩ u) :=
 h.chg (chg_one _ _ _ _) ⟨(h.kf.bd _ _ _ hk).1, (h.kf.bd _ _ _ hk).2.2⟩ (Pres.int h.kf hk q u)
theorem RestI.frame {K : Kd} {W w : World} {bl H g o : Nat} (h : RestI K W bl H w) (hk : K g 2 o) (j : Nat) (x y : Int) : RestI K W bl H ((((w.setCell ⟨g, o + j * 4, none⟩ (.int .i64 x)).setCell ⟨g, o + j * 4 + 1, none⟩ (.int .i64 y)).setCell ⟨g, o + j * 4 + 2, none⟩ (.slice none 0 0)).setCell ⟨g, o + j * 4 + 3, none⟩ (.slice none 0 0)) :=
 h.chg (chgs4 _ _ _ _ _ _ _) ⟨(h.kf.bd _ _ _ hk).1, (h.kf.bd _ _ _ hk).2.2⟩ (Pres.frame h.kf hk j x y)
theorem RestI.fiber {K : Kd} {W w : World} {bl H g o : Nat} (h : RestI K W bl H w) (hk : K g 3 o) (j : Nat) (y : Int) : RestI K W bl H ((w.setCell ⟨g, o + j * 2, none⟩ (.slice none 0 0)).setCell ⟨g, o + j * 2 + 1, none⟩ (.int .i64 y)) :=
 h.chg (chgs2 _ _ _ _ _) ⟨(h.kf.bd _ _ _ hk).1, (h.kf.bd _ _ _ hk).2.2⟩ (Pres.fiber h.kf hk j y)
theorem RestI.at {K : Kd} {W w : World} {bl H : Nat} (h : RestI K W bl H w) {i : Nat} (hi : i < 3) : ∃ fa fn fc oa on oc, w.cell? ⟨bl, i * 3, none⟩ = some (.slice fa fn fc) ∧ w.cell? ⟨bl, i * 3 + 2, none⟩ = some (.slice oa on oc) ∧ GB K w (.slice fa fn fc) ∧ GI K w (.slice oa on oc) ∧ fn ≤ 1000 ∧ on ≤ 1000 := by
 obtain ⟨vf, x, vo, h0, _, h2, h3, h4⟩ := h.good i hi
 have k3 := h3
 have k4 := h4
 obtain ⟨fa, fn, fc, rfl, hf, _⟩ := h3
 obtain ⟨oa, on, oc, rfl, ho, _⟩ := h4
 exact ⟨fa, fn, fc, oa, on, oc, h0, h2, k3, k4, hf, ho⟩
theorem GI.at {K : Kd} {w : World} {a : Option Addr} {n c i : Nat} (h : GI K w (.slice a n c)) (hi : i < n) : ∃ g o u, a = some ⟨g, o, none⟩ ∧ K g 1 o ∧ Cx w g (o + i) u := by
 obtain ⟨a', n', c', e, _, h⟩ := h
 simp only [Value.slice.injEq] at e
 obtain ⟨rfl, rfl, rfl⟩ := e
 obtain ⟨g, o, e, hk, u, hu⟩ := h i hi
 exact ⟨g, o, u, e, hk, hu⟩
theorem GI.le {K : Kd} {w : World} {a : Option Addr} {n c : Nat} (h : GI K w (.slice a n c)) : n ≤ 1000 := by
 obtain ⟨a', n', c', e, hn, _⟩ := h
 simp only [Value.slice.injEq] at e
 omega
theorem GX.at {K : Kd} {w : World} {a : Option Addr} {n c j : Nat} (h : GX K w (.slice a n c)) (hj : j < n) : ∃ g o x y la ln lc sa sn sc, a = some ⟨g, o, none⟩ ∧ K g 2 o ∧ Cx w g (o + j * 4) (.int .i64 x) ∧ Cx w g (o + j * 4 + 1) (.int .i64 y) ∧ Cx w g (o + j * 4 + 2) (.slice la ln lc) ∧ Cx w g (o + j * 4 + 3) (.slice sa sn sc) ∧ GI K w (.slice la ln lc) ∧ GI K w (.slice sa sn sc) := by
 obtain ⟨a', n', c', e, _, h⟩ := h
 simp only [Value.slice.injEq] at e
 obtain ⟨rfl, rfl, rfl⟩ := e
 obtain ⟨g, o, e, hk, x, y, vl, vs, h0, h1, h2, h3, h4, h5⟩ := h j hj
 have k4 := h4
 have k5 := h5
 obtain ⟨la, ln, lc, rfl, _⟩ := h4
 obtain ⟨sa, sn, sc, rfl, _⟩ := h5
 exact ⟨g, o, x, y, la, ln, lc, sa, sn, sc, e, hk, h0, h1, h2, h3, k4, k5⟩
theorem GX.le {K : Kd} {w : World} {a : Option Addr} {n c : Nat} (h : GX K w (.slice a n c)) : n ≤ 1000 := by
 obtain ⟨a', n', c', e, hn, _⟩ := h
 simp only [Value.slice.injEq] at e
 omega
theorem GB.at {K : Kd} {w : World} {a : Option Addr} {n c k : Nat} (h : GB K w (.slice a n c)) (hk : k < n) : ∃ g o xa xn xc y, a = some ⟨g, o, none⟩ ∧ K g 3 o ∧ Cx w g (o + k * 2) (.slice xa xn xc) ∧ Cx w g (o + k * 2 + 1) (.int .i64 y) ∧ GX K w (.slice xa xn xc) := by
 obtain ⟨a', n', c', e, _, h⟩ := h
 simp only [Value.slice.injEq] at e
 obtain ⟨rfl, rfl, rfl⟩ := e
 obtain ⟨g, o, e, hk, vf, y, h0, h1, h2⟩ := h k hk
 have k2 := h2
 obtain ⟨xa, xn, xc, rfl, _⟩ := h2
 exact ⟨g, o, xa, xn, xc, y, e, hk, h0, h1, k2⟩
def kOf (k : Nat) : Value → List (Nat × Nat × Nat)
 | .slice (some ⟨g, o, _⟩) _ cap => if cap = 0 then [] else [(g, k, o)]
 | _ => []
theorem kOf_fst (k : Nat) (v : Value) : (kOf k v).map Prod.fst = (rowBlock v).toList := by
 unfold kOf rowBlock
 split
 ·rename_i g o s n cap
  by_cases hc : cap = 0
  ·simp [hc]
  ·simp [hc]
 ·rename_i h
  split
  ·rename_i ad n cap
   exact absurd rfl (h ad.block ad.off ad.spot n cap)
  ·rfl
def PFrame.ks (x : PFrame) : List (Nat × Nat × Nat) := kOf 1 x.vl ++ kOf 1 x.vs
def PFiber.ks (y : PFiber) : List (Nat × Nat × Nat) := kOf 2 y.vf ++ y.fr.flatMap PFrame.ks
def PState.ks (P : PState) : List (Nat × Nat × Nat) := kOf 3 P.vfs ++ kOf 1 P.vo ++ P.fs.flatMap PFiber.ks
theorem PFrame.ks_fst (x : PFrame) : x.ks.map Prod.fst = x.bl := by unfold PFrame.ks PFrame.bl; simp [kOf_fst]
theorem PFiber.ks_fst (y : PFiber) : y.ks.map Prod.fst = y.bl := by
 unfold PFiber.ks PFiber.bl
 simp only [List.map_append, kOf_fst, List.map_flatMap, PFrame.ks_fst]
theorem PState.ks_fst (P : PState) : P.ks.map Prod.fst = P.bl := by
 unfold PState.ks PState.bl
 simp only [List.map_append, kOf_fst, List.map_flatMap, PFiber.ks_fst]
theorem kOf_some {g o n cap k : Nat} (h : cap ≠ 0) : kOf k (.slice (some ⟨g, o, none⟩) n cap) = [(g, k, o)] := by simp [kOf, h]
theorem GI.of_row {K : Kd} {w : World} {B : Nat} {v : Value} {n : Nat} {xs : List Value} (h : RowAt w B 1 v n xs) (hn : n ≤ 1000) (hK : ∀ g o, (g, 1, o) ∈ kOf 1 v → K g 1 o) : GI K w v := by
 obtain ⟨hl, a, cap, rfl, h1, h2, h3⟩ := h
 refine ⟨a, n, cap, rfl, hn, fun i hi => ?_⟩
 obtain ⟨g, o, rfl, hb, hc, ht⟩ := h3.resolve_left (by omega)
 obtain ⟨u, hu⟩ := Option.isSome_iff_exists.1 (ht i (by omega)).1
 exact ⟨g, o, rfl, hK g o (by rw [kOf_some (by omega)]; simp), u, hu, (ht i (by omega)).2⟩
theorem GX.of_fiber {K : Kd} {w : World} {B : Nat} {y : PFiber} (h : FiberO w B y) (hK : ∀ g k o, (g, k, o) ∈ y.ks → K g k o) : GX K w y.vf := by
 obtain ⟨a, cap, e, h1, h2⟩ := h.row.shape
 refine ⟨a, y.fr.length, cap, e, h.few, fun j hj => ?_⟩
 obtain ⟨L, x, R, hs, hLl⟩ : ∃ L x R, y.fr = L ++ x :: R ∧ L.length = j := ⟨y.fr.take j, y.fr[j], y.fr.drop (j + 1), by rw [List.getElem_cons_drop, List.take_append_drop], by rw [List.length_take]; omega⟩
 have hrow := h.row
 rw [hs] at hrow
 obtain ⟨g, o, cap', e', hb, hc, hm, hx⟩ := RowAt.place frameF (fun _ => rfl) hrow
 rw [e] at e'
 simp only [Value.slice.injEq] at e'
 obtain ⟨rfl, hn', rfl⟩ := e'
 rw [hLl] at hx
 have hxm : x ∈ y.fr := by rw [hs]; simp
 have hxO := h.fr x hxm
 have hin : ∀ z ∈ x.ks, z ∈ y.ks := fun z hz => by unfold PFiber.ks; exact List.mem_append.2 (.inr (List.mem_flatMap.2 ⟨x, hxm, hz⟩))
 refine ⟨g, o, rfl, hK _ _ _ ?_, _, _, _, _, hx 0 _ (by decide) rfl, hx 1 _ (by decide) rfl, hx 2 _ (by decide) rfl, hx 3 _ (by decide) rfl, GI.of_row hxO.l hxO.few.1 fun g o h => hK _ _ _ (hin _ ?_), GI.of_row hxO.s hxO.few.2 fun g o h => hK _ _ _ (hin _ ?_)⟩
 ·unfold PFiber.ks
  rw [e, kOf_some (by omega)]
  simp
 ·unfold PFrame.ks; simp [h]
 ·unfold PFrame.ks; simp [h]
theorem GB.of_own {K : Kd} {w : World} {B : Nat} {P : PState} (h : OwnR w B P) (hK : ∀ g k o, (g, k, o) ∈ P.ks → K g k o) : GB K w P.vfs ∧ GI K w P.vo := by
 refine ⟨?_, GI.of_row h.out h.few.2 fun g o hm => hK _ _ _ (by unfold PState.ks; simp [hm])⟩
 obtain ⟨a, cap, e, h1, h2⟩ := h.row.shape
 refine ⟨a, P.fs.length, cap, e, h.few.1, fun j hj => ?_⟩
 obtain ⟨L, y, R, hs, hLl⟩ : ∃ L y R, P.fs = L ++ y :: R ∧ L.length = j := ⟨P.fs.take j, P.fs[j], P.fs.drop (j + 1), by rw [List.getElem_cons_drop, List.take_append_drop], by rw [List.length_take]; omega⟩
 have hrow := h.row
 rw [hs] at hrow
 obtain ⟨g, o, cap', e', hb, hc, hm, hx⟩ := RowAt.place fiberF (fun _ => rfl) hrow
 rw [e] at e'
 simp only [Value.slice.injEq] at e'
 obtain ⟨rfl, hn', rfl⟩ := e'
 rw [hLl] at hx
 have hym : y ∈ P.fs := by rw [hs]; simp
 refine ⟨g, o, rfl, hK _ _ _ ?_, _, _, hx 0 _ (by decide) rfl, hx 1 _ (by decide) rfl, GX.of_fiber (h.fs y hym) fun g k o h => hK _ _ _ ?_⟩
 ·unfold PState.ks
  rw [e, kOf_some (by omega)]
  simp
 ·unfold PState.ks; exact List.mem_append.2 (.inr (List.mem_flatMap.2 ⟨y, hym, h⟩))
theorem keys_one : ∀ {l : List (Nat × Nat × Nat)}, (l.map Prod.fst).Nodup → ∀ {g : Nat} {x y : Nat × Nat}, (g, x) ∈ l → (g, y) ∈ l → x = y
 | [], _, _, _, _, h, _ => by cases h
 | a :: l, hn, g, x, y, h1, h2 => by
  rw [List.map_cons, List.nodup_cons] at hn
  have hno : ∀ z, a.1 = g → (g, z) ∉ l := fun z e h => hn.1 (List.mem_map.2 ⟨(g, z), h, e.symm⟩)
  rcases List.mem_cons.1 h1 with e1 | k1
  ·rcases List.mem_cons.1 h2 with e2 | k2
   ·rw [← e1] at e2; exact (congrArg Prod.snd e2).symm
   ·exact absurd k2 (hno _ (by rw [← e1]))
  ·rcases List.mem_cons.1 h2 with e2 | k2
   ·exact absurd k1 (hno _ (by rw [← e2]))
   ·exact keys_one hn.2 k1 k2
theorem rest_start {W w1 w2 w3 w : World} {p0 p2 q0 q2 r0 r2 : Value} {pk qk rk : Int} {sp sq sr : GState} (hE1 : Ext W w1) (hE2 : Ext w1 w2) (hE3 : Ext w2 w3) (hE : Ext w3 w) (hp : StateO w1 W.heap.size (.agg #[p0, .int .i64 pk, p2]) sp) (hq : StateO w2 w1.heap.size (.agg #[q0, .int .i64 qk, q2]) sq) (hr : StateO w3 w2.heap.size (.agg #[r0, .int .i64 rk, r2]) sr) (t : TypeId) :
  ∃ K, RestI K W w.heap.size (w.heap.size + 1) (w.alloc (.cells #[p0, .int .i64 pk, p2, q0, .int .i64 qk, q2, r0, .int .i64 rk, r2] t)) := by
 have hopen : ∀ {w : World} {B : Nat} {u0 u2 : Value} {k : Int} {s : GState}, StateO w B (.agg #[u0, .int .i64 k, u2]) s → ∃ P : PState, OwnR w B P ∧ u0 = P.vfs ∧ k = P.now ∧ u2 = P.vo := fun {w B u0 u2 k s} h => by
  obtain ⟨P, e, h1, _⟩ := h
  simp only [Value.agg.injEq, Array.mk.injEq, List.cons.injEq, Value.int.injEq, true_and, and_true] at e
  exact ⟨P, h1, e.1, e.2.1, e.2.2⟩
 obtain ⟨P, hP, rfl, rfl, rfl⟩ := hopen hp
 obtain ⟨Q, hQ, rfl, rfl, rfl⟩ := hopen hq
 obtain ⟨R, hR, rfl, rfl, rfl⟩ := hopen hr
 have eA : Ext w (w.alloc (.cells #[P.vfs, .int .i64 P.now, P.vo, Q.vfs, .int .i64 Q.now, Q.vo, R.vfs, .int .i64 R.now, R.vo] t)) := (Ext.refl _).alloc _
 have hszA : (w.alloc (.cells #[P.vfs, .int .i64 P.now, P.vo, Q.vfs, .int .i64 Q.now, Q.vo, R.vfs, .int .i64 R.now, R.vo] t)).heap.size = w.heap.size + 1 := Array.size_push _
 have hcell : ∀ j v, [P.vfs, .int .i64 P.now, P.vo, Q.vfs, .int .i64 Q.now, Q.vo, R.vfs, .int .i64 R.now, R.vo][j]? = some v → (w.alloc (.cells #[P.vfs, .int .i64 P.now, P.vo, Q.vfs, .int .i64 Q.now, Q.vo, R.vfs, .int .i64 R.now, R.vo] t)).cell? ⟨w.heap.size, j, none⟩ = some v := fun j v hj =>
  (Cx.new w [P.vfs, .int .i64 P.now, P.vo, Q.vfs, .int .i64 Q.now, Q.vo, R.vfs, .int .i64 R.now, R.vo] t hj).1
 generalize w.alloc (.cells #[P.vfs, .int .i64 P.now, P.vo, Q.vfs, .int .i64 Q.now, Q.vo, R.vfs, .int .i64 R.now, R.vo] t) = w' at *
 have s1 := hE1.size
 have s2 := hE2.size
 have s3 := hE3.size
 have s4 := hE.size
 have inb : ∀ {P : PState} {g k o : Nat}, (g, k, o) ∈ P.ks → g ∈ P.bl := fun {P g k o} h => by rw [← PState.ks_fst]; exact List.mem_map.2 ⟨_, h, rfl⟩
 have hnd : (((P.ks ++ Q.ks) ++ R.ks).map Prod.fst).Nodup := by
  simp only [List.map_append, PState.ks_fst]
  rw [List.nodup_append, List.nodup_append]
  refine ⟨⟨hP.nodup, hQ.nodup, fun a ha b hb e => ?_⟩, hR.nodup, fun a ha b hb e => ?_⟩
  ·have := hP.lt a ha
   have := hQ.ge b hb
   omega
  ·have := hR.ge b hb
   rcases List.mem_append.1 ha with h | h
   ·have := hP.lt a h; omega
   ·have := hQ.lt a h; omega
 have hall : ∀ g k o, (g, k, o) ∈ (P.ks ++ Q.ks) ++ R.ks → W.heap.size ≤ g ∧ g < w.heap.size := fun g k o h => by
  rcases List.mem_append.1 h with h | h
  ·rcases List.mem_append.1 h with h | h
   ·have := hP.lt g (inb h); have := hP.ge g (inb h); omega
   ·have := hQ.lt g (inb h); have := hQ.ge g (inb h); omega
  ·have := hR.lt g (inb h); have := hR.ge g (inb h); omega
 refine ⟨fun g k o => (g, k, o) ∈ (P.ks ++ Q.ks) ++ R.ks, ⟨fun g k o k' o' h h' => ?_, fun g k o h => ?_⟩, ((hE1.trans hE2).trans hE3).trans (hE.trans eA), by omega, by omega, fun i hi => ?_⟩
 ·have := keys_one hnd h h'
  simp only [Prod.mk.injEq] at this
  exact this
 ·have := hall g k o h
  omega
 ·match i, hi with
  | 0, _ => exact ⟨_, _, _, hcell 0 _ rfl, hcell 1 _ rfl, hcell 2 _ rfl, GB.of_own (hP.ext (((hE2.trans hE3).trans hE).trans eA)) fun g k o h => by simp [h]⟩
  | 1, _ => exact ⟨_, _, _, hcell 3 _ rfl, hcell 4 _ rfl, hcell 5 _ rfl, GB.of_own (hQ.ext ((hE3.trans hE).trans eA)) fun g k o h => by simp [h]⟩
  | 2, _ => exact ⟨_, _, _, hcell 6 _ rfl, hcell 7 _ rfl, hcell 8 _ rfl, GB.of_own (hR.ext (hE.trans eA)) fun g k o h => by simp [h]⟩
theorem RestI.nbl {K : Kd} {W w : World} {bl H : Nat} (h : RestI K W bl H w) : ∀ k o, ¬ K bl k o := fun _ _ hk => (h.kf.bd _ _ _ hk).2.2 rfl
theorem RestI.nfar {K : Kd} {W w : World} {bl H b : Nat} (h : RestI K W bl H w) (hb : H ≤ b) : ∀ k o, ¬ K b k o := fun _ _ hk => by have := (h.kf.bd _ _ _ hk).2.1; omega
theorem RestI.nkind {K : Kd} {W w : World} {bl H g k o k' : Nat} (h : RestI K W bl H w) (hk : K g k o) (hn : k' ≠ k) : ∀ o', ¬ K g k' o' := fun _ h' => hn (h.kf.one _ _ _ _ _ h' hk).1
theorem pin_int {K : Kd} {w : World} {g o b q z : Nat} {u v : Value} (hk : K g 1 o) (hn : ∀ o, ¬ K b 1 o) (h : w.cell? ⟨b, q, none⟩ = some v) : (w.setCell ⟨g, z, none⟩ u).cell? ⟨b, q, none⟩ = some v :=
 (chg_one w g z u).cell (fun e => by have e : b = g := e; subst e; exact hn _ hk) h
theorem pin_frame {K : Kd} {w : World} {g o b q z : Nat} {x y u t v : Value} (hk : K g 2 o) (hn : ∀ o, ¬ K b 2 o) (h : w.cell? ⟨b, q, none⟩ = some v) : ((((w.setCell ⟨g, z, none⟩ x).setCell ⟨g, z + 1, none⟩ y).setCell ⟨g, z + 2, none⟩ u).setCell ⟨g, z + 3, none⟩ t).cell? ⟨b, q, none⟩ = some v :=
 (chgs4 w g z x y u t).cell (fun e => by have e : b = g := e; subst e; exact hn _ hk) h
theorem pin_fiber {K : Kd} {w : World} {g o b q z : Nat} {x y v : Value} (hk : K g 3 o) (hn : ∀ o, ¬ K b 3 o) (h : w.cell? ⟨b, q, none⟩ = some v) : ((w.setCell ⟨g, z, none⟩ x).setCell ⟨g, z + 1, none⟩ y).cell? ⟨b, q, none⟩ = some v :=
 (chgs2 w g z x y).cell (fun e => by have e : b = g := e; subst e; exact hn _ hk) h
theorem RestI.vf {K : Kd} {W w : World} {bl H i : Nat} (h : RestI K W bl H w) (hi : i < 3) {v : Value} (hv : w.cell? ⟨bl, i * 3, none⟩ = some v) : GB K w v := by
 obtain ⟨vf, x, vo, h0, _, _, h3, _⟩ := h.good i hi
 rw [hv] at h0
 cases h0
 exact h3
theorem RestI.vo {K : Kd} {W w : World} {bl H i : Nat} (h : RestI K W bl H w) (hi : i < 3) {v : Value} (hv : w.cell? ⟨bl, i * 3 + 2, none⟩ = some v) : GI K w v := by
 obtain ⟨vf, x, vo, _, _, h2, _, h4⟩ := h.good i hi
 rw [hv] at h2
 cases h2
 exact h4
theorem GB.x {K : Kd} {w : World} {g o n c k : Nat} (h : GB K w (.slice (some ⟨g, o, none⟩) n c)) (hk : k < n) {v : Value} (hv : w.cell? ⟨g, o + k * 2, none⟩ = some v) : GX K w v ∧ K g 3 o := by
 obtain ⟨g', o', xa, xn, xc, y, e, h3, h0, _, hx⟩ := h.at hk
 simp only [Option.some.injEq, Addr.mk.injEq] at e
 obtain ⟨rfl, rfl, -⟩ := e
 have e := h0.1
 rw [hv] at e
 cases e
 exact ⟨hx, h3⟩
end Go.Proofs.YtgahbngbpfilgaaGreat
end
section
set_option maxRecDepth 100000
namespace Go.Proofs.YtgahbngbpfilgaaGreat
open Go Go.RowKit
abbrev Rd (α : Type) := List UInt8 → Option (α × List UInt8)
def rdN {α : Type} (one : Rd α) : Nat → Rd (List α)
 | 0, r => some ([], r)
 | n + 1, r => match one r with
  | none => none
  | some (x, r1) => match rdN one n r1 with
   | none => none
   | some (l, r2) => some (x :: l, r2)
def Back {α : Type} (one : Rd α) (enc : α → List UInt8) (x : α) : Prop := ∀ r, one (enc x ++ r) = some (x, r)
end Go.Proofs.YtgahbngbpfilgaaGreat
end
