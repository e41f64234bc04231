/- Merged texts: contracts and plain facts, one part behind another; each part begins with what it says. -/
import Derived.Test.YtfajkebkhdcapaaGreatGVAM
import Derived.Test.YtfajkebkhdcapaaGreatGVAQ
import Derived.Test.YtfajkebkhdcapaaGreatGVAT
import Derived.Test.YtfajkebkhdcapaaGreatGVAY
section
/- Contract of runBegun. -/
set_option maxHeartbeats 4000000
set_option maxRecDepth 100000
namespace Go.Proofs.YtfajkebkhdcapaaGreat
open Go Go.RowKit

def yl3 : List GOp := [⟨0, 1⟩, ⟨15, 0⟩, ⟨12, 0⟩]
theorem all99 : allG countP 99 = ([7, 8, 99], 28, 0) := of_decide_eq_true (by kernel_rfl)
theorem all501 : allG countP 501 = ([], 0, 3) := by unfold allG; rw [if_pos (by omega)]
theorem allY : allG [⟨0, 0, yl3⟩] 9 = ([], 1, 7) := of_decide_eq_true (by kernel_rfl)
theorem run6 : runOfG countP ⟨[⟨[⟨0, 0, [0], []⟩], -1⟩], 0, []⟩ 6 = (A6, 6, 0) := of_decide_eq_true (by kernel_rfl)

theorem all_val (p : List GFunc) (v : Value) (S : Nat → Prop) (fuel : Int) (w : World) (hp : Funcs w S v p) {l : List Int} {k e : Int} {n : Nat} (h : allG p fuel = (l, k, e)) (hn : l.length = n) :
    Calls Tryz.prog 32 #[v, .int .i64 fuel] w fun r w' => (∃ a c, r = .returned (.tuple #[.slice a n c, .int .i64 k, .int .i64 e]) ∧ Ints w' (fun _ => True) (.slice a n c) l) ∧ Ext w w' := by
  refine (runAll_any p v S fuel w hp).mono fun r w' ⟨⟨x, hr, hx⟩, hb⟩ => ⟨?_, hb⟩
  rw [h] at hr hx
  subst hn
  have hx2 := hx
  obtain ⟨a, c, rfl, _, _, _⟩ := hx
  exact ⟨a, c, hr, hx2⟩
theorem run_val (v vs : Value) (S T : Nat → Prop) (w : World) (hp : Funcs w S v countP) (hs : StateV w T vs ⟨[⟨[⟨0, 0, [0], []⟩], -1⟩], 0, []⟩) :
    Calls Tryz.prog 13 #[v, vs, .int .i64 6] w fun r w' => (∃ a c b d, r = .returned (.tuple #[.agg #[.slice a 2 c, .int .i64 1, .slice b 0 d], .int .i64 6, .int .i64 0])) ∧ Ext w w' := by
  refine (runRun_any countP v S T _ vs 6 w hp hs).mono fun r w' ⟨⟨x, hr, hx⟩, hb⟩ => ⟨?_, hb⟩
  rw [run6] at hr hx
  obtain ⟨a, c, b, d, rfl⟩ := hx.few
  exact ⟨a, c, b, d, hr⟩

theorem runBegun_any (w : World) : Calls Tryz.prog 15 #[] w fun e w' => e = .returned (.bool true) ∧ Ext w w' := by
  go_enter Tryz.func15, Tryz.ntmps15
  go_upto_region 2 with (first
    | (go_at_call 19; refine (count_any _).mono ?_; rintro e w1 ⟨⟨v, rfl, hv⟩, hb1⟩; have hf := hv.funcs)
    | (go_at_call 32; (with_reducible refine (all_val countP _ _ 99 _ hf all99 (n := 3) rfl).mono ?_); rintro e w2 ⟨⟨a1, c1, rfl, hl1⟩, hb2⟩))
  have E2 := Lib.hid (hb1.trans hb2)
  have HL2 := Lib.hid hl1
  clear hf hv hb1 hb2 hl1
  go_upto_region 3 with (first
    | (go_at_call 19; have _z := hfA.out; refine (count_any _).mono ?_; rintro e w4 ⟨⟨v2, rfl, hv2⟩, hb4⟩; have hfB := hv2.funcs)
    | (go_at_call 19; refine (count_any _).mono ?_; rintro e w3 ⟨⟨v1, rfl, hv1⟩, hb3⟩; have hfA := Lib.hid hv1.funcs)
    | (go_at_call 33; (with_reducible refine (beginOf_val _ _ _ hfB).mono ?_); rintro e w5 ⟨⟨x, rfl, hx⟩, hb5⟩)
    | (go_at_call 13; (with_reducible refine (run_val _ _ _ _ _ (Funcs.stays (Ext.stays (hb4.trans hb5)) hfA.out) hx).mono ?_); rintro e w6 ⟨⟨a2, c2, b2, d2, rfl⟩, hb6⟩))
  have e3 : Ext w2 (w6.alloc (.cells #[.slice a2 2 c2, .int .i64 1, .slice b2 0 d2] 26)) := (((hb3.trans hb4).trans hb5).trans hb6).alloc _
  have cx3 := Cx.new w6 [.slice a2 2 c2, .int .i64 1, .slice b2 0 d2] 26 (j := 1) rfl
  generalize w6.heap.size = bx1 at *
  generalize w6.alloc (.cells #[.slice a2 2 c2, .int .i64 1, .slice b2 0 d2] 26) = w7 at *
  have E3 := Lib.hid (E2.out.trans e3)
  have CX3 := Lib.hid cx3
  have HL3 := Lib.hid (Ints.stays (Ext.stays e3) HL2.out)
  clear hfA hfB hv1 hv2 hx hb3 hb4 hb5 hb6 e3 cx3 E2 HL2
  rename World => w7
  go_upto_region 4 with (first
    | (go_at_call 19; refine (count_any _).mono ?_; rintro e w8 ⟨⟨v, rfl, hv⟩, hb1⟩; have hf := hv.funcs)
    | (go_at_call 32; (with_reducible refine (all_val countP _ _ 501 _ hf all501 (n := 0) rfl).mono ?_); rintro e w9 ⟨⟨a3, c3, rfl, hl3⟩, hb2⟩))
  have E4 := Lib.hid (E3.out.trans (hb1.trans hb2))
  have CX4 := Lib.hid (CX3.out.ext (hb1.trans hb2))
  have HL4 := Lib.hid (Ints.stays (Ext.stays (hb1.trans hb2)) HL3.out)
  clear hf hv hb1 hb2 hl3 E3 CX3 HL3
  go_upto_region 5 with (first
    | (go_at_call 21; refine (o_any _ _ _).mono ?_; rintro e w10 ⟨rfl, hb⟩)
    | (go_at_call 32; (with_reducible refine (all_val [⟨0, 0, yl3⟩] _ _ 9 _ (prog_ops _ yl3 3 rfl #[.int .i64 0, .int .i64 1, .int .i64 15, .int .i64 0, .int .i64 12, .int .i64 0] rfl (small_ops (by decide)) (by decide) _ _) allY (n := 0) rfl).mono ?_); rintro e w11 ⟨⟨a4, c4, rfl, hl4⟩, hb3⟩))
  have e5 : Ext w9 w11 := by ((repeat (first | assumption | exact Ext.refl _ | (exact And.left (by assumption)) | refine Ext.alloc ?_ _ | refine Ext.drew ?_ | refine Ext.drewN ?_ _ | refine Ext.setCell ?_ (by simp) _ | refine Ext.setCell ?_ (by simp; omega) _ | refine Ext.trans ?_ (by assumption))); done)
  have E5 := Lib.hid (E4.out.trans e5)
  have hx := CX4.out.ext e5
  have HL5 := Lib.hid (Ints.stays (Ext.stays e5) HL4.out)
  clear hl4 hb3 e5 E4 CX4 HL4
  obtain ⟨hx0, -⟩ := hx
  have RA := alloc_keep
  go_wp2_with (first
    | (go_at_call 22; (refine (sameInts_any [7, 8, 99] [7, 8, 99] _ _ _ _ _ (Ints.stays (Ext.stays (by ((repeat (first | assumption | exact Ext.refl _ | (exact And.left (by assumption)) | refine Ext.alloc ?_ _ | refine Ext.drew ?_ | refine Ext.drewN ?_ _ | refine Ext.setCell ?_ (by simp) _ | refine Ext.setCell ?_ (by simp; omega) _ | refine Ext.trans ?_ (by assumption))); done))) HL5.out) (ints_box _ [7, 8, 99] 3 rfl (by intro x hx; simp at hx; rcases hx with rfl | rfl | rfl <;> exact I64.small (by decide) (by decide)) (by decide) _ _ rfl)).mono ?_); rintro e w12 ⟨rfl, hb12⟩; rw [show decide (([7, 8, 99] : List Int) = [7, 8, 99]) = true by decide]; have hc := Ext.keep hb12))
  go_ret
  exact ⟨rfl, E5.out.trans (by ((repeat (first | assumption | exact Ext.refl _ | (exact And.left (by assumption)) | refine Ext.alloc ?_ _ | refine Ext.drew ?_ | refine Ext.drewN ?_ _ | refine Ext.setCell ?_ (by simp) _ | refine Ext.setCell ?_ (by simp; omega) _ | refine Ext.trans ?_ (by assumption))); done))⟩
end Go.Proofs.YtfajkebkhdcapaaGreat
end
section
/- Contract of stepBegun. -/
set_option maxHeartbeats 4000000
set_option maxRecDepth 100000
namespace Go.Proofs.YtfajkebkhdcapaaGreat
open Go Go.RowKit

def A4 : GState := ⟨[⟨[⟨0, 4, [1], [1, 7]⟩], -1⟩, ⟨[⟨1, 0, [0], []⟩], -1⟩], 0, []⟩
def D4 : GState := ⟨[⟨[⟨0, 5, [1], []⟩], -1⟩, ⟨[⟨1, 0, [7], []⟩], 0⟩], 1, []⟩
def ADone : GState := ⟨[⟨[], -1⟩, ⟨[], -1⟩], -1, [7, 8, 99]⟩
def YS : GState := ⟨[⟨[⟨0, 1, [], [1]⟩], -1⟩], 0, []⟩
theorem after4 : afterG 4 = A4 := of_decide_eq_true (by kernel_rfl)
theorem afterDone : afterG 99 = ADone := of_decide_eq_true (by kernel_rfl)
theorem do4 : doS countP A4 = (0, D4) := of_decide_eq_true (by kernel_rfl)
theorem do6 : doS countP A6 = (0, A7) := of_decide_eq_true (by kernel_rfl)
theorem doDone : doS countP ADone = (8, ⟨[], 0, []⟩) := of_decide_eq_true (by kernel_rfl)
theorem doY : doS [⟨0, 0, yl3⟩] YS = (7, ⟨[], 0, []⟩) := of_decide_eq_true (by kernel_rfl)
theorem after_4 (v : Value) (S : Nat → Prop) (w : World) (hv : Funcs w S v countP) : Calls Tryz.prog 20 #[v, .int .i64 4] w fun e w' => (∃ x, e = .returned x ∧ StateO w' w.heap.size x A4) ∧ Ext w w' := after_val v S 4 w A4 hv fit_4 after4
theorem after_done (v : Value) (S : Nat → Prop) (w : World) (hv : Funcs w S v countP) : Calls Tryz.prog 20 #[v, .int .i64 99] w fun e w' => (∃ x, e = .returned x ∧ StateO w' w.heap.size x ADone) ∧ Ext w w' := after_val v S 99 w ADone hv fit_99 afterDone

theorem do_val (p : List GFunc) (s t : GState) (v vs : Value) (S T : Nat → Prop) (w : World) (hp : Funcs w S v p) (hs : StateV w T vs s) {e k : Int} {n m : Nat} (h : doS p s = (e, t)) (hn : t.fibers.length = n) (hm : t.out.length = m) (hk : t.now = k) :
    Calls Tryz.prog 6 #[v, vs] w fun r w' => (∃ a c b d, r = .returned (.tuple #[.agg #[.slice a n c, .int .i64 k, .slice b m d], .int .i64 e]) ∧ StateV w' (fun _ => True) (.agg #[.slice a n c, .int .i64 k, .slice b m d]) t) ∧ Ext w w' := by
  refine (stepDo_any p v S T s vs w hp hs).mono fun r w' ⟨⟨x, hr, hx⟩, hb⟩ => ⟨?_, hb⟩
  rw [h] at hr hx
  have hx2 := StateV.stays (T := fun _ => True) (Stays.widen (fun _ _ => trivial)) hx.state
  obtain ⟨a, c, b, d, rfl⟩ := hx.few
  subst hn hm hk
  exact ⟨a, c, b, d, hr, hx2⟩

theorem D4_read {w : World} {a b : Option Addr} {n m c d : Nat} {k : Int} (h : StateV w (fun _ => True) (.agg #[.slice a n c, .int .i64 k, .slice b m d]) D4) : ∃ g o, a = some ⟨g, o, none⟩ ∧ w.cell? ⟨g, o + 2 + 1, none⟩ = some (.int .i64 0) ∧ ∃ g2 o2 c2, w.cell? ⟨g, o + 2, none⟩ = some (.slice (some ⟨g2, o2, none⟩) 1 c2) ∧ ∃ a3 c3, w.cell? ⟨g2, o2 + 2, none⟩ = some (.slice a3 1 c3) ∧ Ints w (fun _ => True) (.slice a3 1 c3) [7] := by
  obtain ⟨x, y, e, hF, _, _⟩ := h
  simp only [Value.agg.injEq, Array.mk.injEq, List.cons.injEq, and_true] at e
  obtain ⟨rfl, -, -⟩ := e
  obtain ⟨g, o, cap, e, _, _, ⟨vf, h0, hf⟩, _, h1, _⟩ := hF.get (i := 1) (by show 1 < 2; omega)
  simp only [Value.slice.injEq] at e
  obtain ⟨rfl, -, -⟩ := e
  obtain ⟨g2, o2, c2, rfl, _, _, _, _, ⟨vl, h2, hl⟩, _⟩ := hf.get (i := 0) (by show 0 < 1; omega)
  have hl2 := hl
  obtain ⟨a3, c3, rfl, _, _, _⟩ := hl
  exact ⟨g, o, rfl, h1, g2, o2, c2, h0, a3, c3, h2, hl2⟩
theorem A7_read {w : World} {a b : Option Addr} {n m c d : Nat} {k : Int} (h : StateV w (fun _ => True) (.agg #[.slice a n c, .int .i64 k, .slice b m d]) A7) : ∃ g o, a = some ⟨g, o, none⟩ ∧ w.cell? ⟨g, o + 2 + 1, none⟩ = some (.int .i64 (-1)) ∧ ∃ g2 o2 c2, w.cell? ⟨g, o, none⟩ = some (.slice (some ⟨g2, o2, none⟩) 1 c2) ∧ ∃ a3 c3, w.cell? ⟨g2, o2 + 3, none⟩ = some (.slice a3 1 c3) ∧ Ints w (fun _ => True) (.slice a3 1 c3) [7] := by
  obtain ⟨x, y, e, hF, _, _⟩ := h
  simp only [Value.agg.injEq, Array.mk.injEq, List.cons.injEq, and_true] at e
  obtain ⟨rfl, -, -⟩ := e
  obtain ⟨g, o, cap, e, _, _, _, _, h1, _⟩ := hF.get (i := 1) (by show 1 < 2; omega)
  obtain ⟨g', o', cap', e', _, _, ⟨vf, h0, hf⟩, _⟩ := hF.get (i := 0) (by show 0 < 2; omega)
  simp only [Value.slice.injEq] at e e'
  obtain ⟨rfl, -, -⟩ := e
  obtain ⟨e', -, -⟩ := e'
  simp only [Option.some.injEq, Addr.mk.injEq, and_true] at e'
  obtain ⟨rfl, rfl⟩ := e'
  obtain ⟨g2, o2, c2, rfl, _, _, _, _, _, vl, h2, hl⟩ := hf.get (i := 0) (by show 0 < 1; omega)
  have hl2 := hl
  obtain ⟨a3, c3, rfl, _, _, _⟩ := hl
  exact ⟨g, o, rfl, h1, g2, o2, c2, h0, a3, c3, h2, hl2⟩

theorem ys_state (W : World) (N : Nat) (hN : W.heap.size = N) (t1 t2 t3 : TypeId) : StateV (((W.alloc (.cells #[.int .i64 1] t1)).alloc (.cells #[.int .i64 0, .int .i64 1, .slice none 0 0, .slice (some ⟨N, 0, none⟩) 1 1] t2)).alloc (.cells #[.slice (some ⟨N + 1, 0, none⟩) 1 1, .int .i64 (-1)] t3)) (fun _ => True) (.agg #[.slice (some ⟨N + 1 + 1, 0, none⟩) 1 1, .int .i64 0, .slice none 0 0]) YS := by
  subst hN
  have s1 : (W.alloc (.cells #[.int .i64 1] t1)).heap.size = W.heap.size + 1 := Array.size_push _
  have s2 : ((W.alloc (.cells #[.int .i64 1] t1)).alloc (.cells #[.int .i64 0, .int .i64 1, .slice none 0 0, .slice (some ⟨W.heap.size, 0, none⟩) 1 1] t2)).heap.size = W.heap.size + 1 + 1 := by rw [show ∀ (u : World) o, (u.alloc o).heap.size = u.heap.size + 1 from fun u o => Array.size_push _, s1]
  have X2 : Ext ((W.alloc (.cells #[.int .i64 1] t1)).alloc (.cells #[.int .i64 0, .int .i64 1, .slice none 0 0, .slice (some ⟨W.heap.size, 0, none⟩) 1 1] t2)) (((W.alloc (.cells #[.int .i64 1] t1)).alloc (.cells #[.int .i64 0, .int .i64 1, .slice none 0 0, .slice (some ⟨W.heap.size, 0, none⟩) 1 1] t2)).alloc (.cells #[.slice (some ⟨W.heap.size + 1, 0, none⟩) 1 1, .int .i64 (-1)] t3)) := (Ext.refl _).alloc _
  have X1 : Ext (W.alloc (.cells #[.int .i64 1] t1)) (((W.alloc (.cells #[.int .i64 1] t1)).alloc (.cells #[.int .i64 0, .int .i64 1, .slice none 0 0, .slice (some ⟨W.heap.size, 0, none⟩) 1 1] t2)).alloc (.cells #[.slice (some ⟨W.heap.size + 1, 0, none⟩) 1 1, .int .i64 (-1)] t3)) := ((Ext.refl _).alloc _).trans X2
  have c0 := ((Cx.new W [.int .i64 1] t1 (j := 0) rfl).ext X1).1
  have f0 := ((Cx.new (W.alloc (.cells #[.int .i64 1] t1)) [.int .i64 0, .int .i64 1, .slice none 0 0, .slice (some ⟨W.heap.size, 0, none⟩) 1 1] t2 (j := 0) rfl).ext X2).1
  have f1 := ((Cx.new (W.alloc (.cells #[.int .i64 1] t1)) [.int .i64 0, .int .i64 1, .slice none 0 0, .slice (some ⟨W.heap.size, 0, none⟩) 1 1] t2 (j := 1) rfl).ext X2).1
  have f2 := ((Cx.new (W.alloc (.cells #[.int .i64 1] t1)) [.int .i64 0, .int .i64 1, .slice none 0 0, .slice (some ⟨W.heap.size, 0, none⟩) 1 1] t2 (j := 2) rfl).ext X2).1
  have f3 := ((Cx.new (W.alloc (.cells #[.int .i64 1] t1)) [.int .i64 0, .int .i64 1, .slice none 0 0, .slice (some ⟨W.heap.size, 0, none⟩) 1 1] t2 (j := 3) rfl).ext X2).1
  have g0 := (Cx.new ((W.alloc (.cells #[.int .i64 1] t1)).alloc (.cells #[.int .i64 0, .int .i64 1, .slice none 0 0, .slice (some ⟨W.heap.size, 0, none⟩) 1 1] t2)) [.slice (some ⟨W.heap.size + 1, 0, none⟩) 1 1, .int .i64 (-1)] t3 (j := 0) rfl).1
  have g1 := (Cx.new ((W.alloc (.cells #[.int .i64 1] t1)).alloc (.cells #[.int .i64 0, .int .i64 1, .slice none 0 0, .slice (some ⟨W.heap.size, 0, none⟩) 1 1] t2)) [.slice (some ⟨W.heap.size + 1, 0, none⟩) 1 1, .int .i64 (-1)] t3 (j := 1) rfl).1
  rw [s1] at f0 f1 f2 f3
  rw [s2] at g0 g1
  have i64 : ∀ n : Int, -5 ≤ n → n ≤ 5 → I64 n := fun n a b => I64.small (by omega) (by omega)
  refine ⟨_, _, rfl, ⟨_, _, rfl, Nat.le_refl _, by simp [YS], fun i hi => ⟨_, 0, rfl, ?_⟩⟩, I64.zero, Sl.nil _ _ _⟩
  match i, hi with
  | 0, _ =>
    refine ⟨⟨_, g0, ⟨_, _, rfl, Nat.le_refl _, by simp [YS], fun i hi => ⟨_, 0, rfl, ?_⟩⟩⟩, trivial, g1, (i64 (-1) (by decide) (by decide) : I64 (-1))⟩
    match i, hi with
    | 0, _ =>
      refine ⟨⟨trivial, f0, I64.zero⟩, ⟨trivial, f1, (i64 1 (by decide) (by decide) : I64 1)⟩, ⟨_, f2, Sl.nil _ _ _⟩, _, f3, ⟨_, _, rfl, Nat.le_refl _, by simp [YS], fun i hi => ⟨_, 0, rfl, ?_⟩⟩⟩
      match i, hi with
      | 0, _ => exact ⟨trivial, c0, (i64 1 (by decide) (by decide) : I64 1)⟩

theorem same7_any (v : Value) (w : World) (t : TypeId) (hv : Ints w (fun _ => True) v [7]) : Calls Tryz.prog 22 #[v, .slice (some ⟨w.heap.size, 0, none⟩) 1 1] (w.alloc (.cells #[.int .i64 7] t)) fun e w' => e = .returned (.bool true) ∧ Ext w w' := by
  refine (sameInts_any [7] [7] _ _ (fun _ => True) (fun _ => True) _ (Ints.stays (Ext.stays ((Ext.refl _).alloc _)) hv) (ints_box _ [7] 1 rfl (by intro x hx; simp at hx; rcases hx with rfl; exact I64.small (by decide) (by decide)) (by decide) _ _ rfl)).mono ?_
  rintro e w12 ⟨rfl, hb12⟩
  rw [show decide (([7] : List Int) = [7]) = true by decide]
  exact ⟨rfl, ((Ext.refl _).alloc _).trans hb12⟩

theorem stepBegun_any (w : World) : Calls Tryz.prog 8 #[] w fun e w' => e = .returned (.bool true) ∧ Ext w w' := by
  go_enter Tryz.func8, Tryz.ntmps8
  go_upto_region 2 with (first
    | (go_at_call 19; have _z := hfA.out; refine (count_any _).mono ?_; rintro e w2 ⟨⟨v2, rfl, hv2⟩, hb2⟩; have hfB := hv2.funcs)
    | (go_at_call 19; refine (count_any _).mono ?_; rintro e w1 ⟨⟨v1, rfl, hv1⟩, hb1⟩; have hfA := Lib.hid hv1.funcs)
    | (go_at_call 20; (with_reducible refine (after_4 _ _ _ hfB).mono ?_); rintro e w3 ⟨⟨x, rfl, hx⟩, hb3⟩; have hxs := hx.state)
    | (go_at_call 6; (with_reducible refine (do_val countP A4 D4 _ _ _ _ _ (Funcs.stays (Ext.stays (hb2.trans hb3)) hfA.out) hxs do4 (n := 2) (m := 0) (k := 1) rfl rfl rfl).mono ?_); rintro e w4 ⟨⟨aA, cA, bA, dA, rfl, hA⟩, hb4⟩))
  have e1 : Ext w (w4.alloc (.cells #[.slice aA 2 cA, .int .i64 1, .slice bA 0 dA] 26)) := (((hb1.trans hb2).trans hb3).trans hb4).alloc _
  have XA := Lib.hid (⟨Cx.new w4 [.slice aA 2 cA, .int .i64 1, .slice bA 0 dA] 26 (j := 0) rfl, Cx.new w4 [.slice aA 2 cA, .int .i64 1, .slice bA 0 dA] 26 (j := 1) rfl⟩ : _ ∧ _)
  have HA := Lib.hid (StateV.stays (Ext.stays ((Ext.refl w4).alloc (.cells #[.slice aA 2 cA, .int .i64 1, .slice bA 0 dA] 26))) hA)
  generalize w4.heap.size = bx1 at *
  generalize w4.alloc (.cells #[.slice aA 2 cA, .int .i64 1, .slice bA 0 dA] 26) = u0 at *
  have E := Lib.hid e1
  clear hfA hfB hv1 hv2 hb1 hb2 hb3 hb4 hx hxs hA e1
  rename World => u0
  go_upto_region 3 with (first
    | (go_at_call 19; have _z := hfA.out; refine (count_any _).mono ?_; rintro e w2 ⟨⟨v2, rfl, hv2⟩, hb2⟩; have hfB := hv2.funcs)
    | (go_at_call 19; refine (count_any _).mono ?_; rintro e w1 ⟨⟨v1, rfl, hv1⟩, hb1⟩; have hfA := Lib.hid hv1.funcs)
    | (go_at_call 20; (with_reducible refine (after_6 _ _ _ hfB).mono ?_); rintro e w3 ⟨⟨x, rfl, hx⟩, hb3⟩; have hxs := hx.state)
    | (go_at_call 6; (with_reducible refine (do_val countP A6 A7 _ _ _ _ _ (Funcs.stays (Ext.stays (hb2.trans hb3)) hfA.out) hxs do6 (n := 2) (m := 0) (k := 0) rfl rfl rfl).mono ?_); rintro e w4 ⟨⟨aB, cB, bB, dB, rfl, hB⟩, hb4⟩))
  have e1 : Ext u0 (w4.alloc (.cells #[.slice aB 2 cB, .int .i64 0, .slice bB 0 dB] 26)) := (((hb1.trans hb2).trans hb3).trans hb4).alloc _
  have XB := Lib.hid (⟨Cx.new w4 [.slice aB 2 cB, .int .i64 0, .slice bB 0 dB] 26 (j := 0) rfl, Cx.new w4 [.slice aB 2 cB, .int .i64 0, .slice bB 0 dB] 26 (j := 1) rfl⟩ : _ ∧ _)
  have HB := Lib.hid (StateV.stays (Ext.stays ((Ext.refl w4).alloc (.cells #[.slice aB 2 cB, .int .i64 0, .slice bB 0 dB] 26))) hB)
  generalize w4.heap.size = bx2 at *
  generalize w4.alloc (.cells #[.slice aB 2 cB, .int .i64 0, .slice bB 0 dB] 26) = u1 at *
  have E := Lib.hid (E.out.trans e1)
  have XA := Lib.hid (⟨XA.out.1.ext e1, XA.out.2.ext e1⟩ : _ ∧ _)
  have HA := Lib.hid (StateV.stays (Ext.stays e1) HA.out)
  clear hfA hfB hv1 hv2 hb1 hb2 hb3 hb4 hx hxs hB e1
  rename World => u1
  go_upto_region 4 with (first
    | (go_at_call 19; have _z := hfA.out; refine (count_any _).mono ?_; rintro e w2 ⟨⟨v2, rfl, hv2⟩, hb2⟩; have hfB := hv2.funcs)
    | (go_at_call 19; refine (count_any _).mono ?_; rintro e w1 ⟨⟨v1, rfl, hv1⟩, hb1⟩; have hfA := Lib.hid hv1.funcs)
    | (go_at_call 20; (with_reducible refine (after_done _ _ _ hfB).mono ?_); rintro e w3 ⟨⟨x, rfl, hx⟩, hb3⟩; have hxs := hx.state)
    | (go_at_call 6; (with_reducible refine (do_val countP ADone _ _ _ _ _ _ (Funcs.stays (Ext.stays (hb2.trans hb3)) hfA.out) hxs doDone (n := 0) (m := 0) (k := 0) rfl rfl rfl).mono ?_); rintro e w4 ⟨⟨aC, cC, bC, dC, rfl, hC⟩, hb4⟩))
  have e1 : Ext u1 (w4.alloc (.cells #[.slice aC 0 cC, .int .i64 0, .slice bC 0 dC] 26)) := (((hb1.trans hb2).trans hb3).trans hb4).alloc _
  generalize w4.heap.size = bx3 at *
  generalize w4.alloc (.cells #[.slice aC 0 cC, .int .i64 0, .slice bC 0 dC] 26) = u2 at *
  have E := Lib.hid (E.out.trans e1)
  have XA := Lib.hid (⟨XA.out.1.ext e1, XA.out.2.ext e1⟩ : _ ∧ _)
  have HA := Lib.hid (StateV.stays (Ext.stays e1) HA.out)
  have XB := Lib.hid (⟨XB.out.1.ext e1, XB.out.2.ext e1⟩ : _ ∧ _)
  have HB := Lib.hid (StateV.stays (Ext.stays e1) HB.out)
  clear hfA hfB hv1 hv2 hb1 hb2 hb3 hb4 hx hxs hC e1
  rename World => u2
  go_upto_region 5 with (first
    | (go_at_call 21; refine (o_any _ _ _).mono ?_; rintro e w10 ⟨rfl, hb⟩)
    | (go_at_call 6; (with_reducible refine (do_val [⟨0, 0, yl3⟩] YS _ _ _ (fun _ => True) (fun _ => True) _ (Funcs.stays (Ext.stays (by ((repeat (first | assumption | exact Ext.refl _ | (exact And.left (by assumption)) | refine Ext.alloc ?_ _ | refine Ext.drew ?_ | refine Ext.drewN ?_ _ | refine Ext.setCell ?_ (by simp) _ | refine Ext.setCell ?_ (by simp; omega) _ | refine Ext.trans ?_ (by assumption))); done))) (prog_ops _ yl3 3 rfl #[.int .i64 0, .int .i64 1, .int .i64 15, .int .i64 0, .int .i64 12, .int .i64 0] rfl (small_ops (by decide)) (by decide) _ _)) (ys_state _ _ (by simp) _ _ _) doY (n := 0) (m := 0) (k := 0) rfl rfl rfl).mono ?_); rintro e w11 ⟨⟨aD, cD, bD, dD, rfl, hD⟩, hb4⟩))
  have e1 : Ext u2 (w11.alloc (.cells #[.slice aD 0 cD, .int .i64 0, .slice bD 0 dD] 26)) := by ((repeat (first | assumption | exact Ext.refl _ | (exact And.left (by assumption)) | refine Ext.alloc ?_ _ | refine Ext.drew ?_ | refine Ext.drewN ?_ _ | refine Ext.setCell ?_ (by simp) _ | refine Ext.setCell ?_ (by simp; omega) _ | refine Ext.trans ?_ (by assumption))); done)
  generalize w11.heap.size = bx4 at *
  generalize w11.alloc (.cells #[.slice aD 0 cD, .int .i64 0, .slice bD 0 dD] 26) = u3 at *
  have E := Lib.hid (E.out.trans e1)
  obtain ⟨⟨xa0, -⟩, xa1, -⟩ := (⟨XA.out.1.ext e1, XA.out.2.ext e1⟩ : _ ∧ _)
  obtain ⟨⟨xb0, -⟩, xb1, -⟩ := (⟨XB.out.1.ext e1, XB.out.2.ext e1⟩ : _ ∧ _)
  obtain ⟨ga, oa, rfl, ha1, ga2, oa2, ca2, ha2, aa3, ca3, ha3, hai⟩ := D4_read (StateV.stays (Ext.stays e1) HA.out)
  obtain ⟨gb, ob, rfl, hb1, gb2, ob2, cb2, hb2, ab3, cb3, hb3, hbi⟩ := A7_read (StateV.stays (Ext.stays e1) HB.out)
  have HAI := Lib.hid hai
  have HBI := Lib.hid hbi
  clear hD hb4 e1 hai hbi XA XB HA HB
  rename World => u3
  dsimp only [List.append]

  have RA := alloc_keep
  go_wp2_with (first
    | (go_at_call 22; have _z := HAI.out; (with_reducible refine (same7_any _ _ _ HAI.out).mono ?_); rintro e w12 ⟨rfl, hb12⟩; have hc := Ext.keep hb12; have HB2 := Lib.hid (Ints.stays (Ext.stays hb12) HBI.out); have E := Lib.hid (E.out.trans hb12); clear HAI HBI _z hb12)
    | (go_at_call 22; (with_reducible refine (same7_any _ _ _ HB2.out).mono ?_); rintro e w13 ⟨rfl, hb13⟩))
  go_ret
  exact ⟨rfl, E.out.trans hb13⟩
end Go.Proofs.YtfajkebkhdcapaaGreat
end
section
/- Contract of the document's StepOf. -/
set_option maxHeartbeats 4000000
set_option maxRecDepth 100000
namespace Go.Proofs.YtfajkebkhdcapaaGreat
open Go Go.RowKit

theorem stepOf_any (p : List GFunc) (v : Value) (S T : Nat → Prop) (s : GState) (vs : Value) (w : World) (hp : Funcs w S v p) (hs : StateV w T vs s) :
    Calls Tryz.prog 7 #[v, vs] w fun e w' => (∃ x, e = .returned (.tuple #[x, .int .i64 (doS p s).1]) ∧ StateO w' w.heap.size x (doS p s).2) ∧ Ext w w' := by
  have HP := Lib.hid hp
  have HS := Lib.hid hs
  obtain ⟨a, c, b, d, rfl⟩ := hs.few
  obtain ⟨ap, cp, rfl, _, _, _⟩ := hp
  have RA := alloc_keep
  have hs0 : (w.alloc (.cells #[.slice a s.fibers.length c, .int .i64 s.now, .slice b s.out.length d] 26)).heap.size = w.heap.size + 1 := Array.size_push _
  have r0 := Cx.new (w.alloc (.cells #[.slice a s.fibers.length c, .int .i64 s.now, .slice b s.out.length d] 26)) [.slice none 0 0, .int .i64 0, .slice none 0 0] 26 (j := 0) rfl
  have r1 := Cx.new (w.alloc (.cells #[.slice a s.fibers.length c, .int .i64 s.now, .slice b s.out.length d] 26)) [.slice none 0 0, .int .i64 0, .slice none 0 0] 26 (j := 1) rfl
  have r2 := Cx.new (w.alloc (.cells #[.slice a s.fibers.length c, .int .i64 s.now, .slice b s.out.length d] 26)) [.slice none 0 0, .int .i64 0, .slice none 0 0] 26 (j := 2) rfl
  rw [hs0] at r0 r1 r2
  have HR := Lib.hid (⟨r0, r1, r2⟩ : _ ∧ _ ∧ _)
  have HQ := Lib.hid (⟨(Cx.new w [.slice a s.fibers.length c, .int .i64 s.now, .slice b s.out.length d] 26 (j := 0) rfl).ext ((Ext.refl _).alloc (.cells #[.slice none 0 0, .int .i64 0, .slice none 0 0] 26)), (Cx.new w [.slice a s.fibers.length c, .int .i64 s.now, .slice b s.out.length d] 26 (j := 1) rfl).ext ((Ext.refl _).alloc (.cells #[.slice none 0 0, .int .i64 0, .slice none 0 0] 26)), (Cx.new w [.slice a s.fibers.length c, .int .i64 s.now, .slice b s.out.length d] 26 (j := 2) rfl).ext ((Ext.refl _).alloc (.cells #[.slice none 0 0, .int .i64 0, .slice none 0 0] 26))⟩ : _ ∧ _ ∧ _)
  have HE1 : Hid (Ext w ((w.alloc (.cells #[.slice a s.fibers.length c, .int .i64 s.now, .slice b s.out.length d] 26)).alloc (.cells #[.slice none 0 0, .int .i64 0, .slice none 0 0] 26))) := ((Ext.refl w).alloc _).alloc _
  have HS1 : Hid (((w.alloc (.cells #[.slice a s.fibers.length c, .int .i64 s.now, .slice b s.out.length d] 26)).alloc (.cells #[.slice none 0 0, .int .i64 0, .slice none 0 0] 26)).heap.size = w.heap.size + 2) := by unfold Hid; simp
  clear hs0 r0 r1 r2
  by_cases hz : stateErr p s = 0
  · have HG : Hid (doS p s = stepG p s) := by unfold Hid doS; rw [if_neg (fun h => h hz)]
    obtain ⟨l, hok⟩ := ok_of_err hz
    have HFW := Lib.hid hok.fewS
    have HST : Hid (s.now < 0 ∨ OpFit p s) := by
      by_cases hn : s.now < 0
      · exact .inl hn
      · exact .inr (step_right hok (by omega)).1
    have HZ := Lib.hid hz
    clear hz hok
    go_enter Tryz.func7, Tryz.ntmps7
    go_wp2_with (first
      | (go_at_call 17; (with_reducible refine (stateError_any p _ _ _ s _ _ (Funcs.stays (Ext.stays (by ((repeat (first | assumption | exact Ext.refl _ | (exact And.left (by assumption)) | refine Ext.alloc ?_ _ | refine Ext.drew ?_ | refine Ext.drewN ?_ _ | refine Ext.setCell ?_ (by simp) _ | refine Ext.setCell ?_ (by simp; omega) _ | refine Ext.trans ?_ (by assumption))); done))) HP.out) (StateV.stays (Ext.stays (by ((repeat (first | assumption | exact Ext.refl _ | (exact And.left (by assumption)) | refine Ext.alloc ?_ _ | refine Ext.drew ?_ | refine Ext.drewN ?_ _ | refine Ext.setCell ?_ (by simp) _ | refine Ext.setCell ?_ (by simp; omega) _ | refine Ext.trans ?_ (by assumption))); done))) HS.out)).mono ?_); rintro e w5 ⟨rfl, hx5⟩; rw [HZ.out]; obtain ⟨q0, q0'⟩ := (HQ.out).1.ext hx5; obtain ⟨q1, q1'⟩ := (HQ.out).2.1.ext hx5; obtain ⟨q2, q2'⟩ := (HQ.out).2.2.ext hx5; have HX5 := Lib.hid hx5; clear hx5)
      | (go_at_call 18; (with_reducible refine (stepped_any p _ _ _ s _ _ (Funcs.stays (Ext.stays (HE1.out.trans HX5.out)) HP.out) (StateV.stays (Ext.stays (HE1.out.trans HX5.out)) HS.out) HFW.out HST.out).mono ?_); rintro e w6 ⟨⟨x, rfl, hx⟩, hx6⟩; have HXS := Lib.hid hx; obtain ⟨ax, cx, bx, dx, rfl⟩ := hx.few; obtain ⟨z0, z0'⟩ := (HR.out).1.ext (HX5.out.trans hx6); obtain ⟨z1, z1'⟩ := (HR.out).2.1.ext (HX5.out.trans hx6); obtain ⟨z2, z2'⟩ := (HR.out).2.2.ext (HX5.out.trans hx6); have HX6 := Lib.hid hx6; clear hx hx6))
    refine bodyPost_ret (results_cell2 rfl _ _ (w.heap.size + 1) 0 _ _ rfl (box3 ⟨z0, z0'⟩ ⟨z1, z1'⟩ ⟨z2, z2'⟩ _ _ _) rfl rfl (by kernel_rfl)) rfl ?_
    rw [HG.out]
    exact ⟨⟨_, rfl, ret_state (HXS.out.mono (by have h2 := (HX5.out).size; have h3 := HS1.out; omega)) _ _ _⟩, ret_ext ((HE1.out.trans HX5.out).trans HX6.out) _ _ _⟩
  · have HG : Hid (doS p s = (stateErr p s, ⟨[], 0, []⟩)) := by unfold Hid doS; rw [if_pos hz]
    have TE : (stateErr p s != 0) = true := bne_iff_ne.2 hz
    obtain ⟨re, hre⟩ : ∃ re, stateErr p s = re := ⟨_, rfl⟩
    rw [hre] at TE HG
    have HRE := Lib.hid hre
    clear hz hre
    go_enter Tryz.func7, Tryz.ntmps7
    go_wp2_with (first
      | (go_at_call 17; (with_reducible refine (stateError_any p _ _ _ s _ _ (Funcs.stays (Ext.stays (by ((repeat (first | assumption | exact Ext.refl _ | (exact And.left (by assumption)) | refine Ext.alloc ?_ _ | refine Ext.drew ?_ | refine Ext.drewN ?_ _ | refine Ext.setCell ?_ (by simp) _ | refine Ext.setCell ?_ (by simp; omega) _ | refine Ext.trans ?_ (by assumption))); done))) HP.out) (StateV.stays (Ext.stays (by ((repeat (first | assumption | exact Ext.refl _ | (exact And.left (by assumption)) | refine Ext.alloc ?_ _ | refine Ext.drew ?_ | refine Ext.drewN ?_ _ | refine Ext.setCell ?_ (by simp) _ | refine Ext.setCell ?_ (by simp; omega) _ | refine Ext.trans ?_ (by assumption))); done))) HS.out)).mono ?_); rintro e w5 ⟨rfl, hx5⟩; rw [HRE.out]; obtain ⟨z0, z0'⟩ := (HR.out).1.ext hx5; obtain ⟨z1, z1'⟩ := (HR.out).2.1.ext hx5; obtain ⟨z2, z2'⟩ := (HR.out).2.2.ext hx5; have HX5 := Lib.hid hx5; clear hx5))
    refine bodyPost_ret (results_cell2 rfl _ _ (w.heap.size + 1) 0 [.slice none 0 0, .int .i64 0, .slice none 0 0] _ rfl (box3 ⟨z0, z0'⟩ ⟨z1, z1'⟩ ⟨z2, z2'⟩ _ _ _) rfl rfl (by kernel_rfl)) rfl ?_
    rw [HG.out]
    exact ⟨⟨_, rfl, stateO_nil _ _⟩, ret_ext (HE1.out.trans HX5.out) _ _ _⟩
end Go.Proofs.YtfajkebkhdcapaaGreat
end
section
/- Plain facts of what Do and Run answer, for the laws. -/
namespace Go.Proofs.YtfajkebkhdcapaaGreat
set_option maxHeartbeats 1000000

theorem doS_on {p : List GFunc} {s : GState} (hz : stateErr p s = 0) (h : 0 ≤ s.now) : ((doS p s).1 = 0 ∧ (doneG p s).1 = 0 ∧ (doS p s).2 = (doneG p s).2 ∧ stateErr p (doS p s).2 = 0) ∨
    ((doS p s).2 = ⟨[], 0, []⟩ ∧ (doS p s).1 = (doneG p s).1 ∧ ((doS p s).1 = 2 ∨ (doS p s).1 = 5 ∨ (doS p s).1 = 6 ∨ (doS p s).1 = 7)) := by
  obtain ⟨l, hl⟩ := ok_of_err hz
  have e : doS p s = if (doneG p s).1 = 0 then (0, (doneG p s).2) else ((doneG p s).1, ⟨[], 0, []⟩) := by
    unfold doS stepG
    rw [if_neg (fun k => k hz), if_neg (by omega)]
  rw [e]
  obtain ⟨_, hr⟩ := step_right hl h
  by_cases h0 : (doneG p s).1 = 0
  · rw [if_pos h0]
    left
    refine ⟨rfl, h0, rfl, ?_⟩
    rcases hr with ⟨_, l', h'⟩ | hr
    · exact h'.err
    · omega
  · rw [if_neg h0]
    right
    exact ⟨rfl, rfl, by rcases hr with ⟨hr, _⟩ | hr; · exact absurd hr h0
                        · exact hr⟩
/-- Where running stops. -/
structure EndF (p : List GFunc) (m : Int) (r : GState × Int × Int) : Prop where
  err : stateErr p r.1 = 0
  low : 0 ≤ r.2.1
  high : r.2.1 ≤ m
  bad : r.2.2 ≠ 0 → r.2.1 < m ∧ 0 ≤ r.1.now ∧ (doS p r.1).1 = r.2.2
  fine : r.2.2 = 0 → r.2.1 = m ∨ (r.1.now = -1 ∧ (doS p r.1).1 = 8)
open Go Go.RowKit
theorem fibers_of {w : World} {S : Nat → Prop} {x y : Value} {k : Int} {s : GState} (h : StateV w S (.agg #[x, .int .i64 k, y]) s) : Fibers w S x s.fibers := by
  obtain ⟨x', y', e, h3, _, _⟩ := h
  simp only [Value.agg.injEq, Array.mk.injEq, List.cons.injEq, and_true] at e
  rw [e.1]
  exact h3
theorem Sl.front {α : Type} {E : Nat → Nat → α → Prop} {sz bytes n cap : Nat} {a : Option Addr} {l r : List α} (h : Sl E sz bytes (.slice a n cap) l) {k : Nat} (hk : k ≤ n) (hr : l.take k = r) : Sl E sz bytes (.slice a k cap) r := by
  obtain ⟨a', cap', e, h1, h2, h3⟩ := h
  simp only [Value.slice.injEq] at e
  obtain ⟨rfl, rfl, rfl⟩ := e
  subst hr
  refine ⟨a, cap, by rw [List.length_take, Nat.min_eq_left hk], by rw [List.length_take]; omega, ⟨Nat.le_trans (Nat.mul_le_mul_right _ (by rw [List.length_take]; omega)) h2.1, h2.2⟩, fun i hi => ?_⟩
  rw [List.length_take] at hi
  obtain ⟨b, o, e, hE⟩ := h3 i (by omega)
  exact ⟨b, o, e, by rw [List.getElem_take]; exact hE⟩
theorem Ints.front {w : World} {S : Nat → Prop} {n cap : Nat} {a : Option Addr} {l r : List Int} (h : Ints w S (.slice a n cap) l) {k : Nat} (hk : k ≤ n) (hr : l.take k = r) : Ints w S (.slice a k cap) r := Sl.front h hk hr
/-- With more fuel no less is done. -/
structure FarF (m n : Int) (r q : List Int × Int × Int) : Prop where
  low : 0 ≤ r.2.1 ∧ r.2.1 ≤ m
  high : q.2.1 ≤ m + n
  le : r.2.1 ≤ q.2.1
  len : r.1.length ≤ q.1.length
  pre : q.1.take r.1.length = r.1
  err : r.2.2 = 0 ∨ (r.2.2 ≠ 0 ∧ r.2.2 = q.2.2 ∧ r.2.1 = q.2.1)
/-- Running on in two goes: r the first, q the second, a at one go. -/
structure SplitF (p : List GFunc) (m n : Int) (r q a : GState × Int × Int) : Prop where
  i0 : 0 ≤ r.2.1
  i1 : r.2.1 ≤ m
  j0 : 0 ≤ q.2.1
  j1 : q.2.1 ≤ n
  bad : r.2.2 ≠ 0 → a = r ∧ q.1 = r.1 ∧ q.2.1 = 0 ∧ ((n = 0 ∧ q.2.2 = 0) ∨ (0 < n ∧ q.2.2 = r.2.2))
  fine : r.2.2 = 0 → a = (q.1, r.2.1 + q.2.1, q.2.2) ∧ stateErr p q.1 = 0 ∧ (r.2.1 = m ∨ r.1.now = -1)
/-- A slice's own fiber, as a slice of one. -/
theorem Fibers.one {w : World} {S : Nat → Prop} {b o n cap : Nat} {l : List GFiber} (h : Fibers w S (.slice (some ⟨b, o, none⟩) n cap) l) {i : Nat} (hi : i < l.length) : StateV w S (.agg #[.slice (some ⟨b, o + i * 2, none⟩) 1 (cap - i), .int .i64 0, .slice none 0 0]) ⟨[l.getD i default], 0, []⟩ := by
  obtain ⟨a', cap', e, h1, h2, h3⟩ := h
  simp only [Value.slice.injEq] at e
  obtain ⟨rfl, rfl, rfl⟩ := e
  obtain ⟨b', o', e, hE⟩ := h3 i hi
  simp only [Option.some.injEq, Addr.mk.injEq, and_true] at e
  obtain ⟨rfl, rfl⟩ := e
  refine ⟨_, _, rfl, ⟨_, _, rfl, by simp only [List.length_singleton]; omega, ⟨by simp, by omega⟩, fun j hj => ⟨b, o + i * 2, rfl, ?_⟩⟩, I64.zero, Sl.nil _ _ _⟩
  have hj0 : j = 0 := by simpa using hj
  subst hj0
  rw [List.getElem_cons_zero, List.getD_eq_getElem?_getD, List.getElem?_eq_getElem hi]
  exact hE
theorem StateV.bd {w : World} {S : Nat → Prop} {a b : Option Addr} {n m c d : Nat} {k : Int} {s : GState} (h : StateV w S (.agg #[.slice a n c, .int .i64 k, .slice b m d]) s) :
    (n = s.fibers.length ∧ n ≤ c ∧ n * 32 ≤ 140737488355328 ∧ c ≤ 9223372036854775807) ∧ m = s.out.length ∧ m ≤ d ∧ m * 8 ≤ 140737488355328 ∧ d ≤ 9223372036854775807 := by
  obtain ⟨_, _, e, ⟨a1, c1, rfl, h1, h2, _⟩, _, ⟨a2, c2, rfl, h3, h4, _⟩⟩ := h
  simp only [Value.agg.injEq, Array.mk.injEq, List.cons.injEq, and_true, Value.slice.injEq] at e
  obtain ⟨⟨-, rfl, rfl⟩, -, -, rfl, rfl⟩ := e
  exact ⟨⟨rfl, h1, h2.1, h2.2⟩, rfl, h3, h4.1, h4.2⟩
end Go.Proofs.YtfajkebkhdcapaaGreat
end
