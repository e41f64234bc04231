/- Merged texts: contracts and plain facts, one part behind another; each part begins with what it says. -/
import Derived.Test.YtfajkebkhdcapaaGSAQ
import Derived.Test.YtfajkebkhdcapaaGSAT
import Derived.Test.YtfajkebkhdcapaaGSAY
section
/- Contract of runBegun. -/
set_option maxHeartbeats 4000000
set_option maxRecDepth 100000
namespace Go.Proofs.Ytfajkebkhdcapaa
open Go Go.RowKit

def yl3 : List GOp := [⟨0, 1⟩, ⟨15, 0⟩, ⟨12, 0⟩]
theorem all99 : allG countP 99 = ([7, 8, 99], 28, 0) := of_decide_eq_true (by kernel_rfl)
theorem all501 : allG countP 501 = ([], 0, 3) := by unfold allG; rw [if_pos (by omega)]
theorem allY : allG [⟨0, 0, yl3⟩] 9 = ([], 1, 7) := of_decide_eq_true (by kernel_rfl)
theorem run6 : runOfG countP ⟨[⟨[⟨0, 0, [0], []⟩], -1⟩], 0, []⟩ 6 = (A6, 6, 0) := of_decide_eq_true (by kernel_rfl)

theorem all_val (p : List GFunc) (v : Value) (S : Nat → Prop) (fuel : Int) (w : World) (hp : Funcs w S v p) {l : List Int} {k e : Int} {n : Nat} (h : allG p fuel = (l, k, e)) (hn : l.length = n) :
    Calls Try.prog 14 #[v, .int .i64 fuel] w fun r w' => (∃ a c, r = .returned (.tuple #[.slice a n c, .int .i64 k, .int .i64 e]) ∧ Ints w' (fun _ => True) (.slice a n c) l) ∧ Ext w w' := by
  refine (runAll_any p v S fuel w hp).mono fun r w' ⟨⟨x, hr, hx⟩, hb⟩ => ⟨?_, hb⟩
  rw [h] at hr hx
  subst hn
  have hx2 := hx
  obtain ⟨a, c, rfl, _, _, _⟩ := hx
  exact ⟨a, c, hr, hx2⟩
theorem run_val (v vs : Value) (S T : Nat → Prop) (w : World) (hp : Funcs w S v countP) (hs : StateV w T vs ⟨[⟨[⟨0, 0, [0], []⟩], -1⟩], 0, []⟩) :
    Calls Try.prog 23 #[v, vs, .int .i64 6] w fun r w' => (∃ a c b d, r = .returned (.tuple #[.agg #[.slice a 2 c, .int .i64 1, .slice b 0 d], .int .i64 6, .int .i64 0])) ∧ Ext w w' := by
  refine (runRun_any countP v S T _ vs 6 w hp hs).mono fun r w' ⟨⟨x, hr, hx⟩, hb⟩ => ⟨?_, hb⟩
  rw [run6] at hr hx
  obtain ⟨a, c, b, d, rfl⟩ := hx.few
  exact ⟨a, c, b, d, hr⟩

theorem runBegun_any (w : World) : Calls Try.prog 22 #[] w fun e w' => e = .returned (.bool true) ∧ Ext w w' := by
  go_enter Try.func22, Try.ntmps22
  go_upto_region 2 with (first
    | (go_at_call 28; refine (count_any _).mono ?_; rintro e w1 ⟨⟨v, rfl, hv⟩, hb1⟩; have hf := hv.funcs)
    | (go_at_call 14; (with_reducible refine (all_val countP _ _ 99 _ hf all99 (n := 3) rfl).mono ?_); rintro e w2 ⟨⟨a1, c1, rfl, hl1⟩, hb2⟩))
  have E2 := Lib.hid (hb1.trans hb2)
  have HL2 := Lib.hid hl1
  clear hf hv hb1 hb2 hl1
  go_upto_region 3 with (first
    | (go_at_call 28; have _z := hfA.out; refine (count_any _).mono ?_; rintro e w4 ⟨⟨v2, rfl, hv2⟩, hb4⟩; have hfB := hv2.funcs)
    | (go_at_call 28; refine (count_any _).mono ?_; rintro e w3 ⟨⟨v1, rfl, hv1⟩, hb3⟩; have hfA := Lib.hid hv1.funcs)
    | (go_at_call 41; (with_reducible refine (beginOf_val _ _ _ hfB).mono ?_); rintro e w5 ⟨⟨x, rfl, hx⟩, hb5⟩)
    | (go_at_call 23; (with_reducible refine (run_val _ _ _ _ _ (Funcs.stays (Ext.stays (hb4.trans hb5)) hfA.out) hx).mono ?_); rintro e w6 ⟨⟨a2, c2, b2, d2, rfl⟩, hb6⟩))
  have e3 : Ext w2 (w6.alloc (.cells #[.slice a2 2 c2, .int .i64 1, .slice b2 0 d2] 35)) := (((hb3.trans hb4).trans hb5).trans hb6).alloc _
  have cx3 := Cx.new w6 [.slice a2 2 c2, .int .i64 1, .slice b2 0 d2] 35 (j := 1) rfl
  generalize w6.heap.size = bx1 at *
  generalize w6.alloc (.cells #[.slice a2 2 c2, .int .i64 1, .slice b2 0 d2] 35) = w7 at *
  have E3 := Lib.hid (E2.out.trans e3)
  have CX3 := Lib.hid cx3
  have HL3 := Lib.hid (Ints.stays (Ext.stays e3) HL2.out)
  clear hfA hfB hv1 hv2 hx hb3 hb4 hb5 hb6 e3 cx3 E2 HL2
  rename World => w7
  go_upto_region 4 with (first
    | (go_at_call 28; refine (count_any _).mono ?_; rintro e w8 ⟨⟨v, rfl, hv⟩, hb1⟩; have hf := hv.funcs)
    | (go_at_call 14; (with_reducible refine (all_val countP _ _ 501 _ hf all501 (n := 0) rfl).mono ?_); rintro e w9 ⟨⟨a3, c3, rfl, hl3⟩, hb2⟩))
  have E4 := Lib.hid (E3.out.trans (hb1.trans hb2))
  have CX4 := Lib.hid (CX3.out.ext (hb1.trans hb2))
  have HL4 := Lib.hid (Ints.stays (Ext.stays (hb1.trans hb2)) HL3.out)
  clear hf hv hb1 hb2 hl3 E3 CX3 HL3
  go_upto_region 5 with (first
    | (go_at_call 29; refine (o_any _ _ _).mono ?_; rintro e w10 ⟨rfl, hb⟩)
    | (go_at_call 14; (with_reducible refine (all_val [⟨0, 0, yl3⟩] _ _ 9 _ (prog_ops _ yl3 3 rfl #[.int .i64 0, .int .i64 1, .int .i64 15, .int .i64 0, .int .i64 12, .int .i64 0] rfl (small_ops (by decide)) (by decide) _ _) allY (n := 0) rfl).mono ?_); rintro e w11 ⟨⟨a4, c4, rfl, hl4⟩, hb3⟩))
  have e5 : Ext w9 w11 := by ((repeat (first | assumption | exact Ext.refl _ | (exact And.left (by assumption)) | refine Ext.alloc ?_ _ | refine Ext.drew ?_ | refine Ext.drewN ?_ _ | refine Ext.setCell ?_ (by simp) _ | refine Ext.setCell ?_ (by simp; omega) _ | refine Ext.trans ?_ (by assumption))); done)
  have E5 := Lib.hid (E4.out.trans e5)
  have hx := CX4.out.ext e5
  have HL5 := Lib.hid (Ints.stays (Ext.stays e5) HL4.out)
  clear hl4 hb3 e5 E4 CX4 HL4
  obtain ⟨hx0, -⟩ := hx
  have RA := alloc_keep
  go_wp2_with (first
    | (go_at_call 16; (refine (sameInts_any [7, 8, 99] [7, 8, 99] _ _ _ _ _ (Ints.stays (Ext.stays (by ((repeat (first | assumption | exact Ext.refl _ | (exact And.left (by assumption)) | refine Ext.alloc ?_ _ | refine Ext.drew ?_ | refine Ext.drewN ?_ _ | refine Ext.setCell ?_ (by simp) _ | refine Ext.setCell ?_ (by simp; omega) _ | refine Ext.trans ?_ (by assumption))); done))) HL5.out) (ints_box _ [7, 8, 99] 3 rfl (by intro x hx; simp at hx; rcases hx with rfl | rfl | rfl <;> exact I64.small (by decide) (by decide)) (by decide) _ _ rfl)).mono ?_); rintro e w12 ⟨rfl, hb12⟩; rw [show decide (([7, 8, 99] : List Int) = [7, 8, 99]) = true by decide]; have hc := Ext.keep hb12))
  go_ret
  exact ⟨rfl, E5.out.trans (by ((repeat (first | assumption | exact Ext.refl _ | (exact And.left (by assumption)) | refine Ext.alloc ?_ _ | refine Ext.drew ?_ | refine Ext.drewN ?_ _ | refine Ext.setCell ?_ (by simp) _ | refine Ext.setCell ?_ (by simp; omega) _ | refine Ext.trans ?_ (by assumption))); done))⟩
end Go.Proofs.Ytfajkebkhdcapaa
end
section
/- Contract of stepBegun. -/
set_option maxHeartbeats 4000000
set_option maxRecDepth 100000
namespace Go.Proofs.Ytfajkebkhdcapaa
open Go Go.RowKit

def A4 : GState := ⟨[⟨[⟨0, 4, [1], [1, 7]⟩], -1⟩, ⟨[⟨1, 0, [0], []⟩], -1⟩], 0, []⟩
def D4 : GState := ⟨[⟨[⟨0, 5, [1], []⟩], -1⟩, ⟨[⟨1, 0, [7], []⟩], 0⟩], 1, []⟩
def ADone : GState := ⟨[⟨[], -1⟩, ⟨[], -1⟩], -1, [7, 8, 99]⟩
def YS : GState := ⟨[⟨[⟨0, 1, [], [1]⟩], -1⟩], 0, []⟩
theorem after4 : afterG 4 = A4 := of_decide_eq_true (by kernel_rfl)
theorem afterDone : afterG 99 = ADone := of_decide_eq_true (by kernel_rfl)
theorem do4 : doS countP A4 = (0, D4) := of_decide_eq_true (by kernel_rfl)
theorem do6 : doS countP A6 = (0, A7) := of_decide_eq_true (by kernel_rfl)
theorem doDone : doS countP ADone = (8, ⟨[], 0, []⟩) := of_decide_eq_true (by kernel_rfl)
theorem doY : doS [⟨0, 0, yl3⟩] YS = (7, ⟨[], 0, []⟩) := of_decide_eq_true (by kernel_rfl)
theorem after_4 (v : Value) (S : Nat → Prop) (w : World) (hv : Funcs w S v countP) : Calls Try.prog 36 #[v, .int .i64 4] w fun e w' => (∃ x, e = .returned x ∧ StateO w' w.heap.size x A4) ∧ Ext w w' := after_val v S 4 w A4 hv fit_4 after4
theorem after_done (v : Value) (S : Nat → Prop) (w : World) (hv : Funcs w S v countP) : Calls Try.prog 36 #[v, .int .i64 99] w fun e w' => (∃ x, e = .returned x ∧ StateO w' w.heap.size x ADone) ∧ Ext w w' := after_val v S 99 w ADone hv fit_99 afterDone

theorem do_val (p : List GFunc) (s t : GState) (v vs : Value) (S T : Nat → Prop) (w : World) (hp : Funcs w S v p) (hs : StateV w T vs s) {e k : Int} {n m : Nat} (h : doS p s = (e, t)) (hn : t.fibers.length = n) (hm : t.out.length = m) (hk : t.now = k) :
    Calls Try.prog 19 #[v, vs] w fun r w' => (∃ a c b d, r = .returned (.tuple #[.agg #[.slice a n c, .int .i64 k, .slice b m d], .int .i64 e]) ∧ StateV w' (fun _ => True) (.agg #[.slice a n c, .int .i64 k, .slice b m d]) t) ∧ Ext w w' := by
  refine (stepDo_any p v S T s vs w hp hs).mono fun r w' ⟨⟨x, hr, hx⟩, hb⟩ => ⟨?_, hb⟩
  rw [h] at hr hx
  have hx2 := StateV.stays (T := fun _ => True) (Stays.widen (fun _ _ => trivial)) hx.state
  obtain ⟨a, c, b, d, rfl⟩ := hx.few
  subst hn hm hk
  exact ⟨a, c, b, d, hr, hx2⟩

theorem D4_read {w : World} {a b : Option Addr} {n m c d : Nat} {k : Int} (h : StateV w (fun _ => True) (.agg #[.slice a n c, .int .i64 k, .slice b m d]) D4) : ∃ g o, a = some ⟨g, o, none⟩ ∧ w.cell? ⟨g, o + 2 + 1, none⟩ = some (.int .i64 0) ∧ ∃ g2 o2 c2, w.cell? ⟨g, o + 2, none⟩ = some (.slice (some ⟨g2, o2, none⟩) 1 c2) ∧ ∃ a3 c3, w.cell? ⟨g2, o2 + 2, none⟩ = some (.slice a3 1 c3) ∧ Ints w (fun _ => True) (.slice a3 1 c3) [7] := by
  obtain ⟨x, y, e, hF, _, _⟩ := h
  simp only [Value.agg.injEq, Array.mk.injEq, List.cons.injEq, and_true] at e
  obtain ⟨rfl, -, -⟩ := e
  obtain ⟨g, o, cap, e, _, _, ⟨vf, h0, hf⟩, _, h1, _⟩ := hF.get (i := 1) (by show 1 < 2; omega)
  simp only [Value.slice.injEq] at e
  obtain ⟨rfl, -, -⟩ := e
  obtain ⟨g2, o2, c2, rfl, _, _, _, _, ⟨vl, h2, hl⟩, _⟩ := hf.get (i := 0) (by show 0 < 1; omega)
  have hl2 := hl
  obtain ⟨a3, c3, rfl, _, _, _⟩ := hl
  exact ⟨g, o, rfl, h1, g2, o2, c2, h0, a3, c3, h2, hl2⟩
theorem A7_read {w : World} {a b : Option Addr} {n m c d : Nat} {k : Int} (h : StateV w (fun _ => True) (.agg #[.slice a n c, .int .i64 k, .slice b m d]) A7) : ∃ g o, a = some ⟨g, o, none⟩ ∧ w.cell? ⟨g, o + 2 + 1, none⟩ = some (.int .i64 (-1)) ∧ ∃ g2 o2 c2, w.cell? ⟨g, o, none⟩ = some (.slice (some ⟨g2, o2, none⟩) 1 c2) ∧ ∃ a3 c3, w.cell? ⟨g2, o2 + 3, none⟩ = some (.slice a3 1 c3) ∧ Ints w (fun _ => True) (.slice a3 1 c3) [7] := by
  obtain ⟨x, y, e, hF, _, _⟩ := h
  simp only [Value.agg.injEq, Array.mk.injEq, List.cons.injEq, and_true] at e
  obtain ⟨rfl, -, -⟩ := e
  obtain ⟨g, o, cap, e, _, _, _, _, h1, _⟩ := hF.get (i := 1) (by show 1 < 2; omega)
  obtain ⟨g', o', cap', e', _, _, ⟨vf, h0, hf⟩, _⟩ := hF.get (i := 0) (by show 0 < 2; omega)
  simp only [Value.slice.injEq] at e e'
  obtain ⟨rfl, -, -⟩ := e
  obtain ⟨e', -, -⟩ := e'
  simp only [Option.some.injEq, Addr.mk.injEq, and_true] at e'
  obtain ⟨rfl, rfl⟩ := e'
  obtain ⟨g2, o2, c2, rfl, _, _, _, _, _, vl, h2, hl⟩ := hf.get (i := 0) (by show 0 < 1; omega)
  have hl2 := hl
  obtain ⟨a3, c3, rfl, _, _, _⟩ := hl
  exact ⟨g, o, rfl, h1, g2, o2, c2, h0, a3, c3, h2, hl2⟩

theorem ys_state (W : World) (N : Nat) (hN : W.heap.size = N) (t1 t2 t3 : TypeId) : StateV (((W.alloc (.cells #[.int .i64 1] t1)).alloc (.cells #[.int .i64 0, .int .i64 1, .slice none 0 0, .slice (some ⟨N, 0, none⟩) 1 1] t2)).alloc (.cells #[.slice (some ⟨N + 1, 0, none⟩) 1 1, .int .i64 (-1)] t3)) (fun _ => True) (.agg #[.slice (some ⟨N + 1 + 1, 0, none⟩) 1 1, .int .i64 0, .slice none 0 0]) YS := by
  subst hN
  have s1 : (W.alloc (.cells #[.int .i64 1] t1)).heap.size = W.heap.size + 1 := Array.size_push _
  have s2 : ((W.alloc (.cells #[.int .i64 1] t1)).alloc (.cells #[.int .i64 0, .int .i64 1, .slice none 0 0, .slice (some ⟨W.heap.size, 0, none⟩) 1 1] t2)).heap.size = W.heap.size + 1 + 1 := by rw [show ∀ (u : World) o, (u.alloc o).heap.size = u.heap.size + 1 from fun u o => Array.size_push _, s1]
  have X2 : Ext ((W.alloc (.cells #[.int .i64 1] t1)).alloc (.cells #[.int .i64 0, .int .i64 1, .slice none 0 0, .slice (some ⟨W.heap.size, 0, none⟩) 1 1] t2)) (((W.alloc (.cells #[.int .i64 1] t1)).alloc (.cells #[.int .i64 0, .int .i64 1, .slice none 0 0, .slice (some ⟨W.heap.size, 0, none⟩) 1 1] t2)).alloc (.cells #[.slice (some ⟨W.heap.size + 1, 0, none⟩) 1 1, .int .i64 (-1)] t3)) := (Ext.refl _).alloc _
  have X1 : Ext (W.alloc (.cells #[.int .i64 1] t1)) (((W.alloc (.cells #[.int .i64 1] t1)).alloc (.cells #[.int .i64 0, .int .i64 1, .slice none 0 0, .slice (some ⟨W.heap.size, 0, none⟩) 1 1] t2)).alloc (.cells #[.slice (some ⟨W.heap.size + 1, 0, none⟩) 1 1, .int .i64 (-1)] t3)) := ((Ext.refl _).alloc _).trans X2
  have c0 := ((Cx.new W [.int .i64 1] t1 (j := 0) rfl).ext X1).1
  have f0 := ((Cx.new (W.alloc (.cells #[.int .i64 1] t1)) [.int .i64 0, .int .i64 1, .slice none 0 0, .slice (some ⟨W.heap.size, 0, none⟩) 1 1] t2 (j := 0) rfl).ext X2).1
  have f1 := ((Cx.new (W.alloc (.cells #[.int .i64 1] t1)) [.int .i64 0, .int .i64 1, .slice none 0 0, .slice (some ⟨W.heap.size, 0, none⟩) 1 1] t2 (j := 1) rfl).ext X2).1
  have f2 := ((Cx.new (W.alloc (.cells #[.int .i64 1] t1)) [.int .i64 0, .int .i64 1, .slice none 0 0, .slice (some ⟨W.heap.size, 0, none⟩) 1 1] t2 (j := 2) rfl).ext X2).1
  have f3 := ((Cx.new (W.alloc (.cells #[.int .i64 1] t1)) [.int .i64 0, .int .i64 1, .slice none 0 0, .slice (some ⟨W.heap.size, 0, none⟩) 1 1] t2 (j := 3) rfl).ext X2).1
  have g0 := (Cx.new ((W.alloc (.cells #[.int .i64 1] t1)).alloc (.cells #[.int .i64 0, .int .i64 1, .slice none 0 0, .slice (some ⟨W.heap.size, 0, none⟩) 1 1] t2)) [.slice (some ⟨W.heap.size + 1, 0, none⟩) 1 1, .int .i64 (-1)] t3 (j := 0) rfl).1
  have g1 := (Cx.new ((W.alloc (.cells #[.int .i64 1] t1)).alloc (.cells #[.int .i64 0, .int .i64 1, .slice none 0 0, .slice (some ⟨W.heap.size, 0, none⟩) 1 1] t2)) [.slice (some ⟨W.heap.size + 1, 0, none⟩) 1 1, .int .i64 (-1)] t3 (j := 1) rfl).1
  rw [s1] at f0 f1 f2 f3
  rw [s2] at g0 g1
  have i64 : ∀ n : Int, -5 ≤ n → n ≤ 5 → I64 n := fun n a b => I64.small (by omega) (by omega)
  refine ⟨_, _, rfl, ⟨_, _, rfl, Nat.le_refl _, by simp [YS], fun i hi => ⟨_, 0, rfl, ?_⟩⟩, I64.zero, Sl.nil _ _ _⟩
  match i, hi with
  | 0, _ =>
    refine ⟨⟨_, g0, ⟨_, _, rfl, Nat.le_refl _, by simp [YS], fun i hi => ⟨_, 0, rfl, ?_⟩⟩⟩, trivial, g1, (i64 (-1) (by decide) (by decide) : I64 (-1))⟩
    match i, hi with
    | 0, _ =>
      refine ⟨⟨trivial, f0, I64.zero⟩, ⟨trivial, f1, (i64 1 (by decide) (by decide) : I64 1)⟩, ⟨_, f2, Sl.nil _ _ _⟩, _, f3, ⟨_, _, rfl, Nat.le_refl _, by simp [YS], fun i hi => ⟨_, 0, rfl, ?_⟩⟩⟩
      match i, hi with
      | 0, _ => exact ⟨trivial, c0, (i64 1 (by decide) (by decide) : I64 1)⟩

theorem same7_any (v : Value) (w : World) (t : TypeId) (hv : Ints w (fun _ => True) v [7]) : Calls Try.prog 16 #[v, .slice (some ⟨w.heap.size, 0, none⟩) 1 1] (w.alloc (.cells #[.int .i64 7] t)) fun e w' => e = .returned (.bool true) ∧ Ext w w' := by
  refine (sameInts_any [7] [7] _ _ (fun _ => True) (fun _ => True) _ (Ints.stays (Ext.stays ((Ext.refl _).alloc _)) hv) (ints_box _ [7] 1 rfl (by intro x hx; simp at hx; rcases hx with rfl; exact I64.small (by decide) (by decide)) (by decide) _ _ rfl)).mono ?_
  rintro e w12 ⟨rfl, hb12⟩
  rw [show decide (([7] : List Int) = [7]) = true by decide]
  exact ⟨rfl, ((Ext.refl _).alloc _).trans hb12⟩

theorem stepBegun_any (w : World) : Calls Try.prog 18 #[] w fun e w' => e = .returned (.bool true) ∧ Ext w w' := by
  go_enter Try.func18, Try.ntmps18
  go_upto_region 2 with (first
    | (go_at_call 28; have _z := hfA.out; refine (count_any _).mono ?_; rintro e w2 ⟨⟨v2, rfl, hv2⟩, hb2⟩; have hfB := hv2.funcs)
    | (go_at_call 28; refine (count_any _).mono ?_; rintro e w1 ⟨⟨v1, rfl, hv1⟩, hb1⟩; have hfA := Lib.hid hv1.funcs)
    | (go_at_call 36; (with_reducible refine (after_4 _ _ _ hfB).mono ?_); rintro e w3 ⟨⟨x, rfl, hx⟩, hb3⟩; have hxs := hx.state)
    | (go_at_call 19; (with_reducible refine (do_val countP A4 D4 _ _ _ _ _ (Funcs.stays (Ext.stays (hb2.trans hb3)) hfA.out) hxs do4 (n := 2) (m := 0) (k := 1) rfl rfl rfl).mono ?_); rintro e w4 ⟨⟨aA, cA, bA, dA, rfl, hA⟩, hb4⟩))
  have e1 : Ext w (w4.alloc (.cells #[.slice aA 2 cA, .int .i64 1, .slice bA 0 dA] 35)) := (((hb1.trans hb2).trans hb3).trans hb4).alloc _
  have XA := Lib.hid (⟨Cx.new w4 [.slice aA 2 cA, .int .i64 1, .slice bA 0 dA] 35 (j := 0) rfl, Cx.new w4 [.slice aA 2 cA, .int .i64 1, .slice bA 0 dA] 35 (j := 1) rfl⟩ : _ ∧ _)
  have HA := Lib.hid (StateV.stays (Ext.stays ((Ext.refl w4).alloc (.cells #[.slice aA 2 cA, .int .i64 1, .slice bA 0 dA] 35))) hA)
  generalize w4.heap.size = bx1 at *
  generalize w4.alloc (.cells #[.slice aA 2 cA, .int .i64 1, .slice bA 0 dA] 35) = u0 at *
  have E := Lib.hid e1
  clear hfA hfB hv1 hv2 hb1 hb2 hb3 hb4 hx hxs hA e1
  rename World => u0
  go_upto_region 3 with (first
    | (go_at_call 28; have _z := hfA.out; refine (count_any _).mono ?_; rintro e w2 ⟨⟨v2, rfl, hv2⟩, hb2⟩; have hfB := hv2.funcs)
    | (go_at_call 28; refine (count_any _).mono ?_; rintro e w1 ⟨⟨v1, rfl, hv1⟩, hb1⟩; have hfA := Lib.hid hv1.funcs)
    | (go_at_call 36; (with_reducible refine (after_6 _ _ _ hfB).mono ?_); rintro e w3 ⟨⟨x, rfl, hx⟩, hb3⟩; have hxs := hx.state)
    | (go_at_call 19; (with_reducible refine (do_val countP A6 A7 _ _ _ _ _ (Funcs.stays (Ext.stays (hb2.trans hb3)) hfA.out) hxs do6 (n := 2) (m := 0) (k := 0) rfl rfl rfl).mono ?_); rintro e w4 ⟨⟨aB, cB, bB, dB, rfl, hB⟩, hb4⟩))
  have e1 : Ext u0 (w4.alloc (.cells #[.slice aB 2 cB, .int .i64 0, .slice bB 0 dB] 35)) := (((hb1.trans hb2).trans hb3).trans hb4).alloc _
  have XB := Lib.hid (⟨Cx.new w4 [.slice aB 2 cB, .int .i64 0, .slice bB 0 dB] 35 (j := 0) rfl, Cx.new w4 [.slice aB 2 cB, .int .i64 0, .slice bB 0 dB] 35 (j := 1) rfl⟩ : _ ∧ _)
  have HB := Lib.hid (StateV.stays (Ext.stays ((Ext.refl w4).alloc (.cells #[.slice aB 2 cB, .int .i64 0, .slice bB 0 dB] 35))) hB)
  generalize w4.heap.size = bx2 at *
  generalize w4.alloc (.cells #[.slice aB 2 cB, .int .i64 0, .slice bB 0 dB] 35) = u1 at *
  have E := Lib.hid (E.out.trans e1)
  have XA := Lib.hid (⟨XA.out.1.ext e1, XA.out.2.ext e1⟩ : _ ∧ _)
  have HA := Lib.hid (StateV.stays (Ext.stays e1) HA.out)
  clear hfA hfB hv1 hv2 hb1 hb2 hb3 hb4 hx hxs hB e1
  rename World => u1
  go_upto_region 4 with (first
    | (go_at_call 28; have _z := hfA.out; refine (count_any _).mono ?_; rintro e w2 ⟨⟨v2, rfl, hv2⟩, hb2⟩; have hfB := hv2.funcs)
    | (go_at_call 28; refine (count_any _).mono ?_; rintro e w1 ⟨⟨v1, rfl, hv1⟩, hb1⟩; have hfA := Lib.hid hv1.funcs)
    | (go_at_call 36; (with_reducible refine (after_done _ _ _ hfB).mono ?_); rintro e w3 ⟨⟨x, rfl, hx⟩, hb3⟩; have hxs := hx.state)
    | (go_at_call 19; (with_reducible refine (do_val countP ADone _ _ _ _ _ _ (Funcs.stays (Ext.stays (hb2.trans hb3)) hfA.out) hxs doDone (n := 0) (m := 0) (k := 0) rfl rfl rfl).mono ?_); rintro e w4 ⟨⟨aC, cC, bC, dC, rfl, hC⟩, hb4⟩))
  have e1 : Ext u1 (w4.alloc (.cells #[.slice aC 0 cC, .int .i64 0, .slice bC 0 dC] 35)) := (((hb1.trans hb2).trans hb3).trans hb4).alloc _
  generalize w4.heap.size = bx3 at *
  generalize w4.alloc (.cells #[.slice aC 0 cC, .int .i64 0, .slice bC 0 dC] 35) = u2 at *
  have E := Lib.hid (E.out.trans e1)
  have XA := Lib.hid (⟨XA.out.1.ext e1, XA.out.2.ext e1⟩ : _ ∧ _)
  have HA := Lib.hid (StateV.stays (Ext.stays e1) HA.out)
  have XB := Lib.hid (⟨XB.out.1.ext e1, XB.out.2.ext e1⟩ : _ ∧ _)
  have HB := Lib.hid (StateV.stays (Ext.stays e1) HB.out)
  clear hfA hfB hv1 hv2 hb1 hb2 hb3 hb4 hx hxs hC e1
  rename World => u2
  go_upto_region 5 with (first
    | (go_at_call 29; refine (o_any _ _ _).mono ?_; rintro e w10 ⟨rfl, hb⟩)
    | (go_at_call 19; (with_reducible refine (do_val [⟨0, 0, yl3⟩] YS _ _ _ (fun _ => True) (fun _ => True) _ (Funcs.stays (Ext.stays (by ((repeat (first | assumption | exact Ext.refl _ | (exact And.left (by assumption)) | refine Ext.alloc ?_ _ | refine Ext.drew ?_ | refine Ext.drewN ?_ _ | refine Ext.setCell ?_ (by simp) _ | refine Ext.setCell ?_ (by simp; omega) _ | refine Ext.trans ?_ (by assumption))); done))) (prog_ops _ yl3 3 rfl #[.int .i64 0, .int .i64 1, .int .i64 15, .int .i64 0, .int .i64 12, .int .i64 0] rfl (small_ops (by decide)) (by decide) _ _)) (ys_state _ _ (by simp) _ _ _) doY (n := 0) (m := 0) (k := 0) rfl rfl rfl).mono ?_); rintro e w11 ⟨⟨aD, cD, bD, dD, rfl, hD⟩, hb4⟩))
  have e1 : Ext u2 (w11.alloc (.cells #[.slice aD 0 cD, .int .i64 0, .slice bD 0 dD] 35)) := by ((repeat (first | assumption | exact Ext.refl _ | (exact And.left (by assumption)) | refine Ext.alloc ?_ _ | refine Ext.drew ?_ | refine Ext.drewN ?_ _ | refine Ext.setCell ?_ (by simp) _ | refine Ext.setCell ?_ (by simp; omega) _ | refine Ext.trans ?_ (by assumption))); done)
  generalize w11.heap.size = bx4 at *
  generalize w11.alloc (.cells #[.slice aD 0 cD, .int .i64 0, .slice bD 0 dD] 35) = u3 at *
  have E := Lib.hid (E.out.trans e1)
  obtain ⟨⟨xa0, -⟩, xa1, -⟩ := (⟨XA.out.1.ext e1, XA.out.2.ext e1⟩ : _ ∧ _)
  obtain ⟨⟨xb0, -⟩, xb1, -⟩ := (⟨XB.out.1.ext e1, XB.out.2.ext e1⟩ : _ ∧ _)
  obtain ⟨ga, oa, rfl, ha1, ga2, oa2, ca2, ha2, aa3, ca3, ha3, hai⟩ := D4_read (StateV.stays (Ext.stays e1) HA.out)
  obtain ⟨gb, ob, rfl, hb1, gb2, ob2, cb2, hb2, ab3, cb3, hb3, hbi⟩ := A7_read (StateV.stays (Ext.stays e1) HB.out)
  have HAI := Lib.hid hai
  have HBI := Lib.hid hbi
  clear hD hb4 e1 hai hbi XA XB HA HB
  rename World => u3
  dsimp only [List.append]

  have RA := alloc_keep
  go_wp2_with (first
    | (go_at_call 16; have _z := HAI.out; (with_reducible refine (same7_any _ _ _ HAI.out).mono ?_); rintro e w12 ⟨rfl, hb12⟩; have hc := Ext.keep hb12; have HB2 := Lib.hid (Ints.stays (Ext.stays hb12) HBI.out); have E := Lib.hid (E.out.trans hb12); clear HAI HBI _z hb12)
    | (go_at_call 16; (with_reducible refine (same7_any _ _ _ HB2.out).mono ?_); rintro e w13 ⟨rfl, hb13⟩))
  go_ret
  exact ⟨rfl, E.out.trans hb13⟩
end Go.Proofs.Ytfajkebkhdcapaa
end
section
/- Plain facts of what Do and Run answer, for the laws. -/
namespace Go.Proofs.Ytfajkebkhdcapaa
set_option maxHeartbeats 1000000

theorem doS_bad {p : List GFunc} {s : GState} (hz : stateErr p s ≠ 0) : doS p s = (stateErr p s, ⟨[], 0, []⟩) := by unfold doS; rw [if_pos hz]
theorem doS_over {p : List GFunc} {s : GState} (hz : stateErr p s = 0) (h : s.now < 0) : doS p s = (8, ⟨[], 0, []⟩) ∧ s.now = -1 := by
  obtain ⟨l, hl⟩ := ok_of_err hz
  refine ⟨?_, by have := hl.now; omega⟩
  unfold doS stepG
  rw [if_neg (fun k => k hz), if_pos h]
theorem doS_on {p : List GFunc} {s : GState} (hz : stateErr p s = 0) (h : 0 ≤ s.now) : ((doS p s).1 = 0 ∧ (doneG p s).1 = 0 ∧ (doS p s).2 = (doneG p s).2 ∧ stateErr p (doS p s).2 = 0) ∨
    ((doS p s).2 = ⟨[], 0, []⟩ ∧ (doS p s).1 = (doneG p s).1 ∧ ((doS p s).1 = 2 ∨ (doS p s).1 = 5 ∨ (doS p s).1 = 6 ∨ (doS p s).1 = 7)) := by
  obtain ⟨l, hl⟩ := ok_of_err hz
  have e : doS p s = if (doneG p s).1 = 0 then (0, (doneG p s).2) else ((doneG p s).1, ⟨[], 0, []⟩) := by
    unfold doS stepG
    rw [if_neg (fun k => k hz), if_neg (by omega)]
  rw [e]
  obtain ⟨_, hr⟩ := step_right hl h
  by_cases h0 : (doneG p s).1 = 0
  · rw [if_pos h0]
    left
    refine ⟨rfl, h0, rfl, ?_⟩
    rcases hr with ⟨_, l', h'⟩ | hr
    · exact h'.err
    · omega
  · rw [if_neg h0]
    right
    exact ⟨rfl, rfl, by rcases hr with ⟨hr, _⟩ | hr; · exact absurd hr h0
                        · exact hr⟩
theorem doS_ok {p : List GFunc} {s : GState} (h : (doS p s).1 = 0) : stateErr p s = 0 ∧ 0 ≤ s.now ∧ (doneG p s).1 = 0 ∧ (doS p s).2 = (doneG p s).2 ∧ stateErr p (doS p s).2 = 0 := by
  by_cases hz : stateErr p s = 0
  · by_cases hn : s.now < 0
    · rw [(doS_over hz hn).1] at h; cases h
    · rcases doS_on hz (by omega) with ⟨_, b, c, d⟩ | ⟨_, _, c⟩
      · exact ⟨hz, by omega, b, c, d⟩
      · omega
  · rw [doS_bad hz] at h; exact absurd h hz
theorem doS_err {p : List GFunc} {s : GState} (hz : stateErr p s = 0) (h : (doS p s).1 ≠ 0) : (doS p s).2 = ⟨[], 0, []⟩ ∧ (((doS p s).1 = 8 ∧ s.now = -1) ∨ (s.now ≠ -1 ∧ ((doS p s).1 = 2 ∨ (doS p s).1 = 5 ∨ (doS p s).1 = 6 ∨ (doS p s).1 = 7))) := by
  by_cases hn : s.now < 0
  · obtain ⟨a, b⟩ := doS_over hz hn
    rw [a]; exact ⟨rfl, .inl ⟨rfl, b⟩⟩
  · rcases doS_on hz (by omega) with ⟨a, _⟩ | ⟨a, _, c⟩
    · exact absurd a h
    · exact ⟨a, .inr ⟨by omega, c⟩⟩
/-- Where running stops. -/
structure EndF (p : List GFunc) (m : Int) (r : GState × Int × Int) : Prop where
  err : stateErr p r.1 = 0
  low : 0 ≤ r.2.1
  high : r.2.1 ≤ m
  bad : r.2.2 ≠ 0 → r.2.1 < m ∧ 0 ≤ r.1.now ∧ (doS p r.1).1 = r.2.2
  fine : r.2.2 = 0 → r.2.1 = m ∨ (r.1.now = -1 ∧ (doS p r.1).1 = 8)
theorem runOf_eq {p : List GFunc} {s : GState} (hz : stateErr p s = 0) {m : Int} (h0 : 0 ≤ m) (h1 : m ≤ 500) : runOfG p s m = runG p m.toNat s := by
  unfold runOfG
  rw [if_neg (fun k => k ⟨h0, h1⟩), if_neg (fun k => k hz)]
theorem runOf_bad {p : List GFunc} {s : GState} (hz : stateErr p s ≠ 0) {m : Int} (h0 : 0 ≤ m) (h1 : m ≤ 500) : runOfG p s m = (⟨[], 0, []⟩, 0, stateErr p s) := by
  unfold runOfG
  rw [if_neg (fun k => k ⟨h0, h1⟩), if_pos hz]
theorem endF {p : List GFunc} {s : GState} (hz : stateErr p s = 0) {m : Int} (h0 : 0 ≤ m) (h1 : m ≤ 500) : EndF p m (runOfG p s m) := by
  obtain ⟨l, hl⟩ := ok_of_err hz
  rw [runOf_eq hz h0 h1]
  obtain ⟨⟨l', hl'⟩, hf, hb⟩ := run_ran m.toNat hl
  obtain ⟨c1, c2⟩ := run_count p m.toNat s
  have he := hl'.err
  refine ⟨he, c1, by omega, fun h => ?_, fun h => ?_⟩
  · obtain ⟨b1, b2, b3⟩ := hb h
    refine ⟨by omega, b2, ?_⟩
    rcases doS_on he b2 with ⟨_, k, _⟩ | ⟨_, k, _⟩
    · rw [k] at b3; exact absurd b3.symm h
    · rw [k, b3]
  · rcases hf h with h | h
    · left; omega
    · right; exact ⟨h, by rw [(doS_over he (by omega)).1]⟩
open Go Go.RowKit
theorem few0V {w : World} {S : Nat → Prop} {v : Value} (h : StateV w S v ⟨[], 0, []⟩) : ∃ a c b d, v = .agg #[.slice a 0 c, .int .i64 0, .slice b 0 d] := h.few
theorem ints0 {w : World} {S : Nat → Prop} {v : Value} (h : Ints w S v []) : ∃ a c, v = .slice a 0 c := by
  obtain ⟨a, c, rfl, _⟩ := h
  exact ⟨a, c, rfl⟩
theorem out_of {w : World} {S : Nat → Prop} {x y : Value} {k : Int} {s : GState} (h : StateV w S (.agg #[x, .int .i64 k, y]) s) : Ints w S y s.out := by
  obtain ⟨x', y', e, _, _, h3⟩ := h
  simp only [Value.agg.injEq, Array.mk.injEq, List.cons.injEq, and_true] at e
  rw [e.2.2]
  exact h3
theorem fibers_of {w : World} {S : Nat → Prop} {x y : Value} {k : Int} {s : GState} (h : StateV w S (.agg #[x, .int .i64 k, y]) s) : Fibers w S x s.fibers := by
  obtain ⟨x', y', e, h3, _, _⟩ := h
  simp only [Value.agg.injEq, Array.mk.injEq, List.cons.injEq, and_true] at e
  rw [e.1]
  exact h3
theorem Sl.front {α : Type} {E : Nat → Nat → α → Prop} {sz bytes n cap : Nat} {a : Option Addr} {l r : List α} (h : Sl E sz bytes (.slice a n cap) l) {k : Nat} (hk : k ≤ n) (hr : l.take k = r) : Sl E sz bytes (.slice a k cap) r := by
  obtain ⟨a', cap', e, h1, h2, h3⟩ := h
  simp only [Value.slice.injEq] at e
  obtain ⟨rfl, rfl, rfl⟩ := e
  subst hr
  refine ⟨a, cap, by rw [List.length_take, Nat.min_eq_left hk], by rw [List.length_take]; omega, ⟨Nat.le_trans (Nat.mul_le_mul_right _ (by rw [List.length_take]; omega)) h2.1, h2.2⟩, fun i hi => ?_⟩
  rw [List.length_take] at hi
  obtain ⟨b, o, e, hE⟩ := h3 i (by omega)
  exact ⟨b, o, e, by rw [List.getElem_take]; exact hE⟩
theorem Ints.front {w : World} {S : Nat → Prop} {n cap : Nat} {a : Option Addr} {l r : List Int} (h : Ints w S (.slice a n cap) l) {k : Nat} (hk : k ≤ n) (hr : l.take k = r) : Ints w S (.slice a k cap) r := Sl.front h hk hr
/-- With more fuel no less is done. -/
structure FarF (m n : Int) (r q : List Int × Int × Int) : Prop where
  low : 0 ≤ r.2.1 ∧ r.2.1 ≤ m
  high : q.2.1 ≤ m + n
  le : r.2.1 ≤ q.2.1
  len : r.1.length ≤ q.1.length
  pre : q.1.take r.1.length = r.1
  err : r.2.2 = 0 ∨ (r.2.2 ≠ 0 ∧ r.2.2 = q.2.2 ∧ r.2.1 = q.2.1)
theorem farF {p : List GFunc} (hz : progErr p = 0) {m n : Int} (m0 : 0 ≤ m) (m1 : m ≤ 249) (n0 : 0 ≤ n) (n1 : n ≤ 249) : FarF m n (allG p m) (allG p (m + n)) := by
  have e1 : ∀ k : Int, 0 ≤ k → k ≤ 500 → allG p k = ((runG p k.toNat (beginG p)).1.out, (runG p k.toNat (beginG p)).2.1, (runG p k.toNat (beginG p)).2.2) := fun k h0 h1 => by
    unfold allG
    rw [if_neg (fun h => h ⟨h0, h1⟩), if_neg (fun h => h hz)]
  rw [e1 m m0 (by omega), e1 (m + n) (by omega) (by omega), show (m + n).toNat = m.toNat + n.toNat by omega]
  obtain ⟨a1, a2⟩ := run_count p m.toNat (beginG p)
  obtain ⟨b1, b2⟩ := run_count p (m.toNat + n.toNat) (beginG p)
  by_cases h : (runG p m.toNat (beginG p)).2.2 = 0
  · obtain ⟨c1, c2⟩ := run_count p n.toNat (runG p m.toNat (beginG p)).1
    obtain ⟨v, hv⟩ := run_out p n.toNat (runG p m.toNat (beginG p)).1
    have hs := run_split p n.toNat m.toNat (beginG p) h
    refine ⟨⟨a1, by simp only; omega⟩, by simp only; omega, ?_, ?_, ?_, .inl h⟩
    · rw [hs]; simp only; omega
    · rw [hs]; simp only; rw [hv, List.length_append]; omega
    · rw [hs]; simp only; rw [hv, List.take_left]
  · rw [run_split_bad p n.toNat m.toNat _ h]
    exact ⟨⟨a1, by simp only; omega⟩, by simp only; omega, Int.le_refl _, Nat.le_refl _, List.take_length, .inr ⟨h, rfl, rfl⟩⟩
/-- Running on in two goes: r the first, q the second, a at one go. -/
structure SplitF (p : List GFunc) (m n : Int) (r q a : GState × Int × Int) : Prop where
  i0 : 0 ≤ r.2.1
  i1 : r.2.1 ≤ m
  j0 : 0 ≤ q.2.1
  j1 : q.2.1 ≤ n
  bad : r.2.2 ≠ 0 → a = r ∧ q.1 = r.1 ∧ q.2.1 = 0 ∧ ((n = 0 ∧ q.2.2 = 0) ∨ (0 < n ∧ q.2.2 = r.2.2))
  fine : r.2.2 = 0 → a = (q.1, r.2.1 + q.2.1, q.2.2) ∧ stateErr p q.1 = 0 ∧ (r.2.1 = m ∨ r.1.now = -1)
theorem splitF {p : List GFunc} {s : GState} (hz : stateErr p s = 0) {m n : Int} (m0 : 0 ≤ m) (m1 : m ≤ 249) (n0 : 0 ≤ n) (n1 : n ≤ 249) : SplitF p m n (runOfG p s m) (runOfG p (runOfG p s m).1 n) (runOfG p s (m + n)) := by
  have hE := endF hz m0 (show m ≤ 500 by omega)
  have hE2 := endF hE.err n0 (show n ≤ 500 by omega)
  refine ⟨hE.low, hE.high, hE2.low, hE2.high, fun h => ?_, fun h => ?_⟩
  · obtain ⟨b1, b2, b3⟩ := hE.bad h
    have hst : (doneG p (runOfG p s m).1).1 = (runOfG p s m).2.2 := by
      rcases doS_on hE.err b2 with ⟨k, _⟩ | ⟨_, k, _⟩
      · rw [k] at b3; exact absurd b3.symm h
      · rw [← k, b3]
    have hq : runOfG p (runOfG p s m).1 n = ((runOfG p s m).1, 0, if n.toNat = 0 then 0 else (runOfG p s m).2.2) := by
      rw [runOf_eq hE.err n0 (by omega), run_stuck b2 (by rw [hst]; exact h), hst]
    rw [hq]
    refine ⟨?_, rfl, rfl, ?_⟩
    · rw [runOf_eq hz m0 (by omega)] at h ⊢
      rw [runOf_eq hz (by omega) (by omega), show (m + n).toNat = m.toNat + n.toNat by omega]
      exact run_split_bad p n.toNat m.toNat s h
    · by_cases e : n = 0
      · left; exact ⟨e, by rw [if_pos (by omega)]⟩
      · right; exact ⟨by omega, by rw [if_neg (by omega)]⟩
  · refine ⟨?_, hE2.err, (hE.fine h).imp id (fun k => k.1)⟩
    rw [runOf_eq hE.err n0 (by omega)]
    rw [runOf_eq hz m0 (by omega)] at h ⊢
    rw [runOf_eq hz (by omega) (by omega), show (m + n).toNat = m.toNat + n.toNat by omega]
    exact run_split p n.toNat m.toNat s h
/-- A slice's own fiber, as a slice of one. -/
theorem Fibers.one {w : World} {S : Nat → Prop} {b o n cap : Nat} {l : List GFiber} (h : Fibers w S (.slice (some ⟨b, o, none⟩) n cap) l) {i : Nat} (hi : i < l.length) : StateV w S (.agg #[.slice (some ⟨b, o + i * 2, none⟩) 1 (cap - i), .int .i64 0, .slice none 0 0]) ⟨[l.getD i default], 0, []⟩ := by
  obtain ⟨a', cap', e, h1, h2, h3⟩ := h
  simp only [Value.slice.injEq] at e
  obtain ⟨rfl, rfl, rfl⟩ := e
  obtain ⟨b', o', e, hE⟩ := h3 i hi
  simp only [Option.some.injEq, Addr.mk.injEq, and_true] at e
  obtain ⟨rfl, rfl⟩ := e
  refine ⟨_, _, rfl, ⟨_, _, rfl, by simp only [List.length_singleton]; omega, ⟨by simp, by omega⟩, fun j hj => ⟨b, o + i * 2, rfl, ?_⟩⟩, I64.zero, Sl.nil _ _ _⟩
  have hj0 : j = 0 := by simpa using hj
  subst hj0
  rw [List.getElem_cons_zero, List.getD_eq_getElem?_getD, List.getElem?_eq_getElem hi]
  exact hE
theorem StateV.bd {w : World} {S : Nat → Prop} {a b : Option Addr} {n m c d : Nat} {k : Int} {s : GState} (h : StateV w S (.agg #[.slice a n c, .int .i64 k, .slice b m d]) s) :
    (n = s.fibers.length ∧ n ≤ c ∧ n * 32 ≤ 140737488355328 ∧ c ≤ 9223372036854775807) ∧ m = s.out.length ∧ m ≤ d ∧ m * 8 ≤ 140737488355328 ∧ d ≤ 9223372036854775807 := by
  obtain ⟨_, _, e, ⟨a1, c1, rfl, h1, h2, _⟩, _, ⟨a2, c2, rfl, h3, h4, _⟩⟩ := h
  simp only [Value.agg.injEq, Array.mk.injEq, List.cons.injEq, and_true, Value.slice.injEq] at e
  obtain ⟨⟨-, rfl, rfl⟩, -, -, rfl, rfl⟩ := e
  exact ⟨⟨rfl, h1, h2.1, h2.2⟩, rfl, h3, h4.1, h4.2⟩
end Go.Proofs.Ytfajkebkhdcapaa
end
section
/- Plain facts and readings for StepBack. -/
namespace Go.Proofs.Ytfajkebkhdcapaa
set_option maxHeartbeats 1000000
open Go Go.RowKit

theorem few3 {w : World} {S : Nat → Prop} {v : Value} {f : List GFiber} {n : Int} {o : List Int} (h : StateV w S v ⟨f, n, o⟩) : ∃ a c b d, v = .agg #[.slice a f.length c, .int .i64 n, .slice b o.length d] := h.few
theorem fewO {w : World} {B : Nat} {v : Value} {f : List GFiber} {n : Int} {o : List Int} (h : StateO w B v ⟨f, n, o⟩) : ∃ a c b d, v = .agg #[.slice a f.length c, .int .i64 n, .slice b o.length d] := h.few

/-- A fiber of a row: its frames, its caller. -/
theorem Fibers.cells {w : World} {S : Nat → Prop} {a : Option Addr} {n c : Nat} {l : List GFiber} (h : Fibers w S (.slice a n c) l) {i : Nat} (hi : i < l.length) :
    ∃ g o, a = some ⟨g, o, none⟩ ∧ (∃ vf, w.cell? ⟨g, o + i * 2, none⟩ = some vf ∧ Frames w S vf (l.getD i default).frames) ∧ w.cell? ⟨g, o + i * 2 + 1, none⟩ = some (.int .i64 (l.getD i default).caller) := by
  obtain ⟨g, o, cap, e, _, _, h1, _, h2, _⟩ := h.get hi
  simp only [Value.slice.injEq] at e
  have e2 : l.getD i default = l[i] := by rw [List.getD_eq_getElem?_getD, List.getElem?_eq_getElem hi]; rfl
  rw [e2]
  exact ⟨g, o, e.1, h1, h2⟩
/-- The top frame of a row of frames. -/
theorem Frames.last {w : World} {S : Nat → Prop} {v : Value} {gs : List GFrame} {y : GFrame} (h : Frames w S v (gs ++ [y])) {J N : Nat} (hJ : gs.length = J) (hN : J + 1 = N) :
    ∃ g o c, v = .slice (some ⟨g, o, none⟩) N c ∧ N ≤ c ∧ N * 64 ≤ 140737488355328 ∧ w.cell? ⟨g, o + J * 4, none⟩ = some (.int .i64 y.func) ∧ w.cell? ⟨g, o + J * 4 + 1, none⟩ = some (.int .i64 y.at_) ∧
      (∃ la lc, w.cell? ⟨g, o + J * 4 + 2, none⟩ = some (.slice la y.locals.length lc)) ∧ ∃ sa sc, w.cell? ⟨g, o + J * 4 + 3, none⟩ = some (.slice sa y.stack.length sc) ∧ Ints w S (.slice sa y.stack.length sc) y.stack := by
  subst hJ hN
  have hl : (gs ++ [y]).length = gs.length + 1 := by simp
  obtain ⟨g, o, c, rfl, h1, h2, ⟨_, f1, _⟩, ⟨_, f2, _⟩, ⟨vl, f3, ⟨la, lc, rfl, _⟩⟩, vs, f4, f5⟩ := h.get (i := gs.length) (by rw [hl]; omega)
  have e : (gs ++ [y])[gs.length]'(by rw [hl]; omega) = y := by simp
  rw [e] at f1 f2 f3 f5
  rw [hl] at h1 h2
  have f6 := f5
  obtain ⟨sa, sc, rfl, _⟩ := f5
  exact ⟨g, o, c, by rw [hl], h1, h2.1, f1, f2, ⟨la, lc, f3⟩, sa, sc, f4, f6⟩

theorem Ints.bd {w : World} {S : Nat → Prop} {a : Option Addr} {n c : Nat} {l : List Int} (h : Ints w S (.slice a n c) l) : n ≤ c ∧ n * 8 ≤ 140737488355328 := by
  obtain ⟨a', c', e, h1, h2, _⟩ := h
  simp only [Value.slice.injEq] at e
  obtain ⟨-, rfl, rfl⟩ := e
  exact ⟨h1, h2.1⟩
theorem two_boxes (W : World) (a b : List Value) (t : TypeId) {x1 x3 y1 y3 : Value} (ha1 : a[1]? = some x1) (ha3 : a[3]? = some x3) (hb1 : b[1]? = some y1) (hb3 : b[3]? = some y3) :
    ((W.alloc (.cells a.toArray t)).alloc (.cells b.toArray t)).drew.cell? ⟨W.heap.size, 1, none⟩ = some x1 ∧ ((W.alloc (.cells a.toArray t)).alloc (.cells b.toArray t)).drew.cell? ⟨W.heap.size, 3, none⟩ = some x3 ∧
      ((W.alloc (.cells a.toArray t)).alloc (.cells b.toArray t)).drew.cell? ⟨W.heap.size + 1, 1, none⟩ = some y1 ∧ ((W.alloc (.cells a.toArray t)).alloc (.cells b.toArray t)).drew.cell? ⟨W.heap.size + 1, 3, none⟩ = some y3 := by
  have hs : (W.alloc (.cells a.toArray t)).heap.size = W.heap.size + 1 := Array.size_push _
  have e1 : Ext (W.alloc (.cells a.toArray t)) (((W.alloc (.cells a.toArray t)).alloc (.cells b.toArray t)).drew) := ((Ext.refl _).alloc _).drew
  have e2 : Ext ((W.alloc (.cells a.toArray t)).alloc (.cells b.toArray t)) (((W.alloc (.cells a.toArray t)).alloc (.cells b.toArray t)).drew) := (Ext.refl _).drew
  have c1 := ((Cx.new W a t ha1).ext e1).1
  have c3 := ((Cx.new W a t ha3).ext e1).1
  have d1 := ((Cx.new (W.alloc (.cells a.toArray t)) b t hb1).ext e2).1
  have d3 := ((Cx.new (W.alloc (.cells a.toArray t)) b t hb3).ext e2).1
  rw [hs] at d1 d3
  exact ⟨c1, c3, d1, d3⟩
theorem backS {p : List GFunc} {sf tf : List GFiber} {sn tn : Int} {so to_ : List Int} (hd : doS p ⟨sf, sn, so⟩ = (0, ⟨tf, tn, to_⟩)) (hne : tn ≠ sn) (h0 : 0 ≤ tn) :
    ∃ k m : Nat, sn = k ∧ tn = m ∧ k < sf.length ∧ m < sf.length ∧ tf.length = sf.length ∧
      ((∃ gs y v, (sf.getD k default).caller = (m : Nat) ∧ (sf.getD m default).frames = gs ++ [y] ∧ (tf.getD m default).frames = gs ++ [{ y with stack := y.stack ++ [v] }] ∧ (tf.getD k default).caller = -1) ∨
        ((sf.getD k default).caller ≠ (m : Nat) ∧ (tf.getD m default).caller = k ∧ (sf.getD m default).caller = -1)) := by
  have he : (doS p ⟨sf, sn, so⟩).1 = 0 := by rw [hd]
  obtain ⟨hz, hn0, hd0, hdt, _⟩ := doS_ok he
  obtain ⟨l, hl⟩ := ok_of_err hz
  rw [hd] at hdt
  have hdt : (⟨tf, tn, to_⟩ : GState) = (doneG p ⟨sf, sn, so⟩).2 := hdt
  obtain ⟨k, m, e1, e2, h⟩ := step_back hl hn0 hd0 (by rw [← hdt]; exact hne) (by rw [← hdt]; exact h0)
  rw [← hdt] at h
  rcases h with ⟨gs, y, v, b1, b2, b3, b4, b5, b6, b7⟩ | ⟨⟨b1, b2, b3, b4, b5⟩, b6⟩
  · exact ⟨k, m, e1, b4, e2, b2, b7, .inl ⟨gs, y, v, b1, b3, b5, b6⟩⟩
  · exact ⟨k, m, e1, b2, e2, b1, b5, .inr ⟨b6, by rw [← show sn = (k : Int) from e1]; exact b3, b4⟩⟩
end Go.Proofs.Ytfajkebkhdcapaa
end
