/- Merged texts: contracts and plain facts, one part behind another; each part begins with what it says. -/
import Derived.Test.YtfajkebkhdcapaaGRAX
import Derived.Test.YtfajkebkhdcapaaGRAY
section
/- Contract of runBegun. -/
set_option maxHeartbeats 4000000
set_option maxRecDepth 100000
namespace Go.Proofs.Ytfajkebkhdcapaa
open Go Go.RowKit

def yl3 : List GOp := [⟨0, 1⟩, ⟨15, 0⟩, ⟨12, 0⟩]
theorem all99 : allG countP 99 = ([7, 8, 99], 28, 0) := of_decide_eq_true (by kernel_rfl)
theorem all501 : allG countP 501 = ([], 0, 3) := by unfold allG; rw [if_pos (by omega)]
theorem allY : allG [⟨0, 0, yl3⟩] 9 = ([], 1, 7) := of_decide_eq_true (by kernel_rfl)
theorem run6 : runOfG countP ⟨[⟨[⟨0, 0, [0], []⟩], -1⟩], 0, []⟩ 6 = (A6, 6, 0) := of_decide_eq_true (by kernel_rfl)

theorem all_val (p : List GFunc) (v : Value) (S : Nat → Prop) (fuel : Int) (w : World) (hp : Funcs w S v p) {l : List Int} {k e : Int} {n : Nat} (h : allG p fuel = (l, k, e)) (hn : l.length = n) :
    Calls Try.prog 14 #[v, .int .i64 fuel] w fun r w' => (∃ a c, r = .returned (.tuple #[.slice a n c, .int .i64 k, .int .i64 e]) ∧ Ints w' (fun _ => True) (.slice a n c) l) ∧ Ext w w' := by
  refine (runAll_any p v S fuel w hp).mono fun r w' ⟨⟨x, hr, hx⟩, hb⟩ => ⟨?_, hb⟩
  rw [h] at hr hx
  subst hn
  have hx2 := hx
  obtain ⟨a, c, rfl, _, _, _⟩ := hx
  exact ⟨a, c, hr, hx2⟩
theorem run_val (v vs : Value) (S T : Nat → Prop) (w : World) (hp : Funcs w S v countP) (hs : StateV w T vs ⟨[⟨[⟨0, 0, [0], []⟩], -1⟩], 0, []⟩) :
    Calls Try.prog 23 #[v, vs, .int .i64 6] w fun r w' => (∃ a c b d, r = .returned (.tuple #[.agg #[.slice a 2 c, .int .i64 1, .slice b 0 d], .int .i64 6, .int .i64 0])) ∧ Ext w w' := by
  refine (runRun_any countP v S T _ vs 6 w hp hs).mono fun r w' ⟨⟨x, hr, hx⟩, hb⟩ => ⟨?_, hb⟩
  rw [run6] at hr hx
  obtain ⟨a, c, b, d, rfl⟩ := hx.few
  exact ⟨a, c, b, d, hr⟩

theorem runBegun_any (w : World) : Calls Try.prog 22 #[] w fun e w' => e = .returned (.bool true) ∧ Ext w w' := by
  go_enter Try.func22, Try.ntmps22
  go_upto_region 2 with (first
    | (go_at_call 28; refine (count_any _).mono ?_; rintro e w1 ⟨⟨v, rfl, hv⟩, hb1⟩; have hf := hv.funcs)
    | (go_at_call 14; (with_reducible refine (all_val countP _ _ 99 _ hf all99 (n := 3) rfl).mono ?_); rintro e w2 ⟨⟨a1, c1, rfl, hl1⟩, hb2⟩))
  have E2 := Lib.hid (hb1.trans hb2)
  have HL2 := Lib.hid hl1
  clear hf hv hb1 hb2 hl1
  go_upto_region 3 with (first
    | (go_at_call 28; have _z := hfA.out; refine (count_any _).mono ?_; rintro e w4 ⟨⟨v2, rfl, hv2⟩, hb4⟩; have hfB := hv2.funcs)
    | (go_at_call 28; refine (count_any _).mono ?_; rintro e w3 ⟨⟨v1, rfl, hv1⟩, hb3⟩; have hfA := Lib.hid hv1.funcs)
    | (go_at_call 41; (with_reducible refine (beginOf_val _ _ _ hfB).mono ?_); rintro e w5 ⟨⟨x, rfl, hx⟩, hb5⟩)
    | (go_at_call 23; (with_reducible refine (run_val _ _ _ _ _ (Funcs.stays (Ext.stays (hb4.trans hb5)) hfA.out) hx).mono ?_); rintro e w6 ⟨⟨a2, c2, b2, d2, rfl⟩, hb6⟩))
  have e3 : Ext w2 (w6.alloc (.cells #[.slice a2 2 c2, .int .i64 1, .slice b2 0 d2] 35)) := (((hb3.trans hb4).trans hb5).trans hb6).alloc _
  have cx3 := Cx.new w6 [.slice a2 2 c2, .int .i64 1, .slice b2 0 d2] 35 (j := 1) rfl
  generalize w6.heap.size = bx1 at *
  generalize w6.alloc (.cells #[.slice a2 2 c2, .int .i64 1, .slice b2 0 d2] 35) = w7 at *
  have E3 := Lib.hid (E2.out.trans e3)
  have CX3 := Lib.hid cx3
  have HL3 := Lib.hid (Ints.stays (Ext.stays e3) HL2.out)
  clear hfA hfB hv1 hv2 hx hb3 hb4 hb5 hb6 e3 cx3 E2 HL2
  rename World => w7
  go_upto_region 4 with (first
    | (go_at_call 28; refine (count_any _).mono ?_; rintro e w8 ⟨⟨v, rfl, hv⟩, hb1⟩; have hf := hv.funcs)
    | (go_at_call 14; (with_reducible refine (all_val countP _ _ 501 _ hf all501 (n := 0) rfl).mono ?_); rintro e w9 ⟨⟨a3, c3, rfl, hl3⟩, hb2⟩))
  have E4 := Lib.hid (E3.out.trans (hb1.trans hb2))
  have CX4 := Lib.hid (CX3.out.ext (hb1.trans hb2))
  have HL4 := Lib.hid (Ints.stays (Ext.stays (hb1.trans hb2)) HL3.out)
  clear hf hv hb1 hb2 hl3 E3 CX3 HL3
  go_upto_region 5 with (first
    | (go_at_call 29; refine (o_any _ _ _).mono ?_; rintro e w10 ⟨rfl, hb⟩)
    | (go_at_call 14; (with_reducible refine (all_val [⟨0, 0, yl3⟩] _ _ 9 _ (prog_ops _ yl3 3 rfl #[.int .i64 0, .int .i64 1, .int .i64 15, .int .i64 0, .int .i64 12, .int .i64 0] rfl (small_ops (by decide)) (by decide) _ _) allY (n := 0) rfl).mono ?_); rintro e w11 ⟨⟨a4, c4, rfl, hl4⟩, hb3⟩))
  have e5 : Ext w9 w11 := by ((repeat (first | assumption | exact Ext.refl _ | (exact And.left (by assumption)) | refine Ext.alloc ?_ _ | refine Ext.drew ?_ | refine Ext.drewN ?_ _ | refine Ext.setCell ?_ (by simp) _ | refine Ext.setCell ?_ (by simp; omega) _ | refine Ext.trans ?_ (by assumption))); done)
  have E5 := Lib.hid (E4.out.trans e5)
  have hx := CX4.out.ext e5
  have HL5 := Lib.hid (Ints.stays (Ext.stays e5) HL4.out)
  clear hl4 hb3 e5 E4 CX4 HL4
  obtain ⟨hx0, -⟩ := hx
  have RA := alloc_keep
  go_wp2_with (first
    | (go_at_call 16; (refine (sameInts_any [7, 8, 99] [7, 8, 99] _ _ _ _ _ (Ints.stays (Ext.stays (by ((repeat (first | assumption | exact Ext.refl _ | (exact And.left (by assumption)) | refine Ext.alloc ?_ _ | refine Ext.drew ?_ | refine Ext.drewN ?_ _ | refine Ext.setCell ?_ (by simp) _ | refine Ext.setCell ?_ (by simp; omega) _ | refine Ext.trans ?_ (by assumption))); done))) HL5.out) (ints_box _ [7, 8, 99] 3 rfl (by intro x hx; simp at hx; rcases hx with rfl | rfl | rfl <;> exact I64.small (by decide) (by decide)) (by decide) _ _ rfl)).mono ?_); rintro e w12 ⟨rfl, hb12⟩; rw [show decide (([7, 8, 99] : List Int) = [7, 8, 99]) = true by decide]; have hc := Ext.keep hb12))
  go_ret
  exact ⟨rfl, E5.out.trans (by ((repeat (first | assumption | exact Ext.refl _ | (exact And.left (by assumption)) | refine Ext.alloc ?_ _ | refine Ext.drew ?_ | refine Ext.drewN ?_ _ | refine Ext.setCell ?_ (by simp) _ | refine Ext.setCell ?_ (by simp; omega) _ | refine Ext.trans ?_ (by assumption))); done))⟩
end Go.Proofs.Ytfajkebkhdcapaa
end
