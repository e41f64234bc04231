/- Merged texts: contracts and plain facts, one part behind another; each part begins with what it says. -/
import Derived.Test.YtpcjkfppacnkgaaGreatDoorGNBI
section
/- Contracts of run.All and of the document's RunAll. -/
set_option maxHeartbeats 4000000
set_option maxRecDepth 100000
namespace Go.Proofs.YtpcjkfppacnkgaaGreatDoor
open Go Go.RowKit

theorem runAll_any (p : List GFunc) (v : Value) (S : Nat → Prop) (fuel : Int) (w : World) (hp : Funcs w S v p) :
    Calls Tryz.prog 12 #[v, .int .i64 fuel] w fun e w' => (∃ x, e = .returned (.tuple #[x, .int .i64 (allG p fuel).2.1, .int .i64 (allG p fuel).2.2]) ∧ Ints w' (fun _ => True) x (allG p fuel).1) ∧ Ext w w' := by
  have HP := Lib.hid hp
  obtain ⟨ap, cp, rfl, _, _, _⟩ := hp
  have RA := alloc_keep
  by_cases hfu : 0 ≤ fuel ∧ fuel ≤ 500
  · have HW : Hid (decide (0 ≤ fuel ∧ fuel ≤ 500) = true) := decide_eq_true hfu
    obtain ⟨fn, hfn⟩ : ∃ n : Nat, fuel = n := ⟨fuel.toNat, by omega⟩
    subst hfn
    by_cases hz : progErr p = 0
    · have HG : Hid (allG p fn = ((runG p fn (beginG p)).1.out, (runG p fn (beginG p)).2.1, (runG p fn (beginG p)).2.2)) := by unfold Hid allG; rw [if_neg (fun h => h hfu), if_neg (fun h => h hz), Int.toNat_natCast]
      have HOK := Lib.hid (begin_ok hz)
      have HZ := Lib.hid hz
      clear hz
      go_enter Tryz.func12, Tryz.ntmps12
      go_wp2_with (first
        | (go_at_call 40; (with_reducible refine (fuelled_any _ _).mono ?_); rintro e w4 ⟨rfl, rfl⟩; rw [HW.out])
        | (go_at_call 36; (with_reducible refine (progCheck_any p _ _ _ HP.out).mono ?_); rintro e w5 ⟨rfl, hx5⟩; rw [HZ.out]; have HX5 := Lib.hid hx5; clear hx5)
        | (go_at_call 27; (with_reducible refine (first_any p _ _ _ (Funcs.stays (Ext.stays HX5.out) HP.out) HZ.out).mono ?_); rintro e w6 ⟨⟨x, rfl, hx⟩, hx6⟩; have HX6 := Lib.hid (HX5.out.trans hx6); have HXS := Lib.hid hx; clear hx hx6)
        | (go_at_call 41; (with_reducible refine (on_any p _ _ _ (beginG p) [0] _ fn _ (Funcs.stays (Ext.stays HX6.out) HP.out) HXS.out HOK.out (by omega)).mono ?_); rintro e w7 ⟨⟨y, rfl, hy⟩, hx7⟩; have HYS := Lib.hid hy.state; obtain ⟨ax, cx, bx, dx, rfl⟩ := hy.few; have HX7 := Lib.hid hx7; clear hy hx7))
      go_ret3
      rw [HG.out]
      obtain ⟨u, z, e, _, _, ho⟩ := HYS.out
      simp only [Value.agg.injEq, Array.mk.injEq, List.cons.injEq, and_true, true_and] at e
      obtain ⟨-, e⟩ := e
      rw [← e] at ho
      refine ⟨⟨_, rfl, Ints.stays (fun b o v _ hc => ⟨Ext.cell ((Ext.refl w7).alloc _) hc, trivial⟩) ho⟩, (HX6.out.trans HX7.out).alloc _⟩
    · have HG : Hid (allG p fn = ([], 0, progErr p)) := by unfold Hid allG; rw [if_neg (fun h => h hfu), if_pos hz]
      have TE : (progErr p != 0) = true := bne_iff_ne.2 hz
      obtain ⟨re, hre⟩ : ∃ re, progErr p = re := ⟨_, rfl⟩
      rw [hre] at TE HG
      have HRE := Lib.hid hre
      clear hz hre
      go_enter Tryz.func12, Tryz.ntmps12
      go_wp2_with (first
        | (go_at_call 40; (with_reducible refine (fuelled_any _ _).mono ?_); rintro e w4 ⟨rfl, rfl⟩; rw [HW.out])
        | (go_at_call 36; (with_reducible refine (progCheck_any p _ _ _ HP.out).mono ?_); rintro e w5 ⟨rfl, hx5⟩; rw [HRE.out]; have HX5 := Lib.hid hx5; clear hx5))
      go_ret3
      rw [HG.out]
      exact ⟨⟨_, rfl, Sl.nil _ _ _⟩, HX5.out⟩
  · have HW : Hid (decide (0 ≤ fuel ∧ fuel ≤ 500) = false) := decide_eq_false hfu
    have HG : Hid (allG p fuel = ([], 0, 3)) := by unfold Hid allG; rw [if_pos hfu]
    clear hfu
    go_enter Tryz.func12, Tryz.ntmps12
    go_wp2_with (first
      | (go_at_call 40; (with_reducible refine (fuelled_any _ _).mono ?_); rintro e w4 ⟨rfl, rfl⟩; rw [HW.out]))
    go_ret3
    rw [HG.out]
    exact ⟨⟨_, rfl, Sl.nil _ _ _⟩, Ext.refl _⟩
end Go.Proofs.YtpcjkfppacnkgaaGreatDoor
end
