/- Merged texts: contracts and plain facts, one part behind another; each part begins with what it says. -/
import Derived.Test.YtfajkebkhdcapaaGRAU
import Derived.Test.YtfajkebkhdcapaaGRAW
section
/- The document's RunOf, of states that fit; after: a state that comes of count(). -/
set_option maxHeartbeats 4000000
set_option maxRecDepth 100000
namespace Go.Proofs.Ytfajkebkhdcapaa
open Go Go.RowKit

def runOfG (p : List GFunc) (s : GState) (fuel : Int) : GState × Int × Int :=
  if ¬ (0 ≤ fuel ∧ fuel ≤ 500) then (⟨[], 0, []⟩, 0, 3) else if stateErr p s ≠ 0 then (⟨[], 0, []⟩, 0, stateErr p s) else runG p fuel.toNat s

theorem runOf_any (p : List GFunc) (v : Value) (S T : Nat → Prop) (s : GState) (vs : Value) (fuel : Int) (w : World) (hp : Funcs w S v p) (hs : StateV w T vs s) (hfit : 0 ≤ fuel → fuel ≤ 500 → stateErr p s = 0 → RunFit p fuel.toNat s) :
    Calls Try.prog 51 #[v, vs, .int .i64 fuel] w fun e w' => (∃ x, e = .returned (.tuple #[x, .int .i64 (runOfG p s fuel).2.1, .int .i64 (runOfG p s fuel).2.2]) ∧ StateO w' w.heap.size x (runOfG p s fuel).1) ∧ Ext w w' := by
  have HP := Lib.hid hp
  have HS := Lib.hid hs
  obtain ⟨a, c, b, d, rfl⟩ := hs.few
  obtain ⟨ap, cp, rfl, _, _, _⟩ := hp
  have RA := alloc_keep
  have hs0 : (w.alloc (.cells #[.slice a s.fibers.length c, .int .i64 s.now, .slice b s.out.length d] 35)).heap.size = w.heap.size + 1 := Array.size_push _
  have r0 := Cx.new (w.alloc (.cells #[.slice a s.fibers.length c, .int .i64 s.now, .slice b s.out.length d] 35)) [.slice none 0 0, .int .i64 0, .slice none 0 0] 35 (j := 0) rfl
  have r1 := Cx.new (w.alloc (.cells #[.slice a s.fibers.length c, .int .i64 s.now, .slice b s.out.length d] 35)) [.slice none 0 0, .int .i64 0, .slice none 0 0] 35 (j := 1) rfl
  have r2 := Cx.new (w.alloc (.cells #[.slice a s.fibers.length c, .int .i64 s.now, .slice b s.out.length d] 35)) [.slice none 0 0, .int .i64 0, .slice none 0 0] 35 (j := 2) rfl
  rw [hs0] at r0 r1 r2
  have HR := Lib.hid (⟨r0, r1, r2⟩ : _ ∧ _ ∧ _)
  have HQ := Lib.hid (⟨(Cx.new w [.slice a s.fibers.length c, .int .i64 s.now, .slice b s.out.length d] 35 (j := 0) rfl).ext ((Ext.refl _).alloc (.cells #[.slice none 0 0, .int .i64 0, .slice none 0 0] 35)), (Cx.new w [.slice a s.fibers.length c, .int .i64 s.now, .slice b s.out.length d] 35 (j := 1) rfl).ext ((Ext.refl _).alloc (.cells #[.slice none 0 0, .int .i64 0, .slice none 0 0] 35)), (Cx.new w [.slice a s.fibers.length c, .int .i64 s.now, .slice b s.out.length d] 35 (j := 2) rfl).ext ((Ext.refl _).alloc (.cells #[.slice none 0 0, .int .i64 0, .slice none 0 0] 35))⟩ : _ ∧ _ ∧ _)
  have HE1 : Hid (Ext w ((w.alloc (.cells #[.slice a s.fibers.length c, .int .i64 s.now, .slice b s.out.length d] 35)).alloc (.cells #[.slice none 0 0, .int .i64 0, .slice none 0 0] 35))) := ((Ext.refl w).alloc _).alloc _
  have HS1 : Hid (((w.alloc (.cells #[.slice a s.fibers.length c, .int .i64 s.now, .slice b s.out.length d] 35)).alloc (.cells #[.slice none 0 0, .int .i64 0, .slice none 0 0] 35)).heap.size = w.heap.size + 2) := by unfold Hid; simp
  clear hs0 r0 r1 r2
  by_cases hfu : 0 ≤ fuel ∧ fuel ≤ 500
  · have HW : Hid (decide (0 ≤ fuel ∧ fuel ≤ 500) = true) := decide_eq_true hfu
    obtain ⟨fn, hfn⟩ : ∃ n : Nat, fuel = n := ⟨fuel.toNat, by omega⟩
    subst hfn
    by_cases hz : stateErr p s = 0
    · have HG : Hid (runOfG p s fn = runG p fn s) := by unfold Hid runOfG; rw [if_neg (fun h => h hfu), if_neg (fun h => h hz), Int.toNat_natCast]
      have HFIT : Hid (RunFit p fn s) := by have := hfit hfu.1 hfu.2 hz; rwa [Int.toNat_natCast] at this
      have HZ := Lib.hid hz
      clear hz hfit
      go_enter Try.func51, Try.ntmps51
      go_wp2_with (first
        | (go_at_call 38; (with_reducible refine (within_any _ _ _ _).mono ?_); rintro e w4 ⟨rfl, rfl⟩; rw [HW.out])
        | (go_at_call 72; (with_reducible refine (stateError_any p _ _ _ s _ _ (Funcs.stays (Ext.stays (by ((repeat (first | assumption | exact Ext.refl _ | (exact And.left (by assumption)) | refine Ext.alloc ?_ _ | refine Ext.drew ?_ | refine Ext.drewN ?_ _ | refine Ext.setCell ?_ (by simp) _ | refine Ext.setCell ?_ (by simp; omega) _ | refine Ext.trans ?_ (by assumption))); done))) HP.out) (StateV.stays (Ext.stays (by ((repeat (first | assumption | exact Ext.refl _ | (exact And.left (by assumption)) | refine Ext.alloc ?_ _ | refine Ext.drew ?_ | refine Ext.drewN ?_ _ | refine Ext.setCell ?_ (by simp) _ | refine Ext.setCell ?_ (by simp; omega) _ | refine Ext.trans ?_ (by assumption))); done))) HS.out)).mono ?_); rintro e w5 ⟨rfl, hx5⟩; rw [HZ.out]; obtain ⟨q0, q0'⟩ := (HQ.out).1.ext hx5; obtain ⟨q1, q1'⟩ := (HQ.out).2.1.ext hx5; obtain ⟨q2, q2'⟩ := (HQ.out).2.2.ext hx5; have HX5 := Lib.hid hx5; clear hx5)
        | (go_at_call 40; (with_reducible refine (run_any p _ _ _ s _ fn _ (Funcs.stays (Ext.stays (HE1.out.trans HX5.out)) HP.out) (StateV.stays (Ext.stays (HE1.out.trans HX5.out)) HS.out) HFIT.out (by omega)).mono ?_); rintro e w6 ⟨⟨x, rfl, hx⟩, hx6⟩; have HXS := Lib.hid hx; obtain ⟨ax, cx, bx, dx, rfl⟩ := hx.few; obtain ⟨z0, z0'⟩ := (HR.out).1.ext (HX5.out.trans hx6); obtain ⟨z1, z1'⟩ := (HR.out).2.1.ext (HX5.out.trans hx6); obtain ⟨z2, z2'⟩ := (HR.out).2.2.ext (HX5.out.trans hx6); have HX6 := Lib.hid hx6; clear hx hx6))
      refine bodyPost_ret (results_cell3 rfl _ _ (w.heap.size + 1) 0 _ _ rfl (box3 ⟨z0, z0'⟩ ⟨z1, z1'⟩ ⟨z2, z2'⟩ _ _ _) rfl rfl (by kernel_rfl)) rfl ?_
      rw [HG.out]
      exact ⟨⟨_, rfl, ret_state (HXS.out.mono (by have h2 := (HX5.out).size; have h3 := HS1.out; omega)) _ _ _⟩, ret_ext ((HE1.out.trans HX5.out).trans HX6.out) _ _ _⟩
    · have HG : Hid (runOfG p s fn = (⟨[], 0, []⟩, 0, stateErr p s)) := by unfold Hid runOfG; rw [if_neg (fun h => h hfu), if_pos hz]
      have TE : (stateErr p s != 0) = true := bne_iff_ne.2 hz
      obtain ⟨re, hre⟩ : ∃ re, stateErr p s = re := ⟨_, rfl⟩
      rw [hre] at TE HG
      have HRE := Lib.hid hre
      clear hz hfit hre
      go_enter Try.func51, Try.ntmps51
      go_wp2_with (first
        | (go_at_call 38; (with_reducible refine (within_any _ _ _ _).mono ?_); rintro e w4 ⟨rfl, rfl⟩; rw [HW.out])
        | (go_at_call 72; (with_reducible refine (stateError_any p _ _ _ s _ _ (Funcs.stays (Ext.stays (by ((repeat (first | assumption | exact Ext.refl _ | (exact And.left (by assumption)) | refine Ext.alloc ?_ _ | refine Ext.drew ?_ | refine Ext.drewN ?_ _ | refine Ext.setCell ?_ (by simp) _ | refine Ext.setCell ?_ (by simp; omega) _ | refine Ext.trans ?_ (by assumption))); done))) HP.out) (StateV.stays (Ext.stays (by ((repeat (first | assumption | exact Ext.refl _ | (exact And.left (by assumption)) | refine Ext.alloc ?_ _ | refine Ext.drew ?_ | refine Ext.drewN ?_ _ | refine Ext.setCell ?_ (by simp) _ | refine Ext.setCell ?_ (by simp; omega) _ | refine Ext.trans ?_ (by assumption))); done))) HS.out)).mono ?_); rintro e w5 ⟨rfl, hx5⟩; rw [HRE.out]; obtain ⟨z0, z0'⟩ := (HR.out).1.ext hx5; obtain ⟨z1, z1'⟩ := (HR.out).2.1.ext hx5; obtain ⟨z2, z2'⟩ := (HR.out).2.2.ext hx5; have HX5 := Lib.hid hx5; clear hx5))
      refine bodyPost_ret (results_cell3 rfl _ _ (w.heap.size + 1) 0 _ _ rfl (box3 ⟨z0, z0'⟩ ⟨z1, z1'⟩ ⟨z2, z2'⟩ _ _ _) rfl rfl (by kernel_rfl)) rfl ?_
      rw [HG.out]
      exact ⟨⟨_, rfl, stateO_nil _ _⟩, ret_ext (HE1.out.trans HX5.out) _ _ _⟩
  · have HW : Hid (decide (0 ≤ fuel ∧ fuel ≤ 500) = false) := decide_eq_false hfu
    have HG : Hid (runOfG p s fuel = (⟨[], 0, []⟩, 0, 3)) := by unfold Hid runOfG; rw [if_pos hfu]
    obtain ⟨⟨z0, z0'⟩, ⟨z1, z1'⟩, ⟨z2, z2'⟩⟩ := HR.out
    clear hfu hfit
    go_enter Try.func51, Try.ntmps51
    go_wp2_with (first
      | (go_at_call 38; (with_reducible refine (within_any _ _ _ _).mono ?_); rintro e w4 ⟨rfl, rfl⟩; rw [HW.out]))
    refine bodyPost_ret (results_cell3 rfl _ _ (w.heap.size + 1) 0 [.slice none 0 0, .int .i64 0, .slice none 0 0] _ rfl (range3 z0 z1 z2) rfl rfl (by kernel_rfl)) rfl ?_
    rw [HG.out]
    exact ⟨⟨_, rfl, stateO_nil _ _⟩, HE1.out⟩

def afterG (n : Int) : GState := (runOfG countP (beginG countP) n).1
theorem after_any (v : Value) (S : Nat → Prop) (n : Int) (w : World) (hv : Funcs w S v countP) (hn : RunFit countP n.toNat (beginG countP)) (hz : progErr countP = 0) :
    Calls Try.prog 36 #[v, .int .i64 n] w fun e w' => (∃ x, e = .returned x ∧ StateO w' w.heap.size x (afterG n)) ∧ Ext w w' := by
  have HV := Lib.hid hv
  obtain ⟨ap, cp, rfl, _, _, _⟩ := hv
  have RA := alloc_keep
  have HR := Lib.hid (⟨Cx.new w [.slice none 0 0, .int .i64 0, .slice none 0 0] 35 (j := 0) rfl, Cx.new w [.slice none 0 0, .int .i64 0, .slice none 0 0] 35 (j := 1) rfl, Cx.new w [.slice none 0 0, .int .i64 0, .slice none 0 0] 35 (j := 2) rfl⟩ : _ ∧ _ ∧ _)
  have HZ := Lib.hid hz
  have HN := Lib.hid hn
  clear hz hn
  go_enter Try.func36, Try.ntmps36
  go_wp2_with (first
    | (go_at_call 41; (with_reducible refine (beginOf_any countP _ _ _ (Funcs.stays (Ext.stays (by ((repeat (first | assumption | exact Ext.refl _ | (exact And.left (by assumption)) | refine Ext.alloc ?_ _ | refine Ext.drew ?_ | refine Ext.drewN ?_ _ | refine Ext.setCell ?_ (by simp) _ | refine Ext.setCell ?_ (by simp; omega) _ | refine Ext.trans ?_ (by assumption))); done))) HV.out) HZ.out).mono ?_); rintro e w2 ⟨⟨x, rfl, hx⟩, hx2⟩; have HXS := Lib.hid hx; have HX2 := Lib.hid (((Ext.refl w).alloc (.cells #[.slice none 0 0, .int .i64 0, .slice none 0 0] 35)).trans hx2); have HXX2 := Lib.hid hx2; clear hx hx2)
    | (go_at_call 51; (with_reducible refine (runOf_any countP _ _ _ (beginG countP) _ n _ (Funcs.stays (Ext.stays HX2.out) HV.out) HXS.out (fun _ _ _ => HN.out)).mono ?_); rintro e w3 ⟨⟨y, rfl, hy⟩, hx3⟩; have HYS := Lib.hid hy; obtain ⟨ax, cx, bx, dx, rfl⟩ := hy.few; obtain ⟨z0, z0'⟩ := (HR.out).1.ext (HXX2.out.trans (hx3.alloc (.cells #[.slice ax (runOfG countP (beginG countP) n).1.fibers.length cx, .int .i64 (runOfG countP (beginG countP) n).1.now, .slice bx (runOfG countP (beginG countP) n).1.out.length dx] 35))); obtain ⟨z1, z1'⟩ := (HR.out).2.1.ext (HXX2.out.trans (hx3.alloc (.cells #[.slice ax (runOfG countP (beginG countP) n).1.fibers.length cx, .int .i64 (runOfG countP (beginG countP) n).1.now, .slice bx (runOfG countP (beginG countP) n).1.out.length dx] 35))); obtain ⟨z2, z2'⟩ := (HR.out).2.2.ext (HXX2.out.trans (hx3.alloc (.cells #[.slice ax (runOfG countP (beginG countP) n).1.fibers.length cx, .int .i64 (runOfG countP (beginG countP) n).1.now, .slice bx (runOfG countP (beginG countP) n).1.out.length dx] 35))); have HX3 := Lib.hid hx3; clear hy hx3))
  refine bodyPost_ret (results_cell_mid rfl _ _ w.heap.size 0 _ _ rfl (box3 ⟨z0, z0'⟩ ⟨z1, z1'⟩ ⟨z2, z2'⟩ _ _ _) rfl rfl (by kernel_rfl)) rfl ?_
  have h12 : w.heap.size + 1 ≤ w2.heap.size := by have h := (HXX2.out).size; simpa using h
  refine ⟨⟨_, rfl, ((HYS.out.ext ((Ext.refl w3).alloc _)).chg (chg3 _ w.heap.size _ _ _) (fun g hg e => by have h2 : g = w.heap.size := e; omega)).mono (by omega)⟩, ((((HX2.out.trans HX3.out).alloc _).setCell (p := ⟨w.heap.size, 0, none⟩) (Nat.le_refl _) _).setCell (p := ⟨w.heap.size, 1, none⟩) (Nat.le_refl _) _).setCell (p := ⟨w.heap.size, 2, none⟩) (Nat.le_refl _) _⟩

theorem count_right : progErr countP = 0 := by decide
theorem fit_1 : RunFit countP 1 (beginG countP) := by decide
theorem fit_4 : RunFit countP 4 (beginG countP) := by decide
theorem fit_6 : RunFit countP 6 (beginG countP) := by decide
theorem fit_7 : RunFit countP 7 (beginG countP) := by decide
theorem fit_99 : RunFit countP 99 (beginG countP) := by decide
end Go.Proofs.Ytfajkebkhdcapaa
end
section
/- Contracts of step.Do and run.Run, All: what they answer, whatever they are handed. -/
set_option maxHeartbeats 4000000
set_option maxRecDepth 100000
namespace Go.Proofs.Ytfajkebkhdcapaa
open Go Go.RowKit

def doS (p : List GFunc) (s : GState) : Int × GState := if stateErr p s ≠ 0 then (stateErr p s, ⟨[], 0, []⟩) else stepG p s
def allG (p : List GFunc) (fuel : Int) : List Int × Int × Int :=
  if ¬ (0 ≤ fuel ∧ fuel ≤ 500) then ([], 0, 3) else if progErr p ≠ 0 then ([], 0, progErr p) else ((runG p fuel.toNat (beginG p)).1.out, (runG p fuel.toNat (beginG p)).2.1, (runG p fuel.toNat (beginG p)).2.2)

theorem stepDo_any (p : List GFunc) (v : Value) (S T : Nat → Prop) (s : GState) (vs : Value) (w : World) (hp : Funcs w S v p) (hs : StateV w T vs s) :
    Calls Try.prog 19 #[v, vs] w fun e w' => (∃ x, e = .returned (.tuple #[x, .int .i64 (doS p s).1]) ∧ StateO w' w.heap.size x (doS p s).2) ∧ Ext w w' := by
  have HP := Lib.hid hp
  have HS := Lib.hid hs
  obtain ⟨a, c, b, d, rfl⟩ := hs.few
  obtain ⟨ap, cp, rfl, _, _, _⟩ := hp
  have RA := alloc_keep
  have hs0 : (w.alloc (.cells #[.slice a s.fibers.length c, .int .i64 s.now, .slice b s.out.length d] 35)).heap.size = w.heap.size + 1 := Array.size_push _
  have r0 := Cx.new (w.alloc (.cells #[.slice a s.fibers.length c, .int .i64 s.now, .slice b s.out.length d] 35)) [.slice none 0 0, .int .i64 0, .slice none 0 0] 35 (j := 0) rfl
  have r1 := Cx.new (w.alloc (.cells #[.slice a s.fibers.length c, .int .i64 s.now, .slice b s.out.length d] 35)) [.slice none 0 0, .int .i64 0, .slice none 0 0] 35 (j := 1) rfl
  have r2 := Cx.new (w.alloc (.cells #[.slice a s.fibers.length c, .int .i64 s.now, .slice b s.out.length d] 35)) [.slice none 0 0, .int .i64 0, .slice none 0 0] 35 (j := 2) rfl
  rw [hs0] at r0 r1 r2
  have HR := Lib.hid (⟨r0, r1, r2⟩ : _ ∧ _ ∧ _)
  have HQ := Lib.hid (⟨(Cx.new w [.slice a s.fibers.length c, .int .i64 s.now, .slice b s.out.length d] 35 (j := 0) rfl).ext ((Ext.refl _).alloc (.cells #[.slice none 0 0, .int .i64 0, .slice none 0 0] 35)), (Cx.new w [.slice a s.fibers.length c, .int .i64 s.now, .slice b s.out.length d] 35 (j := 1) rfl).ext ((Ext.refl _).alloc (.cells #[.slice none 0 0, .int .i64 0, .slice none 0 0] 35)), (Cx.new w [.slice a s.fibers.length c, .int .i64 s.now, .slice b s.out.length d] 35 (j := 2) rfl).ext ((Ext.refl _).alloc (.cells #[.slice none 0 0, .int .i64 0, .slice none 0 0] 35))⟩ : _ ∧ _ ∧ _)
  have HE1 : Hid (Ext w ((w.alloc (.cells #[.slice a s.fibers.length c, .int .i64 s.now, .slice b s.out.length d] 35)).alloc (.cells #[.slice none 0 0, .int .i64 0, .slice none 0 0] 35))) := ((Ext.refl w).alloc _).alloc _
  have HS1 : Hid (((w.alloc (.cells #[.slice a s.fibers.length c, .int .i64 s.now, .slice b s.out.length d] 35)).alloc (.cells #[.slice none 0 0, .int .i64 0, .slice none 0 0] 35)).heap.size = w.heap.size + 2) := by unfold Hid; simp
  clear hs0 r0 r1 r2
  by_cases hz : stateErr p s = 0
  · have HG : Hid (doS p s = stepG p s) := by unfold Hid doS; rw [if_neg (fun h => h hz)]
    obtain ⟨l, hok⟩ := ok_of_err hz
    have HFW := Lib.hid hok.fewS
    have HST := Lib.hid (ok_step hok)
    have HZ := Lib.hid hz
    clear hz hok
    go_enter Try.func19, Try.ntmps19
    go_wp2_with (first
      | (go_at_call 17; (with_reducible refine (stateCheck_any p _ _ _ s _ _ (Funcs.stays (Ext.stays (by ((repeat (first | assumption | exact Ext.refl _ | (exact And.left (by assumption)) | refine Ext.alloc ?_ _ | refine Ext.drew ?_ | refine Ext.drewN ?_ _ | refine Ext.setCell ?_ (by simp) _ | refine Ext.setCell ?_ (by simp; omega) _ | refine Ext.trans ?_ (by assumption))); done))) HP.out) (StateV.stays (Ext.stays (by ((repeat (first | assumption | exact Ext.refl _ | (exact And.left (by assumption)) | refine Ext.alloc ?_ _ | refine Ext.drew ?_ | refine Ext.drewN ?_ _ | refine Ext.setCell ?_ (by simp) _ | refine Ext.setCell ?_ (by simp; omega) _ | refine Ext.trans ?_ (by assumption))); done))) HS.out)).mono ?_); rintro e w5 ⟨rfl, hx5⟩; rw [HZ.out]; obtain ⟨q0, q0'⟩ := (HQ.out).1.ext hx5; obtain ⟨q1, q1'⟩ := (HQ.out).2.1.ext hx5; obtain ⟨q2, q2'⟩ := (HQ.out).2.2.ext hx5; have HX5 := Lib.hid hx5; clear hx5)
      | (go_at_call 37; (with_reducible refine (stepTurn_any p _ _ _ s _ _ (Funcs.stays (Ext.stays (HE1.out.trans HX5.out)) HP.out) (StateV.stays (Ext.stays (HE1.out.trans HX5.out)) HS.out) HFW.out HST.out).mono ?_); rintro e w6 ⟨⟨x, rfl, hx⟩, hx6⟩; have HXS := Lib.hid hx; obtain ⟨ax, cx, bx, dx, rfl⟩ := hx.few; obtain ⟨z0, z0'⟩ := (HR.out).1.ext (HX5.out.trans hx6); obtain ⟨z1, z1'⟩ := (HR.out).2.1.ext (HX5.out.trans hx6); obtain ⟨z2, z2'⟩ := (HR.out).2.2.ext (HX5.out.trans hx6); have HX6 := Lib.hid hx6; clear hx hx6))
    refine bodyPost_ret (results_cell2 rfl _ _ (w.heap.size + 1) 0 _ _ rfl (box3 ⟨z0, z0'⟩ ⟨z1, z1'⟩ ⟨z2, z2'⟩ _ _ _) rfl rfl (by kernel_rfl)) rfl ?_
    rw [HG.out]
    exact ⟨⟨_, rfl, ret_state (HXS.out.mono (by have h2 := (HX5.out).size; have h3 := HS1.out; omega)) _ _ _⟩, ret_ext ((HE1.out.trans HX5.out).trans HX6.out) _ _ _⟩
  · have HG : Hid (doS p s = (stateErr p s, ⟨[], 0, []⟩)) := by unfold Hid doS; rw [if_pos hz]
    have TE : (stateErr p s != 0) = true := bne_iff_ne.2 hz
    obtain ⟨re, hre⟩ : ∃ re, stateErr p s = re := ⟨_, rfl⟩
    rw [hre] at TE HG
    have HRE := Lib.hid hre
    clear hz hre
    go_enter Try.func19, Try.ntmps19
    go_wp2_with (first
      | (go_at_call 17; (with_reducible refine (stateCheck_any p _ _ _ s _ _ (Funcs.stays (Ext.stays (by ((repeat (first | assumption | exact Ext.refl _ | (exact And.left (by assumption)) | refine Ext.alloc ?_ _ | refine Ext.drew ?_ | refine Ext.drewN ?_ _ | refine Ext.setCell ?_ (by simp) _ | refine Ext.setCell ?_ (by simp; omega) _ | refine Ext.trans ?_ (by assumption))); done))) HP.out) (StateV.stays (Ext.stays (by ((repeat (first | assumption | exact Ext.refl _ | (exact And.left (by assumption)) | refine Ext.alloc ?_ _ | refine Ext.drew ?_ | refine Ext.drewN ?_ _ | refine Ext.setCell ?_ (by simp) _ | refine Ext.setCell ?_ (by simp; omega) _ | refine Ext.trans ?_ (by assumption))); done))) HS.out)).mono ?_); rintro e w5 ⟨rfl, hx5⟩; rw [HRE.out]; obtain ⟨z0, z0'⟩ := (HR.out).1.ext hx5; obtain ⟨z1, z1'⟩ := (HR.out).2.1.ext hx5; obtain ⟨z2, z2'⟩ := (HR.out).2.2.ext hx5; have HX5 := Lib.hid hx5; clear hx5))
    refine bodyPost_ret (results_cell2 rfl _ _ (w.heap.size + 1) 0 [.slice none 0 0, .int .i64 0, .slice none 0 0] _ rfl (box3 ⟨z0, z0'⟩ ⟨z1, z1'⟩ ⟨z2, z2'⟩ _ _ _) rfl rfl (by kernel_rfl)) rfl ?_
    rw [HG.out]
    exact ⟨⟨_, rfl, stateO_nil _ _⟩, ret_ext (HE1.out.trans HX5.out) _ _ _⟩

theorem fuelled_any (n : Int) (w : World) : Calls Try.prog 31 #[.int .i64 n] w fun e w' => e = .returned (.bool (decide (0 ≤ n ∧ n ≤ 500))) ∧ w = w' := by
  by_cases h : 0 ≤ n
  · have T1 : decide (0 ≤ n) = true := decide_eq_true h
    have e : decide (0 ≤ n ∧ n ≤ 500) = decide (n ≤ 500) := decide_eq_decide.2 ⟨fun k => k.2, fun k => ⟨h, k⟩⟩
    rw [e]
    clear h e
    go_enter Try.func31, Try.ntmps31
    go_wp2_with fail
    go_ret
    exact ⟨rfl, rfl⟩
  · have T1 : decide (0 ≤ n) = false := decide_eq_false h
    have e : decide (0 ≤ n ∧ n ≤ 500) = false := decide_eq_false (fun k => h k.1)
    rw [e]
    clear h e
    go_enter Try.func31, Try.ntmps31
    go_wp2_with fail
    go_ret
    exact ⟨rfl, rfl⟩

theorem runRun_any (p : List GFunc) (v : Value) (S T : Nat → Prop) (s : GState) (vs : Value) (fuel : Int) (w : World) (hp : Funcs w S v p) (hs : StateV w T vs s) :
    Calls Try.prog 23 #[v, vs, .int .i64 fuel] w fun e w' => (∃ x, e = .returned (.tuple #[x, .int .i64 (runOfG p s fuel).2.1, .int .i64 (runOfG p s fuel).2.2]) ∧ StateO w' w.heap.size x (runOfG p s fuel).1) ∧ Ext w w' := by
  have HP := Lib.hid hp
  have HS := Lib.hid hs
  obtain ⟨a, c, b, d, rfl⟩ := hs.few
  obtain ⟨ap, cp, rfl, _, _, _⟩ := hp
  have RA := alloc_keep
  have hs0 : (w.alloc (.cells #[.slice a s.fibers.length c, .int .i64 s.now, .slice b s.out.length d] 35)).heap.size = w.heap.size + 1 := Array.size_push _
  have r0 := Cx.new (w.alloc (.cells #[.slice a s.fibers.length c, .int .i64 s.now, .slice b s.out.length d] 35)) [.slice none 0 0, .int .i64 0, .slice none 0 0] 35 (j := 0) rfl
  have r1 := Cx.new (w.alloc (.cells #[.slice a s.fibers.length c, .int .i64 s.now, .slice b s.out.length d] 35)) [.slice none 0 0, .int .i64 0, .slice none 0 0] 35 (j := 1) rfl
  have r2 := Cx.new (w.alloc (.cells #[.slice a s.fibers.length c, .int .i64 s.now, .slice b s.out.length d] 35)) [.slice none 0 0, .int .i64 0, .slice none 0 0] 35 (j := 2) rfl
  rw [hs0] at r0 r1 r2
  have HR := Lib.hid (⟨r0, r1, r2⟩ : _ ∧ _ ∧ _)
  have HQ := Lib.hid (⟨(Cx.new w [.slice a s.fibers.length c, .int .i64 s.now, .slice b s.out.length d] 35 (j := 0) rfl).ext ((Ext.refl _).alloc (.cells #[.slice none 0 0, .int .i64 0, .slice none 0 0] 35)), (Cx.new w [.slice a s.fibers.length c, .int .i64 s.now, .slice b s.out.length d] 35 (j := 1) rfl).ext ((Ext.refl _).alloc (.cells #[.slice none 0 0, .int .i64 0, .slice none 0 0] 35)), (Cx.new w [.slice a s.fibers.length c, .int .i64 s.now, .slice b s.out.length d] 35 (j := 2) rfl).ext ((Ext.refl _).alloc (.cells #[.slice none 0 0, .int .i64 0, .slice none 0 0] 35))⟩ : _ ∧ _ ∧ _)
  have HE1 : Hid (Ext w ((w.alloc (.cells #[.slice a s.fibers.length c, .int .i64 s.now, .slice b s.out.length d] 35)).alloc (.cells #[.slice none 0 0, .int .i64 0, .slice none 0 0] 35))) := ((Ext.refl w).alloc _).alloc _
  have HS1 : Hid (((w.alloc (.cells #[.slice a s.fibers.length c, .int .i64 s.now, .slice b s.out.length d] 35)).alloc (.cells #[.slice none 0 0, .int .i64 0, .slice none 0 0] 35)).heap.size = w.heap.size + 2) := by unfold Hid; simp
  clear hs0 r0 r1 r2
  by_cases hfu : 0 ≤ fuel ∧ fuel ≤ 500
  · have HW : Hid (decide (0 ≤ fuel ∧ fuel ≤ 500) = true) := decide_eq_true hfu
    obtain ⟨fn, hfn⟩ : ∃ n : Nat, fuel = n := ⟨fuel.toNat, by omega⟩
    subst hfn
    by_cases hz : stateErr p s = 0
    · have HG : Hid (runOfG p s fn = runG p fn s) := by unfold Hid runOfG; rw [if_neg (fun h => h hfu), if_neg (fun h => h hz), Int.toNat_natCast]
      obtain ⟨l, hok⟩ := ok_of_err hz
      have HOK := Lib.hid hok
      have HZ := Lib.hid hz
      clear hz hok
      go_enter Try.func23, Try.ntmps23
      go_wp2_with (first
        | (go_at_call 31; (with_reducible refine (fuelled_any _ _).mono ?_); rintro e w4 ⟨rfl, rfl⟩; rw [HW.out])
        | (go_at_call 17; (with_reducible refine (stateCheck_any p _ _ _ s _ _ (Funcs.stays (Ext.stays (by ((repeat (first | assumption | exact Ext.refl _ | (exact And.left (by assumption)) | refine Ext.alloc ?_ _ | refine Ext.drew ?_ | refine Ext.drewN ?_ _ | refine Ext.setCell ?_ (by simp) _ | refine Ext.setCell ?_ (by simp; omega) _ | refine Ext.trans ?_ (by assumption))); done))) HP.out) (StateV.stays (Ext.stays (by ((repeat (first | assumption | exact Ext.refl _ | (exact And.left (by assumption)) | refine Ext.alloc ?_ _ | refine Ext.drew ?_ | refine Ext.drewN ?_ _ | refine Ext.setCell ?_ (by simp) _ | refine Ext.setCell ?_ (by simp; omega) _ | refine Ext.trans ?_ (by assumption))); done))) HS.out)).mono ?_); rintro e w5 ⟨rfl, hx5⟩; rw [HZ.out]; obtain ⟨q0, q0'⟩ := (HQ.out).1.ext hx5; obtain ⟨q1, q1'⟩ := (HQ.out).2.1.ext hx5; obtain ⟨q2, q2'⟩ := (HQ.out).2.2.ext hx5; have HX5 := Lib.hid hx5; clear hx5)
        | (go_at_call 32; (with_reducible refine (on_any p _ _ _ s l _ fn _ (Funcs.stays (Ext.stays (HE1.out.trans HX5.out)) HP.out) (StateV.stays (Ext.stays (HE1.out.trans HX5.out)) HS.out) HOK.out (by omega)).mono ?_); rintro e w6 ⟨⟨x, rfl, hx⟩, hx6⟩; have HXS := Lib.hid hx; obtain ⟨ax, cx, bx, dx, rfl⟩ := hx.few; obtain ⟨z0, z0'⟩ := (HR.out).1.ext (HX5.out.trans hx6); obtain ⟨z1, z1'⟩ := (HR.out).2.1.ext (HX5.out.trans hx6); obtain ⟨z2, z2'⟩ := (HR.out).2.2.ext (HX5.out.trans hx6); have HX6 := Lib.hid hx6; clear hx hx6))
      refine bodyPost_ret (results_cell3 rfl _ _ (w.heap.size + 1) 0 _ _ rfl (box3 ⟨z0, z0'⟩ ⟨z1, z1'⟩ ⟨z2, z2'⟩ _ _ _) rfl rfl (by kernel_rfl)) rfl ?_
      rw [HG.out]
      exact ⟨⟨_, rfl, ret_state (HXS.out.mono (by have h2 := (HX5.out).size; have h3 := HS1.out; omega)) _ _ _⟩, ret_ext ((HE1.out.trans HX5.out).trans HX6.out) _ _ _⟩
    · have HG : Hid (runOfG p s fn = (⟨[], 0, []⟩, 0, stateErr p s)) := by unfold Hid runOfG; rw [if_neg (fun h => h hfu), if_pos hz]
      have TE : (stateErr p s != 0) = true := bne_iff_ne.2 hz
      obtain ⟨re, hre⟩ : ∃ re, stateErr p s = re := ⟨_, rfl⟩
      rw [hre] at TE HG
      have HRE := Lib.hid hre
      clear hz hre
      go_enter Try.func23, Try.ntmps23
      go_wp2_with (first
        | (go_at_call 31; (with_reducible refine (fuelled_any _ _).mono ?_); rintro e w4 ⟨rfl, rfl⟩; rw [HW.out])
        | (go_at_call 17; (with_reducible refine (stateCheck_any p _ _ _ s _ _ (Funcs.stays (Ext.stays (by ((repeat (first | assumption | exact Ext.refl _ | (exact And.left (by assumption)) | refine Ext.alloc ?_ _ | refine Ext.drew ?_ | refine Ext.drewN ?_ _ | refine Ext.setCell ?_ (by simp) _ | refine Ext.setCell ?_ (by simp; omega) _ | refine Ext.trans ?_ (by assumption))); done))) HP.out) (StateV.stays (Ext.stays (by ((repeat (first | assumption | exact Ext.refl _ | (exact And.left (by assumption)) | refine Ext.alloc ?_ _ | refine Ext.drew ?_ | refine Ext.drewN ?_ _ | refine Ext.setCell ?_ (by simp) _ | refine Ext.setCell ?_ (by simp; omega) _ | refine Ext.trans ?_ (by assumption))); done))) HS.out)).mono ?_); rintro e w5 ⟨rfl, hx5⟩; rw [HRE.out]; obtain ⟨z0, z0'⟩ := (HR.out).1.ext hx5; obtain ⟨z1, z1'⟩ := (HR.out).2.1.ext hx5; obtain ⟨z2, z2'⟩ := (HR.out).2.2.ext hx5; have HX5 := Lib.hid hx5; clear hx5))
      refine bodyPost_ret (results_cell3 rfl _ _ (w.heap.size + 1) 0 [.slice none 0 0, .int .i64 0, .slice none 0 0] _ rfl (box3 ⟨z0, z0'⟩ ⟨z1, z1'⟩ ⟨z2, z2'⟩ _ _ _) rfl rfl (by kernel_rfl)) rfl ?_
      rw [HG.out]
      exact ⟨⟨_, rfl, stateO_nil _ _⟩, ret_ext (HE1.out.trans HX5.out) _ _ _⟩
  · have HW : Hid (decide (0 ≤ fuel ∧ fuel ≤ 500) = false) := decide_eq_false hfu
    have HG : Hid (runOfG p s fuel = (⟨[], 0, []⟩, 0, 3)) := by unfold Hid runOfG; rw [if_pos hfu]
    obtain ⟨⟨z0, z0'⟩, ⟨z1, z1'⟩, ⟨z2, z2'⟩⟩ := HR.out
    clear hfu
    go_enter Try.func23, Try.ntmps23
    go_wp2_with (first
      | (go_at_call 31; (with_reducible refine (fuelled_any _ _).mono ?_); rintro e w4 ⟨rfl, rfl⟩; rw [HW.out]))
    refine bodyPost_ret (results_cell3 rfl _ _ (w.heap.size + 1) 0 [.slice none 0 0, .int .i64 0, .slice none 0 0] _ rfl (range3 z0 z1 z2) rfl rfl (by kernel_rfl)) rfl ?_
    rw [HG.out]
    exact ⟨⟨_, rfl, stateO_nil _ _⟩, HE1.out⟩
end Go.Proofs.Ytfajkebkhdcapaa
end
section
/- Contracts of run.All and of the document's RunAll. -/
set_option maxHeartbeats 4000000
set_option maxRecDepth 100000
namespace Go.Proofs.Ytfajkebkhdcapaa
open Go Go.RowKit

theorem runAll_any (p : List GFunc) (v : Value) (S : Nat → Prop) (fuel : Int) (w : World) (hp : Funcs w S v p) :
    Calls Try.prog 14 #[v, .int .i64 fuel] w fun e w' => (∃ x, e = .returned (.tuple #[x, .int .i64 (allG p fuel).2.1, .int .i64 (allG p fuel).2.2]) ∧ Ints w' (fun _ => True) x (allG p fuel).1) ∧ Ext w w' := by
  have HP := Lib.hid hp
  obtain ⟨ap, cp, rfl, _, _, _⟩ := hp
  have RA := alloc_keep
  by_cases hfu : 0 ≤ fuel ∧ fuel ≤ 500
  · have HW : Hid (decide (0 ≤ fuel ∧ fuel ≤ 500) = true) := decide_eq_true hfu
    obtain ⟨fn, hfn⟩ : ∃ n : Nat, fuel = n := ⟨fuel.toNat, by omega⟩
    subst hfn
    by_cases hz : progErr p = 0
    · have HG : Hid (allG p fn = ((runG p fn (beginG p)).1.out, (runG p fn (beginG p)).2.1, (runG p fn (beginG p)).2.2)) := by unfold Hid allG; rw [if_neg (fun h => h hfu), if_neg (fun h => h hz), Int.toNat_natCast]
      have HOK := Lib.hid (begin_ok hz)
      have HZ := Lib.hid hz
      clear hz
      go_enter Try.func14, Try.ntmps14
      go_wp2_with (first
        | (go_at_call 31; (with_reducible refine (fuelled_any _ _).mono ?_); rintro e w4 ⟨rfl, rfl⟩; rw [HW.out])
        | (go_at_call 24; (with_reducible refine (progCheck_any p _ _ _ HP.out).mono ?_); rintro e w5 ⟨rfl, hx5⟩; rw [HZ.out]; have HX5 := Lib.hid hx5; clear hx5)
        | (go_at_call 33; (with_reducible refine (first_any p _ _ _ (Funcs.stays (Ext.stays HX5.out) HP.out) HZ.out).mono ?_); rintro e w6 ⟨⟨x, rfl, hx⟩, hx6⟩; have HX6 := Lib.hid (HX5.out.trans hx6); have HXS := Lib.hid hx; clear hx hx6)
        | (go_at_call 32; (with_reducible refine (on_any p _ _ _ (beginG p) [0] _ fn _ (Funcs.stays (Ext.stays HX6.out) HP.out) HXS.out HOK.out (by omega)).mono ?_); rintro e w7 ⟨⟨y, rfl, hy⟩, hx7⟩; have HYS := Lib.hid hy.state; obtain ⟨ax, cx, bx, dx, rfl⟩ := hy.few; have HX7 := Lib.hid hx7; clear hy hx7))
      go_ret3
      rw [HG.out]
      obtain ⟨u, z, e, _, _, ho⟩ := HYS.out
      simp only [Value.agg.injEq, Array.mk.injEq, List.cons.injEq, and_true, true_and] at e
      obtain ⟨-, e⟩ := e
      rw [← e] at ho
      refine ⟨⟨_, rfl, Ints.stays (fun b o v _ hc => ⟨Ext.cell ((Ext.refl w7).alloc _) hc, trivial⟩) ho⟩, (HX6.out.trans HX7.out).alloc _⟩
    · have HG : Hid (allG p fn = ([], 0, progErr p)) := by unfold Hid allG; rw [if_neg (fun h => h hfu), if_pos hz]
      have TE : (progErr p != 0) = true := bne_iff_ne.2 hz
      obtain ⟨re, hre⟩ : ∃ re, progErr p = re := ⟨_, rfl⟩
      rw [hre] at TE HG
      have HRE := Lib.hid hre
      clear hz hre
      go_enter Try.func14, Try.ntmps14
      go_wp2_with (first
        | (go_at_call 31; (with_reducible refine (fuelled_any _ _).mono ?_); rintro e w4 ⟨rfl, rfl⟩; rw [HW.out])
        | (go_at_call 24; (with_reducible refine (progCheck_any p _ _ _ HP.out).mono ?_); rintro e w5 ⟨rfl, hx5⟩; rw [HRE.out]; have HX5 := Lib.hid hx5; clear hx5))
      go_ret3
      rw [HG.out]
      exact ⟨⟨_, rfl, Sl.nil _ _ _⟩, HX5.out⟩
  · have HW : Hid (decide (0 ≤ fuel ∧ fuel ≤ 500) = false) := decide_eq_false hfu
    have HG : Hid (allG p fuel = ([], 0, 3)) := by unfold Hid allG; rw [if_pos hfu]
    clear hfu
    go_enter Try.func14, Try.ntmps14
    go_wp2_with (first
      | (go_at_call 31; (with_reducible refine (fuelled_any _ _).mono ?_); rintro e w4 ⟨rfl, rfl⟩; rw [HW.out]))
    go_ret3
    rw [HG.out]
    exact ⟨⟨_, rfl, Sl.nil _ _ _⟩, Ext.refl _⟩
end Go.Proofs.Ytfajkebkhdcapaa
end
section
/- Contract of the document's RunAll. -/
set_option maxHeartbeats 4000000
set_option maxRecDepth 100000
namespace Go.Proofs.Ytfajkebkhdcapaa
open Go Go.RowKit

theorem refRunAll_any (p : List GFunc) (v : Value) (S : Nat → Prop) (fuel : Int) (w : World) (hp : Funcs w S v p) :
    Calls Try.prog 21 #[v, .int .i64 fuel] w fun e w' => (∃ x, e = .returned (.tuple #[x, .int .i64 (allG p fuel).2.1, .int .i64 (allG p fuel).2.2]) ∧ Ints w' (fun _ => True) x (allG p fuel).1) ∧ Ext w w' := by
  have HP := Lib.hid hp
  obtain ⟨ap, cp, rfl, _, _, _⟩ := hp
  have RA := alloc_keep
  by_cases hfu : 0 ≤ fuel ∧ fuel ≤ 500
  · have HW : Hid (decide (0 ≤ fuel ∧ fuel ≤ 500) = true) := decide_eq_true hfu
    obtain ⟨fn, hfn⟩ : ∃ n : Nat, fuel = n := ⟨fuel.toNat, by omega⟩
    subst hfn
    by_cases hz : progErr p = 0
    · have HG : Hid (allG p fn = ((runG p fn (beginG p)).1.out, (runG p fn (beginG p)).2.1, (runG p fn (beginG p)).2.2)) := by unfold Hid allG; rw [if_neg (fun h => h hfu), if_neg (fun h => h hz), Int.toNat_natCast]
      have HOK := Lib.hid (begin_ok hz)
      have HZ := Lib.hid hz
      clear hz
      go_enter Try.func21, Try.ntmps21
      go_wp2_with (first
        | (go_at_call 38; (with_reducible refine (within_any _ _ _ _).mono ?_); rintro e w4 ⟨rfl, rfl⟩; rw [HW.out])
        | (go_at_call 39; (with_reducible refine (progError_any p _ _ _ HP.out).mono ?_); rintro e w5 ⟨rfl, hx5⟩; rw [HZ.out]; have HX5 := Lib.hid hx5; clear hx5)
        | (go_at_call 41; (with_reducible refine (beginOf_any p _ _ _ (Funcs.stays (Ext.stays HX5.out) HP.out) HZ.out).mono ?_); rintro e w6 ⟨⟨x, rfl, hx⟩, hx6⟩; have HX6 := Lib.hid (HX5.out.trans hx6); have HXS := Lib.hid hx; clear hx hx6)
        | (go_at_call 40; (with_reducible refine (run_any p _ _ _ (beginG p) _ fn _ (Funcs.stays (Ext.stays HX6.out) HP.out) HXS.out (run_fit fn HOK.out) (by omega)).mono ?_); rintro e w7 ⟨⟨y, rfl, hy⟩, hx7⟩; have HYS := Lib.hid hy.state; obtain ⟨ax, cx, bx, dx, rfl⟩ := hy.few; have HX7 := Lib.hid hx7; clear hy hx7))
      go_ret3
      rw [HG.out]
      obtain ⟨u, z, e, _, _, ho⟩ := HYS.out
      simp only [Value.agg.injEq, Array.mk.injEq, List.cons.injEq, and_true, true_and] at e
      obtain ⟨-, e⟩ := e
      rw [← e] at ho
      refine ⟨⟨_, rfl, Ints.stays (fun b o v _ hc => ⟨Ext.cell ((Ext.refl w7).alloc _) hc, trivial⟩) ho⟩, (HX6.out.trans HX7.out).alloc _⟩
    · have HG : Hid (allG p fn = ([], 0, progErr p)) := by unfold Hid allG; rw [if_neg (fun h => h hfu), if_pos hz]
      have TE : (progErr p != 0) = true := bne_iff_ne.2 hz
      obtain ⟨re, hre⟩ : ∃ re, progErr p = re := ⟨_, rfl⟩
      rw [hre] at TE HG
      have HRE := Lib.hid hre
      clear hz hre
      go_enter Try.func21, Try.ntmps21
      go_wp2_with (first
        | (go_at_call 38; (with_reducible refine (within_any _ _ _ _).mono ?_); rintro e w4 ⟨rfl, rfl⟩; rw [HW.out])
        | (go_at_call 39; (with_reducible refine (progError_any p _ _ _ HP.out).mono ?_); rintro e w5 ⟨rfl, hx5⟩; rw [HRE.out]; have HX5 := Lib.hid hx5; clear hx5))
      go_ret3
      rw [HG.out]
      exact ⟨⟨_, rfl, Sl.nil _ _ _⟩, HX5.out⟩
  · have HW : Hid (decide (0 ≤ fuel ∧ fuel ≤ 500) = false) := decide_eq_false hfu
    have HG : Hid (allG p fuel = ([], 0, 3)) := by unfold Hid allG; rw [if_pos hfu]
    clear hfu
    go_enter Try.func21, Try.ntmps21
    go_wp2_with (first
      | (go_at_call 38; (with_reducible refine (within_any _ _ _ _).mono ?_); rintro e w4 ⟨rfl, rfl⟩; rw [HW.out]))
    go_ret3
    rw [HG.out]
    exact ⟨⟨_, rfl, Sl.nil _ _ _⟩, Ext.refl _⟩
end Go.Proofs.Ytfajkebkhdcapaa
end
