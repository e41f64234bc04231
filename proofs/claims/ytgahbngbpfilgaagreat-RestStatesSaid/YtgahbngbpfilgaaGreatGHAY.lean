/- Merged texts: contracts and plain facts, one part behind another; each part begins with what it says. -/
import Derived.Test.YtgahbngbpfilgaaGreatGHAM
import Derived.Test.YtgahbngbpfilgaaGreatGHAN
import Derived.Test.YtgahbngbpfilgaaGreatGHAP
import Derived.Test.YtgahbngbpfilgaaGreatGHAX
section
set_option maxHeartbeats 4000000
set_option maxRecDepth 100000
namespace Go.Proofs.YtgahbngbpfilgaaGreat
open Go Go.RowKit
theorem on_any (p : List GFunc) (v : Value) (S T : Nat → Prop) (s : GState) (l : List Int) (vs : Value) (fuel : Nat) (w : World) (hp : Funcs w S v p) (hs : StateV w T vs s) (hok : Ok p s l) (hfu : fuel ≤ 1000000) :
  Calls Tryz.prog 32 #[v, vs, .int .i64 fuel] w fun e w' => (∃ x, e = .returned (.tuple #[x, .int .i64 (runG p fuel s).2.1, .int .i64 (runG p fuel s).2.2]) ∧ StateO w' w.heap.size x (runG p fuel s).1) ∧ Ext w w' := by
 have HP := Lib.hid hp
 have HS := Lib.hid hs
 have HFEW := Lib.hid hok.fewS
 have HOK := Lib.hid hok
 obtain ⟨a, c, b, d, rfl⟩ := hs.few
 obtain ⟨ap, cp, rfl, _, _, _⟩ := hp
 have RA := alloc_keep
 have hs0 : (w.alloc (.cells #[.slice a s.fibers.length c, .int .i64 s.now, .slice b s.out.length d] 26)).heap.size = w.heap.size + 1 := Array.size_push _
 have r0 := Cx.new (w.alloc (.cells #[.slice a s.fibers.length c, .int .i64 s.now, .slice b s.out.length d] 26)) [.slice none 0 0, .int .i64 0, .slice none 0 0] 26 (j := 0) rfl
 have r1 := Cx.new (w.alloc (.cells #[.slice a s.fibers.length c, .int .i64 s.now, .slice b s.out.length d] 26)) [.slice none 0 0, .int .i64 0, .slice none 0 0] 26 (j := 1) rfl
 have r2 := Cx.new (w.alloc (.cells #[.slice a s.fibers.length c, .int .i64 s.now, .slice b s.out.length d] 26)) [.slice none 0 0, .int .i64 0, .slice none 0 0] 26 (j := 2) rfl
 rw [hs0] at r0 r1 r2
 have HR := Lib.hid (⟨r0, r1, r2⟩ : _ ∧ _ ∧ _)
 have HQ := Lib.hid (⟨(Cx.new w [.slice a s.fibers.length c, .int .i64 s.now, .slice b s.out.length d] 26 (j := 0) rfl).ext ((Ext.refl _).alloc (.cells #[.slice none 0 0, .int .i64 0, .slice none 0 0] 26)), (Cx.new w [.slice a s.fibers.length c, .int .i64 s.now, .slice b s.out.length d] 26 (j := 1) rfl).ext ((Ext.refl _).alloc (.cells #[.slice none 0 0, .int .i64 0, .slice none 0 0] 26)), (Cx.new w [.slice a s.fibers.length c, .int .i64 s.now, .slice b s.out.length d] 26 (j := 2) rfl).ext ((Ext.refl _).alloc (.cells #[.slice none 0 0, .int .i64 0, .slice none 0 0] 26))⟩ : _ ∧ _ ∧ _)
 have HE1 : Hid (Ext w ((w.alloc (.cells #[.slice a s.fibers.length c, .int .i64 s.now, .slice b s.out.length d] 26)).alloc (.cells #[.slice none 0 0, .int .i64 0, .slice none 0 0] 26))) := ((Ext.refl w).alloc _).alloc _
 have HS1 : Hid (((w.alloc (.cells #[.slice a s.fibers.length c, .int .i64 s.now, .slice b s.out.length d] 26)).alloc (.cells #[.slice none 0 0, .int .i64 0, .slice none 0 0] 26)).heap.size = w.heap.size + 2) := by unfold Hid; simp
 clear hs0 r0 r1 r2 hok
 go_enter Tryz.func32, Tryz.ntmps32
 go_upto_region 1 with fail
 go_cut [12] (fun _ wr => Boxed wr (w.heap.size + 2) w.heap.size s ∧ Ext w wr ∧ Cx wr (w.heap.size + 1) 0 (.slice none 0 0) ∧ Cx wr (w.heap.size + 1) 1 (.int .i64 0) ∧ Cx wr (w.heap.size + 1) 2 (.slice none 0 0))
 case first =>
  go_wp2_with (first
   | (go_at_call 55; (with_reducible refine (own_any s _ T _ (StateV.stays (Ext.stays (by ((repeat (first | assumption | exact Ext.refl _ | (exact And.left (by assumption)) | refine Ext.alloc ?_ _ | refine Ext.drew ?_ | refine Ext.drewN ?_ _ | refine Ext.setCell ?_ (by simp) _ | refine Ext.setCell ?_ (by simp; omega) _ | refine Ext.trans ?_ (by assumption))); done))) HS.out) HFEW.out).mono ?_); rintro e w2 ⟨⟨P, rfl, hO, hg⟩, hx2⟩; rw [HS1.out] at hO; obtain ⟨q0, q0'⟩ := (HQ.out).1.ext hx2; obtain ⟨q1, q1'⟩ := (HQ.out).2.1.ext hx2; obtain ⟨q2, q2'⟩ := (HQ.out).2.2.ext hx2; obtain ⟨av, cv, ev, _, _⟩ := hO.row.shape; obtain ⟨ao, co, eo, _, _⟩ := hO.out.shape; have hst : StateO w2 (w.heap.size + 2) _ _ := ⟨P, rfl, hO, hg⟩; rw [ev, eo] at hst ⊢; have HST := Lib.hid hst; have HX2 := Lib.hid hx2; clear hO hg hx2 ev eo hst))
  go_meet
  have hr := HR.out
  refine ⟨Boxed.store ⟨q0, q0'⟩ ⟨q1, q1'⟩ ⟨q2, q2'⟩ HST.out (by omega), (((HE1.out.trans HX2.out).setCell (p := ⟨w.heap.size, 0, none⟩) (Nat.le_refl _) _).setCell (p := ⟨w.heap.size, 1, none⟩) (Nat.le_refl _) _).setCell (p := ⟨w.heap.size, 2, none⟩) (Nat.le_refl _) _, ?_, ?_, ?_⟩
  ·exact (hr.1.ext HX2.out).chg (chg3 w2 w.heap.size _ _ _) (by omega)
  ·exact (hr.2.1.ext HX2.out).chg (chg3 w2 w.heap.size _ _ _) (by omega)
  ·exact (hr.2.2.ext HX2.out).chg (chg3 w2 w.heap.size _ _ _) (by omega)
 case rest =>
  rename World => w2
  obtain ⟨hB2, hE2, hR2⟩ := hcut
  have HB2 := Lib.hid hB2
  have HE2 := Lib.hid hE2
  have HR2 := Lib.hid hR2
  clear hB2 hE2 hR2 HR HQ HE1 HS1 HS HFEW
  go_wp2_with fail
  go_loopw [9] (fun q9 wr => ∃ (n k : Nat) (s' : GState) (l' : List Int), n + k = fuel ∧ q9 = .int .i64 n ∧ Ok p s' l' ∧ runG p fuel s = ((runG p k s').1, (runG p k s').2.1 + n, (runG p k s').2.2) ∧
    Boxed wr (w.heap.size + 2) w.heap.size s' ∧ Ext w wr ∧ Cx wr (w.heap.size + 1) 0 (.slice none 0 0) ∧ Cx wr (w.heap.size + 1) 1 (.int .i64 0) ∧ Cx wr (w.heap.size + 1) 2 (.slice none 0 0)) (fun q _ => fuel - (intOf q).toNat)
  case atStart => exact ⟨0, fuel, s, l, Nat.zero_add _, rfl, HOK.out, by simp, HB2.out, HE2.out, HR2.out⟩
  case round =>
   obtain ⟨n, k, s', l', hnk, rfl, hok, hrun, hbx, hE, hR⟩ := hrel
   have HOKK := Lib.hid hok
   have HRUN := Lib.hid hrun
   have HEK := Lib.hid hE
   have HRK := Lib.hid hR
   have HBXK := Lib.hid hbx
   obtain ⟨ax, cx, dx, ex, ⟨b0, b0'⟩, ⟨b1, b1'⟩, ⟨b2, b2'⟩, hst⟩ := hbx.ex
   have HST := Lib.hid hst
   obtain ⟨⟨r0, r0'⟩, ⟨r1, r1'⟩, ⟨r2, r2'⟩⟩ := hR
   clear hok hrun hbx hE hst
   rename World => wr
   by_cases hk : k = 0
   ·subst hk
    have TF : decide ((n : Int) < (fuel : Int)) = false := decide_eq_false (by omega)
    have HRES : Hid (runG p fuel s = (s', (n : Int), 0)) := by unfold Hid; rw [HRUN.out, runG_zero]; simp
    go_wp2_with fail
    refine bodyPost_ret (results_cell3 rfl _ _ (w.heap.size + 1) 0 _ _ rfl (box3 ⟨r0, r0'⟩ ⟨r1, r1'⟩ ⟨r2, r2'⟩ _ _ _) rfl rfl (by kernel_rfl)) rfl ?_
    rw [HRES.out]
    exact ⟨⟨_, by rfl, ret_state HST.out _ _ _⟩, ret_ext HEK.out _ _ _⟩
   ·obtain ⟨k, rfl⟩ : ∃ j, k = j + 1 := ⟨k - 1, by omega⟩
    have TF : decide ((n : Int) < (fuel : Int)) = true := decide_eq_true (by omega)
    by_cases hneg : s'.now < 0
    ·have TN : decide ((0 : Int) ≤ s'.now) = false := decide_eq_false (by omega)
     have HRES : Hid (runG p fuel s = (s', (n : Int), 0)) := by unfold Hid; rw [HRUN.out, runG_done p s' _ hneg]; simp
     go_wp2_with fail
     refine bodyPost_ret (results_cell3 rfl _ _ (w.heap.size + 1) 0 _ _ rfl (box3 ⟨r0, r0'⟩ ⟨r1, r1'⟩ ⟨r2, r2'⟩ _ _ _) rfl rfl (by kernel_rfl)) rfl ?_
     rw [HRES.out]
     exact ⟨⟨_, by rfl, ret_state HST.out _ _ _⟩, ret_ext HEK.out _ _ _⟩
    ·have TN : decide ((0 : Int) ≤ s'.now) = true := decide_eq_true (by omega)
     have HFEWK := Lib.hid HOKK.out.fewS
     have HIMP := Lib.hid (ok_step HOKK.out)
     have HNEG := Lib.hid hneg
     clear hk
     by_cases he : (doneG p s').1 = 0
     ·have hsg : stepG p s' = (0, (doneG p s').2) := by unfold stepG; rw [if_neg hneg, if_pos he]
      have hnx : ∃ l9, Ok p (doneG p s').2 l9 := by
       rcases (step_right HOKK.out (by omega)).2 with ⟨_, h⟩ | h
       ·exact h
       ·omega
      have hrn := HRUN.out
      rw [runG_step p s' k hneg he] at hrn
      obtain ⟨t, ht⟩ : ∃ t, (doneG p s').2 = t := ⟨_, rfl⟩
      rw [ht] at hsg hnx hrn
      obtain ⟨l9, hnx⟩ := hnx
      have HSG := Lib.hid hsg
      have HNX := Lib.hid hnx
      have HRN := Lib.hid hrn
      clear hsg hnx hrn ht he hneg
      have KN : IntKind.i64.wrap ((n : Int) + 1) = (n : Int) + 1 := IntWalk.i64_in _ (by omega)
      go_wp2_with (first
       | (go_at_call 30; (with_reducible refine (stepTurn_any p _ S _ s' _ _ (Funcs.stays (Ext.stays HEK.out) HP.out) HST.out.state HFEWK.out HIMP.out).mono ?_); rintro e w3 ⟨⟨x, rfl, hx⟩, hx3⟩; rw [HSG.out] at hx ⊢; obtain ⟨ax3, cx3, dx3, ex3, rfl⟩ := hx.few; obtain ⟨hq0, hq0'⟩ := (Cx.ext (W := wr) ⟨b0, b0'⟩ hx3).ext ((Ext.refl w3).alloc (.cells #[.slice ax3 t.fibers.length cx3, .int .i64 t.now, .slice dx3 t.out.length ex3] 26)); obtain ⟨hq1, hq1'⟩ := (Cx.ext (W := wr) ⟨b1, b1'⟩ hx3).ext ((Ext.refl w3).alloc (.cells #[.slice ax3 t.fibers.length cx3, .int .i64 t.now, .slice dx3 t.out.length ex3] 26)); obtain ⟨hq2, hq2'⟩ := (Cx.ext (W := wr) ⟨b2, b2'⟩ hx3).ext ((Ext.refl w3).alloc (.cells #[.slice ax3 t.fibers.length cx3, .int .i64 t.now, .slice dx3 t.out.length ex3] 26)); have hr0 := (Cx.ext (W := wr) ⟨r0, r0'⟩ hx3).ext ((Ext.refl w3).alloc (.cells #[.slice ax3 t.fibers.length cx3, .int .i64 t.now, .slice dx3 t.out.length ex3] 26)); have hr1 := (Cx.ext (W := wr) ⟨r1, r1'⟩ hx3).ext ((Ext.refl w3).alloc (.cells #[.slice ax3 t.fibers.length cx3, .int .i64 t.now, .slice dx3 t.out.length ex3] 26)); have hr2 := (Cx.ext (W := wr) ⟨r2, r2'⟩ hx3).ext ((Ext.refl w3).alloc (.cells #[.slice ax3 t.fibers.length cx3, .int .i64 t.now, .slice dx3 t.out.length ex3] 26)); have HX3 := Lib.hid hx3; have HXS := Lib.hid hx; have HR3 := Lib.hid (⟨hr0, hr1, hr2⟩ : _ ∧ _ ∧ _); clear hx hx3 hr0 hr1 hr2))
      have hrs : w.heap.size + 2 ≤ wr.heap.size := by have := Cx.lt (W := wr) ⟨r0, r0'⟩; omega
      go_roundw
      case rel =>
       refine ⟨n + 1, k, t, l9, by omega, by go_num, HNX.out, by rw [HRN.out]; simp; omega, Boxed.store (w := w3.alloc (.cells #[.slice ax3 t.fibers.length cx3, .int .i64 t.now, .slice dx3 t.out.length ex3] 26)) (B := w.heap.size + 2) ⟨hq0, hq0'⟩ ⟨hq1, hq1'⟩ ⟨hq2, hq2'⟩ ((HXS.out.ext ((Ext.refl _).alloc _)).mono hrs) (by omega), ?_, ?_, ?_, ?_⟩
       ·exact ((((HEK.out.trans HX3.out).alloc _).setCell (p := ⟨w.heap.size, 0, none⟩) (Nat.le_refl _) _).setCell (p := ⟨w.heap.size, 1, none⟩) (Nat.le_refl _) _).setCell (p := ⟨w.heap.size, 2, none⟩) (Nat.le_refl _) _
       ·exact (HR3.out).1.chg (chg3 _ w.heap.size _ _ _) (by omega)
       ·exact (HR3.out).2.1.chg (chg3 _ w.heap.size _ _ _) (by omega)
       ·exact (HR3.out).2.2.chg (chg3 _ w.heap.size _ _ _) (by omega)
      case measure => simp [intOf]; omega
     ·have hsg : stepG p s' = ((doneG p s').1, ⟨[], 0, []⟩) := by unfold stepG; rw [if_neg hneg, if_neg he]
      have TE : ((doneG p s').1 != 0) = true := bne_iff_ne.2 he
      have hrn := HRUN.out
      rw [runG_err p s' k hneg he] at hrn
      obtain ⟨re, hre⟩ : ∃ re, (doneG p s').1 = re := ⟨_, rfl⟩
      rw [hre] at TE hsg hrn
      have HSG := Lib.hid hsg
      have HRN := Lib.hid hrn
      clear hsg hrn hre he hneg
      go_wp2_with (first
       | (go_at_call 30; (with_reducible refine (stepTurn_any p _ S _ s' _ _ (Funcs.stays (Ext.stays HEK.out) HP.out) HST.out.state HFEWK.out HIMP.out).mono ?_); rintro e w3 ⟨⟨x, rfl, hx⟩, hx3⟩; rw [HSG.out] at hx ⊢; obtain ⟨ax3, cx3, dx3, ex3, rfl⟩ := hx.few0; obtain ⟨hq0, hq0'⟩ := (Cx.ext (W := wr) ⟨b0, b0'⟩ hx3).ext ((Ext.refl w3).alloc (.cells #[.slice ax3 0 cx3, .int .i64 0, .slice dx3 0 ex3] 26)); obtain ⟨hq1, hq1'⟩ := (Cx.ext (W := wr) ⟨b1, b1'⟩ hx3).ext ((Ext.refl w3).alloc (.cells #[.slice ax3 0 cx3, .int .i64 0, .slice dx3 0 ex3] 26)); obtain ⟨hq2, hq2'⟩ := (Cx.ext (W := wr) ⟨b2, b2'⟩ hx3).ext ((Ext.refl w3).alloc (.cells #[.slice ax3 0 cx3, .int .i64 0, .slice dx3 0 ex3] 26)); have hr0 := (Cx.ext (W := wr) ⟨r0, r0'⟩ hx3).ext ((Ext.refl w3).alloc (.cells #[.slice ax3 0 cx3, .int .i64 0, .slice dx3 0 ex3] 26)); have hr1 := (Cx.ext (W := wr) ⟨r1, r1'⟩ hx3).ext ((Ext.refl w3).alloc (.cells #[.slice ax3 0 cx3, .int .i64 0, .slice dx3 0 ex3] 26)); have hr2 := (Cx.ext (W := wr) ⟨r2, r2'⟩ hx3).ext ((Ext.refl w3).alloc (.cells #[.slice ax3 0 cx3, .int .i64 0, .slice dx3 0 ex3] 26)); obtain ⟨p0, p0'⟩ := hr0; obtain ⟨p1, p1'⟩ := hr1; obtain ⟨p2, p2'⟩ := hr2; have HX3 := Lib.hid hx3; clear hx hx3))
      have HRES : Hid (runG p fuel s = (s', (n : Int), re)) := by
       have h := HRN.out
       unfold Hid
       rw [h]
       simp
      refine bodyPost_ret (results_cell3 rfl _ _ (w.heap.size + 1) 0 _ _ rfl (box3 ⟨p0, p0'⟩ ⟨p1, p1'⟩ ⟨p2, p2'⟩ _ _ _) rfl rfl (by kernel_rfl)) rfl ?_
      rw [HRES.out]
      exact ⟨⟨_, rfl, ret_state (HST.out.ext (HX3.out.alloc _)) _ _ _⟩, ret_ext ((HEK.out.trans HX3.out).alloc _) _ _ _⟩
end Go.Proofs.YtgahbngbpfilgaaGreat
end
section
set_option maxHeartbeats 4000000
set_option maxRecDepth 100000
namespace Go.Proofs.YtgahbngbpfilgaaGreat
open Go Go.RowKit
def doS (p : List GFunc) (s : GState) : Int × GState := if stateErr p s ≠ 0 then (stateErr p s, ⟨[], 0, []⟩) else stepG p s
theorem stepDo_any (p : List GFunc) (v : Value) (S T : Nat → Prop) (s : GState) (vs : Value) (w : World) (hp : Funcs w S v p) (hs : StateV w T vs s) :
  Calls Tryz.prog 10 #[v, vs] w fun e w' => (∃ x, e = .returned (.tuple #[x, .int .i64 (doS p s).1]) ∧ StateO w' w.heap.size x (doS p s).2) ∧ Ext w w' := by
 have HP := Lib.hid hp
 have HS := Lib.hid hs
 obtain ⟨a, c, b, d, rfl⟩ := hs.few
 obtain ⟨ap, cp, rfl, _, _, _⟩ := hp
 have RA := alloc_keep
 have hs0 : (w.alloc (.cells #[.slice a s.fibers.length c, .int .i64 s.now, .slice b s.out.length d] 26)).heap.size = w.heap.size + 1 := Array.size_push _
 have r0 := Cx.new (w.alloc (.cells #[.slice a s.fibers.length c, .int .i64 s.now, .slice b s.out.length d] 26)) [.slice none 0 0, .int .i64 0, .slice none 0 0] 26 (j := 0) rfl
 have r1 := Cx.new (w.alloc (.cells #[.slice a s.fibers.length c, .int .i64 s.now, .slice b s.out.length d] 26)) [.slice none 0 0, .int .i64 0, .slice none 0 0] 26 (j := 1) rfl
 have r2 := Cx.new (w.alloc (.cells #[.slice a s.fibers.length c, .int .i64 s.now, .slice b s.out.length d] 26)) [.slice none 0 0, .int .i64 0, .slice none 0 0] 26 (j := 2) rfl
 rw [hs0] at r0 r1 r2
 have HR := Lib.hid (⟨r0, r1, r2⟩ : _ ∧ _ ∧ _)
 have HQ := Lib.hid (⟨(Cx.new w [.slice a s.fibers.length c, .int .i64 s.now, .slice b s.out.length d] 26 (j := 0) rfl).ext ((Ext.refl _).alloc (.cells #[.slice none 0 0, .int .i64 0, .slice none 0 0] 26)), (Cx.new w [.slice a s.fibers.length c, .int .i64 s.now, .slice b s.out.length d] 26 (j := 1) rfl).ext ((Ext.refl _).alloc (.cells #[.slice none 0 0, .int .i64 0, .slice none 0 0] 26)), (Cx.new w [.slice a s.fibers.length c, .int .i64 s.now, .slice b s.out.length d] 26 (j := 2) rfl).ext ((Ext.refl _).alloc (.cells #[.slice none 0 0, .int .i64 0, .slice none 0 0] 26))⟩ : _ ∧ _ ∧ _)
 have HE1 : Hid (Ext w ((w.alloc (.cells #[.slice a s.fibers.length c, .int .i64 s.now, .slice b s.out.length d] 26)).alloc (.cells #[.slice none 0 0, .int .i64 0, .slice none 0 0] 26))) := ((Ext.refl w).alloc _).alloc _
 have HS1 : Hid (((w.alloc (.cells #[.slice a s.fibers.length c, .int .i64 s.now, .slice b s.out.length d] 26)).alloc (.cells #[.slice none 0 0, .int .i64 0, .slice none 0 0] 26)).heap.size = w.heap.size + 2) := by unfold Hid; simp
 clear hs0 r0 r1 r2
 by_cases hz : stateErr p s = 0
 ·have HG : Hid (doS p s = stepG p s) := by unfold Hid doS; rw [if_neg (fun h => h hz)]
  obtain ⟨l, hok⟩ := ok_of_err hz
  have HFW := Lib.hid hok.fewS
  have HST := Lib.hid (ok_step hok)
  have HZ := Lib.hid hz
  clear hz hok
  go_enter Tryz.func10, Tryz.ntmps10
  go_wp2_with (first
   | (go_at_call 29; (with_reducible refine (stateCheck_any p _ _ _ s _ _ (Funcs.stays (Ext.stays (by ((repeat (first | assumption | exact Ext.refl _ | (exact And.left (by assumption)) | refine Ext.alloc ?_ _ | refine Ext.drew ?_ | refine Ext.drewN ?_ _ | refine Ext.setCell ?_ (by simp) _ | refine Ext.setCell ?_ (by simp; omega) _ | refine Ext.trans ?_ (by assumption))); done))) HP.out) (StateV.stays (Ext.stays (by ((repeat (first | assumption | exact Ext.refl _ | (exact And.left (by assumption)) | refine Ext.alloc ?_ _ | refine Ext.drew ?_ | refine Ext.drewN ?_ _ | refine Ext.setCell ?_ (by simp) _ | refine Ext.setCell ?_ (by simp; omega) _ | refine Ext.trans ?_ (by assumption))); done))) HS.out)).mono ?_); rintro e w5 ⟨rfl, hx5⟩; rw [HZ.out]; obtain ⟨q0, q0'⟩ := (HQ.out).1.ext hx5; obtain ⟨q1, q1'⟩ := (HQ.out).2.1.ext hx5; obtain ⟨q2, q2'⟩ := (HQ.out).2.2.ext hx5; have HX5 := Lib.hid hx5; clear hx5)
   | (go_at_call 30; (with_reducible refine (stepTurn_any p _ _ _ s _ _ (Funcs.stays (Ext.stays (HE1.out.trans HX5.out)) HP.out) (StateV.stays (Ext.stays (HE1.out.trans HX5.out)) HS.out) HFW.out HST.out).mono ?_); rintro e w6 ⟨⟨x, rfl, hx⟩, hx6⟩; have HXS := Lib.hid hx; obtain ⟨ax, cx, bx, dx, rfl⟩ := hx.few; obtain ⟨z0, z0'⟩ := (HR.out).1.ext (HX5.out.trans hx6); obtain ⟨z1, z1'⟩ := (HR.out).2.1.ext (HX5.out.trans hx6); obtain ⟨z2, z2'⟩ := (HR.out).2.2.ext (HX5.out.trans hx6); have HX6 := Lib.hid hx6; clear hx hx6))
  refine bodyPost_ret (results_cell2 rfl _ _ (w.heap.size + 1) 0 _ _ rfl (box3 ⟨z0, z0'⟩ ⟨z1, z1'⟩ ⟨z2, z2'⟩ _ _ _) rfl rfl (by kernel_rfl)) rfl ?_
  rw [HG.out]
  exact ⟨⟨_, rfl, ret_state (HXS.out.mono (by have h2 := (HX5.out).size; have h3 := HS1.out; omega)) _ _ _⟩, ret_ext ((HE1.out.trans HX5.out).trans HX6.out) _ _ _⟩
 ·have HG : Hid (doS p s = (stateErr p s, ⟨[], 0, []⟩)) := by unfold Hid doS; rw [if_pos hz]
  have TE : (stateErr p s != 0) = true := bne_iff_ne.2 hz
  obtain ⟨re, hre⟩ : ∃ re, stateErr p s = re := ⟨_, rfl⟩
  rw [hre] at TE HG
  have HRE := Lib.hid hre
  clear hz hre
  go_enter Tryz.func10, Tryz.ntmps10
  go_wp2_with (first
   | (go_at_call 29; (with_reducible refine (stateCheck_any p _ _ _ s _ _ (Funcs.stays (Ext.stays (by ((repeat (first | assumption | exact Ext.refl _ | (exact And.left (by assumption)) | refine Ext.alloc ?_ _ | refine Ext.drew ?_ | refine Ext.drewN ?_ _ | refine Ext.setCell ?_ (by simp) _ | refine Ext.setCell ?_ (by simp; omega) _ | refine Ext.trans ?_ (by assumption))); done))) HP.out) (StateV.stays (Ext.stays (by ((repeat (first | assumption | exact Ext.refl _ | (exact And.left (by assumption)) | refine Ext.alloc ?_ _ | refine Ext.drew ?_ | refine Ext.drewN ?_ _ | refine Ext.setCell ?_ (by simp) _ | refine Ext.setCell ?_ (by simp; omega) _ | refine Ext.trans ?_ (by assumption))); done))) HS.out)).mono ?_); rintro e w5 ⟨rfl, hx5⟩; rw [HRE.out]; obtain ⟨z0, z0'⟩ := (HR.out).1.ext hx5; obtain ⟨z1, z1'⟩ := (HR.out).2.1.ext hx5; obtain ⟨z2, z2'⟩ := (HR.out).2.2.ext hx5; have HX5 := Lib.hid hx5; clear hx5))
  refine bodyPost_ret (results_cell2 rfl _ _ (w.heap.size + 1) 0 [.slice none 0 0, .int .i64 0, .slice none 0 0] _ rfl (box3 ⟨z0, z0'⟩ ⟨z1, z1'⟩ ⟨z2, z2'⟩ _ _ _) rfl rfl (by kernel_rfl)) rfl ?_
  rw [HG.out]
  exact ⟨⟨_, rfl, stateO_nil _ _⟩, ret_ext (HE1.out.trans HX5.out) _ _ _⟩
theorem fuelled_any (n : Int) (w : World) : Calls Tryz.prog 31 #[.int .i64 n] w fun e w' => e = .returned (.bool (decide (0 ≤ n ∧ n ≤ 500))) ∧ w = w' := by
 by_cases h : 0 ≤ n
 ·have T1 : decide (0 ≤ n) = true := decide_eq_true h
  have e : decide (0 ≤ n ∧ n ≤ 500) = decide (n ≤ 500) := decide_eq_decide.2 ⟨fun k => k.2, fun k => ⟨h, k⟩⟩
  rw [e]
  clear h e
  go_enter Tryz.func31, Tryz.ntmps31
  go_wp2_with fail
  go_ret
  exact ⟨rfl, rfl⟩
 ·have T1 : decide (0 ≤ n) = false := decide_eq_false h
  have e : decide (0 ≤ n ∧ n ≤ 500) = false := decide_eq_false (fun k => h k.1)
  rw [e]
  clear h e
  go_enter Tryz.func31, Tryz.ntmps31
  go_wp2_with fail
  go_ret
  exact ⟨rfl, rfl⟩
theorem runRun_any (p : List GFunc) (v : Value) (S T : Nat → Prop) (s : GState) (vs : Value) (fuel : Int) (w : World) (hp : Funcs w S v p) (hs : StateV w T vs s) :
  Calls Tryz.prog 11 #[v, vs, .int .i64 fuel] w fun e w' => (∃ x, e = .returned (.tuple #[x, .int .i64 (runOfG p s fuel).2.1, .int .i64 (runOfG p s fuel).2.2]) ∧ StateO w' w.heap.size x (runOfG p s fuel).1) ∧ Ext w w' := by
 have HP := Lib.hid hp
 have HS := Lib.hid hs
 obtain ⟨a, c, b, d, rfl⟩ := hs.few
 obtain ⟨ap, cp, rfl, _, _, _⟩ := hp
 have RA := alloc_keep
 have hs0 : (w.alloc (.cells #[.slice a s.fibers.length c, .int .i64 s.now, .slice b s.out.length d] 26)).heap.size = w.heap.size + 1 := Array.size_push _
 have r0 := Cx.new (w.alloc (.cells #[.slice a s.fibers.length c, .int .i64 s.now, .slice b s.out.length d] 26)) [.slice none 0 0, .int .i64 0, .slice none 0 0] 26 (j := 0) rfl
 have r1 := Cx.new (w.alloc (.cells #[.slice a s.fibers.length c, .int .i64 s.now, .slice b s.out.length d] 26)) [.slice none 0 0, .int .i64 0, .slice none 0 0] 26 (j := 1) rfl
 have r2 := Cx.new (w.alloc (.cells #[.slice a s.fibers.length c, .int .i64 s.now, .slice b s.out.length d] 26)) [.slice none 0 0, .int .i64 0, .slice none 0 0] 26 (j := 2) rfl
 rw [hs0] at r0 r1 r2
 have HR := Lib.hid (⟨r0, r1, r2⟩ : _ ∧ _ ∧ _)
 have HQ := Lib.hid (⟨(Cx.new w [.slice a s.fibers.length c, .int .i64 s.now, .slice b s.out.length d] 26 (j := 0) rfl).ext ((Ext.refl _).alloc (.cells #[.slice none 0 0, .int .i64 0, .slice none 0 0] 26)), (Cx.new w [.slice a s.fibers.length c, .int .i64 s.now, .slice b s.out.length d] 26 (j := 1) rfl).ext ((Ext.refl _).alloc (.cells #[.slice none 0 0, .int .i64 0, .slice none 0 0] 26)), (Cx.new w [.slice a s.fibers.length c, .int .i64 s.now, .slice b s.out.length d] 26 (j := 2) rfl).ext ((Ext.refl _).alloc (.cells #[.slice none 0 0, .int .i64 0, .slice none 0 0] 26))⟩ : _ ∧ _ ∧ _)
 have HE1 : Hid (Ext w ((w.alloc (.cells #[.slice a s.fibers.length c, .int .i64 s.now, .slice b s.out.length d] 26)).alloc (.cells #[.slice none 0 0, .int .i64 0, .slice none 0 0] 26))) := ((Ext.refl w).alloc _).alloc _
 have HS1 : Hid (((w.alloc (.cells #[.slice a s.fibers.length c, .int .i64 s.now, .slice b s.out.length d] 26)).alloc (.cells #[.slice none 0 0, .int .i64 0, .slice none 0 0] 26)).heap.size = w.heap.size + 2) := by unfold Hid; simp
 clear hs0 r0 r1 r2
 by_cases hfu : 0 ≤ fuel ∧ fuel ≤ 500
 ·have HW : Hid (decide (0 ≤ fuel ∧ fuel ≤ 500) = true) := decide_eq_true hfu
  obtain ⟨fn, hfn⟩ : ∃ n : Nat, fuel = n := ⟨fuel.toNat, by omega⟩
  subst hfn
  by_cases hz : stateErr p s = 0
  ·have HG : Hid (runOfG p s fn = runG p fn s) := by unfold Hid runOfG; rw [if_neg (fun h => h hfu), if_neg (fun h => h hz), Int.toNat_natCast]
   obtain ⟨l, hok⟩ := ok_of_err hz
   have HOK := Lib.hid hok
   have HZ := Lib.hid hz
   clear hz hok
   go_enter Tryz.func11, Tryz.ntmps11
   go_wp2_with (first
    | (go_at_call 31; (with_reducible refine (fuelled_any _ _).mono ?_); rintro e w4 ⟨rfl, rfl⟩; rw [HW.out])
    | (go_at_call 29; (with_reducible refine (stateCheck_any p _ _ _ s _ _ (Funcs.stays (Ext.stays (by ((repeat (first | assumption | exact Ext.refl _ | (exact And.left (by assumption)) | refine Ext.alloc ?_ _ | refine Ext.drew ?_ | refine Ext.drewN ?_ _ | refine Ext.setCell ?_ (by simp) _ | refine Ext.setCell ?_ (by simp; omega) _ | refine Ext.trans ?_ (by assumption))); done))) HP.out) (StateV.stays (Ext.stays (by ((repeat (first | assumption | exact Ext.refl _ | (exact And.left (by assumption)) | refine Ext.alloc ?_ _ | refine Ext.drew ?_ | refine Ext.drewN ?_ _ | refine Ext.setCell ?_ (by simp) _ | refine Ext.setCell ?_ (by simp; omega) _ | refine Ext.trans ?_ (by assumption))); done))) HS.out)).mono ?_); rintro e w5 ⟨rfl, hx5⟩; rw [HZ.out]; obtain ⟨q0, q0'⟩ := (HQ.out).1.ext hx5; obtain ⟨q1, q1'⟩ := (HQ.out).2.1.ext hx5; obtain ⟨q2, q2'⟩ := (HQ.out).2.2.ext hx5; have HX5 := Lib.hid hx5; clear hx5)
    | (go_at_call 32; (with_reducible refine (on_any p _ _ _ s l _ fn _ (Funcs.stays (Ext.stays (HE1.out.trans HX5.out)) HP.out) (StateV.stays (Ext.stays (HE1.out.trans HX5.out)) HS.out) HOK.out (by omega)).mono ?_); rintro e w6 ⟨⟨x, rfl, hx⟩, hx6⟩; have HXS := Lib.hid hx; obtain ⟨ax, cx, bx, dx, rfl⟩ := hx.few; obtain ⟨z0, z0'⟩ := (HR.out).1.ext (HX5.out.trans hx6); obtain ⟨z1, z1'⟩ := (HR.out).2.1.ext (HX5.out.trans hx6); obtain ⟨z2, z2'⟩ := (HR.out).2.2.ext (HX5.out.trans hx6); have HX6 := Lib.hid hx6; clear hx hx6))
   refine bodyPost_ret (results_cell3 rfl _ _ (w.heap.size + 1) 0 _ _ rfl (box3 ⟨z0, z0'⟩ ⟨z1, z1'⟩ ⟨z2, z2'⟩ _ _ _) rfl rfl (by kernel_rfl)) rfl ?_
   rw [HG.out]
   exact ⟨⟨_, rfl, ret_state (HXS.out.mono (by have h2 := (HX5.out).size; have h3 := HS1.out; omega)) _ _ _⟩, ret_ext ((HE1.out.trans HX5.out).trans HX6.out) _ _ _⟩
  ·have HG : Hid (runOfG p s fn = (⟨[], 0, []⟩, 0, stateErr p s)) := by unfold Hid runOfG; rw [if_neg (fun h => h hfu), if_pos hz]
   have TE : (stateErr p s != 0) = true := bne_iff_ne.2 hz
   obtain ⟨re, hre⟩ : ∃ re, stateErr p s = re := ⟨_, rfl⟩
   rw [hre] at TE HG
   have HRE := Lib.hid hre
   clear hz hre
   go_enter Tryz.func11, Tryz.ntmps11
   go_wp2_with (first
    | (go_at_call 31; (with_reducible refine (fuelled_any _ _).mono ?_); rintro e w4 ⟨rfl, rfl⟩; rw [HW.out])
    | (go_at_call 29; (with_reducible refine (stateCheck_any p _ _ _ s _ _ (Funcs.stays (Ext.stays (by ((repeat (first | assumption | exact Ext.refl _ | (exact And.left (by assumption)) | refine Ext.alloc ?_ _ | refine Ext.drew ?_ | refine Ext.drewN ?_ _ | refine Ext.setCell ?_ (by simp) _ | refine Ext.setCell ?_ (by simp; omega) _ | refine Ext.trans ?_ (by assumption))); done))) HP.out) (StateV.stays (Ext.stays (by ((repeat (first | assumption | exact Ext.refl _ | (exact And.left (by assumption)) | refine Ext.alloc ?_ _ | refine Ext.drew ?_ | refine Ext.drewN ?_ _ | refine Ext.setCell ?_ (by simp) _ | refine Ext.setCell ?_ (by simp; omega) _ | refine Ext.trans ?_ (by assumption))); done))) HS.out)).mono ?_); rintro e w5 ⟨rfl, hx5⟩; rw [HRE.out]; obtain ⟨z0, z0'⟩ := (HR.out).1.ext hx5; obtain ⟨z1, z1'⟩ := (HR.out).2.1.ext hx5; obtain ⟨z2, z2'⟩ := (HR.out).2.2.ext hx5; have HX5 := Lib.hid hx5; clear hx5))
   refine bodyPost_ret (results_cell3 rfl _ _ (w.heap.size + 1) 0 [.slice none 0 0, .int .i64 0, .slice none 0 0] _ rfl (box3 ⟨z0, z0'⟩ ⟨z1, z1'⟩ ⟨z2, z2'⟩ _ _ _) rfl rfl (by kernel_rfl)) rfl ?_
   rw [HG.out]
   exact ⟨⟨_, rfl, stateO_nil _ _⟩, ret_ext (HE1.out.trans HX5.out) _ _ _⟩
 ·have HW : Hid (decide (0 ≤ fuel ∧ fuel ≤ 500) = false) := decide_eq_false hfu
  have HG : Hid (runOfG p s fuel = (⟨[], 0, []⟩, 0, 3)) := by unfold Hid runOfG; rw [if_pos hfu]
  obtain ⟨⟨z0, z0'⟩, ⟨z1, z1'⟩, ⟨z2, z2'⟩⟩ := HR.out
  clear hfu
  go_enter Tryz.func11, Tryz.ntmps11
  go_wp2_with (first
   | (go_at_call 31; (with_reducible refine (fuelled_any _ _).mono ?_); rintro e w4 ⟨rfl, rfl⟩; rw [HW.out]))
  refine bodyPost_ret (results_cell3 rfl _ _ (w.heap.size + 1) 0 [.slice none 0 0, .int .i64 0, .slice none 0 0] _ rfl (range3 z0 z1 z2) rfl rfl (by kernel_rfl)) rfl ?_
  rw [HG.out]
  exact ⟨⟨_, rfl, stateO_nil _ _⟩, HE1.out⟩
end Go.Proofs.YtgahbngbpfilgaaGreat
end
section
set_option maxHeartbeats 4000000
set_option maxRecDepth 100000
namespace Go.Proofs.YtgahbngbpfilgaaGreat
open Go Go.RowKit
end Go.Proofs.YtgahbngbpfilgaaGreat
end
section
set_option maxHeartbeats 4000000
set_option maxRecDepth 100000
namespace Go.Proofs.YtgahbngbpfilgaaGreat
open Go Go.RowKit
theorem prog_ops (w : World) (l : List GOp) (n : Nat) (hn : l.length = n) (cs : Array Value) (hcs : cs.toList = opCells l) (hI : ∀ x ∈ l, I64 x.kind ∧ I64 x.a) (hl : l.length ≤ 1000) (t u : TypeId) :
  Funcs ((w.alloc (.cells cs t)).alloc (.cells #[.int .i64 0, .int .i64 0, .slice (some ⟨w.heap.size, 0, none⟩) n n] u)) (fun _ => True) (.slice (some ⟨w.heap.size + 1, 0, none⟩) 1 1) [⟨0, 0, l⟩] := by
 subst hn
 have hg := heap_alloc2_new w (.cells cs t) (.cells #[.int .i64 0, .int .i64 0, .slice (some ⟨w.heap.size, 0, none⟩) l.length l.length] u)
 have h0 := heap_alloc2_old w (.cells cs t) (.cells #[.int .i64 0, .int .i64 0, .slice (some ⟨w.heap.size, 0, none⟩) l.length l.length] u)
 have f0 := ops_of_block (S := fun _ => True) l h0 hcs trivial hI (by omega)
 have cell := fun j => cell_of_row _ _ j _ _ _ hg
 refine ⟨_, _, rfl, Nat.le_refl _, by simp, fun i hi => ⟨_, 0, rfl, ?_⟩⟩
 match i, hi with
 | 0, _ => exact ⟨⟨trivial, cell _, I64.small (by simp) (by simp)⟩, ⟨trivial, cell _, I64.small (by simp) (by simp)⟩, _, cell _, f0⟩
theorem small_ops {l : List GOp} (h : ∀ x ∈ l, -1000000 ≤ x.kind ∧ x.kind ≤ 1000000 ∧ -1000000 ≤ x.a ∧ x.a ≤ 1000000) : ∀ x ∈ l, I64 x.kind ∧ I64 x.a := fun x hx => ⟨I64.small (h x hx).1 (h x hx).2.1, I64.small (h x hx).2.2.1 (h x hx).2.2.2⟩
end Go.Proofs.YtgahbngbpfilgaaGreat
end
