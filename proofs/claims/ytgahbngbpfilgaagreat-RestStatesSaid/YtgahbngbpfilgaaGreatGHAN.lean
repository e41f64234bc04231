/- Merged texts: contracts and plain facts, one part behind another; each part begins with what it says. -/
import Derived.Test.YtgahbngbpfilgaaGreatGHAD
import Derived.Test.YtgahbngbpfilgaaGreatGHAL
import Derived.Test.YtgahbngbpfilgaaGreatGHAM
import Derived.StillTailTactics
import Derived.WalkSmall
section
set_option maxHeartbeats 4000000
set_option maxRecDepth 100000
namespace Go.Proofs.YtgahbngbpfilgaaGreat
open Go Go.RowKit
def runOfG (p : List GFunc) (s : GState) (fuel : Int) : GState × Int × Int :=
 if ¬ (0 ≤ fuel ∧ fuel ≤ 500) then (⟨[], 0, []⟩, 0, 3) else if stateErr p s ≠ 0 then (⟨[], 0, []⟩, 0, stateErr p s) else runG p fuel.toNat s
theorem runOf_any (p : List GFunc) (v : Value) (S T : Nat → Prop) (s : GState) (vs : Value) (fuel : Int) (w : World) (hp : Funcs w S v p) (hs : StateV w T vs s) (hfit : 0 ≤ fuel → fuel ≤ 500 → stateErr p s = 0 → RunFit p fuel.toNat s) :
  Calls Tryz.prog 14 #[v, vs, .int .i64 fuel] w fun e w' => (∃ x, e = .returned (.tuple #[x, .int .i64 (runOfG p s fuel).2.1, .int .i64 (runOfG p s fuel).2.2]) ∧ StateO w' w.heap.size x (runOfG p s fuel).1) ∧ Ext w w' := by
 have HP := Lib.hid hp
 have HS := Lib.hid hs
 obtain ⟨a, c, b, d, rfl⟩ := hs.few
 obtain ⟨ap, cp, rfl, _, _, _⟩ := hp
 have RA := alloc_keep
 have hs0 : (w.alloc (.cells #[.slice a s.fibers.length c, .int .i64 s.now, .slice b s.out.length d] 26)).heap.size = w.heap.size + 1 := Array.size_push _
 have r0 := Cx.new (w.alloc (.cells #[.slice a s.fibers.length c, .int .i64 s.now, .slice b s.out.length d] 26)) [.slice none 0 0, .int .i64 0, .slice none 0 0] 26 (j := 0) rfl
 have r1 := Cx.new (w.alloc (.cells #[.slice a s.fibers.length c, .int .i64 s.now, .slice b s.out.length d] 26)) [.slice none 0 0, .int .i64 0, .slice none 0 0] 26 (j := 1) rfl
 have r2 := Cx.new (w.alloc (.cells #[.slice a s.fibers.length c, .int .i64 s.now, .slice b s.out.length d] 26)) [.slice none 0 0, .int .i64 0, .slice none 0 0] 26 (j := 2) rfl
 rw [hs0] at r0 r1 r2
 have HR := Lib.hid (⟨r0, r1, r2⟩ : _ ∧ _ ∧ _)
 have HQ := Lib.hid (⟨(Cx.new w [.slice a s.fibers.length c, .int .i64 s.now, .slice b s.out.length d] 26 (j := 0) rfl).ext ((Ext.refl _).alloc (.cells #[.slice none 0 0, .int .i64 0, .slice none 0 0] 26)), (Cx.new w [.slice a s.fibers.length c, .int .i64 s.now, .slice b s.out.length d] 26 (j := 1) rfl).ext ((Ext.refl _).alloc (.cells #[.slice none 0 0, .int .i64 0, .slice none 0 0] 26)), (Cx.new w [.slice a s.fibers.length c, .int .i64 s.now, .slice b s.out.length d] 26 (j := 2) rfl).ext ((Ext.refl _).alloc (.cells #[.slice none 0 0, .int .i64 0, .slice none 0 0] 26))⟩ : _ ∧ _ ∧ _)
 have HE1 : Hid (Ext w ((w.alloc (.cells #[.slice a s.fibers.length c, .int .i64 s.now, .slice b s.out.length d] 26)).alloc (.cells #[.slice none 0 0, .int .i64 0, .slice none 0 0] 26))) := ((Ext.refl w).alloc _).alloc _
 have HS1 : Hid (((w.alloc (.cells #[.slice a s.fibers.length c, .int .i64 s.now, .slice b s.out.length d] 26)).alloc (.cells #[.slice none 0 0, .int .i64 0, .slice none 0 0] 26)).heap.size = w.heap.size + 2) := by unfold Hid; simp
 clear hs0 r0 r1 r2
 by_cases hfu : 0 ≤ fuel ∧ fuel ≤ 500
 ·have HW : Hid (decide (0 ≤ fuel ∧ fuel ≤ 500) = true) := decide_eq_true hfu
  obtain ⟨fn, hfn⟩ : ∃ n : Nat, fuel = n := ⟨fuel.toNat, by omega⟩
  subst hfn
  by_cases hz : stateErr p s = 0
  ·have HG : Hid (runOfG p s fn = runG p fn s) := by unfold Hid runOfG; rw [if_neg (fun h => h hfu), if_neg (fun h => h hz), Int.toNat_natCast]
   have HFIT : Hid (RunFit p fn s) := by have := hfit hfu.1 hfu.2 hz; rwa [Int.toNat_natCast] at this
   have HZ := Lib.hid hz
   clear hz hfit
   go_enter Tryz.func14, Tryz.ntmps14
   go_wp2_with (first
    | (go_at_call 21; (with_reducible refine (within_any _ _ _ _).mono ?_); rintro e w4 ⟨rfl, rfl⟩; rw [HW.out])
    | (go_at_call 5; (with_reducible refine (stateError_any p _ _ _ s _ _ (Funcs.stays (Ext.stays (by ((repeat (first | assumption | exact Ext.refl _ | (exact And.left (by assumption)) | refine Ext.alloc ?_ _ | refine Ext.drew ?_ | refine Ext.drewN ?_ _ | refine Ext.setCell ?_ (by simp) _ | refine Ext.setCell ?_ (by simp; omega) _ | refine Ext.trans ?_ (by assumption))); done))) HP.out) (StateV.stays (Ext.stays (by ((repeat (first | assumption | exact Ext.refl _ | (exact And.left (by assumption)) | refine Ext.alloc ?_ _ | refine Ext.drew ?_ | refine Ext.drewN ?_ _ | refine Ext.setCell ?_ (by simp) _ | refine Ext.setCell ?_ (by simp; omega) _ | refine Ext.trans ?_ (by assumption))); done))) HS.out)).mono ?_); rintro e w5 ⟨rfl, hx5⟩; rw [HZ.out]; obtain ⟨q0, q0'⟩ := (HQ.out).1.ext hx5; obtain ⟨q1, q1'⟩ := (HQ.out).2.1.ext hx5; obtain ⟨q2, q2'⟩ := (HQ.out).2.2.ext hx5; have HX5 := Lib.hid hx5; clear hx5)
    | (go_at_call 36; (with_reducible refine (run_any p _ _ _ s _ fn _ (Funcs.stays (Ext.stays (HE1.out.trans HX5.out)) HP.out) (StateV.stays (Ext.stays (HE1.out.trans HX5.out)) HS.out) HFIT.out (by omega)).mono ?_); rintro e w6 ⟨⟨x, rfl, hx⟩, hx6⟩; have HXS := Lib.hid hx; obtain ⟨ax, cx, bx, dx, rfl⟩ := hx.few; obtain ⟨z0, z0'⟩ := (HR.out).1.ext (HX5.out.trans hx6); obtain ⟨z1, z1'⟩ := (HR.out).2.1.ext (HX5.out.trans hx6); obtain ⟨z2, z2'⟩ := (HR.out).2.2.ext (HX5.out.trans hx6); have HX6 := Lib.hid hx6; clear hx hx6))
   refine bodyPost_ret (results_cell3 rfl _ _ (w.heap.size + 1) 0 _ _ rfl (box3 ⟨z0, z0'⟩ ⟨z1, z1'⟩ ⟨z2, z2'⟩ _ _ _) rfl rfl (by kernel_rfl)) rfl ?_
   rw [HG.out]
   exact ⟨⟨_, rfl, ret_state (HXS.out.mono (by have h2 := (HX5.out).size; have h3 := HS1.out; omega)) _ _ _⟩, ret_ext ((HE1.out.trans HX5.out).trans HX6.out) _ _ _⟩
  ·have HG : Hid (runOfG p s fn = (⟨[], 0, []⟩, 0, stateErr p s)) := by unfold Hid runOfG; rw [if_neg (fun h => h hfu), if_pos hz]
   have TE : (stateErr p s != 0) = true := bne_iff_ne.2 hz
   obtain ⟨re, hre⟩ : ∃ re, stateErr p s = re := ⟨_, rfl⟩
   rw [hre] at TE HG
   have HRE := Lib.hid hre
   clear hz hfit hre
   go_enter Tryz.func14, Tryz.ntmps14
   go_wp2_with (first
    | (go_at_call 21; (with_reducible refine (within_any _ _ _ _).mono ?_); rintro e w4 ⟨rfl, rfl⟩; rw [HW.out])
    | (go_at_call 5; (with_reducible refine (stateError_any p _ _ _ s _ _ (Funcs.stays (Ext.stays (by ((repeat (first | assumption | exact Ext.refl _ | (exact And.left (by assumption)) | refine Ext.alloc ?_ _ | refine Ext.drew ?_ | refine Ext.drewN ?_ _ | refine Ext.setCell ?_ (by simp) _ | refine Ext.setCell ?_ (by simp; omega) _ | refine Ext.trans ?_ (by assumption))); done))) HP.out) (StateV.stays (Ext.stays (by ((repeat (first | assumption | exact Ext.refl _ | (exact And.left (by assumption)) | refine Ext.alloc ?_ _ | refine Ext.drew ?_ | refine Ext.drewN ?_ _ | refine Ext.setCell ?_ (by simp) _ | refine Ext.setCell ?_ (by simp; omega) _ | refine Ext.trans ?_ (by assumption))); done))) HS.out)).mono ?_); rintro e w5 ⟨rfl, hx5⟩; rw [HRE.out]; obtain ⟨z0, z0'⟩ := (HR.out).1.ext hx5; obtain ⟨z1, z1'⟩ := (HR.out).2.1.ext hx5; obtain ⟨z2, z2'⟩ := (HR.out).2.2.ext hx5; have HX5 := Lib.hid hx5; clear hx5))
   refine bodyPost_ret (results_cell3 rfl _ _ (w.heap.size + 1) 0 _ _ rfl (box3 ⟨z0, z0'⟩ ⟨z1, z1'⟩ ⟨z2, z2'⟩ _ _ _) rfl rfl (by kernel_rfl)) rfl ?_
   rw [HG.out]
   exact ⟨⟨_, rfl, stateO_nil _ _⟩, ret_ext (HE1.out.trans HX5.out) _ _ _⟩
 ·have HW : Hid (decide (0 ≤ fuel ∧ fuel ≤ 500) = false) := decide_eq_false hfu
  have HG : Hid (runOfG p s fuel = (⟨[], 0, []⟩, 0, 3)) := by unfold Hid runOfG; rw [if_pos hfu]
  obtain ⟨⟨z0, z0'⟩, ⟨z1, z1'⟩, ⟨z2, z2'⟩⟩ := HR.out
  clear hfu hfit
  go_enter Tryz.func14, Tryz.ntmps14
  go_wp2_with (first
   | (go_at_call 21; (with_reducible refine (within_any _ _ _ _).mono ?_); rintro e w4 ⟨rfl, rfl⟩; rw [HW.out]))
  refine bodyPost_ret (results_cell3 rfl _ _ (w.heap.size + 1) 0 [.slice none 0 0, .int .i64 0, .slice none 0 0] _ rfl (range3 z0 z1 z2) rfl rfl (by kernel_rfl)) rfl ?_
  rw [HG.out]
  exact ⟨⟨_, rfl, stateO_nil _ _⟩, HE1.out⟩
def afterG (n : Int) : GState := (runOfG countP (beginG countP) n).1
theorem after_any (v : Value) (S : Nat → Prop) (n : Int) (w : World) (hv : Funcs w S v countP) (hn : RunFit countP n.toNat (beginG countP)) (hz : progErr countP = 0) :
  Calls Tryz.prog 26 #[v, .int .i64 n] w fun e w' => (∃ x, e = .returned x ∧ StateO w' w.heap.size x (afterG n)) ∧ Ext w w' := by
 have HV := Lib.hid hv
 obtain ⟨ap, cp, rfl, _, _, _⟩ := hv
 have RA := alloc_keep
 have HR := Lib.hid (⟨Cx.new w [.slice none 0 0, .int .i64 0, .slice none 0 0] 26 (j := 0) rfl, Cx.new w [.slice none 0 0, .int .i64 0, .slice none 0 0] 26 (j := 1) rfl, Cx.new w [.slice none 0 0, .int .i64 0, .slice none 0 0] 26 (j := 2) rfl⟩ : _ ∧ _ ∧ _)
 have HZ := Lib.hid hz
 have HN := Lib.hid hn
 clear hz hn
 go_enter Tryz.func26, Tryz.ntmps26
 go_wp2_with (first
  | (go_at_call 51; (with_reducible refine (beginOf_any countP _ _ _ (Funcs.stays (Ext.stays (by ((repeat (first | assumption | exact Ext.refl _ | (exact And.left (by assumption)) | refine Ext.alloc ?_ _ | refine Ext.drew ?_ | refine Ext.drewN ?_ _ | refine Ext.setCell ?_ (by simp) _ | refine Ext.setCell ?_ (by simp; omega) _ | refine Ext.trans ?_ (by assumption))); done))) HV.out) HZ.out).mono ?_); rintro e w2 ⟨⟨x, rfl, hx⟩, hx2⟩; have HXS := Lib.hid hx; have HX2 := Lib.hid (((Ext.refl w).alloc (.cells #[.slice none 0 0, .int .i64 0, .slice none 0 0] 26)).trans hx2); have HXX2 := Lib.hid hx2; clear hx hx2)
  | (go_at_call 14; (with_reducible refine (runOf_any countP _ _ _ (beginG countP) _ n _ (Funcs.stays (Ext.stays HX2.out) HV.out) HXS.out (fun _ _ _ => HN.out)).mono ?_); rintro e w3 ⟨⟨y, rfl, hy⟩, hx3⟩; have HYS := Lib.hid hy; obtain ⟨ax, cx, bx, dx, rfl⟩ := hy.few; obtain ⟨z0, z0'⟩ := (HR.out).1.ext (HXX2.out.trans (hx3.alloc (.cells #[.slice ax (runOfG countP (beginG countP) n).1.fibers.length cx, .int .i64 (runOfG countP (beginG countP) n).1.now, .slice bx (runOfG countP (beginG countP) n).1.out.length dx] 26))); obtain ⟨z1, z1'⟩ := (HR.out).2.1.ext (HXX2.out.trans (hx3.alloc (.cells #[.slice ax (runOfG countP (beginG countP) n).1.fibers.length cx, .int .i64 (runOfG countP (beginG countP) n).1.now, .slice bx (runOfG countP (beginG countP) n).1.out.length dx] 26))); obtain ⟨z2, z2'⟩ := (HR.out).2.2.ext (HXX2.out.trans (hx3.alloc (.cells #[.slice ax (runOfG countP (beginG countP) n).1.fibers.length cx, .int .i64 (runOfG countP (beginG countP) n).1.now, .slice bx (runOfG countP (beginG countP) n).1.out.length dx] 26))); have HX3 := Lib.hid hx3; clear hy hx3))
 refine bodyPost_ret (results_cell_mid rfl _ _ w.heap.size 0 _ _ rfl (box3 ⟨z0, z0'⟩ ⟨z1, z1'⟩ ⟨z2, z2'⟩ _ _ _) rfl rfl (by kernel_rfl)) rfl ?_
 have h12 : w.heap.size + 1 ≤ w2.heap.size := by have h := (HXX2.out).size; simpa using h
 refine ⟨⟨_, rfl, ((HYS.out.ext ((Ext.refl w3).alloc _)).chg (chg3 _ w.heap.size _ _ _) (fun g hg e => by have h2 : g = w.heap.size := e; omega)).mono (by omega)⟩, ((((HX2.out.trans HX3.out).alloc _).setCell (p := ⟨w.heap.size, 0, none⟩) (Nat.le_refl _) _).setCell (p := ⟨w.heap.size, 1, none⟩) (Nat.le_refl _) _).setCell (p := ⟨w.heap.size, 2, none⟩) (Nat.le_refl _) _⟩
theorem count_right : progErr countP = 0 := by decide
theorem fit_4 : RunFit countP 4 (beginG countP) := by decide
theorem fit_6 : RunFit countP 6 (beginG countP) := by decide
theorem fit_99 : RunFit countP 99 (beginG countP) := by decide
end Go.Proofs.YtgahbngbpfilgaaGreat
end
section
set_option maxHeartbeats 2000000
set_option maxRecDepth 100000
namespace Go.Proofs.YtgahbngbpfilgaaGreat
open Go Go.RowKit
theorem Bools.at' {w : World} {S : Nat → Prop} {a : Option Addr} {l : List Bool} {n c : Nat} (h : Bools w S (.slice a n c) l) {m : Nat} (hm : m < l.length) : ∃ b o, a = some ⟨b, o, none⟩ ∧ w.cell? ⟨b, o + m, none⟩ = some (.bool l[m]) := by
 obtain ⟨b, o, _, e1, _, _, _, x0⟩ := h.get hm
 simp only [Value.slice.injEq] at e1
 obtain ⟨rfl, -, rfl⟩ := e1
 rw [Nat.mul_one] at x0
 exact ⟨b, o, rfl, x0⟩
theorem indexB_any (l : List Bool) (v : Value) (S : Nat → Prop) (w : World) (hl : Bools w S v l) :
  Calls Tryz.prog 119 #[v, .bool false] w fun e w' => (∃ i : Int, e = .returned (.int .i64 i) ∧ (0 ≤ i ↔ false ∈ l)) ∧ Ext w w' := by
 have HL := Lib.hid hl
 obtain ⟨pa, ca, rfl, hca, hba, _⟩ := hl
 go_enter Tryz.func119, Tryz.ntmps119
 go_wp2_with fail
 go_loopw [8] (fun q wr => ∃ k : Nat, k ≤ l.length ∧ q = .int .i64 k ∧ Ext w wr ∧ false ∉ l.take k) (fun q _ => l.length - (intOf q).toNat)
 case atStart => exact ⟨0, Nat.zero_le _, rfl, Ext.refl _, by simp⟩
 case round =>
  obtain ⟨k, hk, rfl, hb3, htk⟩ := hrel
  have HB3 := Lib.hid hb3
  have HTK := Lib.hid htk
  clear hb3 htk
  by_cases hlt : k < l.length
  ·obtain ⟨ba, oa, rfl, x0⟩ := HL.out.at' hlt
   have x1 := Ext.cell HB3.out x0
   have HM : Hid (l[k] ∈ l) := List.getElem_mem hlt
   have HS : Hid (l.take (k + 1) = l.take k ++ [l[k]]) := List.take_succ_eq_append_getElem hlt
   clear x0
   generalize l[k] = u at *
   cases u with
   | false =>
    go_wp2_with fail
    go_ret
    exact ⟨⟨k, rfl, ⟨fun _ => HM.out, fun _ => by omega⟩⟩, HB3.out⟩
   | true =>
    have HX : Hid (false ∉ l.take (k + 1)) := by unfold Hid; rw [HS.out, List.mem_append, List.mem_singleton]; exact fun h => h.elim HTK.out (by decide)
    go_wp2_with fail
    go_roundw
    case rel => exact ⟨k + 1, by omega, by go_num, HB3.out, HX.out⟩
    case measure => simp [intOf]; omega
  ·obtain rfl : k = l.length := by omega
   have HX : Hid (false ∉ l) := by have := HTK.out; rwa [List.take_length] at this
   go_wp2_with fail
   go_ret
   exact ⟨⟨-1, rfl, ⟨fun h => by omega, fun h => (HX.out h).elim⟩⟩, HB3.out⟩
theorem containsB_any (l : List Bool) (v : Value) (S : Nat → Prop) (w : World) (hl : Bools w S v l) :
  Calls Tryz.prog 100 #[v, .bool false] w fun e w' => e = .returned (.bool (decide (false ∈ l))) ∧ Ext w w' := by
 have HL := Lib.hid hl
 obtain ⟨pa, ca, rfl, hca, hba, _⟩ := hl
 obtain ⟨t, ht⟩ : ∃ t, decide (false ∈ l) = t := ⟨_, rfl⟩
 rw [ht]
 have HT := Lib.hid ht
 clear ht
 go_enter Tryz.func100, Tryz.ntmps100
 go_wp2_with (first
  | (go_at_call 119; (with_reducible refine (indexB_any l _ S _ HL.out).mono ?_); rintro e w2 ⟨⟨i, rfl, hi⟩, hx⟩; have HI := Lib.hid hi; clear hi))
 go_ret
 refine ⟨?_, hx⟩
 exact congrArg (fun b => Ending.returned (.bool b)) ((decide_eq_decide.2 HI.out).trans HT.out)
def refusal (r : Int) : List PanicEntry := [{ v := .iface 89 (.agg #[.int .i64 r]), recovered := false }]
theorem must_ok (l : List Bool) (r : Int) (v : Value) (S : Nat → Prop) (w : World) (hl : Bools w S v l) (h : false ∉ l) :
  Calls Tryz.prog 67 #[.int .i64 r, v] w fun e w' => e = .returned (.tuple #[]) ∧ Ext w w' := by
 have HL := Lib.hid hl
 have HT : Hid (decide (false ∈ l) = false) := decide_eq_false h
 obtain ⟨pa, ca, rfl, _, _, _⟩ := hl
 clear h
 go_enter Tryz.func67, Tryz.ntmps67
 go_wp2_with (first
  | (go_at_call 100; (with_reducible refine (containsB_any l _ S _ HL.out).mono ?_); rintro e w2 ⟨rfl, hx⟩; rw [HT.out]))
 go_end0
 exact ⟨rfl, hx⟩
theorem must_bad (l : List Bool) (r : Int) (v : Value) (S : Nat → Prop) (w : World) (hl : Bools w S v l) (h : false ∈ l) :
  Calls Tryz.prog 67 #[.int .i64 r, v] w fun e w' => e = .panicked (refusal r) ∧ Ext w w' := by
 have HL := Lib.hid hl
 have hpn := @run_panic_iface Tryz.prog
 have HT : Hid (decide (false ∈ l) = true) := decide_eq_true h
 obtain ⟨pa, ca, rfl, _, _, _⟩ := hl
 clear h
 go_enter Tryz.func67, Tryz.ntmps67
 go_wp2_with (first
  | (go_at_call 100; (with_reducible refine (containsB_any l _ S _ HL.out).mono ?_); rintro e w2 ⟨rfl, hx⟩; rw [HT.out]))
 exact ⟨rfl, rfl, hx⟩
def mustE (c : Bool) (r : Int) : Ending := match c with
 | true => .returned (.tuple #[])
 | false => .panicked (refusal r)
theorem must_all (l : List Bool) (r : Int) (v : Value) (S : Nat → Prop) (w : World) (hl : Bools w S v l) (c : Bool) (hc : c = l.all id) :
  Calls Tryz.prog 67 #[.int .i64 r, v] w fun e w' => e = mustE c r ∧ Ext w w' := by
 cases c with
 | true => exact must_ok l r v S w hl (fun h => by
   have h2 := List.all_eq_true.1 hc.symm _ h
   cases h2)
 | false => exact must_bad l r v S w hl (by
   have h2 : ¬ l.all id = true := by rw [← hc]; decide
   rw [List.all_eq_true] at h2
   refine Classical.byContradiction fun h3 => h2 fun x hx => ?_
   cases x with
   | true => rfl
   | false => exact absurd hx h3)
theorem bools_new (w : World) (l : List Bool) (t : TypeId) (hl : l.length ≤ 1000) : Bools (w.alloc (.cells (l.map Value.bool).toArray t)) (fun _ => True) (.slice (some ⟨w.heap.size, 0, none⟩) l.length l.length) l := by
 refine ⟨_, _, rfl, Nat.le_refl _, ⟨by omega, by omega⟩, fun i hi => ⟨w.heap.size, 0, rfl, trivial, ?_⟩⟩
 rw [Nat.mul_one, Nat.zero_add, World.cell?_alloc_new, List.getElem?_toArray, List.getElem?_map, List.getElem?_eq_getElem hi]
 rfl
theorem must1 (a : Bool) (r : Int) (w : World) (t : TypeId) : Calls Tryz.prog 67 #[.int .i64 r, .slice (some ⟨w.heap.size, 0, none⟩) 1 1] (w.alloc (.cells #[.bool a] t)) fun e w' => e = mustE a r ∧ Ext (w.alloc (.cells #[.bool a] t)) w' :=
 must_all [a] r _ _ _ (bools_new w [a] t (by simp)) a (by simp)
theorem must2 (a b : Bool) (r : Int) (w : World) (t : TypeId) : Calls Tryz.prog 67 #[.int .i64 r, .slice (some ⟨w.heap.size, 0, none⟩) 2 2] (w.alloc (.cells #[.bool a, .bool b] t)) fun e w' => e = mustE (a && b) r ∧ Ext (w.alloc (.cells #[.bool a, .bool b] t)) w' :=
 must_all [a, b] r _ _ _ (bools_new w [a, b] t (by simp)) _ (by simp)
theorem must3 (a b c : Bool) (r : Int) (w : World) (t : TypeId) : Calls Tryz.prog 67 #[.int .i64 r, .slice (some ⟨w.heap.size, 0, none⟩) 3 3] (w.alloc (.cells #[.bool a, .bool b, .bool c] t)) fun e w' => e = mustE (a && b && c) r ∧ Ext (w.alloc (.cells #[.bool a, .bool b, .bool c] t)) w' :=
 must_all [a, b, c] r _ _ _ (bools_new w [a, b, c] t (by simp)) _ (by simp [Bool.and_assoc])
end Go.Proofs.YtgahbngbpfilgaaGreat
end
section
set_option maxHeartbeats 4000000
set_option maxRecDepth 100000
set_option linter.unusedSimpArgs false
namespace Go.Proofs.YtgahbngbpfilgaaGreat
open Go Go.RowKit
def HtsL (w : World) : Value → List (List Int) → Prop := Sl (fun b o l => ∃ v, w.cell? ⟨b, o, none⟩ = some v ∧ Ints w (fun _ => True) v l) 1 24
theorem HtsL.ext {w w' : World} {v : Value} {l : List (List Int)} (h : HtsL w v l) (he : Ext w w') : HtsL w' v l :=
 Sl.mono h fun _ _ _ ⟨v, h1, h2⟩ => ⟨v, Ext.cell he h1, Ints.stays (Ext.stays he) h2⟩
structure Judge (w : World) (b : Nat) (p : List GFunc) (s : GState) (line : List Int) : Prop where
 fs : ∃ a c, w.cell? ⟨b, 0, none⟩ = some (.slice a s.fibers.length c) ∧ Fibers w (fun _ => True) (.slice a s.fibers.length c) s.fibers
 now : w.cell? ⟨b, 1, none⟩ = some (.int .i64 s.now)
 pr : ∃ a c, w.cell? ⟨b, 3, none⟩ = some (.slice a p.length c) ∧ Funcs w (fun _ => True) (.slice a p.length c) p
 hts : ∃ a c, w.cell? ⟨b, 4, none⟩ = some (.slice a p.length c) ∧ HtsL w (.slice a p.length c) ((List.range p.length).map (fun k : Nat => hgt p k))
 ln : ∃ a c, w.cell? ⟨b, 5, none⟩ = some (.slice a line.length c) ∧ Ints w (fun _ => True) (.slice a line.length c) line
theorem Judge.ext {w w' : World} {b : Nat} {p : List GFunc} {s : GState} {line : List Int} (h : Judge w b p s line) (he : Ext w w') : Judge w' b p s line := by
 obtain ⟨a1, c1, h1, h2⟩ := h.fs
 obtain ⟨a3, c3, h5, h6⟩ := h.pr
 obtain ⟨a4, c4, h7, h8⟩ := h.hts
 obtain ⟨a5, c5, h9, h10⟩ := h.ln
 exact ⟨⟨a1, c1, Ext.cell he h1, Fibers.stays (Ext.stays he) h2⟩, Ext.cell he h.now, ⟨a3, c3, Ext.cell he h5, Funcs.stays (Ext.stays he) h6⟩, ⟨a4, c4, Ext.cell he h7, h8.ext he⟩, ⟨a5, c5, Ext.cell he h9, Ints.stays (Ext.stays he) h10⟩⟩
theorem Judge.at' {w : World} {p : List GFunc} {a : Option Addr} {n c : Nat} (h : HtsL w (.slice a n c) ((List.range p.length).map (fun k : Nat => hgt p k))) {k : Nat} (hk : k < p.length) :
  ∃ b o a' c', a = some ⟨b, o, none⟩ ∧ w.cell? ⟨b, o + k, none⟩ = some (.slice a' (hgt p k).length c') ∧ Ints w (fun _ => True) (.slice a' (hgt p k).length c') (hgt p k) := by
 obtain ⟨b, o, _, e1, _, _, v, x0, hi⟩ := h.get (i := k) (by simpa using hk)
 simp only [Value.slice.injEq] at e1
 obtain ⟨rfl, -, -⟩ := e1
 rw [Nat.mul_one] at x0
 simp only [List.getElem_map, List.getElem_range] at hi
 have hi2 := hi
 obtain ⟨a', c', rfl, _, _, _⟩ := hi
 exact ⟨b, o, a', c', rfl, x0, hi2⟩
theorem jframe_any (p : List GFunc) (s : GState) (line : List Int) (jb : Nat) (T : Nat → Prop) (x : GFrame) (vx : Value) (w : World) (hj : Judge w jb p s line) (hz : progErr p = 0) (hx : FrameV w T vx x) :
  Calls Tryz.prog 102 #[.pointer (some ⟨jb, 0, none⟩), vx] w fun e w' => e = mustE (frameB p x) 1 ∧ Ext w w' := by
 have HJ := Lib.hid hj
 have HZ := Lib.hid hz
 obtain ⟨fn, at_, ls, st⟩ := x
 obtain ⟨vs, vt, rfl, _, _, hls, hst⟩ := hx
 obtain ⟨a1, c1, rfl, _, _, _⟩ := hls
 obtain ⟨a2, c2, rfl, _, _, _⟩ := hst
 simp only at *
 have RA := alloc_keep
 have hlen5 := (progErr_zero hz).most
 obtain ⟨ap, cp, j3, hp⟩ := hj.pr
 obtain ⟨ah, ch, j4, hh⟩ := hj.hts
 have bx := Lib.hid (⟨Cx.new w [.int .i64 fn, .int .i64 at_, .slice a1 ls.length c1, .slice a2 st.length c2] 43 (j := 0) rfl, Cx.new w [.int .i64 fn, .int .i64 at_, .slice a1 ls.length c1, .slice a2 st.length c2] 43 (j := 1) rfl, Cx.new w [.int .i64 fn, .int .i64 at_, .slice a1 ls.length c1, .slice a2 st.length c2] 43 (j := 2) rfl⟩ : _ ∧ _ ∧ _)
 have hE1 : Ext w (w.alloc (.cells #[.int .i64 fn, .int .i64 at_, .slice a1 ls.length c1, .slice a2 st.length c2] 43)) := (Ext.refl w).alloc _
 have HE1 := Lib.hid hE1
 have k3 := Ext.cell hE1 j3
 have k4 := Ext.cell hE1 j4
 have HP := Lib.hid hp
 have HH := Lib.hid hh
 clear hp hh hj j3 j4
 by_cases h1 : 0 ≤ fn ∧ fn < p.length
 ·obtain ⟨n, rfl⟩ : ∃ n : Nat, fn = n := ⟨fn.toNat, by omega⟩
  have hn : n < p.length := by omega
  have hlm := hgt_len hz hn
  have hmax := (rightAt hz hn).1.len
  have hF := funcOf_nat hn
  obtain ⟨b, o, cap, e1, hcap, hby, _, ⟨_, hL, iL⟩, vc, hC, hcode⟩ := HP.out.get hn
  simp only [Value.slice.injEq] at e1
  obtain ⟨rfl, -, rfl⟩ := e1
  obtain ⟨ca, ccap, rfl, hcc, hcby, _⟩ := hcode
  have hL1 := Ext.cell hE1 hL
  have hC1 := Ext.cell hE1 hC
  have T2 : decide ((n : Int) < (p.length : Int)) = true := decide_eq_true (by omega)
  go_enter Tryz.func102, Tryz.ntmps102
  go_upto_region 1 with fail
  obtain ⟨⟨b0, -⟩, ⟨b1, -⟩, ⟨b2, -⟩⟩ := bx.out
  generalize w.alloc (.cells #[.int .i64 n, .int .i64 at_, .slice a1 ls.length c1, .slice a2 st.length c2] 43) = w1 at *
  go_still_tail 11, (by kernel_rfl)
  change wpList _ _ _ _ _ w1.drew
  have hE2 : Ext w1 w1.drew := (Ext.refl _).drew
  generalize w1.drew = w2 at *
  go_upto_region 2 with (first
   | (go_at_call 67; refine (must2 _ _ _ _ _ ).mono ?_; rintro e w3 ⟨rfl, hx3⟩; rw [Bool.and_true, show mustE true 1 = .returned (.tuple #[]) from rfl]))
  have hE3 : Ext w1 w3 := hE2.trans (((Ext.refl _).alloc _).trans hx3)
  have HE3 := Lib.hid (HE1.out.trans hE3)
  have d0 := Ext.cell hE3 b0
  have d1 := Ext.cell hE3 b1
  have d2 := Ext.cell hE3 b2
  have d3 := Ext.cell hE3 k3
  have d4 := Ext.cell hE3 k4
  have d5 := Ext.cell hE3 hL1
  have d6 := Ext.cell hE3 hC1
  clear hx3 hE2 b0 b1 b2 k3 k4 hL1 hC1 hE1 hE3
  rename World => w3
  have HBX := Lib.hid (⟨d0, d1, d4⟩ : _ ∧ _ ∧ _)
  by_cases h2 : (ls.length : Int) = p[n].locals
  ·have HLs : Hid (((ls.length : Int) == p[n].locals) = true) := by unfold Hid; simp [h2]
   by_cases h3 : 0 ≤ at_ ∧ at_ < p[n].code.length
   ·obtain ⟨m, rfl⟩ : ∃ m : Nat, at_ = m := ⟨at_.toNat, by omega⟩
    have hm : m < p[n].code.length := by omega
    have hml : m < (hgt p n).length := by omega
    obtain ⟨u, hu⟩ : ∃ u, (hgt p n).getD m 0 = u := ⟨_, rfl⟩
    have HR : Hid (frameB p ⟨n, m, ls, st⟩ = decide (0 ≤ u)) := by
     unfold Hid frameB
     simp only [hF]
     rw [decide_eq_true h1, decide_eq_true h2, decide_eq_true h3, show (m : Int).toNat = m by omega, hu]
     simp
    have HU := Lib.hid hu
    obtain ⟨bh, oh, ah2, ch2, rfl, hh0, hhi⟩ := Judge.at' HH.out hn
    obtain ⟨bl, ol, rfl, hl0⟩ := Ints.at' hhi hml
    rw [HU.out] at hl0
    have HHI := Lib.hid (⟨hh0, hl0⟩ : _ ∧ _)
    clear h1 h2 h3 hu hhi hh0 hl0
    go_still_tail 29, (by kernel_rfl)
    change wpList _ _ _ _ _ w3.drew
    have hE4 : Ext w3 w3.drew := (Ext.refl _).drew
    generalize w3.drew = w4 at *
    go_upto_region 3 with (first
     | (go_at_call 67; refine (must3 _ _ _ _ _ _ ).mono ?_; rintro e w5 ⟨he, hx5⟩; rw [HLs.out] at he; simp only [Bool.and_true, Bool.true_and, Bool.and_false, Bool.false_and, Bool.and_self, mustE] at he; subst he))
    have hE5 : Ext w3 w5 := hE4.trans (((Ext.refl _).alloc _).trans hx5)
    have HE5 := Lib.hid (HE3.out.trans hE5)
    have d0' := Ext.cell hE5 d0
    have d1' := Ext.cell hE5 d1
    have d4' := Ext.cell hE5 d4
    have d7 := Ext.cell HE5.out HHI.out.1
    have d8 := Ext.cell HE5.out HHI.out.2
    clear hx5 hE4 hE5 d0 d1 d2 d3 d4 d5 d6
    rename World => w5
    go_still_tail 13, (by kernel_rfl)
    change wpList _ _ _ _ _ w5.drew
    have hE6 : Ext w5 w5.drew := (Ext.refl _).drew
    generalize w5.drew = w6 at *
    by_cases h0 : 0 ≤ u
    ·have HU0 : Hid (decide (0 ≤ u) = true) := decide_eq_true h0
     clear h0
     go_wp2_with (first
      | (go_at_call 67; refine (must1 _ _ _ _ ).mono ?_; rintro e w7 ⟨he, hx7⟩; rw [HU0.out] at he; simp only [Bool.and_true, Bool.true_and, Bool.and_false, Bool.false_and, Bool.and_self, mustE] at he; subst he))
     go_end0
     exact ⟨by rw [HR.out, HU0.out]; rfl, (HE5.out.trans hE6).trans (((Ext.refl _).alloc _).trans hx7)⟩
    ·have HU0 : Hid (decide (0 ≤ u) = false) := decide_eq_false h0
     clear h0
     go_wp2_with (first
      | (go_at_call 67; refine (must1 _ _ _ _ ).mono ?_; rintro e w7 ⟨he, hx7⟩; rw [HU0.out] at he; simp only [Bool.and_true, Bool.true_and, Bool.and_false, Bool.false_and, Bool.and_self, mustE] at he; subst he))
     exact ⟨rfl, by rw [HR.out, HU0.out]; rfl, (HE5.out.trans hE6).trans (((Ext.refl _).alloc _).trans hx7)⟩
   ·have HR : Hid (frameB p ⟨n, at_, ls, st⟩ = false) := by
     unfold Hid frameB
     simp only [hF]
     rw [decide_eq_false h3]
     simp
    by_cases h4 : at_ < 0
    ·have T4 : decide (0 ≤ at_) = false := decide_eq_false (by omega)
     clear h1 h2 h3 h4
     go_still_tail 29, (by kernel_rfl)
     change wpList _ _ _ _ _ w3.drew
     have hE4 : Ext w3 w3.drew := (Ext.refl _).drew
     generalize w3.drew = w4 at *
     go_wp2_with (first
      | (go_at_call 67; refine (must3 _ _ _ _ _ _ ).mono ?_; rintro e w5 ⟨he, hx5⟩; (try rw [T4] at he); simp only [Bool.and_true, Bool.true_and, Bool.and_false, Bool.false_and, Bool.and_self, mustE] at he; subst he))
     exact ⟨rfl, by rw [HR.out]; rfl, (HE3.out.trans hE4).trans (((Ext.refl _).alloc _).trans hx5)⟩
    ·have T4 : decide (0 ≤ at_) = true := decide_eq_true (by omega)
     have T5 : decide (at_ < (p[n].code.length : Int)) = false := decide_eq_false (by omega)
     clear h1 h2 h3 h4
     go_still_tail 29, (by kernel_rfl)
     change wpList _ _ _ _ _ w3.drew
     have hE4 : Ext w3 w3.drew := (Ext.refl _).drew
     generalize w3.drew = w4 at *
     go_wp2_with (first
      | (go_at_call 67; refine (must3 _ _ _ _ _ _ ).mono ?_; rintro e w5 ⟨he, hx5⟩; (try rw [T5] at he); simp only [Bool.and_true, Bool.true_and, Bool.and_false, Bool.false_and, Bool.and_self, mustE] at he; subst he))
     exact ⟨rfl, by rw [HR.out]; rfl, (HE3.out.trans hE4).trans (((Ext.refl _).alloc _).trans hx5)⟩
  ·have HLs : Hid (((ls.length : Int) == p[n].locals) = false) := by unfold Hid; simp [h2]
   have HR : Hid (frameB p ⟨n, at_, ls, st⟩ = false) := by
    unfold Hid frameB
    simp only [hF]
    rw [decide_eq_false h2]
    simp
   clear h1 h2
   go_still_tail 29, (by kernel_rfl)
   change wpList _ _ _ _ _ w3.drew
   have hE4 : Ext w3 w3.drew := (Ext.refl _).drew
   generalize w3.drew = w4 at *
   go_wp2_with (first
    | (go_at_call 67; refine (must3 _ _ _ _ _ _ ).mono ?_; rintro e w5 ⟨he, hx5⟩; rw [HLs.out] at he; simp only [Bool.and_true, Bool.true_and, Bool.and_false, Bool.false_and, Bool.and_self, mustE] at he; subst he))
   exact ⟨rfl, by rw [HR.out]; rfl, (HE3.out.trans hE4).trans (((Ext.refl _).alloc _).trans hx5)⟩
 ·have HR : Hid (frameB p ⟨fn, at_, ls, st⟩ = false) := by
   unfold Hid frameB
   simp only
   rw [decide_eq_false h1]
   simp
  by_cases h2 : fn < 0
  ·have T1 : decide (0 ≤ fn) = false := decide_eq_false (by omega)
   clear h1 h2 hz
   go_enter Tryz.func102, Tryz.ntmps102
   go_upto_region 1 with fail
   obtain ⟨⟨b0, -⟩, ⟨b1, -⟩, ⟨b2, -⟩⟩ := bx.out
   generalize w.alloc (.cells #[.int .i64 fn, .int .i64 at_, .slice a1 ls.length c1, .slice a2 st.length c2] 43) = w1 at *
   go_still_tail 11, (by kernel_rfl)
   change wpList _ _ _ _ _ w1.drew
   have hE2 : Ext w1 w1.drew := (Ext.refl _).drew
   generalize w1.drew = w2 at *
   go_wp2_with (first
    | (go_at_call 67; refine (must2 _ _ _ _ _ ).mono ?_; rintro e w3 ⟨rfl, hx3⟩; rw [Bool.false_and, show mustE false 1 = .panicked (refusal 1) from rfl]))
   exact ⟨rfl, by rw [HR.out]; rfl, (HE1.out.trans hE2).trans (((Ext.refl _).alloc _).trans hx3)⟩
  ·have T1 : decide (0 ≤ fn) = true := decide_eq_true (by omega)
   have T2 : decide (fn < (p.length : Int)) = false := decide_eq_false (by omega)
   clear h1 h2 hz
   go_enter Tryz.func102, Tryz.ntmps102
   go_upto_region 1 with fail
   obtain ⟨⟨b0, -⟩, ⟨b1, -⟩, ⟨b2, -⟩⟩ := bx.out
   generalize w.alloc (.cells #[.int .i64 fn, .int .i64 at_, .slice a1 ls.length c1, .slice a2 st.length c2] 43) = w1 at *
   go_still_tail 11, (by kernel_rfl)
   change wpList _ _ _ _ _ w1.drew
   have hE2 : Ext w1 w1.drew := (Ext.refl _).drew
   generalize w1.drew = w2 at *
   go_wp2_with (first
    | (go_at_call 67; refine (must2 _ _ _ _ _ ).mono ?_; rintro e w3 ⟨rfl, hx3⟩; rw [Bool.and_false, show mustE false 1 = .panicked (refusal 1) from rfl]))
   exact ⟨rfl, by rw [HR.out]; rfl, (HE1.out.trans hE2).trans (((Ext.refl _).alloc _).trans hx3)⟩
end Go.Proofs.YtgahbngbpfilgaaGreat
end
section
set_option maxHeartbeats 4000000
set_option maxRecDepth 100000
namespace Go.Proofs.YtgahbngbpfilgaaGreat
open Go Go.RowKit
def jwaitB (p : List GFunc) (x : GFrame) (kind : Int) : Bool := decide (0 < x.at_) && decide ((x.stack.length : Int) = (hgt p x.func).getD x.at_.toNat 0 - 1) && decide ((opBack p x).kind = kind)
theorem waitB_j {p : List GFunc} {x : GFrame} (h : 0 ≤ x.at_) (kind a : Int) : waitB p x kind a = (jwaitB p x kind && (!decide (kind = 11) || decide ((opBack p x).a = a))) := by
 unfold waitB jwaitB
 have : (!decide (x.at_ = 0)) = decide (0 < x.at_) := by
  by_cases h0 : x.at_ = 0
  ·simp [h0]
  ·rw [decide_eq_false h0, decide_eq_true (by omega)]; rfl
 rw [this]
 simp only [Bool.and_assoc]
theorem jwaits_any (p : List GFunc) (s : GState) (line : List Int) (jb : Nat) (T : Nat → Prop) (x : GFrame) (vx : Value) (kind : Int) (w : World) (hj : Judge w jb p s line) (hz : progErr p = 0) (hx : FrameV w T vx x) (hf : frameB p x = true) :
    Calls Tryz.prog 103 #[.pointer (some ⟨jb, 0, none⟩), vx, .int .i64 kind] w fun e w' => e = .returned (.bool (jwaitB p x kind)) ∧ Ext w w' := by
  have HJ := Lib.hid hj
  have HZ := Lib.hid hz
  obtain ⟨n, m, hn, e1, e2, hm, _, hu0, hlm, h24⟩ := frameB_nat hz hf
  obtain ⟨fn, at_, ls, st⟩ := x
  simp only at e1 e2
  subst e1 e2
  obtain ⟨vs, vt, rfl, _, _, hls, hst⟩ := hx
  obtain ⟨a1, c1, rfl, _, _, _⟩ := hls
  obtain ⟨a2, c2, rfl, _, hst2, _⟩ := hst
  simp only at *
  have RA := alloc_keep
  obtain ⟨ap, cp, j3, hp⟩ := hj.pr
  obtain ⟨ah, ch, j4, hh⟩ := hj.hts
  have hE1 : Ext w (w.alloc (.cells #[.int .i64 n, .int .i64 m, .slice a1 ls.length c1, .slice a2 st.length c2] 43)) := (Ext.refl w).alloc _
  obtain ⟨b, o, cap, e1, hcap, hby, _, _, vc, hC, hcode⟩ := hp.get hn
  simp only [Value.slice.injEq] at e1
  obtain ⟨rfl, -, rfl⟩ := e1
  obtain ⟨ca, ccap, rfl, hcc, hcby, hops⟩ := hcode
  have hml : m < (hgt p n).length := by omega
  obtain ⟨u, hu⟩ : ∃ u, (hgt p n).getD m 0 = u := ⟨_, rfl⟩
  obtain ⟨bh, oh, ah2, ch2, rfl, hh0, hhi⟩ := Judge.at' hh hn
  obtain ⟨bl, ol, rfl, hl0⟩ := Ints.at' hhi hml
  have iU := hhi.i64 _ (List.getElem_mem hml)
  have hug : (hgt p n)[m] = u := by rw [← hu]; simp [List.getD, List.getElem?_eq_getElem hml]
  rw [hug] at iU
  rw [hu] at hl0 hu0
  unfold I64 at iU
  have KK3 : IntKind.i64.wrap (u - 1) = u - 1 := IntWalk.i64_in _ (by omega)
  have HU := Lib.hid hu
  obtain ⟨r, hr⟩ : ∃ r, jwaitB p ⟨n, m, ls, st⟩ kind = r := ⟨_, rfl⟩
  rw [hr]
  have HR := Lib.hid hr
  have HF := Lib.hid (funcOf_nat hn)
  have HO := Lib.hid hops
  have k3 := Ext.cell hE1 j3
  have k4 := Ext.cell hE1 j4
  have k5 := Ext.cell hE1 hC
  have k6 := Ext.cell hE1 hh0
  have k7 := Ext.cell hE1 hl0
  have HE1 := Lib.hid hE1
  have bx := Lib.hid (⟨(Cx.new w [.int .i64 n, .int .i64 m, .slice a1 ls.length c1, .slice a2 st.length c2] 43 (j := 0) rfl).1, (Cx.new w [.int .i64 n, .int .i64 m, .slice a1 ls.length c1, .slice a2 st.length c2] 43 (j := 1) rfl).1, (Cx.new w [.int .i64 n, .int .i64 m, .slice a1 ls.length c1, .slice a2 st.length c2] 43 (j := 3) rfl).1⟩ : _ ∧ _ ∧ _)
  clear hr hu hug hops j3 j4 hC hh0 hl0 hE1 hhi hh hp hj hf hlm
  by_cases h1 : m = 0
  · have HRR : Hid (r = false) := by unfold Hid; rw [← HR.out]; unfold jwaitB; simp [h1]
    subst h1
    go_enter Tryz.func103, Tryz.ntmps103
    go_upto_region 1 with fail
    obtain ⟨b0, b1, b3⟩ := bx.out
    generalize w.alloc (.cells #[.int .i64 n, .int .i64 ((0 : Nat) : Int), .slice a1 ls.length c1, .slice a2 st.length c2] 43) = w1 at *
    refine wp_region_ext (by kernel_rfl) (by kernel_rfl) ?_
    repeat (first
      | go_big_quiet_skip
      | (go_big_quiet_want
         unfold Oper.quiet
         apply Exists.intro
         refine ⟨fun w' hw' => ?_, ?_⟩
         focus
           have hcq := Ext.keep hw'
           go_simp
           first
             | with_reducible rfl
             | fail
         (try dsimp only [Act.put])
         (try simp only [List.setIfInBounds_toArray, List.set_cons_succ, List.set_cons_zero])
         go_big_quiet_on))
    refine wpQuiet_nil ?_
    intro wq hq
    go_wp2_with fail
    go_ret
    exact ⟨by rw [HRR.out]; rfl, HE1.out.trans hq⟩
  · obtain ⟨j, hj⟩ : ∃ j, m = j + 1 := ⟨m - 1, by omega⟩
    have hjl : j < p[n].code.length := by omega
    have KK4 : IntKind.i64.wrap ((m : Int) - 1) = (j : Int) := by rw [IntWalk.i64_in _ (by omega)]; omega
    have T1 : decide ((0 : Int) < (m : Int)) = true := decide_eq_true (by omega)
    have T1n : decide (0 < m) = true := decide_eq_true (by omega)
    by_cases h2 : (st.length : Int) = u - 1
    · have T2 : ((st.length : Int) == u - 1) = true := by simp [h2]
      obtain ⟨cb, co, rfl, ⟨_, z0, _⟩, _⟩ := HO.out j hjl
      obtain ⟨y, hy⟩ : ∃ y, p[n].code[j] = y := ⟨_, rfl⟩
      have HB : Hid (opBack p ⟨n, m, ls, st⟩ = y) := by
        unfold Hid opBack
        rw [HF.out]
        show p[n].code.getD ((m : Int) - 1).toNat default = y
        rw [show ((m : Int) - 1).toNat = j by omega, ← hy]
        simp [List.getD, List.getElem?_eq_getElem hjl]
      rw [hy] at z0
      have HRR : Hid (r = (y.kind == kind)) := by
        unfold Hid
        rw [← HR.out]
        unfold jwaitB
        rw [HB.out]
        simp only
        rw [decide_eq_true (show 0 < (m : Int) by omega), show (hgt p (n : Int)).getD ((m : Int).toNat) 0 = u from HU.out, decide_eq_true h2, Bool.eq_iff_iff]
        simp
      obtain ⟨yk, hyk⟩ : ∃ yk, y.kind = yk := ⟨_, rfl⟩
      rw [hyk] at z0 HRR
      have z1 := Ext.cell HE1.out z0
      clear h1 h2 hj HR HB hy hyk z0
      go_enter Tryz.func103, Tryz.ntmps103
      go_upto_region 1 with fail
      obtain ⟨b0, b1, b3⟩ := bx.out
      generalize w.alloc (.cells #[.int .i64 n, .int .i64 m, .slice a1 ls.length c1, .slice a2 st.length c2] 43) = w1 at *
      refine wp_region_ext (by kernel_rfl) (by kernel_rfl) ?_
      repeat (first
        | go_big_quiet_skip
        | (go_big_quiet_want
           unfold Oper.quiet
           apply Exists.intro
           refine ⟨fun w' hw' => ?_, ?_⟩
           focus
             have hcq := Ext.keep hw'
             go_simp
             first
               | with_reducible rfl
               | fail
           (try dsimp only [Act.put])
           (try simp only [List.setIfInBounds_toArray, List.set_cons_succ, List.set_cons_zero])
           go_big_quiet_on))
      refine wpQuiet_nil ?_
      intro wq hq
      go_wp2_with fail
      go_ret
      exact ⟨by rw [HRR.out]; rfl, HE1.out.trans hq⟩
    · have T2 : ((st.length : Int) == u - 1) = false := beq_eq_false_iff_ne.2 h2
      have HRR : Hid (r = false) := by
        unfold Hid
        rw [← HR.out]
        unfold jwaitB
        rw [show (hgt p (GFrame.func ⟨n, m, ls, st⟩)).getD (GFrame.at_ ⟨n, m, ls, st⟩).toNat 0 = u from HU.out]
        simp only
        rw [decide_eq_false h2]
        simp
      clear h1 h2 hj HR
      go_enter Tryz.func103, Tryz.ntmps103
      go_upto_region 1 with fail
      obtain ⟨b0, b1, b3⟩ := bx.out
      generalize w.alloc (.cells #[.int .i64 n, .int .i64 m, .slice a1 ls.length c1, .slice a2 st.length c2] 43) = w1 at *
      refine wp_region_ext (by kernel_rfl) (by kernel_rfl) ?_
      repeat (first
        | go_big_quiet_skip
        | (go_big_quiet_want
           unfold Oper.quiet
           apply Exists.intro
           refine ⟨fun w' hw' => ?_, ?_⟩
           focus
             have hcq := Ext.keep hw'
             go_simp
             first
               | with_reducible rfl
               | fail
           (try dsimp only [Act.put])
           (try simp only [List.setIfInBounds_toArray, List.set_cons_succ, List.set_cons_zero])
           go_big_quiet_on))
      refine wpQuiet_nil ?_
      intro wq hq
      go_wp2_with fail
      go_ret
      exact ⟨by rw [HRR.out]; rfl, HE1.out.trans hq⟩
end Go.Proofs.YtgahbngbpfilgaaGreat
end
