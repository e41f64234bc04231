/- Merged texts: contracts and plain facts, one part behind another; each part begins with what it says. -/
import Derived.Test.YtgahbngbpfilgaaGreatGHAK
import Derived.Test.YtgahbngbpfilgaaGreatGHAM
import Derived.Test.YtgahbngbpfilgaaGreatGHAQ
import Derived.Test.YtgahbngbpfilgaaGreatGHAY
import Derived.Test.YtgahbngbpfilgaaGreatGHBG
section
set_option maxHeartbeats 4000000
set_option maxRecDepth 100000
namespace Go.Proofs.YtgahbngbpfilgaaGreat
open Go Go.RowKit
theorem same_val (s : GState) (x y : Value) (S T : Nat → Prop) (w : World) (hx : StateV w S x s) (hy : StateV w T y s) : Calls Tryz.prog 15 #[x, y] w fun e w' => e = .returned (.bool true) ∧ Ext w w' := by
 refine (sameStates_any s s x y S T w hx hy).mono ?_
 rintro e w' ⟨rfl, hb⟩
 rw [show decide (s = s) = true by simp]
 exact ⟨rfl, hb⟩
end Go.Proofs.YtgahbngbpfilgaaGreat
end
section
set_option maxHeartbeats 400000
set_option maxRecDepth 100000
namespace Go.Proofs.YtgahbngbpfilgaaGreat
open Go Go.RowKit
theorem runRun_val (p : List GFunc) (v : Value) (S T : Nat → Prop) (s : GState) (vs : Value) (m : Int) (w : World) (hp : Funcs w S v p) (hs : StateV w T vs s) {U : GState} {n g K : Int} {N M : Nat} (hr : runOfG p s m = (U, n, g)) (hN : U.fibers.length = N) (hM : U.out.length = M) (hK : U.now = K) :
  Calls Tryz.prog 11 #[v, vs, .int .i64 m] w fun e w' => (∃ a c b d, e = .returned (.tuple #[.agg #[.slice a N c, .int .i64 K, .slice b M d], .int .i64 n, .int .i64 g]) ∧ StateO w' w.heap.size (.agg #[.slice a N c, .int .i64 K, .slice b M d]) U) ∧ Ext w w' := by
 refine (runRun_any p v S T s vs m w hp hs).mono fun e w' ⟨⟨x, he, hx⟩, hb⟩ => ⟨?_, hb⟩
 rw [hr] at he hx
 obtain ⟨a, c, b, d, rfl⟩ := hx.few
 subst hN hM hK
 exact ⟨a, c, b, d, he, hx⟩
theorem StateO.box_new {w : World} {B N M c d : Nat} {K : Int} {a b : Option Addr} {s : GState} (h : StateO w B (.agg #[.slice a N c, .int .i64 K, .slice b M d]) s) (t : TypeId) :
  BoxT (w.alloc (.cells #[.slice a N c, .int .i64 K, .slice b M d] t)) w.heap.size N M K s := BoxT.new (StateV.stays (T := fun _ => True) (Stays.widen (fun _ _ => trivial)) h.state) t
end Go.Proofs.YtgahbngbpfilgaaGreat
end
section
set_option maxHeartbeats 4000000
set_option maxRecDepth 100000
namespace Go.Proofs.YtgahbngbpfilgaaGreat
open Go Go.RowKit
theorem stepOf_any (p : List GFunc) (v : Value) (S T : Nat → Prop) (s : GState) (vs : Value) (w : World) (hp : Funcs w S v p) (hs : StateV w T vs s) :
  Calls Tryz.prog 13 #[v, vs] w fun e w' => (∃ x, e = .returned (.tuple #[x, .int .i64 (doS p s).1]) ∧ StateO w' w.heap.size x (doS p s).2) ∧ Ext w w' := by
 have HP := Lib.hid hp
 have HS := Lib.hid hs
 obtain ⟨a, c, b, d, rfl⟩ := hs.few
 obtain ⟨ap, cp, rfl, _, _, _⟩ := hp
 have RA := alloc_keep
 have hs0 : (w.alloc (.cells #[.slice a s.fibers.length c, .int .i64 s.now, .slice b s.out.length d] 26)).heap.size = w.heap.size + 1 := Array.size_push _
 have r0 := Cx.new (w.alloc (.cells #[.slice a s.fibers.length c, .int .i64 s.now, .slice b s.out.length d] 26)) [.slice none 0 0, .int .i64 0, .slice none 0 0] 26 (j := 0) rfl
 have r1 := Cx.new (w.alloc (.cells #[.slice a s.fibers.length c, .int .i64 s.now, .slice b s.out.length d] 26)) [.slice none 0 0, .int .i64 0, .slice none 0 0] 26 (j := 1) rfl
 have r2 := Cx.new (w.alloc (.cells #[.slice a s.fibers.length c, .int .i64 s.now, .slice b s.out.length d] 26)) [.slice none 0 0, .int .i64 0, .slice none 0 0] 26 (j := 2) rfl
 rw [hs0] at r0 r1 r2
 have HR := Lib.hid (⟨r0, r1, r2⟩ : _ ∧ _ ∧ _)
 have HQ := Lib.hid (⟨(Cx.new w [.slice a s.fibers.length c, .int .i64 s.now, .slice b s.out.length d] 26 (j := 0) rfl).ext ((Ext.refl _).alloc (.cells #[.slice none 0 0, .int .i64 0, .slice none 0 0] 26)), (Cx.new w [.slice a s.fibers.length c, .int .i64 s.now, .slice b s.out.length d] 26 (j := 1) rfl).ext ((Ext.refl _).alloc (.cells #[.slice none 0 0, .int .i64 0, .slice none 0 0] 26)), (Cx.new w [.slice a s.fibers.length c, .int .i64 s.now, .slice b s.out.length d] 26 (j := 2) rfl).ext ((Ext.refl _).alloc (.cells #[.slice none 0 0, .int .i64 0, .slice none 0 0] 26))⟩ : _ ∧ _ ∧ _)
 have HE1 : Hid (Ext w ((w.alloc (.cells #[.slice a s.fibers.length c, .int .i64 s.now, .slice b s.out.length d] 26)).alloc (.cells #[.slice none 0 0, .int .i64 0, .slice none 0 0] 26))) := ((Ext.refl w).alloc _).alloc _
 have HS1 : Hid (((w.alloc (.cells #[.slice a s.fibers.length c, .int .i64 s.now, .slice b s.out.length d] 26)).alloc (.cells #[.slice none 0 0, .int .i64 0, .slice none 0 0] 26)).heap.size = w.heap.size + 2) := by unfold Hid; simp
 clear hs0 r0 r1 r2
 by_cases hz : stateErr p s = 0
 ·have HG : Hid (doS p s = stepG p s) := by unfold Hid doS; rw [if_neg (fun h => h hz)]
  obtain ⟨l, hok⟩ := ok_of_err hz
  have HFW := Lib.hid hok.fewS
  have HST : Hid (s.now < 0 ∨ OpFit p s) := by
   by_cases hn : s.now < 0
   ·exact .inl hn
   ·exact .inr (step_right hok (by omega)).1
  have HZ := Lib.hid hz
  clear hz hok
  go_enter Tryz.func13, Tryz.ntmps13
  go_wp2_with (first
   | (go_at_call 5; (with_reducible refine (stateError_any p _ _ _ s _ _ (Funcs.stays (Ext.stays (by ((repeat (first | assumption | exact Ext.refl _ | (exact And.left (by assumption)) | refine Ext.alloc ?_ _ | refine Ext.drew ?_ | refine Ext.drewN ?_ _ | refine Ext.setCell ?_ (by simp) _ | refine Ext.setCell ?_ (by simp; omega) _ | refine Ext.trans ?_ (by assumption))); done))) HP.out) (StateV.stays (Ext.stays (by ((repeat (first | assumption | exact Ext.refl _ | (exact And.left (by assumption)) | refine Ext.alloc ?_ _ | refine Ext.drew ?_ | refine Ext.drewN ?_ _ | refine Ext.setCell ?_ (by simp) _ | refine Ext.setCell ?_ (by simp; omega) _ | refine Ext.trans ?_ (by assumption))); done))) HS.out)).mono ?_); rintro e w5 ⟨rfl, hx5⟩; rw [HZ.out]; obtain ⟨q0, q0'⟩ := (HQ.out).1.ext hx5; obtain ⟨q1, q1'⟩ := (HQ.out).2.1.ext hx5; obtain ⟨q2, q2'⟩ := (HQ.out).2.2.ext hx5; have HX5 := Lib.hid hx5; clear hx5)
   | (go_at_call 35; (with_reducible refine (stepped_any p _ _ _ s _ _ (Funcs.stays (Ext.stays (HE1.out.trans HX5.out)) HP.out) (StateV.stays (Ext.stays (HE1.out.trans HX5.out)) HS.out) HFW.out HST.out).mono ?_); rintro e w6 ⟨⟨x, rfl, hx⟩, hx6⟩; have HXS := Lib.hid hx; obtain ⟨ax, cx, bx, dx, rfl⟩ := hx.few; obtain ⟨z0, z0'⟩ := (HR.out).1.ext (HX5.out.trans hx6); obtain ⟨z1, z1'⟩ := (HR.out).2.1.ext (HX5.out.trans hx6); obtain ⟨z2, z2'⟩ := (HR.out).2.2.ext (HX5.out.trans hx6); have HX6 := Lib.hid hx6; clear hx hx6))
  refine bodyPost_ret (results_cell2 rfl _ _ (w.heap.size + 1) 0 _ _ rfl (box3 ⟨z0, z0'⟩ ⟨z1, z1'⟩ ⟨z2, z2'⟩ _ _ _) rfl rfl (by kernel_rfl)) rfl ?_
  rw [HG.out]
  exact ⟨⟨_, rfl, ret_state (HXS.out.mono (by have h2 := (HX5.out).size; have h3 := HS1.out; omega)) _ _ _⟩, ret_ext ((HE1.out.trans HX5.out).trans HX6.out) _ _ _⟩
 ·have HG : Hid (doS p s = (stateErr p s, ⟨[], 0, []⟩)) := by unfold Hid doS; rw [if_pos hz]
  have TE : (stateErr p s != 0) = true := bne_iff_ne.2 hz
  obtain ⟨re, hre⟩ : ∃ re, stateErr p s = re := ⟨_, rfl⟩
  rw [hre] at TE HG
  have HRE := Lib.hid hre
  clear hz hre
  go_enter Tryz.func13, Tryz.ntmps13
  go_wp2_with (first
   | (go_at_call 5; (with_reducible refine (stateError_any p _ _ _ s _ _ (Funcs.stays (Ext.stays (by ((repeat (first | assumption | exact Ext.refl _ | (exact And.left (by assumption)) | refine Ext.alloc ?_ _ | refine Ext.drew ?_ | refine Ext.drewN ?_ _ | refine Ext.setCell ?_ (by simp) _ | refine Ext.setCell ?_ (by simp; omega) _ | refine Ext.trans ?_ (by assumption))); done))) HP.out) (StateV.stays (Ext.stays (by ((repeat (first | assumption | exact Ext.refl _ | (exact And.left (by assumption)) | refine Ext.alloc ?_ _ | refine Ext.drew ?_ | refine Ext.drewN ?_ _ | refine Ext.setCell ?_ (by simp) _ | refine Ext.setCell ?_ (by simp; omega) _ | refine Ext.trans ?_ (by assumption))); done))) HS.out)).mono ?_); rintro e w5 ⟨rfl, hx5⟩; rw [HRE.out]; obtain ⟨z0, z0'⟩ := (HR.out).1.ext hx5; obtain ⟨z1, z1'⟩ := (HR.out).2.1.ext hx5; obtain ⟨z2, z2'⟩ := (HR.out).2.2.ext hx5; have HX5 := Lib.hid hx5; clear hx5))
  refine bodyPost_ret (results_cell2 rfl _ _ (w.heap.size + 1) 0 [.slice none 0 0, .int .i64 0, .slice none 0 0] _ rfl (box3 ⟨z0, z0'⟩ ⟨z1, z1'⟩ ⟨z2, z2'⟩ _ _ _) rfl rfl (by kernel_rfl)) rfl ?_
  rw [HG.out]
  exact ⟨⟨_, rfl, stateO_nil _ _⟩, ret_ext (HE1.out.trans HX5.out) _ _ _⟩
end Go.Proofs.YtgahbngbpfilgaaGreat
end
section
set_option maxHeartbeats 400000
set_option maxRecDepth 100000
namespace Go.Proofs.YtgahbngbpfilgaaGreat
open Go Go.RowKit
theorem stepDo_val (p : List GFunc) (v : Value) (S T : Nat → Prop) (s : GState) (vs : Value) (w : World) (hp : Funcs w S v p) (hs : StateV w T vs s) {U : GState} {n K : Int} {N M : Nat} (hr : doS p s = (n, U)) (hN : U.fibers.length = N) (hM : U.out.length = M) (hK : U.now = K) :
  Calls Tryz.prog 10 #[v, vs] w fun e w' => (∃ a c b d, e = .returned (.tuple #[.agg #[.slice a N c, .int .i64 K, .slice b M d], .int .i64 n]) ∧ StateO w' w.heap.size (.agg #[.slice a N c, .int .i64 K, .slice b M d]) U) ∧ Ext w w' := by
 refine (stepDo_any p v S T s vs w hp hs).mono fun e w' ⟨⟨x, he, hx⟩, hb⟩ => ⟨?_, hb⟩
 rw [hr] at he hx
 obtain ⟨a, c, b, d, rfl⟩ := hx.few
 subst hN hM hK
 exact ⟨a, c, b, d, he, hx⟩
theorem stepOf_val (p : List GFunc) (v : Value) (S T : Nat → Prop) (s : GState) (vs : Value) (w : World) (hp : Funcs w S v p) (hs : StateV w T vs s) {U : GState} {n K : Int} {N M : Nat} (hr : doS p s = (n, U)) (hN : U.fibers.length = N) (hM : U.out.length = M) (hK : U.now = K) :
  Calls Tryz.prog 13 #[v, vs] w fun e w' => (∃ a c b d, e = .returned (.tuple #[.agg #[.slice a N c, .int .i64 K, .slice b M d], .int .i64 n]) ∧ StateO w' w.heap.size (.agg #[.slice a N c, .int .i64 K, .slice b M d]) U) ∧ Ext w w' := by
 refine (stepOf_any p v S T s vs w hp hs).mono fun e w' ⟨⟨x, he, hx⟩, hb⟩ => ⟨?_, hb⟩
 rw [hr] at he hx
 obtain ⟨a, c, b, d, rfl⟩ := hx.few
 subst hN hM hK
 exact ⟨a, c, b, d, he, hx⟩
theorem runOf_val (p : List GFunc) (v : Value) (S T : Nat → Prop) (s : GState) (vs : Value) (m : Int) (w : World) (hp : Funcs w S v p) (hs : StateV w T vs s) (hf : 0 ≤ m → m ≤ 500 → stateErr p s = 0 → RunFit p m.toNat s) {U : GState} {n g K : Int} {N M : Nat} (hr : runOfG p s m = (U, n, g)) (hN : U.fibers.length = N) (hM : U.out.length = M) (hK : U.now = K) :
  Calls Tryz.prog 14 #[v, vs, .int .i64 m] w fun e w' => (∃ a c b d, e = .returned (.tuple #[.agg #[.slice a N c, .int .i64 K, .slice b M d], .int .i64 n, .int .i64 g]) ∧ StateO w' w.heap.size (.agg #[.slice a N c, .int .i64 K, .slice b M d]) U) ∧ Ext w w' := by
 refine (runOf_any p v S T s vs m w hp hs hf).mono fun e w' ⟨⟨x, he, hx⟩, hb⟩ => ⟨?_, hb⟩
 rw [hr] at he hx
 obtain ⟨a, c, b, d, rfl⟩ := hx.few
 subst hN hM hK
 exact ⟨a, c, b, d, he, hx⟩
theorem begin_owned (p : List GFunc) (v : Value) (S : Nat → Prop) (w : World) (hp : Funcs w S v p) (h0 : progErr p = 0) (hb : ∀ (p : List GFunc) (v : Value) (S : Nat → Prop) (w : World), Funcs w S v p → progErr p = 0 → Calls Tryz.prog 12 #[v] w fun e w' => (∃ x, e = .returned (.tuple #[x, .int .i64 0]) ∧ StateO w' w.heap.size x (beginG p)) ∧ Ext w w') :
  Calls Tryz.prog 12 #[v] w fun e w' => (∃ a c b d, e = .returned (.tuple #[.agg #[.slice a 1 c, .int .i64 0, .slice b 0 d], .int .i64 0]) ∧ StateO w' w.heap.size (.agg #[.slice a 1 c, .int .i64 0, .slice b 0 d]) (beginG p)) ∧ Ext w w' := by
 refine (hb p v S w hp h0).mono fun e w' ⟨⟨x, he, hx⟩, hb⟩ => ⟨?_, hb⟩
 obtain ⟨a, c, b, d, rfl⟩ := hx.few
 exact ⟨a, c, b, d, he, hx⟩
end Go.Proofs.YtgahbngbpfilgaaGreat
end
