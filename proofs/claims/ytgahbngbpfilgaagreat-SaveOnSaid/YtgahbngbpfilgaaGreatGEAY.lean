/- Merged texts: contracts and plain facts, one part behind another; each part begins with what it says. -/
import Derived.Test.YtgahbngbpfilgaaGreatGEAI
import Derived.Test.YtgahbngbpfilgaaGreatGEAJ
import Derived.Test.YtgahbngbpfilgaaGreatGEAN
import Derived.Test.YtgahbngbpfilgaaGreatGEAX
section
set_option maxHeartbeats 4000000
set_option maxRecDepth 100000
namespace Go.Proofs.YtgahbngbpfilgaaGreat
open Go Go.RowKit
def doS (p : List GFunc) (s : GState) : Int × GState := if stateErr p s ≠ 0 then (stateErr p s, ⟨[], 0, []⟩) else stepG p s
theorem fuelled_any (n : Int) (w : World) : Calls Tryz.prog 31 #[.int .i64 n] w fun e w' => e = .returned (.bool (decide (0 ≤ n ∧ n ≤ 500))) ∧ w = w' := by
 by_cases h : 0 ≤ n
 ·have T1 : decide (0 ≤ n) = true := decide_eq_true h
  have e : decide (0 ≤ n ∧ n ≤ 500) = decide (n ≤ 500) := decide_eq_decide.2 ⟨fun k => k.2, fun k => ⟨h, k⟩⟩
  rw [e]
  clear h e
  go_enter Tryz.func31, Tryz.ntmps31
  go_wp2_with fail
  go_ret
  exact ⟨rfl, rfl⟩
 ·have T1 : decide (0 ≤ n) = false := decide_eq_false h
  have e : decide (0 ≤ n ∧ n ≤ 500) = false := decide_eq_false (fun k => h k.1)
  rw [e]
  clear h e
  go_enter Tryz.func31, Tryz.ntmps31
  go_wp2_with fail
  go_ret
  exact ⟨rfl, rfl⟩
theorem runRun_any (p : List GFunc) (v : Value) (S T : Nat → Prop) (s : GState) (vs : Value) (fuel : Int) (w : World) (hp : Funcs w S v p) (hs : StateV w T vs s) :
  Calls Tryz.prog 11 #[v, vs, .int .i64 fuel] w fun e w' => (∃ x, e = .returned (.tuple #[x, .int .i64 (runOfG p s fuel).2.1, .int .i64 (runOfG p s fuel).2.2]) ∧ StateO w' w.heap.size x (runOfG p s fuel).1) ∧ Ext w w' := by
 have HP := Lib.hid hp
 have HS := Lib.hid hs
 obtain ⟨a, c, b, d, rfl⟩ := hs.few
 obtain ⟨ap, cp, rfl, _, _, _⟩ := hp
 have RA := alloc_keep
 have hs0 : (w.alloc (.cells #[.slice a s.fibers.length c, .int .i64 s.now, .slice b s.out.length d] 26)).heap.size = w.heap.size + 1 := Array.size_push _
 have r0 := Cx.new (w.alloc (.cells #[.slice a s.fibers.length c, .int .i64 s.now, .slice b s.out.length d] 26)) [.slice none 0 0, .int .i64 0, .slice none 0 0] 26 (j := 0) rfl
 have r1 := Cx.new (w.alloc (.cells #[.slice a s.fibers.length c, .int .i64 s.now, .slice b s.out.length d] 26)) [.slice none 0 0, .int .i64 0, .slice none 0 0] 26 (j := 1) rfl
 have r2 := Cx.new (w.alloc (.cells #[.slice a s.fibers.length c, .int .i64 s.now, .slice b s.out.length d] 26)) [.slice none 0 0, .int .i64 0, .slice none 0 0] 26 (j := 2) rfl
 rw [hs0] at r0 r1 r2
 have HR := Lib.hid (⟨r0, r1, r2⟩ : _ ∧ _ ∧ _)
 have HQ := Lib.hid (⟨(Cx.new w [.slice a s.fibers.length c, .int .i64 s.now, .slice b s.out.length d] 26 (j := 0) rfl).ext ((Ext.refl _).alloc (.cells #[.slice none 0 0, .int .i64 0, .slice none 0 0] 26)), (Cx.new w [.slice a s.fibers.length c, .int .i64 s.now, .slice b s.out.length d] 26 (j := 1) rfl).ext ((Ext.refl _).alloc (.cells #[.slice none 0 0, .int .i64 0, .slice none 0 0] 26)), (Cx.new w [.slice a s.fibers.length c, .int .i64 s.now, .slice b s.out.length d] 26 (j := 2) rfl).ext ((Ext.refl _).alloc (.cells #[.slice none 0 0, .int .i64 0, .slice none 0 0] 26))⟩ : _ ∧ _ ∧ _)
 have HE1 : Hid (Ext w ((w.alloc (.cells #[.slice a s.fibers.length c, .int .i64 s.now, .slice b s.out.length d] 26)).alloc (.cells #[.slice none 0 0, .int .i64 0, .slice none 0 0] 26))) := ((Ext.refl w).alloc _).alloc _
 have HS1 : Hid (((w.alloc (.cells #[.slice a s.fibers.length c, .int .i64 s.now, .slice b s.out.length d] 26)).alloc (.cells #[.slice none 0 0, .int .i64 0, .slice none 0 0] 26)).heap.size = w.heap.size + 2) := by unfold Hid; simp
 clear hs0 r0 r1 r2
 by_cases hfu : 0 ≤ fuel ∧ fuel ≤ 500
 ·have HW : Hid (decide (0 ≤ fuel ∧ fuel ≤ 500) = true) := decide_eq_true hfu
  obtain ⟨fn, hfn⟩ : ∃ n : Nat, fuel = n := ⟨fuel.toNat, by omega⟩
  subst hfn
  by_cases hz : stateErr p s = 0
  ·have HG : Hid (runOfG p s fn = runG p fn s) := by unfold Hid runOfG; rw [if_neg (fun h => h hfu), if_neg (fun h => h hz), Int.toNat_natCast]
   obtain ⟨l, hok⟩ := ok_of_err hz
   have HOK := Lib.hid hok
   have HZ := Lib.hid hz
   clear hz hok
   go_enter Tryz.func11, Tryz.ntmps11
   go_wp2_with (first
    | (go_at_call 31; (with_reducible refine (fuelled_any _ _).mono ?_); rintro e w4 ⟨rfl, rfl⟩; rw [HW.out])
    | (go_at_call 29; (with_reducible refine (stateCheck_any p _ _ _ s _ _ (Funcs.stays (Ext.stays (by ((repeat (first | assumption | exact Ext.refl _ | (exact And.left (by assumption)) | refine Ext.alloc ?_ _ | refine Ext.drew ?_ | refine Ext.drewN ?_ _ | refine Ext.setCell ?_ (by simp) _ | refine Ext.setCell ?_ (by simp; omega) _ | refine Ext.trans ?_ (by assumption))); done))) HP.out) (StateV.stays (Ext.stays (by ((repeat (first | assumption | exact Ext.refl _ | (exact And.left (by assumption)) | refine Ext.alloc ?_ _ | refine Ext.drew ?_ | refine Ext.drewN ?_ _ | refine Ext.setCell ?_ (by simp) _ | refine Ext.setCell ?_ (by simp; omega) _ | refine Ext.trans ?_ (by assumption))); done))) HS.out)).mono ?_); rintro e w5 ⟨rfl, hx5⟩; rw [HZ.out]; obtain ⟨q0, q0'⟩ := (HQ.out).1.ext hx5; obtain ⟨q1, q1'⟩ := (HQ.out).2.1.ext hx5; obtain ⟨q2, q2'⟩ := (HQ.out).2.2.ext hx5; have HX5 := Lib.hid hx5; clear hx5)
    | (go_at_call 32; (with_reducible refine (on_any p _ _ _ s l _ fn _ (Funcs.stays (Ext.stays (HE1.out.trans HX5.out)) HP.out) (StateV.stays (Ext.stays (HE1.out.trans HX5.out)) HS.out) HOK.out (by omega)).mono ?_); rintro e w6 ⟨⟨x, rfl, hx⟩, hx6⟩; have HXS := Lib.hid hx; obtain ⟨ax, cx, bx, dx, rfl⟩ := hx.few; obtain ⟨z0, z0'⟩ := (HR.out).1.ext (HX5.out.trans hx6); obtain ⟨z1, z1'⟩ := (HR.out).2.1.ext (HX5.out.trans hx6); obtain ⟨z2, z2'⟩ := (HR.out).2.2.ext (HX5.out.trans hx6); have HX6 := Lib.hid hx6; clear hx hx6))
   refine bodyPost_ret (results_cell3 rfl _ _ (w.heap.size + 1) 0 _ _ rfl (box3 ⟨z0, z0'⟩ ⟨z1, z1'⟩ ⟨z2, z2'⟩ _ _ _) rfl rfl (by kernel_rfl)) rfl ?_
   rw [HG.out]
   exact ⟨⟨_, rfl, ret_state (HXS.out.mono (by have h2 := (HX5.out).size; have h3 := HS1.out; omega)) _ _ _⟩, ret_ext ((HE1.out.trans HX5.out).trans HX6.out) _ _ _⟩
  ·have HG : Hid (runOfG p s fn = (⟨[], 0, []⟩, 0, stateErr p s)) := by unfold Hid runOfG; rw [if_neg (fun h => h hfu), if_pos hz]
   have TE : (stateErr p s != 0) = true := bne_iff_ne.2 hz
   obtain ⟨re, hre⟩ : ∃ re, stateErr p s = re := ⟨_, rfl⟩
   rw [hre] at TE HG
   have HRE := Lib.hid hre
   clear hz hre
   go_enter Tryz.func11, Tryz.ntmps11
   go_wp2_with (first
    | (go_at_call 31; (with_reducible refine (fuelled_any _ _).mono ?_); rintro e w4 ⟨rfl, rfl⟩; rw [HW.out])
    | (go_at_call 29; (with_reducible refine (stateCheck_any p _ _ _ s _ _ (Funcs.stays (Ext.stays (by ((repeat (first | assumption | exact Ext.refl _ | (exact And.left (by assumption)) | refine Ext.alloc ?_ _ | refine Ext.drew ?_ | refine Ext.drewN ?_ _ | refine Ext.setCell ?_ (by simp) _ | refine Ext.setCell ?_ (by simp; omega) _ | refine Ext.trans ?_ (by assumption))); done))) HP.out) (StateV.stays (Ext.stays (by ((repeat (first | assumption | exact Ext.refl _ | (exact And.left (by assumption)) | refine Ext.alloc ?_ _ | refine Ext.drew ?_ | refine Ext.drewN ?_ _ | refine Ext.setCell ?_ (by simp) _ | refine Ext.setCell ?_ (by simp; omega) _ | refine Ext.trans ?_ (by assumption))); done))) HS.out)).mono ?_); rintro e w5 ⟨rfl, hx5⟩; rw [HRE.out]; obtain ⟨z0, z0'⟩ := (HR.out).1.ext hx5; obtain ⟨z1, z1'⟩ := (HR.out).2.1.ext hx5; obtain ⟨z2, z2'⟩ := (HR.out).2.2.ext hx5; have HX5 := Lib.hid hx5; clear hx5))
   refine bodyPost_ret (results_cell3 rfl _ _ (w.heap.size + 1) 0 [.slice none 0 0, .int .i64 0, .slice none 0 0] _ rfl (box3 ⟨z0, z0'⟩ ⟨z1, z1'⟩ ⟨z2, z2'⟩ _ _ _) rfl rfl (by kernel_rfl)) rfl ?_
   rw [HG.out]
   exact ⟨⟨_, rfl, stateO_nil _ _⟩, ret_ext (HE1.out.trans HX5.out) _ _ _⟩
 ·have HW : Hid (decide (0 ≤ fuel ∧ fuel ≤ 500) = false) := decide_eq_false hfu
  have HG : Hid (runOfG p s fuel = (⟨[], 0, []⟩, 0, 3)) := by unfold Hid runOfG; rw [if_pos hfu]
  obtain ⟨⟨z0, z0'⟩, ⟨z1, z1'⟩, ⟨z2, z2'⟩⟩ := HR.out
  clear hfu
  go_enter Tryz.func11, Tryz.ntmps11
  go_wp2_with (first
   | (go_at_call 31; (with_reducible refine (fuelled_any _ _).mono ?_); rintro e w4 ⟨rfl, rfl⟩; rw [HW.out]))
  refine bodyPost_ret (results_cell3 rfl _ _ (w.heap.size + 1) 0 [.slice none 0 0, .int .i64 0, .slice none 0 0] _ rfl (range3 z0 z1 z2) rfl rfl (by kernel_rfl)) rfl ?_
  rw [HG.out]
  exact ⟨⟨_, rfl, stateO_nil _ _⟩, HE1.out⟩
end Go.Proofs.YtgahbngbpfilgaaGreat
end
section
namespace Go.Proofs.YtgahbngbpfilgaaGreat
set_option maxHeartbeats 1000000
structure EndF (p : List GFunc) (m : Int) (r : GState × Int × Int) : Prop where
 err : stateErr p r.1 = 0
 low : 0 ≤ r.2.1
 high : r.2.1 ≤ m
 bad : r.2.2 ≠ 0 → r.2.1 < m ∧ 0 ≤ r.1.now ∧ (doS p r.1).1 = r.2.2
 fine : r.2.2 = 0 → r.2.1 = m ∨ (r.1.now = -1 ∧ (doS p r.1).1 = 8)
open Go Go.RowKit
theorem fibers_of {w : World} {S : Nat → Prop} {x y : Value} {k : Int} {s : GState} (h : StateV w S (.agg #[x, .int .i64 k, y]) s) : Fibers w S x s.fibers := by
 obtain ⟨x', y', e, h3, _, _⟩ := h
 simp only [Value.agg.injEq, Array.mk.injEq, List.cons.injEq, and_true] at e
 rw [e.1]
 exact h3
theorem Sl.front {α : Type} {E : Nat → Nat → α → Prop} {sz bytes n cap : Nat} {a : Option Addr} {l r : List α} (h : Sl E sz bytes (.slice a n cap) l) {k : Nat} (hk : k ≤ n) (hr : l.take k = r) : Sl E sz bytes (.slice a k cap) r := by
 obtain ⟨a', cap', e, h1, h2, h3⟩ := h
 simp only [Value.slice.injEq] at e
 obtain ⟨rfl, rfl, rfl⟩ := e
 subst hr
 refine ⟨a, cap, by rw [List.length_take, Nat.min_eq_left hk], by rw [List.length_take]; omega, ⟨Nat.le_trans (Nat.mul_le_mul_right _ (by rw [List.length_take]; omega)) h2.1, h2.2⟩, fun i hi => ?_⟩
 rw [List.length_take] at hi
 obtain ⟨b, o, e, hE⟩ := h3 i (by omega)
 exact ⟨b, o, e, by rw [List.getElem_take]; exact hE⟩
theorem Ints.front {w : World} {S : Nat → Prop} {n cap : Nat} {a : Option Addr} {l r : List Int} (h : Ints w S (.slice a n cap) l) {k : Nat} (hk : k ≤ n) (hr : l.take k = r) : Ints w S (.slice a k cap) r := Sl.front h hk hr
structure FarF (m n : Int) (r q : List Int × Int × Int) : Prop where
 low : 0 ≤ r.2.1 ∧ r.2.1 ≤ m
 high : q.2.1 ≤ m + n
 le : r.2.1 ≤ q.2.1
 len : r.1.length ≤ q.1.length
 pre : q.1.take r.1.length = r.1
 err : r.2.2 = 0 ∨ (r.2.2 ≠ 0 ∧ r.2.2 = q.2.2 ∧ r.2.1 = q.2.1)
structure SplitF (p : List GFunc) (m n : Int) (r q a : GState × Int × Int) : Prop where
 i0 : 0 ≤ r.2.1
 i1 : r.2.1 ≤ m
 j0 : 0 ≤ q.2.1
 j1 : q.2.1 ≤ n
 bad : r.2.2 ≠ 0 → a = r ∧ q.1 = r.1 ∧ q.2.1 = 0 ∧ ((n = 0 ∧ q.2.2 = 0) ∨ (0 < n ∧ q.2.2 = r.2.2))
 fine : r.2.2 = 0 → a = (q.1, r.2.1 + q.2.1, q.2.2) ∧ stateErr p q.1 = 0 ∧ (r.2.1 = m ∨ r.1.now = -1)
theorem Fibers.one {w : World} {S : Nat → Prop} {b o n cap : Nat} {l : List GFiber} (h : Fibers w S (.slice (some ⟨b, o, none⟩) n cap) l) {i : Nat} (hi : i < l.length) : StateV w S (.agg #[.slice (some ⟨b, o + i * 2, none⟩) 1 (cap - i), .int .i64 0, .slice none 0 0]) ⟨[l.getD i default], 0, []⟩ := by
 obtain ⟨a', cap', e, h1, h2, h3⟩ := h
 simp only [Value.slice.injEq] at e
 obtain ⟨rfl, rfl, rfl⟩ := e
 obtain ⟨b', o', e, hE⟩ := h3 i hi
 simp only [Option.some.injEq, Addr.mk.injEq, and_true] at e
 obtain ⟨rfl, rfl⟩ := e
 refine ⟨_, _, rfl, ⟨_, _, rfl, by simp only [List.length_singleton]; omega, ⟨by simp, by omega⟩, fun j hj => ⟨b, o + i * 2, rfl, ?_⟩⟩, I64.zero, Sl.nil _ _ _⟩
 have hj0 : j = 0 := by simpa using hj
 subst hj0
 rw [List.getElem_cons_zero, List.getD_eq_getElem?_getD, List.getElem?_eq_getElem hi]
 exact hE
theorem StateV.bd {w : World} {S : Nat → Prop} {a b : Option Addr} {n m c d : Nat} {k : Int} {s : GState} (h : StateV w S (.agg #[.slice a n c, .int .i64 k, .slice b m d]) s) :
  (n = s.fibers.length ∧ n ≤ c ∧ n * 32 ≤ 140737488355328 ∧ c ≤ 9223372036854775807) ∧ m = s.out.length ∧ m ≤ d ∧ m * 8 ≤ 140737488355328 ∧ d ≤ 9223372036854775807 := by
 obtain ⟨_, _, e, ⟨a1, c1, rfl, h1, h2, _⟩, _, ⟨a2, c2, rfl, h3, h4, _⟩⟩ := h
 simp only [Value.agg.injEq, Array.mk.injEq, List.cons.injEq, and_true, Value.slice.injEq] at e
 obtain ⟨⟨-, rfl, rfl⟩, -, -, rfl, rfl⟩ := e
 exact ⟨⟨rfl, h1, h2.1, h2.2⟩, rfl, h3, h4.1, h4.2⟩
end Go.Proofs.YtgahbngbpfilgaaGreat
end
section
namespace Go.Proofs.YtgahbngbpfilgaaGreat
set_option maxHeartbeats 1000000
open Go Go.RowKit
theorem few3 {w : World} {S : Nat → Prop} {v : Value} {f : List GFiber} {n : Int} {o : List Int} (h : StateV w S v ⟨f, n, o⟩) : ∃ a c b d, v = .agg #[.slice a f.length c, .int .i64 n, .slice b o.length d] := h.few
theorem Fibers.cells {w : World} {S : Nat → Prop} {a : Option Addr} {n c : Nat} {l : List GFiber} (h : Fibers w S (.slice a n c) l) {i : Nat} (hi : i < l.length) :
  ∃ g o, a = some ⟨g, o, none⟩ ∧ (∃ vf, w.cell? ⟨g, o + i * 2, none⟩ = some vf ∧ Frames w S vf (l.getD i default).frames) ∧ w.cell? ⟨g, o + i * 2 + 1, none⟩ = some (.int .i64 (l.getD i default).caller) := by
 obtain ⟨g, o, cap, e, _, _, h1, _, h2, _⟩ := h.get hi
 simp only [Value.slice.injEq] at e
 have e2 : l.getD i default = l[i] := by rw [List.getD_eq_getElem?_getD, List.getElem?_eq_getElem hi]; rfl
 rw [e2]
 exact ⟨g, o, e.1, h1, h2⟩
theorem Frames.last {w : World} {S : Nat → Prop} {v : Value} {gs : List GFrame} {y : GFrame} (h : Frames w S v (gs ++ [y])) {J N : Nat} (hJ : gs.length = J) (hN : J + 1 = N) :
  ∃ g o c, v = .slice (some ⟨g, o, none⟩) N c ∧ N ≤ c ∧ N * 64 ≤ 140737488355328 ∧ w.cell? ⟨g, o + J * 4, none⟩ = some (.int .i64 y.func) ∧ w.cell? ⟨g, o + J * 4 + 1, none⟩ = some (.int .i64 y.at_) ∧
   (∃ la lc, w.cell? ⟨g, o + J * 4 + 2, none⟩ = some (.slice la y.locals.length lc)) ∧ ∃ sa sc, w.cell? ⟨g, o + J * 4 + 3, none⟩ = some (.slice sa y.stack.length sc) ∧ Ints w S (.slice sa y.stack.length sc) y.stack := by
 subst hJ hN
 have hl : (gs ++ [y]).length = gs.length + 1 := by simp
 obtain ⟨g, o, c, rfl, h1, h2, ⟨_, f1, _⟩, ⟨_, f2, _⟩, ⟨vl, f3, ⟨la, lc, rfl, _⟩⟩, vs, f4, f5⟩ := h.get (i := gs.length) (by rw [hl]; omega)
 have e : (gs ++ [y])[gs.length]'(by rw [hl]; omega) = y := by simp
 rw [e] at f1 f2 f3 f5
 rw [hl] at h1 h2
 have f6 := f5
 obtain ⟨sa, sc, rfl, _⟩ := f5
 exact ⟨g, o, c, by rw [hl], h1, h2.1, f1, f2, ⟨la, lc, f3⟩, sa, sc, f4, f6⟩
theorem Ints.bd {w : World} {S : Nat → Prop} {a : Option Addr} {n c : Nat} {l : List Int} (h : Ints w S (.slice a n c) l) : n ≤ c ∧ n * 8 ≤ 140737488355328 := by
 obtain ⟨a', c', e, h1, h2, _⟩ := h
 simp only [Value.slice.injEq] at e
 obtain ⟨-, rfl, rfl⟩ := e
 exact ⟨h1, h2.1⟩
end Go.Proofs.YtgahbngbpfilgaaGreat
end
section
set_option maxHeartbeats 4000000
set_option maxRecDepth 100000
namespace Go.Proofs.YtgahbngbpfilgaaGreat
open Go Go.RowKit
structure Mini (s : GState) : Prop where
 fibers : s.fibers.length ≤ 5
 out : s.out.length ≤ 30
 frames : ∀ k, k < s.fibers.length → (s.fibers.getD k default).frames.length ≤ 6
 rows : ∀ k j, k < s.fibers.length → j < (s.fibers.getD k default).frames.length → ((s.fibers.getD k default).frames.getD j default).locals.length ≤ 8 ∧ ((s.fibers.getD k default).frames.getD j default).stack.length ≤ 8
def accO (s : GState) (k : Nat) : List UInt8 := by8 (s.now + 1) :: by8 s.fibers.length :: (s.fibers.take k).flatMap fiberL
def accI (A : List UInt8) (f : GFiber) (i : Nat) : List UInt8 := A ++ by8 (f.caller + 1) :: by8 f.frames.length :: (f.frames.take i).flatMap frameL
theorem accO_succ (s : GState) {k : Nat} (h : k < s.fibers.length) : accO s (k + 1) = accI (accO s k) (s.fibers.getD k default) (s.fibers.getD k default).frames.length := by
 unfold accO accI
 rw [List.take_add_one, List.flatMap_append, List.getElem?_eq_getElem h, List.take_length]
 simp [List.getD, List.getElem?_eq_getElem h, fiberL]
theorem accO_all (s : GState) : accO s s.fibers.length ++ manyL s.out = stateL s := by unfold accO stateL; rw [List.take_length]; rfl
theorem accI_succ (A : List UInt8) (f : GFiber) {i : Nat} (h : i < f.frames.length) : accI A f (i + 1) = accI A f i ++ [by8 (f.frames.getD i default).func, by8 (f.frames.getD i default).at_] ++ manyL (f.frames.getD i default).locals ++ manyL (f.frames.getD i default).stack := by
 unfold accI
 rw [List.take_add_one, List.flatMap_append, List.getElem?_eq_getElem h]
 simp [List.getD, List.getElem?_eq_getElem h, frameL]
theorem flat_le {α : Type} (g : α → List UInt8) (C : Nat) : ∀ (l : List α), (∀ x ∈ l, (g x).length ≤ C) → (l.flatMap g).length ≤ C * l.length
 | [], _ => by simp
 | x :: l, h => by
  have h1 := h x (by simp)
  have h2 := flat_le g C l (fun y hy => h y (by simp [hy]))
  rw [List.flatMap_cons, List.length_append, List.length_cons, Nat.mul_succ]
  omega
theorem frame_le {x : GFrame} (h : x.locals.length ≤ 8 ∧ x.stack.length ≤ 8) : (frameL x).length ≤ 132 := by
 unfold frameL
 rw [List.length_cons, List.length_cons, List.length_append, many_len, many_len]
 omega
theorem mem_getD {α : Type} [Inhabited α] {l : List α} {x : α} (h : x ∈ l) : ∃ i, i < l.length ∧ l.getD i default = x := by
 obtain ⟨i, hi, e⟩ := List.getElem_of_mem h
 exact ⟨i, hi, by simp [List.getD, List.getElem?_eq_getElem hi, e]⟩
theorem frames_le {s : GState} (h : Mini s) {k : Nat} (hk : k < s.fibers.length) (i : Nat) : (((s.fibers.getD k default).frames.take i).flatMap frameL).length ≤ 792 := by
 have h6 := h.frames k hk
 have h1 := flat_le frameL 132 ((s.fibers.getD k default).frames.take i) (fun x hx => by
  obtain ⟨j, hj, rfl⟩ := mem_getD (List.mem_of_mem_take hx)
  exact frame_le (h.rows k j hk hj))
 have h2 : ((s.fibers.getD k default).frames.take i).length ≤ (s.fibers.getD k default).frames.length := by rw [List.length_take]; omega
 omega
theorem accO_le {s : GState} (h : Mini s) (k : Nat) : (accO s k).length ≤ 4000 := by
 have h5 := h.fibers
 have h1 := flat_le fiberL 794 (s.fibers.take k) (fun f hf => by
  obtain ⟨j, hj, rfl⟩ := mem_getD (List.mem_of_mem_take hf)
  have := frames_le h hj (s.fibers.getD j default).frames.length
  rw [List.take_length] at this
  unfold fiberL
  rw [List.length_cons, List.length_cons]
  omega)
 have h2 : (s.fibers.take k).length ≤ s.fibers.length := by rw [List.length_take]; omega
 unfold accO
 rw [List.length_cons, List.length_cons]
 omega
theorem accI_le {s : GState} (h : Mini s) {k : Nat} (hk : k < s.fibers.length) (i : Nat) : (accI (accO s k) (s.fibers.getD k default) i).length ≤ 5000 := by
 have h1 := accO_le h k
 have h2 := frames_le h hk i
 unfold accI
 rw [List.length_append, List.length_cons, List.length_cons]
 omega
end Go.Proofs.YtgahbngbpfilgaaGreat
end
