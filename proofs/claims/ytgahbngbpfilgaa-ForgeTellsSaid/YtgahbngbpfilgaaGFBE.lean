/- Merged texts: contracts and plain facts, one part behind another; each part begins with what it says. -/
import Derived.Test.YtgahbngbpfilgaaGFAO
import Derived.Test.YtgahbngbpfilgaaGFAS
import Derived.Test.YtgahbngbpfilgaaGFAV
import Derived.Test.YtgahbngbpfilgaaGFAW
import Derived.Test.YtgahbngbpfilgaaGFBD
section
/- Contracts of run.All and of the document's RunAll. -/
set_option maxHeartbeats 4000000
set_option maxRecDepth 100000
namespace Go.Proofs.Ytgahbngbpfilgaa
open Go Go.RowKit

theorem runAll_any (p : List GFunc) (v : Value) (S : Nat → Prop) (fuel : Int) (w : World) (hp : Funcs w S v p) :
    Calls Try.prog 27 #[v, .int .i64 fuel] w fun e w' => (∃ x, e = .returned (.tuple #[x, .int .i64 (allG p fuel).2.1, .int .i64 (allG p fuel).2.2]) ∧ Ints w' (fun _ => True) x (allG p fuel).1) ∧ Ext w w' := by
  have HP := Lib.hid hp
  obtain ⟨ap, cp, rfl, _, _, _⟩ := hp
  have RA := alloc_keep
  by_cases hfu : 0 ≤ fuel ∧ fuel ≤ 500
  · have HW : Hid (decide (0 ≤ fuel ∧ fuel ≤ 500) = true) := decide_eq_true hfu
    obtain ⟨fn, hfn⟩ : ∃ n : Nat, fuel = n := ⟨fuel.toNat, by omega⟩
    subst hfn
    by_cases hz : progErr p = 0
    · have HG : Hid (allG p fn = ((runG p fn (beginG p)).1.out, (runG p fn (beginG p)).2.1, (runG p fn (beginG p)).2.2)) := by unfold Hid allG; rw [if_neg (fun h => h hfu), if_neg (fun h => h hz), Int.toNat_natCast]
      have HOK := Lib.hid (begin_ok hz)
      have HZ := Lib.hid hz
      clear hz
      go_enter Try.func27, Try.ntmps27
      go_wp2_with (first
        | (go_at_call 63; (with_reducible refine (fuelled_any _ _).mono ?_); rintro e w4 ⟨rfl, rfl⟩; rw [HW.out])
        | (go_at_call 25; (with_reducible refine (progCheck_any p _ _ _ HP.out).mono ?_); rintro e w5 ⟨rfl, hx5⟩; rw [HZ.out]; have HX5 := Lib.hid hx5; clear hx5)
        | (go_at_call 65; (with_reducible refine (first_any p _ _ _ (Funcs.stays (Ext.stays HX5.out) HP.out) HZ.out).mono ?_); rintro e w6 ⟨⟨x, rfl, hx⟩, hx6⟩; have HX6 := Lib.hid (HX5.out.trans hx6); have HXS := Lib.hid hx; clear hx hx6)
        | (go_at_call 64; (with_reducible refine (on_any p _ _ _ (beginG p) [0] _ fn _ (Funcs.stays (Ext.stays HX6.out) HP.out) HXS.out HOK.out (by omega)).mono ?_); rintro e w7 ⟨⟨y, rfl, hy⟩, hx7⟩; have HYS := Lib.hid hy.state; obtain ⟨ax, cx, bx, dx, rfl⟩ := hy.few; have HX7 := Lib.hid hx7; clear hy hx7))
      go_ret3
      rw [HG.out]
      obtain ⟨u, z, e, _, _, ho⟩ := HYS.out
      simp only [Value.agg.injEq, Array.mk.injEq, List.cons.injEq, and_true, true_and] at e
      obtain ⟨-, e⟩ := e
      rw [← e] at ho
      refine ⟨⟨_, rfl, Ints.stays (fun b o v _ hc => ⟨Ext.cell ((Ext.refl w7).alloc _) hc, trivial⟩) ho⟩, (HX6.out.trans HX7.out).alloc _⟩
    · have HG : Hid (allG p fn = ([], 0, progErr p)) := by unfold Hid allG; rw [if_neg (fun h => h hfu), if_pos hz]
      have TE : (progErr p != 0) = true := bne_iff_ne.2 hz
      obtain ⟨re, hre⟩ : ∃ re, progErr p = re := ⟨_, rfl⟩
      rw [hre] at TE HG
      have HRE := Lib.hid hre
      clear hz hre
      go_enter Try.func27, Try.ntmps27
      go_wp2_with (first
        | (go_at_call 63; (with_reducible refine (fuelled_any _ _).mono ?_); rintro e w4 ⟨rfl, rfl⟩; rw [HW.out])
        | (go_at_call 25; (with_reducible refine (progCheck_any p _ _ _ HP.out).mono ?_); rintro e w5 ⟨rfl, hx5⟩; rw [HRE.out]; have HX5 := Lib.hid hx5; clear hx5))
      go_ret3
      rw [HG.out]
      exact ⟨⟨_, rfl, Sl.nil _ _ _⟩, HX5.out⟩
  · have HW : Hid (decide (0 ≤ fuel ∧ fuel ≤ 500) = false) := decide_eq_false hfu
    have HG : Hid (allG p fuel = ([], 0, 3)) := by unfold Hid allG; rw [if_pos hfu]
    clear hfu
    go_enter Try.func27, Try.ntmps27
    go_wp2_with (first
      | (go_at_call 63; (with_reducible refine (fuelled_any _ _).mono ?_); rintro e w4 ⟨rfl, rfl⟩; rw [HW.out]))
    go_ret3
    rw [HG.out]
    exact ⟨⟨_, rfl, Sl.nil _ _ _⟩, Ext.refl _⟩
end Go.Proofs.Ytgahbngbpfilgaa
end
section
/- Programs and rows of numbers in new memory. -/
set_option maxHeartbeats 4000000
set_option maxRecDepth 100000
namespace Go.Proofs.Ytgahbngbpfilgaa
open Go Go.RowKit

end Go.Proofs.Ytgahbngbpfilgaa
end
section
/- Contract of runBegun. -/
set_option maxHeartbeats 4000000
set_option maxRecDepth 100000
namespace Go.Proofs.Ytgahbngbpfilgaa
open Go Go.RowKit

theorem all_val (p : List GFunc) (v : Value) (S : Nat → Prop) (fuel : Int) (w : World) (hp : Funcs w S v p) {l : List Int} {k e : Int} {n : Nat} (h : allG p fuel = (l, k, e)) (hn : l.length = n) :
    Calls Try.prog 27 #[v, .int .i64 fuel] w fun r w' => (∃ a c, r = .returned (.tuple #[.slice a n c, .int .i64 k, .int .i64 e]) ∧ Ints w' (fun _ => True) (.slice a n c) l) ∧ Ext w w' := by
  refine (runAll_any p v S fuel w hp).mono fun r w' ⟨⟨x, hr, hx⟩, hb⟩ => ⟨?_, hb⟩
  rw [h] at hr hx
  subst hn
  have hx2 := hx
  obtain ⟨a, c, rfl, _, _, _⟩ := hx
  exact ⟨a, c, hr, hx2⟩
end Go.Proofs.Ytgahbngbpfilgaa
end
section
/- Contract of forgeBegun. Printed by wip/gen_forgeb.py. No condition. -/
set_option maxHeartbeats 4000000
set_option maxRecDepth 100000
namespace Go.Proofs.Ytgahbngbpfilgaa
open Go Go.RowKit

theorem i64_9 : I64 9 := by unfold I64; omega
def P9 : List GFunc := [mainF [3], nodesT.func 1]
theorem tree_nodes : treeOf nodesL = nodesT := by rw [← nodesT_flat]; exact treeOf_flat nodesT nodesT_fits
theorem fn_nodes : forgeFn nodesL 1 = nodesT.func 1 := by unfold forgeFn; rw [xe_1, if_pos rfl, tree_nodes]
theorem err_3 : forgeErr nodesL [3] = 0 := by decide
theorem err_neg : forgeErr nodesL [-1] = 3 := by decide
theorem pr_3 : forgePr nodesL [3] = P9 := by unfold forgePr; rw [err_3, if_pos rfl, tree_nodes]; rfl
theorem pr_neg : forgePr nodesL [-1] = [] := by unfold forgePr; rw [err_neg, if_neg (by decide)]
theorem allP9 : allG P9 99 = ([9], 12, 0) := of_decide_eq_true (by kernel_rfl)

theorem forgeFunc_val (v : Value) (w : World) (hp : Nodes w (fun _ => True) v nodesL) :
    Calls Try.prog 18 #[v, .int .i64 1] w fun e w' => (∃ b o c, e = .returned (.tuple #[.agg #[.int .i64 1, .int .i64 1, .slice (some ⟨b, o, none⟩) 10 c], .int .i64 0]) ∧ 10 ≤ c ∧ w'.cell? ⟨b, o + 6, none⟩ = some (.int .i64 10) ∧ w'.cell? ⟨b, o + 7, none⟩ = some (.int .i64 8)) ∧ Ext w w' := by
  refine (forgeFunc_any nodesL 1 v _ w hp i64_1).mono fun e w' ⟨⟨x, he, hx⟩, hb⟩ => ⟨?_, hb⟩
  rw [xe_1] at he
  rw [fn_nodes] at hx
  obtain ⟨s, rfl, _, _, hops⟩ := hx
  obtain ⟨b, o, c, rfl, hc, _, ⟨_, g0, _⟩, _, g1, _⟩ := hops.get (i := 3) (by decide)
  exact ⟨b, o, c, he, hc, g0, g1⟩
theorem forgeProg_val (v vv : Value) (w : World) (vals : List Int) (hp : Nodes w (fun _ => True) v nodesL) (hv : Ints w (fun _ => True) vv vals) {r : Int} {P : List GFunc} {n : Nat} (hr : forgeErr nodesL vals = r) (hP : forgePr nodesL vals = P) (hn : P.length = n) :
    Calls Try.prog 19 #[v, vv] w fun e w' => (∃ a c, e = .returned (.tuple #[.slice a n c, .int .i64 r]) ∧ Funcs w' (fun _ => True) (.slice a n c) P) ∧ Ext w w' := by
  refine (forgeProg_any nodesL vals v vv _ w hp hv).mono fun e w' ⟨⟨x, he, hx⟩, hb⟩ => ⟨?_, hb⟩
  rw [hr] at he
  rw [hP] at hx
  subst hn
  have hx2 : Funcs w' (fun _ => True) x P := Funcs.stays (Stays.widen (fun _ _ => trivial)) hx
  obtain ⟨a, c, rfl, _, _, _⟩ := hx
  exact ⟨a, c, he, hx2⟩

theorem forgeBegun_any (w : World) : Calls Try.prog 22 #[] w fun e w' => e = .returned (.bool true) ∧ Ext w w' := by
  go_enter Try.func22, Try.ntmps22
  go_upto_region 2 with (first
    | (go_at_call 59; refine (nodes_any _).mono ?_; rintro e w1 ⟨⟨g, rfl, hf⟩, hb1⟩)
    | (go_at_call 18; (with_reducible refine (forgeFunc_val _ _ hf).mono ?_); rintro e w2 ⟨⟨fb, fo, fc, rfl, hfc, g6, g7⟩, hb2⟩))
  have hq2 : Ext w2 (w2.alloc (.cells #[.int .i64 1, .int .i64 1, .slice (some ⟨fb, fo, none⟩) 10 fc] 43)) := (Ext.refl _).alloc _
  have c2 := (Cx.new w2 [.int .i64 1, .int .i64 1, .slice (some ⟨fb, fo, none⟩) 10 fc] 43 (j := 2) rfl).1
  obtain ⟨F, hF⟩ : ∃ F, w2.heap.size = F := ⟨_, rfl⟩
  rw [hF] at c2 ⊢
  generalize w2.alloc (.cells #[.int .i64 1, .int .i64 1, .slice (some ⟨fb, fo, none⟩) 10 fc] 43) = w3 at *
  replace g6 := Ext.cell hq2 g6
  replace g7 := Ext.cell hq2 g7
  have E3 := Lib.hid (hb1.trans (hb2.trans hq2))
  clear hf hb1 hb2 hq2 hF
  go_upto_region 3 with (first
    | (go_at_call 59; refine (nodes_any _).mono ?_; rintro e w4 ⟨⟨g, rfl, hf⟩, hb4⟩)
    | (go_at_call 19; (with_reducible refine (forgeProg_val _ _ _ [3] (Nodes.stays (Ext.stays ((Ext.refl _).alloc _)) hf) (ints_lone _ 3 (by unfold I64; omega) _) err_3 pr_3 (n := 2) rfl).mono ?_); rintro e w5 ⟨⟨pa, pc, rfl, hpf⟩, hb5⟩))
  replace g6 := Ext.cell (hb4.trans (Ext.trans ((Ext.refl _).alloc _) hb5)) g6
  replace g7 := Ext.cell (hb4.trans (Ext.trans ((Ext.refl _).alloc _) hb5)) g7
  replace c2 := Ext.cell (hb4.trans (Ext.trans ((Ext.refl _).alloc _) hb5)) c2
  have E5 := Lib.hid (E3.out.trans (hb4.trans (Ext.trans ((Ext.refl _).alloc _) hb5)))
  clear hf hb4 hb5 E3
  go_upto_region 4 with (first
    | (go_at_call 27; (with_reducible refine (all_val P9 _ _ 99 _ hpf allP9 (n := 1) rfl).mono ?_); rintro e w6 ⟨⟨a1, c1, rfl, hl1⟩, hb6⟩))
  replace g6 := Ext.cell hb6 g6
  replace g7 := Ext.cell hb6 g7
  replace c2 := Ext.cell hb6 c2
  have E6 := Lib.hid (E5.out.trans hb6)
  clear hb6 E5
  go_upto_region 5 with (first
    | (go_at_call 59; refine (nodes_any _).mono ?_; rintro e w8 ⟨⟨g, rfl, hf⟩, hb8⟩)
    | (go_at_call 19; (with_reducible refine (forgeProg_val _ _ _ [-1] (Nodes.stays (Ext.stays ((Ext.refl _).alloc _)) hf) (ints_lone _ (-1) (by unfold I64; omega) _) err_neg pr_neg (n := 0) rfl).mono ?_); rintro e w9 ⟨⟨qa, qc, rfl, -⟩, hb9⟩))
  have e69 : Ext w6 w9 := hb8.trans (Ext.trans ((Ext.refl _).alloc _) hb9)
  replace g6 := Ext.cell e69 g6
  replace g7 := Ext.cell e69 g7
  replace c2 := Ext.cell e69 c2
  have HL := Lib.hid (Ints.stays (Ext.stays e69) hl1)
  have E9 := Lib.hid (E6.out.trans e69)
  clear hf hb8 hb9 E6 e69 hl1 hpf
  have S2 : Hid (∀ W, Ext w9 W → W.cell? ⟨F, 2, none⟩ = some (.slice (some ⟨fb, fo, none⟩) 10 fc) ∧ W.cell? ⟨fb, fo + 6, none⟩ = some (.int .i64 10) ∧ W.cell? ⟨fb, fo + 7, none⟩ = some (.int .i64 8)) := fun W h => ⟨Ext.cell h c2, Ext.cell h g6, Ext.cell h g7⟩
  refine wp_region_rw (fun W => W.cell? ⟨F, 2, none⟩ = some (.slice (some ⟨fb, fo, none⟩) 10 fc) ∧ W.cell? ⟨fb, fo + 6, none⟩ = some (.int .i64 10) ∧ W.cell? ⟨fb, fo + 7, none⟩ = some (.int .i64 8)) 48 [0, 1, 2, 3, 4, 5, 6, 7, 8, 9, 10, 11, 12, 13, 14, 15, 16, 17, 18, 19, 20, 21, 22, 23, 24, 25, 26, 27, 28, 29, 30] 18 (by kernel_rfl) (by kernel_rfl) (fun _ _ _ _ _ h => h) (S2.out _ (by ((repeat (first | assumption | exact Ext.refl _ | (exact And.left (by assumption)) | refine Ext.alloc ?_ _ | refine Ext.drew ?_ | refine Ext.drewN ?_ _ | refine Ext.setCell ?_ (by simp) _ | refine Ext.setCell ?_ (by simp; omega) _ | refine Ext.trans ?_ (by assumption))); done))) ?_
  (try simp only [pickOps, List.filterMap_cons, List.filterMap_nil, List.getElem?_cons_zero, List.getElem?_cons_succ])
  repeat (
    refine readsQ_do (by rfl) ?_
    apply Exists.intro
    refine ⟨fun w' hw' => ?_, ?_⟩
    focus
      (try dsimp only at hw')
      go_split_ands
      go_simp
      (try with_reducible rfl)
    (try dsimp only [Act.put])
    (try simp only [List.setIfInBounds_toArray, List.set_cons_succ, List.set_cons_zero]))
  refine readsQ_nil ?_
  refine wpAnyW_one 31 (by kernel_rfl) rfl ?_
  go_wp2_with (first
    | (go_at_call 60; refine (o_any _ _ _).mono ?_; rintro e w10 ⟨rfl, hbo⟩))
  refine nextA_go (S2.out _ (by ((repeat (first | assumption | exact Ext.refl _ | (exact And.left (by assumption)) | refine Ext.alloc ?_ _ | refine Ext.drew ?_ | refine Ext.drewN ?_ _ | refine Ext.setCell ?_ (by simp) _ | refine Ext.setCell ?_ (by simp; omega) _ | refine Ext.trans ?_ (by assumption))); done))) ?_
  refine wpAnyW_one 32 (by kernel_rfl) rfl ?_
  go_wp2_with fail
  refine nextA_go (S2.out _ (by ((repeat (first | assumption | exact Ext.refl _ | (exact And.left (by assumption)) | refine Ext.alloc ?_ _ | refine Ext.drew ?_ | refine Ext.drewN ?_ _ | refine Ext.setCell ?_ (by simp) _ | refine Ext.setCell ?_ (by simp; omega) _ | refine Ext.trans ?_ (by assumption))); done))) ?_
  refine wpAnyW_one 33 (by kernel_rfl) rfl ?_
  go_wp2_with fail
  refine nextA_go (S2.out _ (by ((repeat (first | assumption | exact Ext.refl _ | (exact And.left (by assumption)) | refine Ext.alloc ?_ _ | refine Ext.drew ?_ | refine Ext.drewN ?_ _ | refine Ext.setCell ?_ (by simp) _ | refine Ext.setCell ?_ (by simp; omega) _ | refine Ext.trans ?_ (by assumption))); done))) ?_
  refine wpAnyW_one 34 (by kernel_rfl) rfl ?_
  go_wp2_with fail
  refine nextA_go (S2.out _ (by ((repeat (first | assumption | exact Ext.refl _ | (exact And.left (by assumption)) | refine Ext.alloc ?_ _ | refine Ext.drew ?_ | refine Ext.drewN ?_ _ | refine Ext.setCell ?_ (by simp) _ | refine Ext.setCell ?_ (by simp; omega) _ | refine Ext.trans ?_ (by assumption))); done))) ?_
  refine wpAnyW_one 35 (by kernel_rfl) rfl ?_
  go_wp2_with fail
  refine nextA_go (S2.out _ (by ((repeat (first | assumption | exact Ext.refl _ | (exact And.left (by assumption)) | refine Ext.alloc ?_ _ | refine Ext.drew ?_ | refine Ext.drewN ?_ _ | refine Ext.setCell ?_ (by simp) _ | refine Ext.setCell ?_ (by simp; omega) _ | refine Ext.trans ?_ (by assumption))); done))) ?_
  refine wpAnyW_one 36 (by kernel_rfl) rfl ?_
  go_wp2_with fail
  refine nextA_go (S2.out _ (by ((repeat (first | assumption | exact Ext.refl _ | (exact And.left (by assumption)) | refine Ext.alloc ?_ _ | refine Ext.drew ?_ | refine Ext.drewN ?_ _ | refine Ext.setCell ?_ (by simp) _ | refine Ext.setCell ?_ (by simp; omega) _ | refine Ext.trans ?_ (by assumption))); done))) ?_
  refine wpAnyW_one 37 (by kernel_rfl) rfl ?_
  go_wp2_with fail
  refine nextA_go (S2.out _ (by ((repeat (first | assumption | exact Ext.refl _ | (exact And.left (by assumption)) | refine Ext.alloc ?_ _ | refine Ext.drew ?_ | refine Ext.drewN ?_ _ | refine Ext.setCell ?_ (by simp) _ | refine Ext.setCell ?_ (by simp; omega) _ | refine Ext.trans ?_ (by assumption))); done))) ?_
  refine wpAnyW_one 38 (by kernel_rfl) rfl ?_
  go_wp2_with fail
  refine nextA_go (S2.out _ (by ((repeat (first | assumption | exact Ext.refl _ | (exact And.left (by assumption)) | refine Ext.alloc ?_ _ | refine Ext.drew ?_ | refine Ext.drewN ?_ _ | refine Ext.setCell ?_ (by simp) _ | refine Ext.setCell ?_ (by simp; omega) _ | refine Ext.trans ?_ (by assumption))); done))) ?_
  refine wpAnyW_one 39 (by kernel_rfl) rfl ?_
  go_wp2_with fail
  refine nextA_go (S2.out _ (by ((repeat (first | assumption | exact Ext.refl _ | (exact And.left (by assumption)) | refine Ext.alloc ?_ _ | refine Ext.drew ?_ | refine Ext.drewN ?_ _ | refine Ext.setCell ?_ (by simp) _ | refine Ext.setCell ?_ (by simp; omega) _ | refine Ext.trans ?_ (by assumption))); done))) ?_
  refine wpAnyW_two 40 41 (by kernel_rfl) rfl rfl ?_ ?_
  · go_wp2_with fail
    refine nextA_go (S2.out _ (by ((repeat (first | assumption | exact Ext.refl _ | (exact And.left (by assumption)) | refine Ext.alloc ?_ _ | refine Ext.drew ?_ | refine Ext.drewN ?_ _ | refine Ext.setCell ?_ (by simp) _ | refine Ext.setCell ?_ (by simp; omega) _ | refine Ext.trans ?_ (by assumption))); done))) ?_
    refine wpAnyW_one 41 (by kernel_rfl) rfl ?_
    go_wp2_with fail
    refine nextA_go (S2.out _ (by ((repeat (first | assumption | exact Ext.refl _ | (exact And.left (by assumption)) | refine Ext.alloc ?_ _ | refine Ext.drew ?_ | refine Ext.drewN ?_ _ | refine Ext.setCell ?_ (by simp) _ | refine Ext.setCell ?_ (by simp; omega) _ | refine Ext.trans ?_ (by assumption))); done))) ?_
    refine wpAnyW_one 42 (by kernel_rfl) rfl ?_
    go_wp2_with (first
      | (go_at_call 28; refine (sameInts_any [9] [9] _ _ _ _ _ (Ints.stays (Ext.stays (show Ext w9 _ by ((repeat (first | assumption | exact Ext.refl _ | (exact And.left (by assumption)) | refine Ext.alloc ?_ _ | refine Ext.drew ?_ | refine Ext.drewN ?_ _ | refine Ext.setCell ?_ (by simp) _ | refine Ext.setCell ?_ (by simp; omega) _ | refine Ext.trans ?_ (by assumption))); done))) HL.out) (Ints.stays (Ext.stays (show Ext (w10.alloc (.cells #[.int .i64 9] 3)) _ by ((repeat (first | assumption | exact Ext.refl _ | (exact And.left (by assumption)) | refine Ext.alloc ?_ _ | refine Ext.drew ?_ | refine Ext.drewN ?_ _ | refine Ext.setCell ?_ (by simp) _ | refine Ext.setCell ?_ (by simp; omega) _ | refine Ext.trans ?_ (by assumption))); done))) (ints_lone _ 9 i64_9 _))).mono ?_; rintro e w11 ⟨rfl, hb11⟩))
    refine nextA_go (S2.out _ (by ((repeat (first | assumption | exact Ext.refl _ | (exact And.left (by assumption)) | refine Ext.alloc ?_ _ | refine Ext.drew ?_ | refine Ext.drewN ?_ _ | refine Ext.setCell ?_ (by simp) _ | refine Ext.setCell ?_ (by simp; omega) _ | refine Ext.trans ?_ (by assumption))); done))) ?_
    refine wpAnyW_one 43 (by kernel_rfl) rfl ?_
    go_wp2_with fail
    refine nextA_go (S2.out _ (by ((repeat (first | assumption | exact Ext.refl _ | (exact And.left (by assumption)) | refine Ext.alloc ?_ _ | refine Ext.drew ?_ | refine Ext.drewN ?_ _ | refine Ext.setCell ?_ (by simp) _ | refine Ext.setCell ?_ (by simp; omega) _ | refine Ext.trans ?_ (by assumption))); done))) ?_
    refine wpAnyW_one 44 (by kernel_rfl) rfl ?_
    go_wp2_with fail
    refine nextA_go (S2.out _ (by ((repeat (first | assumption | exact Ext.refl _ | (exact And.left (by assumption)) | refine Ext.alloc ?_ _ | refine Ext.drew ?_ | refine Ext.drewN ?_ _ | refine Ext.setCell ?_ (by simp) _ | refine Ext.setCell ?_ (by simp; omega) _ | refine Ext.trans ?_ (by assumption))); done))) ?_
    refine wpAnyW_one 45 (by kernel_rfl) rfl ?_
    go_wp2_with fail
    refine nextA_go (S2.out _ (by ((repeat (first | assumption | exact Ext.refl _ | (exact And.left (by assumption)) | refine Ext.alloc ?_ _ | refine Ext.drew ?_ | refine Ext.drewN ?_ _ | refine Ext.setCell ?_ (by simp) _ | refine Ext.setCell ?_ (by simp; omega) _ | refine Ext.trans ?_ (by assumption))); done))) ?_
    refine wpAnyW_one 46 (by kernel_rfl) rfl ?_
    go_wp2_with fail
    refine nextA_go (S2.out _ (by ((repeat (first | assumption | exact Ext.refl _ | (exact And.left (by assumption)) | refine Ext.alloc ?_ _ | refine Ext.drew ?_ | refine Ext.drewN ?_ _ | refine Ext.setCell ?_ (by simp) _ | refine Ext.setCell ?_ (by simp; omega) _ | refine Ext.trans ?_ (by assumption))); done))) ?_
    refine wpAnyW_one 47 (by kernel_rfl) rfl ?_
    go_wp2_with fail
    refine nextA_go (S2.out _ (by ((repeat (first | assumption | exact Ext.refl _ | (exact And.left (by assumption)) | refine Ext.alloc ?_ _ | refine Ext.drew ?_ | refine Ext.drewN ?_ _ | refine Ext.setCell ?_ (by simp) _ | refine Ext.setCell ?_ (by simp; omega) _ | refine Ext.trans ?_ (by assumption))); done))) ?_
    refine wpAnyW_one 48 (by kernel_rfl) rfl ?_
    go_wp2_with fail
    refine nextA_end rfl (by kernel_rfl) ?_
    go_wp2_with fail
    go_ret
    exact ⟨rfl, E9.out.trans (by ((repeat (first | assumption | exact Ext.refl _ | (exact And.left (by assumption)) | refine Ext.alloc ?_ _ | refine Ext.drew ?_ | refine Ext.drewN ?_ _ | refine Ext.setCell ?_ (by simp) _ | refine Ext.setCell ?_ (by simp; omega) _ | refine Ext.trans ?_ (by assumption))); done))⟩
  · go_wp2_with fail
    refine nextA_go (S2.out _ (by ((repeat (first | assumption | exact Ext.refl _ | (exact And.left (by assumption)) | refine Ext.alloc ?_ _ | refine Ext.drew ?_ | refine Ext.drewN ?_ _ | refine Ext.setCell ?_ (by simp) _ | refine Ext.setCell ?_ (by simp; omega) _ | refine Ext.trans ?_ (by assumption))); done))) ?_
    refine wpAnyW_one 40 (by kernel_rfl) rfl ?_
    go_wp2_with fail
    refine nextA_go (S2.out _ (by ((repeat (first | assumption | exact Ext.refl _ | (exact And.left (by assumption)) | refine Ext.alloc ?_ _ | refine Ext.drew ?_ | refine Ext.drewN ?_ _ | refine Ext.setCell ?_ (by simp) _ | refine Ext.setCell ?_ (by simp; omega) _ | refine Ext.trans ?_ (by assumption))); done))) ?_
    refine wpAnyW_one 42 (by kernel_rfl) rfl ?_
    go_wp2_with (first
      | (go_at_call 28; refine (sameInts_any [9] [9] _ _ _ _ _ (Ints.stays (Ext.stays (show Ext w9 _ by ((repeat (first | assumption | exact Ext.refl _ | (exact And.left (by assumption)) | refine Ext.alloc ?_ _ | refine Ext.drew ?_ | refine Ext.drewN ?_ _ | refine Ext.setCell ?_ (by simp) _ | refine Ext.setCell ?_ (by simp; omega) _ | refine Ext.trans ?_ (by assumption))); done))) HL.out) (Ints.stays (Ext.stays (show Ext (w10.alloc (.cells #[.int .i64 9] 3)) _ by ((repeat (first | assumption | exact Ext.refl _ | (exact And.left (by assumption)) | refine Ext.alloc ?_ _ | refine Ext.drew ?_ | refine Ext.drewN ?_ _ | refine Ext.setCell ?_ (by simp) _ | refine Ext.setCell ?_ (by simp; omega) _ | refine Ext.trans ?_ (by assumption))); done))) (ints_lone _ 9 i64_9 _))).mono ?_; rintro e w11 ⟨rfl, hb11⟩))
    refine nextA_go (S2.out _ (by ((repeat (first | assumption | exact Ext.refl _ | (exact And.left (by assumption)) | refine Ext.alloc ?_ _ | refine Ext.drew ?_ | refine Ext.drewN ?_ _ | refine Ext.setCell ?_ (by simp) _ | refine Ext.setCell ?_ (by simp; omega) _ | refine Ext.trans ?_ (by assumption))); done))) ?_
    refine wpAnyW_one 43 (by kernel_rfl) rfl ?_
    go_wp2_with fail
    refine nextA_go (S2.out _ (by ((repeat (first | assumption | exact Ext.refl _ | (exact And.left (by assumption)) | refine Ext.alloc ?_ _ | refine Ext.drew ?_ | refine Ext.drewN ?_ _ | refine Ext.setCell ?_ (by simp) _ | refine Ext.setCell ?_ (by simp; omega) _ | refine Ext.trans ?_ (by assumption))); done))) ?_
    refine wpAnyW_one 44 (by kernel_rfl) rfl ?_
    go_wp2_with fail
    refine nextA_go (S2.out _ (by ((repeat (first | assumption | exact Ext.refl _ | (exact And.left (by assumption)) | refine Ext.alloc ?_ _ | refine Ext.drew ?_ | refine Ext.drewN ?_ _ | refine Ext.setCell ?_ (by simp) _ | refine Ext.setCell ?_ (by simp; omega) _ | refine Ext.trans ?_ (by assumption))); done))) ?_
    refine wpAnyW_one 45 (by kernel_rfl) rfl ?_
    go_wp2_with fail
    refine nextA_go (S2.out _ (by ((repeat (first | assumption | exact Ext.refl _ | (exact And.left (by assumption)) | refine Ext.alloc ?_ _ | refine Ext.drew ?_ | refine Ext.drewN ?_ _ | refine Ext.setCell ?_ (by simp) _ | refine Ext.setCell ?_ (by simp; omega) _ | refine Ext.trans ?_ (by assumption))); done))) ?_
    refine wpAnyW_one 46 (by kernel_rfl) rfl ?_
    go_wp2_with fail
    refine nextA_go (S2.out _ (by ((repeat (first | assumption | exact Ext.refl _ | (exact And.left (by assumption)) | refine Ext.alloc ?_ _ | refine Ext.drew ?_ | refine Ext.drewN ?_ _ | refine Ext.setCell ?_ (by simp) _ | refine Ext.setCell ?_ (by simp; omega) _ | refine Ext.trans ?_ (by assumption))); done))) ?_
    refine wpAnyW_one 47 (by kernel_rfl) rfl ?_
    go_wp2_with fail
    refine nextA_go (S2.out _ (by ((repeat (first | assumption | exact Ext.refl _ | (exact And.left (by assumption)) | refine Ext.alloc ?_ _ | refine Ext.drew ?_ | refine Ext.drewN ?_ _ | refine Ext.setCell ?_ (by simp) _ | refine Ext.setCell ?_ (by simp; omega) _ | refine Ext.trans ?_ (by assumption))); done))) ?_
    refine wpAnyW_one 48 (by kernel_rfl) rfl ?_
    go_wp2_with fail
    refine nextA_end rfl (by kernel_rfl) ?_
    go_wp2_with fail
    go_ret
    exact ⟨rfl, E9.out.trans (by ((repeat (first | assumption | exact Ext.refl _ | (exact And.left (by assumption)) | refine Ext.alloc ?_ _ | refine Ext.drew ?_ | refine Ext.drewN ?_ _ | refine Ext.setCell ?_ (by simp) _ | refine Ext.setCell ?_ (by simp; omega) _ | refine Ext.trans ?_ (by assumption))); done))⟩
end Go.Proofs.Ytgahbngbpfilgaa
end
