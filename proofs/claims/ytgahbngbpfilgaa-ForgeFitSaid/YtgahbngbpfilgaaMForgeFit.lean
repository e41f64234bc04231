/- ForgeFit: a function that is forged may stand behind any right program: it is right, and what was is run as it was. No condition. Printed by wip/gen_forgefit.py. -/
import Derived.Test.YtgahbngbpfilgaaGFAA
import Derived.Test.YtgahbngbpfilgaaGFAC
import Derived.Test.YtgahbngbpfilgaaGFBF
import Derived.Test.YtgahbngbpfilgaaGFBG
import Derived.Test.YtgahbngbpfilgaaGFBH
set_option maxHeartbeats 8000000
set_option maxRecDepth 100000
namespace Go.Proofs.Ytgahbngbpfilgaa.forgeFit
open Go Go.RowKit Go.ChangeShapes Go.WideShapes Go.ChangeAt

theorem walk (w : World) (p : List GFunc) (v : Value) (hp : Funcs w (fun _ => True) v p) (es : List GNode) (ve : Value) (he : Nodes w (fun _ => True) ve es) (locals : Int) (hI : I64 locals) (fuel : Int) (hfu : I64 fuel) :
    Calls Try.prog 6 #[v, ve, .int .i64 locals, .int .i64 fuel] w fun e w' => e = .returned (.bool true) ∧ Ext w w' := by
  have HP := Lib.hid hp
  have HE := Lib.hid he
  obtain ⟨vs, hvl, hsrc, hvo, hvi⟩ := funcs_vs hp
  obtain ⟨pa, pcap, rfl, hpc, hpb, _⟩ := hp
  obtain ⟨na, ncap, rfl, _, _, _⟩ := he
  have RA := alloc_keep
  obtain ⟨i0, hi0, hz0, hz1, hz2⟩ := info_parts infoU
  obtain ⟨r, hr⟩ : ∃ r, exprErr es locals = r := ⟨_, rfl⟩
  obtain ⟨F, hF⟩ : ∃ F, forgeFn es locals = F := ⟨_, rfl⟩
  obtain ⟨fn, hfn⟩ : ∃ n, F.code.length = n := ⟨_, rfl⟩
  obtain ⟨s, hs⟩ : ∃ s, progErr p = s := ⟨_, rfl⟩
  have HR := Lib.hid hr
  have HFF := Lib.hid hF
  have HFN := Lib.hid hfn
  have HS := Lib.hid hs
  have HI := Lib.hid hI
  by_cases hok : r = 0 ∧ s = 0 ∧ p.length < 5
  · obtain ⟨rfl, rfl, hl5⟩ := hok
    have hbeh := forge_behind hs hl5 hr
    rw [hF] at hbeh
    obtain ⟨hq0, hall⟩ := hbeh
    have T5 : decide ((5 : Int) ≤ (p.length : Int)) = false := decide_eq_false (by omega)
    have T5' : decide (5 ≤ p.length) = false := decide_eq_false (by omega)
    obtain ⟨m, hm⟩ : ∃ m, chooseOf fuel 501 = m := ⟨_, rfl⟩
    have HM := Lib.hid hm
    obtain ⟨⟨lo, nk, ne⟩, hal⟩ : ∃ z, allG p m = z := ⟨_, rfl⟩
    have HAL := Lib.hid hal
    have HAQ : Hid (allG (p ++ [F]) m = (lo, nk, ne)) := by unfold Hid; rw [hall, hal]
    have HQ0 := Lib.hid hq0
    have HFU := Lib.hid hfu
    have HSRC := Lib.hid hsrc
    have HVO := Lib.hid hvo
    have HVI := Lib.hid hvi
    have HVL := Lib.hid hvl
    obtain ⟨pn, hpn⟩ : ∃ n, p.length + 1 = n := ⟨_, rfl⟩
    have HNN := Lib.hid hpn
    have HL5 := Lib.hid (show p.length < 5 ∧ pn ≤ 5 by omega)
    obtain ⟨lk, hlk⟩ : ∃ n, lo.length = n := ⟨_, rfl⟩
    have HLK := Lib.hid hlk
    clear hr hF hfn hs hq0 hall hm hal hfu hsrc hvo hvi hvl hpn hl5 hpc hpb hlk hI
    go_enter Try.func6, Try.ntmps6
    go_upto_region 2 with (first
      | (go_at_call 18; (with_reducible refine (forgeFunc_at es _ locals _ HE.out HI.out HR.out HFF.out HFN.out).mono ?_); rintro e w2 ⟨⟨A, Lo, fa, fc, rfl, hf2⟩, hb2⟩))
    have hq2 : Ext w2 (w2.alloc (.cells #[.int .i64 A, .int .i64 Lo, .slice fa fn fc] 43)) := (Ext.refl _).alloc _
    have f0 := (Cx.new w2 [.int .i64 A, .int .i64 Lo, .slice fa fn fc] 43 (j := 0) rfl).1
    have f1 := (Cx.new w2 [.int .i64 A, .int .i64 Lo, .slice fa fn fc] 43 (j := 1) rfl).1
    have f2 := (Cx.new w2 [.int .i64 A, .int .i64 Lo, .slice fa fn fc] 43 (j := 2) rfl).1
    obtain ⟨B, hB⟩ : ∃ B, w2.heap.size = B := ⟨_, rfl⟩
    rw [hB] at f0 f1 f2 ⊢
    generalize w2.alloc (.cells #[.int .i64 A, .int .i64 Lo, .slice fa fn fc] 43) = w3 at *
    have E3 := Lib.hid (hb2.trans hq2)
    have HFV := Lib.hid (FuncV.stays (Ext.stays hq2) hf2)
    clear hb2 hq2 hf2 hB
    go_upto_region 4 with (first
      | (go_at_call 25; (with_reducible refine (progCheck_any p _ _ _ (Funcs.stays (Ext.stays E3.out) HP.out)).mono ?_); rintro e w4 ⟨rfl, hb4⟩; rw [HS.out]; replace f0 := Ext.cell hb4 f0; replace f1 := Ext.cell hb4 f1; replace f2 := Ext.cell hb4 f2))
    rename World => W0
    have E0 := Lib.hid (E3.out.trans hb4)
    have HFV0 := Lib.hid (FuncV.stays (Ext.stays hb4) HFV.out)
    have HSRC0 := Lib.hid (HSRC.out.upE E0.out)
    have S2 : Hid (∀ W, Ext W0 W → W.cell? ⟨B, 0, none⟩ = some (.int .i64 A) ∧ W.cell? ⟨B, 1, none⟩ = some (.int .i64 Lo) ∧ W.cell? ⟨B, 2, none⟩ = some (.slice fa fn fc)) := fun W h => ⟨Ext.cell h f0, Ext.cell h f1, Ext.cell h f2⟩
    clear f0 f1 f2 hb4 HFV
    go_cut [11] (fun q11 wr => ∃ a7 c7, q11 = .slice a7 pn c7 ∧ RowAt wr W0.heap.size 3 (.slice a7 pn c7) pn (rowF p vs ++ [.int .i64 A, .int .i64 Lo, .slice fa fn fc]) ∧ Ext W0 wr)
    case first =>
      refine wp_region_rw (fun W => W.cell? ⟨B, 0, none⟩ = some (.int .i64 A) ∧ W.cell? ⟨B, 1, none⟩ = some (.int .i64 Lo) ∧ W.cell? ⟨B, 2, none⟩ = some (.slice fa fn fc)) 6 [1, 3] 5 (by kernel_rfl) (by kernel_rfl) (fun _ _ _ _ _ h => h) (S2.out _ (by ((repeat (first | assumption | exact Ext.refl _ | (exact And.left (by assumption)) | refine Ext.alloc ?_ _ | refine Ext.drew ?_ | refine Ext.drewN ?_ _ | refine Ext.setCell ?_ (by simp) _ | refine Ext.setCell ?_ (by simp; omega) _ | refine Ext.trans ?_ (by assumption))); done))) ?_
      (try simp only [pickOps, List.filterMap_cons, List.filterMap_nil, List.getElem?_cons_zero, List.getElem?_cons_succ])
      repeat (
        refine readsQ_do (by rfl) ?_
        apply Exists.intro
        refine ⟨fun w' hw' => ?_, ?_⟩
        focus
          (try dsimp only at hw')
          go_split_ands
          go_simp
          (try with_reducible rfl)
        (try dsimp only [Act.put])
        (try simp only [List.setIfInBounds_toArray, List.set_cons_succ, List.set_cons_zero]))
      refine readsQ_nil ?_
      refine wpAnyW_two 0 4 (by kernel_rfl) rfl rfl ?_ ?_
      · go_wp2_with fail
        refine nextA_go (S2.out _ (by ((repeat (first | assumption | exact Ext.refl _ | (exact And.left (by assumption)) | refine Ext.alloc ?_ _ | refine Ext.drew ?_ | refine Ext.drewN ?_ _ | refine Ext.setCell ?_ (by simp) _ | refine Ext.setCell ?_ (by simp; omega) _ | refine Ext.trans ?_ (by assumption))); done))) ?_
        refine wpAnyW_two 2 4 (by kernel_rfl) rfl rfl ?_ ?_
        · change wpList _ _ _ [Oper.mk _ _ _ _ _ _] _ _
          go_wp2_with (first
            | (at_builtin; refine wpList_append_row rfl _ _ 22 rfl W0.heap.size 43 i0 (.agg #[.int .i64 0, .int .i64 0, .slice none 0 0]) 3 40 Try.underlying22 hi0 hz0 hz1 hz2 rfl (by decide) _ _ _ rfl (by exact RowAt.nil _ _ _ _) p.length (rowF p vs) (by exact (HSRC0.out.upE (by ((repeat (first | assumption | exact Ext.refl _ | (exact And.left (by assumption)) | refine Ext.alloc ?_ _ | refine Ext.drew ?_ | refine Ext.drewN ?_ _ | refine Ext.setCell ?_ (by simp) _ | refine Ext.setCell ?_ (by simp; omega) _ | refine Ext.trans ?_ (by assumption))); done)))) (by have := HL5.out; unfold maxLen; omega) (by have := HL5.out; omega) (by exact Ext.size (show Ext W0 _ from (by ((repeat (first | assumption | exact Ext.refl _ | (exact And.left (by assumption)) | refine Ext.alloc ?_ _ | refine Ext.drew ?_ | refine Ext.drewN ?_ _ | refine Ext.setCell ?_ (by simp) _ | refine Ext.setCell ?_ (by simp; omega) _ | refine Ext.trans ?_ (by assumption))); done)))) ?_; intro v5 W5w rv5; rw [Nat.zero_add, List.nil_append] at rv5; have h5 := Lib.hid (NewRow.on3 (W0 := W0) (by ((repeat (first | assumption | exact Ext.refl _ | (exact And.left (by assumption)) | refine Ext.alloc ?_ _ | refine Ext.drew ?_ | refine Ext.drewN ?_ _ | refine Ext.setCell ?_ (by simp) _ | refine Ext.setCell ?_ (by simp; omega) _ | refine Ext.trans ?_ (by assumption))); done)) (RowAt.nil _ _ _ _) rv5); obtain ⟨a5, c5, rfl, _, _⟩ := rv5.1.shape; clear rv5))
          refine nextA_go (S2.out _ h5.out.2) ?_
          refine wpAnyW_one 4 (by kernel_rfl) rfl ?_
          go_wp2_with fail
          refine nextA_go (S2.out _ (h5.out.2.alloc _)) ?_
          refine wpAnyW_one 5 (by kernel_rfl) rfl ?_
          change wpList _ _ _ [Oper.mk _ _ _ _ _ _] _ _
          go_wp2_with (first
            | (at_builtin; refine wpList_append_row rfl _ _ 22 rfl W0.heap.size 43 i0 (.agg #[.int .i64 0, .int .i64 0, .slice none 0 0]) 3 40 Try.underlying22 hi0 hz0 hz1 hz2 rfl (by decide) _ _ _ rfl (by exact h5.out.1.ext ((Ext.refl _).alloc _) (by decide)) 1 [.int .i64 A, .int .i64 Lo, .slice fa fn fc] (by exact src_fun _ A Lo (.slice fa fn fc) rfl _) (by have := HL5.out; unfold maxLen; omega) (by have := HL5.out; omega) (by exact Ext.size (show Ext W0 _ from (h5.out.2.alloc _))) ?_; intro v7 W7w rv7; rw [HNN.out] at rv7; have h7 := Lib.hid (NewRow.on3 (W0 := W0) (h5.out.2.alloc _) (h5.out.1.ext ((Ext.refl _).alloc _) (by decide)) rv7); obtain ⟨a7, c7, rfl, _, _⟩ := rv7.1.shape; clear rv7))
          refine nextA_go (S2.out _ h7.out.2) ?_
          refine wpAnyW_one 6 (by kernel_rfl) rfl ?_
          go_wp2_with fail
          refine nextA_end rfl (by kernel_rfl) ?_
          go_wp2_with fail
          go_meet
          exact ⟨a7, c7, rfl, h7.out.1, h7.out.2⟩
        · go_wp2_with fail
          refine nextA_go (S2.out _ (by ((repeat (first | assumption | exact Ext.refl _ | (exact And.left (by assumption)) | refine Ext.alloc ?_ _ | refine Ext.drew ?_ | refine Ext.drewN ?_ _ | refine Ext.setCell ?_ (by simp) _ | refine Ext.setCell ?_ (by simp; omega) _ | refine Ext.trans ?_ (by assumption))); done))) ?_
          refine wpAnyW_one 2 (by kernel_rfl) rfl ?_
          change wpList _ _ _ [Oper.mk _ _ _ _ _ _] _ _
          go_wp2_with (first
            | (at_builtin; refine wpList_append_row rfl _ _ 22 rfl W0.heap.size 43 i0 (.agg #[.int .i64 0, .int .i64 0, .slice none 0 0]) 3 40 Try.underlying22 hi0 hz0 hz1 hz2 rfl (by decide) _ _ _ rfl (by exact RowAt.nil _ _ _ _) p.length (rowF p vs) (by exact (HSRC0.out.upE (by ((repeat (first | assumption | exact Ext.refl _ | (exact And.left (by assumption)) | refine Ext.alloc ?_ _ | refine Ext.drew ?_ | refine Ext.drewN ?_ _ | refine Ext.setCell ?_ (by simp) _ | refine Ext.setCell ?_ (by simp; omega) _ | refine Ext.trans ?_ (by assumption))); done)))) (by have := HL5.out; unfold maxLen; omega) (by have := HL5.out; omega) (by exact Ext.size (show Ext W0 _ from (by ((repeat (first | assumption | exact Ext.refl _ | (exact And.left (by assumption)) | refine Ext.alloc ?_ _ | refine Ext.drew ?_ | refine Ext.drewN ?_ _ | refine Ext.setCell ?_ (by simp) _ | refine Ext.setCell ?_ (by simp; omega) _ | refine Ext.trans ?_ (by assumption))); done)))) ?_; intro v5 W5w rv5; rw [Nat.zero_add, List.nil_append] at rv5; have h5 := Lib.hid (NewRow.on3 (W0 := W0) (by ((repeat (first | assumption | exact Ext.refl _ | (exact And.left (by assumption)) | refine Ext.alloc ?_ _ | refine Ext.drew ?_ | refine Ext.drewN ?_ _ | refine Ext.setCell ?_ (by simp) _ | refine Ext.setCell ?_ (by simp; omega) _ | refine Ext.trans ?_ (by assumption))); done)) (RowAt.nil _ _ _ _) rv5); have q5 := rv5.keep3 (src_fun _ A Lo (.slice fa fn fc) rfl _) (by simp) (by show rowBlock (.slice (some ⟨_, 0, none⟩) 0 0) ≠ _; simp [rowBlock]); rw [show (W0.alloc (.cells #[] 43)).heap.size = W0.heap.size + 1 from Array.size_push _] at q5; have k5 := Lib.hid q5; clear q5; obtain ⟨a5, c5, rfl, _, _⟩ := rv5.1.shape; clear rv5))
          refine nextA_go (S2.out _ h5.out.2) ?_
          refine wpAnyW_one 5 (by kernel_rfl) rfl ?_
          change wpList _ _ _ [Oper.mk _ _ _ _ _ _] _ _
          go_wp2_with (first
            | (at_builtin; refine wpList_append_row rfl _ _ 22 rfl W0.heap.size 43 i0 (.agg #[.int .i64 0, .int .i64 0, .slice none 0 0]) 3 40 Try.underlying22 hi0 hz0 hz1 hz2 rfl (by decide) _ _ _ rfl (by exact h5.out.1) 1 [.int .i64 A, .int .i64 Lo, .slice fa fn fc] (by exact k5.out.1) (by have := HL5.out; unfold maxLen; omega) (by have := HL5.out; omega) (by exact Ext.size (show Ext W0 _ from h5.out.2)) ?_; intro v7 W7w rv7; rw [HNN.out] at rv7; have h7 := Lib.hid (NewRow.on3 (W0 := W0) h5.out.2 (h5.out.1) rv7); obtain ⟨a7, c7, rfl, _, _⟩ := rv7.1.shape; clear rv7))
          refine nextA_go (S2.out _ h7.out.2) ?_
          refine wpAnyW_one 6 (by kernel_rfl) rfl ?_
          go_wp2_with fail
          refine nextA_end rfl (by kernel_rfl) ?_
          go_wp2_with fail
          go_meet
          exact ⟨a7, c7, rfl, h7.out.1, h7.out.2⟩
      · go_wp2_with fail
        refine nextA_go (S2.out _ (by ((repeat (first | assumption | exact Ext.refl _ | (exact And.left (by assumption)) | refine Ext.alloc ?_ _ | refine Ext.drew ?_ | refine Ext.drewN ?_ _ | refine Ext.setCell ?_ (by simp) _ | refine Ext.setCell ?_ (by simp; omega) _ | refine Ext.trans ?_ (by assumption))); done))) ?_
        refine wpAnyW_one 0 (by kernel_rfl) rfl ?_
        go_wp2_with fail
        refine nextA_go (S2.out _ (by ((repeat (first | assumption | exact Ext.refl _ | (exact And.left (by assumption)) | refine Ext.alloc ?_ _ | refine Ext.drew ?_ | refine Ext.drewN ?_ _ | refine Ext.setCell ?_ (by simp) _ | refine Ext.setCell ?_ (by simp; omega) _ | refine Ext.trans ?_ (by assumption))); done))) ?_
        refine wpAnyW_one 2 (by kernel_rfl) rfl ?_
        change wpList _ _ _ [Oper.mk _ _ _ _ _ _] _ _
        go_wp2_with (first
          | (at_builtin; refine wpList_append_row rfl _ _ 22 rfl W0.heap.size 43 i0 (.agg #[.int .i64 0, .int .i64 0, .slice none 0 0]) 3 40 Try.underlying22 hi0 hz0 hz1 hz2 rfl (by decide) _ _ _ rfl (by exact RowAt.nil _ _ _ _) p.length (rowF p vs) (by exact (HSRC0.out.upE (by ((repeat (first | assumption | exact Ext.refl _ | (exact And.left (by assumption)) | refine Ext.alloc ?_ _ | refine Ext.drew ?_ | refine Ext.drewN ?_ _ | refine Ext.setCell ?_ (by simp) _ | refine Ext.setCell ?_ (by simp; omega) _ | refine Ext.trans ?_ (by assumption))); done)))) (by have := HL5.out; unfold maxLen; omega) (by have := HL5.out; omega) (by exact Ext.size (show Ext W0 _ from (by ((repeat (first | assumption | exact Ext.refl _ | (exact And.left (by assumption)) | refine Ext.alloc ?_ _ | refine Ext.drew ?_ | refine Ext.drewN ?_ _ | refine Ext.setCell ?_ (by simp) _ | refine Ext.setCell ?_ (by simp; omega) _ | refine Ext.trans ?_ (by assumption))); done)))) ?_; intro v5 W5w rv5; rw [Nat.zero_add, List.nil_append] at rv5; have h5 := Lib.hid (NewRow.on3 (W0 := W0) (by ((repeat (first | assumption | exact Ext.refl _ | (exact And.left (by assumption)) | refine Ext.alloc ?_ _ | refine Ext.drew ?_ | refine Ext.drewN ?_ _ | refine Ext.setCell ?_ (by simp) _ | refine Ext.setCell ?_ (by simp; omega) _ | refine Ext.trans ?_ (by assumption))); done)) (RowAt.nil _ _ _ _) rv5); have k5 := Lib.hid (rv5.keep3 ((src_fun W0 A Lo (.slice fa fn fc) rfl _).upE (((Ext.refl _).alloc _).drew)) (by simp; omega) (by show rowBlock (.slice (some ⟨_, 0, none⟩) 0 0) ≠ _; simp [rowBlock])); obtain ⟨a5, c5, rfl, _, _⟩ := rv5.1.shape; clear rv5))
        refine nextA_go (S2.out _ h5.out.2) ?_
        refine wpAnyW_one 5 (by kernel_rfl) rfl ?_
        change wpList _ _ _ [Oper.mk _ _ _ _ _ _] _ _
        go_wp2_with (first
          | (at_builtin; refine wpList_append_row rfl _ _ 22 rfl W0.heap.size 43 i0 (.agg #[.int .i64 0, .int .i64 0, .slice none 0 0]) 3 40 Try.underlying22 hi0 hz0 hz1 hz2 rfl (by decide) _ _ _ rfl (by exact h5.out.1) 1 [.int .i64 A, .int .i64 Lo, .slice fa fn fc] (by exact k5.out.1) (by have := HL5.out; unfold maxLen; omega) (by have := HL5.out; omega) (by exact Ext.size (show Ext W0 _ from h5.out.2)) ?_; intro v7 W7w rv7; rw [HNN.out] at rv7; have h7 := Lib.hid (NewRow.on3 (W0 := W0) h5.out.2 (h5.out.1) rv7); obtain ⟨a7, c7, rfl, _, _⟩ := rv7.1.shape; clear rv7))
        refine nextA_go (S2.out _ h7.out.2) ?_
        refine wpAnyW_one 6 (by kernel_rfl) rfl ?_
        go_wp2_with fail
        refine nextA_end rfl (by kernel_rfl) ?_
        go_wp2_with fail
        go_meet
        exact ⟨a7, c7, rfl, h7.out.1, h7.out.2⟩
    case rest =>
      obtain ⟨a7, c7, rfl, hrow, hb7⟩ := hcut
      obtain ⟨sx, hsx, iA, iL, hops⟩ := (FuncV.stays (Ext.stays hb7) HFV0.out : FuncV _ (fun _ => True) (.agg #[.int .i64 A, .int .i64 Lo, .slice fa fn fc]) F)
      simp only [Value.agg.injEq, Array.mk.injEq, List.cons.injEq, and_true, Value.int.injEq, true_and] at hsx
      obtain ⟨rfl, rfl, rfl⟩ := hsx
      rename World => w7
      have hQ : Funcs w7 (fun _ => True) (.slice a7 pn c7) (p ++ [F]) := funcs_snoc HVL.out HNN.out (by have := HL5.out; omega) hrow HVI.out ⟨iA, iL⟩ (fun k hk hv => Ops.stays (Ext.stays (E0.out.trans hb7)) (HVO.out k hk hv)) hops
      have HQ := Lib.hid hQ
      have E7 := Lib.hid (E0.out.trans hb7)
      have hml := chooseOf_lt fuel 501 (by omega)
      clear hrow hb7 hops hQ
      go_upto_region 6 with (first
        | (go_at_call 26; (with_reducible refine (choose_any fuel _ _ HFU.out (by omega) (by omega)).mono ?_); rintro e w8 ⟨rfl, rfl⟩; rw [HM.out]))
      clear hml
      go_upto_region 8 with (first
        | (go_at_call 27; (with_reducible refine (all_val (p ++ [F]) _ _ m _ (Funcs.stays (Ext.stays hb8) HQ.out) HAQ.out HLK.out).mono ?_); rintro e w9 ⟨⟨a9, c9, rfl, hl9⟩, hb9⟩)
        | (go_at_call 27; (with_reducible refine (all_val p _ _ m _ (Funcs.stays (Ext.stays E7.out) HP.out) HAL.out HLK.out).mono ?_); rintro e w8 ⟨⟨a8, c8, rfl, hl8⟩, hb8⟩))
      have HL8 := Lib.hid (Ints.stays (Ext.stays hb9) hl8)
      have HL9 := Lib.hid hl9
      have HQ9 := Lib.hid (Funcs.stays (Ext.stays (hb8.trans hb9)) HQ.out)
      have E9 := Lib.hid (E7.out.trans (hb8.trans hb9))
      clear hl8 hl9 hb8 hb9
      go_wp2_with (first
        | (go_at_call 22; (with_reducible refine (forgeBegun_any _).mono ?_); rintro e w10 ⟨rfl, hb10⟩)
        | (go_at_call 25; (with_reducible refine (progCheck_any (p ++ [F]) _ _ _ (Funcs.stays (Ext.stays hb10) HQ9.out)).mono ?_); rintro e w11 ⟨rfl, hb11⟩; rw [HQ0.out])
        | (go_at_call 28; (with_reducible refine (sameInts_any lo lo _ _ _ _ _ (Ints.stays (Ext.stays (hb10.trans hb11)) HL8.out) (Ints.stays (Ext.stays (hb10.trans hb11)) HL9.out)).mono ?_); rintro e w12 ⟨rfl, hb12⟩; rw [show decide (lo = lo) = true from decide_eq_true rfl]))
      go_ret
      exact ⟨rfl, E9.out.trans (hb10.trans (hb11.trans hb12))⟩
  · by_cases hx : r = 0
    · subst hx
      by_cases hs0 : s = 0
      · subst hs0
        have hl5 : 5 ≤ p.length := by
          by_cases h : p.length < 5
          · exact absurd ⟨rfl, rfl, h⟩ hok
          · omega
        have T5 : decide ((5 : Int) ≤ (p.length : Int)) = true := decide_eq_true (by omega)
        have T5' : decide (5 ≤ p.length) = true := decide_eq_true hl5
        clear hok hr hF hfn hs hl5
        go_enter Try.func6, Try.ntmps6
        go_wp2_with (first
          | (go_at_call 18; (with_reducible refine (forgeFunc_at es _ locals _ HE.out HI.out HR.out HFF.out HFN.out).mono ?_); rintro e w2 ⟨⟨A, Lo, fa, fc, rfl, hf2⟩, hb2⟩)
          | (go_at_call 25; (with_reducible refine (progCheck_any p _ _ _ (Funcs.stays (Ext.stays (Ext.trans hb2 ((Ext.refl _).alloc _))) HP.out)).mono ?_); rintro e w4 ⟨rfl, hb4⟩; rw [HS.out])
          | (go_at_call 22; (with_reducible refine (forgeBegun_any _).mono ?_); rintro e w5 ⟨rfl, hb5⟩))
        go_ret
        exact ⟨rfl, hb2.trans (Ext.trans ((Ext.refl _).alloc _) (hb4.trans hb5))⟩
      · have TS : (s != 0) = true := bne_iff_ne.2 hs0
        clear hok hr hF hfn hs hs0
        go_enter Try.func6, Try.ntmps6
        go_wp2_with (first
          | (go_at_call 18; (with_reducible refine (forgeFunc_at es _ locals _ HE.out HI.out HR.out HFF.out HFN.out).mono ?_); rintro e w2 ⟨⟨A, Lo, fa, fc, rfl, hf2⟩, hb2⟩)
          | (go_at_call 25; (with_reducible refine (progCheck_any p _ _ _ (Funcs.stays (Ext.stays (Ext.trans hb2 ((Ext.refl _).alloc _))) HP.out)).mono ?_); rintro e w4 ⟨rfl, hb4⟩; rw [HS.out])
          | (go_at_call 22; (with_reducible refine (forgeBegun_any _).mono ?_); rintro e w5 ⟨rfl, hb5⟩))
        go_ret
        exact ⟨rfl, hb2.trans (Ext.trans ((Ext.refl _).alloc _) (hb4.trans hb5))⟩
    · have TR : (r != 0) = true := bne_iff_ne.2 hx
      clear hok hr hF hfn hs hx
      go_enter Try.func6, Try.ntmps6
      go_wp2_with (first
        | (go_at_call 18; (with_reducible refine (forgeFunc_at es _ locals _ HE.out HI.out HR.out HFF.out HFN.out).mono ?_); rintro e w2 ⟨⟨A, Lo, fa, fc, rfl, hf2⟩, hb2⟩)
        | (go_at_call 22; (with_reducible refine (forgeBegun_any _).mono ?_); rintro e w5 ⟨rfl, hb5⟩))
      go_ret
      exact ⟨rfl, hb2.trans (Ext.trans ((Ext.refl _).alloc _) hb5)⟩

theorem contract (H : Type) (enc : TypeId × Value → H) (W : World) (base : Nat) (args : Array Value) (ds gs : List (DataW H)) (before : List MemPlace)
    (hval : ∀ (j : Nat) t v, Try.f6.params[j]? = some t → args[j]? = some v → Value.okWide Try.prog W .any base t v)
    (hW : DataW.Whole enc Try.prog Try.f6.params.toList Rows.forgeFitSpec.vars false W args.toList ds gs before)
    (hsz : (DataW.weightsEach Try.prog (Try.f6.params.toList ++ Rows.forgeFitSpec.plain.varTypes Try.prog) (ds ++ gs)).all (· ≤ reachBytes) = true) :
    Calls Try.prog 6 args W fun e W' => ∃ v, e = .returned v ∧ Rows.forgeFitSpec.post enc Try.prog Try.f6 false true false false W args v W' := by
  have hW' := hW
  obtain ⟨p, q, hA, hV, rfl, hfz, hnd⟩ := hW
  rw [Try.params6] at hA hval
  obtain ⟨v0, vs0, d0, ds0, q0, t0, hargs, rfl, rfl, h0, r0⟩ := trodAll_cons hA
  obtain ⟨v1, vs1, d1, ds1, q1, t1, rfl, rfl, rfl, h1, r1⟩ := trodAll_cons r0
  obtain ⟨v2, vs2, d2, ds2, q2, t2, rfl, rfl, rfl, h2, r2⟩ := trodAll_cons r1
  obtain ⟨v3, vs3, d3, ds3, q3, t3, rfl, rfl, rfl, h3, r3⟩ := trodAll_cons r2
  obtain ⟨rfl, rfl, rfl⟩ := trodAll_nil r3
  obtain rfl : args = #[v0, v1, v2, v3] := by cases args; simp_all
  obtain ⟨rfl, rfl⟩ := trodVars_none hV
  obtain ⟨a0, l0, c0, rfl⟩ := okWide_slice Try.underlying22 (hval 0 22 v0 rfl rfl)
  obtain ⟨fuel0, h0⟩ := h0
  obtain ⟨x0, h0⟩ := funcs_of_trod h0 (fun n hn => by
    have := List.all_eq_true.1 hsz n (DataW.weights_mem_each (j := 0) rfl rfl n hn)
    simpa using this)
  obtain ⟨a1, l1, c1, rfl⟩ := okWide_slice Try.underlying40 (hval 1 40 v1 rfl rfl)
  obtain ⟨fuel1, h1⟩ := h1
  obtain ⟨x1, h1⟩ := nodes_of_trod h1 (fun n hn => by
    have := List.all_eq_true.1 hsz n (DataW.weights_mem_each (j := 1) rfl rfl n hn)
    simpa using this)
  obtain ⟨x2, rfl, rfl, rfl, wf2⟩ := open_int Try.underlying3 (hval 2 3 v2 rfl rfl) h2
  obtain ⟨x3, rfl, rfl, rfl, wf3⟩ := open_int Try.underlying3 (hval 3 3 v3 rfl rfl) h3
  refine (walk W x0 _ h0 x1 _ h1 x2 (i64_of_wf wf2) x3 (i64_of_wf wf3)).mono fun e W' ⟨he, hE⟩ => ⟨_, he, law_post laidOut ?_ rfl Try.underlying4 rfl hW' ?_ hE⟩
  · rw [Try.params6]
    intro t ht
    simp at ht
    (try rcases ht with rfl | rfl | rfl) <;> exact ⟨by kernel_rfl, of_decide_eq_true (by kernel_rfl)⟩
  · intro ds hds
    match ds, hds with
    | [d0, d1, d2, d3], _ => exact ⟨rfl, rfl, rfl⟩

theorem lifted (os : Os) (started : os.Started) (H : Type) (enc : TypeId × Value → H) :
    ReturnsInHanded {} Try.checked os 6 .any (Rows.forgeFitSpec.pre6 enc Try.prog Try.f6 Rows.forgeFitRow.domain false) (Rows.forgeFitSpec.post enc Try.prog Try.f6 false true false false) := by
  refine returnsInHanded_of_change_sized (C := Try.checked) own started (by kernel_rfl) Try.func6
    (ChangeSpec.witness6 (enc := enc) (C := Try.checked) false ⟨#[], #[.slice none 0 0, .slice none 0 0, .int .i64 0, .int .i64 0], []⟩ 8 (by kernel_rfl) (by kernel_rfl) (by kernel_rfl) (by kernel_rfl)) ?_
  intro W base args ds gs before hval hW _ hsz _
  exact contract H enc W base args ds gs before hval hW hsz

theorem proved : Rows.ForgeFitSaid :=
  OpenClaim.holds_of_wide 6 Try.f6 rfl rfl rfl rfl rfl rfl rfl ⟨rfl, rfl, rfl, rfl, rfl⟩ rfl rfl rfl rfl rfl (by as_aux_lemma => kernel_rfl) Try.func6 (by as_aux_lemma => kernel_rfl)
    (of_decide_eq_true (by as_aux_lemma => kernel_rfl)) (by unfold Func.isWrapper; rw [if_neg (of_decide_eq_false (by as_aux_lemma => kernel_rfl))]; exact ⟨rfl, rfl⟩)
    (fun os started H enc _ => lifted os started H enc)
end Go.Proofs.Ytgahbngbpfilgaa.forgeFit

