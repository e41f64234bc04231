/- SaveOn: what was saved goes on as it would have. No condition. -/
import Derived.Test.YtgahbngbpfilgaaGreatGEAA
import Derived.Test.YtgahbngbpfilgaaGreatGEAB
import Derived.Test.YtgahbngbpfilgaaGreatGEAC
import Derived.Test.YtgahbngbpfilgaaGreatGEBG
namespace Go.Proofs.YtgahbngbpfilgaaGreat.saveOn
set_option maxHeartbeats 4000000
set_option maxRecDepth 100000
open Go Go.RowKit Go.ChangeShapes Go.WideShapes Go.ChangeAt
theorem walk (w : World) (p : List GFunc) (v : Value) (hp : Funcs w (fun _ => True) v p) (s : GState) (vs : Value) (hs : StateV w (fun _ => True) vs s) (c : Int) (hc : I64 c) :
  Calls Tryz.prog 4 #[v, vs, .int .i64 c] w fun e w' => e = .returned (.bool true) ∧ Ext w w' := by
 have HP := Lib.hid hp
 have HC := Lib.hid hc
 obtain ⟨ap, capp, rfl, _, _, _⟩ := hp
 obtain ⟨sf, sn, so⟩ := s
 have HS := Lib.hid hs
 obtain ⟨sa, sc, sb, sd, rfl⟩ := few3 hs
 have RA := alloc_keep
 have b0 := (Cx.new w [.slice sa sf.length sc, .int .i64 sn, .slice sb so.length sd] 26 (j := 0) rfl).1
 have b1 := (Cx.new w [.slice sa sf.length sc, .int .i64 sn, .slice sb so.length sd] 26 (j := 1) rfl).1
 have b2 := (Cx.new w [.slice sa sf.length sc, .int .i64 sn, .slice sb so.length sd] 26 (j := 2) rfl).1
 have E0 : Hid (Ext w (w.alloc (.cells #[.slice sa sf.length sc, .int .i64 sn, .slice sb so.length sd] 26))) := (Ext.refl w).alloc _
 obtain ⟨r, hr⟩ : ∃ r, stateErr p ⟨sf, sn, so⟩ = r := ⟨_, rfl⟩
 obtain ⟨t, ht⟩ : ∃ t, writeS p ⟨sf, sn, so⟩ = t := ⟨_, rfl⟩
 obtain ⟨m, hm⟩ : ∃ m, chooseOf c 501 = m := ⟨_, rfl⟩
 have hml := chooseOf_lt c 501 (by omega)
 rw [hm] at hml
 have HM := Lib.hid hm
 obtain ⟨⟨R, rn, rg⟩, hrr⟩ : ∃ z, runOfG p ⟨sf, sn, so⟩ m = z := ⟨_, rfl⟩
 obtain ⟨N, hN⟩ : ∃ N, R.fibers.length = N := ⟨_, rfl⟩
 obtain ⟨M, hM⟩ : ∃ M, R.out.length = M := ⟨_, rfl⟩
 obtain ⟨K, hK⟩ : ∃ K, R.now = K := ⟨_, rfl⟩
 have HRR := Lib.hid (show runOfG p ⟨sf, sn, so⟩ m = (R, rn, rg) ∧ R.fibers.length = N ∧ R.out.length = M ∧ R.now = K from ⟨hrr, hN, hM, hK⟩)
 have HR := Lib.hid hr
 have HT := Lib.hid ht
 have HI := Lib.hid (stateV_i64 hs)
 clear hs hN hM hK hrr hm hml
 obtain ⟨W0, hW0⟩ : ∃ W0, W0 = w.alloc (.cells #[.slice sa sf.length sc, .int .i64 sn, .slice sb so.length sd] 26) := ⟨_, rfl⟩
 rw [← hW0] at b0 b1 b2 E0
 have HS0 := Lib.hid (StateV.stays (Ext.stays E0.out) HS.out)
 have HP0 := Lib.hid (Funcs.stays (Ext.stays E0.out) HP.out)
 clear hr ht
 go_enter Tryz.func4, Tryz.ntmps4
 go_upto_region 1 with fail
 rw [← hW0]
 clear hW0
 generalize w.heap.size = sx at *
 go_upto_region 2 with (first
  | (go_at_call 17; (with_reducible refine (write_val p _ _ _ ⟨sf, sn, so⟩ _ _ HP0.out HS0.out HT.out HR.out).mono ?_); rintro e w1 ⟨rfl, hb1⟩))
 have E1 := Lib.hid (E0.out.trans hb1)
 replace b0 := Ext.cell hb1 b0
 replace b1 := Ext.cell hb1 b1
 replace b2 := Ext.cell hb1 b2
 clear hb1 E0 HS0 HP0
 rename World => u1
 by_cases hz : r = 0
 ·subst hz
  have HTL : Hid (t = stateL ⟨sf, sn, so⟩) := by unfold Hid; rw [← HT.out]; unfold writeS; rw [if_pos HR.out]
  have hlen : t.length ≤ 8192 := by rw [HTL.out]; exact stateL_le (mini_of HR.out)
  have HRT : Hid (readS p t = (0, ⟨sf, sn, so⟩)) := by
   have h := readS_back HR.out HI.out (by rw [← HTL.out]; exact hlen)
   rw [← HTL.out] at h
   exact h
  have TL : decide ((8192 : Int) < (t.length : Int)) = false := decide_eq_false (by omega)
  have TL' : decide (8192 < t.length) = false := decide_eq_false (by omega)
  clear hlen
  go_upto_region 5 with (first
   | (go_at_call 19; (with_reducible refine (read_val p _ _ t _ (Funcs.stays (Ext.stays E1.out) HP.out) HRT.out (n := sf.length) (m := so.length) (k := sn) rfl rfl rfl).mono ?_); rintro e w2 ⟨⟨xa, xc, xb, xd, rfl, hxv⟩, hb2⟩))
  have e2 : Ext w2 (w2.alloc (.cells #[.slice xa sf.length xc, .int .i64 sn, .slice xb so.length xd] 26)) := (Ext.refl _).alloc _
  have x0 := (Cx.new w2 [.slice xa sf.length xc, .int .i64 sn, .slice xb so.length xd] 26 (j := 0) rfl).1
  have x1 := (Cx.new w2 [.slice xa sf.length xc, .int .i64 sn, .slice xb so.length xd] 26 (j := 1) rfl).1
  have x2 := (Cx.new w2 [.slice xa sf.length xc, .int .i64 sn, .slice xb so.length xd] 26 (j := 2) rfl).1
  have HXV := Lib.hid (StateV.stays (Ext.stays e2) (StateV.stays (T := fun _ => True) (Stays.widen (fun _ _ => trivial)) hxv))
  have e12 := hb2.trans e2
  replace b0 := Ext.cell e12 b0
  replace b1 := Ext.cell e12 b1
  replace b2 := Ext.cell e12 b2
  have E2 := Lib.hid (E1.out.trans e12)
  clear hb2 e2 e12 hxv E1
  generalize w2.heap.size = xx at *
  generalize w2.alloc (.cells #[.slice xa sf.length xc, .int .i64 sn, .slice xb so.length xd] 26) = u2 at *
  rename World => u2
  go_cut [11, 12, 13] (fun qa qb qc wr => ∃ i, qa = .pointer (some ⟨i, 0, none⟩) ∧ qb = .int .i64 rn ∧ qc = .int .i64 rg ∧ Ext u2 wr ∧ BoxT wr i N M K R)
  case first =>
   have S2 : ∀ W, Ext u2 W → ((fun W => W.cell? ⟨sx, 0, none⟩ = some (.slice sa sf.length sc) ∧ W.cell? ⟨sx, 1, none⟩ = some (.int .i64 sn) ∧ W.cell? ⟨sx, 2, none⟩ = some (.slice sb so.length sd)) W) := fun W h => ⟨Ext.cell h b0, Ext.cell h b1, Ext.cell h b2⟩
   refine wp_region_rw (fun W => W.cell? ⟨sx, 0, none⟩ = some (.slice sa sf.length sc) ∧ W.cell? ⟨sx, 1, none⟩ = some (.int .i64 sn) ∧ W.cell? ⟨sx, 2, none⟩ = some (.slice sb so.length sd)) 12 [0, 1, 2] 10 (by kernel_rfl) (by kernel_rfl) (fun _ _ _ _ _ h => h) (S2 _ (by ((repeat (first | assumption | exact Ext.refl _ | (exact And.left (by assumption)) | refine Ext.alloc ?_ _ | refine Ext.drew ?_ | refine Ext.drewN ?_ _ | refine Ext.setCell ?_ (by simp) _ | refine Ext.setCell ?_ (by simp; omega) _ | refine Ext.trans ?_ (by assumption))); done))) ?_
   (try simp only [pickOps, List.filterMap_cons, List.filterMap_nil, List.getElem?_cons_zero, List.getElem?_cons_succ])
   repeat (
    refine readsQ_do (by rfl) ?_
    apply Exists.intro
    refine ⟨fun w' hw' => ?_, ?_⟩
    focus
     (try dsimp only at hw')
     go_split_ands
     go_simp
     (try with_reducible rfl)
    (try dsimp only [Act.put])
    (try simp only [List.setIfInBounds_toArray, List.set_cons_succ, List.set_cons_zero]))
   refine readsQ_nil ?_
   refine wpAnyW_two 3 9 (by kernel_rfl) rfl rfl ?_ ?_
   ·go_wp2_with (first
     | (go_at_call 9; (with_reducible refine (choose_any c 501 _ HC.out (by omega) (by omega)).mono ?_); rintro e w8 ⟨rfl, rfl⟩; rw [HM.out]))
    refine nextA_go (S2 _ (by ((repeat (first | assumption | exact Ext.refl _ | (exact And.left (by assumption)) | refine Ext.alloc ?_ _ | refine Ext.drew ?_ | refine Ext.drewN ?_ _ | refine Ext.setCell ?_ (by simp) _ | refine Ext.setCell ?_ (by simp; omega) _ | refine Ext.trans ?_ (by assumption))); done))) ?_
    refine wpAnyW_two 4 9 (by kernel_rfl) rfl rfl ?_ ?_
    ·go_wp2_with (first
      | (go_at_call 11; (with_reducible refine (runRun_val p _ _ _ ⟨sf, sn, so⟩ _ m _ (Funcs.stays (Ext.stays (E2.out.trans (by ((repeat (first | assumption | exact Ext.refl _ | (exact And.left (by assumption)) | refine Ext.alloc ?_ _ | refine Ext.drew ?_ | refine Ext.drewN ?_ _ | refine Ext.setCell ?_ (by simp) _ | refine Ext.setCell ?_ (by simp; omega) _ | refine Ext.trans ?_ (by assumption))); done)))) HP.out) (StateV.stays (Ext.stays (E2.out.trans (by ((repeat (first | assumption | exact Ext.refl _ | (exact And.left (by assumption)) | refine Ext.alloc ?_ _ | refine Ext.drew ?_ | refine Ext.drewN ?_ _ | refine Ext.setCell ?_ (by simp) _ | refine Ext.setCell ?_ (by simp; omega) _ | refine Ext.trans ?_ (by assumption))); done)))) HS.out) HRR.out.1 HRR.out.2.1 HRR.out.2.2.1 HRR.out.2.2.2).mono ?_); rintro e w9 ⟨⟨ra, rc, rb, rd, rfl, hr9⟩, hb9⟩))
     have HR9 := Lib.hid hr9
     clear hr9
     refine nextA_go (S2 _ (by ((repeat (first | assumption | exact Ext.refl _ | (exact And.left (by assumption)) | refine Ext.alloc ?_ _ | refine Ext.drew ?_ | refine Ext.drewN ?_ _ | refine Ext.setCell ?_ (by simp) _ | refine Ext.setCell ?_ (by simp; omega) _ | refine Ext.trans ?_ (by assumption))); done))) ?_
     refine wpAnyW_take 5 (by kernel_rfl) (by kernel_rfl) (by kernel_rfl) (by kernel_rfl) (by kernel_rfl) (fun _ _ _ _ _ h => h) rfl (by rfl) (S2 _ (by ((repeat (first | assumption | exact Ext.refl _ | (exact And.left (by assumption)) | refine Ext.alloc ?_ _ | refine Ext.drew ?_ | refine Ext.drewN ?_ _ | refine Ext.setCell ?_ (by simp) _ | refine Ext.setCell ?_ (by simp; omega) _ | refine Ext.trans ?_ (by assumption))); done))) ?_
     apply Exists.intro
     refine ⟨fun w' hw' => ?_, ?_⟩
     focus
      go_simp
      (try with_reducible rfl)
     (try dsimp only [Act.put])
     (try simp only [List.setIfInBounds_toArray])
     refine wpAnyW_take 6 (by kernel_rfl) (by kernel_rfl) (by kernel_rfl) (by kernel_rfl) (by kernel_rfl) (fun _ _ _ _ _ h => h) rfl (by rfl) (S2 _ (by ((repeat (first | assumption | exact Ext.refl _ | (exact And.left (by assumption)) | refine Ext.alloc ?_ _ | refine Ext.drew ?_ | refine Ext.drewN ?_ _ | refine Ext.setCell ?_ (by simp) _ | refine Ext.setCell ?_ (by simp; omega) _ | refine Ext.trans ?_ (by assumption))); done))) ?_
     apply Exists.intro
     refine ⟨fun w' hw' => ?_, ?_⟩
     focus
      go_simp
      (try with_reducible rfl)
     (try dsimp only [Act.put])
     (try simp only [List.setIfInBounds_toArray])
     refine wpAnyW_take 7 (by kernel_rfl) (by kernel_rfl) (by kernel_rfl) (by kernel_rfl) (by kernel_rfl) (fun _ _ _ _ _ h => h) rfl (by rfl) (S2 _ (by ((repeat (first | assumption | exact Ext.refl _ | (exact And.left (by assumption)) | refine Ext.alloc ?_ _ | refine Ext.drew ?_ | refine Ext.drewN ?_ _ | refine Ext.setCell ?_ (by simp) _ | refine Ext.setCell ?_ (by simp; omega) _ | refine Ext.trans ?_ (by assumption))); done))) ?_
     apply Exists.intro
     refine ⟨fun w' hw' => ?_, ?_⟩
     focus
      go_simp
      (try with_reducible rfl)
     (try dsimp only [Act.put])
     (try simp only [List.setIfInBounds_toArray])
     refine wpAnyW_take 8 (by kernel_rfl) (by kernel_rfl) (by kernel_rfl) (by kernel_rfl) (by kernel_rfl) (fun _ _ _ _ _ h => h) rfl (by rfl) (S2 _ (by ((repeat (first | assumption | exact Ext.refl _ | (exact And.left (by assumption)) | refine Ext.alloc ?_ _ | refine Ext.drew ?_ | refine Ext.drewN ?_ _ | refine Ext.setCell ?_ (by simp) _ | refine Ext.setCell ?_ (by simp; omega) _ | refine Ext.trans ?_ (by assumption))); done))) ?_
     apply Exists.intro
     refine ⟨fun w' hw' => ?_, ?_⟩
     focus
      go_simp
      (try with_reducible rfl)
     (try dsimp only [Act.put])
     (try simp only [List.setIfInBounds_toArray])
     refine wpAnyW_one 9 (by kernel_rfl) rfl ?_
     go_wp2_with fail
     refine nextA_go (S2 _ (by ((repeat (first | assumption | exact Ext.refl _ | (exact And.left (by assumption)) | refine Ext.alloc ?_ _ | refine Ext.drew ?_ | refine Ext.drewN ?_ _ | refine Ext.setCell ?_ (by simp) _ | refine Ext.setCell ?_ (by simp; omega) _ | refine Ext.trans ?_ (by assumption))); done))) ?_
     refine wpAnyW_one 10 (by kernel_rfl) rfl ?_
     go_wp2_with fail
     refine nextA_go (S2 _ (by ((repeat (first | assumption | exact Ext.refl _ | (exact And.left (by assumption)) | refine Ext.alloc ?_ _ | refine Ext.drew ?_ | refine Ext.drewN ?_ _ | refine Ext.setCell ?_ (by simp) _ | refine Ext.setCell ?_ (by simp; omega) _ | refine Ext.trans ?_ (by assumption))); done))) ?_
     refine wpAnyW_one 11 (by kernel_rfl) rfl ?_
     go_wp2_with fail
     refine nextA_go (S2 _ (by ((repeat (first | assumption | exact Ext.refl _ | (exact And.left (by assumption)) | refine Ext.alloc ?_ _ | refine Ext.drew ?_ | refine Ext.drewN ?_ _ | refine Ext.setCell ?_ (by simp) _ | refine Ext.setCell ?_ (by simp; omega) _ | refine Ext.trans ?_ (by assumption))); done))) ?_
     refine wpAnyW_one 12 (by kernel_rfl) rfl ?_
     go_wp2_with fail
     refine nextA_end rfl (by kernel_rfl) ?_
     go_wp2_with fail
     go_meet
     exact ⟨_, rfl, rfl, rfl, by ((repeat (first | assumption | exact Ext.refl _ | (exact And.left (by assumption)) | refine Ext.alloc ?_ _ | refine Ext.drew ?_ | refine Ext.drewN ?_ _ | refine Ext.setCell ?_ (by simp) _ | refine Ext.setCell ?_ (by simp; omega) _ | refine Ext.trans ?_ (by assumption))); done), HR9.out.box_new _⟩
    ·go_wp2_with fail
     refine nextA_go (S2 _ (by ((repeat (first | assumption | exact Ext.refl _ | (exact And.left (by assumption)) | refine Ext.alloc ?_ _ | refine Ext.drew ?_ | refine Ext.drewN ?_ _ | refine Ext.setCell ?_ (by simp) _ | refine Ext.setCell ?_ (by simp; omega) _ | refine Ext.trans ?_ (by assumption))); done))) ?_
     refine wpAnyW_one 4 (by kernel_rfl) rfl ?_
     have BX := Lib.hid (Cx.new3 u2 (.slice none 0 0) (.int .i64 0) (.slice none 0 0) 26)
     go_wp2_with (first
      | (go_at_call 11; (with_reducible refine (runRun_val p _ _ _ ⟨sf, sn, so⟩ _ m _ (Funcs.stays (Ext.stays (E2.out.trans (by ((repeat (first | assumption | exact Ext.refl _ | (exact And.left (by assumption)) | refine Ext.alloc ?_ _ | refine Ext.drew ?_ | refine Ext.drewN ?_ _ | refine Ext.setCell ?_ (by simp) _ | refine Ext.setCell ?_ (by simp; omega) _ | refine Ext.trans ?_ (by assumption))); done)))) HP.out) (StateV.stays (Ext.stays (E2.out.trans (by ((repeat (first | assumption | exact Ext.refl _ | (exact And.left (by assumption)) | refine Ext.alloc ?_ _ | refine Ext.drew ?_ | refine Ext.drewN ?_ _ | refine Ext.setCell ?_ (by simp) _ | refine Ext.setCell ?_ (by simp; omega) _ | refine Ext.trans ?_ (by assumption))); done)))) HS.out) HRR.out.1 HRR.out.2.1 HRR.out.2.2.1 HRR.out.2.2.2).mono ?_); rintro e w9 ⟨⟨ra, rc, rb, rd, rfl, hr9⟩, hb9⟩))
     have HR9 := Lib.hid hr9
     clear hr9
     obtain ⟨⟨z0, z0'⟩, ⟨z1, z1'⟩, ⟨z2, z2'⟩⟩ := (⟨(BX.out.1.ext (Ext.refl _).drew).ext hb9, (BX.out.2.1.ext (Ext.refl _).drew).ext hb9, (BX.out.2.2.ext (Ext.refl _).drew).ext hb9⟩ : _ ∧ _ ∧ _)
     refine nextA_go (S2 _ (by ((repeat (first | assumption | exact Ext.refl _ | (exact And.left (by assumption)) | refine Ext.alloc ?_ _ | refine Ext.drew ?_ | refine Ext.drewN ?_ _ | refine Ext.setCell ?_ (by simp) _ | refine Ext.setCell ?_ (by simp; omega) _ | refine Ext.trans ?_ (by assumption))); done))) ?_
     refine wpAnyW_one 5 (by kernel_rfl) rfl ?_
     go_wp2_with fail
     refine nextA_go (S2 _ (by ((repeat (first | assumption | exact Ext.refl _ | (exact And.left (by assumption)) | refine Ext.alloc ?_ _ | refine Ext.drew ?_ | refine Ext.drewN ?_ _ | refine Ext.setCell ?_ (by simp) _ | refine Ext.setCell ?_ (by simp; omega) _ | refine Ext.trans ?_ (by assumption))); done))) ?_
     refine wpAnyW_take 6 (by kernel_rfl) (by kernel_rfl) (by kernel_rfl) (by kernel_rfl) (by kernel_rfl) (fun _ _ _ _ _ h => h) rfl (by rfl) (S2 _ (by ((repeat (first | assumption | exact Ext.refl _ | (exact And.left (by assumption)) | refine Ext.alloc ?_ _ | refine Ext.drew ?_ | refine Ext.drewN ?_ _ | refine Ext.setCell ?_ (by simp) _ | refine Ext.setCell ?_ (by simp; omega) _ | refine Ext.trans ?_ (by assumption))); done))) ?_
     apply Exists.intro
     refine ⟨fun w' hw' => ?_, ?_⟩
     focus
      go_simp
      (try with_reducible rfl)
     (try dsimp only [Act.put])
     (try simp only [List.setIfInBounds_toArray])
     refine wpAnyW_take 7 (by kernel_rfl) (by kernel_rfl) (by kernel_rfl) (by kernel_rfl) (by kernel_rfl) (fun _ _ _ _ _ h => h) rfl (by rfl) (S2 _ (by ((repeat (first | assumption | exact Ext.refl _ | (exact And.left (by assumption)) | refine Ext.alloc ?_ _ | refine Ext.drew ?_ | refine Ext.drewN ?_ _ | refine Ext.setCell ?_ (by simp) _ | refine Ext.setCell ?_ (by simp; omega) _ | refine Ext.trans ?_ (by assumption))); done))) ?_
     apply Exists.intro
     refine ⟨fun w' hw' => ?_, ?_⟩
     focus
      go_simp
      (try with_reducible rfl)
     (try dsimp only [Act.put])
     (try simp only [List.setIfInBounds_toArray])
     refine wpAnyW_take 8 (by kernel_rfl) (by kernel_rfl) (by kernel_rfl) (by kernel_rfl) (by kernel_rfl) (fun _ _ _ _ _ h => h) rfl (by rfl) (S2 _ (by ((repeat (first | assumption | exact Ext.refl _ | (exact And.left (by assumption)) | refine Ext.alloc ?_ _ | refine Ext.drew ?_ | refine Ext.drewN ?_ _ | refine Ext.setCell ?_ (by simp) _ | refine Ext.setCell ?_ (by simp; omega) _ | refine Ext.trans ?_ (by assumption))); done))) ?_
     apply Exists.intro
     refine ⟨fun w' hw' => ?_, ?_⟩
     focus
      go_simp
      (try with_reducible rfl)
     (try dsimp only [Act.put])
     (try simp only [List.setIfInBounds_toArray])
     refine wpAnyW_one 10 (by kernel_rfl) rfl ?_
     go_wp2_with fail
     refine nextA_go (S2 _ (by ((repeat (first | assumption | exact Ext.refl _ | (exact And.left (by assumption)) | refine Ext.alloc ?_ _ | refine Ext.drew ?_ | refine Ext.drewN ?_ _ | refine Ext.setCell ?_ (by simp) _ | refine Ext.setCell ?_ (by simp; omega) _ | refine Ext.trans ?_ (by assumption))); done))) ?_
     refine wpAnyW_one 11 (by kernel_rfl) rfl ?_
     go_wp2_with fail
     refine nextA_go (S2 _ (by ((repeat (first | assumption | exact Ext.refl _ | (exact And.left (by assumption)) | refine Ext.alloc ?_ _ | refine Ext.drew ?_ | refine Ext.drewN ?_ _ | refine Ext.setCell ?_ (by simp) _ | refine Ext.setCell ?_ (by simp; omega) _ | refine Ext.trans ?_ (by assumption))); done))) ?_
     refine wpAnyW_one 12 (by kernel_rfl) rfl ?_
     go_wp2_with fail
     refine nextA_end rfl (by kernel_rfl) ?_
     go_wp2_with fail
     go_meet
     exact ⟨_, rfl, rfl, rfl, ext3 (w := u2) (by ((repeat (first | assumption | exact Ext.refl _ | (exact And.left (by assumption)) | refine Ext.alloc ?_ _ | refine Ext.drew ?_ | refine Ext.drewN ?_ _ | refine Ext.setCell ?_ (by simp) _ | refine Ext.setCell ?_ (by simp; omega) _ | refine Ext.trans ?_ (by assumption))); done)) _ _ _, HR9.out.box_late ⟨z0, z0'⟩ ⟨z1, z1'⟩ ⟨z2, z2'⟩ (by simp)⟩
   ·go_wp2_with fail
    refine nextA_go (S2 _ (by ((repeat (first | assumption | exact Ext.refl _ | (exact And.left (by assumption)) | refine Ext.alloc ?_ _ | refine Ext.drew ?_ | refine Ext.drewN ?_ _ | refine Ext.setCell ?_ (by simp) _ | refine Ext.setCell ?_ (by simp; omega) _ | refine Ext.trans ?_ (by assumption))); done))) ?_
    refine wpAnyW_one 3 (by kernel_rfl) rfl ?_
    go_wp2_with (first
     | (go_at_call 9; (with_reducible refine (choose_any c 501 _ HC.out (by omega) (by omega)).mono ?_); rintro e w8 ⟨rfl, rfl⟩; rw [HM.out]))
    refine nextA_go (S2 _ (by ((repeat (first | assumption | exact Ext.refl _ | (exact And.left (by assumption)) | refine Ext.alloc ?_ _ | refine Ext.drew ?_ | refine Ext.drewN ?_ _ | refine Ext.setCell ?_ (by simp) _ | refine Ext.setCell ?_ (by simp; omega) _ | refine Ext.trans ?_ (by assumption))); done))) ?_
    refine wpAnyW_one 4 (by kernel_rfl) rfl ?_
    have BX := Lib.hid (Cx.new3 u2 (.slice none 0 0) (.int .i64 0) (.slice none 0 0) 26)
    go_wp2_with (first
     | (go_at_call 11; (with_reducible refine (runRun_val p _ _ _ ⟨sf, sn, so⟩ _ m _ (Funcs.stays (Ext.stays (E2.out.trans (by ((repeat (first | assumption | exact Ext.refl _ | (exact And.left (by assumption)) | refine Ext.alloc ?_ _ | refine Ext.drew ?_ | refine Ext.drewN ?_ _ | refine Ext.setCell ?_ (by simp) _ | refine Ext.setCell ?_ (by simp; omega) _ | refine Ext.trans ?_ (by assumption))); done)))) HP.out) (StateV.stays (Ext.stays (E2.out.trans (by ((repeat (first | assumption | exact Ext.refl _ | (exact And.left (by assumption)) | refine Ext.alloc ?_ _ | refine Ext.drew ?_ | refine Ext.drewN ?_ _ | refine Ext.setCell ?_ (by simp) _ | refine Ext.setCell ?_ (by simp; omega) _ | refine Ext.trans ?_ (by assumption))); done)))) HS.out) HRR.out.1 HRR.out.2.1 HRR.out.2.2.1 HRR.out.2.2.2).mono ?_); rintro e w9 ⟨⟨ra, rc, rb, rd, rfl, hr9⟩, hb9⟩))
    have HR9 := Lib.hid hr9
    clear hr9
    obtain ⟨⟨z0, z0'⟩, ⟨z1, z1'⟩, ⟨z2, z2'⟩⟩ := (⟨(BX.out.1.ext (Ext.refl _).drew).ext hb9, (BX.out.2.1.ext (Ext.refl _).drew).ext hb9, (BX.out.2.2.ext (Ext.refl _).drew).ext hb9⟩ : _ ∧ _ ∧ _)
    refine nextA_go (S2 _ (by ((repeat (first | assumption | exact Ext.refl _ | (exact And.left (by assumption)) | refine Ext.alloc ?_ _ | refine Ext.drew ?_ | refine Ext.drewN ?_ _ | refine Ext.setCell ?_ (by simp) _ | refine Ext.setCell ?_ (by simp; omega) _ | refine Ext.trans ?_ (by assumption))); done))) ?_
    refine wpAnyW_one 5 (by kernel_rfl) rfl ?_
    go_wp2_with fail
    refine nextA_go (S2 _ (by ((repeat (first | assumption | exact Ext.refl _ | (exact And.left (by assumption)) | refine Ext.alloc ?_ _ | refine Ext.drew ?_ | refine Ext.drewN ?_ _ | refine Ext.setCell ?_ (by simp) _ | refine Ext.setCell ?_ (by simp; omega) _ | refine Ext.trans ?_ (by assumption))); done))) ?_
    refine wpAnyW_take 6 (by kernel_rfl) (by kernel_rfl) (by kernel_rfl) (by kernel_rfl) (by kernel_rfl) (fun _ _ _ _ _ h => h) rfl (by rfl) (S2 _ (by ((repeat (first | assumption | exact Ext.refl _ | (exact And.left (by assumption)) | refine Ext.alloc ?_ _ | refine Ext.drew ?_ | refine Ext.drewN ?_ _ | refine Ext.setCell ?_ (by simp) _ | refine Ext.setCell ?_ (by simp; omega) _ | refine Ext.trans ?_ (by assumption))); done))) ?_
    apply Exists.intro
    refine ⟨fun w' hw' => ?_, ?_⟩
    focus
     go_simp
     (try with_reducible rfl)
    (try dsimp only [Act.put])
    (try simp only [List.setIfInBounds_toArray])
    refine wpAnyW_take 7 (by kernel_rfl) (by kernel_rfl) (by kernel_rfl) (by kernel_rfl) (by kernel_rfl) (fun _ _ _ _ _ h => h) rfl (by rfl) (S2 _ (by ((repeat (first | assumption | exact Ext.refl _ | (exact And.left (by assumption)) | refine Ext.alloc ?_ _ | refine Ext.drew ?_ | refine Ext.drewN ?_ _ | refine Ext.setCell ?_ (by simp) _ | refine Ext.setCell ?_ (by simp; omega) _ | refine Ext.trans ?_ (by assumption))); done))) ?_
    apply Exists.intro
    refine ⟨fun w' hw' => ?_, ?_⟩
    focus
     go_simp
     (try with_reducible rfl)
    (try dsimp only [Act.put])
    (try simp only [List.setIfInBounds_toArray])
    refine wpAnyW_take 8 (by kernel_rfl) (by kernel_rfl) (by kernel_rfl) (by kernel_rfl) (by kernel_rfl) (fun _ _ _ _ _ h => h) rfl (by rfl) (S2 _ (by ((repeat (first | assumption | exact Ext.refl _ | (exact And.left (by assumption)) | refine Ext.alloc ?_ _ | refine Ext.drew ?_ | refine Ext.drewN ?_ _ | refine Ext.setCell ?_ (by simp) _ | refine Ext.setCell ?_ (by simp; omega) _ | refine Ext.trans ?_ (by assumption))); done))) ?_
    apply Exists.intro
    refine ⟨fun w' hw' => ?_, ?_⟩
    focus
     go_simp
     (try with_reducible rfl)
    (try dsimp only [Act.put])
    (try simp only [List.setIfInBounds_toArray])
    refine wpAnyW_one 10 (by kernel_rfl) rfl ?_
    go_wp2_with fail
    refine nextA_go (S2 _ (by ((repeat (first | assumption | exact Ext.refl _ | (exact And.left (by assumption)) | refine Ext.alloc ?_ _ | refine Ext.drew ?_ | refine Ext.drewN ?_ _ | refine Ext.setCell ?_ (by simp) _ | refine Ext.setCell ?_ (by simp; omega) _ | refine Ext.trans ?_ (by assumption))); done))) ?_
    refine wpAnyW_one 11 (by kernel_rfl) rfl ?_
    go_wp2_with fail
    refine nextA_go (S2 _ (by ((repeat (first | assumption | exact Ext.refl _ | (exact And.left (by assumption)) | refine Ext.alloc ?_ _ | refine Ext.drew ?_ | refine Ext.drewN ?_ _ | refine Ext.setCell ?_ (by simp) _ | refine Ext.setCell ?_ (by simp; omega) _ | refine Ext.trans ?_ (by assumption))); done))) ?_
    refine wpAnyW_one 12 (by kernel_rfl) rfl ?_
    go_wp2_with fail
    refine nextA_end rfl (by kernel_rfl) ?_
    go_wp2_with fail
    go_meet
    exact ⟨_, rfl, rfl, rfl, ext3 (w := u2) (by ((repeat (first | assumption | exact Ext.refl _ | (exact And.left (by assumption)) | refine Ext.alloc ?_ _ | refine Ext.drew ?_ | refine Ext.drewN ?_ _ | refine Ext.setCell ?_ (by simp) _ | refine Ext.setCell ?_ (by simp; omega) _ | refine Ext.trans ?_ (by assumption))); done)) _ _ _, HR9.out.box_late ⟨z0, z0'⟩ ⟨z1, z1'⟩ ⟨z2, z2'⟩ (by simp)⟩
  case rest =>
   obtain ⟨i, rfl, rfl, rfl, hE, hBX⟩ := hcut
   replace x0 := Ext.cell hE x0
   replace x1 := Ext.cell hE x1
   replace x2 := Ext.cell hE x2
   have HXV := Lib.hid (StateV.stays (Ext.stays hE) HXV.out)
   have E3 := Lib.hid (E2.out.trans hE)
   have HBX := Lib.hid hBX
   clear hE hBX b0 b1 b2 E2
   rename World => u3
   go_upto_region 6 with fail
   go_cut [14, 15, 16] (fun qa qb qc wr => ∃ i, qa = .pointer (some ⟨i, 0, none⟩) ∧ qb = .int .i64 rn ∧ qc = .int .i64 rg ∧ Ext u3 wr ∧ BoxT wr i N M K R)
   case first =>
    have S2 : ∀ W, Ext u3 W → ((fun W => W.cell? ⟨xx, 0, none⟩ = some (.slice xa sf.length xc) ∧ W.cell? ⟨xx, 1, none⟩ = some (.int .i64 sn) ∧ W.cell? ⟨xx, 2, none⟩ = some (.slice xb so.length xd)) W) := fun W h => ⟨Ext.cell h x0, Ext.cell h x1, Ext.cell h x2⟩
    refine wp_region_rw (fun W => W.cell? ⟨xx, 0, none⟩ = some (.slice xa sf.length xc) ∧ W.cell? ⟨xx, 1, none⟩ = some (.int .i64 sn) ∧ W.cell? ⟨xx, 2, none⟩ = some (.slice xb so.length xd)) 12 [0, 1, 2] 10 (by kernel_rfl) (by kernel_rfl) (fun _ _ _ _ _ h => h) (S2 _ (by ((repeat (first | assumption | exact Ext.refl _ | (exact And.left (by assumption)) | refine Ext.alloc ?_ _ | refine Ext.drew ?_ | refine Ext.drewN ?_ _ | refine Ext.setCell ?_ (by simp) _ | refine Ext.setCell ?_ (by simp; omega) _ | refine Ext.trans ?_ (by assumption))); done))) ?_
    (try simp only [pickOps, List.filterMap_cons, List.filterMap_nil, List.getElem?_cons_zero, List.getElem?_cons_succ])
    repeat (
     refine readsQ_do (by rfl) ?_
     apply Exists.intro
     refine ⟨fun w' hw' => ?_, ?_⟩
     focus
      (try dsimp only at hw')
      go_split_ands
      go_simp
      (try with_reducible rfl)
     (try dsimp only [Act.put])
     (try simp only [List.setIfInBounds_toArray, List.set_cons_succ, List.set_cons_zero]))
    refine readsQ_nil ?_
    refine wpAnyW_two 3 9 (by kernel_rfl) rfl rfl ?_ ?_
    ·go_wp2_with (first
      | (go_at_call 9; (with_reducible refine (choose_any c 501 _ HC.out (by omega) (by omega)).mono ?_); rintro e w8 ⟨rfl, rfl⟩; rw [HM.out]))
     refine nextA_go (S2 _ (by ((repeat (first | assumption | exact Ext.refl _ | (exact And.left (by assumption)) | refine Ext.alloc ?_ _ | refine Ext.drew ?_ | refine Ext.drewN ?_ _ | refine Ext.setCell ?_ (by simp) _ | refine Ext.setCell ?_ (by simp; omega) _ | refine Ext.trans ?_ (by assumption))); done))) ?_
     refine wpAnyW_two 4 9 (by kernel_rfl) rfl rfl ?_ ?_
     ·go_wp2_with (first
       | (go_at_call 11; (with_reducible refine (runRun_val p _ _ _ ⟨sf, sn, so⟩ _ m _ (Funcs.stays (Ext.stays (E3.out.trans (by ((repeat (first | assumption | exact Ext.refl _ | (exact And.left (by assumption)) | refine Ext.alloc ?_ _ | refine Ext.drew ?_ | refine Ext.drewN ?_ _ | refine Ext.setCell ?_ (by simp) _ | refine Ext.setCell ?_ (by simp; omega) _ | refine Ext.trans ?_ (by assumption))); done)))) HP.out) (StateV.stays (Ext.stays (by ((repeat (first | assumption | exact Ext.refl _ | (exact And.left (by assumption)) | refine Ext.alloc ?_ _ | refine Ext.drew ?_ | refine Ext.drewN ?_ _ | refine Ext.setCell ?_ (by simp) _ | refine Ext.setCell ?_ (by simp; omega) _ | refine Ext.trans ?_ (by assumption))); done))) HXV.out) HRR.out.1 HRR.out.2.1 HRR.out.2.2.1 HRR.out.2.2.2).mono ?_); rintro e w9 ⟨⟨ra, rc, rb, rd, rfl, hr9⟩, hb9⟩))
      have HR9 := Lib.hid hr9
      clear hr9
      refine nextA_go (S2 _ (by ((repeat (first | assumption | exact Ext.refl _ | (exact And.left (by assumption)) | refine Ext.alloc ?_ _ | refine Ext.drew ?_ | refine Ext.drewN ?_ _ | refine Ext.setCell ?_ (by simp) _ | refine Ext.setCell ?_ (by simp; omega) _ | refine Ext.trans ?_ (by assumption))); done))) ?_
      refine wpAnyW_take 5 (by kernel_rfl) (by kernel_rfl) (by kernel_rfl) (by kernel_rfl) (by kernel_rfl) (fun _ _ _ _ _ h => h) rfl (by rfl) (S2 _ (by ((repeat (first | assumption | exact Ext.refl _ | (exact And.left (by assumption)) | refine Ext.alloc ?_ _ | refine Ext.drew ?_ | refine Ext.drewN ?_ _ | refine Ext.setCell ?_ (by simp) _ | refine Ext.setCell ?_ (by simp; omega) _ | refine Ext.trans ?_ (by assumption))); done))) ?_
      apply Exists.intro
      refine ⟨fun w' hw' => ?_, ?_⟩
      focus
       go_simp
       (try with_reducible rfl)
      (try dsimp only [Act.put])
      (try simp only [List.setIfInBounds_toArray])
      refine wpAnyW_take 6 (by kernel_rfl) (by kernel_rfl) (by kernel_rfl) (by kernel_rfl) (by kernel_rfl) (fun _ _ _ _ _ h => h) rfl (by rfl) (S2 _ (by ((repeat (first | assumption | exact Ext.refl _ | (exact And.left (by assumption)) | refine Ext.alloc ?_ _ | refine Ext.drew ?_ | refine Ext.drewN ?_ _ | refine Ext.setCell ?_ (by simp) _ | refine Ext.setCell ?_ (by simp; omega) _ | refine Ext.trans ?_ (by assumption))); done))) ?_
      apply Exists.intro
      refine ⟨fun w' hw' => ?_, ?_⟩
      focus
       go_simp
       (try with_reducible rfl)
      (try dsimp only [Act.put])
      (try simp only [List.setIfInBounds_toArray])
      refine wpAnyW_take 7 (by kernel_rfl) (by kernel_rfl) (by kernel_rfl) (by kernel_rfl) (by kernel_rfl) (fun _ _ _ _ _ h => h) rfl (by rfl) (S2 _ (by ((repeat (first | assumption | exact Ext.refl _ | (exact And.left (by assumption)) | refine Ext.alloc ?_ _ | refine Ext.drew ?_ | refine Ext.drewN ?_ _ | refine Ext.setCell ?_ (by simp) _ | refine Ext.setCell ?_ (by simp; omega) _ | refine Ext.trans ?_ (by assumption))); done))) ?_
      apply Exists.intro
      refine ⟨fun w' hw' => ?_, ?_⟩
      focus
       go_simp
       (try with_reducible rfl)
      (try dsimp only [Act.put])
      (try simp only [List.setIfInBounds_toArray])
      refine wpAnyW_take 8 (by kernel_rfl) (by kernel_rfl) (by kernel_rfl) (by kernel_rfl) (by kernel_rfl) (fun _ _ _ _ _ h => h) rfl (by rfl) (S2 _ (by ((repeat (first | assumption | exact Ext.refl _ | (exact And.left (by assumption)) | refine Ext.alloc ?_ _ | refine Ext.drew ?_ | refine Ext.drewN ?_ _ | refine Ext.setCell ?_ (by simp) _ | refine Ext.setCell ?_ (by simp; omega) _ | refine Ext.trans ?_ (by assumption))); done))) ?_
      apply Exists.intro
      refine ⟨fun w' hw' => ?_, ?_⟩
      focus
       go_simp
       (try with_reducible rfl)
      (try dsimp only [Act.put])
      (try simp only [List.setIfInBounds_toArray])
      refine wpAnyW_one 9 (by kernel_rfl) rfl ?_
      go_wp2_with fail
      refine nextA_go (S2 _ (by ((repeat (first | assumption | exact Ext.refl _ | (exact And.left (by assumption)) | refine Ext.alloc ?_ _ | refine Ext.drew ?_ | refine Ext.drewN ?_ _ | refine Ext.setCell ?_ (by simp) _ | refine Ext.setCell ?_ (by simp; omega) _ | refine Ext.trans ?_ (by assumption))); done))) ?_
      refine wpAnyW_one 10 (by kernel_rfl) rfl ?_
      go_wp2_with fail
      refine nextA_go (S2 _ (by ((repeat (first | assumption | exact Ext.refl _ | (exact And.left (by assumption)) | refine Ext.alloc ?_ _ | refine Ext.drew ?_ | refine Ext.drewN ?_ _ | refine Ext.setCell ?_ (by simp) _ | refine Ext.setCell ?_ (by simp; omega) _ | refine Ext.trans ?_ (by assumption))); done))) ?_
      refine wpAnyW_one 11 (by kernel_rfl) rfl ?_
      go_wp2_with fail
      refine nextA_go (S2 _ (by ((repeat (first | assumption | exact Ext.refl _ | (exact And.left (by assumption)) | refine Ext.alloc ?_ _ | refine Ext.drew ?_ | refine Ext.drewN ?_ _ | refine Ext.setCell ?_ (by simp) _ | refine Ext.setCell ?_ (by simp; omega) _ | refine Ext.trans ?_ (by assumption))); done))) ?_
      refine wpAnyW_one 12 (by kernel_rfl) rfl ?_
      go_wp2_with fail
      refine nextA_end rfl (by kernel_rfl) ?_
      go_wp2_with fail
      go_meet
      exact ⟨_, rfl, rfl, rfl, by ((repeat (first | assumption | exact Ext.refl _ | (exact And.left (by assumption)) | refine Ext.alloc ?_ _ | refine Ext.drew ?_ | refine Ext.drewN ?_ _ | refine Ext.setCell ?_ (by simp) _ | refine Ext.setCell ?_ (by simp; omega) _ | refine Ext.trans ?_ (by assumption))); done), HR9.out.box_new _⟩
     ·go_wp2_with fail
      refine nextA_go (S2 _ (by ((repeat (first | assumption | exact Ext.refl _ | (exact And.left (by assumption)) | refine Ext.alloc ?_ _ | refine Ext.drew ?_ | refine Ext.drewN ?_ _ | refine Ext.setCell ?_ (by simp) _ | refine Ext.setCell ?_ (by simp; omega) _ | refine Ext.trans ?_ (by assumption))); done))) ?_
      refine wpAnyW_one 4 (by kernel_rfl) rfl ?_
      have BX := Lib.hid (Cx.new3 u3 (.slice none 0 0) (.int .i64 0) (.slice none 0 0) 26)
      go_wp2_with (first
       | (go_at_call 11; (with_reducible refine (runRun_val p _ _ _ ⟨sf, sn, so⟩ _ m _ (Funcs.stays (Ext.stays (E3.out.trans (by ((repeat (first | assumption | exact Ext.refl _ | (exact And.left (by assumption)) | refine Ext.alloc ?_ _ | refine Ext.drew ?_ | refine Ext.drewN ?_ _ | refine Ext.setCell ?_ (by simp) _ | refine Ext.setCell ?_ (by simp; omega) _ | refine Ext.trans ?_ (by assumption))); done)))) HP.out) (StateV.stays (Ext.stays (by ((repeat (first | assumption | exact Ext.refl _ | (exact And.left (by assumption)) | refine Ext.alloc ?_ _ | refine Ext.drew ?_ | refine Ext.drewN ?_ _ | refine Ext.setCell ?_ (by simp) _ | refine Ext.setCell ?_ (by simp; omega) _ | refine Ext.trans ?_ (by assumption))); done))) HXV.out) HRR.out.1 HRR.out.2.1 HRR.out.2.2.1 HRR.out.2.2.2).mono ?_); rintro e w9 ⟨⟨ra, rc, rb, rd, rfl, hr9⟩, hb9⟩))
      have HR9 := Lib.hid hr9
      clear hr9
      obtain ⟨⟨z0, z0'⟩, ⟨z1, z1'⟩, ⟨z2, z2'⟩⟩ := (⟨(BX.out.1.ext (Ext.refl _).drew).ext hb9, (BX.out.2.1.ext (Ext.refl _).drew).ext hb9, (BX.out.2.2.ext (Ext.refl _).drew).ext hb9⟩ : _ ∧ _ ∧ _)
      refine nextA_go (S2 _ (by ((repeat (first | assumption | exact Ext.refl _ | (exact And.left (by assumption)) | refine Ext.alloc ?_ _ | refine Ext.drew ?_ | refine Ext.drewN ?_ _ | refine Ext.setCell ?_ (by simp) _ | refine Ext.setCell ?_ (by simp; omega) _ | refine Ext.trans ?_ (by assumption))); done))) ?_
      refine wpAnyW_one 5 (by kernel_rfl) rfl ?_
      go_wp2_with fail
      refine nextA_go (S2 _ (by ((repeat (first | assumption | exact Ext.refl _ | (exact And.left (by assumption)) | refine Ext.alloc ?_ _ | refine Ext.drew ?_ | refine Ext.drewN ?_ _ | refine Ext.setCell ?_ (by simp) _ | refine Ext.setCell ?_ (by simp; omega) _ | refine Ext.trans ?_ (by assumption))); done))) ?_
      refine wpAnyW_take 6 (by kernel_rfl) (by kernel_rfl) (by kernel_rfl) (by kernel_rfl) (by kernel_rfl) (fun _ _ _ _ _ h => h) rfl (by rfl) (S2 _ (by ((repeat (first | assumption | exact Ext.refl _ | (exact And.left (by assumption)) | refine Ext.alloc ?_ _ | refine Ext.drew ?_ | refine Ext.drewN ?_ _ | refine Ext.setCell ?_ (by simp) _ | refine Ext.setCell ?_ (by simp; omega) _ | refine Ext.trans ?_ (by assumption))); done))) ?_
      apply Exists.intro
      refine ⟨fun w' hw' => ?_, ?_⟩
      focus
       go_simp
       (try with_reducible rfl)
      (try dsimp only [Act.put])
      (try simp only [List.setIfInBounds_toArray])
      refine wpAnyW_take 7 (by kernel_rfl) (by kernel_rfl) (by kernel_rfl) (by kernel_rfl) (by kernel_rfl) (fun _ _ _ _ _ h => h) rfl (by rfl) (S2 _ (by ((repeat (first | assumption | exact Ext.refl _ | (exact And.left (by assumption)) | refine Ext.alloc ?_ _ | refine Ext.drew ?_ | refine Ext.drewN ?_ _ | refine Ext.setCell ?_ (by simp) _ | refine Ext.setCell ?_ (by simp; omega) _ | refine Ext.trans ?_ (by assumption))); done))) ?_
      apply Exists.intro
      refine ⟨fun w' hw' => ?_, ?_⟩
      focus
       go_simp
       (try with_reducible rfl)
      (try dsimp only [Act.put])
      (try simp only [List.setIfInBounds_toArray])
      refine wpAnyW_take 8 (by kernel_rfl) (by kernel_rfl) (by kernel_rfl) (by kernel_rfl) (by kernel_rfl) (fun _ _ _ _ _ h => h) rfl (by rfl) (S2 _ (by ((repeat (first | assumption | exact Ext.refl _ | (exact And.left (by assumption)) | refine Ext.alloc ?_ _ | refine Ext.drew ?_ | refine Ext.drewN ?_ _ | refine Ext.setCell ?_ (by simp) _ | refine Ext.setCell ?_ (by simp; omega) _ | refine Ext.trans ?_ (by assumption))); done))) ?_
      apply Exists.intro
      refine ⟨fun w' hw' => ?_, ?_⟩
      focus
       go_simp
       (try with_reducible rfl)
      (try dsimp only [Act.put])
      (try simp only [List.setIfInBounds_toArray])
      refine wpAnyW_one 10 (by kernel_rfl) rfl ?_
      go_wp2_with fail
      refine nextA_go (S2 _ (by ((repeat (first | assumption | exact Ext.refl _ | (exact And.left (by assumption)) | refine Ext.alloc ?_ _ | refine Ext.drew ?_ | refine Ext.drewN ?_ _ | refine Ext.setCell ?_ (by simp) _ | refine Ext.setCell ?_ (by simp; omega) _ | refine Ext.trans ?_ (by assumption))); done))) ?_
      refine wpAnyW_one 11 (by kernel_rfl) rfl ?_
      go_wp2_with fail
      refine nextA_go (S2 _ (by ((repeat (first | assumption | exact Ext.refl _ | (exact And.left (by assumption)) | refine Ext.alloc ?_ _ | refine Ext.drew ?_ | refine Ext.drewN ?_ _ | refine Ext.setCell ?_ (by simp) _ | refine Ext.setCell ?_ (by simp; omega) _ | refine Ext.trans ?_ (by assumption))); done))) ?_
      refine wpAnyW_one 12 (by kernel_rfl) rfl ?_
      go_wp2_with fail
      refine nextA_end rfl (by kernel_rfl) ?_
      go_wp2_with fail
      go_meet
      exact ⟨_, rfl, rfl, rfl, ext3 (w := u3) (by ((repeat (first | assumption | exact Ext.refl _ | (exact And.left (by assumption)) | refine Ext.alloc ?_ _ | refine Ext.drew ?_ | refine Ext.drewN ?_ _ | refine Ext.setCell ?_ (by simp) _ | refine Ext.setCell ?_ (by simp; omega) _ | refine Ext.trans ?_ (by assumption))); done)) _ _ _, HR9.out.box_late ⟨z0, z0'⟩ ⟨z1, z1'⟩ ⟨z2, z2'⟩ (by simp)⟩
    ·go_wp2_with fail
     refine nextA_go (S2 _ (by ((repeat (first | assumption | exact Ext.refl _ | (exact And.left (by assumption)) | refine Ext.alloc ?_ _ | refine Ext.drew ?_ | refine Ext.drewN ?_ _ | refine Ext.setCell ?_ (by simp) _ | refine Ext.setCell ?_ (by simp; omega) _ | refine Ext.trans ?_ (by assumption))); done))) ?_
     refine wpAnyW_one 3 (by kernel_rfl) rfl ?_
     go_wp2_with (first
      | (go_at_call 9; (with_reducible refine (choose_any c 501 _ HC.out (by omega) (by omega)).mono ?_); rintro e w8 ⟨rfl, rfl⟩; rw [HM.out]))
     refine nextA_go (S2 _ (by ((repeat (first | assumption | exact Ext.refl _ | (exact And.left (by assumption)) | refine Ext.alloc ?_ _ | refine Ext.drew ?_ | refine Ext.drewN ?_ _ | refine Ext.setCell ?_ (by simp) _ | refine Ext.setCell ?_ (by simp; omega) _ | refine Ext.trans ?_ (by assumption))); done))) ?_
     refine wpAnyW_one 4 (by kernel_rfl) rfl ?_
     have BX := Lib.hid (Cx.new3 u3 (.slice none 0 0) (.int .i64 0) (.slice none 0 0) 26)
     go_wp2_with (first
      | (go_at_call 11; (with_reducible refine (runRun_val p _ _ _ ⟨sf, sn, so⟩ _ m _ (Funcs.stays (Ext.stays (E3.out.trans (by ((repeat (first | assumption | exact Ext.refl _ | (exact And.left (by assumption)) | refine Ext.alloc ?_ _ | refine Ext.drew ?_ | refine Ext.drewN ?_ _ | refine Ext.setCell ?_ (by simp) _ | refine Ext.setCell ?_ (by simp; omega) _ | refine Ext.trans ?_ (by assumption))); done)))) HP.out) (StateV.stays (Ext.stays (by ((repeat (first | assumption | exact Ext.refl _ | (exact And.left (by assumption)) | refine Ext.alloc ?_ _ | refine Ext.drew ?_ | refine Ext.drewN ?_ _ | refine Ext.setCell ?_ (by simp) _ | refine Ext.setCell ?_ (by simp; omega) _ | refine Ext.trans ?_ (by assumption))); done))) HXV.out) HRR.out.1 HRR.out.2.1 HRR.out.2.2.1 HRR.out.2.2.2).mono ?_); rintro e w9 ⟨⟨ra, rc, rb, rd, rfl, hr9⟩, hb9⟩))
     have HR9 := Lib.hid hr9
     clear hr9
     obtain ⟨⟨z0, z0'⟩, ⟨z1, z1'⟩, ⟨z2, z2'⟩⟩ := (⟨(BX.out.1.ext (Ext.refl _).drew).ext hb9, (BX.out.2.1.ext (Ext.refl _).drew).ext hb9, (BX.out.2.2.ext (Ext.refl _).drew).ext hb9⟩ : _ ∧ _ ∧ _)
     refine nextA_go (S2 _ (by ((repeat (first | assumption | exact Ext.refl _ | (exact And.left (by assumption)) | refine Ext.alloc ?_ _ | refine Ext.drew ?_ | refine Ext.drewN ?_ _ | refine Ext.setCell ?_ (by simp) _ | refine Ext.setCell ?_ (by simp; omega) _ | refine Ext.trans ?_ (by assumption))); done))) ?_
     refine wpAnyW_one 5 (by kernel_rfl) rfl ?_
     go_wp2_with fail
     refine nextA_go (S2 _ (by ((repeat (first | assumption | exact Ext.refl _ | (exact And.left (by assumption)) | refine Ext.alloc ?_ _ | refine Ext.drew ?_ | refine Ext.drewN ?_ _ | refine Ext.setCell ?_ (by simp) _ | refine Ext.setCell ?_ (by simp; omega) _ | refine Ext.trans ?_ (by assumption))); done))) ?_
     refine wpAnyW_take 6 (by kernel_rfl) (by kernel_rfl) (by kernel_rfl) (by kernel_rfl) (by kernel_rfl) (fun _ _ _ _ _ h => h) rfl (by rfl) (S2 _ (by ((repeat (first | assumption | exact Ext.refl _ | (exact And.left (by assumption)) | refine Ext.alloc ?_ _ | refine Ext.drew ?_ | refine Ext.drewN ?_ _ | refine Ext.setCell ?_ (by simp) _ | refine Ext.setCell ?_ (by simp; omega) _ | refine Ext.trans ?_ (by assumption))); done))) ?_
     apply Exists.intro
     refine ⟨fun w' hw' => ?_, ?_⟩
     focus
      go_simp
      (try with_reducible rfl)
     (try dsimp only [Act.put])
     (try simp only [List.setIfInBounds_toArray])
     refine wpAnyW_take 7 (by kernel_rfl) (by kernel_rfl) (by kernel_rfl) (by kernel_rfl) (by kernel_rfl) (fun _ _ _ _ _ h => h) rfl (by rfl) (S2 _ (by ((repeat (first | assumption | exact Ext.refl _ | (exact And.left (by assumption)) | refine Ext.alloc ?_ _ | refine Ext.drew ?_ | refine Ext.drewN ?_ _ | refine Ext.setCell ?_ (by simp) _ | refine Ext.setCell ?_ (by simp; omega) _ | refine Ext.trans ?_ (by assumption))); done))) ?_
     apply Exists.intro
     refine ⟨fun w' hw' => ?_, ?_⟩
     focus
      go_simp
      (try with_reducible rfl)
     (try dsimp only [Act.put])
     (try simp only [List.setIfInBounds_toArray])
     refine wpAnyW_take 8 (by kernel_rfl) (by kernel_rfl) (by kernel_rfl) (by kernel_rfl) (by kernel_rfl) (fun _ _ _ _ _ h => h) rfl (by rfl) (S2 _ (by ((repeat (first | assumption | exact Ext.refl _ | (exact And.left (by assumption)) | refine Ext.alloc ?_ _ | refine Ext.drew ?_ | refine Ext.drewN ?_ _ | refine Ext.setCell ?_ (by simp) _ | refine Ext.setCell ?_ (by simp; omega) _ | refine Ext.trans ?_ (by assumption))); done))) ?_
     apply Exists.intro
     refine ⟨fun w' hw' => ?_, ?_⟩
     focus
      go_simp
      (try with_reducible rfl)
     (try dsimp only [Act.put])
     (try simp only [List.setIfInBounds_toArray])
     refine wpAnyW_one 10 (by kernel_rfl) rfl ?_
     go_wp2_with fail
     refine nextA_go (S2 _ (by ((repeat (first | assumption | exact Ext.refl _ | (exact And.left (by assumption)) | refine Ext.alloc ?_ _ | refine Ext.drew ?_ | refine Ext.drewN ?_ _ | refine Ext.setCell ?_ (by simp) _ | refine Ext.setCell ?_ (by simp; omega) _ | refine Ext.trans ?_ (by assumption))); done))) ?_
     refine wpAnyW_one 11 (by kernel_rfl) rfl ?_
     go_wp2_with fail
     refine nextA_go (S2 _ (by ((repeat (first | assumption | exact Ext.refl _ | (exact And.left (by assumption)) | refine Ext.alloc ?_ _ | refine Ext.drew ?_ | refine Ext.drewN ?_ _ | refine Ext.setCell ?_ (by simp) _ | refine Ext.setCell ?_ (by simp; omega) _ | refine Ext.trans ?_ (by assumption))); done))) ?_
     refine wpAnyW_one 12 (by kernel_rfl) rfl ?_
     go_wp2_with fail
     refine nextA_end rfl (by kernel_rfl) ?_
     go_wp2_with fail
     go_meet
     exact ⟨_, rfl, rfl, rfl, ext3 (w := u3) (by ((repeat (first | assumption | exact Ext.refl _ | (exact And.left (by assumption)) | refine Ext.alloc ?_ _ | refine Ext.drew ?_ | refine Ext.drewN ?_ _ | refine Ext.setCell ?_ (by simp) _ | refine Ext.setCell ?_ (by simp; omega) _ | refine Ext.trans ?_ (by assumption))); done)) _ _ _, HR9.out.box_late ⟨z0, z0'⟩ ⟨z1, z1'⟩ ⟨z2, z2'⟩ (by simp)⟩
   case rest =>
    obtain ⟨j, rfl, rfl, rfl, hE, hBJ⟩ := hcut
    have E4 := Lib.hid (E3.out.trans hE)
    obtain ⟨ia, ic, ib, id, ⟨i0, i0'⟩, ⟨i1, i1'⟩, ⟨i2, i2'⟩, hIV⟩ := (HBX.out.ext hE).ex
    obtain ⟨ja, jc, jb, jd, ⟨j0, j0'⟩, ⟨j1, j1'⟩, ⟨j2, j2'⟩, hJV⟩ := hBJ.ex
    have HIV := Lib.hid hIV
    have HJV := Lib.hid hJV
    clear hE hBJ hIV hJV x0 x1 x2 E3
    rename World => u4
    go_wp2_with (first
     | (go_at_call 18; (with_reducible refine (saveBegun_any _).mono ?_); rintro e w5 ⟨rfl, hb5⟩; have y0 := Ext.cell hb5 i0; have y1 := Ext.cell hb5 i1; have y2 := Ext.cell hb5 i2; have z0 := Ext.cell hb5 j0; have z1 := Ext.cell hb5 j1; have z2 := Ext.cell hb5 j2)
     | (go_at_call 15; (with_reducible refine (same_val R _ _ _ _ _ (StateV.stays (Ext.stays hb5) HIV.out) (StateV.stays (Ext.stays hb5) HJV.out)).mono ?_); rintro e w6 ⟨rfl, hb6⟩))
    go_ret
    exact ⟨rfl, (E4.out.trans hb5).trans hb6⟩
 ·have TR : (r != 0) = true := bne_iff_ne.2 hz
  clear hz
  go_wp2_with (first
   | (go_at_call 18; (with_reducible refine (saveBegun_any _).mono ?_); rintro e w5 ⟨rfl, hb5⟩))
  go_ret
  exact ⟨rfl, E1.out.trans hb5⟩
theorem contract (H : Type) (enc : TypeId × Value → H) (W : World) (base : Nat) (args : Array Value) (ds gs : List (DataW H)) (before : List MemPlace)
  (hval : ∀ (j : Nat) t v, Tryz.f4.params[j]? = some t → args[j]? = some v → Value.okWide Tryz.prog W .any base t v)
  (hW : DataW.Whole enc Tryz.prog Tryz.f4.params.toList Rows.saveOnSpec.vars false W args.toList ds gs before)
  (hsz : (DataW.weightsEach Tryz.prog (Tryz.f4.params.toList ++ Rows.saveOnSpec.plain.varTypes Tryz.prog) (ds ++ gs)).all (· ≤ reachBytes) = true) :
  Calls Tryz.prog 4 args W fun e W' => ∃ v, e = .returned v ∧ Rows.saveOnSpec.post enc Tryz.prog Tryz.f4 false true false false W args v W' := by
 have hW' := hW
 obtain ⟨p, q, hA, hV, rfl, hfz, hnd⟩ := hW
 rw [Tryz.params4] at hA hval
 obtain ⟨v0, vs0, d0, ds0, q0, t0, hargs, rfl, rfl, h0, r0⟩ := trodAll_cons hA
 obtain ⟨v1, vs1, d1, ds1, q1, t1, rfl, rfl, rfl, h1, r1⟩ := trodAll_cons r0
 obtain ⟨v2, vs2, d2, ds2, q2, t2, rfl, rfl, rfl, h2, r2⟩ := trodAll_cons r1
 obtain ⟨rfl, rfl, rfl⟩ := trodAll_nil r2
 obtain rfl : args = #[v0, v1, v2] := by cases args; simp_all
 obtain ⟨rfl, rfl⟩ := trodVars_none hV
 obtain ⟨a0, l0, c0, rfl⟩ := okWide_slice Tryz.underlying22 (hval 0 22 v0 rfl rfl)
 obtain ⟨fuel0, h0⟩ := h0
 obtain ⟨x0, h0⟩ := funcs_of_trod h0 (fun n hn => by
  have := List.all_eq_true.1 hsz n (DataW.weights_mem_each (j := 0) rfl rfl n hn)
  simpa using this)
 obtain ⟨x1, h1⟩ := state_of_trod (hval 1 26 v1 rfl rfl) h1 (fun n hn => by
  have := List.all_eq_true.1 hsz n (DataW.weights_mem_each (j := 1) rfl rfl n hn)
  simpa using this)
 obtain ⟨x2, rfl, rfl, rfl, wf2⟩ := open_int Tryz.underlying3 (hval 2 3 v2 rfl rfl) h2
 refine (walk W x0 _ h0 x1 _ h1 x2 (i64_of_wf wf2)).mono fun e W' ⟨he, hE⟩ => ⟨_, he, law_post laidOut ?_ rfl Tryz.underlying4 rfl hW' ?_ hE⟩
 ·rw [Tryz.params4]
  intro t ht
  simp at ht
  (try rcases ht with rfl | rfl | rfl) <;> exact ⟨by kernel_rfl, of_decide_eq_true (by kernel_rfl)⟩
 ·intro ds hds
  match ds, hds with
  | [d0, d1, d2], _ => exact ⟨rfl, rfl, rfl⟩
theorem lifted (os : Os) (started : os.Started) (H : Type) (enc : TypeId × Value → H) :
  ReturnsInHanded {} Tryz.checked os 4 .any (Rows.saveOnSpec.pre6 enc Tryz.prog Tryz.f4 Rows.saveOnRow.domain false) (Rows.saveOnSpec.post enc Tryz.prog Tryz.f4 false true false false) := by
 refine returnsInHanded_of_change_sized (C := Tryz.checked) own started (by kernel_rfl) Tryz.func4
  (ChangeSpec.witness6 (enc := enc) (C := Tryz.checked) false ⟨#[], #[.slice none 0 0, .agg #[.slice none 0 0, .int .i64 0, .slice none 0 0], .int .i64 0], []⟩ 8 (by kernel_rfl) (by kernel_rfl) (by kernel_rfl) (by kernel_rfl)) ?_
 intro W base args ds gs before hval hW _ hsz _
 exact contract H enc W base args ds gs before hval hW hsz
theorem proved : Rows.SaveOnSaid :=
 OpenClaim.holds_of_wide 4 Tryz.f4 rfl rfl rfl rfl rfl rfl rfl ⟨rfl, rfl, rfl, rfl, rfl⟩ rfl rfl rfl rfl rfl (by as_aux_lemma => kernel_rfl) Tryz.func4 (by as_aux_lemma => kernel_rfl)
  (of_decide_eq_true (by as_aux_lemma => kernel_rfl)) (by unfold Func.isWrapper; rw [if_neg (of_decide_eq_false (by as_aux_lemma => kernel_rfl))]; exact ⟨rfl, rfl⟩)
  (fun os started H enc _ => lifted os started H enc)
end Go.Proofs.YtgahbngbpfilgaaGreat.saveOn
