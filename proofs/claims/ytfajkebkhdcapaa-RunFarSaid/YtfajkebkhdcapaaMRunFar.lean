/- RunFar: with more fuel no less is done: what was put out stays ahead of what is put out later. No condition. -/
import Derived.Test.YtfajkebkhdcapaaGSAA
import Derived.Test.YtfajkebkhdcapaaGSAC
import Derived.Test.YtfajkebkhdcapaaGSAZ
namespace Go.Proofs.Ytfajkebkhdcapaa.runFar
set_option maxHeartbeats 4000000
set_option maxRecDepth 100000
open Go Go.RowKit Go.ChangeShapes Go.WideShapes Go.ChangeAt

theorem walk (w : World) (p : List GFunc) (v : Value) (hp : Funcs w (fun _ => True) v p) (a : Int) (ha : I64 a) (b : Int) (hb : I64 b) :
    Calls Try.prog 9 #[v, .int .i64 a, .int .i64 b] w fun e w' => e = .returned (.bool true) ∧ Ext w w' := by
  have HP := Lib.hid hp
  have HA := Lib.hid ha
  have HB := Lib.hid hb
  obtain ⟨a0, cap, rfl, _, _, _⟩ := hp
  have RA := alloc_keep
  obtain ⟨m, hm⟩ : ∃ m, chooseOf a 250 = m := ⟨_, rfl⟩
  have hml := chooseOf_lt a 250 (by omega)
  obtain ⟨n, hn⟩ : ∃ m, chooseOf b 250 = m := ⟨_, rfl⟩
  have hnl := chooseOf_lt b 250 (by omega)
  rw [hm] at hml
  rw [hn] at hnl
  have HM := Lib.hid hm
  have HN := Lib.hid hn
  obtain ⟨⟨x, i, e⟩, hx⟩ : ∃ r, allG p m = r := ⟨_, rfl⟩
  obtain ⟨⟨y, j, f⟩, hy⟩ : ∃ r, allG p (m + n) = r := ⟨_, rfl⟩
  have HX := Lib.hid hx
  have HY := Lib.hid hy
  clear ha hb hm hn
  have M0 := hml.1
  have M1 : m ≤ 249 := by omega
  have N0 := hnl.1
  have N1 : n ≤ 249 := by omega
  clear hml hnl
  by_cases hz : progErr p = 0
  · have hf := farF hz M0 M1 N0 N1
    rw [hx, hy] at hf
    obtain ⟨⟨f1, f2⟩, f3, f4, f5, f6, f7⟩ := hf
    dsimp only at f1 f2 f3 f4 f5 f6 f7
    have HZ := Lib.hid hz
    have HF6 := Lib.hid f6
    have T1 : decide (i ≤ m) = true := decide_eq_true f2
    have T2 : decide (j ≤ m + n) = true := decide_eq_true f3
    have T3 : decide (i ≤ j) = true := decide_eq_true f4
    have T4 : decide ((x.length : Int) ≤ (y.length : Int)) = true := decide_eq_true (by omega)
    have F5 := f5
    have f7 : (e == 0) = true ∨ ((e == 0) = false ∧ e = f ∧ i = j) := by
      rcases f7 with h | ⟨h, k⟩
      · exact .inl (beq_iff_eq.2 h)
      · exact .inr ⟨beq_eq_false_iff_ne.2 h, k⟩
    clear hx hy hz f1 f2 f3 f4 f6
    rcases f7 with T5 | ⟨T5, rfl, rfl⟩
    all_goals
      go_enter Try.func9, Try.ntmps9
      go_wp2_with (first
        | (go_at_call 15; (with_reducible refine (choose_any a 250 _ HA.out (by omega) (by omega)).mono ?_); rintro e w1 ⟨rfl, rfl⟩; rw [HM.out])
        | (go_at_call 15; (with_reducible refine (choose_any b 250 _ HB.out (by omega) (by omega)).mono ?_); rintro e w1 ⟨rfl, rfl⟩; rw [HN.out])
        | (go_at_call 14; (with_reducible refine (runAll_any p _ _ m _ HP.out).mono ?_); rintro e w2 ⟨⟨x2, rfl, h2⟩, hb2⟩; rw [HX.out] at h2; rw [HX.out]; have HL := Lib.hid h2; obtain ⟨xa, xc, rfl, _⟩ := h2; have E2 := Lib.hid hb2; clear hb2)
        | (go_at_call 14; (with_reducible refine (runAll_any p _ _ (m + n) _ (Funcs.stays (Ext.stays E2.out) HP.out)).mono ?_); rintro e w3 ⟨⟨x3, rfl, h3⟩, hb3⟩; rw [HY.out] at h3; rw [HY.out]; have HK := Lib.hid h3; obtain ⟨ya, yc, rfl, ycl, ybd, _⟩ := h3; have E3 := Lib.hid (E2.out.trans hb3); have HL := Lib.hid (Ints.stays (Ext.stays hb3) HL.out); clear hb3)
        | (go_at_call 24; (with_reducible refine (progCheck_any p _ _ _ (Funcs.stays (Ext.stays E3.out) HP.out)).mono ?_); rintro e w4 ⟨rfl, hb4⟩; rw [HZ.out]; have E4 := Lib.hid (E3.out.trans hb4); have HL := Lib.hid (Ints.stays (Ext.stays hb4) HL.out); have HK := Lib.hid (Ints.stays (Ext.stays hb4) HK.out); clear hb4)
        | (go_at_call 22; (with_reducible refine (runBegun_any _).mono ?_); rintro e w5 ⟨rfl, hb5⟩; have E5 := Lib.hid (E4.out.trans hb5); have HL := Lib.hid (Ints.stays (Ext.stays hb5) HL.out); have HK := Lib.hid (Ints.front (Ints.stays (Ext.stays hb5) HK.out) F5 HF6.out); clear hb5)
        | (go_at_call 16; (with_reducible refine (sameInts_any x x _ _ _ _ _ HK.out HL.out).mono ?_); rintro e w6 ⟨rfl, hb6⟩; rw [show decide (x = x) = true from decide_eq_true rfl]))
      go_ret
      exact ⟨rfl, E5.out.trans hb6⟩
  · have TB : (progErr p != 0) = true := bne_iff_ne.2 hz
    have hall : ∀ k : Int, 0 ≤ k → k ≤ 500 → allG p k = ([], 0, progErr p) := fun k h0 h1 => by unfold allG; rw [if_neg (fun k => k ⟨h0, h1⟩), if_pos hz]
    rw [hall m M0 (by omega)] at hx
    rw [hall (m + n) (by omega) (by omega)] at hy
    simp only [Prod.mk.injEq] at hx hy
    obtain ⟨rfl, rfl, rfl⟩ := hx
    obtain ⟨rfl, rfl, rfl⟩ := hy
    obtain ⟨re, hre⟩ : ∃ re, progErr p = re := ⟨_, rfl⟩
    have HZ := Lib.hid hre
    rw [hre] at TB
    have HX := Lib.hid (HX.out.trans (by rw [hre]))
    have HY := Lib.hid (HY.out.trans (by rw [hre]))
    clear hz hall hre
    go_enter Try.func9, Try.ntmps9
    go_wp2_with (first
      | (go_at_call 15; (with_reducible refine (choose_any a 250 _ HA.out (by omega) (by omega)).mono ?_); rintro e w1 ⟨rfl, rfl⟩; rw [HM.out])
      | (go_at_call 15; (with_reducible refine (choose_any b 250 _ HB.out (by omega) (by omega)).mono ?_); rintro e w1 ⟨rfl, rfl⟩; rw [HN.out])
      | (go_at_call 14; (with_reducible refine (runAll_any p _ _ m _ HP.out).mono ?_); rintro e w2 ⟨⟨x2, rfl, h2⟩, hb2⟩; rw [HX.out] at h2; rw [HX.out]; obtain ⟨xa, xc, rfl⟩ := ints0 h2; have E2 := Lib.hid hb2; clear hb2 h2)
      | (go_at_call 14; (with_reducible refine (runAll_any p _ _ (m + n) _ (Funcs.stays (Ext.stays E2.out) HP.out)).mono ?_); rintro e w3 ⟨⟨x3, rfl, h3⟩, hb3⟩; rw [HY.out] at h3; rw [HY.out]; obtain ⟨ya, yc, rfl⟩ := ints0 h3; have E3 := Lib.hid (E2.out.trans hb3); clear hb3 h3)
      | (go_at_call 24; (with_reducible refine (progCheck_any p _ _ _ (Funcs.stays (Ext.stays E3.out) HP.out)).mono ?_); rintro e w4 ⟨rfl, hb4⟩; rw [HZ.out]; have E4 := Lib.hid (E3.out.trans hb4); clear hb4)
      | (go_at_call 22; (with_reducible refine (runBegun_any _).mono ?_); rintro e w5 ⟨rfl, hb5⟩))
    go_ret
    exact ⟨rfl, E4.out.trans hb5⟩

theorem contract (H : Type) (enc : TypeId × Value → H) (W : World) (base : Nat) (args : Array Value) (ds gs : List (DataW H)) (before : List MemPlace)
    (hval : ∀ (j : Nat) t v, Try.f9.params[j]? = some t → args[j]? = some v → Value.okWide Try.prog W .any base t v)
    (hW : DataW.Whole enc Try.prog Try.f9.params.toList Rows.runFarSpec.vars false W args.toList ds gs before)
    (hsz : (DataW.weightsEach Try.prog (Try.f9.params.toList ++ Rows.runFarSpec.plain.varTypes Try.prog) (ds ++ gs)).all (· ≤ reachBytes) = true) :
    Calls Try.prog 9 args W fun e W' => ∃ v, e = .returned v ∧ Rows.runFarSpec.post enc Try.prog Try.f9 false true false false W args v W' := by
  have hW' := hW
  obtain ⟨p, q, hA, hV, rfl, hfz, hnd⟩ := hW
  rw [Try.params9] at hA hval
  obtain ⟨v0, vs0, d0, ds0, q0, t0, hargs, rfl, rfl, h0, r0⟩ := trodAll_cons hA
  obtain ⟨v1, vs1, d1, ds1, q1, t1, rfl, rfl, rfl, h1, r1⟩ := trodAll_cons r0
  obtain ⟨v2, vs2, d2, ds2, q2, t2, rfl, rfl, rfl, h2, r2⟩ := trodAll_cons r1
  obtain ⟨rfl, rfl, rfl⟩ := trodAll_nil r2
  obtain rfl : args = #[v0, v1, v2] := by cases args; simp_all
  obtain ⟨rfl, rfl⟩ := trodVars_none hV
  obtain ⟨a0, l0, c0, rfl⟩ := okWide_slice Try.underlying22 (hval 0 22 v0 rfl rfl)
  obtain ⟨fuel0, h0⟩ := h0
  obtain ⟨x0, h0⟩ := funcs_of_trod h0 (fun n hn => by
    have := List.all_eq_true.1 hsz n (DataW.weights_mem_each (j := 0) rfl rfl n hn)
    simpa using this)
  obtain ⟨x1, rfl, rfl, rfl, wf1⟩ := open_int Try.underlying3 (hval 1 3 v1 rfl rfl) h1
  obtain ⟨x2, rfl, rfl, rfl, wf2⟩ := open_int Try.underlying3 (hval 2 3 v2 rfl rfl) h2
  refine (walk W x0 _ h0 x1 (i64_of_wf wf1) x2 (i64_of_wf wf2)).mono fun e W' ⟨he, hE⟩ => ⟨_, he, law_post laidOut ?_ rfl Try.underlying4 rfl hW' ?_ hE⟩
  · rw [Try.params9]
    intro t ht
    simp at ht
    (try rcases ht with rfl | rfl) <;> exact ⟨by kernel_rfl, of_decide_eq_true (by kernel_rfl)⟩
  · intro ds hds
    match ds, hds with
    | [d0, d1, d2], _ => exact ⟨rfl, rfl, rfl⟩

theorem lifted (os : Os) (started : os.Started) (H : Type) (enc : TypeId × Value → H) :
    ReturnsInHanded {} Try.checked os 9 .any (Rows.runFarSpec.pre6 enc Try.prog Try.f9 Rows.runFarRow.domain false) (Rows.runFarSpec.post enc Try.prog Try.f9 false true false false) := by
  refine returnsInHanded_of_change_sized (C := Try.checked) own started (by kernel_rfl) Try.func9
    (ChangeSpec.witness6 (enc := enc) (C := Try.checked) false ⟨#[], #[.slice none 0 0, .int .i64 0, .int .i64 0], []⟩ 8 (by kernel_rfl) (by kernel_rfl) (by kernel_rfl) (by kernel_rfl)) ?_
  intro W base args ds gs before hval hW _ hsz _
  exact contract H enc W base args ds gs before hval hW hsz

theorem proved : Rows.RunFarSaid :=
  OpenClaim.holds_of_wide 9 Try.f9 rfl rfl rfl rfl rfl rfl rfl ⟨rfl, rfl, rfl, rfl, rfl⟩ rfl rfl rfl rfl rfl (by as_aux_lemma => kernel_rfl) Try.func9 (by as_aux_lemma => kernel_rfl)
    (of_decide_eq_true (by as_aux_lemma => kernel_rfl)) (by unfold Func.isWrapper; rw [if_neg (of_decide_eq_false (by as_aux_lemma => kernel_rfl))]; exact ⟨rfl, rfl⟩)
    (fun os started H enc _ => lifted os started H enc)
end Go.Proofs.Ytfajkebkhdcapaa.runFar

