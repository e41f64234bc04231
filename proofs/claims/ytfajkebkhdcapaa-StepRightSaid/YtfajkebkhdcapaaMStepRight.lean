/- StepRight: what comes of a right state is right; if it cannot go on, the error is one of five. No condition. -/
import Derived.Test.YtfajkebkhdcapaaGSAA
import Derived.Test.YtfajkebkhdcapaaGSAB
import Derived.Test.YtfajkebkhdcapaaGSAZ
namespace Go.Proofs.Ytfajkebkhdcapaa.stepRight
set_option maxHeartbeats 4000000
set_option maxRecDepth 100000
open Go Go.RowKit Go.ChangeShapes Go.WideShapes Go.ChangeAt

theorem walk (w : World) (p : List GFunc) (v : Value) (hp : Funcs w (fun _ => True) v p) (s : GState) (vs : Value) (hs : StateV w (fun _ => True) vs s) :
    Calls Try.prog 4 #[v, vs] w fun e w' => e = .returned (.bool true) ∧ Ext w w' := by
  have HP := Lib.hid hp
  have HS := Lib.hid hs
  obtain ⟨a0, cap, rfl, _, _, _⟩ := hp
  obtain ⟨sa, sc, sb, sd, rfl⟩ := hs.few
  have RA := alloc_keep
  have b0 := (Cx.new w [.slice sa s.fibers.length sc, .int .i64 s.now, .slice sb s.out.length sd] 35 (j := 0) rfl).1
  have b1 := (Cx.new w [.slice sa s.fibers.length sc, .int .i64 s.now, .slice sb s.out.length sd] 35 (j := 1) rfl).1
  have b2 := (Cx.new w [.slice sa s.fibers.length sc, .int .i64 s.now, .slice sb s.out.length sd] 35 (j := 2) rfl).1
  have E0 : Hid (Ext w (w.alloc (.cells #[.slice sa s.fibers.length sc, .int .i64 s.now, .slice sb s.out.length sd] 35))) := (Ext.refl w).alloc _
  by_cases hz : stateErr p s = 0
  · obtain ⟨⟨de, dt⟩, hd⟩ : ∃ r, doS p s = r := ⟨_, rfl⟩
    have HZ := Lib.hid hz
    have HD := Lib.hid hd
    by_cases he : (doS p s).1 = 0
    · have h2 := (doS_ok he).2.2.2.2
      rw [hd] at he h2
      have h0 : de = 0 := he
      subst h0
      have HT := Lib.hid h2
      clear hz hd he h2
      go_enter Try.func4, Try.ntmps4
      go_wp2_with (first
        | (go_at_call 17; have _z := E0.out; (with_reducible refine (stateCheck_any p _ _ _ s _ _ (Funcs.stays (Ext.stays E0.out) HP.out) (StateV.stays (Ext.stays E0.out) HS.out)).mono ?_); rintro e w1 ⟨rfl, hb1⟩; rw [HZ.out]; have b0 := Ext.cell hb1 b0; have b1 := Ext.cell hb1 b1; have b2 := Ext.cell hb1 b2; have E1 := Lib.hid (E0.out.trans hb1); clear E0 _z hb1)
        | (go_at_call 19; (with_reducible refine (stepDo_any p _ _ _ s _ _ (Funcs.stays (Ext.stays E1.out) HP.out) (StateV.stays (Ext.stays E1.out) HS.out)).mono ?_); rintro e w2 ⟨⟨x, rfl, hx⟩, hb2⟩; rw [HD.out] at hx; rw [HD.out]; have HX := Lib.hid hx.state; obtain ⟨ta, tc, tb, td, rfl⟩ := hx.few; have E2 := Lib.hid (E1.out.trans hb2); have HA := Lib.hid ((Ext.refl w2).alloc (.cells #[.slice ta dt.fibers.length tc, .int .i64 dt.now, .slice tb dt.out.length td] 35)); clear hx)
        | (go_at_call 18; (with_reducible refine (stepBegun_any _).mono ?_); rintro e w3 ⟨rfl, hb3⟩; have hk := Ext.keep hb3)
        | (go_at_call 17; (with_reducible refine (stateCheck_any p _ _ _ dt _ _ (Funcs.stays (Ext.stays ((E2.out.trans HA.out).trans hb3)) HP.out) (StateV.stays (Ext.stays (HA.out.trans hb3)) HX.out)).mono ?_); rintro e w4 ⟨rfl, hb4⟩; rw [HT.out]))
      go_ret
      exact ⟨rfl, ((E2.out.trans HA.out).trans hb3).trans hb4⟩
    · have h2 := doS_err hz he
      rw [hd] at h2 he
      obtain ⟨h2, h3⟩ := h2
      have h2 : dt = ⟨[], 0, []⟩ := h2
      subst h2
      have h3 : ∃ b : Bool, (s.now == -1) = b ∧ (de = 8 ∧ b = true ∨ b = false ∧ (de = 2 ∨ de = 5 ∨ de = 6 ∨ de = 7)) := by
        rcases h3 with ⟨h, k⟩ | ⟨h, k⟩
        · exact ⟨true, beq_iff_eq.2 k, .inl ⟨h, rfl⟩⟩
        · exact ⟨false, beq_eq_false_iff_ne.2 h, .inr ⟨rfl, k⟩⟩
      obtain ⟨b, hb, h3⟩ := h3
      clear hz hd he
      rcases h3 with ⟨rfl, rfl⟩ | ⟨rfl, rfl | rfl | rfl | rfl⟩
      all_goals
        go_enter Try.func4, Try.ntmps4
        go_wp2_with (first
          | (go_at_call 17; have _z := E0.out; (with_reducible refine (stateCheck_any p _ _ _ s _ _ (Funcs.stays (Ext.stays E0.out) HP.out) (StateV.stays (Ext.stays E0.out) HS.out)).mono ?_); rintro e w1 ⟨rfl, hb1⟩; rw [HZ.out]; have b0 := Ext.cell hb1 b0; have b1 := Ext.cell hb1 b1; have b2 := Ext.cell hb1 b2; have E1 := Lib.hid (E0.out.trans hb1); clear E0 _z hb1)
          | (go_at_call 19; (with_reducible refine (stepDo_any p _ _ _ s _ _ (Funcs.stays (Ext.stays E1.out) HP.out) (StateV.stays (Ext.stays E1.out) HS.out)).mono ?_); rintro e w2 ⟨⟨x, rfl, hx⟩, hb2⟩; rw [HD.out] at hx; rw [HD.out]; obtain ⟨ta, tc, tb, td, rfl⟩ := hx.few; have b0 := Ext.cell hb2 b0; have b1 := Ext.cell hb2 b1; have b2 := Ext.cell hb2 b2; have E2 := Lib.hid (E1.out.trans hb2); clear hx)
          | (go_at_call 18; (with_reducible refine (stepBegun_any _).mono ?_); rintro e w3 ⟨rfl, hb3⟩; have b1 := Ext.cell hb3 (Ext.cell ((Ext.refl w2).alloc (.cells #[.slice ta (([] : List GFiber)).length tc, .int .i64 0, .slice tb ([] : List Int).length td] 35)) b1)))
        go_ret
        exact ⟨rfl, (E2.out.alloc _).trans hb3⟩
  · have TB : (stateErr p s != 0) = true := bne_iff_ne.2 hz
    obtain ⟨se, hse⟩ : ∃ se, stateErr p s = se := ⟨_, rfl⟩
    rw [hse] at TB
    have HZ := Lib.hid hse
    clear hz hse
    go_enter Try.func4, Try.ntmps4
    go_wp2_with (first
      | (go_at_call 17; (with_reducible refine (stateCheck_any p _ _ _ s _ _ (Funcs.stays (Ext.stays E0.out) HP.out) (StateV.stays (Ext.stays E0.out) HS.out)).mono ?_); rintro e w1 ⟨rfl, hb1⟩; rw [HZ.out]; have E1 := Lib.hid (E0.out.trans hb1); clear hb1)
      | (go_at_call 18; (with_reducible refine (stepBegun_any _).mono ?_); rintro e w8 ⟨rfl, hb8⟩))
    go_ret
    exact ⟨rfl, E1.out.trans hb8⟩

theorem contract (H : Type) (enc : TypeId × Value → H) (W : World) (base : Nat) (args : Array Value) (ds gs : List (DataW H)) (before : List MemPlace)
    (hval : ∀ (j : Nat) t v, Try.f4.params[j]? = some t → args[j]? = some v → Value.okWide Try.prog W .any base t v)
    (hW : DataW.Whole enc Try.prog Try.f4.params.toList Rows.stepRightSpec.vars false W args.toList ds gs before)
    (hsz : (DataW.weightsEach Try.prog (Try.f4.params.toList ++ Rows.stepRightSpec.plain.varTypes Try.prog) (ds ++ gs)).all (· ≤ reachBytes) = true) :
    Calls Try.prog 4 args W fun e W' => ∃ v, e = .returned v ∧ Rows.stepRightSpec.post enc Try.prog Try.f4 false true false false W args v W' := by
  have hW' := hW
  obtain ⟨p, q, hA, hV, rfl, hfz, hnd⟩ := hW
  rw [Try.params4] at hA hval
  obtain ⟨v0, vs0, d0, ds0, q0, t0, hargs, rfl, rfl, h0, r0⟩ := trodAll_cons hA
  obtain ⟨v1, vs1, d1, ds1, q1, t1, rfl, rfl, rfl, h1, r1⟩ := trodAll_cons r0
  obtain ⟨rfl, rfl, rfl⟩ := trodAll_nil r1
  obtain rfl : args = #[v0, v1] := by cases args; simp_all
  obtain ⟨rfl, rfl⟩ := trodVars_none hV
  obtain ⟨a0, l0, c0, rfl⟩ := okWide_slice Try.underlying22 (hval 0 22 v0 rfl rfl)
  obtain ⟨fuel0, h0⟩ := h0
  obtain ⟨x0, h0⟩ := funcs_of_trod h0 (fun n hn => by
    have := List.all_eq_true.1 hsz n (DataW.weights_mem_each (j := 0) rfl rfl n hn)
    simpa using this)
  obtain ⟨x1, h1⟩ := state_of_trod (hval 1 35 v1 rfl rfl) h1 (fun n hn => by
    have := List.all_eq_true.1 hsz n (DataW.weights_mem_each (j := 1) rfl rfl n hn)
    simpa using this)
  refine (walk W x0 _ h0 x1 _ h1).mono fun e W' ⟨he, hE⟩ => ⟨_, he, law_post laidOut ?_ rfl Try.underlying4 rfl hW' ?_ hE⟩
  · rw [Try.params4]
    intro t ht
    simp at ht
    (try rcases ht with rfl | rfl) <;> exact ⟨by kernel_rfl, of_decide_eq_true (by kernel_rfl)⟩
  · intro ds hds
    match ds, hds with
    | [d0, d1], _ => exact ⟨rfl, rfl, rfl⟩

theorem lifted (os : Os) (started : os.Started) (H : Type) (enc : TypeId × Value → H) :
    ReturnsInHanded {} Try.checked os 4 .any (Rows.stepRightSpec.pre6 enc Try.prog Try.f4 Rows.stepRightRow.domain false) (Rows.stepRightSpec.post enc Try.prog Try.f4 false true false false) := by
  refine returnsInHanded_of_change_sized (C := Try.checked) own started (by kernel_rfl) Try.func4
    (ChangeSpec.witness6 (enc := enc) (C := Try.checked) false ⟨#[], #[.slice none 0 0, .agg #[.slice none 0 0, .int .i64 0, .slice none 0 0]], []⟩ 8 (by kernel_rfl) (by kernel_rfl) (by kernel_rfl) (by kernel_rfl)) ?_
  intro W base args ds gs before hval hW _ hsz _
  exact contract H enc W base args ds gs before hval hW hsz

theorem proved : Rows.StepRightSaid :=
  OpenClaim.holds_of_wide 4 Try.f4 rfl rfl rfl rfl rfl rfl rfl ⟨rfl, rfl, rfl, rfl, rfl⟩ rfl rfl rfl rfl rfl (by as_aux_lemma => kernel_rfl) Try.func4 (by as_aux_lemma => kernel_rfl)
    (of_decide_eq_true (by as_aux_lemma => kernel_rfl)) (by unfold Func.isWrapper; rw [if_neg (of_decide_eq_false (by as_aux_lemma => kernel_rfl))]; exact ⟨rfl, rfl⟩)
    (fun os started H enc _ => lifted os started H enc)
end Go.Proofs.Ytfajkebkhdcapaa.stepRight

