/- RunEnds: where running stops, fuel is used up, or all is done, or the next step has the error that is told. No condition. -/
import Derived.Test.YtfajkebkhdcapaaGSAA
import Derived.Test.YtfajkebkhdcapaaGSAB
import Derived.Test.YtfajkebkhdcapaaGSAC
import Derived.Test.YtfajkebkhdcapaaGSAZ
namespace Go.Proofs.Ytfajkebkhdcapaa.runEnds
set_option maxHeartbeats 4000000
set_option maxRecDepth 100000
open Go Go.RowKit Go.ChangeShapes Go.WideShapes Go.ChangeAt

theorem walk (w : World) (p : List GFunc) (v : Value) (hp : Funcs w (fun _ => True) v p) (s : GState) (vs : Value) (hs : StateV w (fun _ => True) vs s) (c : Int) (hc : I64 c) :
    Calls Try.prog 10 #[v, vs, .int .i64 c] w fun e w' => e = .returned (.bool true) ∧ Ext w w' := by
  have HP := Lib.hid hp
  have HS := Lib.hid hs
  have HC := Lib.hid hc
  obtain ⟨a0, cap, rfl, _, _, _⟩ := hp
  obtain ⟨sa, sc, sb, sd, rfl⟩ := hs.few
  have RA := alloc_keep
  have b0 := (Cx.new w [.slice sa s.fibers.length sc, .int .i64 s.now, .slice sb s.out.length sd] 35 (j := 0) rfl).1
  have b1 := (Cx.new w [.slice sa s.fibers.length sc, .int .i64 s.now, .slice sb s.out.length sd] 35 (j := 1) rfl).1
  have b2 := (Cx.new w [.slice sa s.fibers.length sc, .int .i64 s.now, .slice sb s.out.length sd] 35 (j := 2) rfl).1
  have E0 : Hid (Ext w (w.alloc (.cells #[.slice sa s.fibers.length sc, .int .i64 s.now, .slice sb s.out.length sd] 35))) := (Ext.refl w).alloc _
  obtain ⟨m, hm⟩ : ∃ m, chooseOf c 501 = m := ⟨_, rfl⟩
  have hml := chooseOf_lt c 501 (by omega)
  rw [hm] at hml
  have HM := Lib.hid hm
  obtain ⟨⟨t, n, re⟩, hr⟩ : ∃ r, runOfG p s m = r := ⟨_, rfl⟩
  have HR := Lib.hid hr
  clear hc hm
  by_cases hz : stateErr p s = 0
  · have hE := endF hz hml.1 (by omega)
    rw [hr] at hE
    obtain ⟨h1, h2, h3, h4, h5⟩ := hE
    dsimp only at h1 h2 h3 h4 h5
    have HZ := Lib.hid hz
    have HT := Lib.hid h1
    obtain ⟨⟨de, dt⟩, hd⟩ : ∃ r, doS p t = r := ⟨_, rfl⟩
    have HD := Lib.hid hd
    rw [hd] at h4 h5
    have T1 : decide (n < 0) = false := decide_eq_false (by omega)
    have T2 : decide (m < n) = false := decide_eq_false (by omega)
    by_cases he : re = 0
    · subst he
      have h6 := h5 rfl
      have h7 : ((n == m) = true) ∨ ((n == m) = false ∧ (t.now == -1) = true ∧ de = 8) := by
        by_cases e : n = m
        · exact .inl (beq_iff_eq.2 e)
        · rcases h6 with h6 | ⟨h6, h7⟩
          · exact absurd h6 e
          · exact .inr ⟨beq_eq_false_iff_ne.2 e, beq_iff_eq.2 h6, h7⟩
      clear hml hr hz hd h1 h2 h3 h4 h5 h6
      rcases h7 with T3 | ⟨T3, T4, rfl⟩
      all_goals
        go_enter Try.func10, Try.ntmps10
        go_wp2_with (first
          | (go_at_call 15; (with_reducible refine (choose_any c 501 _ HC.out (by omega) (by omega)).mono ?_); rintro e w1 ⟨rfl, rfl⟩; rw [HM.out])
          | (go_at_call 23; (with_reducible refine (runRun_any p _ _ _ s _ m _ (Funcs.stays (Ext.stays E0.out) HP.out) (StateV.stays (Ext.stays E0.out) HS.out)).mono ?_); rintro e w2 ⟨⟨x, rfl, hx⟩, hb2⟩; rw [HR.out] at hx; rw [HR.out]; have HX := Lib.hid hx.state; obtain ⟨ta, tc, tb, td, rfl⟩ := hx.few; have b0 := Ext.cell hb2 b0; have b1 := Ext.cell hb2 b1; have b2 := Ext.cell hb2 b2; have E2 := Lib.hid (E0.out.trans hb2); have HA := Lib.hid ((Ext.refl w2).alloc (.cells #[.slice ta t.fibers.length tc, .int .i64 t.now, .slice tb t.out.length td] 35)); have x0 := (Cx.new w2 [.slice ta t.fibers.length tc, .int .i64 t.now, .slice tb t.out.length td] 35 (j := 0) rfl).1; have x1 := (Cx.new w2 [.slice ta t.fibers.length tc, .int .i64 t.now, .slice tb t.out.length td] 35 (j := 1) rfl).1; have x2 := (Cx.new w2 [.slice ta t.fibers.length tc, .int .i64 t.now, .slice tb t.out.length td] 35 (j := 2) rfl).1; clear hx)
          | (go_at_call 17; have _z := E0.out; (with_reducible refine (stateCheck_any p _ _ _ s _ _ (Funcs.stays (Ext.stays (E2.out.trans HA.out)) HP.out) (StateV.stays (Ext.stays (E2.out.trans HA.out)) HS.out)).mono ?_); rintro e w3 ⟨rfl, hb3⟩; rw [HZ.out]; have x0 := Ext.cell hb3 x0; have x1 := Ext.cell hb3 x1; have x2 := Ext.cell hb3 x2; have E3 := Lib.hid ((E2.out.trans HA.out).trans hb3); have HX := Lib.hid (StateV.stays (Ext.stays (HA.out.trans hb3)) HX.out); clear _z E0 hb3)
          | (go_at_call 17; (with_reducible refine (stateCheck_any p _ _ _ t _ _ (Funcs.stays (Ext.stays E3.out) HP.out) HX.out).mono ?_); rintro e w4 ⟨rfl, hb4⟩; rw [HT.out]; have x0 := Ext.cell hb4 x0; have x1 := Ext.cell hb4 x1; have x2 := Ext.cell hb4 x2; have E4 := Lib.hid (E3.out.trans hb4); have HX := Lib.hid (StateV.stays (Ext.stays hb4) HX.out); clear hb4)
          | (go_at_call 19; (with_reducible refine (stepDo_any p _ _ _ t _ _ (Funcs.stays (Ext.stays E4.out) HP.out) HX.out).mono ?_); rintro e w5 ⟨⟨y, rfl, hy⟩, hb5⟩; rw [HD.out] at hy; rw [HD.out]; obtain ⟨ya, yc, yb, yd, rfl⟩ := hy.few; have E5 := Lib.hid (E4.out.trans (hb5.alloc (.cells #[.slice ya dt.fibers.length yc, .int .i64 dt.now, .slice yb dt.out.length yd] 35))); have x1 := Ext.cell (hb5.alloc (.cells #[.slice ya dt.fibers.length yc, .int .i64 dt.now, .slice yb dt.out.length yd] 35)) x1; clear hy)
          | (go_at_call 22; (with_reducible refine (runBegun_any _).mono ?_); rintro e w6 ⟨rfl, hb6⟩; have x1 := Ext.cell hb6 x1))
        go_ret
        exact ⟨rfl, E5.out.trans hb6⟩
    · obtain ⟨h7, h8, h9⟩ := h4 he
      have h9 : de = re := h9
      subst h9
      have T3 : (de != 0) = true := bne_iff_ne.2 he
      have T4 : decide (n < m) = true := decide_eq_true h7
      have T5 : decide (0 ≤ t.now) = true := decide_eq_true h8
      clear hml hr hz hd h1 h2 h3 h4 h5 h7 h8 he
      go_enter Try.func10, Try.ntmps10
      go_wp2_with (first
        | (go_at_call 15; (with_reducible refine (choose_any c 501 _ HC.out (by omega) (by omega)).mono ?_); rintro e w1 ⟨rfl, rfl⟩; rw [HM.out])
        | (go_at_call 23; (with_reducible refine (runRun_any p _ _ _ s _ m _ (Funcs.stays (Ext.stays E0.out) HP.out) (StateV.stays (Ext.stays E0.out) HS.out)).mono ?_); rintro e w2 ⟨⟨x, rfl, hx⟩, hb2⟩; rw [HR.out] at hx; rw [HR.out]; have HX := Lib.hid hx.state; obtain ⟨ta, tc, tb, td, rfl⟩ := hx.few; have b0 := Ext.cell hb2 b0; have b1 := Ext.cell hb2 b1; have b2 := Ext.cell hb2 b2; have E2 := Lib.hid (E0.out.trans hb2); have HA := Lib.hid ((Ext.refl w2).alloc (.cells #[.slice ta t.fibers.length tc, .int .i64 t.now, .slice tb t.out.length td] 35)); have x0 := (Cx.new w2 [.slice ta t.fibers.length tc, .int .i64 t.now, .slice tb t.out.length td] 35 (j := 0) rfl).1; have x1 := (Cx.new w2 [.slice ta t.fibers.length tc, .int .i64 t.now, .slice tb t.out.length td] 35 (j := 1) rfl).1; have x2 := (Cx.new w2 [.slice ta t.fibers.length tc, .int .i64 t.now, .slice tb t.out.length td] 35 (j := 2) rfl).1; clear hx)
        | (go_at_call 17; have _z := E0.out; (with_reducible refine (stateCheck_any p _ _ _ s _ _ (Funcs.stays (Ext.stays (E2.out.trans HA.out)) HP.out) (StateV.stays (Ext.stays (E2.out.trans HA.out)) HS.out)).mono ?_); rintro e w3 ⟨rfl, hb3⟩; rw [HZ.out]; have x0 := Ext.cell hb3 x0; have x1 := Ext.cell hb3 x1; have x2 := Ext.cell hb3 x2; have E3 := Lib.hid ((E2.out.trans HA.out).trans hb3); have HX := Lib.hid (StateV.stays (Ext.stays (HA.out.trans hb3)) HX.out); clear _z E0 hb3)
        | (go_at_call 17; (with_reducible refine (stateCheck_any p _ _ _ t _ _ (Funcs.stays (Ext.stays E3.out) HP.out) HX.out).mono ?_); rintro e w4 ⟨rfl, hb4⟩; rw [HT.out]; have x0 := Ext.cell hb4 x0; have x1 := Ext.cell hb4 x1; have x2 := Ext.cell hb4 x2; have E4 := Lib.hid (E3.out.trans hb4); have HX := Lib.hid (StateV.stays (Ext.stays hb4) HX.out); clear hb4)
        | (go_at_call 19; (with_reducible refine (stepDo_any p _ _ _ t _ _ (Funcs.stays (Ext.stays E4.out) HP.out) HX.out).mono ?_); rintro e w5 ⟨⟨y, rfl, hy⟩, hb5⟩; rw [HD.out] at hy; rw [HD.out]; obtain ⟨ya, yc, yb, yd, rfl⟩ := hy.few; have E5 := Lib.hid (E4.out.trans (hb5.alloc (.cells #[.slice ya dt.fibers.length yc, .int .i64 dt.now, .slice yb dt.out.length yd] 35))); have x1 := Ext.cell (hb5.alloc (.cells #[.slice ya dt.fibers.length yc, .int .i64 dt.now, .slice yb dt.out.length yd] 35)) x1; clear hy)
        | (go_at_call 22; (with_reducible refine (runBegun_any _).mono ?_); rintro e w6 ⟨rfl, hb6⟩; have x1 := Ext.cell hb6 x1))
      go_ret
      exact ⟨rfl, E5.out.trans hb6⟩
  · have TB : (stateErr p s != 0) = true := bne_iff_ne.2 hz
    have hb := runOf_bad hz hml.1 (show m ≤ 500 by omega)
    rw [hr] at hb
    simp only [Prod.mk.injEq] at hb
    obtain ⟨rfl, rfl, rfl⟩ := hb
    obtain ⟨se, hse⟩ : ∃ se, stateErr p s = se := ⟨_, rfl⟩
    rw [hse] at TB
    have HZ := Lib.hid hse
    clear hz hse hr hml
    go_enter Try.func10, Try.ntmps10
    go_wp2_with (first
      | (go_at_call 15; (with_reducible refine (choose_any c 501 _ HC.out (by omega) (by omega)).mono ?_); rintro e w1 ⟨rfl, rfl⟩; rw [HM.out])
      | (go_at_call 23; (with_reducible refine (runRun_any p _ _ _ s _ m _ (Funcs.stays (Ext.stays E0.out) HP.out) (StateV.stays (Ext.stays E0.out) HS.out)).mono ?_); rintro e w2 ⟨⟨x, rfl, hx⟩, hb2⟩; rw [HR.out] at hx; rw [HR.out]; obtain ⟨ta, tc, tb, td, rfl⟩ := hx.few0; have b0 := Ext.cell hb2 b0; have b1 := Ext.cell hb2 b1; have b2 := Ext.cell hb2 b2; have E2 := Lib.hid ((E0.out.trans hb2).alloc (.cells #[.slice ta 0 tc, .int .i64 0, .slice tb 0 td] 35)); clear hx)
      | (go_at_call 17; (with_reducible refine (stateCheck_any p _ _ _ s _ _ (Funcs.stays (Ext.stays E2.out) HP.out) (StateV.stays (Ext.stays E2.out) HS.out)).mono ?_); rintro e w3 ⟨rfl, hb3⟩; rw [HZ.out]; have E3 := Lib.hid (E2.out.trans hb3); clear hb3)
      | (go_at_call 22; (with_reducible refine (runBegun_any _).mono ?_); rintro e w8 ⟨rfl, hb8⟩))
    go_ret
    exact ⟨rfl, E3.out.trans hb8⟩

theorem contract (H : Type) (enc : TypeId × Value → H) (W : World) (base : Nat) (args : Array Value) (ds gs : List (DataW H)) (before : List MemPlace)
    (hval : ∀ (j : Nat) t v, Try.f10.params[j]? = some t → args[j]? = some v → Value.okWide Try.prog W .any base t v)
    (hW : DataW.Whole enc Try.prog Try.f10.params.toList Rows.runEndsSpec.vars false W args.toList ds gs before)
    (hsz : (DataW.weightsEach Try.prog (Try.f10.params.toList ++ Rows.runEndsSpec.plain.varTypes Try.prog) (ds ++ gs)).all (· ≤ reachBytes) = true) :
    Calls Try.prog 10 args W fun e W' => ∃ v, e = .returned v ∧ Rows.runEndsSpec.post enc Try.prog Try.f10 false true false false W args v W' := by
  have hW' := hW
  obtain ⟨p, q, hA, hV, rfl, hfz, hnd⟩ := hW
  rw [Try.params10] at hA hval
  obtain ⟨v0, vs0, d0, ds0, q0, t0, hargs, rfl, rfl, h0, r0⟩ := trodAll_cons hA
  obtain ⟨v1, vs1, d1, ds1, q1, t1, rfl, rfl, rfl, h1, r1⟩ := trodAll_cons r0
  obtain ⟨v2, vs2, d2, ds2, q2, t2, rfl, rfl, rfl, h2, r2⟩ := trodAll_cons r1
  obtain ⟨rfl, rfl, rfl⟩ := trodAll_nil r2
  obtain rfl : args = #[v0, v1, v2] := by cases args; simp_all
  obtain ⟨rfl, rfl⟩ := trodVars_none hV
  obtain ⟨a0, l0, c0, rfl⟩ := okWide_slice Try.underlying22 (hval 0 22 v0 rfl rfl)
  obtain ⟨fuel0, h0⟩ := h0
  obtain ⟨x0, h0⟩ := funcs_of_trod h0 (fun n hn => by
    have := List.all_eq_true.1 hsz n (DataW.weights_mem_each (j := 0) rfl rfl n hn)
    simpa using this)
  obtain ⟨x1, h1⟩ := state_of_trod (hval 1 35 v1 rfl rfl) h1 (fun n hn => by
    have := List.all_eq_true.1 hsz n (DataW.weights_mem_each (j := 1) rfl rfl n hn)
    simpa using this)
  obtain ⟨x2, rfl, rfl, rfl, wf2⟩ := open_int Try.underlying3 (hval 2 3 v2 rfl rfl) h2
  refine (walk W x0 _ h0 x1 _ h1 x2 (i64_of_wf wf2)).mono fun e W' ⟨he, hE⟩ => ⟨_, he, law_post laidOut ?_ rfl Try.underlying4 rfl hW' ?_ hE⟩
  · rw [Try.params10]
    intro t ht
    simp at ht
    (try rcases ht with rfl | rfl | rfl) <;> exact ⟨by kernel_rfl, of_decide_eq_true (by kernel_rfl)⟩
  · intro ds hds
    match ds, hds with
    | [d0, d1, d2], _ => exact ⟨rfl, rfl, rfl⟩

theorem lifted (os : Os) (started : os.Started) (H : Type) (enc : TypeId × Value → H) :
    ReturnsInHanded {} Try.checked os 10 .any (Rows.runEndsSpec.pre6 enc Try.prog Try.f10 Rows.runEndsRow.domain false) (Rows.runEndsSpec.post enc Try.prog Try.f10 false true false false) := by
  refine returnsInHanded_of_change_sized (C := Try.checked) own started (by kernel_rfl) Try.func10
    (ChangeSpec.witness6 (enc := enc) (C := Try.checked) false ⟨#[], #[.slice none 0 0, .agg #[.slice none 0 0, .int .i64 0, .slice none 0 0], .int .i64 0], []⟩ 8 (by kernel_rfl) (by kernel_rfl) (by kernel_rfl) (by kernel_rfl)) ?_
  intro W base args ds gs before hval hW _ hsz _
  exact contract H enc W base args ds gs before hval hW hsz

theorem proved : Rows.RunEndsSaid :=
  OpenClaim.holds_of_wide 10 Try.f10 rfl rfl rfl rfl rfl rfl rfl ⟨rfl, rfl, rfl, rfl, rfl⟩ rfl rfl rfl rfl rfl (by as_aux_lemma => kernel_rfl) Try.func10 (by as_aux_lemma => kernel_rfl)
    (of_decide_eq_true (by as_aux_lemma => kernel_rfl)) (by unfold Func.isWrapper; rw [if_neg (of_decide_eq_false (by as_aux_lemma => kernel_rfl))]; exact ⟨rfl, rfl⟩)
    (fun os started H enc _ => lifted os started H enc)
end Go.Proofs.Ytfajkebkhdcapaa.runEnds

