/- StepDoes: for every input Do of package step answers what the document's StepOf says. No condition. -/
import Derived.Test.YtfajkebkhdcapaaGreatGVAA
import Derived.Test.YtfajkebkhdcapaaGreatGVAB
import Derived.Test.YtfajkebkhdcapaaGreatGVAQ
import Derived.Test.YtfajkebkhdcapaaGreatGVAZ
namespace Go.Proofs.YtfajkebkhdcapaaGreat.stepDoes
set_option maxHeartbeats 4000000
set_option maxRecDepth 100000
open Go Go.RowKit Go.ChangeShapes Go.WideShapes Go.ChangeAt

theorem walk (w : World) (p : List GFunc) (v : Value) (hp : Funcs w (fun _ => True) v p) (s : GState) (vs : Value) (hs : StateV w (fun _ => True) vs s) :
    Calls Tryz.prog 3 #[v, vs] w fun e w' => e = .returned (.bool true) ∧ Ext w w' := by
  have HP := Lib.hid hp
  have HS := Lib.hid hs
  obtain ⟨a0, cap, rfl, _, _, _⟩ := hp
  obtain ⟨sa, sc, sb, sd, rfl⟩ := hs.few
  have RA := alloc_keep
  have b0 := (Cx.new w [.slice sa s.fibers.length sc, .int .i64 s.now, .slice sb s.out.length sd] 26 (j := 0) rfl).1
  have b1 := (Cx.new w [.slice sa s.fibers.length sc, .int .i64 s.now, .slice sb s.out.length sd] 26 (j := 1) rfl).1
  have b2 := (Cx.new w [.slice sa s.fibers.length sc, .int .i64 s.now, .slice sb s.out.length sd] 26 (j := 2) rfl).1
  have E0 : Hid (Ext w (w.alloc (.cells #[.slice sa s.fibers.length sc, .int .i64 s.now, .slice sb s.out.length sd] 26))) := (Ext.refl w).alloc _
  obtain ⟨⟨de, t⟩, hd⟩ : ∃ r, doS p s = r := ⟨_, rfl⟩
  have HD := Lib.hid hd
  clear hd
  go_enter Tryz.func3, Tryz.ntmps3
  go_wp2_with (first
    | (go_at_call 6; (with_reducible refine (stepDo_any p _ _ _ s _ _ (Funcs.stays (Ext.stays E0.out) HP.out) (StateV.stays (Ext.stays E0.out) HS.out)).mono ?_); rintro e w2 ⟨⟨x, rfl, hx⟩, hb2⟩; rw [HD.out] at hx; rw [HD.out]; obtain ⟨ta, tc, tb, td, rfl⟩ := hx.few; have hq := (hb2.alloc (.cells #[.slice ta t.fibers.length tc, .int .i64 t.now, .slice tb t.out.length td] 26)); have HX := Lib.hid (hx.ext ((Ext.refl w2).alloc (.cells #[.slice ta t.fibers.length tc, .int .i64 t.now, .slice tb t.out.length td] 26))).state; replace b0 := Ext.cell hq b0; replace b1 := Ext.cell hq b1; replace b2 := Ext.cell hq b2; have E2 := Lib.hid (E0.out.trans hq); have x0 := (Cx.new w2 [.slice ta t.fibers.length tc, .int .i64 t.now, .slice tb t.out.length td] 26 (j := 0) rfl).1; have x1 := (Cx.new w2 [.slice ta t.fibers.length tc, .int .i64 t.now, .slice tb t.out.length td] 26 (j := 1) rfl).1; have x2 := (Cx.new w2 [.slice ta t.fibers.length tc, .int .i64 t.now, .slice tb t.out.length td] 26 (j := 2) rfl).1; clear hx hq hb2)
    | (go_at_call 7; (with_reducible refine (stepOf_any p _ _ _ s _ _ (Funcs.stays (Ext.stays E2.out) HP.out) (StateV.stays (Ext.stays E2.out) HS.out)).mono ?_); rintro e w3 ⟨⟨y, rfl, hy⟩, hb3⟩; rw [HD.out] at hy; rw [HD.out]; obtain ⟨ya, yc, yb, yd, rfl⟩ := hy.few; have hq := (hb3.alloc (.cells #[.slice ya t.fibers.length yc, .int .i64 t.now, .slice yb t.out.length yd] 26)); have HY := Lib.hid (hy.ext ((Ext.refl w3).alloc (.cells #[.slice ya t.fibers.length yc, .int .i64 t.now, .slice yb t.out.length yd] 26))).state; replace x0 := Ext.cell hq x0; replace x1 := Ext.cell hq x1; replace x2 := Ext.cell hq x2; have E3 := Lib.hid (E2.out.trans hq); have HX := Lib.hid (StateV.stays (Ext.stays hq) HX.out); have y0 := (Cx.new w3 [.slice ya t.fibers.length yc, .int .i64 t.now, .slice yb t.out.length yd] 26 (j := 0) rfl).1; have y1 := (Cx.new w3 [.slice ya t.fibers.length yc, .int .i64 t.now, .slice yb t.out.length yd] 26 (j := 1) rfl).1; have y2 := (Cx.new w3 [.slice ya t.fibers.length yc, .int .i64 t.now, .slice yb t.out.length yd] 26 (j := 2) rfl).1; clear hy hq hb3)
    | (go_at_call 8; (with_reducible refine (stepBegun_any _).mono ?_); rintro e w4 ⟨rfl, hb4⟩; replace x0 := Ext.cell hb4 x0; replace x1 := Ext.cell hb4 x1; replace x2 := Ext.cell hb4 x2; replace y0 := Ext.cell hb4 y0; replace y1 := Ext.cell hb4 y1; replace y2 := Ext.cell hb4 y2; have E4 := Lib.hid (E3.out.trans hb4); have HX := Lib.hid (StateV.stays (Ext.stays hb4) HX.out); have HY := Lib.hid (StateV.stays (Ext.stays hb4) HY.out); clear hb4)
    | (go_at_call 9; (with_reducible refine (sameStates_any t t _ _ _ _ _ HX.out HY.out).mono ?_); rintro e w5 ⟨rfl, hb5⟩; rw [show decide (t = t) = true from decide_eq_true rfl]))
  go_ret
  exact ⟨rfl, E4.out.trans hb5⟩

theorem contract (H : Type) (enc : TypeId × Value → H) (W : World) (base : Nat) (args : Array Value) (ds gs : List (DataW H)) (before : List MemPlace)
    (hval : ∀ (j : Nat) t v, Tryz.f3.params[j]? = some t → args[j]? = some v → Value.okWide Tryz.prog W .any base t v)
    (hW : DataW.Whole enc Tryz.prog Tryz.f3.params.toList Rows.stepDoesSpec.vars false W args.toList ds gs before)
    (hsz : (DataW.weightsEach Tryz.prog (Tryz.f3.params.toList ++ Rows.stepDoesSpec.plain.varTypes Tryz.prog) (ds ++ gs)).all (· ≤ reachBytes) = true) :
    Calls Tryz.prog 3 args W fun e W' => ∃ v, e = .returned v ∧ Rows.stepDoesSpec.post enc Tryz.prog Tryz.f3 false true false false W args v W' := by
  have hW' := hW
  obtain ⟨p, q, hA, hV, rfl, hfz, hnd⟩ := hW
  rw [Tryz.params3] at hA hval
  obtain ⟨v0, vs0, d0, ds0, q0, t0, hargs, rfl, rfl, h0, r0⟩ := trodAll_cons hA
  obtain ⟨v1, vs1, d1, ds1, q1, t1, rfl, rfl, rfl, h1, r1⟩ := trodAll_cons r0
  obtain ⟨rfl, rfl, rfl⟩ := trodAll_nil r1
  obtain rfl : args = #[v0, v1] := by cases args; simp_all
  obtain ⟨rfl, rfl⟩ := trodVars_none hV
  obtain ⟨a0, l0, c0, rfl⟩ := okWide_slice Tryz.underlying22 (hval 0 22 v0 rfl rfl)
  obtain ⟨fuel0, h0⟩ := h0
  obtain ⟨x0, h0⟩ := funcs_of_trod h0 (fun n hn => by
    have := List.all_eq_true.1 hsz n (DataW.weights_mem_each (j := 0) rfl rfl n hn)
    simpa using this)
  obtain ⟨x1, h1⟩ := state_of_trod (hval 1 26 v1 rfl rfl) h1 (fun n hn => by
    have := List.all_eq_true.1 hsz n (DataW.weights_mem_each (j := 1) rfl rfl n hn)
    simpa using this)
  refine (walk W x0 _ h0 x1 _ h1).mono fun e W' ⟨he, hE⟩ => ⟨_, he, law_post laidOut ?_ rfl Tryz.underlying4 rfl hW' ?_ hE⟩
  · rw [Tryz.params3]
    intro t ht
    simp at ht
    (try rcases ht with rfl | rfl) <;> exact ⟨by kernel_rfl, of_decide_eq_true (by kernel_rfl)⟩
  · intro ds hds
    match ds, hds with
    | [d0, d1], _ => exact ⟨rfl, rfl, rfl⟩

theorem lifted (os : Os) (started : os.Started) (H : Type) (enc : TypeId × Value → H) :
    ReturnsInHanded {} Tryz.checked os 3 .any (Rows.stepDoesSpec.pre6 enc Tryz.prog Tryz.f3 Rows.stepDoesRow.domain false) (Rows.stepDoesSpec.post enc Tryz.prog Tryz.f3 false true false false) := by
  refine returnsInHanded_of_change_sized (C := Tryz.checked) own started (by kernel_rfl) Tryz.func3
    (ChangeSpec.witness6 (enc := enc) (C := Tryz.checked) false ⟨#[], #[.slice none 0 0, .agg #[.slice none 0 0, .int .i64 0, .slice none 0 0]], []⟩ 8 (by kernel_rfl) (by kernel_rfl) (by kernel_rfl) (by kernel_rfl)) ?_
  intro W base args ds gs before hval hW _ hsz _
  exact contract H enc W base args ds gs before hval hW hsz

theorem proved : Rows.StepDoesSaid :=
  OpenClaim.holds_of_wide 3 Tryz.f3 rfl rfl rfl rfl rfl rfl rfl ⟨rfl, rfl, rfl, rfl, rfl⟩ rfl rfl rfl rfl rfl (by as_aux_lemma => kernel_rfl) Tryz.func3 (by as_aux_lemma => kernel_rfl)
    (of_decide_eq_true (by as_aux_lemma => kernel_rfl)) (by unfold Func.isWrapper; rw [if_neg (of_decide_eq_false (by as_aux_lemma => kernel_rfl))]; exact ⟨rfl, rfl⟩)
    (fun os started H enc _ => lifted os started H enc)
end Go.Proofs.YtfajkebkhdcapaaGreat.stepDoes

