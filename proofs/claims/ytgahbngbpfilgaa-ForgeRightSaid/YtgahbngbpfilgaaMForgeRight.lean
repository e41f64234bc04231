/- ForgeRight: the program of an expression puts out just what the expression is worth, and no more. No condition. -/
import Derived.Test.YtgahbngbpfilgaaGFAA
import Derived.Test.YtgahbngbpfilgaaGFBF
import Derived.Test.YtgahbngbpfilgaaGFBG
set_option maxHeartbeats 4000000
set_option maxRecDepth 100000
namespace Go.Proofs.Ytgahbngbpfilgaa.forgeRight
open Go Go.RowKit Go.ChangeShapes Go.WideShapes Go.ChangeAt

theorem walk (w : World) (es : List GNode) (v : Value) (hp : Nodes w (fun _ => True) v es) (vals : List Int) (vv : Value) (hv : Ints w (fun _ => True) vv vals) :
    Calls Try.prog 8 #[v, vv] w fun e w' => e = .returned (.bool true) ∧ Ext w w' := by
  have HP := Lib.hid hp
  have HV := Lib.hid hv
  obtain ⟨a0, cap, rfl, _, _, _⟩ := hp
  obtain ⟨a9, vcap, rfl, _, _, _⟩ := hv
  have RA := alloc_keep
  obtain ⟨P, hP⟩ : ∃ P, forgePr es vals = P := ⟨_, rfl⟩
  by_cases h0 : forgeErr es vals = 0
  · obtain ⟨hx, hui, n, hn, hall⟩ := forge_all h0
    rw [hP] at hall
    obtain ⟨u, hu⟩ : ∃ u, valErr es vals = u := ⟨_, rfl⟩
    rw [hu] at hall hui
    have HUI := Lib.hid hui
    have HS := Lib.hid h0
    have HQ := Lib.hid hP
    have HU := Lib.hid hu
    have HX := Lib.hid hx
    have HALL := Lib.hid hall
    have TN : decide ((n : Int) < 60) = true := decide_eq_true (by omega)
    clear h0 hP hu hx hall hui
    go_enter Try.func8, Try.ntmps8
    go_wp2_with (first
      | (go_at_call 19; (with_reducible refine (forgeProg_at es vals _ _ _ HP.out HV.out HS.out HQ.out rfl).mono ?_); rintro e w2 ⟨⟨a2, c2, rfl, hf2⟩, hb2⟩)
      | (go_at_call 30; (with_reducible refine (exprValue_val es _ vals _ _ (Nodes.stays (Ext.stays hb2) HP.out) (Ints.stays (Ext.stays hb2) HV.out) _ _ HU.out HX.out).mono ?_); rintro e w3 ⟨rfl, hb3⟩)
      | (go_at_call 27; (with_reducible refine (all_val P _ _ 500 _ (Funcs.stays (Ext.stays hb3) hf2) HALL.out (n := 1) rfl).mono ?_); rintro e w4 ⟨⟨a4, c4, rfl, hl4⟩, hb4⟩)
      | (go_at_call 22; (with_reducible refine (forgeBegun_any _).mono ?_); rintro e w5 ⟨rfl, hb5⟩)
      | (go_at_call 28; (with_reducible refine (sameInts_any [u] [u] _ _ _ _ _ (Ints.stays (Ext.stays (Ext.trans hb5 ((Ext.refl _).alloc _))) hl4) (ints_lone _ u HUI.out _)).mono ?_); rintro e w6 ⟨rfl, hb6⟩))
    go_ret
    exact ⟨rfl, hb2.trans (hb3.trans (hb4.trans (hb5.trans (Ext.trans ((Ext.refl _).alloc _) hb6))))⟩
  · have TB : (forgeErr es vals != 0) = true := bne_iff_ne.2 h0
    obtain ⟨s, hs⟩ : ∃ s, forgeErr es vals = s := ⟨_, rfl⟩
    rw [hs] at TB
    have HS := Lib.hid hs
    have HQ := Lib.hid hP
    clear h0 hs hP
    go_enter Try.func8, Try.ntmps8
    go_wp2_with (first
      | (go_at_call 19; (with_reducible refine (forgeProg_at es vals _ _ _ HP.out HV.out HS.out HQ.out rfl).mono ?_); rintro e w2 ⟨⟨a2, c2, rfl, hf2⟩, hb2⟩)
      | (go_at_call 22; (with_reducible refine (forgeBegun_any _).mono ?_); rintro e w5 ⟨rfl, hb5⟩))
    go_ret
    exact ⟨rfl, hb2.trans hb5⟩

theorem contract (H : Type) (enc : TypeId × Value → H) (W : World) (base : Nat) (args : Array Value) (ds gs : List (DataW H)) (before : List MemPlace)
    (hval : ∀ (j : Nat) t v, Try.f8.params[j]? = some t → args[j]? = some v → Value.okWide Try.prog W .any base t v)
    (hW : DataW.Whole enc Try.prog Try.f8.params.toList Rows.forgeRightSpec.vars false W args.toList ds gs before)
    (hsz : (DataW.weightsEach Try.prog (Try.f8.params.toList ++ Rows.forgeRightSpec.plain.varTypes Try.prog) (ds ++ gs)).all (· ≤ reachBytes) = true) :
    Calls Try.prog 8 args W fun e W' => ∃ v, e = .returned v ∧ Rows.forgeRightSpec.post enc Try.prog Try.f8 false true false false W args v W' := by
  have hW' := hW
  obtain ⟨p, q, hA, hV, rfl, hfz, hnd⟩ := hW
  rw [Try.params8] at hA hval
  obtain ⟨v0, vs0, d0, ds0, q0, t0, hargs, rfl, rfl, h0, r0⟩ := trodAll_cons hA
  obtain ⟨v1, vs1, d1, ds1, q1, t1, rfl, rfl, rfl, h1, r1⟩ := trodAll_cons r0
  obtain ⟨rfl, rfl, rfl⟩ := trodAll_nil r1
  obtain rfl : args = #[v0, v1] := by cases args; simp_all
  obtain ⟨rfl, rfl⟩ := trodVars_none hV
  obtain ⟨a0, l0, c0, rfl⟩ := okWide_slice Try.underlying40 (hval 0 40 v0 rfl rfl)
  obtain ⟨fuel0, h0⟩ := h0
  obtain ⟨x0, h0⟩ := nodes_of_trod h0 (fun n hn => by
    have := List.all_eq_true.1 hsz n (DataW.weights_mem_each (j := 0) rfl rfl n hn)
    simpa using this)
  obtain ⟨a1, l1, c1, rfl⟩ := okWide_slice Try.underlying24 (hval 1 24 v1 rfl rfl)
  obtain ⟨fuel1, h1⟩ := h1
  obtain ⟨x1, h1⟩ := intl_of_trod h1 (fun n hn => by
    have := List.all_eq_true.1 hsz n (DataW.weights_mem_each (j := 1) rfl rfl n hn)
    simpa using this)
  refine (walk W x0 _ h0 x1 _ h1).mono fun e W' ⟨he, hE⟩ => ⟨_, he, law_post laidOut ?_ rfl Try.underlying4 rfl hW' ?_ hE⟩
  · rw [Try.params8]
    intro t ht
    simp at ht
    (try rcases ht with rfl | rfl) <;> exact ⟨by kernel_rfl, of_decide_eq_true (by kernel_rfl)⟩
  · intro ds hds
    match ds, hds with
    | [d0, d1], _ => exact ⟨rfl, rfl, rfl⟩

theorem lifted (os : Os) (started : os.Started) (H : Type) (enc : TypeId × Value → H) :
    ReturnsInHanded {} Try.checked os 8 .any (Rows.forgeRightSpec.pre6 enc Try.prog Try.f8 Rows.forgeRightRow.domain false) (Rows.forgeRightSpec.post enc Try.prog Try.f8 false true false false) := by
  refine returnsInHanded_of_change_sized (C := Try.checked) own started (by kernel_rfl) Try.func8
    (ChangeSpec.witness6 (enc := enc) (C := Try.checked) false ⟨#[], #[.slice none 0 0, .slice none 0 0], []⟩ 8 (by kernel_rfl) (by kernel_rfl) (by kernel_rfl) (by kernel_rfl)) ?_
  intro W base args ds gs before hval hW _ hsz _
  exact contract H enc W base args ds gs before hval hW hsz

theorem proved : Rows.ForgeRightSaid :=
  OpenClaim.holds_of_wide 8 Try.f8 rfl rfl rfl rfl rfl rfl rfl ⟨rfl, rfl, rfl, rfl, rfl⟩ rfl rfl rfl rfl rfl (by as_aux_lemma => kernel_rfl) Try.func8 (by as_aux_lemma => kernel_rfl)
    (of_decide_eq_true (by as_aux_lemma => kernel_rfl)) (by unfold Func.isWrapper; rw [if_neg (of_decide_eq_false (by as_aux_lemma => kernel_rfl))]; exact ⟨rfl, rfl⟩)
    (fun os started H enc _ => lifted os started H enc)
end Go.Proofs.Ytgahbngbpfilgaa.forgeRight

