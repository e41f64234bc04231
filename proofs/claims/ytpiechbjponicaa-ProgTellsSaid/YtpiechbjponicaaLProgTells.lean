/- ProgTells: for every input Check and Calls of package prog answer what the document's ProgError, CallsError and CallsOf say. No condition. -/
import Derived.Test.YtpiechbjponicaaLaw
import Derived.Test.YtpiechbjponicaaProgB
set_option maxHeartbeats 2000000
set_option maxRecDepth 100000
namespace Go.Proofs.Ytpiechbjponicaa.progTells
open Go Go.RowKit Go.ChangeShapes Go.WideShapes Go.ChangeAt

theorem walk (w : World) (p : List GFunc) (v : Value) (hp : Funcs w (fun _ => True) v p) (f : Int) (_ : I64 f) :
    Calls Try.prog 11 #[v, .int .i64 f] w fun e w' => e = .returned (.bool true) ∧ Ext w w' := by
  have HP := Lib.hid hp
  obtain ⟨a0, cap, rfl, _, _, _⟩ := hp
  obtain ⟨c, hc⟩ : ∃ c, cErr p f = c := ⟨_, rfl⟩
  have HC := Lib.hid hc
  by_cases hz : c = 0
  · subst hz
    have hin : 0 ≤ f ∧ f < p.length ∧ progErr p = 0 := by
      by_cases h1 : progErr p = 0
      · by_cases h2 : 0 ≤ f ∧ f < p.length
        · exact ⟨h2.1, h2.2, h1⟩
        · rw [cErr_out h1 h2] at hc; cases hc
      · rw [cErr_bad h1] at hc; exact absurd hc h1
    obtain ⟨hf0, hf1, hpe⟩ := hin
    have hRP := progErr_zero hpe
    obtain ⟨n, rfl⟩ : ∃ n : Nat, f = n := ⟨f.toNat, by omega⟩
    have hn : n < p.length := by omega
    clear hc hpe
    go_enter Try.func11, Try.ntmps11
    go_wp2_with (first
      | (go_at_call 29; (with_reducible refine (progCalls_any p _ (fun _ => True) n _ HP.out).mono ?_); rintro e w1 ⟨⟨a1, c1, o1, rfl, hl1, hi1⟩, hb1⟩; rw [HC.out]; unfold CallsIs at hi1; rw [if_pos HC.out, Int.toNat_natCast] at hi1)
      | (go_at_call 30; (with_reducible refine (callsError_any p _ (fun _ => True) n _ (Funcs.stays hb1.stays HP.out)).mono ?_); rintro e w2 ⟨rfl, hb2⟩; rw [HC.out])
      | (go_at_call 31; (with_reducible refine (callsOf_any p _ (fun _ => True) n _ (Funcs.stays (hb1.trans hb2).stays HP.out) hRP hn).mono ?_); rintro e w3 ⟨⟨o3, rfl, hi3, hr3⟩, hb3⟩; have ho := hi3.eq hi1; have hl3 := hr3.bools (by have := hi3.len; have := hRP.most; omega) (fun _ => True) (fun _ _ => trivial); clear hr3 hi3 hi1; subst ho)
      | (go_at_call 32; (with_reducible refine (progBegun_any _).mono ?_); rintro e w4 ⟨rfl, hb4⟩)
      | (go_at_call 33; (with_reducible refine (progCheck_any p _ (fun _ => True) _ (Funcs.stays (((hb1.trans hb2).trans hb3).trans hb4).stays HP.out)).mono ?_); rintro e w5 ⟨rfl, hb5⟩)
      | (go_at_call 34; (with_reducible refine (progError_any p _ (fun _ => True) _ (Funcs.stays ((((hb1.trans hb2).trans hb3).trans hb4).trans hb5).stays HP.out)).mono ?_); rintro e w6 ⟨rfl, hb6⟩)
      | (go_at_call 35; (with_reducible refine (sameBools_any o3 o3 _ _ (fun _ => True) (fun _ => True) _ (Bools.stays ((((hb2.trans hb3).trans hb4).trans hb5).trans hb6).stays hl1) (Bools.stays ((hb4.trans hb5).trans hb6).stays hl3)).mono ?_); rintro e w7 ⟨rfl, hb7⟩))
    go_ret
    exact ⟨rfl, by ((repeat (first | assumption | exact Ext.refl _ | (exact And.left (by assumption)) | refine Ext.alloc ?_ _ | refine Ext.drew ?_ | refine Ext.drewN ?_ _ | refine Ext.setCell ?_ (by simp) _ | refine Ext.setCell ?_ (by simp; omega) _ | refine Ext.trans ?_ (by assumption))); done)⟩
  · have TB : (c == 0) = false := beq_eq_false_iff_ne.2 hz
    clear hc
    go_enter Try.func11, Try.ntmps11
    go_wp2_with (first
      | (go_at_call 29; (with_reducible refine (progCalls_any p _ (fun _ => True) f _ HP.out).mono ?_); rintro e w1 ⟨⟨a1, c1, o1, rfl, hl1, hi1⟩, hb1⟩; rw [HC.out]; unfold CallsIs at hi1; rw [if_neg (by rw [HC.out]; exact hz)] at hi1; subst hi1; replace hl1 : Bools w1 (fun _ => True) (.slice a1 0 c1) [] := hl1)
      | (go_at_call 30; (with_reducible refine (callsError_any p _ (fun _ => True) f _ (Funcs.stays hb1.stays HP.out)).mono ?_); rintro e w2 ⟨rfl, hb2⟩; rw [HC.out])
      | (go_at_call 32; (with_reducible refine (progBegun_any _).mono ?_); rintro e w4 ⟨rfl, hb4⟩)
      | (go_at_call 33; (with_reducible refine (progCheck_any p _ (fun _ => True) _ (Funcs.stays ((hb1.trans hb2).trans hb4).stays HP.out)).mono ?_); rintro e w5 ⟨rfl, hb5⟩)
      | (go_at_call 34; (with_reducible refine (progError_any p _ (fun _ => True) _ (Funcs.stays (((hb1.trans hb2).trans hb4).trans hb5).stays HP.out)).mono ?_); rintro e w6 ⟨rfl, hb6⟩)
      | (go_at_call 35; (refine (sameBools_any [] [] _ _ (fun _ => True) (fun _ => True) _ (Bools.stays (((hb2.trans hb4).trans hb5).trans hb6).stays hl1) (Sl.nil _ _ _)).mono ?_); rintro e w7 ⟨rfl, hb7⟩))
    go_ret
    exact ⟨rfl, by ((repeat (first | assumption | exact Ext.refl _ | (exact And.left (by assumption)) | refine Ext.alloc ?_ _ | refine Ext.drew ?_ | refine Ext.drewN ?_ _ | refine Ext.setCell ?_ (by simp) _ | refine Ext.setCell ?_ (by simp; omega) _ | refine Ext.trans ?_ (by assumption))); done)⟩

theorem contract (H : Type) (enc : TypeId × Value → H) (W : World) (base : Nat) (args : Array Value) (ds gs : List (DataW H)) (before : List MemPlace)
    (hval : ∀ (j : Nat) t v, Try.f11.params[j]? = some t → args[j]? = some v → Value.okWide Try.prog W .any base t v)
    (hW : DataW.Whole enc Try.prog Try.f11.params.toList Rows.progTellsSpec.vars false W args.toList ds gs before)
    (hsz : (DataW.weightsEach Try.prog (Try.f11.params.toList ++ Rows.progTellsSpec.plain.varTypes Try.prog) (ds ++ gs)).all (· ≤ reachBytes) = true) :
    Calls Try.prog 11 args W fun e W' => ∃ v, e = .returned v ∧ Rows.progTellsSpec.post enc Try.prog Try.f11 false true false false W args v W' := by
  have hW' := hW
  obtain ⟨p, q, hA, hV, rfl, hfz, hnd⟩ := hW
  rw [Try.params11] at hA hval
  obtain ⟨v0, vs0, d0, ds0, q0, t0, hargs, rfl, rfl, h0, r0⟩ := trodAll_cons hA
  obtain ⟨v1, vs1, d1, ds1, q1, t1, rfl, rfl, rfl, h1, r1⟩ := trodAll_cons r0
  obtain ⟨rfl, rfl, rfl⟩ := trodAll_nil r1
  obtain rfl : args = #[v0, v1] := by cases args; simp_all
  obtain ⟨rfl, rfl⟩ := trodVars_none hV
  obtain ⟨a0, l0, c0, rfl⟩ := okWide_slice Try.underlying22 (hval 0 22 v0 rfl rfl)
  obtain ⟨fuel0, h0⟩ := h0
  obtain ⟨x0, h0⟩ := funcs_of_trod h0 (fun n hn => by
    have := List.all_eq_true.1 hsz n (DataW.weights_mem_each (j := 0) rfl rfl n hn)
    simpa using this)
  obtain ⟨x1, rfl, rfl, rfl, wf1⟩ := open_int Try.underlying3 (hval 1 3 v1 rfl rfl) h1
  refine (walk W x0 _ h0 x1 (i64_of_wf wf1)).mono fun e W' ⟨he, hE⟩ => ⟨_, he, law_post laidOut ?_ rfl Try.underlying4 rfl hW' ?_ hE⟩
  · rw [Try.params11]
    intro t ht
    simp at ht
    (try rcases ht with rfl | rfl) <;> exact ⟨by kernel_rfl, of_decide_eq_true (by kernel_rfl)⟩
  · intro ds hds
    match ds, hds with
    | [d0, d1], _ => exact ⟨rfl, rfl, rfl⟩

theorem lifted (os : Os) (started : os.Started) (H : Type) (enc : TypeId × Value → H) :
    ReturnsInHanded {} Try.checked os 11 .any (Rows.progTellsSpec.pre6 enc Try.prog Try.f11 Rows.progTellsRow.domain false) (Rows.progTellsSpec.post enc Try.prog Try.f11 false true false false) := by
  refine returnsInHanded_of_change_sized (C := Try.checked) own started (by kernel_rfl) Try.func11
    (ChangeSpec.witness6 (enc := enc) (C := Try.checked) false ⟨#[], #[.slice none 0 0, .int .i64 0], []⟩ 8 (by kernel_rfl) (by kernel_rfl) (by kernel_rfl) (by kernel_rfl)) ?_
  intro W base args ds gs before hval hW _ hsz _
  exact contract H enc W base args ds gs before hval hW hsz

theorem proved : Rows.ProgTellsSaid :=
  OpenClaim.holds_of_wide 11 Try.f11 rfl rfl rfl rfl rfl rfl rfl ⟨rfl, rfl, rfl, rfl, rfl⟩ rfl rfl rfl rfl rfl (by as_aux_lemma => kernel_rfl) Try.func11 (by as_aux_lemma => kernel_rfl)
    (of_decide_eq_true (by as_aux_lemma => kernel_rfl)) (by unfold Func.isWrapper; rw [if_neg (of_decide_eq_false (by as_aux_lemma => kernel_rfl))]; exact ⟨rfl, rfl⟩)
    (fun os started H enc _ => lifted os started H enc)
end Go.Proofs.Ytpiechbjponicaa.progTells

