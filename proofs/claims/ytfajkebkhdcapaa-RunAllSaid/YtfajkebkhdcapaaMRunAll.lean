/- RunAll: for every input All of package run answers what the document's RunAll says. No condition. -/
import Derived.Test.YtfajkebkhdcapaaGRAA
import Derived.Test.YtfajkebkhdcapaaGRAX
import Derived.Test.YtfajkebkhdcapaaGRAZ
namespace Go.Proofs.Ytfajkebkhdcapaa.runAll
set_option maxHeartbeats 4000000
set_option maxRecDepth 100000
open Go Go.RowKit Go.ChangeShapes Go.WideShapes Go.ChangeAt

theorem walk (w : World) (p : List GFunc) (v : Value) (hp : Funcs w (fun _ => True) v p) (n : Int) (_ : I64 n) :
    Calls Try.prog 7 #[v, .int .i64 n] w fun e w' => e = .returned (.bool true) ∧ Ext w w' := by
  have HP := Lib.hid hp
  obtain ⟨a0, cap, rfl, _, _, _⟩ := hp
  have RA := alloc_keep
  obtain ⟨l, hl⟩ : ∃ l, (allG p n).1 = l := ⟨_, rfl⟩
  obtain ⟨k, hk⟩ : ∃ k, (allG p n).2.1 = k := ⟨_, rfl⟩
  obtain ⟨e, he⟩ : ∃ e, (allG p n).2.2 = e := ⟨_, rfl⟩
  have HL := Lib.hid hl
  have HK := Lib.hid hk
  have HE := Lib.hid he
  clear hl hk he
  go_enter Try.func7, Try.ntmps7
  go_wp2_with (first
    | (go_at_call 14; (with_reducible refine (runAll_any p _ _ n _ HP.out).mono ?_); rintro e w1 ⟨⟨x1, rfl, h1⟩, hb1⟩; rw [HL.out] at h1; rw [HK.out, HE.out]; have E1 := Lib.hid hb1; have H1 := Lib.hid h1; clear h1 hb1)
    | (go_at_call 21; (with_reducible refine (refRunAll_any p _ _ n _ (Funcs.stays (Ext.stays E1.out) HP.out)).mono ?_); rintro e w2 ⟨⟨x2, rfl, h2⟩, hb2⟩; rw [HL.out] at h2; rw [HK.out, HE.out]; have E2 := Lib.hid (E1.out.trans hb2); have H2 := Lib.hid h2; have H1 := Lib.hid (Ints.stays (Ext.stays hb2) H1.out); clear h2 hb2)
    | (go_at_call 22; (with_reducible refine (runBegun_any _).mono ?_); rintro e w3 ⟨rfl, hb3⟩; have E3 := Lib.hid (E2.out.trans hb3); have H2 := Lib.hid (Ints.stays (Ext.stays hb3) H2.out); have H1 := Lib.hid (Ints.stays (Ext.stays hb3) H1.out))
    | (go_at_call 16; (with_reducible refine (sameInts_any l l _ _ _ _ _ H1.out H2.out).mono ?_); rintro e w4 ⟨rfl, hb4⟩; rw [show decide (l = l) = true from decide_eq_true rfl]; have E4 := Lib.hid (E3.out.trans hb4)))
  go_ret
  exact ⟨rfl, E4.out⟩

theorem contract (H : Type) (enc : TypeId × Value → H) (W : World) (base : Nat) (args : Array Value) (ds gs : List (DataW H)) (before : List MemPlace)
    (hval : ∀ (j : Nat) t v, Try.f7.params[j]? = some t → args[j]? = some v → Value.okWide Try.prog W .any base t v)
    (hW : DataW.Whole enc Try.prog Try.f7.params.toList Rows.runAllSpec.vars false W args.toList ds gs before)
    (hsz : (DataW.weightsEach Try.prog (Try.f7.params.toList ++ Rows.runAllSpec.plain.varTypes Try.prog) (ds ++ gs)).all (· ≤ reachBytes) = true) :
    Calls Try.prog 7 args W fun e W' => ∃ v, e = .returned v ∧ Rows.runAllSpec.post enc Try.prog Try.f7 false true false false W args v W' := by
  have hW' := hW
  obtain ⟨p, q, hA, hV, rfl, hfz, hnd⟩ := hW
  rw [Try.params7] at hA hval
  obtain ⟨v0, vs0, d0, ds0, q0, t0, hargs, rfl, rfl, h0, r0⟩ := trodAll_cons hA
  obtain ⟨v1, vs1, d1, ds1, q1, t1, rfl, rfl, rfl, h1, r1⟩ := trodAll_cons r0
  obtain ⟨rfl, rfl, rfl⟩ := trodAll_nil r1
  obtain rfl : args = #[v0, v1] := by cases args; simp_all
  obtain ⟨rfl, rfl⟩ := trodVars_none hV
  obtain ⟨a0, l0, c0, rfl⟩ := okWide_slice Try.underlying22 (hval 0 22 v0 rfl rfl)
  obtain ⟨fuel0, h0⟩ := h0
  obtain ⟨x0, h0⟩ := funcs_of_trod h0 (fun n hn => by
    have := List.all_eq_true.1 hsz n (DataW.weights_mem_each (j := 0) rfl rfl n hn)
    simpa using this)
  obtain ⟨x1, rfl, rfl, rfl, wf1⟩ := open_int Try.underlying3 (hval 1 3 v1 rfl rfl) h1
  refine (walk W x0 _ h0 x1 (i64_of_wf wf1)).mono fun e W' ⟨he, hE⟩ => ⟨_, he, law_post laidOut ?_ rfl Try.underlying4 rfl hW' ?_ hE⟩
  · rw [Try.params7]
    intro t ht
    simp at ht
    (try rcases ht with rfl | rfl) <;> exact ⟨by kernel_rfl, of_decide_eq_true (by kernel_rfl)⟩
  · intro ds hds
    match ds, hds with
    | [d0, d1], _ => exact ⟨rfl, rfl, rfl⟩

theorem lifted (os : Os) (started : os.Started) (H : Type) (enc : TypeId × Value → H) :
    ReturnsInHanded {} Try.checked os 7 .any (Rows.runAllSpec.pre6 enc Try.prog Try.f7 Rows.runAllRow.domain false) (Rows.runAllSpec.post enc Try.prog Try.f7 false true false false) := by
  refine returnsInHanded_of_change_sized (C := Try.checked) own started (by kernel_rfl) Try.func7
    (ChangeSpec.witness6 (enc := enc) (C := Try.checked) false ⟨#[], #[.slice none 0 0, .int .i64 0], []⟩ 8 (by kernel_rfl) (by kernel_rfl) (by kernel_rfl) (by kernel_rfl)) ?_
  intro W base args ds gs before hval hW _ hsz _
  exact contract H enc W base args ds gs before hval hW hsz

theorem proved : Rows.RunAllSaid :=
  OpenClaim.holds_of_wide 7 Try.f7 rfl rfl rfl rfl rfl rfl rfl ⟨rfl, rfl, rfl, rfl, rfl⟩ rfl rfl rfl rfl rfl (by as_aux_lemma => kernel_rfl) Try.func7 (by as_aux_lemma => kernel_rfl)
    (of_decide_eq_true (by as_aux_lemma => kernel_rfl)) (by unfold Func.isWrapper; rw [if_neg (of_decide_eq_false (by as_aux_lemma => kernel_rfl))]; exact ⟨rfl, rfl⟩)
    (fun os started H enc _ => lifted os started H enc)
end Go.Proofs.Ytfajkebkhdcapaa.runAll

