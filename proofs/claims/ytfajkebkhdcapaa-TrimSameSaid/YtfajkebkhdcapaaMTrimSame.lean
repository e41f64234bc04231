/- TrimSame: trimmed, the same is put out, by as many steps, with the same error. No condition. -/
import Derived.Test.YtfajkebkhdcapaaGUAA
import Derived.Test.YtfajkebkhdcapaaGUAC
import Derived.Test.YtfajkebkhdcapaaGUAD
import Derived.Test.YtfajkebkhdcapaaGUAJ
import Derived.Test.YtfajkebkhdcapaaGUBA
namespace Go.Proofs.Ytfajkebkhdcapaa.trimSame
set_option maxHeartbeats 4000000
set_option maxRecDepth 100000
open Go Go.RowKit Go.ChangeShapes Go.WideShapes Go.ChangeAt

theorem walk (w : World) (p : List GFunc) (v : Value) (hp : Funcs w (fun _ => True) v p) (c : Int) (hc : I64 c) :
    Calls Try.prog 3 #[v, .int .i64 c] w fun e w' => e = .returned (.bool true) ∧ Ext w w' := by
  have HP := Lib.hid hp
  have HC := Lib.hid hc
  obtain ⟨a0, cap, rfl, _, _, _⟩ := hp
  have RA := alloc_keep
  obtain ⟨m, hm⟩ : ∃ m, chooseOf c 501 = m := ⟨_, rfl⟩
  have HM := Lib.hid hm
  clear hc hm
  by_cases hz : progErr p = 0
  · obtain ⟨q, hq⟩ : ∃ q, trimP p = q := ⟨_, rfl⟩
    have hqe : q = p.map (trimG p) := by rw [← hq]; unfold trimP; rw [if_pos hz]
    obtain ⟨⟨l, n, re⟩, hr⟩ : ∃ r, allG p m = r := ⟨_, rfl⟩
    have hr2 : allG q m = (l, n, re) := by rw [hqe, trim_all hz, hr]
    have HQ := Lib.hid hq
    have HR := Lib.hid hr
    have HR2 := Lib.hid hr2
    have HZ := Lib.hid hz
    clear hz hq hqe hr hr2
    go_enter Try.func3, Try.ntmps3
    go_wp2_with (first
      | (go_at_call 12; (with_reducible refine (trimAll_any p _ _ _ HP.out).mono ?_); rintro e w1 ⟨⟨x, rfl, hx⟩, hb1⟩; rw [HQ.out] at hx; rw [HZ.out]; have HX := Lib.hid hx.wide; obtain ⟨qa, qc, rfl, _⟩ := hx; have E1 := Lib.hid hb1; clear hb1)
      | (go_at_call 15; (with_reducible refine (choose_any c 501 _ HC.out (by omega) (by omega)).mono ?_); rintro e w2 ⟨rfl, rfl⟩; rw [HM.out])
      | (go_at_call 14; have _z := E1.out; (with_reducible refine (runAll_any p _ _ m _ (Funcs.stays (Ext.stays E1.out) HP.out)).mono ?_); rintro e w3 ⟨⟨y, rfl, h3⟩, hb3⟩; rw [HR.out] at h3; rw [HR.out]; have H3 := Lib.hid h3; have E3 := Lib.hid (E1.out.trans hb3); have HX := Lib.hid (Funcs.stays (Ext.stays hb3) HX.out); clear _z E1 h3 hb3)
      | (go_at_call 14; (with_reducible refine (runAll_any q _ _ m _ HX.out).mono ?_); rintro e w4 ⟨⟨y, rfl, h4⟩, hb4⟩; rw [HR2.out] at h4; rw [HR2.out]; have H4 := Lib.hid h4; have E4 := Lib.hid (E3.out.trans hb4); have H3 := Lib.hid (Ints.stays (Ext.stays hb4) H3.out); clear h4 hb4)
      | (go_at_call 13; (with_reducible refine (trimBegun_any _).mono ?_); rintro e w5 ⟨rfl, hb5⟩; have H3 := Lib.hid (Ints.stays (Ext.stays hb5) H3.out); have H4 := Lib.hid (Ints.stays (Ext.stays hb5) H4.out); have E5 := Lib.hid (E4.out.trans hb5))
      | (go_at_call 16; (with_reducible refine (sameInts_any l l _ _ _ _ _ H3.out H4.out).mono ?_); rintro e w6 ⟨rfl, hb6⟩; rw [show decide (l = l) = true from decide_eq_true rfl]))
    go_ret
    exact ⟨rfl, E5.out.trans hb6⟩
  · have TB : (progErr p != 0) = true := bne_iff_ne.2 hz
    have hq : trimP p = [] := by unfold trimP; rw [if_neg hz]
    obtain ⟨re, hre⟩ : ∃ re, progErr p = re := ⟨_, rfl⟩
    rw [hre] at TB
    have HZ := Lib.hid hre
    have HQ := Lib.hid hq
    clear hz hre hq
    go_enter Try.func3, Try.ntmps3
    go_wp2_with (first
      | (go_at_call 12; (with_reducible refine (trimAll_any p _ _ _ HP.out).mono ?_); rintro e w1 ⟨⟨x, rfl, hx⟩, hb1⟩; rw [HZ.out]; obtain ⟨qa, qc, rfl, _⟩ := hx; have E1 := Lib.hid hb1; clear hb1)
      | (go_at_call 13; (with_reducible refine (trimBegun_any _).mono ?_); rintro e w5 ⟨rfl, hb5⟩))
    go_ret
    exact ⟨rfl, E1.out.trans hb5⟩

theorem contract (H : Type) (enc : TypeId × Value → H) (W : World) (base : Nat) (args : Array Value) (ds gs : List (DataW H)) (before : List MemPlace)
    (hval : ∀ (j : Nat) t v, Try.f3.params[j]? = some t → args[j]? = some v → Value.okWide Try.prog W .any base t v)
    (hW : DataW.Whole enc Try.prog Try.f3.params.toList Rows.trimSameSpec.vars false W args.toList ds gs before)
    (hsz : (DataW.weightsEach Try.prog (Try.f3.params.toList ++ Rows.trimSameSpec.plain.varTypes Try.prog) (ds ++ gs)).all (· ≤ reachBytes) = true) :
    Calls Try.prog 3 args W fun e W' => ∃ v, e = .returned v ∧ Rows.trimSameSpec.post enc Try.prog Try.f3 false true false false W args v W' := by
  have hW' := hW
  obtain ⟨p, q, hA, hV, rfl, hfz, hnd⟩ := hW
  rw [Try.params3] at hA hval
  obtain ⟨v0, vs0, d0, ds0, q0, t0, hargs, rfl, rfl, h0, r0⟩ := trodAll_cons hA
  obtain ⟨v1, vs1, d1, ds1, q1, t1, rfl, rfl, rfl, h1, r1⟩ := trodAll_cons r0
  obtain ⟨rfl, rfl, rfl⟩ := trodAll_nil r1
  obtain rfl : args = #[v0, v1] := by cases args; simp_all
  obtain ⟨rfl, rfl⟩ := trodVars_none hV
  obtain ⟨a0, l0, c0, rfl⟩ := okWide_slice Try.underlying22 (hval 0 22 v0 rfl rfl)
  obtain ⟨fuel0, h0⟩ := h0
  obtain ⟨x0, h0⟩ := funcs_of_trod h0 (fun n hn => by
    have := List.all_eq_true.1 hsz n (DataW.weights_mem_each (j := 0) rfl rfl n hn)
    simpa using this)
  obtain ⟨x1, rfl, rfl, rfl, wf1⟩ := open_int Try.underlying3 (hval 1 3 v1 rfl rfl) h1
  refine (walk W x0 _ h0 x1 (i64_of_wf wf1)).mono fun e W' ⟨he, hE⟩ => ⟨_, he, law_post laidOut ?_ rfl Try.underlying4 rfl hW' ?_ hE⟩
  · rw [Try.params3]
    intro t ht
    simp at ht
    (try rcases ht with rfl | rfl) <;> exact ⟨by kernel_rfl, of_decide_eq_true (by kernel_rfl)⟩
  · intro ds hds
    match ds, hds with
    | [d0, d1], _ => exact ⟨rfl, rfl, rfl⟩

theorem lifted (os : Os) (started : os.Started) (H : Type) (enc : TypeId × Value → H) :
    ReturnsInHanded {} Try.checked os 3 .any (Rows.trimSameSpec.pre6 enc Try.prog Try.f3 Rows.trimSameRow.domain false) (Rows.trimSameSpec.post enc Try.prog Try.f3 false true false false) := by
  refine returnsInHanded_of_change_sized (C := Try.checked) own started (by kernel_rfl) Try.func3
    (ChangeSpec.witness6 (enc := enc) (C := Try.checked) false ⟨#[], #[.slice none 0 0, .int .i64 0], []⟩ 8 (by kernel_rfl) (by kernel_rfl) (by kernel_rfl) (by kernel_rfl)) ?_
  intro W base args ds gs before hval hW _ hsz _
  exact contract H enc W base args ds gs before hval hW hsz

theorem proved : Rows.TrimSameSaid :=
  OpenClaim.holds_of_wide 3 Try.f3 rfl rfl rfl rfl rfl rfl rfl ⟨rfl, rfl, rfl, rfl, rfl⟩ rfl rfl rfl rfl rfl (by as_aux_lemma => kernel_rfl) Try.func3 (by as_aux_lemma => kernel_rfl)
    (of_decide_eq_true (by as_aux_lemma => kernel_rfl)) (by unfold Func.isWrapper; rw [if_neg (of_decide_eq_false (by as_aux_lemma => kernel_rfl))]; exact ⟨rfl, rfl⟩)
    (fun os started H enc _ => lifted os started H enc)
end Go.Proofs.Ytfajkebkhdcapaa.trimSame

