/- ForgeSafe: what is forged is a right program, each function has heights, none of them missing. No condition. -/
import Derived.Test.YtgahbngbpfilgaaGFAA
import Derived.Test.YtgahbngbpfilgaaGFBF
import Derived.Test.YtgahbngbpfilgaaGFBG
import Derived.Test.YtgahbngbpfilgaaGFBH
set_option maxHeartbeats 4000000
set_option maxRecDepth 100000
namespace Go.Proofs.Ytgahbngbpfilgaa.forgeSafe
open Go Go.RowKit Go.ChangeShapes Go.WideShapes Go.ChangeAt

theorem walk (w : World) (es : List GNode) (v : Value) (hp : Nodes w (fun _ => True) v es) (vals : List Int) (vv : Value) (hv : Ints w (fun _ => True) vv vals) :
    Calls Try.prog 7 #[v, vv] w fun e w' => e = .returned (.bool true) ∧ Ext w w' := by
  have HP := Lib.hid hp
  have HV := Lib.hid hv
  obtain ⟨a0, cap, rfl, _, _, _⟩ := hp
  obtain ⟨a9, vcap, rfl, _, _, _⟩ := hv
  have RA := alloc_keep
  obtain ⟨P, hP⟩ : ∃ P, forgePr es vals = P := ⟨_, rfl⟩
  by_cases h0 : forgeErr es vals = 0
  · obtain ⟨hpe, hlen, htop⟩ := forge_tops h0
    rw [hP] at hpe hlen htop
    have HS := Lib.hid h0
    have HQ := Lib.hid hP
    have HE := Lib.hid hpe
    have HTOP := Lib.hid htop
    have HLN := Lib.hid hlen
    clear h0 hP hpe htop hlen
    go_enter Try.func7, Try.ntmps7
    go_upto_region 6 with (first
      | (go_at_call 19; (with_reducible refine (forgeProg_at es vals _ _ _ HP.out HV.out HS.out HQ.out HLN.out).mono ?_); rintro e w2 ⟨⟨a2, c2, rfl, hf2⟩, hb2⟩)
      | (go_at_call 25; (with_reducible refine (progCheck_any P _ _ _ hf2).mono ?_); rintro e w3 ⟨rfl, hb3⟩; rw [HE.out]))
    rename World => w3
    have HF := Lib.hid (Funcs.stays (Ext.stays hb3) hf2)
    have HB := Lib.hid (hb2.trans hb3)
    clear hf2 hb2 hb3
    go_wp2_with fail
    go_loopw [7] (fun q wr => ∃ f : Nat, f ≤ 2 ∧ q = .int .i64 f ∧ Ext w3 wr) (fun q _ => 2 - (intOf q).toNat)
    case atStart => exact ⟨0, by omega, rfl, Ext.refl _⟩
    case round =>
      obtain ⟨f, hf, rfl, hbr⟩ := hrel
      have HBR := Lib.hid hbr
      clear hbr
      rename World => wf
      have KF : IntKind.i64.wrap ((f : Int) + 1) = (f : Int) + 1 := IntWalk.i64_in _ (by omega)
      by_cases hlt : f < 2
      · obtain ⟨m, hm, hT⟩ := HTOP.out f hlt
        obtain ⟨t1, t2, t3, t4⟩ := hT
        obtain ⟨l, hl⟩ : ∃ l, hList P f = l := ⟨_, rfl⟩
        rw [hl] at t2 t3 t4
        obtain ⟨N, hN⟩ : ∃ N, m + 1 = N := ⟨_, rfl⟩
        rw [hN] at t2 t4
        have N1 : ((N : Int) == 0) = false := beq_eq_false_iff_ne.2 (by omega)
        have N2 : (N == 0) = false := beq_eq_false_iff_ne.2 (by omega)
        have KM : IntKind.i64.wrap ((N : Int) - 1) = (m : Int) := by rw [IntWalk.i64_in _ (by omega)]; omega
        have MN : (m : Int) < (N : Int) := by omega
        have hmN : m < N := by omega
        have hN31 : N ≤ 31 := by omega
        have H1 := Lib.hid t1
        have H2 := Lib.hid t2
        have H3 := Lib.hid t3
        have H4 := Lib.hid t4
        have HL := Lib.hid hl
        have TF : decide ((f : Int) < 2) = true := decide_eq_true (by omega)
        clear t1 t2 t3 t4 hl hN hm
        go_upto_region 10 with (first
          | (go_at_call 29; (with_reducible refine (heights_val P _ _ f _ (Funcs.stays (Ext.stays HBR.out) HF.out) 0 l N H1.out HL.out H2.out).mono ?_); rintro e w4 ⟨⟨a4, c4, rfl, hl4⟩, hb4⟩))
        have HB4 := Lib.hid (HBR.out.trans hb4)
        obtain ⟨bl, ol, rfl, z0⟩ := Ints.placeOf hl4 (m := m) (by rw [H2.out]; exact hmN)
        rw [H3.out] at z0
        have HL4 := Lib.hid hl4
        clear hl4 hb4
        rename World => w4
        go_upto_region 12 with fail
        clear z0
        go_wp2_with fail
        go_loopw [10] (fun q wr => ∃ k : Nat, k ≤ N ∧ q = .int .i64 k ∧ Ext w4 wr) (fun q _ => N - (intOf q).toNat)
        case atStart => exact ⟨0, Nat.zero_le _, rfl, Ext.refl _⟩
        case round =>
          obtain ⟨k, hk, rfl, hbk⟩ := hrel
          have HBK := Lib.hid hbk
          clear hbk
          rename World => wk
          have KI : IntKind.i64.wrap ((k : Int) + 1) = (k : Int) + 1 := IntWalk.i64_in _ (by omega)
          by_cases hkl : k < N
          · obtain ⟨bl2, ol2, e3, y0⟩ := Ints.placeOf (Ints.stays (Ext.stays HBK.out) HL4.out) (m := k) (by rw [H2.out]; exact hkl)
            simp only [Option.some.injEq, Addr.mk.injEq, and_true] at e3
            obtain ⟨rfl, rfl⟩ := e3
            have hlow := H4.out k hkl
            obtain ⟨u, hu⟩ : ∃ u, l.getD k 0 = u := ⟨_, rfl⟩
            rw [hu] at y0 hlow
            have TU : decide (u < 0) = false := decide_eq_false (by omega)
            clear hu hlow
            go_wp2_with fail
            go_roundw
            case rel => exact ⟨k + 1, by omega, by go_num, HBK.out⟩
            case measure => simp [intOf]; omega
          · obtain rfl : k = N := by omega
            clear hkl hk
            go_wp2_with fail
            go_roundw
            case rel => exact ⟨f + 1, by omega, by go_num, HB4.out.trans HBK.out⟩
            case measure => simp [intOf]; omega
      · obtain rfl : f = 2 := by omega
        clear hlt hf
        go_wp2_with (first
          | (go_at_call 22; (with_reducible refine (forgeBegun_any _).mono ?_); rintro e w8 ⟨rfl, hb8⟩))
        go_ret
        exact ⟨rfl, HB.out.trans (HBR.out.trans hb8)⟩
  · have TB : (forgeErr es vals != 0) = true := bne_iff_ne.2 h0
    obtain ⟨s, hs⟩ : ∃ s, forgeErr es vals = s := ⟨_, rfl⟩
    rw [hs] at TB
    have HS := Lib.hid hs
    have HQ := Lib.hid hP
    clear h0 hs hP
    go_enter Try.func7, Try.ntmps7
    go_wp2_with (first
      | (go_at_call 19; (with_reducible refine (forgeProg_at es vals _ _ _ HP.out HV.out HS.out HQ.out rfl).mono ?_); rintro e w2 ⟨⟨a2, c2, rfl, hf2⟩, hb2⟩)
      | (go_at_call 22; (with_reducible refine (forgeBegun_any _).mono ?_); rintro e w5 ⟨rfl, hb5⟩))
    go_ret
    exact ⟨rfl, hb2.trans hb5⟩

theorem contract (H : Type) (enc : TypeId × Value → H) (W : World) (base : Nat) (args : Array Value) (ds gs : List (DataW H)) (before : List MemPlace)
    (hval : ∀ (j : Nat) t v, Try.f7.params[j]? = some t → args[j]? = some v → Value.okWide Try.prog W .any base t v)
    (hW : DataW.Whole enc Try.prog Try.f7.params.toList Rows.forgeSafeSpec.vars false W args.toList ds gs before)
    (hsz : (DataW.weightsEach Try.prog (Try.f7.params.toList ++ Rows.forgeSafeSpec.plain.varTypes Try.prog) (ds ++ gs)).all (· ≤ reachBytes) = true) :
    Calls Try.prog 7 args W fun e W' => ∃ v, e = .returned v ∧ Rows.forgeSafeSpec.post enc Try.prog Try.f7 false true false false W args v W' := by
  have hW' := hW
  obtain ⟨p, q, hA, hV, rfl, hfz, hnd⟩ := hW
  rw [Try.params7] at hA hval
  obtain ⟨v0, vs0, d0, ds0, q0, t0, hargs, rfl, rfl, h0, r0⟩ := trodAll_cons hA
  obtain ⟨v1, vs1, d1, ds1, q1, t1, rfl, rfl, rfl, h1, r1⟩ := trodAll_cons r0
  obtain ⟨rfl, rfl, rfl⟩ := trodAll_nil r1
  obtain rfl : args = #[v0, v1] := by cases args; simp_all
  obtain ⟨rfl, rfl⟩ := trodVars_none hV
  obtain ⟨a0, l0, c0, rfl⟩ := okWide_slice Try.underlying40 (hval 0 40 v0 rfl rfl)
  obtain ⟨fuel0, h0⟩ := h0
  obtain ⟨x0, h0⟩ := nodes_of_trod h0 (fun n hn => by
    have := List.all_eq_true.1 hsz n (DataW.weights_mem_each (j := 0) rfl rfl n hn)
    simpa using this)
  obtain ⟨a1, l1, c1, rfl⟩ := okWide_slice Try.underlying24 (hval 1 24 v1 rfl rfl)
  obtain ⟨fuel1, h1⟩ := h1
  obtain ⟨x1, h1⟩ := intl_of_trod h1 (fun n hn => by
    have := List.all_eq_true.1 hsz n (DataW.weights_mem_each (j := 1) rfl rfl n hn)
    simpa using this)
  refine (walk W x0 _ h0 x1 _ h1).mono fun e W' ⟨he, hE⟩ => ⟨_, he, law_post laidOut ?_ rfl Try.underlying4 rfl hW' ?_ hE⟩
  · rw [Try.params7]
    intro t ht
    simp at ht
    (try rcases ht with rfl | rfl) <;> exact ⟨by kernel_rfl, of_decide_eq_true (by kernel_rfl)⟩
  · intro ds hds
    match ds, hds with
    | [d0, d1], _ => exact ⟨rfl, rfl, rfl⟩

theorem lifted (os : Os) (started : os.Started) (H : Type) (enc : TypeId × Value → H) :
    ReturnsInHanded {} Try.checked os 7 .any (Rows.forgeSafeSpec.pre6 enc Try.prog Try.f7 Rows.forgeSafeRow.domain false) (Rows.forgeSafeSpec.post enc Try.prog Try.f7 false true false false) := by
  refine returnsInHanded_of_change_sized (C := Try.checked) own started (by kernel_rfl) Try.func7
    (ChangeSpec.witness6 (enc := enc) (C := Try.checked) false ⟨#[], #[.slice none 0 0, .slice none 0 0], []⟩ 8 (by kernel_rfl) (by kernel_rfl) (by kernel_rfl) (by kernel_rfl)) ?_
  intro W base args ds gs before hval hW _ hsz _
  exact contract H enc W base args ds gs before hval hW hsz

theorem proved : Rows.ForgeSafeSaid :=
  OpenClaim.holds_of_wide 7 Try.f7 rfl rfl rfl rfl rfl rfl rfl ⟨rfl, rfl, rfl, rfl, rfl⟩ rfl rfl rfl rfl rfl (by as_aux_lemma => kernel_rfl) Try.func7 (by as_aux_lemma => kernel_rfl)
    (of_decide_eq_true (by as_aux_lemma => kernel_rfl)) (by unfold Func.isWrapper; rw [if_neg (of_decide_eq_false (by as_aux_lemma => kernel_rfl))]; exact ⟨rfl, rfl⟩)
    (fun os started H enc _ => lifted os started H enc)
end Go.Proofs.Ytgahbngbpfilgaa.forgeSafe

