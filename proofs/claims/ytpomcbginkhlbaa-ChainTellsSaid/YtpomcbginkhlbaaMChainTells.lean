/- ChainTells: for every input Line and Kind of package chain answer what the document's StateError, LineOf and KindOf say. No condition. -/
import Derived.Test.YtpomcbginkhlbaaGCAB
import Derived.Test.YtpomcbginkhlbaaGCAV
import Derived.Test.YtpomcbginkhlbaaGCAW
set_option maxHeartbeats 4000000
set_option maxRecDepth 100000
namespace Go.Proofs.Ytpomcbginkhlbaa.chainTells
open Go Go.RowKit Go.ChangeShapes Go.WideShapes Go.ChangeAt

theorem walk (w : World) (p : List GFunc) (v : Value) (hp : Funcs w (fun _ => True) v p) (s : GState) (vs : Value) (hs : StateV w (fun _ => True) vs s) (n : Int) (_ : I64 n) :
    Calls Try.prog 7 #[v, vs, .int .i64 n] w fun e w' => e = .returned (.bool true) ∧ Ext w w' := by
  have HP := Lib.hid hp
  have HS := Lib.hid hs
  obtain ⟨a0, cap, rfl, _, _, _⟩ := hp
  obtain ⟨sa, sc, sb, sd, rfl⟩ := hs.few
  have RA := alloc_keep
  have b0 := (Cx.new w [.slice sa s.fibers.length sc, .int .i64 s.now, .slice sb s.out.length sd] 43 (j := 0) rfl).1
  have b1 := (Cx.new w [.slice sa s.fibers.length sc, .int .i64 s.now, .slice sb s.out.length sd] 43 (j := 1) rfl).1
  have b2 := (Cx.new w [.slice sa s.fibers.length sc, .int .i64 s.now, .slice sb s.out.length sd] 43 (j := 2) rfl).1
  have E0 : Hid (Ext w (w.alloc (.cells #[.slice sa s.fibers.length sc, .int .i64 s.now, .slice sb s.out.length sd] 43))) := (Ext.refl w).alloc _
  obtain ⟨ck, hck⟩ : ∃ k, ckind p s n = k := ⟨_, rfl⟩
  obtain ⟨ce, hce⟩ : ∃ k, ckErr p s n = k := ⟨_, rfl⟩
  have HCK := Lib.hid hck
  have HCE := Lib.hid hce
  by_cases hz : stateErr p s = 0
  · obtain ⟨l, hR⟩ := stateErr_zero hz
    have HR := Lib.hid hR
    have HLN := Lib.hid hR.line
    have HCALL := Lib.hid hR.callers
    have HZ := Lib.hid hz
    have HIF : Hid ((if stateErr p s = 0 then lineL s else []) = l) := by unfold Hid lineL; rw [if_pos hz, hR.line]; rfl
    by_cases hin : 0 ≤ n ∧ n < s.fibers.length
    · obtain ⟨m, rfl⟩ : ∃ m : Nat, n = m := ⟨n.toNat, by omega⟩
      have hm : m < s.fibers.length := by omega
      have HKS : Hid (kindS p s m = ck) := by unfold ckind at hck; rw [if_pos ⟨hz, hin⟩, Int.toNat_natCast] at hck; exact hck
      have hce0 : ce = 0 := by unfold ckErr at hce; rw [if_neg (fun h => h hz), if_pos hin] at hce; exact hce.symm
      subst hce0
      have T1 : decide ((m : Int) < 0) = false := decide_eq_false (by omega)
      have T2 : decide ((s.fibers.length : Int) ≤ (m : Int)) = false := decide_eq_false (by omega)
      clear hz hR hck hce hin
      go_enter Try.func7, Try.ntmps7
      go_wp2_with (first
      | (go_at_call 28; (with_reducible refine (chainLine_any p _ _ _ s _ _ (Funcs.stays (Ext.stays E0.out) HP.out) (StateV.stays (Ext.stays E0.out) HS.out)).mono ?_); rintro e w1 ⟨⟨aL, cL, rfl, hl⟩, hb1⟩; rw [HIF.out] at hl; rw [HIF.out, HZ.out]; have b0 := Ext.cell hb1 b0; have b1 := Ext.cell hb1 b1; have b2 := Ext.cell hb1 b2; have E1 := Lib.hid (E0.out.trans hb1); have HL1 := Lib.hid hl; clear hl)
      | (go_at_call 29; (with_reducible refine (chainKind_any p _ _ _ s _ _ _ (Funcs.stays (Ext.stays E1.out) HP.out) (StateV.stays (Ext.stays E1.out) HS.out)).mono ?_); rintro e w2 ⟨rfl, hb2⟩; rw [HCK.out, HCE.out]; have b0 := Ext.cell hb2 b0; have b1 := Ext.cell hb2 b1; have b2 := Ext.cell hb2 b2; have E2 := Lib.hid (E1.out.trans hb2); have HL2 := Lib.hid (Ints.stays (Ext.stays hb2) HL1.out))
      | (go_at_call 26; (with_reducible refine (stateError_any p _ _ _ s _ _ (Funcs.stays (Ext.stays E2.out) HP.out) (StateV.stays (Ext.stays E2.out) HS.out)).mono ?_); rintro e w3 ⟨rfl, hb3⟩; rw [HZ.out]; have b0 := Ext.cell hb3 b0; have b1 := Ext.cell hb3 b1; have b2 := Ext.cell hb3 b2; have E3 := Lib.hid (E2.out.trans hb3); have HL3 := Lib.hid (Ints.stays (Ext.stays hb3) HL2.out))
      | (go_at_call 30; (with_reducible refine (lineOfL_any s _ _ _ (StateV.stays (Ext.stays E3.out) HS.out) HCALL.out l HLN.out).mono ?_); rintro e w4 ⟨⟨aO, cO, rfl, ho⟩, hb4⟩; have b0 := Ext.cell hb4 b0; have b1 := Ext.cell hb4 b1; have b2 := Ext.cell hb4 b2; have E4 := Lib.hid (E3.out.trans hb4); have HL4 := Lib.hid (Ints.stays (Ext.stays hb4) HL3.out); have HO4 := Lib.hid ho; clear ho)
      | (go_at_call 31; (with_reducible refine (kindOf_any p _ _ _ s _ m l _ (Funcs.stays (Ext.stays E4.out) HP.out) (StateV.stays (Ext.stays E4.out) HS.out) HR.out hm).mono ?_); rintro e w5 ⟨rfl, hb5⟩; rw [HKS.out]; have b0 := Ext.cell hb5 b0; have b1 := Ext.cell hb5 b1; have b2 := Ext.cell hb5 b2; have E5 := Lib.hid (E4.out.trans hb5); have HL5 := Lib.hid (Ints.stays (Ext.stays hb5) HL4.out); have HO5 := Lib.hid (Ints.stays (Ext.stays hb5) HO4.out))
      | (go_at_call 32; (with_reducible refine (chainBegun_any _).mono ?_); rintro e w8 ⟨rfl, hb8⟩)
      | (go_at_call 19; (refine (sameInts_any l l _ _ _ _ _ (Ints.stays (Ext.stays hb8) HL5.out) (Ints.stays (Ext.stays hb8) HO5.out)).mono ?_); rintro e w9 ⟨rfl, hb9⟩; rw [show decide (l = l) = true from decide_eq_true rfl]))
      go_ret
      exact ⟨rfl, E5.out.trans (hb8.trans hb9)⟩
    · have hck0 : ck = 0 := by unfold ckind at hck; rw [if_neg (fun h => hin h.2)] at hck; exact hck.symm
      have hce5 : ce = 5 := by unfold ckErr at hce; rw [if_neg (fun h => h hz), if_neg hin] at hce; exact hce.symm
      subst hck0 hce5
      clear hz hR hck hce
      by_cases hn0 : n < 0
      · have T1 : decide (n < 0) = true := decide_eq_true hn0
        clear hin hn0
        go_enter Try.func7, Try.ntmps7
        go_wp2_with (first
          | (go_at_call 28; (with_reducible refine (chainLine_any p _ _ _ s _ _ (Funcs.stays (Ext.stays E0.out) HP.out) (StateV.stays (Ext.stays E0.out) HS.out)).mono ?_); rintro e w1 ⟨⟨aL, cL, rfl, hl⟩, hb1⟩; rw [HIF.out] at hl; rw [HIF.out, HZ.out]; have b0 := Ext.cell hb1 b0; have b1 := Ext.cell hb1 b1; have b2 := Ext.cell hb1 b2; have E1 := Lib.hid (E0.out.trans hb1); have HL1 := Lib.hid hl; clear hl)
          | (go_at_call 29; (with_reducible refine (chainKind_any p _ _ _ s _ _ _ (Funcs.stays (Ext.stays E1.out) HP.out) (StateV.stays (Ext.stays E1.out) HS.out)).mono ?_); rintro e w2 ⟨rfl, hb2⟩; rw [HCK.out, HCE.out]; have b0 := Ext.cell hb2 b0; have b1 := Ext.cell hb2 b1; have b2 := Ext.cell hb2 b2; have E2 := Lib.hid (E1.out.trans hb2); have HL2 := Lib.hid (Ints.stays (Ext.stays hb2) HL1.out))
          | (go_at_call 26; (with_reducible refine (stateError_any p _ _ _ s _ _ (Funcs.stays (Ext.stays E2.out) HP.out) (StateV.stays (Ext.stays E2.out) HS.out)).mono ?_); rintro e w3 ⟨rfl, hb3⟩; rw [HZ.out]; have b0 := Ext.cell hb3 b0; have b1 := Ext.cell hb3 b1; have b2 := Ext.cell hb3 b2; have E3 := Lib.hid (E2.out.trans hb3); have HL3 := Lib.hid (Ints.stays (Ext.stays hb3) HL2.out))
          | (go_at_call 30; (with_reducible refine (lineOfL_any s _ _ _ (StateV.stays (Ext.stays E3.out) HS.out) HCALL.out l HLN.out).mono ?_); rintro e w4 ⟨⟨aO, cO, rfl, ho⟩, hb4⟩; have b0 := Ext.cell hb4 b0; have b1 := Ext.cell hb4 b1; have b2 := Ext.cell hb4 b2; have E4 := Lib.hid (E3.out.trans hb4); have HL4 := Lib.hid (Ints.stays (Ext.stays hb4) HL3.out); have HO4 := Lib.hid ho; clear ho)
          | (go_at_call 32; (with_reducible refine (chainBegun_any _).mono ?_); rintro e w8 ⟨rfl, hb8⟩)
          | (go_at_call 19; (refine (sameInts_any l l _ _ _ _ _ (Ints.stays (Ext.stays hb8) HL4.out) (Ints.stays (Ext.stays hb8) HO4.out)).mono ?_); rintro e w9 ⟨rfl, hb9⟩; rw [show decide (l = l) = true from decide_eq_true rfl]))
        go_ret
        exact ⟨rfl, E4.out.trans (hb8.trans hb9)⟩
      · have T1 : decide (n < 0) = false := decide_eq_false hn0
        have T2 : decide ((s.fibers.length : Int) ≤ n) = true := decide_eq_true (by omega)
        clear hin hn0
        go_enter Try.func7, Try.ntmps7
        go_wp2_with (first
          | (go_at_call 28; (with_reducible refine (chainLine_any p _ _ _ s _ _ (Funcs.stays (Ext.stays E0.out) HP.out) (StateV.stays (Ext.stays E0.out) HS.out)).mono ?_); rintro e w1 ⟨⟨aL, cL, rfl, hl⟩, hb1⟩; rw [HIF.out] at hl; rw [HIF.out, HZ.out]; have b0 := Ext.cell hb1 b0; have b1 := Ext.cell hb1 b1; have b2 := Ext.cell hb1 b2; have E1 := Lib.hid (E0.out.trans hb1); have HL1 := Lib.hid hl; clear hl)
          | (go_at_call 29; (with_reducible refine (chainKind_any p _ _ _ s _ _ _ (Funcs.stays (Ext.stays E1.out) HP.out) (StateV.stays (Ext.stays E1.out) HS.out)).mono ?_); rintro e w2 ⟨rfl, hb2⟩; rw [HCK.out, HCE.out]; have b0 := Ext.cell hb2 b0; have b1 := Ext.cell hb2 b1; have b2 := Ext.cell hb2 b2; have E2 := Lib.hid (E1.out.trans hb2); have HL2 := Lib.hid (Ints.stays (Ext.stays hb2) HL1.out))
          | (go_at_call 26; (with_reducible refine (stateError_any p _ _ _ s _ _ (Funcs.stays (Ext.stays E2.out) HP.out) (StateV.stays (Ext.stays E2.out) HS.out)).mono ?_); rintro e w3 ⟨rfl, hb3⟩; rw [HZ.out]; have b0 := Ext.cell hb3 b0; have b1 := Ext.cell hb3 b1; have b2 := Ext.cell hb3 b2; have E3 := Lib.hid (E2.out.trans hb3); have HL3 := Lib.hid (Ints.stays (Ext.stays hb3) HL2.out))
          | (go_at_call 30; (with_reducible refine (lineOfL_any s _ _ _ (StateV.stays (Ext.stays E3.out) HS.out) HCALL.out l HLN.out).mono ?_); rintro e w4 ⟨⟨aO, cO, rfl, ho⟩, hb4⟩; have b0 := Ext.cell hb4 b0; have b1 := Ext.cell hb4 b1; have b2 := Ext.cell hb4 b2; have E4 := Lib.hid (E3.out.trans hb4); have HL4 := Lib.hid (Ints.stays (Ext.stays hb4) HL3.out); have HO4 := Lib.hid ho; clear ho)
          | (go_at_call 32; (with_reducible refine (chainBegun_any _).mono ?_); rintro e w8 ⟨rfl, hb8⟩)
          | (go_at_call 19; (refine (sameInts_any l l _ _ _ _ _ (Ints.stays (Ext.stays hb8) HL4.out) (Ints.stays (Ext.stays hb8) HO4.out)).mono ?_); rintro e w9 ⟨rfl, hb9⟩; rw [show decide (l = l) = true from decide_eq_true rfl]))
        go_ret
        exact ⟨rfl, E4.out.trans (hb8.trans hb9)⟩
  · have HIF : Hid ((if stateErr p s = 0 then lineL s else []) = []) := by unfold Hid; rw [if_neg hz]
    have hck0 : ck = 0 := by unfold ckind at hck; rw [if_neg (fun h => hz h.1)] at hck; exact hck.symm
    have hcee : ce = stateErr p s := by unfold ckErr at hce; rw [if_pos hz] at hce; exact hce.symm
    subst hck0
    obtain ⟨se, hse⟩ : ∃ se, stateErr p s = se := ⟨_, rfl⟩
    rw [hse] at hcee
    subst hcee
    have TB : (ce == 0) = false := beq_eq_false_iff_ne.2 (by rw [← hse]; exact hz)
    have HZ := Lib.hid hse
    clear hz hck hce hse
    go_enter Try.func7, Try.ntmps7
    go_wp2_with (first
      | (go_at_call 28; (with_reducible refine (chainLine_any p _ _ _ s _ _ (Funcs.stays (Ext.stays E0.out) HP.out) (StateV.stays (Ext.stays E0.out) HS.out)).mono ?_); rintro e w1 ⟨⟨aL, cL, rfl, hl⟩, hb1⟩; rw [HIF.out] at hl; rw [HIF.out, HZ.out]; have b0 := Ext.cell hb1 b0; have b1 := Ext.cell hb1 b1; have b2 := Ext.cell hb1 b2; have E1 := Lib.hid (E0.out.trans hb1); have HL1 := Lib.hid hl; clear hl)
      | (go_at_call 29; (with_reducible refine (chainKind_any p _ _ _ s _ _ _ (Funcs.stays (Ext.stays E1.out) HP.out) (StateV.stays (Ext.stays E1.out) HS.out)).mono ?_); rintro e w2 ⟨rfl, hb2⟩; rw [HCK.out, HCE.out]; have b0 := Ext.cell hb2 b0; have b1 := Ext.cell hb2 b1; have b2 := Ext.cell hb2 b2; have E2 := Lib.hid (E1.out.trans hb2); have HL2 := Lib.hid (Ints.stays (Ext.stays hb2) HL1.out))
      | (go_at_call 26; (with_reducible refine (stateError_any p _ _ _ s _ _ (Funcs.stays (Ext.stays E2.out) HP.out) (StateV.stays (Ext.stays E2.out) HS.out)).mono ?_); rintro e w3 ⟨rfl, hb3⟩; rw [HZ.out]; have b0 := Ext.cell hb3 b0; have b1 := Ext.cell hb3 b1; have b2 := Ext.cell hb3 b2; have E3 := Lib.hid (E2.out.trans hb3); have HL3 := Lib.hid (Ints.stays (Ext.stays hb3) HL2.out))
      | (go_at_call 32; (with_reducible refine (chainBegun_any _).mono ?_); rintro e w8 ⟨rfl, hb8⟩)
      | (go_at_call 19; (refine (sameInts_any [] [] _ _ _ _ _ (Ints.stays (Ext.stays hb8) HL3.out) (Sl.nil _ _ _ : Ints w8 (fun _ => True) _ [])).mono ?_); rintro e w9 ⟨rfl, hb9⟩; rw [show decide ([] = ([] : List Int)) = true from decide_eq_true rfl]))
    go_ret
    exact ⟨rfl, E3.out.trans (hb8.trans hb9)⟩

theorem contract (H : Type) (enc : TypeId × Value → H) (W : World) (base : Nat) (args : Array Value) (ds gs : List (DataW H)) (before : List MemPlace)
    (hval : ∀ (j : Nat) t v, Try.f7.params[j]? = some t → args[j]? = some v → Value.okWide Try.prog W .any base t v)
    (hW : DataW.Whole enc Try.prog Try.f7.params.toList Rows.chainTellsSpec.vars false W args.toList ds gs before)
    (hsz : (DataW.weightsEach Try.prog (Try.f7.params.toList ++ Rows.chainTellsSpec.plain.varTypes Try.prog) (ds ++ gs)).all (· ≤ reachBytes) = true) :
    Calls Try.prog 7 args W fun e W' => ∃ v, e = .returned v ∧ Rows.chainTellsSpec.post enc Try.prog Try.f7 false true false false W args v W' := by
  have hW' := hW
  obtain ⟨p, q, hA, hV, rfl, hfz, hnd⟩ := hW
  rw [Try.params7] at hA hval
  obtain ⟨v0, vs0, d0, ds0, q0, t0, hargs, rfl, rfl, h0, r0⟩ := trodAll_cons hA
  obtain ⟨v1, vs1, d1, ds1, q1, t1, rfl, rfl, rfl, h1, r1⟩ := trodAll_cons r0
  obtain ⟨v2, vs2, d2, ds2, q2, t2, rfl, rfl, rfl, h2, r2⟩ := trodAll_cons r1
  obtain ⟨rfl, rfl, rfl⟩ := trodAll_nil r2
  obtain rfl : args = #[v0, v1, v2] := by cases args; simp_all
  obtain ⟨rfl, rfl⟩ := trodVars_none hV
  obtain ⟨a0, l0, c0, rfl⟩ := okWide_slice Try.underlying22 (hval 0 22 v0 rfl rfl)
  obtain ⟨fuel0, h0⟩ := h0
  obtain ⟨x0, h0⟩ := funcs_of_trod h0 (fun n hn => by
    have := List.all_eq_true.1 hsz n (DataW.weights_mem_each (j := 0) rfl rfl n hn)
    simpa using this)
  obtain ⟨x1, h1⟩ := state_of_trod (hval 1 43 v1 rfl rfl) h1 (fun n hn => by
    have := List.all_eq_true.1 hsz n (DataW.weights_mem_each (j := 1) rfl rfl n hn)
    simpa using this)
  obtain ⟨x2, rfl, rfl, rfl, wf2⟩ := open_int Try.underlying3 (hval 2 3 v2 rfl rfl) h2
  refine (walk W x0 _ h0 x1 _ h1 x2 (i64_of_wf wf2)).mono fun e W' ⟨he, hE⟩ => ⟨_, he, law_post laidOut ?_ rfl Try.underlying4 rfl hW' ?_ hE⟩
  · rw [Try.params7]
    intro t ht
    simp at ht
    (try rcases ht with rfl | rfl | rfl) <;> exact ⟨by kernel_rfl, of_decide_eq_true (by kernel_rfl)⟩
  · intro ds hds
    match ds, hds with
    | [d0, d1, d2], _ => exact ⟨rfl, rfl, rfl⟩

theorem lifted (os : Os) (started : os.Started) (H : Type) (enc : TypeId × Value → H) :
    ReturnsInHanded {} Try.checked os 7 .any (Rows.chainTellsSpec.pre6 enc Try.prog Try.f7 Rows.chainTellsRow.domain false) (Rows.chainTellsSpec.post enc Try.prog Try.f7 false true false false) := by
  refine returnsInHanded_of_change_sized (C := Try.checked) own started (by kernel_rfl) Try.func7
    (ChangeSpec.witness6 (enc := enc) (C := Try.checked) false ⟨#[], #[.slice none 0 0, .agg #[.slice none 0 0, .int .i64 0, .slice none 0 0], .int .i64 0], []⟩ 8 (by kernel_rfl) (by kernel_rfl) (by kernel_rfl) (by kernel_rfl)) ?_
  intro W base args ds gs before hval hW _ hsz _
  exact contract H enc W base args ds gs before hval hW hsz

theorem proved : Rows.ChainTellsSaid :=
  OpenClaim.holds_of_wide 7 Try.f7 rfl rfl rfl rfl rfl rfl rfl ⟨rfl, rfl, rfl, rfl, rfl⟩ rfl rfl rfl rfl rfl (by as_aux_lemma => kernel_rfl) Try.func7 (by as_aux_lemma => kernel_rfl)
    (of_decide_eq_true (by as_aux_lemma => kernel_rfl)) (by unfold Func.isWrapper; rw [if_neg (of_decide_eq_false (by as_aux_lemma => kernel_rfl))]; exact ⟨rfl, rfl⟩)
    (fun os started H enc _ => lifted os started H enc)
end Go.Proofs.Ytpomcbginkhlbaa.chainTells

