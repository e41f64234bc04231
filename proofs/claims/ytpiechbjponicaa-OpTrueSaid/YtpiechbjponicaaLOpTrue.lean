/- OpTrue: of a right function each op has an effect, takes no more than it may and leaves at most one. No condition. -/
import Derived.Test.YtpiechbjponicaaLaw
import Derived.Test.YtpiechbjponicaaOpB
import Derived.Test.YtpiechbjponicaaChoose
set_option maxHeartbeats 1000000
set_option maxRecDepth 100000
namespace Go.Proofs.Ytpiechbjponicaa.opTrue
open Go Go.RowKit Go.ChangeShapes Go.WideShapes Go.ChangeAt


theorem walk (w : World) (p : List GFunc) (v : Value) (hp : Funcs w (fun _ => True) v p) (f : Int) (_ : I64 f) (at_ : Int) (hat : I64 at_) :
    Calls Try.prog 5 #[v, .int .i64 f, .int .i64 at_] w fun e w' => e = .returned (.bool true) ∧ Ext w w' := by
  have hp0 := hp
  by_cases he : funcErr p f = 0
  · have hin : 0 ≤ f ∧ f < p.length := by
      by_cases h : 0 ≤ f ∧ f < p.length
      · exact h
      · unfold funcErr at he; rw [if_pos h] at he; omega
    obtain ⟨h0, h1⟩ := hin
    have HOK := Lib.hid (fun k hk => ok_op he h0 h1 (k := k) hk)
    have TE : (funcErr p f != 0) = false := by simp [he]
    have HE := Lib.hid he
    obtain ⟨b, o, cap, rfl, hcap, hby, hA, hL, vc, hC, hcode⟩ := hp.get (i := f.toNat) (by omega)
    obtain ⟨ca, ccap, rfl, hcc, hcby, hops⟩ := hcode
    have hA1 := hA.2.1
    clear hA hL he hp
    by_cases hz : p[f.toNat].code.length = 0
    · have TZ : ((p[f.toNat].code.length : Int) == 0) = true := by simp [hz]
      clear hz
      go_enter Try.func5, Try.ntmps5
      go_wp2_with (first
        | (go_at_call 16; (with_reducible refine (check_any p _ _ f _ hp0).mono ?_); rintro e w1 ⟨rfl, hb⟩; have hc := Ext.keep hb)
        | (go_at_call 15; (with_reducible refine (opBegun_any _).mono ?_); rintro e w3 ⟨rfl, hb3⟩))
      go_ret
      exact ⟨rfl, by ((repeat (first | assumption | exact Ext.refl _ | (exact And.left (by assumption)) | refine Ext.alloc ?_ _ | refine Ext.drew ?_ | refine Ext.drewN ?_ _ | refine Ext.setCell ?_ (by simp) _ | refine Ext.setCell ?_ (by simp; omega) _ | refine Ext.trans ?_ (by assumption))); done)⟩
    · have TZ : ((p[f.toNat].code.length : Int) == 0) = false := beq_eq_false_iff_ne.2 (by omega)
      have hpos : 0 < p[f.toNat].code.length := by omega
      clear hz
      go_enter Try.func5, Try.ntmps5
      go_upto_region 3 with (first
        | (go_at_call 16; (with_reducible refine (check_any p _ _ f _ hp0).mono ?_); rintro e w1 ⟨rfl, hb⟩; have hc := Ext.keep hb))
      have HB := Lib.hid hb
      have hch := chooseOf_lt at_ p[f.toNat].code.length (by omega)
      have hci : (chooseOf at_ p[f.toNat].code.length).toNat < p[f.toNat].code.length := by omega
      obtain ⟨cb, co, rfl, ⟨_, o0, _⟩, _, o1, _⟩ := hops (chooseOf at_ p[f.toNat].code.length).toNat hci
      have HX := Lib.hid (ok_facts (HOK.out (chooseOf at_ p[f.toNat].code.length).toNat hci))
      generalize hx : p[f.toNat].code[(chooseOf at_ p[f.toNat].code.length).toNat] = x at *
      obtain ⟨hch0, hch1⟩ := hch
      rename World => wA
      go_cut [7] (fun v7 wr => ∃ g, v7 = .pointer (some ⟨g, 0, none⟩) ∧ Ext wA wr ∧ wr.cell? ⟨g, 0, none⟩ = some (.int .i64 x.kind) ∧ wr.cell? ⟨g, 1, none⟩ = some (.int .i64 x.a))
      case first =>
        clear hx hops
        go_region_held3 (fun w' => Ext wA w' ∧ ∀ a, (wA.cell? a).isSome = true → w'.cell? a = wA.cell? a)
          ((refine ext_both ?_; ((repeat (first | assumption | exact Ext.refl _ | (exact And.left (by assumption)) | refine Ext.alloc ?_ _ | refine Ext.drew ?_ | refine Ext.drewN ?_ _ | refine Ext.setCell ?_ (by simp) _ | refine Ext.setCell ?_ (by simp; omega) _ | refine Ext.trans ?_ (by assumption))); done)))
          ((go_at_call 18; (with_reducible refine (choose_any at_ _ _ hat (by omega) (by omega)).mono ?_); rintro e w2 ⟨rfl, rfl⟩))
        all_goals (go_wp2_with fail; go_meet; refine ⟨_, rfl, ?_, ?_, ?_⟩)
        all_goals first
          | (simp; done)
          | (go_simp; done)
          | ((repeat (first | assumption | exact Ext.refl _ | (exact And.left (by assumption)) | refine Ext.alloc ?_ _ | refine Ext.drew ?_ | refine Ext.drewN ?_ _ | refine Ext.setCell ?_ (by simp) _ | refine Ext.setCell ?_ (by simp; omega) _ | refine Ext.trans ?_ (by assumption))); done)
      case rest =>
        obtain ⟨g, rfl, hr, g0, g1⟩ := hcut
        clear hops hC hA1 hc
        have HR := Lib.hid (HB.out.trans hr)
        have hp1 := Lib.hid (Funcs.stays HR.out.stays hp0)
        have HX2 := Lib.hid HX.out
        obtain ⟨k0, k1, k2, k3, k4, k5⟩ := HX2.out
        have hA : x.kind = 11 → 0 ≤ x.a ∧ x.a < p.length := fun h => by
          have : mostOf p p[f.toNat] x.kind = (p.length : Int) - 1 := by unfold mostOf; simp [h]
          omega
        have E0 : effErr p x = 0 := by
          unfold effErr
          rw [if_neg (by omega), if_neg (by rintro ⟨h, h'⟩; exact h' (hA h))]
        have E1 : effTakes p x = takesOf p x := by unfold effTakes; rw [if_pos E0]
        have E2 : effLeaves p x = leavesOf x := by unfold effLeaves; rw [if_pos E0]
        have L0 : 0 ≤ leavesOf x ∧ leavesOf x ≤ 1 := by unfold leavesOf; split <;> omega
        have HE0 := Lib.hid E0
        clear k3 k5
        by_cases h11 : x.kind = 11
        · obtain ⟨ha0, ha1⟩ := hA h11
          obtain ⟨b', o', cap', hbo, _, _, m0, m1, vc', m2, hcode'⟩ := hp0.get (i := x.a.toNat) (by omega)
          simp only [Value.slice.injEq, Option.some.injEq, Addr.mk.injEq] at hbo
          obtain ⟨⟨rfl, rfl, -⟩, -, -⟩ := hbo
          have z0 := Ext.cell HR.out m0.2.1
          have hsd := k4 (.inl h11)
          have hg : p.getD x.a.toNat default = p[x.a.toNat] := by simp [List.getD, List.getElem?_eq_getElem (show x.a.toNat < p.length by omega)]
          rw [hg] at hsd
          have T0 : takesOf p x = p[x.a.toNat].args := by unfold takesOf; simp [h11]; simp [List.getElem?_eq_getElem (show x.a.toNat < p.length by omega)]
          have T1 : 0 ≤ p[x.a.toNat].args := by unfold sizedB at hsd; simp at hsd; omega
          have T11 : (x.kind == 11) = true := by simp [h11]
          have HM := Lib.hid (effect_val p (.slice (some ⟨b, o, none⟩) p.length cap) (fun _ => True) x.kind x.a · · _ _ _ (E1.trans T0) E2 E0)
          obtain ⟨L1, L2⟩ := L0
          generalize leavesOf x = LL at *
          clear m0 m1 m2 hcode' k4 hsd hg h11 hA E0 E1 E2 T0
          go_wp2_with (first
            | (go_at_call 13; (with_reducible refine (HM.out _ hp1.out).mono ?_); rintro e w3 ⟨rfl, hb3⟩; have hc3 := Ext.keep hb3)
            | (go_at_call 15; (with_reducible refine (opBegun_any _).mono ?_); rintro e w4 ⟨rfl, hb4⟩))
          go_ret
          exact ⟨rfl, by have := HR.out; ((repeat (first | assumption | exact Ext.refl _ | (exact And.left (by assumption)) | refine Ext.alloc ?_ _ | refine Ext.drew ?_ | refine Ext.drewN ?_ _ | refine Ext.setCell ?_ (by simp) _ | refine Ext.setCell ?_ (by simp; omega) _ | refine Ext.trans ?_ (by assumption))); done)⟩
        · have T0 : 0 ≤ takesOf p x ∧ takesOf p x ≤ 2 := by unfold takesOf; (repeat' split) <;> omega
          have T11 : (x.kind == 11) = false := by simp [h11]
          have HM := Lib.hid (effect_val p (.slice (some ⟨b, o, none⟩) p.length cap) (fun _ => True) x.kind x.a · · _ _ _ E1 E2 E0)
          obtain ⟨T1, T2⟩ := T0
          obtain ⟨L1, L2⟩ := L0
          generalize takesOf p x = TT at *
          generalize leavesOf x = LL at *
          clear k4 h11 hA E0 E1 E2
          go_wp2_with (first
            | (go_at_call 13; (with_reducible refine (HM.out _ hp1.out).mono ?_); rintro e w3 ⟨rfl, hb3⟩; have hc3 := Ext.keep hb3)
            | (go_at_call 15; (with_reducible refine (opBegun_any _).mono ?_); rintro e w4 ⟨rfl, hb4⟩))
          go_ret
          exact ⟨rfl, by have := HR.out; ((repeat (first | assumption | exact Ext.refl _ | (exact And.left (by assumption)) | refine Ext.alloc ?_ _ | refine Ext.drew ?_ | refine Ext.drewN ?_ _ | refine Ext.setCell ?_ (by simp) _ | refine Ext.setCell ?_ (by simp; omega) _ | refine Ext.trans ?_ (by assumption))); done)⟩
  · have TE : (funcErr p f != 0) = true := by simp [he]
    clear he
    go_enter Try.func5, Try.ntmps5
    go_wp2_with (first
      | (go_at_call 16; (with_reducible refine (check_any p _ _ f _ hp0).mono ?_); rintro e w1 ⟨rfl, hb⟩)
      | (go_at_call 15; (with_reducible refine (opBegun_any _).mono ?_); rintro e w3 ⟨rfl, hb3⟩))
    go_ret
    exact ⟨rfl, by ((repeat (first | assumption | exact Ext.refl _ | (exact And.left (by assumption)) | refine Ext.alloc ?_ _ | refine Ext.drew ?_ | refine Ext.drewN ?_ _ | refine Ext.setCell ?_ (by simp) _ | refine Ext.setCell ?_ (by simp; omega) _ | refine Ext.trans ?_ (by assumption))); done)⟩

theorem contract (H : Type) (enc : TypeId × Value → H) (W : World) (base : Nat) (args : Array Value) (ds gs : List (DataW H)) (before : List MemPlace)
    (hval : ∀ (j : Nat) t v, Try.f5.params[j]? = some t → args[j]? = some v → Value.okWide Try.prog W .any base t v)
    (hW : DataW.Whole enc Try.prog Try.f5.params.toList Rows.opTrueSpec.vars false W args.toList ds gs before)
    (hsz : (DataW.weightsEach Try.prog (Try.f5.params.toList ++ Rows.opTrueSpec.plain.varTypes Try.prog) (ds ++ gs)).all (· ≤ reachBytes) = true) :
    Calls Try.prog 5 args W fun e W' => ∃ v, e = .returned v ∧ Rows.opTrueSpec.post enc Try.prog Try.f5 false true false false W args v W' := by
  have hW' := hW
  obtain ⟨p, q, hA, hV, rfl, hfz, hnd⟩ := hW
  rw [Try.params5] at hA hval
  obtain ⟨v0, vs0, d0, ds0, q0, t0, hargs, rfl, rfl, h0, r0⟩ := trodAll_cons hA
  obtain ⟨v1, vs1, d1, ds1, q1, t1, rfl, rfl, rfl, h1, r1⟩ := trodAll_cons r0
  obtain ⟨v2, vs2, d2, ds2, q2, t2, rfl, rfl, rfl, h2, r2⟩ := trodAll_cons r1
  obtain ⟨rfl, rfl, rfl⟩ := trodAll_nil r2
  obtain rfl : args = #[v0, v1, v2] := by cases args; simp_all
  obtain ⟨rfl, rfl⟩ := trodVars_none hV
  obtain ⟨a0, l0, c0, rfl⟩ := okWide_slice Try.underlying22 (hval 0 22 v0 rfl rfl)
  obtain ⟨fuel0, h0⟩ := h0
  obtain ⟨x0, h0⟩ := funcs_of_trod h0 (fun n hn => by
    have := List.all_eq_true.1 hsz n (DataW.weights_mem_each (j := 0) rfl rfl n hn)
    simpa using this)
  obtain ⟨x1, rfl, rfl, rfl, wf1⟩ := open_int Try.underlying3 (hval 1 3 v1 rfl rfl) h1
  obtain ⟨x2, rfl, rfl, rfl, wf2⟩ := open_int Try.underlying3 (hval 2 3 v2 rfl rfl) h2
  refine (walk W x0 _ h0 x1 (i64_of_wf wf1) x2 (i64_of_wf wf2)).mono fun e W' ⟨he, hE⟩ => ⟨_, he, law_post laidOut ?_ rfl Try.underlying4 rfl hW' ?_ hE⟩
  · rw [Try.params5]
    intro t ht
    simp at ht
    (try rcases ht with rfl | rfl) <;> exact ⟨by kernel_rfl, of_decide_eq_true (by kernel_rfl)⟩
  · intro ds hds
    match ds, hds with
    | [d0, d1, d2], _ => exact ⟨rfl, rfl, rfl⟩

theorem lifted (os : Os) (started : os.Started) (H : Type) (enc : TypeId × Value → H) :
    ReturnsInHanded {} Try.checked os 5 .any (Rows.opTrueSpec.pre6 enc Try.prog Try.f5 Rows.opTrueRow.domain false) (Rows.opTrueSpec.post enc Try.prog Try.f5 false true false false) := by
  refine returnsInHanded_of_change_sized (C := Try.checked) own started (by kernel_rfl) Try.func5
    (ChangeSpec.witness6 (enc := enc) (C := Try.checked) false ⟨#[], #[.slice none 0 0, .int .i64 0, .int .i64 0], []⟩ 8 (by kernel_rfl) (by kernel_rfl) (by kernel_rfl) (by kernel_rfl)) ?_
  intro W base args ds gs before hval hW _ hsz _
  exact contract H enc W base args ds gs before hval hW hsz

theorem proved : Rows.OpTrueSaid :=
  OpenClaim.holds_of_wide 5 Try.f5 rfl rfl rfl rfl rfl rfl rfl ⟨rfl, rfl, rfl, rfl, rfl⟩ rfl rfl rfl rfl rfl (by as_aux_lemma => kernel_rfl) Try.func5 (by as_aux_lemma => kernel_rfl)
    (of_decide_eq_true (by as_aux_lemma => kernel_rfl)) (by unfold Func.isWrapper; rw [if_neg (of_decide_eq_false (by as_aux_lemma => kernel_rfl))]; exact ⟨rfl, rfl⟩)
    (fun os started H enc _ => lifted os started H enc)
end Go.Proofs.Ytpiechbjponicaa.opTrue

