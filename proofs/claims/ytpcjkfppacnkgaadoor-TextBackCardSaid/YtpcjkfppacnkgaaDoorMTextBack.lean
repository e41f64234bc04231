/- TextBack: what is shown is read as it was, and nothing else is. No condition. -/
import Derived.Test.YtpcjkfppacnkgaaDoorGLAM
import Derived.Test.YtpcjkfppacnkgaaDoorGLAS
import Derived.Test.YtpcjkfppacnkgaaDoorTie
import Derived.Test.YtpcjkfppacnkgaaDoorCards
namespace Go.Proofs.YtpcjkfppacnkgaaDoor.textBack
set_option maxHeartbeats 4000000
set_option maxRecDepth 100000
open Go Go.RowKit Go.ChangeShapes Go.WideShapes Go.ChangeAt

theorem core (w : World) (hg : Glob w) (p : List GFunc) (v : Value) (hp : Funcs w (fun _ => True) v p) (s t : By) (r f : Int) (q : List GFunc)
    (hshow : ∀ w, Glob w → Funcs w (fun _ => True) v p → Calls Tryd.prog 4 #[v] w fun e w' => e = .returned (.tuple #[.string ⟨t.toArray⟩, .int .i64 r]) ∧ Ext w w')
    (hback : r = 0 → ∀ w, Glob w → Calls Tryd.prog 5 #[.string ⟨t.toArray⟩] w fun e w' => (∃ a c, e = .returned (.tuple #[.slice a p.length c, .int .i64 0]) ∧ Funcs w' (fun _ => True) (.slice a p.length c) p) ∧ Ext w w')
    (hread : ∀ w, Glob w → Calls Tryd.prog 5 #[.string ⟨s.toArray⟩] w fun e w' => (∃ a c, e = .returned (.tuple #[.slice a q.length c, .int .i64 f]) ∧ Funcs w' (fun _ => True) (.slice a q.length c) q) ∧ Ext w w')
    (hagain : f = 0 → ∀ w a c, Glob w → Funcs w (fun _ => True) (.slice a q.length c) q → Calls Tryd.prog 4 #[.slice a q.length c] w fun e w' => e = .returned (.tuple #[.string ⟨s.toArray⟩, .int .i64 0]) ∧ Ext w w') :
    Calls Tryd.prog 3 #[v, .string ⟨s.toArray⟩] w fun e w' => e = .returned (.bool true) ∧ Ext w w' := by
  have HG := Lib.hid hg
  have HP := Lib.hid hp
  have HSHOW := Lib.hid hshow
  have HREAD := Lib.hid hread
  obtain ⟨ap, cp, rfl, _, _, _⟩ := hp
  clear hg hshow hread
  by_cases hz : r = 0
  · have HBACK := Lib.hid (hback hz)
    subst hz
    clear hback
    by_cases hy : f = 0
    · have HAGAIN := Lib.hid (hagain hy)
      subst hy
      clear hagain
      go_enter Tryd.func3, Tryd.ntmps3
      go_upto_region 2 with (first
        | (go_at_call 4; (with_reducible refine (HSHOW.out _ HG.out HP.out).mono ?_); rintro e w1 ⟨rfl, hb1⟩))
      have E1 := Lib.hid hb1
      clear hb1 HSHOW
      go_upto_region 6 with (first
        | (go_at_call 5; (with_reducible refine (HBACK.out _ (HG.out.ext E1.out)).mono ?_); rintro e w2 ⟨⟨a2, c2, rfl, hx2⟩, hb2⟩; have E2 := Lib.hid (E1.out.trans hb2); have HX2 := Lib.hid hx2; clear hb2 hx2)
        | (go_at_call 6; (with_reducible refine (sameProgs_any p p _ _ (fun _ => True) (fun _ => True) _ HX2.out (Funcs.stays (Ext.stays E2.out) HP.out)).mono ?_); rintro e w3 ⟨rfl, hb3⟩; rw [decide_eq_true (rfl : p = p)]; have E3 := Lib.hid (E2.out.trans hb3); clear hb3))
      clear HBACK HX2
      go_upto_region 7 with (first
        | (go_at_call 5; (with_reducible refine (HREAD.out _ (HG.out.ext E3.out)).mono ?_); rintro e w4 ⟨⟨a4, c4, rfl, hx4⟩, hb4⟩; have E4 := Lib.hid (E3.out.trans hb4); have HX4 := Lib.hid hx4; clear hb4 hx4))
      clear HREAD
      go_wp2_with (first
        | (go_at_call 4; (with_reducible refine (HAGAIN.out _ _ _ (HG.out.ext E4.out) HX4.out).mono ?_); rintro e w5 ⟨rfl, hb5⟩; have E5 := Lib.hid (E4.out.trans hb5); clear hb5)
        | (go_at_call 7; (with_reducible refine (textBegun_any _ (HG.out.ext E5.out)).mono ?_); rintro e w6 ⟨rfl, hb6⟩; have E6 := Lib.hid (E5.out.trans hb6); clear hb6))
      go_ret
      exact ⟨rfl, E6.out⟩
    · have TY : (f != 0) = true := bne_iff_ne.2 hy
      clear hy hagain
      go_enter Tryd.func3, Tryd.ntmps3
      go_upto_region 2 with (first
        | (go_at_call 4; (with_reducible refine (HSHOW.out _ HG.out HP.out).mono ?_); rintro e w1 ⟨rfl, hb1⟩))
      have E1 := Lib.hid hb1
      clear hb1 HSHOW
      go_upto_region 6 with (first
        | (go_at_call 5; (with_reducible refine (HBACK.out _ (HG.out.ext E1.out)).mono ?_); rintro e w2 ⟨⟨a2, c2, rfl, hx2⟩, hb2⟩; have E2 := Lib.hid (E1.out.trans hb2); have HX2 := Lib.hid hx2; clear hb2 hx2)
        | (go_at_call 6; (with_reducible refine (sameProgs_any p p _ _ (fun _ => True) (fun _ => True) _ HX2.out (Funcs.stays (Ext.stays E2.out) HP.out)).mono ?_); rintro e w3 ⟨rfl, hb3⟩; rw [decide_eq_true (rfl : p = p)]; have E3 := Lib.hid (E2.out.trans hb3); clear hb3))
      clear HBACK HX2
      go_upto_region 7 with (first
        | (go_at_call 5; (with_reducible refine (HREAD.out _ (HG.out.ext E3.out)).mono ?_); rintro e w4 ⟨⟨a4, c4, rfl, hx4⟩, hb4⟩; have E4 := Lib.hid (E3.out.trans hb4); have HX4 := Lib.hid hx4; clear hb4 hx4))
      clear HREAD
      go_wp2_with (first
        | (go_at_call 7; (with_reducible refine (textBegun_any _ (HG.out.ext E4.out)).mono ?_); rintro e w6 ⟨rfl, hb6⟩; have E6 := Lib.hid (E4.out.trans hb6); clear hb6))
      go_ret
      exact ⟨rfl, E6.out⟩
  · have TZ : (r == 0) = false := beq_eq_false_iff_ne.2 hz
    clear hz hback
    by_cases hy : f = 0
    · have HAGAIN := Lib.hid (hagain hy)
      subst hy
      clear hagain
      go_enter Tryd.func3, Tryd.ntmps3
      go_upto_region 2 with (first
        | (go_at_call 4; (with_reducible refine (HSHOW.out _ HG.out HP.out).mono ?_); rintro e w1 ⟨rfl, hb1⟩))
      have E1 := Lib.hid hb1
      clear hb1 HSHOW
      go_upto_region 7 with (first
        | (go_at_call 5; (with_reducible refine (HREAD.out _ (HG.out.ext E1.out)).mono ?_); rintro e w4 ⟨⟨a4, c4, rfl, hx4⟩, hb4⟩; have E4 := Lib.hid (E1.out.trans hb4); have HX4 := Lib.hid hx4; clear hb4 hx4))
      clear HREAD
      go_wp2_with (first
        | (go_at_call 4; (with_reducible refine (HAGAIN.out _ _ _ (HG.out.ext E4.out) HX4.out).mono ?_); rintro e w5 ⟨rfl, hb5⟩; have E5 := Lib.hid (E4.out.trans hb5); clear hb5)
        | (go_at_call 7; (with_reducible refine (textBegun_any _ (HG.out.ext E5.out)).mono ?_); rintro e w6 ⟨rfl, hb6⟩; have E6 := Lib.hid (E5.out.trans hb6); clear hb6))
      go_ret
      exact ⟨rfl, E6.out⟩
    · have TY : (f != 0) = true := bne_iff_ne.2 hy
      clear hy hagain
      go_enter Tryd.func3, Tryd.ntmps3
      go_upto_region 2 with (first
        | (go_at_call 4; (with_reducible refine (HSHOW.out _ HG.out HP.out).mono ?_); rintro e w1 ⟨rfl, hb1⟩))
      have E1 := Lib.hid hb1
      clear hb1 HSHOW
      go_upto_region 7 with (first
        | (go_at_call 5; (with_reducible refine (HREAD.out _ (HG.out.ext E1.out)).mono ?_); rintro e w4 ⟨⟨a4, c4, rfl, hx4⟩, hb4⟩; have E4 := Lib.hid (E1.out.trans hb4); have HX4 := Lib.hid hx4; clear hb4 hx4))
      clear HREAD
      go_wp2_with (first
        | (go_at_call 7; (with_reducible refine (textBegun_any _ (HG.out.ext E4.out)).mono ?_); rintro e w6 ⟨rfl, hb6⟩; have E6 := Lib.hid (E4.out.trans hb6); clear hb6))
      go_ret
      exact ⟨rfl, E6.out⟩

theorem read_ok {s : By} (h : (readT s).1 = 0) : progErr (readT s).2 = 0 ∧ textP (readT s).2 = s := by
  unfold readT at h ⊢
  by_cases hl : 8192 < s.length
  · rw [if_pos hl] at h
    exact absurd h (by decide)
  · rw [if_neg hl] at h ⊢
    cases hr : readR s with
    | none => rw [hr] at h; exact absurd h (show ¬ (1 : Int) = 0 by decide)
    | some p =>
      rw [hr] at h
      dsimp only at h ⊢
      by_cases hc : progErr p = 0 ∧ textP p = s
      · rw [if_pos hc]
        exact hc
      · rw [if_neg hc] at h
        exact absurd h (by decide)
theorem walk (w : World) (hg : Glob w) (p : List GFunc) (v : Value) (hp : Funcs w (fun _ => True) v p) (sb : ByteArray) (_ : sb.size ≤ maxLen) :
    Calls Tryd.prog 3 #[v, .string sb] w fun e w' => e = .returned (.bool true) ∧ Ext w w' := by
  obtain ⟨s, rfl⟩ : ∃ s : By, sb = ⟨s.toArray⟩ := ⟨sb.data.toList, by cases sb; simp⟩
  have hR : ∀ (s : By) (r : Int) (q : List GFunc), readT s = (r, q) → ∀ w, Glob w → Calls Tryd.prog 5 #[.string ⟨s.toArray⟩] w fun e w' => (∃ a c, e = .returned (.tuple #[.slice a q.length c, .int .i64 r]) ∧ Funcs w' (fun _ => True) (.slice a q.length c) q) ∧ Ext w w' := by
    intro s r q hq w hg
    refine (read_any s w hg).mono ?_
    rintro e w' ⟨⟨x, fs, rfl, hr, hfs⟩, hx⟩
    have hF := hr.funcs (fun _ => True) (fun _ _ => trivial)
    rw [hfs, hq] at hF
    rw [hq]
    obtain ⟨a, c, rfl, _, _, _⟩ := id hF
    exact ⟨⟨a, c, rfl, hF⟩, hx⟩
  refine core w hg p v hp s (showT p) (progErr p) (readT s).1 (readT s).2 (fun w hg hp => show_any p v _ w hg hp) ?_ (hR s _ _ rfl) ?_
  · intro hz
    refine hR _ _ _ ?_
    unfold showT
    rw [if_pos hz]
    exact readT_text hz
  · intro h0 w a c hg hq
    obtain ⟨h1, h2⟩ := read_ok h0
    refine (show_any _ _ _ w hg hq).mono ?_
    rintro e w' ⟨rfl, hx⟩
    refine ⟨?_, hx⟩
    unfold showT
    rw [if_pos h1, h1, h2]

theorem contract (H : Type) (enc : TypeId × Value → H) (W : World) (base : Nat) (args : Array Value) (ds gs : List (DataW H)) (before : List MemPlace)
    (hval : ∀ (j : Nat) t v, Tryd.f3.params[j]? = some t → args[j]? = some v → Value.okWide Tryd.prog W .any base t v)
    (hW : DataW.Whole enc Tryd.prog Tryd.f3.params.toList Rows.textBackSpec.vars false W args.toList ds gs before)
    (hsz : (DataW.weightsEach Tryd.prog (Tryd.f3.params.toList ++ Rows.textBackSpec.plain.varTypes Tryd.prog) (ds ++ gs)).all (· ≤ reachBytes) = true) (hg : Glob W) :
    Calls Tryd.prog 3 args W fun e W' => ∃ v, e = .returned v ∧ Rows.textBackSpec.post enc Tryd.prog Tryd.f3 false true false false W args v W' := by
  have hW' := hW
  obtain ⟨p, q, hA, hV, rfl, hfz, hnd⟩ := hW
  rw [Tryd.params3] at hA hval
  obtain ⟨v0, vs0, d0, ds0, q0, t0, hargs, rfl, rfl, h0, r0⟩ := trodAll_cons hA
  obtain ⟨v1, vs1, d1, ds1, q1, t1, rfl, rfl, rfl, h1, r1⟩ := trodAll_cons r0
  obtain ⟨rfl, rfl, rfl⟩ := trodAll_nil r1
  obtain rfl : args = #[v0, v1] := by cases args; simp_all
  obtain ⟨rfl, rfl⟩ := trodVars_none hV
  obtain ⟨a0, l0, c0, rfl⟩ := okWide_slice Tryd.underlying22 (hval 0 22 v0 rfl rfl)
  obtain ⟨fuel0, h0⟩ := h0
  obtain ⟨x0, h0⟩ := funcs_of_trod h0 (fun n hn => by
    have := List.all_eq_true.1 hsz n (DataW.weights_mem_each (j := 0) rfl rfl n hn)
    simpa using this)
  obtain ⟨x1, rfl, rfl, rfl, hs1⟩ := Go.ChangeMaps.open_string Tryd.underlying9 (hval 1 9 v1 rfl rfl) h1
  refine (walk W hg x0 _ h0 x1 hs1).mono fun e W' ⟨he, hE⟩ => ⟨_, he, law_post laidOut ?_ rfl Tryd.underlying4 rfl hW' ?_ hE⟩
  · rw [Tryd.params3]
    intro t ht
    simp at ht
    (try rcases ht with rfl | rfl) <;> exact ⟨by kernel_rfl, of_decide_eq_true (by kernel_rfl)⟩
  · intro ds hds
    match ds, hds with
    | [d0, d1], _ => exact ⟨rfl, rfl, rfl⟩

theorem lifted (os : Os) (started : os.Started) (H : Type) (enc : TypeId × Value → H) :
    ReturnsInHanded {} Tryd.checked os 3 .any (fun w args => (Rows.textBackSpec.pre enc Tryd.prog Tryd.f3 Rows.textBackRow.domain false w args ∧ laidMetH Tryd.prog laidL w) ∧ sizedMet enc Tryd.prog Tryd.f3 (OpenSpec.ofChange Rows.textBackSpec) false w args) (Rows.textBackSpec.post enc Tryd.prog Tryd.f3 false true false false) := by
  refine lift_laid own started (by kernel_rfl) Tryd.func3
    (ChangeSpec.witness_shaped (enc := enc) (C := Tryd.checked) (os := os) (X := fun w _ => laidMetH Tryd.prog laidL w) false (World.laidAll Tryd.prog os laidL) #[.slice none 0 0, .string ByteArray.empty] 8 (World.laidAll_os _ _ _) (laid_shaped os _) (by kernel_rfl) (by kernel_rfl) (by kernel_rfl) (laid_met os _)) ?_
  intro W base args ds gs before hval hW hsz hg
  exact contract H enc W base args ds gs before hval hW hsz hg

theorem proved : Rows.TextBackSaid :=
  OpenClaim.holds_of_wide 3 Tryd.f3 rfl rfl rfl rfl rfl rfl rfl ⟨rfl, rfl, rfl, rfl, rfl⟩ rfl rfl rfl rfl rfl (by as_aux_lemma => kernel_rfl) Tryd.func3 (by as_aux_lemma => kernel_rfl)
    (of_decide_eq_true (by as_aux_lemma => kernel_rfl)) (by unfold Func.isWrapper; rw [if_neg (of_decide_eq_false (by as_aux_lemma => kernel_rfl))]; exact ⟨rfl, rfl⟩)
    (fun os started H enc _ => lifted os started H enc)
theorem carded : Rows.TextBackCardSaid := by
  refine Claim7.holds_tied_plain_at .later [] _ true _ true proved (fun _ h => by cases h) (by kernel_rfl) (fun _ h => by cases h) textBack_row_tie rfl ⟨rfl, rfl⟩ (by kernel_rfl) rfl (fun f fn hf hfn => ?_) (by kernel_rfl)
  obtain rfl : f = 3 := Option.some.inj ((show Tryd.prog.funcNamed "glebe/glebelaw.TextBack" = some 3 by kernel_rfl).symm.trans hf) |>.symm
  obtain rfl : fn = Tryd.f3 := (Option.some.inj (Tryd.func3.symm.trans hfn)).symm
  refine ⟨by kernel_rfl, fun j t ht => ?_⟩
  rw [Tryd.params3] at ht
  have hm : t ∈ [22, 9] := by simpa using Array.mem_of_getElem? ht
  have hall : ([22, 9].all fun u => !Tryd.prog.wantsStandIn u) = true := by kernel_rfl
  exact (show Tryd.prog.wantsStandIn t = false by simpa using List.all_eq_true.1 hall t hm)
end Go.Proofs.YtpcjkfppacnkgaaDoor.textBack

