/- TextShows: Show and Read answer just what the document says, errors too. No condition. -/
import Derived.Test.YtpcjkfppacnkgaaGreatDoorGKAM
import Derived.Test.YtpcjkfppacnkgaaGreatDoorGKAN
import Derived.Test.YtpcjkfppacnkgaaGreatDoorGKAT
import Derived.Test.YtpcjkfppacnkgaaGreatDoorTie
import Derived.Test.YtpcjkfppacnkgaaGreatDoorCards
namespace Go.Proofs.YtpcjkfppacnkgaaGreatDoor.textShows
set_option maxHeartbeats 4000000
set_option maxRecDepth 100000
open Go Go.RowKit Go.ChangeShapes Go.WideShapes Go.ChangeAt

theorem doc_none {s : By} (h : (docT s).1 = false) : (docT s).2 = [] := by
  unfold docT at h ⊢
  split
  · rename_i hc
    rw [if_pos hc] at h
    cases h
  · rfl
theorem core (w : World) (hg : Glob w) (p : List GFunc) (v : Value) (hp : Funcs w (fun _ => True) v p) (s t : By) (r f : Int) (q : List GFunc) (d : Bool)
    (hshow : ∀ w, Glob w → Funcs w (fun _ => True) v p → Calls Tryz.prog 11 #[v] w fun e w' => e = .returned (.tuple #[.string ⟨t.toArray⟩, .int .i64 r]) ∧ Ext w w')
    (herr : ∀ w, Funcs w (fun _ => True) v p → Calls Tryz.prog 14 #[v] w fun e w' => e = .returned (.int .i64 r) ∧ Ext w w')
    (htext : r = 0 → ∀ w, Funcs w (fun _ => True) v p → Calls Tryz.prog 15 #[v] w fun e w' => e = .returned (.string ⟨t.toArray⟩) ∧ Ext w w')
    (hnone : r ≠ 0 → t = [])
    (hread : ∀ w, Glob w → Calls Tryz.prog 16 #[.string ⟨s.toArray⟩] w fun e w' => (∃ a c, e = .returned (.tuple #[.slice a q.length c, .int .i64 f]) ∧ Funcs w' (fun _ => True) (.slice a q.length c) q) ∧ Ext w w')
    (hmany : 8192 < s.length → f = 2 ∧ q = [])
    (hfrom : s.length ≤ 8192 → ∀ w, Calls Tryz.prog 18 #[.string ⟨s.toArray⟩] w fun e w' => (∃ a c, e = .returned (.tuple #[.slice a q.length c, .bool d]) ∧ Funcs w' (fun _ => True) (.slice a q.length c) q) ∧ Ext w w')
    (hf : s.length ≤ 8192 → f = if d then 0 else 1) :
    Calls Tryz.prog 5 #[v, .string ⟨s.toArray⟩] w fun e w' => e = .returned (.bool true) ∧ Ext w w' := by
  have HG := Lib.hid hg
  have HP := Lib.hid hp
  have HSHOW := Lib.hid hshow
  have HERR := Lib.hid herr
  have HREAD := Lib.hid hread
  obtain ⟨ap, cp, rfl, _, _, _⟩ := hp
  clear hg hshow herr hread
  by_cases hz : r = 0
  · have HTEXT := Lib.hid (htext hz)
    subst hz
    clear htext hnone
    by_cases hl : 8192 < s.length
    · obtain ⟨rfl, rfl⟩ := hmany hl
      have TL : decide ((8192 : Int) < (s.length : Int)) = true := decide_eq_true (by omega)
      clear hl hfrom hf hmany
      go_enter Tryz.func5, Tryz.ntmps5
      go_wp2_with (first
        | (go_at_call 11; (with_reducible refine (HSHOW.out _ HG.out HP.out).mono ?_); rintro e w1 ⟨rfl, hb1⟩; have E1 := Lib.hid hb1; clear hb1)
        | (go_at_call 14; (with_reducible refine (HERR.out _ (Funcs.stays (Ext.stays E1.out) HP.out)).mono ?_); rintro e w2 ⟨rfl, hb2⟩; have E2 := Lib.hid (E1.out.trans hb2); clear hb2)
        | (go_at_call 15; (with_reducible refine (HTEXT.out _ (Funcs.stays (Ext.stays E2.out) HP.out)).mono ?_); rintro e w3 ⟨rfl, hb3⟩; have E3 := Lib.hid (E2.out.trans hb3); clear hb3)
        | (go_at_call 16; (with_reducible refine (HREAD.out _ (HG.out.ext E3.out)).mono ?_); rintro e w4 ⟨⟨a4, c4, rfl, hx4⟩, hb4⟩; have E4 := Lib.hid (E3.out.trans hb4); have HX4 := Lib.hid hx4; clear hb4 hx4)
        | (go_at_call 17; (with_reducible refine (textBegun_any _ (HG.out.ext E4.out)).mono ?_); rintro e w6 ⟨rfl, hb6⟩; have E6 := Lib.hid (E4.out.trans hb6); have HB6 := Lib.hid hb6; clear hb6))
      go_ret
      exact ⟨rfl, E6.out⟩
    · have HFROM := Lib.hid (hfrom (by omega))
      have HF := hf (by omega)
      have TL : decide ((8192 : Int) < (s.length : Int)) = false := decide_eq_false (by omega)
      clear hl hfrom hf hmany
      cases d
      · obtain rfl : f = 1 := HF
        go_enter Tryz.func5, Tryz.ntmps5
        go_wp2_with (first
          | (go_at_call 11; (with_reducible refine (HSHOW.out _ HG.out HP.out).mono ?_); rintro e w1 ⟨rfl, hb1⟩; have E1 := Lib.hid hb1; clear hb1)
          | (go_at_call 14; (with_reducible refine (HERR.out _ (Funcs.stays (Ext.stays E1.out) HP.out)).mono ?_); rintro e w2 ⟨rfl, hb2⟩; have E2 := Lib.hid (E1.out.trans hb2); clear hb2)
          | (go_at_call 15; (with_reducible refine (HTEXT.out _ (Funcs.stays (Ext.stays E2.out) HP.out)).mono ?_); rintro e w3 ⟨rfl, hb3⟩; have E3 := Lib.hid (E2.out.trans hb3); clear hb3)
          | (go_at_call 16; (with_reducible refine (HREAD.out _ (HG.out.ext E3.out)).mono ?_); rintro e w4 ⟨⟨a4, c4, rfl, hx4⟩, hb4⟩; have E4 := Lib.hid (E3.out.trans hb4); have HX4 := Lib.hid hx4; clear hb4 hx4)
          | (go_at_call 18; (with_reducible refine (HFROM.out _).mono ?_); rintro e w5 ⟨⟨a5, c5, rfl, hx5⟩, hb5⟩; have E5 := Lib.hid (E4.out.trans hb5); have HX5 := Lib.hid hx5; have HX4 := Lib.hid (Funcs.stays (Ext.stays hb5) HX4.out); clear hb5 hx5)
          | (go_at_call 17; (with_reducible refine (textBegun_any _ (HG.out.ext E5.out)).mono ?_); rintro e w6 ⟨rfl, hb6⟩; have E6 := Lib.hid (E5.out.trans hb6); have HB6 := Lib.hid hb6; clear hb6)
          | (go_at_call 19; (with_reducible refine (sameProgs_any q q _ _ (fun _ => True) (fun _ => True) _ (Funcs.stays (Ext.stays HB6.out) HX4.out) (Funcs.stays (Ext.stays HB6.out) HX5.out)).mono ?_); rintro e w7 ⟨rfl, hb7⟩; rw [decide_eq_true (rfl : q = q)]))
        go_ret
        exact ⟨rfl, E6.out.trans hb7⟩
      · obtain rfl : f = 0 := HF
        go_enter Tryz.func5, Tryz.ntmps5
        go_wp2_with (first
          | (go_at_call 11; (with_reducible refine (HSHOW.out _ HG.out HP.out).mono ?_); rintro e w1 ⟨rfl, hb1⟩; have E1 := Lib.hid hb1; clear hb1)
          | (go_at_call 14; (with_reducible refine (HERR.out _ (Funcs.stays (Ext.stays E1.out) HP.out)).mono ?_); rintro e w2 ⟨rfl, hb2⟩; have E2 := Lib.hid (E1.out.trans hb2); clear hb2)
          | (go_at_call 15; (with_reducible refine (HTEXT.out _ (Funcs.stays (Ext.stays E2.out) HP.out)).mono ?_); rintro e w3 ⟨rfl, hb3⟩; have E3 := Lib.hid (E2.out.trans hb3); clear hb3)
          | (go_at_call 16; (with_reducible refine (HREAD.out _ (HG.out.ext E3.out)).mono ?_); rintro e w4 ⟨⟨a4, c4, rfl, hx4⟩, hb4⟩; have E4 := Lib.hid (E3.out.trans hb4); have HX4 := Lib.hid hx4; clear hb4 hx4)
          | (go_at_call 18; (with_reducible refine (HFROM.out _).mono ?_); rintro e w5 ⟨⟨a5, c5, rfl, hx5⟩, hb5⟩; have E5 := Lib.hid (E4.out.trans hb5); have HX5 := Lib.hid hx5; have HX4 := Lib.hid (Funcs.stays (Ext.stays hb5) HX4.out); clear hb5 hx5)
          | (go_at_call 17; (with_reducible refine (textBegun_any _ (HG.out.ext E5.out)).mono ?_); rintro e w6 ⟨rfl, hb6⟩; have E6 := Lib.hid (E5.out.trans hb6); have HB6 := Lib.hid hb6; clear hb6)
          | (go_at_call 19; (with_reducible refine (sameProgs_any q q _ _ (fun _ => True) (fun _ => True) _ (Funcs.stays (Ext.stays HB6.out) HX4.out) (Funcs.stays (Ext.stays HB6.out) HX5.out)).mono ?_); rintro e w7 ⟨rfl, hb7⟩; rw [decide_eq_true (rfl : q = q)]))
        go_ret
        exact ⟨rfl, E6.out.trans hb7⟩
  · obtain rfl := hnone hz
    have TZ : (r == 0) = false := beq_eq_false_iff_ne.2 hz
    clear hz htext hnone
    by_cases hl : 8192 < s.length
    · obtain ⟨rfl, rfl⟩ := hmany hl
      have TL : decide ((8192 : Int) < (s.length : Int)) = true := decide_eq_true (by omega)
      clear hl hfrom hf hmany
      go_enter Tryz.func5, Tryz.ntmps5
      go_wp2_with (first
        | (go_at_call 11; (with_reducible refine (HSHOW.out _ HG.out HP.out).mono ?_); rintro e w1 ⟨rfl, hb1⟩; have E1 := Lib.hid hb1; clear hb1)
        | (go_at_call 14; (with_reducible refine (HERR.out _ (Funcs.stays (Ext.stays E1.out) HP.out)).mono ?_); rintro e w2 ⟨rfl, hb2⟩; have E2 := Lib.hid (E1.out.trans hb2); clear hb2)
        | (go_at_call 16; (with_reducible refine (HREAD.out _ (HG.out.ext E2.out)).mono ?_); rintro e w4 ⟨⟨a4, c4, rfl, hx4⟩, hb4⟩; have E4 := Lib.hid (E2.out.trans hb4); have HX4 := Lib.hid hx4; clear hb4 hx4)
        | (go_at_call 17; (with_reducible refine (textBegun_any _ (HG.out.ext E4.out)).mono ?_); rintro e w6 ⟨rfl, hb6⟩; have E6 := Lib.hid (E4.out.trans hb6); have HB6 := Lib.hid hb6; clear hb6))
      go_ret
      exact ⟨rfl, E6.out⟩
    · have HFROM := Lib.hid (hfrom (by omega))
      have HF := hf (by omega)
      have TL : decide ((8192 : Int) < (s.length : Int)) = false := decide_eq_false (by omega)
      clear hl hfrom hf hmany
      cases d
      · obtain rfl : f = 1 := HF
        go_enter Tryz.func5, Tryz.ntmps5
        go_wp2_with (first
          | (go_at_call 11; (with_reducible refine (HSHOW.out _ HG.out HP.out).mono ?_); rintro e w1 ⟨rfl, hb1⟩; have E1 := Lib.hid hb1; clear hb1)
          | (go_at_call 14; (with_reducible refine (HERR.out _ (Funcs.stays (Ext.stays E1.out) HP.out)).mono ?_); rintro e w2 ⟨rfl, hb2⟩; have E2 := Lib.hid (E1.out.trans hb2); clear hb2)
          | (go_at_call 16; (with_reducible refine (HREAD.out _ (HG.out.ext E2.out)).mono ?_); rintro e w4 ⟨⟨a4, c4, rfl, hx4⟩, hb4⟩; have E4 := Lib.hid (E2.out.trans hb4); have HX4 := Lib.hid hx4; clear hb4 hx4)
          | (go_at_call 18; (with_reducible refine (HFROM.out _).mono ?_); rintro e w5 ⟨⟨a5, c5, rfl, hx5⟩, hb5⟩; have E5 := Lib.hid (E4.out.trans hb5); have HX5 := Lib.hid hx5; have HX4 := Lib.hid (Funcs.stays (Ext.stays hb5) HX4.out); clear hb5 hx5)
          | (go_at_call 17; (with_reducible refine (textBegun_any _ (HG.out.ext E5.out)).mono ?_); rintro e w6 ⟨rfl, hb6⟩; have E6 := Lib.hid (E5.out.trans hb6); have HB6 := Lib.hid hb6; clear hb6)
          | (go_at_call 19; (with_reducible refine (sameProgs_any q q _ _ (fun _ => True) (fun _ => True) _ (Funcs.stays (Ext.stays HB6.out) HX4.out) (Funcs.stays (Ext.stays HB6.out) HX5.out)).mono ?_); rintro e w7 ⟨rfl, hb7⟩; rw [decide_eq_true (rfl : q = q)]))
        go_ret
        exact ⟨rfl, E6.out.trans hb7⟩
      · obtain rfl : f = 0 := HF
        go_enter Tryz.func5, Tryz.ntmps5
        go_wp2_with (first
          | (go_at_call 11; (with_reducible refine (HSHOW.out _ HG.out HP.out).mono ?_); rintro e w1 ⟨rfl, hb1⟩; have E1 := Lib.hid hb1; clear hb1)
          | (go_at_call 14; (with_reducible refine (HERR.out _ (Funcs.stays (Ext.stays E1.out) HP.out)).mono ?_); rintro e w2 ⟨rfl, hb2⟩; have E2 := Lib.hid (E1.out.trans hb2); clear hb2)
          | (go_at_call 16; (with_reducible refine (HREAD.out _ (HG.out.ext E2.out)).mono ?_); rintro e w4 ⟨⟨a4, c4, rfl, hx4⟩, hb4⟩; have E4 := Lib.hid (E2.out.trans hb4); have HX4 := Lib.hid hx4; clear hb4 hx4)
          | (go_at_call 18; (with_reducible refine (HFROM.out _).mono ?_); rintro e w5 ⟨⟨a5, c5, rfl, hx5⟩, hb5⟩; have E5 := Lib.hid (E4.out.trans hb5); have HX5 := Lib.hid hx5; have HX4 := Lib.hid (Funcs.stays (Ext.stays hb5) HX4.out); clear hb5 hx5)
          | (go_at_call 17; (with_reducible refine (textBegun_any _ (HG.out.ext E5.out)).mono ?_); rintro e w6 ⟨rfl, hb6⟩; have E6 := Lib.hid (E5.out.trans hb6); have HB6 := Lib.hid hb6; clear hb6)
          | (go_at_call 19; (with_reducible refine (sameProgs_any q q _ _ (fun _ => True) (fun _ => True) _ (Funcs.stays (Ext.stays HB6.out) HX4.out) (Funcs.stays (Ext.stays HB6.out) HX5.out)).mono ?_); rintro e w7 ⟨rfl, hb7⟩; rw [decide_eq_true (rfl : q = q)]))
        go_ret
        exact ⟨rfl, E6.out.trans hb7⟩

theorem walk (w : World) (hg : Glob w) (p : List GFunc) (v : Value) (hp : Funcs w (fun _ => True) v p) (sb : ByteArray) (_ : sb.size ≤ maxLen) :
    Calls Tryz.prog 5 #[v, .string sb] w fun e w' => e = .returned (.bool true) ∧ Ext w w' := by
  obtain ⟨s, rfl⟩ : ∃ s : By, sb = ⟨s.toArray⟩ := ⟨sb.data.toList, by cases sb; simp⟩
  refine core w hg p v hp s (showT p) (progErr p) (readT s).1 (readT s).2 (docT s).1 (fun w hg hp => show_any p v _ w hg hp) (fun w hp => progError_any p v _ w hp) ?_ ?_ ?_ ?_ ?_ ?_
  · intro hz w hp
    unfold showT
    rw [if_pos hz]
    exact progText_any p v _ w hp hz
  · intro hz
    unfold showT
    rw [if_neg hz]
  · intro w hg
    refine (read_any s w hg).mono ?_
    rintro e w' ⟨⟨x, fs, rfl, hr, hfs⟩, hx⟩
    have hF := hr.funcs (fun _ => True) (fun _ _ => trivial)
    rw [hfs] at hF
    obtain ⟨a, c, rfl, _, _, _⟩ := id hF
    exact ⟨⟨a, c, rfl, hF⟩, hx⟩
  · intro hl
    unfold readT
    rw [if_pos hl]
    exact ⟨rfl, rfl⟩
  · intro hl w
    refine (progFrom_any s w (by omega)).mono ?_
    rintro e w' ⟨⟨x, rfl, hF⟩, hx⟩
    have h2 : (readT s).2 = (docT s).2 := by
      rw [read_doc hl]
      cases hd : (docT s).1 with
      | true => rfl
      | false => exact (doc_none hd).symm
    rw [h2]
    have hF' : Funcs w' (fun _ => True) x (docT s).2 := Sl.mono hF fun _ _ _ h => FuncC.stays (Stays.widen (fun _ _ => trivial)) h
    obtain ⟨a, c, rfl, _, _, _⟩ := id hF'
    exact ⟨⟨a, c, rfl, hF'⟩, hx⟩
  · intro hl
    rw [read_doc hl]
    cases (docT s).1 <;> rfl

theorem contract (H : Type) (enc : TypeId × Value → H) (W : World) (base : Nat) (args : Array Value) (ds gs : List (DataW H)) (before : List MemPlace)
    (hval : ∀ (j : Nat) t v, Tryz.f5.params[j]? = some t → args[j]? = some v → Value.okWide Tryz.prog W .any base t v)
    (hW : DataW.Whole enc Tryz.prog Tryz.f5.params.toList Rows.textShowsSpec.vars false W args.toList ds gs before)
    (hsz : (DataW.weightsEach Tryz.prog (Tryz.f5.params.toList ++ Rows.textShowsSpec.plain.varTypes Tryz.prog) (ds ++ gs)).all (· ≤ reachBytes) = true) (hg : Glob W) :
    Calls Tryz.prog 5 args W fun e W' => ∃ v, e = .returned v ∧ Rows.textShowsSpec.post enc Tryz.prog Tryz.f5 false true false false W args v W' := by
  have hW' := hW
  obtain ⟨p, q, hA, hV, rfl, hfz, hnd⟩ := hW
  rw [Tryz.params5] at hA hval
  obtain ⟨v0, vs0, d0, ds0, q0, t0, hargs, rfl, rfl, h0, r0⟩ := trodAll_cons hA
  obtain ⟨v1, vs1, d1, ds1, q1, t1, rfl, rfl, rfl, h1, r1⟩ := trodAll_cons r0
  obtain ⟨rfl, rfl, rfl⟩ := trodAll_nil r1
  obtain rfl : args = #[v0, v1] := by cases args; simp_all
  obtain ⟨rfl, rfl⟩ := trodVars_none hV
  obtain ⟨a0, l0, c0, rfl⟩ := okWide_slice Tryz.underlying27 (hval 0 27 v0 rfl rfl)
  obtain ⟨fuel0, h0⟩ := h0
  obtain ⟨x0, h0⟩ := funcs_of_trod h0 (fun n hn => by
    have := List.all_eq_true.1 hsz n (DataW.weights_mem_each (j := 0) rfl rfl n hn)
    simpa using this)
  obtain ⟨x1, rfl, rfl, rfl, hs1⟩ := Go.ChangeMaps.open_string Tryz.underlying9 (hval 1 9 v1 rfl rfl) h1
  refine (walk W hg x0 _ h0 x1 hs1).mono fun e W' ⟨he, hE⟩ => ⟨_, he, law_post laidOut ?_ rfl Tryz.underlying4 rfl hW' ?_ hE⟩
  · rw [Tryz.params5]
    intro t ht
    simp at ht
    (try rcases ht with rfl | rfl) <;> exact ⟨by kernel_rfl, of_decide_eq_true (by kernel_rfl)⟩
  · intro ds hds
    match ds, hds with
    | [d0, d1], _ => exact ⟨rfl, rfl, rfl⟩

theorem lifted (os : Os) (started : os.Started) (H : Type) (enc : TypeId × Value → H) :
    ReturnsInHanded {} Tryz.checked os 5 .any (fun w args => (Rows.textShowsSpec.pre enc Tryz.prog Tryz.f5 Rows.textShowsRow.domain false w args ∧ laidMetH Tryz.prog laidL w) ∧ sizedMet enc Tryz.prog Tryz.f5 (OpenSpec.ofChange Rows.textShowsSpec) false w args) (Rows.textShowsSpec.post enc Tryz.prog Tryz.f5 false true false false) := by
  refine lift_laid own started (by kernel_rfl) Tryz.func5
    (ChangeSpec.witness_shaped (enc := enc) (C := Tryz.checked) (os := os) (X := fun w _ => laidMetH Tryz.prog laidL w) false (World.laidAll Tryz.prog os laidL) #[.slice none 0 0, .string ByteArray.empty] 8 (World.laidAll_os _ _ _) (laid_shaped os _) (by kernel_rfl) (by kernel_rfl) (by kernel_rfl) (laid_met os _)) ?_
  intro W base args ds gs before hval hW hsz hg
  exact contract H enc W base args ds gs before hval hW hsz hg

theorem proved : Rows.TextShowsSaid :=
  OpenClaim.holds_of_wide 5 Tryz.f5 rfl rfl rfl rfl rfl rfl rfl ⟨rfl, rfl, rfl, rfl, rfl⟩ rfl rfl rfl rfl rfl (by as_aux_lemma => kernel_rfl) Tryz.func5 (by as_aux_lemma => kernel_rfl)
    (of_decide_eq_true (by as_aux_lemma => kernel_rfl)) (by unfold Func.isWrapper; rw [if_neg (of_decide_eq_false (by as_aux_lemma => kernel_rfl))]; exact ⟨rfl, rfl⟩)
    (fun os started H enc _ => lifted os started H enc)
theorem carded : Rows.TextShowsCardSaid := by
  refine Claim7.holds_tied_plain_at .later [] _ true _ true proved (fun _ h => by cases h) (by kernel_rfl) (fun _ h => by cases h) textShows_row_tie rfl ⟨rfl, rfl⟩ (by kernel_rfl) rfl (fun f fn hf hfn => ?_) (by kernel_rfl)
  obtain rfl : f = 5 := Option.some.inj ((show Tryz.prog.funcNamed "glebe/glebelaw.TextShows" = some 5 by kernel_rfl).symm.trans hf) |>.symm
  obtain rfl : fn = Tryz.f5 := (Option.some.inj (Tryz.func5.symm.trans hfn)).symm
  refine ⟨by kernel_rfl, fun j t ht => ?_⟩
  rw [Tryz.params5] at ht
  have hm : t ∈ [27, 9] := by simpa using Array.mem_of_getElem? ht
  have hall : ([27, 9].all fun u => !Tryz.prog.wantsStandIn u) = true := by kernel_rfl
  exact (show Tryz.prog.wantsStandIn t = false by simpa using List.all_eq_true.1 hall t hm)
end Go.Proofs.YtpcjkfppacnkgaaGreatDoor.textShows

