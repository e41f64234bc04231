/- SaveBack: what is written is read as it was, and nothing else is. No condition. -/
import Derived.Test.YtgahbngbpfilgaaGBAA
import Derived.Test.YtgahbngbpfilgaaGBAB
import Derived.Test.YtgahbngbpfilgaaGBBF
namespace Go.Proofs.Ytgahbngbpfilgaa.saveBack
set_option maxHeartbeats 4000000
set_option maxRecDepth 100000
open Go Go.RowKit Go.ChangeShapes Go.WideShapes Go.ChangeAt

/-- What follows behind the first half: b is read, and what came is written. -/
theorem walk (w : World) (p : List GFunc) (v : Value) (hp : Funcs w (fun _ => True) v p) (s : GState) (vs : Value) (hs : StateV w (fun _ => True) vs s) (bb : ByteArray) (_ : bb.size ≤ maxLen) :
    Calls Try.prog 4 #[v, vs, .string bb] w fun e w' => e = .returned (.bool true) ∧ Ext w w' := by
  obtain ⟨b, rfl⟩ : ∃ b : List UInt8, bb = ⟨b.toArray⟩ := ⟨bb.data.toList, by cases bb; simp⟩
  have HP := Lib.hid hp
  obtain ⟨ap, capp, rfl, _, _, _⟩ := hp
  obtain ⟨sf, sn, so⟩ := s
  have HS := Lib.hid hs
  obtain ⟨sa, sc, sb, sd, rfl⟩ := few3 hs
  have RA := alloc_keep
  have b0 := (Cx.new w [.slice sa sf.length sc, .int .i64 sn, .slice sb so.length sd] 26 (j := 0) rfl).1
  have b1 := (Cx.new w [.slice sa sf.length sc, .int .i64 sn, .slice sb so.length sd] 26 (j := 1) rfl).1
  have b2 := (Cx.new w [.slice sa sf.length sc, .int .i64 sn, .slice sb so.length sd] 26 (j := 2) rfl).1
  have E0 : Hid (Ext w (w.alloc (.cells #[.slice sa sf.length sc, .int .i64 sn, .slice sb so.length sd] 26))) := (Ext.refl w).alloc _
  obtain ⟨r, hr⟩ : ∃ r, stateErr p ⟨sf, sn, so⟩ = r := ⟨_, rfl⟩
  obtain ⟨t, ht⟩ : ∃ t, writeS p ⟨sf, sn, so⟩ = t := ⟨_, rfl⟩
  obtain ⟨⟨g, yf, yn, yo⟩, hy⟩ : ∃ z, readS p b = z := ⟨_, rfl⟩
  have HR := Lib.hid hr
  have HT := Lib.hid ht
  have HY := Lib.hid hy
  have HI := Lib.hid (stateV_i64 hs)
  clear hs
  have hsz : (w.alloc (.cells #[.slice sa sf.length sc, .int .i64 sn, .slice sb so.length sd] 26)).heap.size = w.heap.size + 1 := Array.size_push _
  obtain ⟨W0, hW0⟩ : ∃ W0, W0 = w.alloc (.cells #[.slice sa sf.length sc, .int .i64 sn, .slice sb so.length sd] 26) := ⟨_, rfl⟩
  rw [← hW0] at b0 b1 b2 E0 hsz
  have HS0 := Lib.hid (StateV.stays (Ext.stays E0.out) HS.out)
  have HP0 := Lib.hid (Funcs.stays (Ext.stays E0.out) HP.out)
  clear hr ht hy
  go_enter Try.func4, Try.ntmps4
  go_upto_region 1 with fail
  rw [← hW0]
  clear hW0 hsz
  generalize w.heap.size = sx at *
  go_upto_region 2 with (first
    | (go_at_call 9; (with_reducible refine (write_val p _ _ _ ⟨sf, sn, so⟩ _ _ HP0.out HS0.out HT.out HR.out).mono ?_); rintro e w1 ⟨rfl, hb1⟩))
  have E1 := Lib.hid (E0.out.trans hb1)
  replace b0 := Ext.cell hb1 b0
  replace b1 := Ext.cell hb1 b1
  replace b2 := Ext.cell hb1 b2
  clear hb1 E0 HS0 HP0
  rename World => u1
  by_cases hz : r = 0
  · subst hz
    have HTL : Hid (t = stateL ⟨sf, sn, so⟩) := by unfold Hid; rw [← HT.out]; unfold writeS; rw [if_pos HR.out]
    have hlen : t.length ≤ 8192 := by rw [HTL.out]; exact stateL_le (mini_of HR.out)
    have HRT : Hid (readS p t = (0, ⟨sf, sn, so⟩)) := by
      have h := readS_back HR.out HI.out (by rw [← HTL.out]; exact hlen)
      rw [← HTL.out] at h
      exact h
    have TL : decide ((t.length : Int) ≤ 8192) = true := decide_eq_true (by omega)
    have TL' : decide (t.length ≤ 8192) = true := decide_eq_true hlen
    clear hlen
    go_upto_region 4 with (first
      | (go_at_call 12; (with_reducible refine (read_val p _ _ t _ (Funcs.stays (Ext.stays E1.out) HP.out) HRT.out (n := sf.length) (m := so.length) (k := sn) rfl rfl rfl).mono ?_); rintro e w2 ⟨⟨xa, xc, xb, xd, rfl, hxv⟩, hb2⟩))
    have e2 : Ext w2 (w2.alloc (.cells #[.slice xa sf.length xc, .int .i64 sn, .slice xb so.length xd] 26)) := (Ext.refl _).alloc _
    have x0 := (Cx.new w2 [.slice xa sf.length xc, .int .i64 sn, .slice xb so.length xd] 26 (j := 0) rfl).1
    have x1 := (Cx.new w2 [.slice xa sf.length xc, .int .i64 sn, .slice xb so.length xd] 26 (j := 1) rfl).1
    have x2 := (Cx.new w2 [.slice xa sf.length xc, .int .i64 sn, .slice xb so.length xd] 26 (j := 2) rfl).1
    have HXV := Lib.hid (StateV.stays (Ext.stays e2) (StateV.stays (T := fun _ => True) (Stays.widen (fun _ _ => trivial)) hxv))
    have e12 := hb2.trans e2
    replace b0 := Ext.cell e12 b0
    replace b1 := Ext.cell e12 b1
    replace b2 := Ext.cell e12 b2
    have E2 := Lib.hid (E1.out.trans e12)
    clear hb2 e2 e12 hxv E1
    generalize w2.heap.size = xx at *
    generalize w2.alloc (.cells #[.slice xa sf.length xc, .int .i64 sn, .slice xb so.length xd] 26) = u2 at *
    rename World => u2
    go_upto_region 6 with (first
      | (go_at_call 16; (with_reducible refine (same_val ⟨sf, sn, so⟩ _ _ _ _ _ HXV.out (StateV.stays (Ext.stays E2.out) HS.out)).mono ?_); rintro e w4 ⟨rfl, hb4⟩))
    have E2 := Lib.hid (E2.out.trans hb4)
    clear hb4 b0 b1 b2 x0 x1 x2 HXV
    go_upto_region 7 with (first
      | (go_at_call 12; (with_reducible refine (read_val p _ _ b _ (Funcs.stays (Ext.stays E2.out) HP.out) HY.out (n := yf.length) (m := yo.length) (k := yn) rfl rfl rfl).mono ?_); rintro e w3 ⟨⟨ya, yc, yb, yd, rfl, hyv⟩, hb3⟩))
    have y0 := (Cx.new w3 [.slice ya yf.length yc, .int .i64 yn, .slice yb yo.length yd] 26 (j := 0) rfl).1
    have y1 := (Cx.new w3 [.slice ya yf.length yc, .int .i64 yn, .slice yb yo.length yd] 26 (j := 1) rfl).1
    have y2 := (Cx.new w3 [.slice ya yf.length yc, .int .i64 yn, .slice yb yo.length yd] 26 (j := 2) rfl).1
    have e3 : Ext w3 (w3.alloc (.cells #[.slice ya yf.length yc, .int .i64 yn, .slice yb yo.length yd] 26)) := (Ext.refl _).alloc _
    have HYV := Lib.hid (StateV.stays (Ext.stays e3) (StateV.stays (T := fun _ => True) (Stays.widen (fun _ _ => trivial)) hyv))
    have E3 := Lib.hid ((E2.out.trans hb3).trans e3)
    clear hb3 e3 hyv
    generalize w3.heap.size = yx at *
    generalize w3.alloc (.cells #[.slice ya yf.length yc, .int .i64 yn, .slice yb yo.length yd] 26) = u3 at *
    rename World => u3
    by_cases hg : g = 0
    · subst hg
      obtain ⟨hbl, hey⟩ := readS_forth HY.out rfl
      have HWY : Hid (writeS p ⟨yf, yn, yo⟩ = b) := by unfold Hid writeS; rw [if_pos hey, hbl]
      have HEY := Lib.hid hey
      clear hbl hey
      go_upto_region 10 with (first
        | (go_at_call 9; (with_reducible refine (write_val p _ _ _ ⟨yf, yn, yo⟩ _ _ (Funcs.stays (Ext.stays E3.out) HP.out) HYV.out HWY.out HEY.out).mono ?_); rintro e w4 ⟨rfl, hb4⟩))
      replace y0 := Ext.cell hb4 y0
      replace y1 := Ext.cell hb4 y1
      replace y2 := Ext.cell hb4 y2
      have HYV := Lib.hid (StateV.stays (Ext.stays hb4) HYV.out)
      have E4 := Lib.hid (E3.out.trans hb4)
      clear hb4
      rename World => u4
      go_wp2_with (first
        | (go_at_call 15; (with_reducible refine (saveBegun_any _).mono ?_); rintro e w5 ⟨rfl, hb5⟩; have z0 := Ext.cell hb5 y0; have z1 := Ext.cell hb5 y1; have z2 := Ext.cell hb5 y2)
        | (go_at_call 17; (with_reducible refine (stateCheck_any p _ _ _ ⟨yf, yn, yo⟩ _ _ (Funcs.stays (Ext.stays (E4.out.trans hb5)) HP.out) (StateV.stays (Ext.stays hb5) HYV.out)).mono ?_); rintro e w6 ⟨rfl, hb6⟩; rw [HEY.out]))
      go_ret
      exact ⟨rfl, (E4.out.trans hb5).trans hb6⟩
    · have TG : (g == 0) = false := beq_eq_false_iff_ne.2 hg
      clear hg
      go_wp2_with (first
        | (go_at_call 15; (with_reducible refine (saveBegun_any _).mono ?_); rintro e w5 ⟨rfl, hb5⟩))
      go_ret
      exact ⟨rfl, E3.out.trans hb5⟩
  · have TR : (r == 0) = false := beq_eq_false_iff_ne.2 hz
    clear hz
    go_upto_region 6 with fail
    have E2 := Lib.hid E1.out
    go_upto_region 7 with (first
      | (go_at_call 12; (with_reducible refine (read_val p _ _ b _ (Funcs.stays (Ext.stays E2.out) HP.out) HY.out (n := yf.length) (m := yo.length) (k := yn) rfl rfl rfl).mono ?_); rintro e w3 ⟨⟨ya, yc, yb, yd, rfl, hyv⟩, hb3⟩))
    have y0 := (Cx.new w3 [.slice ya yf.length yc, .int .i64 yn, .slice yb yo.length yd] 26 (j := 0) rfl).1
    have y1 := (Cx.new w3 [.slice ya yf.length yc, .int .i64 yn, .slice yb yo.length yd] 26 (j := 1) rfl).1
    have y2 := (Cx.new w3 [.slice ya yf.length yc, .int .i64 yn, .slice yb yo.length yd] 26 (j := 2) rfl).1
    have e3 : Ext w3 (w3.alloc (.cells #[.slice ya yf.length yc, .int .i64 yn, .slice yb yo.length yd] 26)) := (Ext.refl _).alloc _
    have HYV := Lib.hid (StateV.stays (Ext.stays e3) (StateV.stays (T := fun _ => True) (Stays.widen (fun _ _ => trivial)) hyv))
    have E3 := Lib.hid ((E2.out.trans hb3).trans e3)
    clear hb3 e3 hyv
    generalize w3.heap.size = yx at *
    generalize w3.alloc (.cells #[.slice ya yf.length yc, .int .i64 yn, .slice yb yo.length yd] 26) = u3 at *
    rename World => u3
    by_cases hg : g = 0
    · subst hg
      obtain ⟨hbl, hey⟩ := readS_forth HY.out rfl
      have HWY : Hid (writeS p ⟨yf, yn, yo⟩ = b) := by unfold Hid writeS; rw [if_pos hey, hbl]
      have HEY := Lib.hid hey
      clear hbl hey
      go_upto_region 10 with (first
        | (go_at_call 9; (with_reducible refine (write_val p _ _ _ ⟨yf, yn, yo⟩ _ _ (Funcs.stays (Ext.stays E3.out) HP.out) HYV.out HWY.out HEY.out).mono ?_); rintro e w4 ⟨rfl, hb4⟩))
      replace y0 := Ext.cell hb4 y0
      replace y1 := Ext.cell hb4 y1
      replace y2 := Ext.cell hb4 y2
      have HYV := Lib.hid (StateV.stays (Ext.stays hb4) HYV.out)
      have E4 := Lib.hid (E3.out.trans hb4)
      clear hb4
      rename World => u4
      go_wp2_with (first
        | (go_at_call 15; (with_reducible refine (saveBegun_any _).mono ?_); rintro e w5 ⟨rfl, hb5⟩; have z0 := Ext.cell hb5 y0; have z1 := Ext.cell hb5 y1; have z2 := Ext.cell hb5 y2)
        | (go_at_call 17; (with_reducible refine (stateCheck_any p _ _ _ ⟨yf, yn, yo⟩ _ _ (Funcs.stays (Ext.stays (E4.out.trans hb5)) HP.out) (StateV.stays (Ext.stays hb5) HYV.out)).mono ?_); rintro e w6 ⟨rfl, hb6⟩; rw [HEY.out]))
      go_ret
      exact ⟨rfl, (E4.out.trans hb5).trans hb6⟩
    · have TG : (g == 0) = false := beq_eq_false_iff_ne.2 hg
      clear hg
      go_wp2_with (first
        | (go_at_call 15; (with_reducible refine (saveBegun_any _).mono ?_); rintro e w5 ⟨rfl, hb5⟩))
      go_ret
      exact ⟨rfl, E3.out.trans hb5⟩

theorem contract (H : Type) (enc : TypeId × Value → H) (W : World) (base : Nat) (args : Array Value) (ds gs : List (DataW H)) (before : List MemPlace)
    (hval : ∀ (j : Nat) t v, Try.f4.params[j]? = some t → args[j]? = some v → Value.okWide Try.prog W .any base t v)
    (hW : DataW.Whole enc Try.prog Try.f4.params.toList Rows.saveBackSpec.vars false W args.toList ds gs before)
    (hsz : (DataW.weightsEach Try.prog (Try.f4.params.toList ++ Rows.saveBackSpec.plain.varTypes Try.prog) (ds ++ gs)).all (· ≤ reachBytes) = true) :
    Calls Try.prog 4 args W fun e W' => ∃ v, e = .returned v ∧ Rows.saveBackSpec.post enc Try.prog Try.f4 false true false false W args v W' := by
  have hW' := hW
  obtain ⟨p, q, hA, hV, rfl, hfz, hnd⟩ := hW
  rw [Try.params4] at hA hval
  obtain ⟨v0, vs0, d0, ds0, q0, t0, hargs, rfl, rfl, h0, r0⟩ := trodAll_cons hA
  obtain ⟨v1, vs1, d1, ds1, q1, t1, rfl, rfl, rfl, h1, r1⟩ := trodAll_cons r0
  obtain ⟨v2, vs2, d2, ds2, q2, t2, rfl, rfl, rfl, h2, r2⟩ := trodAll_cons r1
  obtain ⟨rfl, rfl, rfl⟩ := trodAll_nil r2
  obtain rfl : args = #[v0, v1, v2] := by cases args; simp_all
  obtain ⟨rfl, rfl⟩ := trodVars_none hV
  obtain ⟨a0, l0, c0, rfl⟩ := okWide_slice Try.underlying22 (hval 0 22 v0 rfl rfl)
  obtain ⟨fuel0, h0⟩ := h0
  obtain ⟨x0, h0⟩ := funcs_of_trod h0 (fun n hn => by
    have := List.all_eq_true.1 hsz n (DataW.weights_mem_each (j := 0) rfl rfl n hn)
    simpa using this)
  obtain ⟨x1, h1⟩ := state_of_trod (hval 1 26 v1 rfl rfl) h1 (fun n hn => by
    have := List.all_eq_true.1 hsz n (DataW.weights_mem_each (j := 1) rfl rfl n hn)
    simpa using this)
  obtain ⟨x2, rfl, rfl, rfl, hs2⟩ := Go.ChangeMaps.open_string Try.underlying9 (hval 2 9 v2 rfl rfl) h2
  refine (walk W x0 _ h0 x1 _ h1 x2 hs2).mono fun e W' ⟨he, hE⟩ => ⟨_, he, law_post laidOut ?_ rfl Try.underlying4 rfl hW' ?_ hE⟩
  · rw [Try.params4]
    intro t ht
    simp at ht
    (try rcases ht with rfl | rfl | rfl) <;> exact ⟨by kernel_rfl, of_decide_eq_true (by kernel_rfl)⟩
  · intro ds hds
    match ds, hds with
    | [d0, d1, d2], _ => exact ⟨rfl, rfl, rfl⟩

theorem lifted (os : Os) (started : os.Started) (H : Type) (enc : TypeId × Value → H) :
    ReturnsInHanded {} Try.checked os 4 .any (Rows.saveBackSpec.pre6 enc Try.prog Try.f4 Rows.saveBackRow.domain false) (Rows.saveBackSpec.post enc Try.prog Try.f4 false true false false) := by
  refine returnsInHanded_of_change_sized (C := Try.checked) own started (by kernel_rfl) Try.func4
    (ChangeSpec.witness6 (enc := enc) (C := Try.checked) false ⟨#[], #[.slice none 0 0, .agg #[.slice none 0 0, .int .i64 0, .slice none 0 0], .string ByteArray.empty], []⟩ 8 (by kernel_rfl) (by kernel_rfl) (by kernel_rfl) (by kernel_rfl)) ?_
  intro W base args ds gs before hval hW _ hsz _
  exact contract H enc W base args ds gs before hval hW hsz

theorem proved : Rows.SaveBackSaid :=
  OpenClaim.holds_of_wide 4 Try.f4 rfl rfl rfl rfl rfl rfl rfl ⟨rfl, rfl, rfl, rfl, rfl⟩ rfl rfl rfl rfl rfl (by as_aux_lemma => kernel_rfl) Try.func4 (by as_aux_lemma => kernel_rfl)
    (of_decide_eq_true (by as_aux_lemma => kernel_rfl)) (by unfold Func.isWrapper; rw [if_neg (of_decide_eq_false (by as_aux_lemma => kernel_rfl))]; exact ⟨rfl, rfl⟩)
    (fun os started H enc _ => lifted os started H enc)
end Go.Proofs.Ytgahbngbpfilgaa.saveBack

