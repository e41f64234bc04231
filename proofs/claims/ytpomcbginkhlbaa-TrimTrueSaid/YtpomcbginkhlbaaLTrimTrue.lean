/- TrimTrue: a trimmed program is right, trimmed once more it is the same, and of each function just the ops with a height are left, as high as they stood. No condition. -/
import Derived.Test.YtpomcbginkhlbaaLaw
import Derived.Test.YtpomcbginkhlbaaTrimB
import Derived.Test.YtpomcbginkhlbaaTrimT
import Derived.Test.YtpomcbginkhlbaaChoose
import Derived.Test.YtpomcbginkhlbaaSame
set_option maxHeartbeats 4000000
set_option maxRecDepth 100000
namespace Go.Proofs.Ytpomcbginkhlbaa.trimTrue
open Go Go.RowKit Go.ChangeShapes Go.WideShapes Go.ChangeAt

theorem keepL_take_put {l : List Int} {i : Nat} (h : i < l.length) (h0 : 0 ≤ l.getD i 0) : keepL (l.take (i + 1)) = keepL (l.take i) ++ [l.getD i 0] := by
  simp only [List.getD, List.getElem?_eq_getElem h, Option.getD_some] at h0 ⊢
  unfold keepL
  rw [List.take_succ_eq_append_getElem h, List.filter_append]
  simp [h0]
theorem keepL_take_skip {l : List Int} {i : Nat} (h : i < l.length) (h0 : ¬ 0 ≤ l.getD i 0) : keepL (l.take (i + 1)) = keepL (l.take i) := by
  simp only [List.getD, List.getElem?_eq_getElem h, Option.getD_some] at h0
  unfold keepL
  rw [List.take_succ_eq_append_getElem h, List.filter_append]
  simp [h0]
theorem keepL_len (l : List Int) : (keepL l).length ≤ l.length := List.length_filter_le _ _

theorem walk (w : World) (p : List GFunc) (v : Value) (hp : Funcs w (fun _ => True) v p) (f : Int) (hf : I64 f) :
    Calls Try.prog 4 #[v, .int .i64 f] w fun e w' => e = .returned (.bool true) ∧ Ext w w' := by
  have HP := Lib.hid hp
  have hp0 := hp
  obtain ⟨a0, cap, rfl, _, _, _⟩ := hp
  obtain ⟨i0, hi0, hz0, hz1, hz2⟩ := info_parts infoI
  have RA := alloc_keep
  by_cases hz : progErr p = 0
  · have hRP := progErr_zero hz
    have hch := chooseOf_lt f p.length (by have := hRP.pos; omega)
    obtain ⟨n, hn⟩ : ∃ n : Nat, chooseOf f p.length = n := ⟨(chooseOf f p.length).toNat, by omega⟩
    rw [hn] at hch
    have hnl : n < p.length := by omega
    have hlen5 := hRP.most
    have TZ : ((p.length : Int) == 0) = false := beq_eq_false_iff_ne.2 (by omega)
    obtain ⟨q, hq0, hqe, hqq, hql, hh1, hh2, hh3, hll, hqn, hh4, hqx⟩ := trim_pack hz hnl
    obtain ⟨l, hl⟩ : ∃ l, hList p n = l := ⟨_, rfl⟩
    rw [hl] at hh3 hh4 hll
    have HN := Lib.hid hn
    have HZ := Lib.hid hz
    have HH1 := Lib.hid hh1
    have HH2 := Lib.hid hh2
    have HH3 := Lib.hid hh3
    have HH4 := Lib.hid hh4
    have HQ0 := Lib.hid hq0
    have HQE := Lib.hid hqe
    have HQQ := Lib.hid hqq
    have HQL := Lib.hid hql
    have HQX := Lib.hid hqx
    have HL := Lib.hid hl
    clear hn hz hh1 hh2 hh3 hh4 hq0 hqe hqq hql hqx hl hch hRP
    go_enter Try.func4, Try.ntmps4
    go_upto_region 12 with (first
      | (go_at_call 10; (with_reducible refine (trimAll_val p _ _ _ HP.out 0 q p.length HZ.out HQ0.out HQL.out).mono ?_); rintro e w1 ⟨⟨a1, c1, rfl, hl1⟩, hb1⟩; have HB1 := Lib.hid hb1; have HL1 := Lib.hid hl1; clear hb1 hl1)
      | (go_at_call 10; (with_reducible refine (trimAll_val q _ _ _ HL1.out 0 q p.length HQE.out HQQ.out HQL.out).mono ?_); rintro e w2 ⟨⟨a2, c2, rfl, hl2⟩, hb2⟩; have HB2 := Lib.hid hb2; have HL2 := Lib.hid hl2; clear hb2 hl2)
      | (go_at_call 16; (with_reducible refine (progCheck_any q _ _ _ (Funcs.stays (Ext.stays HB2.out) HL1.out)).mono ?_); rintro e w3 ⟨rfl, hb3⟩; rw [HQE.out]; have HB3 := Lib.hid hb3; clear hb3)
      | (go_at_call 15; (with_reducible refine (sameProgs_any q q _ _ _ _ _ (Funcs.stays (Ext.stays HB3.out) HL2.out) (Funcs.stays (Ext.stays (HB2.out.trans HB3.out)) HL1.out)).mono ?_); rintro e w4 ⟨rfl, hb4⟩; have HB4 := Lib.hid ((HB2.out.trans HB3.out).trans hb4); clear hb4)
      | (go_at_call 17; (with_reducible refine (choose_any f _ _ hf (by omega) (by omega)).mono ?_); rintro e w5 ⟨rfl, rfl⟩; rw [HN.out])
      | (go_at_call 18; (with_reducible refine (heights_val p _ _ n _ (Funcs.stays (Ext.stays (HB1.out.trans HB4.out)) HP.out) 0 l l.length HH1.out HL.out rfl).mono ?_); rintro e w6 ⟨⟨a6, c6, rfl, hl6⟩, hb6⟩; have HB6 := Lib.hid (HB4.out.trans hb6); have HL6 := Lib.hid hl6; clear hb6 hl6)
      | (go_at_call 18; (with_reducible refine (heights_val q _ _ n _ (Funcs.stays (Ext.stays HB6.out) HL1.out) 0 (keepL l) (keepL l).length HH2.out HH3.out rfl).mono ?_); rintro e w7 ⟨⟨a7, c7, rfl, hl7⟩, hb7⟩; have HB7 := Lib.hid (HB6.out.trans hb7); have HL7 := Lib.hid hl7; have HX7 := Lib.hid hb7; clear hb7 hl7))
    have HI := Lib.hid (Ints.stays (Ext.stays HX7.out) HL6.out)
    have HQ7 := Lib.hid (Funcs.stays (Ext.stays HB7.out) HL1.out)
    have E7 := Lib.hid (HB1.out.trans HB7.out)
    have HP7 := Lib.hid (Funcs.stays (Ext.stays E7.out) HP.out)
    clear HL1 HL2 HL6 HB1 HB2 HB3 HB4 HB6 HB7 HX7 hp0
    rename World => w7
    go_wp2_with fail
    go_loopw [14, 15] (fun q14 q15 wr => ∃ i : Nat, i ≤ l.length ∧ q15 = .int .i64 i ∧ Ext w7 wr ∧ RowAt wr w7.heap.size 1 q14 (keepL (l.take i)).length (ints (keepL (l.take i)))) (fun _ q _ => l.length - (intOf q).toNat)
    case atStart => exact ⟨0, Nat.zero_le _, rfl, Ext.refl _, RowAt.nil _ _ _ _⟩
    case round =>
      obtain ⟨i, hi, rfl, hb, hrow⟩ := hrel
      have HB := Lib.hid hb
      have HROW := Lib.hid hrow
      obtain ⟨ar, capr, rfl, _, _⟩ := hrow.shape
      have hkl : (keepL (l.take i)).length ≤ 24 := by have := keepL_len (l.take i); rw [List.length_take] at this; omega
      clear hb hrow
      by_cases hlt : i < l.length
      · obtain ⟨bl, ol, _, e1, _, _, _, x0, _⟩ := HI.out.get hlt
        simp only [Value.slice.injEq] at e1
        obtain ⟨rfl, -, rfl⟩ := e1
        have eg : l.getD i 0 = l[i] := by simp [List.getD, List.getElem?_eq_getElem hlt]
        rw [Nat.mul_one, ← eg] at x0
        have x1 := Ext.cell HB.out x0
        have HPUT := Lib.hid (keepL_take_put hlt)
        have HSKIP := Lib.hid (keepL_take_skip hlt)
        clear x0 eg
        generalize l.getD i 0 = u at *
        generalize keepL (l.take i) = acc at *
        rename World => wr
        by_cases h0 : 0 ≤ u
        · have T0 : decide (0 ≤ u) = true := by simpa using h0
          have HA := Lib.hid (HPUT.out h0)
          have HS7 : Hid ((wr.alloc (.cells #[.int .i64 u] 3)).heap.size = wr.heap.size + 1) := Array.size_push _
          clear h0 HPUT HSKIP
          go_wp2_with (first
            | (at_builtin; refine wpList_append_row rfl _ _ 37 rfl w7.heap.size 3 i0 (.int .i64 0) 1 8 Try.underlying37 hi0 hz0 hz1 hz2 rfl (by decide) _ _ _ rfl (by exact HROW.out.ext ((Ext.refl _).alloc _) (by decide)) 1 (ints [u]) (src_one _ _ _) (by unfold maxLen; omega) (by omega) (by rw [HS7.out]; exact Nat.le_succ_of_le HB.out.size) ?_; intro v1 Wv1 rv1; have RV := Lib.hid rv1; obtain ⟨a9, cap9, rfl, _, _⟩ := rv1.1.shape; clear rv1))
          have hx4 : Ext w7 Wv1 := Chg.ext_from (HB.out.alloc _) RV.out.2.1 (fun g e => HROW.out.le g e)
          have hr4 : RowAt Wv1 w7.heap.size 1 (.slice a9 (acc.length + 1) cap9) (keepL (l.take (i + 1))).length (ints (keepL (l.take (i + 1)))) := by
            rw [HA.out, List.length_append, ints_app]
            exact RV.out.1
          go_roundw
          case rel => exact ⟨i + 1, by omega, by go_num, hx4, hr4⟩
          case measure => simp [intOf]; omega
        · have T0 : decide (0 ≤ u) = false := by simpa using h0
          have HA := Lib.hid (HSKIP.out h0)
          clear h0 HPUT HSKIP
          go_wp2_with fail
          go_roundw
          case rel => exact ⟨i + 1, by omega, by go_num, HB.out, by rw [HA.out]; exact HROW.out⟩
          case measure => simp [intOf]; omega
      · obtain rfl : i = l.length := by omega
        have HLEFT : Hid (Ints wr (fun _ => True) (.slice ar (keepL (l.take l.length)).length capr) (keepL l)) := by
          have hr := HROW.out
          unfold Hid
          rw [List.take_length] at hr hkl ⊢
          exact Ints.of_row (by rw [flatMap_intF]; exact hr) (by omega) HL7.out.i64 _ (fun _ _ _ => trivial)
        obtain ⟨bq, oq, _, eq, _, _, ⟨_, y0, _⟩, ⟨_, y1, _⟩, vq, y2, hcq⟩ := (Funcs.stays (Ext.stays HB.out) HQ7.out).get hqn
        obtain ⟨bp, op, _, ep, _, _, ⟨_, z0, _⟩, ⟨_, z1, _⟩, _⟩ := (Funcs.stays (Ext.stays HB.out) HP7.out).get hnl
        obtain ⟨acq, ccq, rfl, _, _, _⟩ := hcq
        simp only [Value.slice.injEq] at eq ep
        obtain ⟨rfl, -, rfl⟩ := eq
        obtain ⟨rfl, -, rfl⟩ := ep
        rw [HQX.out.1] at y0
        rw [HQX.out.2] at y1
        rw [HH4.out] at y2
        clear hlt
        generalize (keepL (l.take l.length)).length = kn at *
        go_upto_region 18 with fail
        refine wp_region_ext (by kernel_rfl) (by kernel_rfl) ?_
        repeat (first
          | go_big_quiet_skip
          | (go_big_quiet_want
             unfold Oper.quiet
             apply Exists.intro
             refine ⟨fun w' hw' => ?_, ?_⟩
             focus
               have hcq := Ext.keep hw'
               go_simp
               first
                 | with_reducible rfl
                 | ((go_at_call 13; refine (trimBegun_any _).mono ?_; rintro e w9 ⟨rfl, hb9⟩; exact ⟨rfl, hw'.trans hb9⟩)) | ((go_at_call 19; refine (sameInts_any (keepL l) (keepL l) _ _ (fun _ => True) (fun _ => True) _ (Ints.stays (Ext.stays hw') HLEFT.out) (Ints.stays (Ext.stays (HB.out.trans hw')) HL7.out)).mono ?_; rintro e w9 ⟨rfl, hb9⟩; exact ⟨rfl, hw'.trans hb9⟩))
             (try dsimp only [Act.put])
             (try simp only [List.setIfInBounds_toArray, List.set_cons_succ, List.set_cons_zero])
             go_big_quiet_on))
        refine wpQuiet_nil ?_
        intro wq hq
        go_wp2_with fail
        go_ret
        exact ⟨rfl, (E7.out.trans HB.out).trans hq⟩
  · have TB : (progErr p != 0) = true := bne_iff_ne.2 hz
    obtain ⟨r, hr⟩ : ∃ r, progErr p = r := ⟨_, rfl⟩
    have HR := Lib.hid hr
    have HQ0 : Hid (trimP p = []) := by unfold Hid trimP; rw [if_neg hz]
    rw [hr] at TB
    clear hz hr hp0
    go_enter Try.func4, Try.ntmps4
    go_wp2_with (first
      | (go_at_call 10; (with_reducible refine (trimAll_val p _ _ _ HP.out r [] 0 HR.out HQ0.out rfl).mono ?_); rintro e w1 ⟨⟨a1, c1, rfl, hl1⟩, hb1⟩)
      | (go_at_call 13; (with_reducible refine (trimBegun_any _).mono ?_); rintro e w9 ⟨rfl, hb9⟩))
    go_ret
    exact ⟨rfl, hb1.trans hb9⟩

theorem contract (H : Type) (enc : TypeId × Value → H) (W : World) (base : Nat) (args : Array Value) (ds gs : List (DataW H)) (before : List MemPlace)
    (hval : ∀ (j : Nat) t v, Try.f4.params[j]? = some t → args[j]? = some v → Value.okWide Try.prog W .any base t v)
    (hW : DataW.Whole enc Try.prog Try.f4.params.toList Rows.trimTrueSpec.vars false W args.toList ds gs before)
    (hsz : (DataW.weightsEach Try.prog (Try.f4.params.toList ++ Rows.trimTrueSpec.plain.varTypes Try.prog) (ds ++ gs)).all (· ≤ reachBytes) = true) :
    Calls Try.prog 4 args W fun e W' => ∃ v, e = .returned v ∧ Rows.trimTrueSpec.post enc Try.prog Try.f4 false true false false W args v W' := by
  have hW' := hW
  obtain ⟨p, q, hA, hV, rfl, hfz, hnd⟩ := hW
  rw [Try.params4] at hA hval
  obtain ⟨v0, vs0, d0, ds0, q0, t0, hargs, rfl, rfl, h0, r0⟩ := trodAll_cons hA
  obtain ⟨v1, vs1, d1, ds1, q1, t1, rfl, rfl, rfl, h1, r1⟩ := trodAll_cons r0
  obtain ⟨rfl, rfl, rfl⟩ := trodAll_nil r1
  obtain rfl : args = #[v0, v1] := by cases args; simp_all
  obtain ⟨rfl, rfl⟩ := trodVars_none hV
  obtain ⟨a0, l0, c0, rfl⟩ := okWide_slice Try.underlying22 (hval 0 22 v0 rfl rfl)
  obtain ⟨fuel0, h0⟩ := h0
  obtain ⟨x0, h0⟩ := funcs_of_trod h0 (fun n hn => by
    have := List.all_eq_true.1 hsz n (DataW.weights_mem_each (j := 0) rfl rfl n hn)
    simpa using this)
  obtain ⟨x1, rfl, rfl, rfl, wf1⟩ := open_int Try.underlying3 (hval 1 3 v1 rfl rfl) h1
  refine (walk W x0 _ h0 x1 (i64_of_wf wf1)).mono fun e W' ⟨he, hE⟩ => ⟨_, he, law_post laidOut ?_ rfl Try.underlying4 rfl hW' ?_ hE⟩
  · rw [Try.params4]
    intro t ht
    simp at ht
    (try rcases ht with rfl | rfl) <;> exact ⟨by kernel_rfl, of_decide_eq_true (by kernel_rfl)⟩
  · intro ds hds
    match ds, hds with
    | [d0, d1], _ => exact ⟨rfl, rfl, rfl⟩

theorem lifted (os : Os) (started : os.Started) (H : Type) (enc : TypeId × Value → H) :
    ReturnsInHanded {} Try.checked os 4 .any (Rows.trimTrueSpec.pre6 enc Try.prog Try.f4 Rows.trimTrueRow.domain false) (Rows.trimTrueSpec.post enc Try.prog Try.f4 false true false false) := by
  refine returnsInHanded_of_change_sized (C := Try.checked) own started (by kernel_rfl) Try.func4
    (ChangeSpec.witness6 (enc := enc) (C := Try.checked) false ⟨#[], #[.slice none 0 0, .int .i64 0], []⟩ 8 (by kernel_rfl) (by kernel_rfl) (by kernel_rfl) (by kernel_rfl)) ?_
  intro W base args ds gs before hval hW _ hsz _
  exact contract H enc W base args ds gs before hval hW hsz

theorem proved : Rows.TrimTrueSaid :=
  OpenClaim.holds_of_wide 4 Try.f4 rfl rfl rfl rfl rfl rfl rfl ⟨rfl, rfl, rfl, rfl, rfl⟩ rfl rfl rfl rfl rfl (by as_aux_lemma => kernel_rfl) Try.func4 (by as_aux_lemma => kernel_rfl)
    (of_decide_eq_true (by as_aux_lemma => kernel_rfl)) (by unfold Func.isWrapper; rw [if_neg (of_decide_eq_false (by as_aux_lemma => kernel_rfl))]; exact ⟨rfl, rfl⟩)
    (fun os started H enc _ => lifted os started H enc)
end Go.Proofs.Ytpomcbginkhlbaa.trimTrue

