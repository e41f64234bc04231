/- StepOne: a step turns no fiber but the one that ran and the one that runs then; one fiber more at most, one number more put out at most. No condition. -/
import Derived.Test.YtfajkebkhdcapaaGSAA
import Derived.Test.YtfajkebkhdcapaaGSAB
import Derived.Test.YtfajkebkhdcapaaGSAQ
import Derived.Test.YtfajkebkhdcapaaGSAZ
namespace Go.Proofs.Ytfajkebkhdcapaa.stepOne
set_option maxHeartbeats 4000000
set_option maxRecDepth 100000
open Go Go.RowKit Go.ChangeShapes Go.WideShapes Go.ChangeAt

theorem walk (w : World) (p : List GFunc) (v : Value) (hp : Funcs w (fun _ => True) v p) (s : GState) (vs : Value) (hs : StateV w (fun _ => True) vs s) :
    Calls Try.prog 5 #[v, vs] w fun e w' => e = .returned (.bool true) ∧ Ext w w' := by
  have HP := Lib.hid hp
  have HS := Lib.hid hs
  obtain ⟨a0, cap, rfl, _, _, _⟩ := hp
  obtain ⟨sa, sc, sb, sd, rfl⟩ := hs.few
  have RA := alloc_keep
  have b0 := (Cx.new w [.slice sa s.fibers.length sc, .int .i64 s.now, .slice sb s.out.length sd] 35 (j := 0) rfl).1
  have b1 := (Cx.new w [.slice sa s.fibers.length sc, .int .i64 s.now, .slice sb s.out.length sd] 35 (j := 1) rfl).1
  have b2 := (Cx.new w [.slice sa s.fibers.length sc, .int .i64 s.now, .slice sb s.out.length sd] 35 (j := 2) rfl).1
  have E0 : Hid (Ext w (w.alloc (.cells #[.slice sa s.fibers.length sc, .int .i64 s.now, .slice sb s.out.length sd] 35))) := (Ext.refl w).alloc _
  obtain ⟨⟨de, t⟩, hd⟩ : ∃ r, doS p s = r := ⟨_, rfl⟩
  have HD := Lib.hid hd
  by_cases he : (doS p s).1 = 0
  · obtain ⟨hz, hn0, hd0, hdt, ht⟩ := doS_ok he
    have hone := done_one hn0 hd0
    rw [← hdt] at hone
    rw [hd] at he hone
    obtain rfl : de = 0 := he
    have hone : OneS s t := hone
    obtain ⟨⟨l1, l2⟩, ho, hk⟩ := hone
    have ho : s.out.length ≤ t.out.length ∧ t.out.length ≤ s.out.length + 1 ∧ t.out.take s.out.length = s.out := by
      rcases ho with h | ⟨x, h⟩
      · rw [h]; exact ⟨Nat.le_refl _, by omega, List.take_length⟩
      · rw [h]; refine ⟨by simp, by simp, List.take_left⟩
    obtain ⟨o1, o2, o3⟩ := ho
    have O1 := o1
    have HO3 := Lib.hid o3
    have HK := Lib.hid hk
    have T1 : decide ((t.fibers.length : Int) < (s.fibers.length : Int)) = false := decide_eq_false (by omega)
    have T2 : decide ((s.fibers.length : Int) + 1 < (t.fibers.length : Int)) = false := decide_eq_false (by omega)
    have T3 : decide ((t.out.length : Int) < (s.out.length : Int)) = false := decide_eq_false (by omega)
    have T4 : decide ((s.out.length : Int) + 1 < (t.out.length : Int)) = false := decide_eq_false (by omega)
    have T1' : decide (t.fibers.length < s.fibers.length) = false := decide_eq_false (by omega)
    have T2' : decide (s.fibers.length + 1 < t.fibers.length) = false := decide_eq_false (by omega)
    have T3' : decide (t.out.length < s.out.length) = false := decide_eq_false (by omega)
    have T4' : decide (s.out.length + 1 < t.out.length) = false := decide_eq_false (by omega)
    obtain ⟨⟨-, sb1, sb2, sb3⟩, -, sb4, sb5, sb6⟩ := HS.out.bd
    have C1 : s.fibers.length ≤ sc := sb1
    have L1 : s.fibers.length ≤ 140737488355328 := by omega
    have L2 : s.out.length ≤ 140737488355328 := by omega
    have W1 : IntKind.i64.wrap ((s.fibers.length : Int) + 1) = (s.fibers.length : Int) + 1 := IntWalk.i64_in _ (by omega)
    have W2 : IntKind.i64.wrap ((s.out.length : Int) + 1) = (s.out.length : Int) + 1 := IntWalk.i64_in _ (by omega)
    clear hd hz hn0 hd0 hdt ht o1 o2 o3 hk sb1 sb2 sb4 sb5
    go_enter Try.func5, Try.ntmps5
    go_upto_region 4 with (first
      | (go_at_call 19; (with_reducible refine (stepDo_any p _ _ _ s _ _ (Funcs.stays (Ext.stays E0.out) HP.out) (StateV.stays (Ext.stays E0.out) HS.out)).mono ?_); rintro e w2 ⟨⟨x, rfl, hx⟩, hb2⟩; rw [HD.out] at hx; rw [HD.out]; obtain ⟨ta, tc, tb, td, rfl⟩ := hx.few; have hq := (hb2.alloc (.cells #[.slice ta t.fibers.length tc, .int .i64 t.now, .slice tb t.out.length td] 35)); have HX := Lib.hid (hx.ext ((Ext.refl w2).alloc (.cells #[.slice ta t.fibers.length tc, .int .i64 t.now, .slice tb t.out.length td] 35))).state; have b0 := Ext.cell hq b0; have b1 := Ext.cell hq b1; have b2 := Ext.cell hq b2; have E2 := Lib.hid (E0.out.trans hq); have x0 := (Cx.new w2 [.slice ta t.fibers.length tc, .int .i64 t.now, .slice tb t.out.length td] 35 (j := 0) rfl).1; have x1 := (Cx.new w2 [.slice ta t.fibers.length tc, .int .i64 t.now, .slice tb t.out.length td] 35 (j := 1) rfl).1; have x2 := (Cx.new w2 [.slice ta t.fibers.length tc, .int .i64 t.now, .slice tb t.out.length td] 35 (j := 2) rfl).1; clear hx hq hb2 E0))
    generalize w2.heap.size = tbx at *
    generalize w2.alloc (.cells #[.slice ta t.fibers.length tc, .int .i64 t.now, .slice tb t.out.length td] 35) = w3 at *
    rename World => w3
    obtain ⟨⟨-, C2, -, C3⟩, -, C4, -, C5⟩ := HX.out.bd
    have C6 : s.out.length ≤ td := by omega
    refine wp_region_ext (by kernel_rfl) (by kernel_rfl) ?_
    repeat (first
      | go_big_quiet_skip
      | (go_big_quiet_want
         unfold Oper.quiet
         apply Exists.intro
         refine ⟨fun w' hw' => ?_, ?_⟩
         focus
           have hcq := Ext.keep hw'
           go_simp
           first
             | with_reducible rfl
             | ((go_at_call 16; refine (sameInts_any s.out s.out _ _ _ _ _ (Ints.front (Ints.stays (Ext.stays hw') (out_of HX.out)) O1 HO3.out) (Ints.stays (Ext.stays (E2.out.trans hw')) (out_of HS.out))).mono ?_; rintro e w9 ⟨rfl, hb9⟩; rw [show decide (s.out = s.out) = true from decide_eq_true rfl]; exact ⟨rfl, hw'.trans hb9⟩))
         (try dsimp only [Act.put])
         (try simp only [List.setIfInBounds_toArray, List.set_cons_succ, List.set_cons_zero])
         go_big_quiet_on))
    refine wpQuiet_nil ?_
    intro wq hq
    have b0 := Ext.cell hq b0
    have b1 := Ext.cell hq b1
    have x0 := Ext.cell hq x0
    have x1 := Ext.cell hq x1
    have E3 := Lib.hid (E2.out.trans hq)
    have HX := Lib.hid (StateV.stays (Ext.stays hq) HX.out)
    clear T1 T2 T3 T4 T1' T2' T3' T4' W1 W2 O1 C4 C5 C6 b2 x2 hq
    rename World => w4
    go_wp2_with fail
    go_loopw [7] (fun q7 wr => ∃ i : Nat, i ≤ s.fibers.length ∧ q7 = .int .i64 i ∧ Ext w4 wr) (fun q _ => s.fibers.length - (intOf q).toNat)
    case atStart => exact ⟨0, Nat.zero_le _, rfl, Ext.refl _⟩
    case round =>
      obtain ⟨i, hi, rfl, hE⟩ := hrel
      have HEI := Lib.hid hE
      have b0 := Ext.cell hE b0
      have b1 := Ext.cell hE b1
      have x0 := Ext.cell hE x0
      have x1 := Ext.cell hE x1
      clear hE
      by_cases hlt : i < s.fibers.length
      · have WI : IntKind.i64.wrap ((i : Int) + 1) = (i : Int) + 1 := IntWalk.i64_in _ (by omega)
        by_cases hn : (i : Int) = s.now ∨ (i : Int) = t.now
        · have hn : ((i : Int) == s.now) = true ∨ (((i : Int) == s.now) = false ∧ ((i : Int) == t.now) = true) := by
            by_cases h : (i : Int) = s.now
            · exact .inl (beq_iff_eq.2 h)
            · exact .inr ⟨beq_eq_false_iff_ne.2 h, beq_iff_eq.2 (hn.resolve_left h)⟩
          rcases hn with TN | ⟨TN, TN2⟩
          all_goals
            go_wp2_with fail
            go_roundw
            case rel => exact ⟨i + 1, by omega, by go_num, HEI.out⟩
            case measure => simp [intOf]; omega
        · have TN : ((i : Int) == s.now) = false := beq_eq_false_iff_ne.2 (fun h => hn (.inl h))
          have TN2 : ((i : Int) == t.now) = false := beq_eq_false_iff_ne.2 (fun h => hn (.inr h))
          have heq := HK.out i hlt (fun h => hn (.inl h)) (fun h => hn (.inr h))
          obtain ⟨gs, os, _, es, _⟩ := (fibers_of HS.out).get hlt
          obtain ⟨gt, ot, _, et, _⟩ := (fibers_of HX.out).get (show i < t.fibers.length by omega)
          simp only [Value.slice.injEq] at es et
          obtain ⟨rfl, -, rfl⟩ := es
          obtain ⟨rfl, -, rfl⟩ := et
          have HFS := Lib.hid (StateV.stays (Ext.stays (E3.out.trans HEI.out)) (Fibers.one (fibers_of HS.out) hlt))
          have hft := Fibers.one (fibers_of HX.out) (show i < t.fibers.length by omega)
          rw [heq] at hft
          have HFT := Lib.hid (StateV.stays (Ext.stays HEI.out) hft)
          have HEQ := Lib.hid (show i < t.fibers.length by omega)
          have n1 : ¬ sc = i := by omega
          have n2 : ¬ tc = i := by omega
          have n3 : (i : Int) ≤ (i : Int) + 1 := by omega
          have n4 : (i : Int) + 1 ≤ (sc : Int) := by omega
          have n5 : (i : Int) + 1 ≤ (tc : Int) := by omega
          have n6 : ((i : Int) + 1).toNat = i + 1 := by omega
          clear hft heq hn
          generalize s.fibers.getD i default = fi at *
          go_upto_region 10 with fail
          refine wp_region_ext (by kernel_rfl) (by kernel_rfl) ?_
          repeat (first
            | go_big_quiet_skip
            | (go_big_quiet_want
               unfold Oper.quiet
               apply Exists.intro
               refine ⟨fun w' hw' => ?_, ?_⟩
               focus
                 have hcq := Ext.keep hw'
                 go_simp
                 first
                   | with_reducible rfl
                   | ((go_at_call 20; refine (sameStates_any ⟨[fi], 0, []⟩ ⟨[fi], 0, []⟩ _ _ _ _ _ (StateV.stays (Ext.stays hw') HFS.out) (StateV.stays (Ext.stays hw') HFT.out)).mono ?_; rintro e w9 ⟨rfl, hb9⟩; rw [decide_eq_true rfl]; exact ⟨rfl, hw'.trans hb9⟩))
               (try dsimp only [Act.put])
               (try simp only [List.setIfInBounds_toArray, List.set_cons_succ, List.set_cons_zero])
               go_big_quiet_on))
          refine wpQuiet_nil ?_
          intro wq hq
          have HEJ := Lib.hid (HEI.out.trans hq)
          go_wp2_with fail
          go_roundw
          case rel => exact ⟨i + 1, by omega, by go_num, HEJ.out⟩
          case measure => simp [intOf]; omega
      · obtain rfl : i = s.fibers.length := by omega
        go_wp2_with (first
          | (go_at_call 18; (with_reducible refine (stepBegun_any _).mono ?_); rintro e w8 ⟨rfl, hb8⟩))
        go_ret
        exact ⟨rfl, E3.out.trans (HEI.out.trans hb8)⟩
  · have TB : (de != 0) = true := bne_iff_ne.2 (by rw [hd] at he; exact he)
    clear hd he
    go_enter Try.func5, Try.ntmps5
    go_wp2_with (first
      | (go_at_call 19; (with_reducible refine (stepDo_any p _ _ _ s _ _ (Funcs.stays (Ext.stays E0.out) HP.out) (StateV.stays (Ext.stays E0.out) HS.out)).mono ?_); rintro e w2 ⟨⟨x, rfl, hx⟩, hb2⟩; rw [HD.out] at hx; rw [HD.out]; obtain ⟨ta, tc, tb, td, rfl⟩ := hx.few; have E2 := Lib.hid ((E0.out.trans hb2).alloc (.cells #[.slice ta t.fibers.length tc, .int .i64 t.now, .slice tb t.out.length td] 35)); clear hx)
      | (go_at_call 18; (with_reducible refine (stepBegun_any _).mono ?_); rintro e w8 ⟨rfl, hb8⟩))
    go_ret
    exact ⟨rfl, E2.out.trans hb8⟩

theorem contract (H : Type) (enc : TypeId × Value → H) (W : World) (base : Nat) (args : Array Value) (ds gs : List (DataW H)) (before : List MemPlace)
    (hval : ∀ (j : Nat) t v, Try.f5.params[j]? = some t → args[j]? = some v → Value.okWide Try.prog W .any base t v)
    (hW : DataW.Whole enc Try.prog Try.f5.params.toList Rows.stepOneSpec.vars false W args.toList ds gs before)
    (hsz : (DataW.weightsEach Try.prog (Try.f5.params.toList ++ Rows.stepOneSpec.plain.varTypes Try.prog) (ds ++ gs)).all (· ≤ reachBytes) = true) :
    Calls Try.prog 5 args W fun e W' => ∃ v, e = .returned v ∧ Rows.stepOneSpec.post enc Try.prog Try.f5 false true false false W args v W' := by
  have hW' := hW
  obtain ⟨p, q, hA, hV, rfl, hfz, hnd⟩ := hW
  rw [Try.params5] at hA hval
  obtain ⟨v0, vs0, d0, ds0, q0, t0, hargs, rfl, rfl, h0, r0⟩ := trodAll_cons hA
  obtain ⟨v1, vs1, d1, ds1, q1, t1, rfl, rfl, rfl, h1, r1⟩ := trodAll_cons r0
  obtain ⟨rfl, rfl, rfl⟩ := trodAll_nil r1
  obtain rfl : args = #[v0, v1] := by cases args; simp_all
  obtain ⟨rfl, rfl⟩ := trodVars_none hV
  obtain ⟨a0, l0, c0, rfl⟩ := okWide_slice Try.underlying22 (hval 0 22 v0 rfl rfl)
  obtain ⟨fuel0, h0⟩ := h0
  obtain ⟨x0, h0⟩ := funcs_of_trod h0 (fun n hn => by
    have := List.all_eq_true.1 hsz n (DataW.weights_mem_each (j := 0) rfl rfl n hn)
    simpa using this)
  obtain ⟨x1, h1⟩ := state_of_trod (hval 1 35 v1 rfl rfl) h1 (fun n hn => by
    have := List.all_eq_true.1 hsz n (DataW.weights_mem_each (j := 1) rfl rfl n hn)
    simpa using this)
  refine (walk W x0 _ h0 x1 _ h1).mono fun e W' ⟨he, hE⟩ => ⟨_, he, law_post laidOut ?_ rfl Try.underlying4 rfl hW' ?_ hE⟩
  · rw [Try.params5]
    intro t ht
    simp at ht
    (try rcases ht with rfl | rfl) <;> exact ⟨by kernel_rfl, of_decide_eq_true (by kernel_rfl)⟩
  · intro ds hds
    match ds, hds with
    | [d0, d1], _ => exact ⟨rfl, rfl, rfl⟩

theorem lifted (os : Os) (started : os.Started) (H : Type) (enc : TypeId × Value → H) :
    ReturnsInHanded {} Try.checked os 5 .any (Rows.stepOneSpec.pre6 enc Try.prog Try.f5 Rows.stepOneRow.domain false) (Rows.stepOneSpec.post enc Try.prog Try.f5 false true false false) := by
  refine returnsInHanded_of_change_sized (C := Try.checked) own started (by kernel_rfl) Try.func5
    (ChangeSpec.witness6 (enc := enc) (C := Try.checked) false ⟨#[], #[.slice none 0 0, .agg #[.slice none 0 0, .int .i64 0, .slice none 0 0]], []⟩ 8 (by kernel_rfl) (by kernel_rfl) (by kernel_rfl) (by kernel_rfl)) ?_
  intro W base args ds gs before hval hW _ hsz _
  exact contract H enc W base args ds gs before hval hW hsz

theorem proved : Rows.StepOneSaid :=
  OpenClaim.holds_of_wide 5 Try.f5 rfl rfl rfl rfl rfl rfl rfl ⟨rfl, rfl, rfl, rfl, rfl⟩ rfl rfl rfl rfl rfl (by as_aux_lemma => kernel_rfl) Try.func5 (by as_aux_lemma => kernel_rfl)
    (of_decide_eq_true (by as_aux_lemma => kernel_rfl)) (by unfold Func.isWrapper; rw [if_neg (of_decide_eq_false (by as_aux_lemma => kernel_rfl))]; exact ⟨rfl, rfl⟩)
    (fun os started H enc _ => lifted os started H enc)
end Go.Proofs.Ytfajkebkhdcapaa.stepOne

