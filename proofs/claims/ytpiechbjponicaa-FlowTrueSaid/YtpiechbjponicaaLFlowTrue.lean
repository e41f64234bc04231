/- FlowTrue: an op to which one comes has what it takes, all behind it have what it leaves, and to an op to which one comes, but the first one, one comes from another. No condition. -/
import Derived.Test.YtpiechbjponicaaLaw
import Derived.Test.YtpiechbjponicaaFlowT
import Derived.Test.YtpiechbjponicaaOp3
import Derived.Test.YtpiechbjponicaaChoose
set_option maxHeartbeats 4000000
set_option maxRecDepth 100000
namespace Go.Proofs.Ytpiechbjponicaa.flowTrue
open Go Go.RowKit Go.ChangeShapes Go.WideShapes Go.ChangeAt

theorem walk (w : World) (p : List GFunc) (v : Value) (hp : Funcs w (fun _ => True) v p) (f : Int) (_ : I64 f) (at_ : Int) (hat : I64 at_) :
    Calls Try.prog 10 #[v, .int .i64 f, .int .i64 at_] w fun e w' => e = .returned (.bool true) ∧ Ext w w' := by
  have HP := Lib.hid hp
  have RA := alloc_keep
  by_cases he : hErr p f = 0
  · obtain ⟨n, hn, rfl, hR, hF⟩ := hErr_inv he
    obtain ⟨b, o, cap, rfl, hcap, hby, _, _, vc, hC, hcode⟩ := hp.get hn
    obtain ⟨ca, ccap, rfl, hcc, hcby, hops⟩ := hcode
    have hlen := hR.len
    obtain ⟨l, hl⟩ : ∃ l, hList p n = l := ⟨_, rfl⟩
    rw [hl] at hF
    have HL := Lib.hid hl
    have HE := Lib.hid he
    clear he hl hp
    generalize hGF : p[n] = F at *
    have hll := hF.len
    have hpos := hF.pos
    have hz := hF.zero
    have HF := Lib.hid hF
    have HR := Lib.hid hR
    have HO := Lib.hid hops
    clear hF hR hops
    have TL : ((l.length : Int) != (F.code.length : Int)) = false := by rw [bne_eq_false_iff_eq]; omega
    have TZ : ((l.length : Int) == 0) = false := beq_eq_false_iff_ne.2 (by omega)
    have TN0 : decide ((n : Int) < 0) = false := decide_eq_false (by omega)
    have TZ' : ((F.code.length : Int) == 0) = false := beq_eq_false_iff_ne.2 (by omega)
    go_enter Try.func10, Try.ntmps10
    go_upto_region 4 with (first
      | (go_at_call 24; (with_reducible refine (heights_val p _ (fun _ => True) n _ HP.out 0 l l.length HE.out HL.out rfl).mono ?_); rintro e w1 ⟨⟨a1, c1, rfl, hl1⟩, hb1⟩))
    have HB1 := Lib.hid hb1
    have HL1 := Lib.hid hl1
    have y2 := Ext.cell hb1 hC
    obtain ⟨ba, oa, _, e1, _, _, _, x0, _⟩ := hl1.get (i := 0) (by omega)
    simp only [Value.slice.injEq] at e1
    obtain ⟨rfl, -, rfl⟩ := e1
    rw [Nat.zero_mul, Nat.add_zero] at x0
    rw [show l[0] = 0 by have := hz; simp only [List.getD, List.getElem?_eq_getElem (show 0 < l.length by omega), Option.getD_some] at this; exact this] at x0
    have hch := chooseOf_lt at_ F.code.length (by omega)
    obtain ⟨k, hkk⟩ : ∃ k : Nat, chooseOf at_ F.code.length = k := ⟨_, (Int.toNat_of_nonneg hch.1).symm⟩
    have hk : k < F.code.length := by omega
    have HKK := Lib.hid hkk
    clear hch hkk hl1 hb1
    rename World => w1
    go_upto_region 8 with (first
      | (go_at_call 18; (with_reducible refine (choose_any at_ _ _ hat (by omega) (by omega)).mono ?_); rintro e w2 ⟨rfl, rfl⟩; rw [HKK.out]))
    obtain ⟨cb, co, rfl, ⟨_, z0, _⟩, _, z1, hxa⟩ := HO.out k hk
    have hxop := HR.out.op _ (List.getElem_mem hk)
    have HEF := Lib.hid (eff_right HR.out (List.getElem_mem hk))
    have HTH := Lib.hid (HF.out.thru k hk)
    have HFR := Lib.hid (HF.out.from_ k hk)
    have HLOW := Lib.hid (HF.out.low k hk)
    have hhi := HF.out.hi k hk
    obtain ⟨ba2, oa2, _, e2, _, _, _, c0, _⟩ := HL1.out.get (i := k) (by omega)
    simp only [Value.slice.injEq, Option.some.injEq, Addr.mk.injEq] at e2
    obtain ⟨⟨rfl, rfl, -⟩, -, rfl⟩ := e2
    rw [Nat.mul_one, show l[k] = l.getD k 0 by simp [List.getD, List.getElem?_eq_getElem (show k < l.length by omega)]] at c0
    obtain ⟨h, hh⟩ : ∃ h, l.getD k 0 = h := ⟨_, rfl⟩
    rw [hh] at c0 hhi
    have HH := Lib.hid hh
    clear hh
    generalize hx : F.code[k] = x at *
    obtain ⟨k0, k1, a0, aj, ac, tk0, tk1⟩ := hxop
    by_cases hneg : h < 0
    · have hm1 : h = -1 := by have := HLOW.out (by rw [HH.out]; exact hneg); rwa [HH.out] at this
      subst hm1
      clear hneg HTH HFR HLOW HEF
      go_wp2_with (first
        | (go_at_call 26; (with_reducible refine (flowBegun_any _).mono ?_); rintro e w3 ⟨rfl, hb3⟩; have c1' := Ext.cell hb3 c0))
      go_ret
      exact ⟨rfl, HB1.out.trans hb3⟩
    · have hpos0 : 0 ≤ h := by omega
      obtain ⟨t1, t2, t3, t4⟩ := HTH.out (by rw [HH.out]; exact hpos0)
      rw [HH.out] at t1 t2 t3 t4
      have HT3 := Lib.hid t3
      have HT4 := Lib.hid t4
      have lv0 := leavesOf_nonneg x
      have lv1 : leavesOf x ≤ 1 := by unfold leavesOf; split <;> omega
      obtain ⟨nn, hnn⟩ : ∃ nn, h - takesOf p x + leavesOf x = nn := ⟨_, rfl⟩
      have HNN := Lib.hid hnn
      rw [show nOf p x h = nn from hnn] at t2
      have nn0 : 0 ≤ nn := by omega
      have HW1 : Hid (IntKind.i64.wrap (h - takesOf p x) = h - takesOf p x) := IntWalk.i64_in _ (by omega)
      have HW2 : Hid (IntKind.i64.wrap (h - takesOf p x + leavesOf x) = nn) := by unfold Hid; rw [IntWalk.i64_in _ (by omega)]; exact hnn
      have y0 := Ext.cell HB1.out z0
      have y1 := Ext.cell HB1.out z1
      clear hneg HTH HLOW aj ac t3 t4 hnn z0 z1
      go_upto_region 11 with (first
        | (go_at_call 13; (with_reducible refine (effect_any p _ (fun _ => True) x _ (Funcs.stays (Ext.stays HB1.out) HP.out)).mono ?_); rintro e w2 ⟨rfl, hb2⟩; rw [HEF.out.1, HEF.out.2.1, HEF.out.2.2]; have c1' := Ext.cell hb2 c0; have y0' := Ext.cell hb2 y0; have y1' := Ext.cell hb2 y1))
      have hw1 := HW1.out
      have hw2 := HW2.out
      have E1 : decide (h < takesOf p x) = false := decide_eq_false (by omega)
      have E2 : decide (8 < nn) = false := decide_eq_false (by omega)
      rename World => w2
      go_cut [126] (fun v wx => v = .bool false ∧ w2 = wx)
      case first =>
        by_cases hk12 : x.kind = 12
        · have T12 : (x.kind == 12) = true := by simp [hk12]
          have hh1 : h = 1 := HT3.out hk12
          have TH : (h != 1) = false := by rw [bne_eq_false_iff_eq]; exact hh1
          clear hk12 hh1 HFR
          go_wp2_with fail
          go_meet
          exact ⟨rfl, rfl⟩
        · have T12 : (x.kind == 12) = false := by simp [hk12]
          clear hk12 HFR
          go_wp2_with fail
          go_meet
          exact ⟨rfl, rfl⟩
      case rest =>
        obtain ⟨rfl, rfl⟩ := hcut
        have HB2 := Lib.hid (HB1.out.trans hb2)
        have HEX13 := Lib.hid hb2
        clear c0 y0 y1 hb2 x0 y2
        go_upto_region 14 with (first
          | (go_at_call 28; (with_reducible refine (next_val x k _ (by omega) a0 hxa).mono ?_); rintro e w3 ⟨⟨a14, c14, rfl, hl14⟩, hb3⟩; have c3 := Ext.cell hb3 c1'))
        have HB3 := Lib.hid (HB2.out.trans hb3)
        have HL14 := Lib.hid hl14
        clear hl14 y0' y1' c1'
        have HW32 := Lib.hid hb3
        clear hb3
        rename World => w3
        have hL2 := nx_len x k
        go_wp2_with fail
        go_loopw [15] (fun q wr => ∃ i : Nat, i ≤ (nx x k).length ∧ q = .int .i64 i ∧ Ext w3 wr) (fun q _ => (nx x k).length - (intOf q).toNat)
        case atStart => exact ⟨0, Nat.zero_le _, rfl, Ext.refl _⟩
        case round =>
          obtain ⟨i, hi, rfl, hbr⟩ := hrel
          have HBR := Lib.hid hbr
          clear hbr
          by_cases hlt : i < (nx x k).length
          · obtain ⟨bw, ow, _, e3, _, _, _, d0, _⟩ := HL14.out.get (i := i) (by rw [nats_len]; exact hlt)
            simp only [Value.slice.injEq] at e3
            obtain ⟨rfl, -, rfl⟩ := e3
            rw [Nat.mul_one, show (nats (nx x k))[i]'(by rw [nats_len]; exact hlt) = ((nx x k)[i] : Int) by simp [nats]] at d0
            obtain ⟨q1, q2⟩ := HT4.out _ (List.getElem_mem hlt)
            generalize (nx x k)[i] = jj at *
            obtain ⟨ba3, oa3, _, e4, _, _, _, l0, _⟩ := HL1.out.get (i := jj) (by omega)
            simp only [Value.slice.injEq, Option.some.injEq, Addr.mk.injEq] at e4
            obtain ⟨⟨rfl, rfl, -⟩, -, rfl⟩ := e4
            rw [Nat.mul_one, show l[jj] = l.getD jj 0 by simp [List.getD, List.getElem?_eq_getElem (show jj < l.length by omega)], q2, show nOf p x h = nn from HNN.out] at l0
            have l3 := Ext.cell HBR.out (Ext.cell (HEX13.out.trans HW32.out) l0)
            have d3 := Ext.cell HBR.out d0
            have c4 := Ext.cell HBR.out c3
            have QG1 : decide (F.code.length ≤ jj) = false := decide_eq_false (by omega)
            have QG2 : decide ((F.code.length : Int) ≤ (jj : Int)) = false := decide_eq_false (by omega)
            clear l0 d0 q2
            go_wp2_with fail
            go_big_quiet (fail)
            go_wp2_with fail
            go_roundw
            case rel => exact ⟨i + 1, by omega, by go_num, HBR.out.drewN _⟩
            case measure => simp [intOf]; omega
          · obtain rfl : i = (nx x k).length := by omega
            clear hlt
            have HB4 := Lib.hid (HB3.out.trans HBR.out)
            have HBE := Lib.hid (Ext.trans (HEX13.out.trans HW32.out) HBR.out)
            clear HBR c3
            rename World => w4
            go_wp2_with fail
            go_loopw [16, 17] (fun u q wr => ∃ (i : Nat) (bb : Bool), i ≤ F.code.length ∧ q = .int .i64 i ∧ u = .bool bb ∧ Ext w4 wr ∧ ((k = 0 ∨ ∃ j, j < i ∧ ∃ hj : j < F.code.length, 0 ≤ l.getD j 0 ∧ k ∈ nx F.code[j] j) → bb = true)) (fun _ q _ => F.code.length - (intOf q).toNat)
            case atStart =>
              refine ⟨0, _, Nat.zero_le _, rfl, rfl, Ext.refl _, fun h => ?_⟩
              rcases h with h | ⟨j, h, _⟩
              · subst h; rfl
              · omega
            case round =>
              obtain ⟨i, bb, hi, rfl, rfl, hbr, hbb⟩ := hrel
              have HBR := Lib.hid hbr
              have HBB := Lib.hid hbb
              clear hbr hbb
              by_cases hlt : i < F.code.length
              · obtain ⟨cb2, co2, e5, ⟨_, z0, _⟩, _, z1, hxa2⟩ := HO.out i hlt
                simp only [Option.some.injEq, Addr.mk.injEq] at e5
                obtain ⟨rfl, rfl, -⟩ := e5
                have hxop2 := HR.out.op _ (List.getElem_mem hlt)
                obtain ⟨xi, hxi⟩ : ∃ xi, F.code[i] = xi := ⟨_, rfl⟩
                rw [hxi] at z0 z1 hxa2 hxop2
                have HXI := Lib.hid hxi
                obtain ⟨_, _, a02, _⟩ := hxop2
                obtain ⟨ba4, oa4, _, e6, _, _, _, l0, _⟩ := HL1.out.get (i := i) (by omega)
                simp only [Value.slice.injEq, Option.some.injEq, Addr.mk.injEq] at e6
                obtain ⟨⟨rfl, rfl, -⟩, -, rfl⟩ := e6
                rw [Nat.mul_one, show l[i] = l.getD i 0 by simp [List.getD, List.getElem?_eq_getElem (show i < l.length by omega)]] at l0
                have z0' := Ext.cell HBR.out (Ext.cell HB4.out z0)
                have z1' := Ext.cell HBR.out (Ext.cell HB4.out z1)
                have L0 := Lib.hid (Ext.cell HBR.out (Ext.cell HBE.out l0))
                clear hxi z0 z1 l0
                rename World => wr1
                go_upto_region 24 with (first
                  | (go_at_call 28; (with_reducible refine (next_val xi i _ (by omega) a02 hxa2).mono ?_); rintro e w5 ⟨⟨a18, c18, rfl, hl18⟩, hb5⟩))
                have HB5 := Lib.hid hb5
                have HL18 := Lib.hid hl18
                have l5 := Ext.cell hb5 L0.out
                clear hb5 hl18 z0' z1' L0
                obtain ⟨li, hli⟩ : ∃ li, l.getD i 0 = li := ⟨_, rfl⟩
                rw [hli] at l5
                have HLI := Lib.hid hli
                clear hli
                rename World => w5
                have hL3 := nx_len xi i
                go_wp2_with fail
                go_loopw [16, 19] (fun u q wr => ∃ (m : Nat) (b2 : Bool), m ≤ (nx xi i).length ∧ q = .int .i64 m ∧ u = .bool b2 ∧ Ext w5 wr ∧ ((k = 0 ∨ (∃ j, j < i ∧ ∃ hj : j < F.code.length, 0 ≤ l.getD j 0 ∧ k ∈ nx F.code[j] j) ∨ (0 ≤ li ∧ k ∈ (nx xi i).take m)) → b2 = true)) (fun _ q _ => (nx xi i).length - (intOf q).toNat)
                case atStart =>
                  refine ⟨0, bb, Nat.zero_le _, rfl, rfl, Ext.refl _, fun h => HBB.out ?_⟩
                  rcases h with h | h | ⟨_, h⟩
                  · exact .inl h
                  · exact .inr h
                  · simp at h
                case round =>
                  obtain ⟨m, b2, hm, rfl, rfl, hbr2, hb2⟩ := hrel
                  have HBR2 := Lib.hid hbr2
                  have HB2' := Lib.hid hb2
                  clear hbr2 hb2
                  have l6 := Ext.cell HBR2.out l5
                  by_cases hltm : m < (nx xi i).length
                  · obtain ⟨bw, ow, _, e7, _, _, _, d0, _⟩ := HL18.out.get (i := m) (by rw [nats_len]; exact hltm)
                    simp only [Value.slice.injEq] at e7
                    obtain ⟨rfl, -, rfl⟩ := e7
                    rw [Nat.mul_one, show (nats (nx xi i))[m]'(by rw [nats_len]; exact hltm) = ((nx xi i)[m] : Int) by simp [nats]] at d0
                    have d6 := Ext.cell HBR2.out d0
                    have HTK := Lib.hid (List.take_succ_eq_append_getElem hltm)
                    generalize (nx xi i)[m] = jj at *
                    clear d0
                    cases b2 with
                    | true =>
                      go_wp2_with fail
                      go_roundw
                      case rel => exact ⟨m + 1, true, by omega, by go_num, rfl, HBR2.out, fun _ => rfl⟩
                      case measure => simp [intOf]; omega
                    | false =>
                      by_cases hneg : li < 0
                      · go_wp2_with fail
                        go_roundw
                        case rel => exact ⟨m + 1, false, by omega, by go_num, rfl, HBR2.out, fun h => HB2'.out (by
                          rcases h with h | h | ⟨h, _⟩
                          · exact .inl h
                          · exact .inr (.inl h)
                          · omega)⟩
                        case measure => simp [intOf]; omega
                      · have hli0 : 0 ≤ li := by omega
                        go_wp2_with fail
                        go_roundw
                        case rel => exact ⟨m + 1, _, by omega, by go_num, rfl, HBR2.out, fun h => by
                          rcases h with h | h | ⟨h, h'⟩
                          · exact absurd (HB2'.out (.inl h)) (by decide)
                          · exact absurd (HB2'.out (.inr (.inl h))) (by decide)
                          · rw [HTK.out] at h'
                            rcases List.mem_append.1 h' with h' | h'
                            · exact absurd (HB2'.out (.inr (.inr ⟨h, h'⟩))) (by decide)
                            · rw [List.mem_singleton] at h'
                              subst h'
                              simp⟩
                        case measure => simp [intOf]; omega
                  · obtain rfl : m = (nx xi i).length := by omega
                    clear hltm
                    go_wp2_with fail
                    go_roundw
                    case rel => exact ⟨i + 1, b2, by omega, by go_num, rfl, (HBR.out.trans HB5.out).trans HBR2.out, fun h => HB2'.out (by
                      rcases h with h | ⟨j, h1, h2, h3, h4⟩
                      · exact .inl h
                      · by_cases e : j = i
                        · subst e
                          rw [HXI.out] at h4
                          rw [HLI.out] at h3
                          exact .inr (.inr ⟨h3, by rw [List.take_length]; exact h4⟩)
                        · exact .inr (.inl ⟨j, by omega, h2, h3, h4⟩))⟩
                    case measure => simp [intOf]; omega
              · obtain rfl : i = F.code.length := by omega
                have hbt : bb = true := HBB.out (by
                  by_cases hk0 : k = 0
                  · exact .inl hk0
                  · obtain ⟨j, hj, h3, h4⟩ := HFR.out (by rw [HH.out]; exact hpos0) hk0
                    exact .inr ⟨j, hj, hj, h3, h4⟩)
                subst hbt
                clear hlt HBB HFR
                go_wp2_with (first
                  | (go_at_call 26; (with_reducible refine (flowBegun_any _).mono ?_); rintro e w9 ⟨rfl, hb9⟩))
                go_ret
                exact ⟨rfl, (HB4.out.trans HBR.out).trans hb9⟩
  · obtain ⟨r, hr⟩ : ∃ r, hErr p f = r := ⟨_, rfl⟩
    rw [hr] at he
    have HR := Lib.hid hr
    have TB : (r != 0) = true := bne_iff_ne.2 he
    obtain ⟨a0, cap, rfl, _, _, _⟩ := hp
    clear he hr
    go_enter Try.func10, Try.ntmps10
    go_wp2_with (first
      | (go_at_call 24; (with_reducible refine (heights_val p _ (fun _ => True) f _ HP.out r (hList p f) (hList p f).length HR.out rfl rfl).mono ?_); rintro e w1 ⟨⟨a1, c1, rfl, hl1⟩, hb1⟩)
      | (go_at_call 26; (with_reducible refine (flowBegun_any _).mono ?_); rintro e w3 ⟨rfl, hb3⟩))
    go_ret
    exact ⟨rfl, by ((repeat (first | assumption | exact Ext.refl _ | (exact And.left (by assumption)) | refine Ext.alloc ?_ _ | refine Ext.drew ?_ | refine Ext.drewN ?_ _ | refine Ext.setCell ?_ (by simp) _ | refine Ext.setCell ?_ (by simp; omega) _ | refine Ext.trans ?_ (by assumption))); done)⟩

theorem contract (H : Type) (enc : TypeId × Value → H) (W : World) (base : Nat) (args : Array Value) (ds gs : List (DataW H)) (before : List MemPlace)
    (hval : ∀ (j : Nat) t v, Try.f10.params[j]? = some t → args[j]? = some v → Value.okWide Try.prog W .any base t v)
    (hW : DataW.Whole enc Try.prog Try.f10.params.toList Rows.flowTrueSpec.vars false W args.toList ds gs before)
    (hsz : (DataW.weightsEach Try.prog (Try.f10.params.toList ++ Rows.flowTrueSpec.plain.varTypes Try.prog) (ds ++ gs)).all (· ≤ reachBytes) = true) :
    Calls Try.prog 10 args W fun e W' => ∃ v, e = .returned v ∧ Rows.flowTrueSpec.post enc Try.prog Try.f10 false true false false W args v W' := by
  have hW' := hW
  obtain ⟨p, q, hA, hV, rfl, hfz, hnd⟩ := hW
  rw [Try.params10] at hA hval
  obtain ⟨v0, vs0, d0, ds0, q0, t0, hargs, rfl, rfl, h0, r0⟩ := trodAll_cons hA
  obtain ⟨v1, vs1, d1, ds1, q1, t1, rfl, rfl, rfl, h1, r1⟩ := trodAll_cons r0
  obtain ⟨v2, vs2, d2, ds2, q2, t2, rfl, rfl, rfl, h2, r2⟩ := trodAll_cons r1
  obtain ⟨rfl, rfl, rfl⟩ := trodAll_nil r2
  obtain rfl : args = #[v0, v1, v2] := by cases args; simp_all
  obtain ⟨rfl, rfl⟩ := trodVars_none hV
  obtain ⟨a0, l0, c0, rfl⟩ := okWide_slice Try.underlying22 (hval 0 22 v0 rfl rfl)
  obtain ⟨fuel0, h0⟩ := h0
  obtain ⟨x0, h0⟩ := funcs_of_trod h0 (fun n hn => by
    have := List.all_eq_true.1 hsz n (DataW.weights_mem_each (j := 0) rfl rfl n hn)
    simpa using this)
  obtain ⟨x1, rfl, rfl, rfl, wf1⟩ := open_int Try.underlying3 (hval 1 3 v1 rfl rfl) h1
  obtain ⟨x2, rfl, rfl, rfl, wf2⟩ := open_int Try.underlying3 (hval 2 3 v2 rfl rfl) h2
  refine (walk W x0 _ h0 x1 (i64_of_wf wf1) x2 (i64_of_wf wf2)).mono fun e W' ⟨he, hE⟩ => ⟨_, he, law_post laidOut ?_ rfl Try.underlying4 rfl hW' ?_ hE⟩
  · rw [Try.params10]
    intro t ht
    simp at ht
    (try rcases ht with rfl | rfl) <;> exact ⟨by kernel_rfl, of_decide_eq_true (by kernel_rfl)⟩
  · intro ds hds
    match ds, hds with
    | [d0, d1, d2], _ => exact ⟨rfl, rfl, rfl⟩

theorem lifted (os : Os) (started : os.Started) (H : Type) (enc : TypeId × Value → H) :
    ReturnsInHanded {} Try.checked os 10 .any (Rows.flowTrueSpec.pre6 enc Try.prog Try.f10 Rows.flowTrueRow.domain false) (Rows.flowTrueSpec.post enc Try.prog Try.f10 false true false false) := by
  refine returnsInHanded_of_change_sized (C := Try.checked) own started (by kernel_rfl) Try.func10
    (ChangeSpec.witness6 (enc := enc) (C := Try.checked) false ⟨#[], #[.slice none 0 0, .int .i64 0, .int .i64 0], []⟩ 8 (by kernel_rfl) (by kernel_rfl) (by kernel_rfl) (by kernel_rfl)) ?_
  intro W base args ds gs before hval hW _ hsz _
  exact contract H enc W base args ds gs before hval hW hsz

theorem proved : Rows.FlowTrueSaid :=
  OpenClaim.holds_of_wide 10 Try.f10 rfl rfl rfl rfl rfl rfl rfl ⟨rfl, rfl, rfl, rfl, rfl⟩ rfl rfl rfl rfl rfl (by as_aux_lemma => kernel_rfl) Try.func10 (by as_aux_lemma => kernel_rfl)
    (of_decide_eq_true (by as_aux_lemma => kernel_rfl)) (by unfold Func.isWrapper; rw [if_neg (of_decide_eq_false (by as_aux_lemma => kernel_rfl))]; exact ⟨rfl, rfl⟩)
    (fun os started H enc _ => lifted os started H enc)
end Go.Proofs.Ytpiechbjponicaa.flowTrue

