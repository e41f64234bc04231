/- Merged texts: contracts and plain facts, one part behind another; each part begins with what it says. -/
import Derived.Test.YtgahbngbpfilgaaGreatGEAF
import Derived.Test.YtgahbngbpfilgaaGreatGEAH
import Derived.Test.YtgahbngbpfilgaaGreatGEAQ
import Derived.Test.YtgahbngbpfilgaaGreatGEAS
section
set_option maxHeartbeats 4000000
set_option maxRecDepth 100000
namespace Go.Proofs.YtgahbngbpfilgaaGreat
open Go Go.RowKit
structure FrameAt (w : World) (b o : Nat) (x : GFrame) (vl vs : Value) : Prop where
 f : w.cell? ⟨b, o, none⟩ = some (.int .i64 x.func)
 a : w.cell? ⟨b, o + 1, none⟩ = some (.int .i64 x.at_)
 l : w.cell? ⟨b, o + 2, none⟩ = some vl
 s : w.cell? ⟨b, o + 3, none⟩ = some vs
theorem FrameAt.ext {w w' : World} {b o : Nat} {x : GFrame} {vl vs : Value} (h : FrameAt w b o x vl vs) (he : Ext w w') : FrameAt w' b o x vl vs := ⟨Ext.cell he h.f, Ext.cell he h.a, Ext.cell he h.l, Ext.cell he h.s⟩
theorem Frames.at' {w : World} {S : Nat → Prop} {a : Option Addr} {fs : List GFrame} {n c : Nat} (h : Frames w S (.slice a n c) fs) {k : Nat} (hk : k < fs.length) :
  ∃ b o al cl as_ cs, a = some ⟨b, o, none⟩ ∧ FrameAt w b (o + k * 4) (fs.getD k default) (.slice al (fs.getD k default).locals.length cl) (.slice as_ (fs.getD k default).stack.length cs) ∧
   FrameV w S (.agg #[.int .i64 (fs.getD k default).func, .int .i64 (fs.getD k default).at_, .slice al (fs.getD k default).locals.length cl, .slice as_ (fs.getD k default).stack.length cs]) (fs.getD k default) := by
 have e : fs.getD k default = fs[k] := by simp [List.getD, List.getElem?_eq_getElem hk]
 rw [e]
 obtain ⟨b, o, c', e1, _, _, ⟨_, x0, i0⟩, ⟨_, x1, i1⟩, ⟨vl, x2, hl⟩, ⟨vs, x3, hs⟩⟩ := h.get hk
 simp only [Value.slice.injEq] at e1
 obtain ⟨rfl, -, rfl⟩ := e1
 have hl2 := hl
 have hs2 := hs
 obtain ⟨al, cl, rfl, _, _, _⟩ := hl
 obtain ⟨as_, cs, rfl, _, _, _⟩ := hs
 exact ⟨b, o, al, cl, as_, cs, rfl, ⟨x0, x1, x2, x3⟩, _, _, rfl, i0, i1, hl2, hs2⟩
theorem fiberFine_any (p : List GFunc) (v : Value) (S T : Nat → Prop) (x : GFiber) (vx : Value) (on runs : Bool) (w : World) (hp : Funcs w S v p) (hz : progErr p = 0) (hx : FiberV w T vx x) :
    Calls Tryz.prog 23 #[v, vx, .bool on, .bool runs] w fun e w' => e = .returned (.bool (fiberB p x on runs)) ∧ Ext w w' := by
  have HP := Lib.hid hp
  have HZ := Lib.hid hz
  have HX := Lib.hid hx
  obtain ⟨ap, capp, rfl, _, _, _⟩ := hp
  obtain ⟨fs, cl⟩ := x
  obtain ⟨vf, rfl, hfr, _⟩ := hx
  have HFR := Lib.hid hfr
  obtain ⟨af, cf, rfl, _, hby, _⟩ := hfr
  simp only at *
  have RA := alloc_keep
  have hlen5 := (progErr_zero hz).most
  have KK1 : IntKind.i64.wrap ((p.length : Int) - 1) = (p.length : Int) - 1 := IntWalk.i64_in _ (by omega)
  obtain ⟨r, hr⟩ : ∃ r, fiberB p ⟨fs, cl⟩ on runs = r := ⟨_, rfl⟩
  rw [hr]
  have HR := Lib.hid hr
  clear hr hz
  have BX := Lib.hid (⟨Cx.new w [.slice af fs.length cf, .int .i64 cl] 41 (j := 0) rfl, Cx.new w [.slice af fs.length cf, .int .i64 cl] 41 (j := 1) rfl⟩ : _ ∧ _)
  have HE1 := Lib.hid ((Ext.refl w).alloc (.cells #[.slice af fs.length cf, .int .i64 cl] 41))
  by_cases h0 : fs.length = 0
  · have T0 : ((fs.length : Int) == 0) = true := by simp [h0]
    have HR2 : Hid (r = (!on && decide (cl = -1))) := by unfold Hid; rw [← HR.out]; unfold fiberB; rw [if_pos h0]
    clear h0
    cases on with
    | true =>
      go_enter Tryz.func23, Tryz.ntmps23
      go_wp2_with fail
      go_ret
      exact ⟨by rw [HR2.out]; rfl, HE1.out⟩
    | false =>
      have TE : (cl == -1) = decide (cl = -1) := by rw [Bool.eq_iff_iff]; simp
      have HR3 : Hid (r = (cl == -1)) := by unfold Hid; rw [HR2.out, TE]; rfl
      clear TE
      go_enter Tryz.func23, Tryz.ntmps23
      go_wp2_with fail
      go_ret
      exact ⟨by rw [HR3.out]; rfl, HE1.out⟩
  · have T0 : ((fs.length : Int) == 0) = false := beq_eq_false_iff_ne.2 (by omega)
    have HR2 : Hid (r = (allK fs.length (onB p fs) && topB p ⟨fs, cl⟩ on runs (fs.getD (fs.length - 1) default))) := by unfold Hid; rw [← HR.out]; unfold fiberB; rw [if_neg h0]
    clear HR
    go_enter Tryz.func23, Tryz.ntmps23
    go_wp2_with fail
    generalize w.alloc (.cells #[.slice af fs.length cf, .int .i64 cl] 41) = w1 at *
    go_loopw [10] (fun q wr => ∃ k : Nat, k ≤ fs.length ∧ q = .int .i64 k ∧ Ext w1 wr ∧ ∀ i, i < k → onB p fs i = true) (fun q _ => fs.length - (intOf q).toNat)
    case atStart => exact ⟨0, Nat.zero_le _, rfl, Ext.refl _, fun i hi => absurd hi (Nat.not_lt_zero _)⟩
    case round =>
      obtain ⟨k, hk, rfl, hb, hall⟩ := hrel
      have HB := Lib.hid hb
      have HALL := Lib.hid hall
      obtain ⟨⟨q0, -⟩, ⟨q1, -⟩⟩ := (⟨BX.out.1.ext hb, BX.out.2.ext hb⟩ : _ ∧ _)
      clear hb hall
      by_cases hlt : k < fs.length
      · obtain ⟨bf, of, al, cl1, as_, cs1, rfl, hfa, hfv⟩ := (Frames.stays (Ext.stays (HE1.out.trans HB.out)) HFR.out).at' hlt
        have HFV := Lib.hid hfv
        obtain ⟨x0, x1, x2, x3⟩ := hfa
        clear hfv
        obtain ⟨k1, hk1⟩ : ∃ k1, k1 = k + 1 := ⟨_, rfl⟩
        have HK1 := Lib.hid hk1
        have KK2 : IntKind.i64.wrap ((k : Int) + 1) = (k1 : Int) := by rw [IntWalk.i64_in _ (by omega), hk1]; rfl
        clear hk1
        by_cases h1 : frameB p (fs.getD k default) = true
        · have HF1 := Lib.hid h1
          by_cases h2 : k + 1 < fs.length
          · have h21 : k1 < fs.length := by rw [HK1.out]; exact h2
            have T2 : decide ((k1 : Int) < (fs.length : Int)) = true := decide_eq_true (by omega)
            obtain ⟨bg, og, _, _, _, _, eg, hga, _⟩ := (Frames.stays (Ext.stays (HE1.out.trans HB.out)) HFR.out).at' h21
            simp only [Option.some.injEq, Addr.mk.injEq, and_true] at eg
            obtain ⟨rfl, rfl⟩ := eg
            have y0 := hga.f
            clear hga
            have HOB : Hid (onB p fs k = (decide (0 ≤ (fs.getD k1 default).func ∧ (fs.getD k1 default).func < p.length) && waitB p (fs.getD k default) 11 (fs.getD k1 default).func)) := by
              rw [HK1.out]
              unfold Hid onB
              rw [h1, decide_eq_true h2]
              rfl
            generalize fs.getD k1 default = y at *
            generalize fs.getD k default = x at *
            obtain ⟨yf, hyf⟩ : ∃ yf, y.func = yf := ⟨_, rfl⟩
            rw [hyf] at y0 HOB
            clear hyf h1 h2
            by_cases h3 : 0 ≤ yf ∧ yf < p.length
            · have HW1 : Hid (decide (0 ≤ yf ∧ yf ≤ (p.length : Int) - 1) = true) := decide_eq_true (by omega)
              cases h4 : waitB p x 11 yf with
              | true =>
                have HW2 := Lib.hid h4
                have HO : Hid (onB p fs k = true) := by unfold Hid; rw [HOB.out, h4, decide_eq_true h3]; rfl
                clear h3 h4
                go_upto_region 7 with fail
                refine wp_region_ext (by kernel_rfl) (by kernel_rfl) ?_
                repeat (first
                  | go_big_quiet_skip
                  | (go_big_quiet_want
                     unfold Oper.quiet
                     apply Exists.intro
                     refine ⟨fun w' hw' => ?_, ?_⟩
                     focus
                       have hcq := Ext.keep hw'
                       go_simp
                       first
                         | with_reducible rfl
                         | (go_at_call 48; refine (frameFine_any p _ _ _ x _ _ (Funcs.stays (Ext.stays ((HE1.out.trans HB.out).trans hw')) HP.out) HZ.out (FrameV.stays (Ext.stays hw') HFV.out)).mono ?_; rintro e w2 ⟨rfl, hx2⟩; rw [HF1.out]; exact ⟨rfl, hw'.trans hx2⟩) | (go_at_call 21; refine (within_any _ _ _ _).mono ?_; rintro e w2 ⟨rfl, rfl⟩; rw [HW1.out]; exact ⟨rfl, hw'⟩) | (go_at_call 49; refine (waits_any p _ _ _ x _ _ _ _ (Funcs.stays (Ext.stays ((HE1.out.trans HB.out).trans hw')) HP.out) HZ.out (FrameV.stays (Ext.stays hw') HFV.out) HF1.out).mono ?_; rintro e w2 ⟨rfl, hx2⟩; rw [HW2.out]; exact ⟨rfl, hw'.trans hx2⟩)
                     (try dsimp only [Act.put])
                     (try simp only [List.setIfInBounds_toArray, List.set_cons_succ, List.set_cons_zero])
                     go_big_quiet_on))
                refine wpQuiet_nil ?_
                intro wq hq
                go_wp2_with fail
                go_roundw
                case rel => exact ⟨k + 1, by omega, by rw [HK1.out], HB.out.trans hq, fun i hi => by
                  by_cases e : i = k
                  · rw [e]; exact HO.out
                  · exact HALL.out i (by omega)⟩
                case measure => simp [intOf, HK1.out]; omega
              | false =>
                have HW2 := Lib.hid h4
                have HO : Hid (r = false) := by unfold Hid; rw [HR2.out, allK_false hlt (by rw [HOB.out, h4, decide_eq_true h3]; rfl)]; rfl
                clear h3 h4
                go_upto_region 7 with fail
                refine wp_region_ext (by kernel_rfl) (by kernel_rfl) ?_
                repeat (first
                  | go_big_quiet_skip
                  | (go_big_quiet_want
                     unfold Oper.quiet
                     apply Exists.intro
                     refine ⟨fun w' hw' => ?_, ?_⟩
                     focus
                       have hcq := Ext.keep hw'
                       go_simp
                       first
                         | with_reducible rfl
                         | (go_at_call 48; refine (frameFine_any p _ _ _ x _ _ (Funcs.stays (Ext.stays ((HE1.out.trans HB.out).trans hw')) HP.out) HZ.out (FrameV.stays (Ext.stays hw') HFV.out)).mono ?_; rintro e w2 ⟨rfl, hx2⟩; rw [HF1.out]; exact ⟨rfl, hw'.trans hx2⟩) | (go_at_call 21; refine (within_any _ _ _ _).mono ?_; rintro e w2 ⟨rfl, rfl⟩; rw [HW1.out]; exact ⟨rfl, hw'⟩) | (go_at_call 49; refine (waits_any p _ _ _ x _ _ _ _ (Funcs.stays (Ext.stays ((HE1.out.trans HB.out).trans hw')) HP.out) HZ.out (FrameV.stays (Ext.stays hw') HFV.out) HF1.out).mono ?_; rintro e w2 ⟨rfl, hx2⟩; rw [HW2.out]; exact ⟨rfl, hw'.trans hx2⟩)
                     (try dsimp only [Act.put])
                     (try simp only [List.setIfInBounds_toArray, List.set_cons_succ, List.set_cons_zero])
                     go_big_quiet_on))
                refine wpQuiet_nil ?_
                intro wq hq
                go_wp2_with fail
                go_ret
                exact ⟨by rw [HO.out]; rfl, (HE1.out.trans HB.out).trans hq⟩
            · have HW1 : Hid (decide (0 ≤ yf ∧ yf ≤ (p.length : Int) - 1) = false) := decide_eq_false (by omega)
              have HO : Hid (r = false) := by unfold Hid; rw [HR2.out, allK_false hlt (by rw [HOB.out, decide_eq_false h3]; rfl)]; rfl
              clear h3
              go_upto_region 7 with fail
              refine wp_region_ext (by kernel_rfl) (by kernel_rfl) ?_
              repeat (first
                | go_big_quiet_skip
                | (go_big_quiet_want
                   unfold Oper.quiet
                   apply Exists.intro
                   refine ⟨fun w' hw' => ?_, ?_⟩
                   focus
                     have hcq := Ext.keep hw'
                     go_simp
                     first
                       | with_reducible rfl
                       | (go_at_call 48; refine (frameFine_any p _ _ _ x _ _ (Funcs.stays (Ext.stays ((HE1.out.trans HB.out).trans hw')) HP.out) HZ.out (FrameV.stays (Ext.stays hw') HFV.out)).mono ?_; rintro e w2 ⟨rfl, hx2⟩; rw [HF1.out]; exact ⟨rfl, hw'.trans hx2⟩) | (go_at_call 21; refine (within_any _ _ _ _).mono ?_; rintro e w2 ⟨rfl, rfl⟩; rw [HW1.out]; exact ⟨rfl, hw'⟩)
                   (try dsimp only [Act.put])
                   (try simp only [List.setIfInBounds_toArray, List.set_cons_succ, List.set_cons_zero])
                   go_big_quiet_on))
              refine wpQuiet_nil ?_
              intro wq hq
              go_wp2_with fail
              go_ret
              exact ⟨by rw [HO.out]; rfl, (HE1.out.trans HB.out).trans hq⟩
          · have T2 : decide ((k1 : Int) < (fs.length : Int)) = false := decide_eq_false (by rw [HK1.out]; omega)
            have T2n : decide (k1 < fs.length) = false := decide_eq_false (by rw [HK1.out]; omega)
            have HO : Hid (onB p fs k = true) := by unfold Hid onB; rw [h1, decide_eq_false h2]; rfl
            generalize fs.getD k default = x at *
            clear h1 h2
            go_upto_region 7 with fail
            refine wp_region_ext (by kernel_rfl) (by kernel_rfl) ?_
            repeat (first
              | go_big_quiet_skip
              | (go_big_quiet_want
                 unfold Oper.quiet
                 apply Exists.intro
                 refine ⟨fun w' hw' => ?_, ?_⟩
                 focus
                   have hcq := Ext.keep hw'
                   go_simp
                   first
                     | with_reducible rfl
                     | (go_at_call 48; refine (frameFine_any p _ _ _ x _ _ (Funcs.stays (Ext.stays ((HE1.out.trans HB.out).trans hw')) HP.out) HZ.out (FrameV.stays (Ext.stays hw') HFV.out)).mono ?_; rintro e w2 ⟨rfl, hx2⟩; rw [HF1.out]; exact ⟨rfl, hw'.trans hx2⟩)
                 (try dsimp only [Act.put])
                 (try simp only [List.setIfInBounds_toArray, List.set_cons_succ, List.set_cons_zero])
                 go_big_quiet_on))
            refine wpQuiet_nil ?_
            intro wq hq
            go_wp2_with fail
            go_roundw
            case rel => exact ⟨k + 1, by omega, by rw [HK1.out], HB.out.trans hq, fun i hi => by
              by_cases e : i = k
              · rw [e]; exact HO.out
              · exact HALL.out i (by omega)⟩
            case measure => simp [intOf, HK1.out]; omega
        · have HF1 : Hid (frameB p (fs.getD k default) = false) := Bool.eq_false_iff.2 h1
          have HO : Hid (r = false) := by unfold Hid; rw [HR2.out, allK_false hlt (by unfold onB; rw [HF1.out]; rfl)]; rfl
          generalize fs.getD k default = x at *
          clear h1
          go_upto_region 7 with fail
          refine wp_region_ext (by kernel_rfl) (by kernel_rfl) ?_
          repeat (first
            | go_big_quiet_skip
            | (go_big_quiet_want
               unfold Oper.quiet
               apply Exists.intro
               refine ⟨fun w' hw' => ?_, ?_⟩
               focus
                 have hcq := Ext.keep hw'
                 go_simp
                 first
                   | with_reducible rfl
                   | (go_at_call 48; refine (frameFine_any p _ _ _ x _ _ (Funcs.stays (Ext.stays ((HE1.out.trans HB.out).trans hw')) HP.out) HZ.out (FrameV.stays (Ext.stays hw') HFV.out)).mono ?_; rintro e w2 ⟨rfl, hx2⟩; rw [HF1.out]; exact ⟨rfl, hw'.trans hx2⟩)
               (try dsimp only [Act.put])
               (try simp only [List.setIfInBounds_toArray, List.set_cons_succ, List.set_cons_zero])
               go_big_quiet_on))
          refine wpQuiet_nil ?_
          intro wq hq
          go_wp2_with fail
          go_ret
          exact ⟨by rw [HO.out]; rfl, (HE1.out.trans HB.out).trans hq⟩
      · obtain rfl : k = fs.length := by omega
        have HR3 : Hid (r = topB p ⟨fs, cl⟩ on runs (fs.getD (fs.length - 1) default)) := by unfold Hid; rw [HR2.out, allK_true HALL.out, Bool.true_and]
        obtain ⟨j, hj⟩ : ∃ j, fs.length = j + 1 := ⟨fs.length - 1, by omega⟩
        have hjl : j < fs.length := by omega
        have hon := HALL.out j hjl
        have HF1 : Hid (frameB p (fs.getD j default) = true) := by
          unfold Hid
          unfold onB at hon
          rw [Bool.and_eq_true] at hon
          exact hon.1
        have HFR0 : Hid (∀ h : 0 < fs.length, 0 ≤ fs[0].func ∧ fs[0].func < p.length) := fun h => by
          have h1 := HALL.out 0 h
          unfold onB at h1
          rw [Bool.and_eq_true] at h1
          have h2 := h1.1
          unfold frameB at h2
          simp only [Bool.and_eq_true, decide_eq_true_eq] at h2
          have e : fs.getD 0 default = fs[0] := by simp [List.getD, List.getElem?_eq_getElem h]
          rw [e] at h2
          exact h2.1.1.1
        rw [show fs.length - 1 = j by omega] at HR3
        obtain ⟨bf, of, al, cl1, as_, cs1, rfl, hfa, hfv⟩ := (Frames.stays (Ext.stays (HE1.out.trans HB.out)) HFR.out).at' hjl
        have KK2 : IntKind.i64.wrap ((fs.length : Int) - 1) = (j : Int) := by rw [IntWalk.i64_in _ (by omega)]; omega
        have HFV := Lib.hid hfv
        obtain ⟨x0, x1, x2, x3⟩ := hfa
        clear hfv hon hlt
        generalize fs.getD j default = x at *
        clear hj
        rename World => wr
        obtain ⟨n, m, hn, e1, e2, hm, _, hu0, hlm, h24⟩ := frameB_nat HZ.out HF1.out
        obtain ⟨fn, at_, ls, st⟩ := x
        simp only at e1 e2
        subst e1 e2
        simp only at *
        have hlm1 := Nat.le_of_eq hlm
        have hlm2 := Nat.le_of_eq hlm.symm
        have tb := Lib.hid (⟨(Cx.new wr [.int .i64 n, .int .i64 m, .slice al ls.length cl1, .slice as_ st.length cs1] 43 (j := 0) rfl).1, (Cx.new wr [.int .i64 n, .int .i64 m, .slice al ls.length cl1, .slice as_ st.length cs1] 43 (j := 1) rfl).1, (Cx.new wr [.int .i64 n, .int .i64 m, .slice al ls.length cl1, .slice as_ st.length cs1] 43 (j := 2) rfl).1, (Cx.new wr [.int .i64 n, .int .i64 m, .slice al ls.length cl1, .slice as_ st.length cs1] 43 (j := 3) rfl).1⟩ : _ ∧ _ ∧ _ ∧ _)
        have hEX : Ext wr (wr.alloc (.cells #[.int .i64 n, .int .i64 m, .slice al ls.length cl1, .slice as_ st.length cs1] 43)) := (Ext.refl _).alloc _
        have HEX0 := Lib.hid hEX
        have q0' := Ext.cell hEX q0
        have q1' := Ext.cell hEX q1
        clear hlm hEX
        go_upto_region 10 with fail
        generalize wr.heap.size = bt at *
        generalize wr.alloc (.cells #[.int .i64 n, .int .i64 m, .slice al ls.length cl1, .slice as_ st.length cs1] 43) = w5 at *
        have HE5 := Lib.hid ((HE1.out.trans HB.out).trans HEX0.out)
        obtain ⟨t0, t1, t2, t3⟩ := tb.out
        clear q0 q1 x0 x1 x2 x3
        cases runs with
        | true =>
          have hml : m < (hgt p n).length := by omega
          obtain ⟨u, hu⟩ : ∃ u, (hgt p n).getD m 0 = u := ⟨_, rfl⟩
          have HU := Lib.hid hu
          have HR4 : Hid (r = ((st.length : Int) == u)) := by
            unfold Hid
            rw [HR3.out]
            unfold topB fullB
            rw [if_pos rfl, show (hgt p (GFrame.func ⟨n, m, ls, st⟩)).getD (GFrame.at_ ⟨n, m, ls, st⟩).toNat 0 = u from HU.out, Bool.eq_iff_iff]
            simp
          clear hu
          go_upto_region 12 with (first
            | (go_at_call 47; refine (heights_right p _ _ n _ (Funcs.stays (Ext.stays HE5.out) HP.out) HZ.out hn).mono ?_; rintro e w2 ⟨⟨a3, c3, rfl, hi⟩, hx2⟩; obtain ⟨bl, ol, rfl, l0⟩ := Ints.at' hi (m := m) (by omega); rw [HU.out] at l0))
          have t1' := Ext.cell hx2 t1
          have t3' := Ext.cell hx2 t3
          refine wp_region_ext (by kernel_rfl) (by kernel_rfl) ?_
          repeat (first
            | go_big_quiet_skip
            | (go_big_quiet_want
               unfold Oper.quiet
               apply Exists.intro
               refine ⟨fun w' hw' => ?_, ?_⟩
               focus
                 have hcq := Ext.keep hw'
                 go_simp
                 first
                   | with_reducible rfl
                   | fail
               (try dsimp only [Act.put])
               (try simp only [List.setIfInBounds_toArray, List.set_cons_succ, List.set_cons_zero])
               go_big_quiet_on))
          refine wpQuiet_nil ?_
          intro wq hq
          go_wp2_with fail
          go_ret
          exact ⟨by rw [HR4.out]; rfl, HE5.out.trans (hx2.trans hq)⟩
        | false =>
          cases on with
          | true =>
            have HR4 : Hid (r = waitB p ⟨n, m, ls, st⟩ 14 0) := by unfold Hid; rw [HR3.out]; rfl
            go_wp2_with (first
              | (go_at_call 49; refine (waits_any p _ _ _ ⟨n, m, ls, st⟩ _ _ _ _ (Funcs.stays (Ext.stays HE5.out) HP.out) HZ.out (FrameV.stays (Ext.stays HEX0.out) HFV.out) HF1.out).mono ?_; rintro e w2 ⟨rfl, hx2⟩; rw [← HR4.out]))
            go_ret
            exact ⟨rfl, HE5.out.trans hx2⟩
          | false =>
            have HR4 : Hid (r = (decide (cl = -1) && (freshB p ⟨fs, cl⟩ || waitB p ⟨n, m, ls, st⟩ 15 0))) := by unfold Hid; rw [HR3.out]; rfl
            by_cases hc : cl = -1
            · have T1 : (cl == -1) = true := by simp [hc]
              cases hfr : freshB p ⟨fs, cl⟩ with
              | true =>
                have HW := Lib.hid hfr
                have HR5 : Hid (r = true) := by unfold Hid; rw [HR4.out, hfr, decide_eq_true hc]; rfl
                clear hfr hc
                go_wp2_with (first
                  | (go_at_call 50; refine (fresh_any p _ _ _ ⟨fs, cl⟩ _ _ (Funcs.stays (Ext.stays HE5.out) HP.out) (FiberV.stays (Ext.stays HE5.out) HX.out) HFR0.out).mono ?_; rintro e w2 ⟨rfl, hx2⟩; rw [HW.out]))
                go_ret
                exact ⟨by rw [HR5.out]; rfl, HE5.out.trans hx2⟩
              | false =>
                have HW := Lib.hid hfr
                have HR5 : Hid (r = waitB p ⟨n, m, ls, st⟩ 15 0) := by unfold Hid; rw [HR4.out, hfr, decide_eq_true hc]; rfl
                clear hfr hc
                go_wp2_with (first
                  | (go_at_call 50; refine (fresh_any p _ _ _ ⟨fs, cl⟩ _ _ (Funcs.stays (Ext.stays HE5.out) HP.out) (FiberV.stays (Ext.stays HE5.out) HX.out) HFR0.out).mono ?_; rintro e w2 ⟨rfl, hx2⟩; rw [HW.out]; have s0 := Ext.cell hx2 t0; have s1 := Ext.cell hx2 t1; have s2 := Ext.cell hx2 t2; have s3 := Ext.cell hx2 t3)
                  | (go_at_call 49; refine (waits_any p _ _ _ ⟨n, m, ls, st⟩ _ _ _ _ (Funcs.stays (Ext.stays (HE5.out.trans hx2)) HP.out) HZ.out (FrameV.stays (Ext.stays (HEX0.out.trans hx2)) HFV.out) HF1.out).mono ?_; rintro e w3 ⟨rfl, hx3⟩; rw [← HR5.out]))
                go_ret
                exact ⟨rfl, (HE5.out.trans hx2).trans hx3⟩
            · have T1 : (cl == -1) = false := beq_eq_false_iff_ne.2 hc
              have HR5 : Hid (r = false) := by unfold Hid; rw [HR4.out, decide_eq_false hc]; rfl
              clear hc
              go_wp2_with fail
              go_ret
              exact ⟨by rw [HR5.out]; rfl, HE5.out⟩
end Go.Proofs.YtgahbngbpfilgaaGreat
end
section
set_option maxHeartbeats 4000000
set_option maxRecDepth 100000
namespace Go.Proofs.YtgahbngbpfilgaaGreat
open Go Go.RowKit
theorem Fibers.at' {w : World} {S : Nat → Prop} {a : Option Addr} {fs : List GFiber} {n c : Nat} (h : Fibers w S (.slice a n c) fs) {k : Nat} (hk : k < fs.length) :
  ∃ b o af cf, a = some ⟨b, o, none⟩ ∧ w.cell? ⟨b, o + k * 2, none⟩ = some (.slice af (fs.getD k default).frames.length cf) ∧ w.cell? ⟨b, o + k * 2 + 1, none⟩ = some (.int .i64 (fs.getD k default).caller) ∧
   FiberV w S (.agg #[.slice af (fs.getD k default).frames.length cf, .int .i64 (fs.getD k default).caller]) (fs.getD k default) := by
 have e : fs.getD k default = fs[k] := by simp [List.getD, List.getElem?_eq_getElem hk]
 rw [e]
 obtain ⟨b, o, c', e1, _, _, ⟨vf, x0, hf⟩, ⟨_, x1, i1⟩⟩ := h.get hk
 simp only [Value.slice.injEq] at e1
 obtain ⟨rfl, -, rfl⟩ := e1
 have hf2 := hf
 obtain ⟨af, cf, rfl, _, _, _⟩ := hf
 exact ⟨b, o, af, cf, rfl, x0, x1, _, rfl, hf2, i1⟩
theorem stateError_any (p : List GFunc) (v : Value) (S T : Nat → Prop) (s : GState) (vs : Value) (w : World) (hp : Funcs w S v p) (hs : StateV w T vs s) :
    Calls Tryz.prog 5 #[v, vs] w fun e w' => e = .returned (.int .i64 (stateErr p s)) ∧ Ext w w' := by
  have HP := Lib.hid hp
  have HS := Lib.hid hs
  obtain ⟨ap, capp, rfl, _, _, _⟩ := hp
  obtain ⟨x, y, rfl, hfs, _, hout⟩ := hs
  have HFS := Lib.hid hfs
  obtain ⟨af, cf, rfl, _, _, _⟩ := hfs
  obtain ⟨ao, co, rfl, _, _, _⟩ := hout
  have RA := alloc_keep
  obtain ⟨r, hr⟩ : ∃ r, stateErr p s = r := ⟨_, rfl⟩
  rw [hr]
  have HR := Lib.hid hr
  clear hr
  have BX := Lib.hid (⟨Cx.new w [.slice af s.fibers.length cf, .int .i64 s.now, .slice ao s.out.length co] 26 (j := 0) rfl, Cx.new w [.slice af s.fibers.length cf, .int .i64 s.now, .slice ao s.out.length co] 26 (j := 1) rfl, Cx.new w [.slice af s.fibers.length cf, .int .i64 s.now, .slice ao s.out.length co] 26 (j := 2) rfl⟩ : _ ∧ _ ∧ _)
  have HE1 := Lib.hid ((Ext.refl w).alloc (.cells #[.slice af s.fibers.length cf, .int .i64 s.now, .slice ao s.out.length co] 26))
  by_cases hz : progErr p = 0
  · have HZ := Lib.hid hz
    have HR1 : Hid (r = if 5 < s.fibers.length ∨ 30 < s.out.length then 2 else if allK s.fibers.length (framesFew s) = false then 2 else if s.fibers.length = 0 then 5 else if ¬ (-1 ≤ s.now ∧ s.now ≤ (s.fibers.length : Int) - 1) then 3 else if allK s.fibers.length (callersB s) = false then 3 else lineErr p s) := by
      unfold Hid
      rw [← HR.out]
      unfold stateErr
      rw [if_neg (fun h => h hz)]
    have TZ : Hid (progErr p = 0) := hz
    clear hz HR
    go_enter Tryz.func5, Tryz.ntmps5
    go_upto_region 4 with (first
      | (go_at_call 20; (with_reducible refine (progError_any p _ S _ (Funcs.stays (Ext.stays HE1.out) HP.out)).mono ?_); rintro e w2 ⟨rfl, hx2⟩; rw [HZ.out]))
    have HE2 := Lib.hid (HE1.out.trans hx2)
    have BX2 := Lib.hid (⟨BX.out.1.ext hx2, BX.out.2.1.ext hx2, BX.out.2.2.ext hx2⟩ : _ ∧ _ ∧ _)
    obtain ⟨⟨b0, -⟩, ⟨b1, -⟩, ⟨b2, -⟩⟩ := BX2.out
    clear hx2 HE1 BX
    rename World => w2
    by_cases h5 : 5 < s.fibers.length
    · have T5 : decide ((5 : Int) < (s.fibers.length : Int)) = true := decide_eq_true (by omega)
      have HR2 : Hid (r = 2) := by unfold Hid; rw [HR1.out, if_pos (.inl h5)]
      clear h5
      go_wp2_with fail
      go_ret
      exact ⟨by rw [HR2.out]; rfl, HE2.out⟩
    · have T5 : decide ((5 : Int) < (s.fibers.length : Int)) = false := decide_eq_false (by omega)
      have T5n : decide (5 < s.fibers.length) = false := decide_eq_false h5
      by_cases h30 : 30 < s.out.length
      · have T30 : decide ((30 : Int) < (s.out.length : Int)) = true := decide_eq_true (by omega)
        have HR2 : Hid (r = 2) := by unfold Hid; rw [HR1.out, if_pos (.inr h30)]
        clear h30
        go_wp2_with fail
        go_ret
        exact ⟨by rw [HR2.out]; rfl, HE2.out⟩
      · have T30 : decide ((30 : Int) < (s.out.length : Int)) = false := decide_eq_false (by omega)
        have T30n : decide (30 < s.out.length) = false := decide_eq_false h30
        have HR2 : Hid (r = if allK s.fibers.length (framesFew s) = false then 2 else if s.fibers.length = 0 then 5 else if ¬ (-1 ≤ s.now ∧ s.now ≤ (s.fibers.length : Int) - 1) then 3 else if allK s.fibers.length (callersB s) = false then 3 else lineErr p s) := by
          unfold Hid; rw [HR1.out, if_neg (by omega)]
        have h5' : s.fibers.length ≤ 5 := by omega
        clear h30 h5 HR1
        go_upto_region 6 with fail
        clear T5 T5n T30 T30n b0 b1 b2
        go_wp2_with fail
        go_loopw [6] (fun q wr => ∃ k : Nat, k ≤ s.fibers.length ∧ q = .int .i64 k ∧ Ext w2 wr ∧ ∀ i, i < k → framesFew s i = true) (fun q _ => s.fibers.length - (intOf q).toNat)
        case atStart => exact ⟨0, Nat.zero_le _, rfl, Ext.refl _, fun i hi => absurd hi (Nat.not_lt_zero _)⟩
        case round =>
          obtain ⟨k, hk, rfl, hb, hall⟩ := hrel
          have HB := Lib.hid hb
          have HALL := Lib.hid hall
          obtain ⟨⟨b0, -⟩, ⟨b1, -⟩, ⟨b2, -⟩⟩ := (⟨BX2.out.1.ext hb, BX2.out.2.1.ext hb, BX2.out.2.2.ext hb⟩ : _ ∧ _ ∧ _)
          clear hb hall
          by_cases hlt : k < s.fibers.length
          · obtain ⟨bf, of, ag, cg, rfl, x0, x1, _⟩ := (Fibers.stays (Ext.stays (HE2.out.trans HB.out)) HFS.out).at' hlt
            obtain ⟨m, hm⟩ : ∃ m, (s.fibers.getD k default).frames.length = m := ⟨_, rfl⟩
            rw [hm] at x0
            have HM := Lib.hid hm
            clear hm x1
            by_cases h6 : m ≤ 6
            · have T6 : decide ((6 : Int) < (m : Int)) = false := decide_eq_false (by omega)
              have T6n : decide (6 < m) = false := decide_eq_false (by omega)
              have HO : Hid (framesFew s k = true) := by unfold Hid framesFew; rw [HM.out]; exact decide_eq_true h6
              clear h6
              go_wp2_with fail
              go_roundw
              case rel => exact ⟨k + 1, by omega, by go_num, HB.out, fun i hi => by
                by_cases e : i = k
                · rw [e]; exact HO.out
                · exact HALL.out i (by omega)⟩
              case measure => simp [intOf]; omega
            · have T6 : decide ((6 : Int) < (m : Int)) = true := decide_eq_true (by omega)
              have HR3 : Hid (r = 2) := by unfold Hid; rw [HR2.out, if_pos (allK_false hlt (by unfold framesFew; rw [HM.out]; exact decide_eq_false h6))]
              clear h6
              go_wp2_with fail
              go_ret
              exact ⟨by rw [HR3.out]; rfl, HE2.out.trans HB.out⟩
          · obtain rfl : k = s.fibers.length := by omega
            have HR3 : Hid (r = if s.fibers.length = 0 then 5 else if ¬ (-1 ≤ s.now ∧ s.now ≤ (s.fibers.length : Int) - 1) then 3 else if allK s.fibers.length (callersB s) = false then 3 else lineErr p s) := by
              unfold Hid; rw [HR2.out, allK_true HALL.out, if_neg (by decide)]
            have HE3 := Lib.hid (HE2.out.trans HB.out)
            have BX3 := Lib.hid (⟨BX2.out.1.ext HB.out, BX2.out.2.1.ext HB.out, BX2.out.2.2.ext HB.out⟩ : _ ∧ _ ∧ _)
            clear HE2 BX2 HR2 HALL hlt
            rename World => w3
            by_cases h0 : s.fibers.length = 0
            · have T0 : ((s.fibers.length : Int) == 0) = true := by simp [h0]
              have HR4 : Hid (r = 5) := by unfold Hid; rw [HR3.out, if_pos h0]
              clear h0
              go_wp2_with fail
              go_ret
              exact ⟨by rw [HR4.out]; rfl, HE3.out⟩
            · have T0 : ((s.fibers.length : Int) == 0) = false := beq_eq_false_iff_ne.2 (by omega)
              have hpos : 0 < s.fibers.length := by omega
              have KK : IntKind.i64.wrap ((s.fibers.length : Int) - 1) = (s.fibers.length : Int) - 1 := IntWalk.i64_in _ (by omega)
              by_cases hn : -1 ≤ s.now ∧ s.now ≤ (s.fibers.length : Int) - 1
              · have HW1 : Hid (decide (-1 ≤ s.now ∧ s.now ≤ (s.fibers.length : Int) - 1) = true) := decide_eq_true hn
                have HNOW := Lib.hid hn
                have HR4 : Hid (r = if allK s.fibers.length (callersB s) = false then 3 else lineErr p s) := by unfold Hid; rw [HR3.out, if_neg h0, if_neg (fun h => h hn)]
                clear h0 hn HR3
                go_upto_region 15 with (first
                  | (go_at_call 21; (with_reducible refine (within_any _ _ _ _).mono ?_); rintro e w4 ⟨rfl, rfl⟩; rw [HW1.out]))
                go_wp2_with fail
                clear b0 b1 b2
                go_loopw [7] (fun q wr => ∃ k : Nat, k ≤ s.fibers.length ∧ q = .int .i64 k ∧ Ext w3 wr ∧ ∀ i, i < k → callersB s i = true) (fun q _ => s.fibers.length - (intOf q).toNat)
                case atStart => exact ⟨0, Nat.zero_le _, rfl, Ext.refl _, fun i hi => absurd hi (Nat.not_lt_zero _)⟩
                case round =>
                  obtain ⟨k, hk, rfl, hb, hall⟩ := hrel
                  have HB := Lib.hid hb
                  have HALL := Lib.hid hall
                  obtain ⟨⟨b0, -⟩, ⟨b1, -⟩, ⟨b2, -⟩⟩ := (⟨BX3.out.1.ext hb, BX3.out.2.1.ext hb, BX3.out.2.2.ext hb⟩ : _ ∧ _ ∧ _)
                  clear hb hall
                  by_cases hlt : k < s.fibers.length
                  · obtain ⟨bf, of, ag, cg, rfl, x0, x1, _⟩ := (Fibers.stays (Ext.stays (HE3.out.trans HB.out)) HFS.out).at' hlt
                    obtain ⟨m, hm⟩ : ∃ m, (s.fibers.getD k default).caller = m := ⟨_, rfl⟩
                    rw [hm] at x1
                    have HM := Lib.hid hm
                    clear hm x0
                    by_cases h6 : -1 ≤ m ∧ m ≤ (s.fibers.length : Int) - 1
                    · have HW2 : Hid (decide (-1 ≤ m ∧ m ≤ (s.fibers.length : Int) - 1) = true) := decide_eq_true h6
                      have HO : Hid (callersB s k = true) := by unfold Hid callersB; rw [HM.out]; exact decide_eq_true h6
                      clear h6
                      go_upto_region 18 with fail
                      refine wp_region_ext (by kernel_rfl) (by kernel_rfl) ?_
                      repeat (first
                        | go_big_quiet_skip
                        | (go_big_quiet_want
                           unfold Oper.quiet
                           apply Exists.intro
                           refine ⟨fun w' hw' => ?_, ?_⟩
                           focus
                             have hcq := Ext.keep hw'
                             go_simp
                             first
                               | with_reducible rfl
                               | (go_at_call 21; refine (within_any _ _ _ _).mono ?_; rintro e w4 ⟨rfl, rfl⟩; rw [HW2.out]; exact ⟨rfl, hw'⟩)
                           (try dsimp only [Act.put])
                           (try simp only [List.setIfInBounds_toArray, List.set_cons_succ, List.set_cons_zero])
                           go_big_quiet_on))
                      refine wpQuiet_nil ?_
                      intro wq hq
                      go_wp2_with fail
                      go_roundw
                      case rel => exact ⟨k + 1, by omega, by go_num, HB.out.trans hq, fun i hi => by
                        by_cases e : i = k
                        · rw [e]; exact HO.out
                        · exact HALL.out i (by omega)⟩
                      case measure => simp [intOf]; omega
                    · have HW2 : Hid (decide (-1 ≤ m ∧ m ≤ (s.fibers.length : Int) - 1) = false) := decide_eq_false h6
                      have HR5 : Hid (r = 3) := by unfold Hid; rw [HR4.out, if_pos (allK_false hlt (by unfold callersB; rw [HM.out]; exact decide_eq_false h6))]
                      clear h6
                      go_upto_region 18 with fail
                      refine wp_region_ext (by kernel_rfl) (by kernel_rfl) ?_
                      repeat (first
                        | go_big_quiet_skip
                        | (go_big_quiet_want
                           unfold Oper.quiet
                           apply Exists.intro
                           refine ⟨fun w' hw' => ?_, ?_⟩
                           focus
                             have hcq := Ext.keep hw'
                             go_simp
                             first
                               | with_reducible rfl
                               | (go_at_call 21; refine (within_any _ _ _ _).mono ?_; rintro e w4 ⟨rfl, rfl⟩; rw [HW2.out]; exact ⟨rfl, hw'⟩)
                           (try dsimp only [Act.put])
                           (try simp only [List.setIfInBounds_toArray, List.set_cons_succ, List.set_cons_zero])
                           go_big_quiet_on))
                      refine wpQuiet_nil ?_
                      intro wq hq
                      go_wp2_with fail
                      go_ret
                      exact ⟨by rw [HR5.out]; rfl, (HE3.out.trans HB.out).trans hq⟩
                  · obtain rfl : k = s.fibers.length := by omega
                    have HR5 : Hid (r = lineErr p s) := by unfold Hid; rw [HR4.out, allK_true HALL.out, if_neg (by decide)]
                    have HCS : Hid (Callers s) := ⟨HNOW.out, fun k hk => of_decide_eq_true (HALL.out k hk), by omega⟩
                    have HE4 := Lib.hid (HE3.out.trans HB.out)
                    have BX4 := Lib.hid (⟨BX3.out.1.ext HB.out, BX3.out.2.1.ext HB.out, BX3.out.2.2.ext HB.out⟩ : _ ∧ _ ∧ _)
                    clear HE3 BX3 HR4 HALL hlt
                    rename World => w4
                    cases hl : lineS s with
                    | none =>
                      have HL := Lib.hid hl
                      have HR6 : Hid (r = 1) := by unfold Hid; rw [HR5.out]; unfold lineErr; rw [hl]
                      clear hl
                      go_wp2_with (first
                        | (go_at_call 22; (with_reducible refine (lineOf_any s _ _ _ (StateV.stays (Ext.stays HE4.out) HS.out) HCS.out).mono ?_); rintro e w5 ⟨hlr, hx5⟩; unfold LineRet at hlr; rw [HL.out] at hlr; obtain rfl := hlr))
                      go_ret
                      exact ⟨by rw [HR6.out]; rfl, HE4.out.trans hx5⟩
                    | some l =>
                      have HL := Lib.hid hl
                      have HR6 : Hid (r = if lineEnd l = false then 1 else if s.now = -1 ∧ 0 < (s.fibers.getD 0 default).frames.length then 1 else if allK s.fibers.length (fibK p s l) = false then 1 else 0) := by unfold Hid; rw [HR5.out]; unfold lineErr; rw [hl]
                      clear hl HR5
                      go_upto_region 21 with (first
                        | (go_at_call 22; (with_reducible refine (lineOf_any s _ _ _ (StateV.stays (Ext.stays HE4.out) HS.out) HCS.out).mono ?_); rintro e w5 ⟨hlr, hx5⟩; unfold LineRet at hlr; rw [HL.out] at hlr; obtain ⟨al, cl, rfl, hline⟩ := hlr))
                      have HLINE := Lib.hid hline
                      have HE5 := Lib.hid (HE4.out.trans hx5)
                      have BX5 := Lib.hid (⟨BX4.out.1.ext hx5, BX4.out.2.1.ext hx5, BX4.out.2.2.ext hx5⟩ : _ ∧ _ ∧ _)
                      clear HE4 BX4 hx5 hline b0 b1 b2
                      rename World => w5
                      obtain ⟨⟨b0, -⟩, ⟨b1, -⟩, ⟨b2, -⟩⟩ := BX5.out
                      cases hle : lineEnd l with
                      | false =>
                        have HR7 : Hid (r = 1) := by unfold Hid; rw [HR6.out, if_pos hle]
                        clear hle
                        go_wp2_with fail
                        go_ret
                        exact ⟨by rw [HR7.out]; rfl, HE5.out⟩
                      | true =>
                        have HR7 : Hid (r = if s.now = -1 ∧ 0 < (s.fibers.getD 0 default).frames.length then 1 else if allK s.fibers.length (fibK p s l) = false then 1 else 0) := by unfold Hid; rw [HR6.out, if_neg (by rw [hle]; decide)]
                        clear hle HR6
                        obtain ⟨bf, of, ag, cg, rfl, x0, x1, _⟩ := (Fibers.stays (Ext.stays HE5.out) HFS.out).at' hpos
                        rw [Nat.zero_mul, Nat.add_zero] at x0
                        obtain ⟨m, hm⟩ : ∃ m, (s.fibers.getD 0 default).frames.length = m := ⟨_, rfl⟩
                        rw [hm] at x0 HR7
                        have HM := Lib.hid hm
                        clear hm x1
                        by_cases hbad : s.now = -1 ∧ 0 < m
                        · have T1 : (s.now == -1) = true := by simp [hbad.1]
                          have T2 : decide ((0 : Int) < (m : Int)) = true := decide_eq_true (by omega)
                          have T2n : decide (0 < m) = true := decide_eq_true hbad.2
                          have HR8 : Hid (r = 1) := by unfold Hid; rw [HR7.out, if_pos hbad]
                          clear hbad
                          go_wp2_with fail
                          go_ret
                          exact ⟨by rw [HR8.out]; rfl, HE5.out⟩
                        · have HR8 : Hid (r = if allK s.fibers.length (fibK p s l) = false then 1 else 0) := by unfold Hid; rw [HR7.out, if_neg hbad]
                          go_cut [92] (fun v9 wx => v9 = .bool false ∧ w5 = wx)
                          case first =>
                            by_cases h1 : s.now = -1
                            · have T1 : (s.now == -1) = true := by simp [h1]
                              have T2 : decide ((0 : Int) < (m : Int)) = false := decide_eq_false (by omega)
                              have T2n : decide (0 < m) = false := decide_eq_false (by omega)
                              clear hbad h1
                              go_wp2_with fail
                              go_meet
                              exact ⟨rfl, rfl⟩
                            · have T1 : (s.now == -1) = false := beq_eq_false_iff_ne.2 h1
                              clear hbad h1
                              go_wp2_with fail
                              go_meet
                              exact ⟨rfl, rfl⟩
                          case rest =>
                            obtain ⟨rfl, rfl⟩ := hcut
                            obtain ⟨hh, hhe⟩ : ∃ hh, decide ((0 : Int) ∈ l) = hh := ⟨_, rfl⟩
                            have HH := Lib.hid hhe
                            clear hbad hhe HR7 b0 b1 b2 x0
                            go_wp2_with fail
                            go_loopw [10] (fun q wr => ∃ k : Nat, k ≤ s.fibers.length ∧ q = .int .i64 k ∧ Ext w5 wr ∧ ∀ i, i < k → fibK p s l i = true) (fun q _ => s.fibers.length - (intOf q).toNat)
                            case atStart => exact ⟨0, Nat.zero_le _, rfl, Ext.refl _, fun i hi => absurd hi (Nat.not_lt_zero _)⟩
                            case round =>
                              obtain ⟨k, hk, rfl, hb, hall⟩ := hrel
                              have HB := Lib.hid hb
                              have HALL := Lib.hid hall
                              obtain ⟨⟨b0, -⟩, ⟨b1, -⟩, ⟨b2, -⟩⟩ := (⟨BX5.out.1.ext hb, BX5.out.2.1.ext hb, BX5.out.2.2.ext hb⟩ : _ ∧ _ ∧ _)
                              clear hb hall
                              by_cases hlt : k < s.fibers.length
                              · obtain ⟨bg, og, a0, c0, e0, z0, _, _⟩ := (Fibers.stays (Ext.stays (HE5.out.trans HB.out)) HFS.out).at' hpos
                                simp only [Option.some.injEq, Addr.mk.injEq, and_true] at e0
                                obtain ⟨rfl, rfl⟩ := e0
                                rw [Nat.zero_mul, Nat.add_zero, HM.out] at z0
                                obtain ⟨bg, og, a2, c2, e2, y0, y1, hfv⟩ := (Fibers.stays (Ext.stays (HE5.out.trans HB.out)) HFS.out).at' hlt
                                simp only [Option.some.injEq, Addr.mk.injEq, and_true] at e2
                                obtain ⟨rfl, rfl⟩ := e2
                                have HFV := Lib.hid hfv
                                have TE : decide ((k : Int) = s.now) = ((k : Int) == s.now) := by rw [Bool.eq_iff_iff]; simp
                                obtain ⟨on, hon⟩ : ∃ on, decide ((k : Int) ∈ l) = on := ⟨_, rfl⟩
                                have HON := Lib.hid hon
                                obtain ⟨runs, hruns⟩ : ∃ runs, ((k : Int) == s.now) = runs := ⟨_, rfl⟩
                                have HKD : Hid (fibK p s l k = (fiberB p (s.fibers.getD k default) on runs && !(decide (k = 0) && !hh && decide (0 < m)))) := by
                                  unfold Hid fibK
                                  rw [hon, TE, hruns, HH.out, HM.out]
                                clear hon TE hfv
                                generalize s.fibers.getD k default = f at *
                                cases hf : fiberB p f on runs with
                                | false =>
                                  have HF := Lib.hid hf
                                  have HK : Hid (fibK p s l k = false) := by unfold Hid; rw [HKD.out, hf]; rfl
                                  clear hf
                                  have HR9 : Hid (r = 1) := by unfold Hid; rw [HR8.out, if_pos (allK_false hlt HK.out)]
                                  go_upto_region 26 with fail
                                  refine wp_region_ext (by kernel_rfl) (by kernel_rfl) ?_
                                  repeat (first
                                    | go_big_quiet_skip
                                    | (go_big_quiet_want
                                       unfold Oper.quiet
                                       apply Exists.intro
                                       refine ⟨fun w' hw' => ?_, ?_⟩
                                       focus
                                         have hcq := Ext.keep hw'
                                         go_simp
                                         first
                                           | with_reducible rfl
                                           | (go_at_call 24; refine (has_any l _ _ _ _ (Ints.stays (Ext.stays (HB.out.trans hw')) HLINE.out)).mono ?_; rintro e w7 ⟨rfl, hx7⟩; first | (rw [HH.out]; exact ⟨rfl, hw'.trans hx7⟩) | (rw [HON.out]; exact ⟨rfl, hw'.trans hx7⟩)) | (go_at_call 23; refine (fiberFine_any p _ _ _ f _ on _ _ (Funcs.stays (Ext.stays ((HE5.out.trans HB.out).trans hw')) HP.out) HZ.out (FiberV.stays (Ext.stays hw') HFV.out)).mono ?_; rintro e w7 ⟨rfl, hx7⟩; rw [HF.out]; exact ⟨rfl, hw'.trans hx7⟩)
                                       (try dsimp only [Act.put])
                                       (try simp only [List.setIfInBounds_toArray, List.set_cons_succ, List.set_cons_zero])
                                       go_big_quiet_on))
                                  refine wpQuiet_nil ?_
                                  intro wq hq
                                  go_wp2_with fail
                                  go_ret
                                  exact ⟨by rw [HR9.out]; rfl, (HE5.out.trans HB.out).trans hq⟩
                                | true =>
                                  have HF := Lib.hid hf
                                  have HKD2 : Hid (fibK p s l k = !(decide (k = 0) && !hh && decide (0 < m))) := by unfold Hid; rw [HKD.out, hf, Bool.true_and]
                                  clear hf
                                  by_cases hk0 : k = 0
                                  · have T0 : ((k : Int) == 0) = true := by simp [hk0]
                                    have HKD3 : Hid (fibK p s l k = !(!hh && decide (0 < m))) := by unfold Hid; rw [HKD2.out, decide_eq_true hk0, Bool.true_and]
                                    clear hk0
                                    cases hh with
                                    | true =>
                                      have HK : Hid (fibK p s l k = true) := by unfold Hid; rw [HKD3.out]; rfl
                                      go_upto_region 26 with fail
                                      refine wp_region_ext (by kernel_rfl) (by kernel_rfl) ?_
                                      repeat (first
                                        | go_big_quiet_skip
                                        | (go_big_quiet_want
                                           unfold Oper.quiet
                                           apply Exists.intro
                                           refine ⟨fun w' hw' => ?_, ?_⟩
                                           focus
                                             have hcq := Ext.keep hw'
                                             go_simp
                                             first
                                               | with_reducible rfl
                                               | (go_at_call 24; refine (has_any l _ _ _ _ (Ints.stays (Ext.stays (HB.out.trans hw')) HLINE.out)).mono ?_; rintro e w7 ⟨rfl, hx7⟩; first | (rw [HH.out]; exact ⟨rfl, hw'.trans hx7⟩) | (rw [HON.out]; exact ⟨rfl, hw'.trans hx7⟩)) | (go_at_call 23; refine (fiberFine_any p _ _ _ f _ on _ _ (Funcs.stays (Ext.stays ((HE5.out.trans HB.out).trans hw')) HP.out) HZ.out (FiberV.stays (Ext.stays hw') HFV.out)).mono ?_; rintro e w7 ⟨rfl, hx7⟩; rw [HF.out]; exact ⟨rfl, hw'.trans hx7⟩)
                                           (try dsimp only [Act.put])
                                           (try simp only [List.setIfInBounds_toArray, List.set_cons_succ, List.set_cons_zero])
                                           go_big_quiet_on))
                                      refine wpQuiet_nil ?_
                                      intro wq hq
                                      go_wp2_with fail
                                      go_roundw
                                      case rel => exact ⟨k + 1, by omega, by go_num, HB.out.trans hq, fun i hi => by
                                        by_cases e : i = k
                                        · rw [e]; exact HK.out
                                        · exact HALL.out i (by omega)⟩
                                      case measure => simp [intOf]; omega
                                    | false =>
                                      by_cases hm0 : 0 < m
                                      · have T3 : decide ((0 : Int) < (m : Int)) = true := decide_eq_true (by omega)
                                        have T3n : decide (0 < m) = true := decide_eq_true hm0
                                        have HK : Hid (fibK p s l k = false) := by unfold Hid; rw [HKD3.out, T3n]; rfl
                                        clear hm0
                                        have HR9 : Hid (r = 1) := by unfold Hid; rw [HR8.out, if_pos (allK_false hlt HK.out)]
                                        go_upto_region 26 with fail
                                        refine wp_region_ext (by kernel_rfl) (by kernel_rfl) ?_
                                        repeat (first
                                          | go_big_quiet_skip
                                          | (go_big_quiet_want
                                             unfold Oper.quiet
                                             apply Exists.intro
                                             refine ⟨fun w' hw' => ?_, ?_⟩
                                             focus
                                               have hcq := Ext.keep hw'
                                               go_simp
                                               first
                                                 | with_reducible rfl
                                                 | (go_at_call 24; refine (has_any l _ _ _ _ (Ints.stays (Ext.stays (HB.out.trans hw')) HLINE.out)).mono ?_; rintro e w7 ⟨rfl, hx7⟩; first | (rw [HH.out]; exact ⟨rfl, hw'.trans hx7⟩) | (rw [HON.out]; exact ⟨rfl, hw'.trans hx7⟩)) | (go_at_call 23; refine (fiberFine_any p _ _ _ f _ on _ _ (Funcs.stays (Ext.stays ((HE5.out.trans HB.out).trans hw')) HP.out) HZ.out (FiberV.stays (Ext.stays hw') HFV.out)).mono ?_; rintro e w7 ⟨rfl, hx7⟩; rw [HF.out]; exact ⟨rfl, hw'.trans hx7⟩)
                                             (try dsimp only [Act.put])
                                             (try simp only [List.setIfInBounds_toArray, List.set_cons_succ, List.set_cons_zero])
                                             go_big_quiet_on))
                                        refine wpQuiet_nil ?_
                                        intro wq hq
                                        go_wp2_with fail
                                        go_ret
                                        exact ⟨by rw [HR9.out]; rfl, (HE5.out.trans HB.out).trans hq⟩
                                      · have T3 : decide ((0 : Int) < (m : Int)) = false := decide_eq_false (by omega)
                                        have T3n : decide (0 < m) = false := decide_eq_false hm0
                                        have HK : Hid (fibK p s l k = true) := by unfold Hid; rw [HKD3.out, T3n]; rfl
                                        clear hm0
                                        go_upto_region 26 with fail
                                        refine wp_region_ext (by kernel_rfl) (by kernel_rfl) ?_
                                        repeat (first
                                          | go_big_quiet_skip
                                          | (go_big_quiet_want
                                             unfold Oper.quiet
                                             apply Exists.intro
                                             refine ⟨fun w' hw' => ?_, ?_⟩
                                             focus
                                               have hcq := Ext.keep hw'
                                               go_simp
                                               first
                                                 | with_reducible rfl
                                                 | (go_at_call 24; refine (has_any l _ _ _ _ (Ints.stays (Ext.stays (HB.out.trans hw')) HLINE.out)).mono ?_; rintro e w7 ⟨rfl, hx7⟩; first | (rw [HH.out]; exact ⟨rfl, hw'.trans hx7⟩) | (rw [HON.out]; exact ⟨rfl, hw'.trans hx7⟩)) | (go_at_call 23; refine (fiberFine_any p _ _ _ f _ on _ _ (Funcs.stays (Ext.stays ((HE5.out.trans HB.out).trans hw')) HP.out) HZ.out (FiberV.stays (Ext.stays hw') HFV.out)).mono ?_; rintro e w7 ⟨rfl, hx7⟩; rw [HF.out]; exact ⟨rfl, hw'.trans hx7⟩)
                                             (try dsimp only [Act.put])
                                             (try simp only [List.setIfInBounds_toArray, List.set_cons_succ, List.set_cons_zero])
                                             go_big_quiet_on))
                                        refine wpQuiet_nil ?_
                                        intro wq hq
                                        go_wp2_with fail
                                        go_roundw
                                        case rel => exact ⟨k + 1, by omega, by go_num, HB.out.trans hq, fun i hi => by
                                          by_cases e : i = k
                                          · rw [e]; exact HK.out
                                          · exact HALL.out i (by omega)⟩
                                        case measure => simp [intOf]; omega
                                  · have T0 : ((k : Int) == 0) = false := beq_eq_false_iff_ne.2 (by omega)
                                    have HK : Hid (fibK p s l k = true) := by unfold Hid; rw [HKD2.out, decide_eq_false hk0]; rfl
                                    clear hk0
                                    go_upto_region 26 with fail
                                    refine wp_region_ext (by kernel_rfl) (by kernel_rfl) ?_
                                    repeat (first
                                      | go_big_quiet_skip
                                      | (go_big_quiet_want
                                         unfold Oper.quiet
                                         apply Exists.intro
                                         refine ⟨fun w' hw' => ?_, ?_⟩
                                         focus
                                           have hcq := Ext.keep hw'
                                           go_simp
                                           first
                                             | with_reducible rfl
                                             | (go_at_call 24; refine (has_any l _ _ _ _ (Ints.stays (Ext.stays (HB.out.trans hw')) HLINE.out)).mono ?_; rintro e w7 ⟨rfl, hx7⟩; first | (rw [HH.out]; exact ⟨rfl, hw'.trans hx7⟩) | (rw [HON.out]; exact ⟨rfl, hw'.trans hx7⟩)) | (go_at_call 23; refine (fiberFine_any p _ _ _ f _ on _ _ (Funcs.stays (Ext.stays ((HE5.out.trans HB.out).trans hw')) HP.out) HZ.out (FiberV.stays (Ext.stays hw') HFV.out)).mono ?_; rintro e w7 ⟨rfl, hx7⟩; rw [HF.out]; exact ⟨rfl, hw'.trans hx7⟩)
                                         (try dsimp only [Act.put])
                                         (try simp only [List.setIfInBounds_toArray, List.set_cons_succ, List.set_cons_zero])
                                         go_big_quiet_on))
                                    refine wpQuiet_nil ?_
                                    intro wq hq
                                    go_wp2_with fail
                                    go_roundw
                                    case rel => exact ⟨k + 1, by omega, by go_num, HB.out.trans hq, fun i hi => by
                                      by_cases e : i = k
                                      · rw [e]; exact HK.out
                                      · exact HALL.out i (by omega)⟩
                                    case measure => simp [intOf]; omega
                              · obtain rfl : k = s.fibers.length := by omega
                                have HR9 : Hid (r = 0) := by unfold Hid; rw [HR8.out, allK_true HALL.out, if_neg (by decide)]
                                clear hlt
                                go_wp2_with fail
                                go_ret
                                exact ⟨by rw [HR9.out]; rfl, HE5.out.trans HB.out⟩
              · have HW1 : Hid (decide (-1 ≤ s.now ∧ s.now ≤ (s.fibers.length : Int) - 1) = false) := decide_eq_false hn
                have HR4 : Hid (r = 3) := by unfold Hid; rw [HR3.out, if_neg h0, if_pos hn]
                clear h0 hn HR3
                go_wp2_with (first
                  | (go_at_call 21; (with_reducible refine (within_any _ _ _ _).mono ?_); rintro e w4 ⟨rfl, rfl⟩; rw [HW1.out]))
                go_ret
                exact ⟨by rw [HR4.out]; rfl, HE3.out⟩
  · have HR1 : Hid (r = progErr p) := by unfold Hid; rw [← HR.out]; unfold stateErr; rw [if_pos hz]
    obtain ⟨q, hq⟩ : ∃ q, progErr p = q := ⟨_, rfl⟩
    rw [hq] at hz HR1
    have HQ := Lib.hid hq
    have TB : (q != 0) = true := bne_iff_ne.2 hz
    clear hz hq HR
    go_enter Tryz.func5, Tryz.ntmps5
    go_wp2_with (first
      | (go_at_call 20; (with_reducible refine (progError_any p _ S _ (Funcs.stays (Ext.stays HE1.out) HP.out)).mono ?_); rintro e w2 ⟨rfl, hx2⟩; rw [HQ.out]))
    go_ret
    exact ⟨by rw [HR1.out]; rfl, HE1.out.trans hx2⟩
end Go.Proofs.YtgahbngbpfilgaaGreat
end
section
set_option maxHeartbeats 4000000
set_option maxRecDepth 100000
namespace Go.Proofs.YtgahbngbpfilgaaGreat
open Go Go.RowKit
structure OwnR (W : World) (B : Nat) (P : PState) : Prop where
 i : I64 P.now ∧ ∀ n ∈ P.out, I64 n
 row : RowAt W B 2 P.vfs P.fs.length (P.fs.flatMap fiberF)
 out : RowAt W B 1 P.vo P.out.length (ints P.out)
 fs : ∀ y ∈ P.fs, FiberO W B y
 few : P.fs.length ≤ 1000 ∧ P.out.length ≤ 1000
 nodup : P.bl.Nodup
theorem OwnS.rows {W : World} {B b : Nat} {P : PState} (h : OwnS W B b P) : OwnR W B P := ⟨h.i, h.row, h.out, h.fs, h.few, (List.nodup_cons.1 h.nodup).2⟩
theorem OwnR.ext {W W' : World} {B : Nat} {P : PState} (h : OwnR W B P) (he : Ext W W') : OwnR W' B P :=
 ⟨h.i, h.row.ext he (by decide), h.out.ext he (by decide), fun y hy => (h.fs y hy).chg (M := fun _ => False) (Chg.of_ext he) (fun _ _ h => h), h.few, h.nodup⟩
theorem FrameO.mono {W : World} {B B' : Nat} {x : PFrame} (h : FrameO W B x) (hb : B' ≤ B) : FrameO W B' x := ⟨h.i, h.l.mono hb, h.s.mono hb, h.few⟩
theorem FiberO.mono {W : World} {B B' : Nat} {y : PFiber} (h : FiberO W B y) (hb : B' ≤ B) : FiberO W B' y := ⟨h.i, h.row.mono hb, fun x hx => (h.fr x hx).mono hb, h.few⟩
theorem OwnR.mono {W : World} {B B' : Nat} {P : PState} (h : OwnR W B P) (hb : B' ≤ B) : OwnR W B' P := ⟨h.i, h.row.mono hb, h.out.mono hb, fun y hy => (h.fs y hy).mono hb, h.few, h.nodup⟩
theorem OwnR.lt {W : World} {B : Nat} {P : PState} (h : OwnR W B P) : ∀ g ∈ P.bl, g < W.heap.size := by
 intro g hg
 unfold PState.bl at hg
 rcases List.mem_append.1 hg with h1 | h1
 ·rcases List.mem_append.1 h1 with h2 | h2
  ·exact h.row.lt2 (by decide) g (by simpa using h2)
  ·exact h.out.lt2 (by decide) g (by simpa using h2)
 ·obtain ⟨y, hy, h2⟩ := List.mem_flatMap.1 h1
  exact (h.fs y hy).lt g h2
theorem OwnR.box {W : World} {B b : Nat} {P : PState} (h : OwnR W B P) (c0 : Cx W b 0 P.vfs) (c1 : Cx W b 1 (.int .i64 P.now)) (c2 : Cx W b 2 P.vo) (hb : B ≤ b) (hn : b ∉ P.bl) : OwnS W B b P :=
 ⟨c0, c1, c2, h.i, h.row, h.out, h.fs, hb, h.few, List.nodup_cons.2 ⟨hn, h.nodup⟩⟩
theorem Ints.srcI {w : World} {S : Nat → Prop} {v : Value} {l : List Int} (h : Ints w S v l) : SrcSl w 1 v l.length (ints l) := by have := h.src; rwa [flatMap_intF] at this
theorem SrcSl.up {w w' : World} {size : Nat} {x : Value} {m : Nat} {news : List Value} (h : SrcSl w size x m news) (he : Ext w w') : SrcSl w' size x m news := by
 obtain ⟨a, c, rfl, h1, h2, h3⟩ := h
 refine ⟨a, c, rfl, h1, h2, h3.imp id fun ⟨ad, ha, hc⟩ => ⟨ad, ha, fun j u hj => ?_⟩⟩
 have hcj := hc j u hj
 rw [Ext.keep he _ (by rw [hcj]; rfl)]
 exact hcj
theorem rv_ext {W W' : World} {base size n : Nat} {a : Option Addr} {v' : Value} {xs : List Value} (h : NewRow W W' base size (.slice a 0 0) v' n xs) : Ext W W' := h.2.1.ext (fun k _ e => by cases a <;> simp [rowBlock] at e)
theorem out_box {w1 Wb Wv : World} {base n bo : Nat} {a : Option Addr} {v1 u0 u1 u2 : Value} {xs : List Value} (hE : Ext w1 Wb) (hb : w1.heap.size ≤ bo) (hbo : bo < Wb.heap.size) (hRV : NewRow Wb Wv base 1 (.slice a 0 0) v1 n xs) (q0 : Cx Wv bo 0 u0) (q1 : Cx Wv bo 1 u1) (q2 : Cx Wv bo 2 u2) (x y z : Value) :
  Ext w1 (((Wv.setCell ⟨bo, 0, none⟩ x).setCell ⟨bo, 1, none⟩ y).setCell ⟨bo, 2, none⟩ z) ∧ RowAt (((Wv.setCell ⟨bo, 0, none⟩ x).setCell ⟨bo, 1, none⟩ y).setCell ⟨bo, 2, none⟩ z) base 1 v1 n xs ∧ rowBlock v1 ≠ some bo ∧
   Cx (((Wv.setCell ⟨bo, 0, none⟩ x).setCell ⟨bo, 1, none⟩ y).setCell ⟨bo, 2, none⟩ z) bo 0 x ∧ Cx (((Wv.setCell ⟨bo, 0, none⟩ x).setCell ⟨bo, 1, none⟩ y).setCell ⟨bo, 2, none⟩ z) bo 1 y ∧ Cx (((Wv.setCell ⟨bo, 0, none⟩ x).setCell ⟨bo, 1, none⟩ y).setCell ⟨bo, 2, none⟩ z) bo 2 z := by
 have hne : rowBlock v1 ≠ some bo := fun e => by
  rcases hRV.2.2 with h1 | h1
  ·rw [h1] at e; cases a <;> simp [rowBlock] at e
  ·have := h1 bo e; omega
 exact ⟨(((hE.trans (rv_ext hRV)).setCell (p := ⟨bo, 0, none⟩) hb _).setCell (p := ⟨bo, 1, none⟩) hb _).setCell (p := ⟨bo, 2, none⟩) hb _,
  hRV.1.chg (chg3 Wv bo x y z) (fun k hk e => hne (by rw [hk]; exact congrArg some e)) (by decide), hne,
  ((q0.set x).other (.inr (by decide)) y).other (.inr (by decide)) z, ((q1.other (.inr (by decide)) x).set y).other (.inr (by decide)) z, ((q2.other (.inr (by decide)) x).other (.inr (by decide)) y).set z⟩
structure BuildF (W : World) (base f5 : Nat) (Y : PFiber) : Prop where
 fo : FiberO W base Y
 nodup : Y.bl.Nodup
 c0 : Cx W f5 0 Y.vf
 c1 : Cx W f5 1 (.int .i64 Y.caller)
theorem cells5_chg {M : Nat → Prop} {W W' : World} {f5 x7 : Nat} {u v0 v1 v2 v3 : Value} (h : W.cell? ⟨f5, 0, none⟩ = some u ∧ W.cell? ⟨x7, 0, none⟩ = some v0 ∧ W.cell? ⟨x7, 1, none⟩ = some v1 ∧ W.cell? ⟨x7, 2, none⟩ = some v2 ∧ W.cell? ⟨x7, 3, none⟩ = some v3) (hc : Chg M W W') (h5 : ¬ M f5) (h7 : ¬ M x7) :
  W'.cell? ⟨f5, 0, none⟩ = some u ∧ W'.cell? ⟨x7, 0, none⟩ = some v0 ∧ W'.cell? ⟨x7, 1, none⟩ = some v1 ∧ W'.cell? ⟨x7, 2, none⟩ = some v2 ∧ W'.cell? ⟨x7, 3, none⟩ = some v3 :=
 ⟨Chg.cell hc h5 h.1, Chg.cell hc h7 h.2.1, Chg.cell hc h7 h.2.2.1, Chg.cell hc h7 h.2.2.2.1, Chg.cell hc h7 h.2.2.2.2⟩
theorem fresh_row {W W0 W' : World} {base size n : Nat} {a : Option Addr} {v' : Value} {xs : List Value} (h : NewRow W W' base size (.slice a 0 0) v' n xs) (he : Ext W0 W) : ∀ k, rowBlock v' = some k → W0.heap.size ≤ k := fun k hk => by
 rcases h.2.2 with h1 | h1
 ·rw [h1] at hk; cases a <;> simp [rowBlock] at hk
 ·exact Nat.le_trans he.size (h1 k hk)
theorem frame_g {Y : PFiber} {X : PFrame} {l : List GFrame} {c : Int} {v : Value} (h : Y.g = ⟨l, c⟩) : PFiber.g ⟨Y.fr ++ [X], Y.caller, v⟩ = ⟨l ++ [X.f], c⟩ := by
 unfold PFiber.g at h ⊢
 simp only [GFiber.mk.injEq] at h ⊢
 obtain ⟨h1, h2⟩ := h
 exact ⟨by rw [List.map_append, h1]; rfl, h2⟩
theorem fin_ext {wk wr W2 Wv3 : World} {f5 n m : Nat} {v v3 : Value} {xs ys : List Value} (hrow : RowAt wr (f5 + 1) 4 v m ys) (h0 : Ext wk wr) (hE : Ext wr W2) (hb : wk.heap.size = f5) (hR : NewRow W2 Wv3 (f5 + 1) 4 v v3 n xs) : Ext wk (Wv3.setCell ⟨f5, 0, none⟩ v3) :=
 (Chg.ext_from (h0.trans hE) hR.2.1 (fun k hk => by have := hrow.le k hk; omega)).setCell (p := ⟨f5, 0, none⟩) (Nat.le_of_eq hb) _
theorem BuildF.ge {W : World} {base f5 : Nat} {Y : PFiber} (h : BuildF W base f5 Y) : ∀ k ∈ Y.bl, base ≤ k := fun k hk => by
 unfold PFiber.bl at hk
 rcases List.mem_append.1 hk with h1 | h1
 ·exact h.fo.row.le k (by simpa using h1)
 ·obtain ⟨x, hx, h2⟩ := List.mem_flatMap.1 h1
  unfold PFrame.bl at h2
  rcases List.mem_append.1 h2 with h3 | h3
  ·exact (h.fo.fr x hx).l.le k (by simpa using h3)
  ·exact (h.fo.fr x hx).s.le k (by simpa using h3)
theorem frame_fin {wr wx Wv1 Wv2 Wv3 : World} {base f5 : Nat} {Y : PFiber} {xf : GFrame} {v1 v2 v3 : Value} {tf : TypeId} (h : BuildF wr base f5 Y) (hE : Ext wr wx) (hE2 : Ext wx Wv2) (hE12 : Ext Wv1 Wv2) (hf5 : f5 < base)
  (hr1 : RowAt Wv1 base 1 v1 xf.locals.length (ints xf.locals)) (hr2 : RowAt Wv2 base 1 v2 xf.stack.length (ints xf.stack)) (hb1 : ∀ k, rowBlock v1 = some k → wx.heap.size ≤ k) (hb2 : ∀ k, rowBlock v2 = some k → wx.heap.size ≤ k) (hb12 : ∀ k, rowBlock v2 = some k → Wv1.heap.size ≤ k)
  (hI : I64 xf.func ∧ I64 xf.at_ ∧ (∀ n ∈ xf.locals, I64 n) ∧ ∀ n ∈ xf.stack, I64 n) (hl : xf.locals.length ≤ 900) (hs : xf.stack.length ≤ 900)
  (hR : NewRow (Wv2.alloc (.cells #[.int .i64 xf.func, .int .i64 xf.at_, v1, v2] tf)) Wv3 base 4 Y.vf v3 (Y.fr.length + 1) (Y.fr.flatMap frameF ++ [.int .i64 xf.func, .int .i64 xf.at_, v1, v2])) (hlen : Y.fr.length < 1000) :
  BuildF (Wv3.setCell ⟨f5, 0, none⟩ v3) base f5 ⟨Y.fr ++ [⟨xf, v1, v2⟩], Y.caller, v3⟩ := by
 obtain ⟨r1, r2, r3⟩ := hR
 have hEm : Ext wr (Wv2.alloc (.cells #[.int .i64 xf.func, .int .i64 xf.at_, v1, v2] tf)) := (hE.trans hE2).alloc _
 have hold : ∀ k, rowBlock Y.vf = some k → k < wr.heap.size := h.fo.row.lt2 (by decide)
 have hlt := h.fo.lt
 have hge : ∀ k ∈ Y.bl, base ≤ k := fun k hk => by
  unfold PFiber.bl at hk
  rcases List.mem_append.1 hk with h1 | h1
  ·exact h.fo.row.le k (by simpa using h1)
  ·obtain ⟨x, hx, h2⟩ := List.mem_flatMap.1 h1
   unfold PFrame.bl at h2
   rcases List.mem_append.1 h2 with h3 | h3
   ·exact (h.fo.fr x hx).l.le k (by simpa using h3)
   ·exact (h.fo.fr x hx).s.le k (by simpa using h3)
 have hne12 : ∀ k, rowBlock v1 = some k → rowBlock v2 ≠ some k := fun k h1 h2 => by
  have := hr1.lt2 (by decide) k h1
  have := hb12 k h2
  omega
 have hwx := hE.size
 have hv3 : ∀ k, rowBlock v3 = some k → rowBlock Y.vf = some k ∨ Wv2.heap.size < k := fun k hk => by
  rcases r3 with h1 | h1
  ·exact .inl (h1 ▸ hk)
  ·have := h1 k hk
   simp at this
   exact .inr (by omega)
 have hn3 : rowBlock v3 ≠ some f5 := fun e => by
  rcases hv3 f5 e with h1 | h1
  ·have := h.fo.row.le f5 h1; omega
  ·have h2 := h.c0.lt
   have h3 := hE2.size
   omega
 have hcl := chg_one Wv3 f5 0 v3
 have hXO : FrameO (Wv3.setCell ⟨f5, 0, none⟩ v3) base ⟨xf, v1, v2⟩ := by
  have k1 := hE12.size
  refine ⟨hI, ?_, ?_, ⟨by show xf.locals.length ≤ 1000; omega, by show xf.stack.length ≤ 1000; omega⟩⟩
  ·refine (((hr1.ext hE12 (by decide)).ext ((Ext.refl _).alloc _) (by decide)).chg r2 (fun k hk e => ?_) (by decide)).chg hcl (fun k hk e => ?_) (by decide)
   ·have := hb1 k hk; have := hold k e; omega
   ·have := hr1.le k hk; have : k = f5 := e; omega
  ·refine ((hr2.ext ((Ext.refl _).alloc _) (by decide)).chg r2 (fun k hk e => ?_) (by decide)).chg hcl (fun k hk e => ?_) (by decide)
   ·have := hb2 k hk; have := hold k e; omega
   ·have := hr2.le k hk; have : k = f5 := e; omega
 have hYO : ∀ u ∈ Y.fr, FrameO (Wv3.setCell ⟨f5, 0, none⟩ v3) base u := fun u hu => by
  have hub : ∀ k ∈ u.bl, k ∈ Y.bl ∧ rowBlock Y.vf ≠ some k := fun k hk => by
   have hnd := h.nodup
   unfold PFiber.bl at hnd ⊢
   have h2 : k ∈ Y.fr.flatMap PFrame.bl := List.mem_flatMap.2 ⟨u, hu, hk⟩
   exact ⟨List.mem_append.2 (.inr h2), fun e => (List.nodup_append.1 hnd).2.2 k (by rw [e]; simp) k h2 rfl⟩
  refine (((h.fo.fr u hu).chg (M := fun _ => False) (Chg.of_ext hEm) (fun _ _ h => h)).chg r2 (fun k hk e => (hub k hk).2 e)).chg hcl (fun k hk e => ?_)
  have := hge k (hub k hk).1; have : k = f5 := e; omega
 have hbl : PFiber.bl ⟨Y.fr ++ [⟨xf, v1, v2⟩], Y.caller, v3⟩ = (rowBlock v3).toList ++ (Y.fr.flatMap PFrame.bl ++ ((rowBlock v1).toList ++ (rowBlock v2).toList)) := by unfold PFiber.bl; simp [PFrame.bl]
 refine ⟨⟨h.fo.i, ?_, fun u hu => ?_, ?_⟩, ?_, ?_, ?_⟩
 ·have e : (Y.fr ++ [(⟨xf, v1, v2⟩ : PFrame)]).flatMap frameF = Y.fr.flatMap frameF ++ [.int .i64 xf.func, .int .i64 xf.at_, v1, v2] := by rw [List.flatMap_append]; rfl
  show RowAt _ base 4 v3 (Y.fr ++ [(⟨xf, v1, v2⟩ : PFrame)]).length ((Y.fr ++ [(⟨xf, v1, v2⟩ : PFrame)]).flatMap frameF)
  rw [e, List.length_append, List.length_singleton]
  exact r1.chg hcl (fun k hk e => hn3 (by rw [hk]; exact congrArg some e)) (by decide)
 ·have hu' : u ∈ Y.fr ++ [⟨xf, v1, v2⟩] := hu
  rcases List.mem_append.1 hu' with h1 | h1
  ·exact hYO u h1
  ·rw [List.mem_singleton.1 h1]; exact hXO
 ·show (Y.fr ++ [(⟨xf, v1, v2⟩ : PFrame)]).length ≤ 1000
  rw [List.length_append, List.length_singleton]; omega
 ·rw [hbl]
  have hnd := h.nodup
  unfold PFiber.bl at hnd
  obtain ⟨_, n2, n3⟩ := List.nodup_append.1 hnd
  have hfl : ∀ k ∈ Y.fr.flatMap PFrame.bl, k < wr.heap.size := fun k hk => hlt k (by unfold PFiber.bl; exact List.mem_append.2 (.inr hk))
  have hvv : ∀ k ∈ (rowBlock v1).toList ++ (rowBlock v2).toList, wx.heap.size ≤ k ∧ k < Wv2.heap.size := fun k hk => by
   rcases List.mem_append.1 hk with h1 | h1
   ·have h1' : rowBlock v1 = some k := by simpa using h1
    exact ⟨hb1 k h1', Nat.lt_of_lt_of_le (hr1.lt2 (by decide) k h1') hE12.size⟩
   ·have h1' : rowBlock v2 = some k := by simpa using h1
    exact ⟨hb2 k h1', hr2.lt2 (by decide) k h1'⟩
  rw [List.nodup_append]
  refine ⟨by cases rowBlock v3 <;> simp, ?_, fun a ha c hc e => ?_⟩
  ·rw [List.nodup_append]
   refine ⟨n2, ?_, fun a ha c hc e => ?_⟩
   ·rw [List.nodup_append]
    refine ⟨by cases rowBlock v1 <;> simp, by cases rowBlock v2 <;> simp, fun a ha c hc e => ?_⟩
    subst e
    exact hne12 a (by simpa using ha) (by simpa using hc)
   ·subst e
    have := hfl a ha
    have := (hvv a hc).1
    omega
  ·subst e
   have ha' : rowBlock v3 = some a := by simpa using ha
   rcases List.mem_append.1 hc with h1 | h1
   ·rcases hv3 a ha' with h2 | h2
    ·exact n3 a (by rw [h2]; simp) a h1 rfl
    ·have := hfl a h1
     have := hE2.size
     omega
   ·have h4 := hvv a h1
    rcases hv3 a ha' with h2 | h2
    ·have := hold a h2; omega
    ·omega
 ·exact (((h.c0.ext hEm).chg r2 (fun e => by have := h.fo.row.le f5 e; omega))).set _
 ·exact (((h.c1.ext hEm).chg r2 (fun e => by have := h.fo.row.le f5 e; omega))).other (.inr (by decide)) _
theorem fiber_g {P : PState} {Y : PFiber} {l : List GFiber} {f : GFiber} {n : Int} {out : List Int} {v : Value} (h : P.g = ⟨l, n, out⟩) (hy : Y.g = ⟨f.frames, f.caller⟩) : PState.g { P with fs := P.fs ++ [Y], vfs := v } = ⟨l ++ [f], n, out⟩ := by
 unfold PState.g at h ⊢
 simp only [GState.mk.injEq] at h ⊢
 obtain ⟨h1, h2, h3⟩ := h
 exact ⟨by rw [List.map_append, h1]; simp [hy], h2, h3⟩
theorem fiber_fin {wk wr Wv : World} {B o3 f5 : Nat} {P : PState} {Y : PFiber} {v1 : Value} (h : OwnS wk B o3 P) (hY : BuildF wr (f5 + 1) f5 Y) (hf5 : wk.heap.size = f5) (hE : Ext wk wr) (tb : TypeId)
  (hR : NewRow (wr.alloc (.cells #[Y.vf, .int .i64 Y.caller] tb)) Wv B 2 P.vfs v1 (P.fs.length + 1) (P.fs.flatMap fiberF ++ [Y.vf, .int .i64 Y.caller])) (hl : P.fs.length < 1000) :
  OwnS (Wv.setCell ⟨o3, 0, none⟩ v1) B o3 { P with fs := P.fs ++ [Y], vfs := v1 } := by
 obtain ⟨r1, r2, r3⟩ := hR
 have hold : ∀ k, rowBlock P.vfs = some k → k < wk.heap.size := fun k hk => h.lt k (List.mem_cons_of_mem _ (PState.mem_vfs hk))
 have hEm : Ext wk (wr.alloc (.cells #[Y.vf, .int .i64 Y.caller] tb)) := hE.alloc _
 have hge := hY.ge
 have hlt := hY.fo.lt
 have hB : B ≤ wk.heap.size := Nat.le_trans h.le (Nat.le_of_lt h.c0.lt)
 refine (h.addFiber (y := Y) (v1 := v1) ((Chg.of_ext hEm).trans r2) ?_ ?_ hl (r3.imp id fun e k hk => Nat.le_trans hEm.size (e k hk)) hY.nodup fun k hk => ⟨by have := hge k hk; omega, fun e => ?_⟩).1
 ·rw [List.length_append, List.length_singleton, List.flatMap_append]; exact r1
 ·refine ((hY.fo.mono (by omega)).chg (M := fun _ => False) (Chg.of_ext ((Ext.refl wr).alloc _)) (fun _ _ h => h)).chg r2 (fun k hk e => ?_)
  have := hold k e
  have := hge k hk
  omega
 ·rcases r3 with h1 | h1
  ·have := hold k (h1 ▸ e)
   have := hge k hk
   omega
  ·have h2 := h1 k e
   have h3 := hlt k hk
   simp at h2
   omega
theorem ownState_any (s : GState) (vs : Value) (T : Nat → Prop) (w : World) (hs : StateV w T vs s) (hf : FewS s) :
  Calls Tryz.prog 7 #[vs] w fun e w' => (∃ P, e = .returned (.agg #[P.vfs, .int .i64 P.now, P.vo]) ∧ OwnR w' w.heap.size P ∧ P.g = s) ∧ Ext w w' := by
 obtain ⟨fs, nw, out⟩ := s
 have HSV := Lib.hid hs
 obtain ⟨xf, xo, rfl, hfs, inow, ho⟩ := hs
 have hIO := ho.i64
 have HFS := Lib.hid hfs
 have HO := Lib.hid ho
 obtain ⟨af, cf, rfl, hcf, hbf, _⟩ := hfs
 obtain ⟨ao, co, rfl, hco, hbo, _⟩ := ho
 obtain ⟨i0, hi0, hz0, hz1, hz2⟩ := info_parts infoI
 obtain ⟨i1, hi1, hz3, hz4, hz5⟩ := info_parts infoFr
 obtain ⟨i2, hi2, hz6, hz7, hz8⟩ := info_parts infoFb
 have RA := alloc_keep
 obtain ⟨hf1, hf2, hf3⟩ := hf
 have hf1 : fs.length ≤ 900 := hf1
 have hf2 : out.length ≤ 900 := hf2
 have hf3 : ∀ f ∈ fs, FewF f := hf3
 have HF3 := Lib.hid hf3
 clear hf3
 go_enter Tryz.func7, Tryz.ntmps7
 go_upto_region 1 with fail
 have HSRC := Lib.hid (HO.out).srcI
 have s1 : ((w.alloc (.cells #[.slice af fs.length cf, .int .i64 nw, .slice ao out.length co] 26)).alloc (.cells #[.slice none 0 0, .int .i64 0, .slice none 0 0] 26)).cell? ⟨w.heap.size, 1, none⟩ = some (.int .i64 nw) := by simp
 have s2 : ((w.alloc (.cells #[.slice af fs.length cf, .int .i64 nw, .slice ao out.length co] 26)).alloc (.cells #[.slice none 0 0, .int .i64 0, .slice none 0 0] 26)).cell? ⟨w.heap.size, 2, none⟩ = some (.slice ao out.length co) := by simp
 have hE1 : Ext w ((w.alloc (.cells #[.slice af fs.length cf, .int .i64 nw, .slice ao out.length co] 26)).alloc (.cells #[.slice none 0 0, .int .i64 0, .slice none 0 0] 26)) := by ((repeat (first | assumption | exact Ext.refl _ | (exact And.left (by assumption)) | refine Ext.alloc ?_ _ | refine Ext.drew ?_ | refine Ext.drewN ?_ _ | refine Ext.setCell ?_ (by simp) _ | refine Ext.setCell ?_ (by simp; omega) _ | refine Ext.trans ?_ (by assumption))); done)
 have s0 : ((w.alloc (.cells #[.slice af fs.length cf, .int .i64 nw, .slice ao out.length co] 26)).alloc (.cells #[.slice none 0 0, .int .i64 0, .slice none 0 0] 26)).cell? ⟨w.heap.size, 0, none⟩ = some (.slice af fs.length cf) := by simp
 have hbs : w.heap.size + 2 ≤ ((w.alloc (.cells #[.slice af fs.length cf, .int .i64 nw, .slice ao out.length co] 26)).alloc (.cells #[.slice none 0 0, .int .i64 0, .slice none 0 0] 26)).heap.size := by simp
 have hs0 : (w.alloc (.cells #[.slice af fs.length cf, .int .i64 nw, .slice ao out.length co] 26)).heap.size = w.heap.size + 1 := Array.size_push _
 have r10 := Cx.new (w.alloc (.cells #[.slice af fs.length cf, .int .i64 nw, .slice ao out.length co] 26)) [.slice none 0 0, .int .i64 0, .slice none 0 0] 26 (j := 0) rfl
 have r11 := Cx.new (w.alloc (.cells #[.slice af fs.length cf, .int .i64 nw, .slice ao out.length co] 26)) [.slice none 0 0, .int .i64 0, .slice none 0 0] 26 (j := 1) rfl
 have r12 := Cx.new (w.alloc (.cells #[.slice af fs.length cf, .int .i64 nw, .slice ao out.length co] 26)) [.slice none 0 0, .int .i64 0, .slice none 0 0] 26 (j := 2) rfl
 rw [hs0] at r10 r11 r12
 generalize ((w.alloc (.cells #[.slice af fs.length cf, .int .i64 nw, .slice ao out.length co] 26)).alloc (.cells #[.slice none 0 0, .int .i64 0, .slice none 0 0] 26)) = w1 at *
 have HE1 := Lib.hid hE1
 have HBS := Lib.hid hbs
 have HR1 := Lib.hid (⟨r10, r11, r12⟩ : _ ∧ _ ∧ _)
 clear hs0 r10 r11 r12
 go_cut [3] (fun u3 wr => ∃ o3 v1, u3 = .pointer (some ⟨o3, 0, none⟩) ∧ Ext w1 wr ∧ w1.heap.size ≤ o3 ∧ RowAt wr w1.heap.size 1 v1 out.length (ints out) ∧ rowBlock v1 ≠ some o3 ∧ Cx wr o3 0 (.slice none 0 0) ∧ Cx wr o3 1 (.int .i64 nw) ∧ Cx wr o3 2 v1)
 case first =>
  refine wp_region_rw (fun w' => w'.cell? ⟨w.heap.size, 1, none⟩ = some (.int .i64 nw) ∧ w'.cell? ⟨w.heap.size, 2, none⟩ = some (.slice ao out.length co)) 8 [0, 1, 3, 4] 5 (by kernel_rfl) (by kernel_rfl) (fun _ _ _ _ _ h => h) ⟨s1, s2⟩ ?_
  have hsz1 : (w1.alloc (.cells #[] 3)).heap.size = w1.heap.size + 1 := Array.size_push _
  have qb0 := Cx.new (w1.alloc (.cells #[] 3)) [.slice none 0 0, .int .i64 0, .slice none 0 0] 26 (j := 0) rfl
  have qb1 := Cx.new (w1.alloc (.cells #[] 3)) [.slice none 0 0, .int .i64 0, .slice none 0 0] 26 (j := 1) rfl
  have qb2 := Cx.new (w1.alloc (.cells #[] 3)) [.slice none 0 0, .int .i64 0, .slice none 0 0] 26 (j := 2) rfl
  rw [hsz1] at qb0 qb1 qb2
  have QB := Lib.hid (⟨qb0, qb1, qb2⟩ : _ ∧ _ ∧ _)
  have QC := Lib.hid (⟨Cx.new w1 [.slice none 0 0, .int .i64 0, .slice none 0 0] 26 (j := 0) rfl, Cx.new w1 [.slice none 0 0, .int .i64 0, .slice none 0 0] 26 (j := 1) rfl, Cx.new w1 [.slice none 0 0, .int .i64 0, .slice none 0 0] 26 (j := 2) rfl⟩ : _ ∧ _ ∧ _)
  clear qb0 qb1 qb2
  have S2 : ∀ W, Ext w1 W → W.cell? ⟨w.heap.size, 1, none⟩ = some (.int .i64 nw) ∧ W.cell? ⟨w.heap.size, 2, none⟩ = some (.slice ao out.length co) := fun W h => ⟨Ext.cell h s1, Ext.cell h s2⟩
  (try simp only [pickOps, List.filterMap_cons, List.filterMap_nil, List.getElem?_cons_zero, List.getElem?_cons_succ])
  repeat (
   refine readsQ_do (by rfl) ?_
   apply Exists.intro
   refine ⟨fun w' hw' => ?_, ?_⟩
   focus
    (try dsimp only at hw')
    go_split_ands
    go_simp
    (try with_reducible rfl)
   (try dsimp only [Act.put])
   (try simp only [List.setIfInBounds_toArray, List.set_cons_succ, List.set_cons_zero]))
  refine readsQ_nil ?_
  refine wpAnyW_two 2 7 (by kernel_rfl) rfl rfl ?_ ?_
  ·go_wp2_with fail
   refine nextA_go (S2 _ (by ((repeat (first | assumption | exact Ext.refl _ | (exact And.left (by assumption)) | refine Ext.alloc ?_ _ | refine Ext.drew ?_ | refine Ext.drewN ?_ _ | refine Ext.setCell ?_ (by simp) _ | refine Ext.setCell ?_ (by simp; omega) _ | refine Ext.trans ?_ (by assumption))); done))) ?_
   refine wpAnyW_two 5 7 (by kernel_rfl) rfl rfl ?_ ?_
   ·refine wpList_append_row rfl _ _ 24 rfl w1.heap.size 3 i0 (.int .i64 0) 1 8 Tryz.underlying24 hi0 hz0 hz1 hz2 rfl (by decide) _ _ _ rfl (RowAt.nil _ _ _ _) out.length (ints out) (SrcSl.up HSRC.out (HE1.out.trans (by ((repeat (first | assumption | exact Ext.refl _ | (exact And.left (by assumption)) | refine Ext.alloc ?_ _ | refine Ext.drew ?_ | refine Ext.drewN ?_ _ | refine Ext.setCell ?_ (by simp) _ | refine Ext.setCell ?_ (by simp; omega) _ | refine Ext.trans ?_ (by assumption))); done)))) (by unfold maxLen; omega) (by omega) (by exact Ext.size (by ((repeat (first | assumption | exact Ext.refl _ | (exact And.left (by assumption)) | refine Ext.alloc ?_ _ | refine Ext.drew ?_ | refine Ext.drewN ?_ _ | refine Ext.setCell ?_ (by simp) _ | refine Ext.setCell ?_ (by simp; omega) _ | refine Ext.trans ?_ (by assumption))); done))) ?_
    intro v1 Wv1 rv1
    have RV := Lib.hid rv1
    have hxv := rv_ext rv1
    obtain ⟨a9, cap9, rfl, _, _⟩ := rv1.1.shape
    clear rv1
    go_wp2_with fail
    refine nextA_go (S2 Wv1 (by ((repeat (first | assumption | exact Ext.refl _ | (exact And.left (by assumption)) | refine Ext.alloc ?_ _ | refine Ext.drew ?_ | refine Ext.drewN ?_ _ | refine Ext.setCell ?_ (by simp) _ | refine Ext.setCell ?_ (by simp; omega) _ | refine Ext.trans ?_ (by assumption))); done))) ?_
    refine wpAnyW_take 6 (by kernel_rfl) (by kernel_rfl) (by kernel_rfl) (by kernel_rfl) (by kernel_rfl) (fun _ _ _ _ _ h => h) rfl (by rfl) (S2 _ (by ((repeat (first | assumption | exact Ext.refl _ | (exact And.left (by assumption)) | refine Ext.alloc ?_ _ | refine Ext.drew ?_ | refine Ext.drewN ?_ _ | refine Ext.setCell ?_ (by simp) _ | refine Ext.setCell ?_ (by simp; omega) _ | refine Ext.trans ?_ (by assumption))); done))) ?_
    apply Exists.intro
    refine ⟨fun w' hw' => ?_, ?_⟩
    focus
     go_simp
     (try with_reducible rfl)
    dsimp only [Act.put]
    simp only [List.setIfInBounds_toArray]
    refine wpAnyW_one 7 (by kernel_rfl) rfl ?_
    go_wp2_with fail
    refine nextA_go (S2 _ (by ((repeat (first | assumption | exact Ext.refl _ | (exact And.left (by assumption)) | refine Ext.alloc ?_ _ | refine Ext.drew ?_ | refine Ext.drewN ?_ _ | refine Ext.setCell ?_ (by simp) _ | refine Ext.setCell ?_ (by simp; omega) _ | refine Ext.trans ?_ (by assumption))); done))) ?_
    refine wpAnyW_one 8 (by kernel_rfl) rfl ?_
    go_wp2_with fail
    refine nextA_end rfl (by kernel_rfl) ?_
    go_wp2_with fail
    go_meet
    have hR := RV.out
    rw [Nat.zero_add, List.nil_append] at hR
    exact ⟨_, _, rfl, by ((repeat (first | assumption | exact Ext.refl _ | (exact And.left (by assumption)) | refine Ext.alloc ?_ _ | refine Ext.drew ?_ | refine Ext.drewN ?_ _ | refine Ext.setCell ?_ (by simp) _ | refine Ext.setCell ?_ (by simp; omega) _ | refine Ext.trans ?_ (by assumption))); done), Ext.size (show Ext w1 Wv1 by ((repeat (first | assumption | exact Ext.refl _ | (exact And.left (by assumption)) | refine Ext.alloc ?_ _ | refine Ext.drew ?_ | refine Ext.drewN ?_ _ | refine Ext.setCell ?_ (by simp) _ | refine Ext.setCell ?_ (by simp; omega) _ | refine Ext.trans ?_ (by assumption))); done)), hR.1.ext ((Ext.refl _).alloc _) (by decide), fun e => by have := hR.1.lt2 (by decide) _ e; omega, Cx.new Wv1 [.slice none 0 0, .int .i64 nw, .slice a9 out.length cap9] _ (j := 0) rfl, Cx.new Wv1 [.slice none 0 0, .int .i64 nw, .slice a9 out.length cap9] _ (j := 1) rfl, Cx.new Wv1 [.slice none 0 0, .int .i64 nw, .slice a9 out.length cap9] _ (j := 2) rfl⟩
   ·go_wp2_with fail
    refine nextA_go (S2 _ (by ((repeat (first | assumption | exact Ext.refl _ | (exact And.left (by assumption)) | refine Ext.alloc ?_ _ | refine Ext.drew ?_ | refine Ext.drewN ?_ _ | refine Ext.setCell ?_ (by simp) _ | refine Ext.setCell ?_ (by simp; omega) _ | refine Ext.trans ?_ (by assumption))); done))) ?_
    refine wpAnyW_one 5 (by kernel_rfl) rfl ?_
    refine wpList_append_row rfl _ _ 24 rfl w1.heap.size 3 i0 (.int .i64 0) 1 8 Tryz.underlying24 hi0 hz0 hz1 hz2 rfl (by decide) _ _ _ rfl (RowAt.nil _ _ _ _) out.length (ints out) (SrcSl.up HSRC.out (HE1.out.trans (by ((repeat (first | assumption | exact Ext.refl _ | (exact And.left (by assumption)) | refine Ext.alloc ?_ _ | refine Ext.drew ?_ | refine Ext.drewN ?_ _ | refine Ext.setCell ?_ (by simp) _ | refine Ext.setCell ?_ (by simp; omega) _ | refine Ext.trans ?_ (by assumption))); done)))) (by unfold maxLen; omega) (by omega) (by exact Ext.size (by ((repeat (first | assumption | exact Ext.refl _ | (exact And.left (by assumption)) | refine Ext.alloc ?_ _ | refine Ext.drew ?_ | refine Ext.drewN ?_ _ | refine Ext.setCell ?_ (by simp) _ | refine Ext.setCell ?_ (by simp; omega) _ | refine Ext.trans ?_ (by assumption))); done))) ?_
    intro v1 Wv1 rv1
    have RV := Lib.hid rv1
    have hxv := rv_ext rv1
    obtain ⟨a9, cap9, rfl, _, _⟩ := rv1.1.shape
    clear rv1
    go_wp2_with fail
    refine nextA_go (S2 Wv1 (by ((repeat (first | assumption | exact Ext.refl _ | (exact And.left (by assumption)) | refine Ext.alloc ?_ _ | refine Ext.drew ?_ | refine Ext.drewN ?_ _ | refine Ext.setCell ?_ (by simp) _ | refine Ext.setCell ?_ (by simp; omega) _ | refine Ext.trans ?_ (by assumption))); done))) ?_
    refine wpAnyW_one 6 (by kernel_rfl) rfl ?_
    go_wp2_with fail
    refine nextA_go (S2 _ (by ((repeat (first | assumption | exact Ext.refl _ | (exact And.left (by assumption)) | refine Ext.alloc ?_ _ | refine Ext.drew ?_ | refine Ext.drewN ?_ _ | refine Ext.setCell ?_ (by simp) _ | refine Ext.setCell ?_ (by simp; omega) _ | refine Ext.trans ?_ (by assumption))); done))) ?_
    obtain ⟨⟨q0, q0'⟩, ⟨q1, q1'⟩, ⟨q2, q2'⟩⟩ := (⟨(QB.out.1.ext (Ext.refl _).drew).ext hxv, (QB.out.2.1.ext (Ext.refl _).drew).ext hxv, (QB.out.2.2.ext (Ext.refl _).drew).ext hxv⟩ : _ ∧ _ ∧ _)
    refine wpAnyW_one 8 (by kernel_rfl) rfl ?_
    go_wp2_with fail
    refine nextA_end rfl (by kernel_rfl) ?_
    go_wp2_with fail
    go_meet
    have hR := RV.out
    rw [Nat.zero_add, List.nil_append] at hR
    obtain ⟨z1, z2, z3, z4, z5, z6⟩ := out_box (w1 := w1) (by ((repeat (first | assumption | exact Ext.refl _ | (exact And.left (by assumption)) | refine Ext.alloc ?_ _ | refine Ext.drew ?_ | refine Ext.drewN ?_ _ | refine Ext.setCell ?_ (by simp) _ | refine Ext.setCell ?_ (by simp; omega) _ | refine Ext.trans ?_ (by assumption))); done)) (bo := w1.heap.size + 1) (by omega) (by show _ < ((w1.alloc (.cells #[] 3)).alloc _).heap.size; simp) hR ⟨q0, q0'⟩ ⟨q1, q1'⟩ ⟨q2, q2'⟩ (.slice none 0 0) (.int .i64 nw) (.slice a9 out.length cap9)
    exact ⟨_, _, rfl, z1, by omega, z2, z3, z4, z5, z6⟩
  ·go_wp2_with fail
   refine nextA_go (S2 _ (by ((repeat (first | assumption | exact Ext.refl _ | (exact And.left (by assumption)) | refine Ext.alloc ?_ _ | refine Ext.drew ?_ | refine Ext.drewN ?_ _ | refine Ext.setCell ?_ (by simp) _ | refine Ext.setCell ?_ (by simp; omega) _ | refine Ext.trans ?_ (by assumption))); done))) ?_
   refine wpAnyW_one 2 (by kernel_rfl) rfl ?_
   go_wp2_with fail
   refine nextA_go (S2 _ (by ((repeat (first | assumption | exact Ext.refl _ | (exact And.left (by assumption)) | refine Ext.alloc ?_ _ | refine Ext.drew ?_ | refine Ext.drewN ?_ _ | refine Ext.setCell ?_ (by simp) _ | refine Ext.setCell ?_ (by simp; omega) _ | refine Ext.trans ?_ (by assumption))); done))) ?_
   refine wpAnyW_one 5 (by kernel_rfl) rfl ?_
   refine wpList_append_row rfl _ _ 24 rfl w1.heap.size 3 i0 (.int .i64 0) 1 8 Tryz.underlying24 hi0 hz0 hz1 hz2 rfl (by decide) _ _ _ rfl (RowAt.nil _ _ _ _) out.length (ints out) (SrcSl.up HSRC.out (HE1.out.trans (by ((repeat (first | assumption | exact Ext.refl _ | (exact And.left (by assumption)) | refine Ext.alloc ?_ _ | refine Ext.drew ?_ | refine Ext.drewN ?_ _ | refine Ext.setCell ?_ (by simp) _ | refine Ext.setCell ?_ (by simp; omega) _ | refine Ext.trans ?_ (by assumption))); done)))) (by unfold maxLen; omega) (by omega) (by exact Ext.size (by ((repeat (first | assumption | exact Ext.refl _ | (exact And.left (by assumption)) | refine Ext.alloc ?_ _ | refine Ext.drew ?_ | refine Ext.drewN ?_ _ | refine Ext.setCell ?_ (by simp) _ | refine Ext.setCell ?_ (by simp; omega) _ | refine Ext.trans ?_ (by assumption))); done))) ?_
   intro v1 Wv1 rv1
   have RV := Lib.hid rv1
   have hxv := rv_ext rv1
   obtain ⟨a9, cap9, rfl, _, _⟩ := rv1.1.shape
   clear rv1
   go_wp2_with fail
   refine nextA_go (S2 Wv1 (by ((repeat (first | assumption | exact Ext.refl _ | (exact And.left (by assumption)) | refine Ext.alloc ?_ _ | refine Ext.drew ?_ | refine Ext.drewN ?_ _ | refine Ext.setCell ?_ (by simp) _ | refine Ext.setCell ?_ (by simp; omega) _ | refine Ext.trans ?_ (by assumption))); done))) ?_
   refine wpAnyW_one 6 (by kernel_rfl) rfl ?_
   go_wp2_with fail
   refine nextA_go (S2 _ (by ((repeat (first | assumption | exact Ext.refl _ | (exact And.left (by assumption)) | refine Ext.alloc ?_ _ | refine Ext.drew ?_ | refine Ext.drewN ?_ _ | refine Ext.setCell ?_ (by simp) _ | refine Ext.setCell ?_ (by simp; omega) _ | refine Ext.trans ?_ (by assumption))); done))) ?_
   obtain ⟨⟨q0, q0'⟩, ⟨q1, q1'⟩, ⟨q2, q2'⟩⟩ := (⟨((QC.out.1.ext ((Ext.refl _).alloc _)).ext (Ext.refl _).drew).ext hxv, ((QC.out.2.1.ext ((Ext.refl _).alloc _)).ext (Ext.refl _).drew).ext hxv, ((QC.out.2.2.ext ((Ext.refl _).alloc _)).ext (Ext.refl _).drew).ext hxv⟩ : _ ∧ _ ∧ _)
   refine wpAnyW_one 8 (by kernel_rfl) rfl ?_
   go_wp2_with fail
   refine nextA_end rfl (by kernel_rfl) ?_
   go_wp2_with fail
   go_meet
   have hR := RV.out
   rw [Nat.zero_add, List.nil_append] at hR
   obtain ⟨z1, z2, z3, z4, z5, z6⟩ := out_box (w1 := w1) (by ((repeat (first | assumption | exact Ext.refl _ | (exact And.left (by assumption)) | refine Ext.alloc ?_ _ | refine Ext.drew ?_ | refine Ext.drewN ?_ _ | refine Ext.setCell ?_ (by simp) _ | refine Ext.setCell ?_ (by simp; omega) _ | refine Ext.trans ?_ (by assumption))); done)) (bo := w1.heap.size) (by omega) (by show _ < ((w1.alloc _).alloc (.cells #[] 3)).heap.size; simp; omega) hR ⟨q0, q0'⟩ ⟨q1, q1'⟩ ⟨q2, q2'⟩ (.slice none 0 0) (.int .i64 nw) (.slice a9 out.length cap9)
   exact ⟨_, _, rfl, z1, Nat.le_refl _, z2, z3, z4, z5, z6⟩
 case rest =>
  rename World => w2
  obtain ⟨o3, v1, rfl, hx2, ho3, hrow2, hne2, k0, k1, k2⟩ := hcut
  have hx2 : Ext w1 w2 := hx2
  have hO0 : OwnS w2 w1.heap.size o3 ⟨[], nw, out, .slice none 0 0, v1⟩ := by
   refine ⟨k0, k1, k2, ⟨inow, hIO⟩, RowAt.nil _ _ _ _, hrow2, (fun y hy => by cases hy), ho3, ⟨by show 0 ≤ 1000; omega, by show out.length ≤ 1000; omega⟩, ?_⟩
   unfold PState.bl
   cases hv : rowBlock v1 with
   | none => simp [rowBlock]
   | some k =>
    have : o3 ≠ k := fun e => hne2 (by rw [hv, e])
    simp [rowBlock, this]
  have HO0 := Lib.hid hO0
  have HX2 := Lib.hid hx2
  have HS1 := Lib.hid s1
  have HF1 : Hid (w1.cell? ⟨w.heap.size, 0, none⟩ = some (.slice af fs.length cf)) := s0
  have HFB := Lib.hid (Fibers.stays (Ext.stays HE1.out) HFS.out)
  clear hO0 hx2 ho3 hrow2 hne2 k0 k1 k2 s1 s2 s0
  go_wp2_with fail
  go_loopw [4] (fun q4 wr => ∃ (k : Nat) (P : PState), k ≤ fs.length ∧ q4 = .int .i64 k ∧ Ext w1 wr ∧ OwnS wr w1.heap.size o3 P ∧ P.g = ⟨fs.take k, nw, out⟩) (fun q _ => fs.length - (intOf q).toNat)
  case atStart => exact ⟨0, _, Nat.zero_le _, rfl, HX2.out, HO0.out, rfl⟩
  case round =>
   obtain ⟨k, P, hk, rfl, hE, hO, hg⟩ := hrel
   have HEK := Lib.hid hE
   have HOK := Lib.hid hO
   have HGK := Lib.hid hg
   have f0 := Ext.cell hE HF1.out
   clear hE hO hg
   rename World => wk
   by_cases hlt : k < fs.length
   ·obtain ⟨bf, of, afr, cfr, rfl, g0, g1, hfv⟩ := (HFB.out).at' hlt
    have g0 := Ext.cell HEK.out g0
    have g1 := Ext.cell HEK.out g1
    have hfv := FiberV.stays (Ext.stays HEK.out) hfv
    have hgd : fs.take (k + 1) = fs.take k ++ [fs.getD k default] := by
     rw [List.take_succ_eq_append_getElem hlt]; simp [List.getD, List.getElem?_eq_getElem hlt]
    have hfew : FewF (fs.getD k default) := by
     have e : fs.getD k default = fs[k] := by simp [List.getD, List.getElem?_eq_getElem hlt]
     rw [e]; exact (HF3.out) _ (List.getElem_mem _)
    have HGD := Lib.hid hgd
    have HFEW := Lib.hid hfew
    have hn9 := hfew.1
    clear hgd hfew
    obtain ⟨fb, hfb⟩ : ∃ fb, fs.getD k default = fb := ⟨_, rfl⟩
    rw [hfb] at g0 g1 hfv HGD HFEW hn9
    obtain ⟨xs, exs, hxs, icl⟩ := hfv
    simp only [Value.agg.injEq, Array.mk.injEq, List.cons.injEq, and_true] at exs
    obtain ⟨rfl, -⟩ := exs
    have HXS := Lib.hid hxs
    have hsf : wk.heap.size < wk.heap.size + 1 := Nat.lt_succ_self _
    have hsz5 : (wk.alloc (.cells #[.slice none 0 0, .int .i64 fb.caller] 41)).heap.size = wk.heap.size + 1 := Array.size_push _
    have j0 := Cx.new wk [.slice none 0 0, .int .i64 fb.caller] 41 (j := 0) rfl
    have j1 := Cx.new wk [.slice none 0 0, .int .i64 fb.caller] 41 (j := 1) rfl
    clear hxs hfb
    go_upto_region 6 with fail
    obtain ⟨wf, hwf⟩ : ∃ wf, wf = wk.alloc (.cells #[.slice none 0 0, .int .i64 fb.caller] 41) := ⟨_, rfl⟩
    rw [← hwf]
    rw [← hwf] at hsz5 j0 j1
    have hEf : Ext wk wf := by rw [hwf]; ((repeat (first | assumption | exact Ext.refl _ | (exact And.left (by assumption)) | refine Ext.alloc ?_ _ | refine Ext.drew ?_ | refine Ext.drewN ?_ _ | refine Ext.setCell ?_ (by simp) _ | refine Ext.setCell ?_ (by simp; omega) _ | refine Ext.trans ?_ (by assumption))); done)
    have HEF := Lib.hid hEf
    have HSZ5 := Lib.hid hsz5
    have J := Lib.hid (⟨j0, j1⟩ : _ ∧ _)
    clear hwf hEf j0 j1 hsz5 hsf
    go_wp2_with fail
    obtain ⟨f5, hf5⟩ : ∃ f5, wk.heap.size = f5 := ⟨_, rfl⟩
    have HF5 := Lib.hid hf5
    have HY0 : Hid (BuildF wf (f5 + 1) f5 ⟨[], fb.caller, .slice none 0 0⟩) := by
     rw [← hf5]
     exact ⟨⟨icl, RowAt.nil _ _ _ _, (fun y hy => by cases hy), by show 0 ≤ 1000; omega⟩, by unfold PFiber.bl; simp [rowBlock], (J.out).1, (J.out).2⟩
    have HSZ6 : Hid (wf.heap.size = f5 + 1) := by rw [← hf5]; exact HSZ5.out
    rw [hf5]
    clear hf5
    go_loopw [6] (fun q6 wr => ∃ (i : Nat) (Y : PFiber), i ≤ fb.frames.length ∧ q6 = .int .i64 i ∧ Ext wk wr ∧ BuildF wr (f5 + 1) f5 Y ∧ Y.g = ⟨fb.frames.take i, fb.caller⟩) (fun q _ => fb.frames.length - (intOf q).toNat)
    case atStart => exact ⟨0, _, Nat.zero_le _, rfl, HEF.out, HY0.out, rfl⟩
    case round =>
     obtain ⟨i, Y, hi, rfl, hE, hY, hyg⟩ := hrel
     have HEW := Lib.hid hE
     have HYW := Lib.hid hY
     have HYG := Lib.hid hyg
     have hEkw := hE
     have HB6 : Hid (f5 + 1 ≤ wr.heap.size) := hY.c0.lt
     have f0 := Ext.cell hEkw f0
     have g0 := Ext.cell hEkw g0
     have HEKW := Lib.hid hEkw
     clear hE hY hyg hEkw
     rename World => wr
     by_cases hlt2 : i < fb.frames.length
     ·obtain ⟨b4, o4, al, cl, as_, cs, rfl, hfa, hfv4⟩ := (HXS.out).at' hlt2
      have hgd4 : fb.frames.take (i + 1) = fb.frames.take i ++ [fb.frames.getD i default] := by
       rw [List.take_succ_eq_append_getElem hlt2]; simp [List.getD, List.getElem?_eq_getElem hlt2]
      have hfew4 : (fb.frames.getD i default).locals.length ≤ 900 ∧ (fb.frames.getD i default).stack.length ≤ 900 := by
       have e : fb.frames.getD i default = fb.frames[i] := by simp [List.getD, List.getElem?_eq_getElem hlt2]
       rw [e]; exact (HFEW.out).2 _ (List.getElem_mem _)
      obtain ⟨xf, hxf⟩ : ∃ xf, fb.frames.getD i default = xf := ⟨_, rfl⟩
      rw [hxf] at hfa hfv4 hgd4 hfew4
      obtain ⟨hl9, hs9⟩ := hfew4
      have HGD4 := Lib.hid hgd4
      have hfa := hfa.ext HEKW.out
      obtain ⟨y0, y1, y2, y3⟩ := hfa
      obtain ⟨vl, vs2, efv, ifu, iat, hil, his⟩ := hfv4
      simp only [Value.agg.injEq, Array.mk.injEq, List.cons.injEq, and_true, true_and] at efv
      obtain ⟨rfl, rfl⟩ := efv
      have HSL := Lib.hid hil.srcI
      have HSS := Lib.hid his.srcI
      have HIL := Lib.hid (⟨ifu, iat, hil.i64, his.i64⟩ : _ ∧ _ ∧ _ ∧ _)
      clear hil his ifu iat hxf hgd4
      go_upto_region 10 with fail
      have HX7 := Lib.hid (⟨Cx.new wr [.int .i64 xf.func, .int .i64 xf.at_, .slice al xf.locals.length cl, .slice as_ xf.stack.length cs] 43 (j := 0) rfl, Cx.new wr [.int .i64 xf.func, .int .i64 xf.at_, .slice al xf.locals.length cl, .slice as_ xf.stack.length cs] 43 (j := 1) rfl, Cx.new wr [.int .i64 xf.func, .int .i64 xf.at_, .slice al xf.locals.length cl, .slice as_ xf.stack.length cs] 43 (j := 2) rfl, Cx.new wr [.int .i64 xf.func, .int .i64 xf.at_, .slice al xf.locals.length cl, .slice as_ xf.stack.length cs] 43 (j := 3) rfl⟩ : _ ∧ _ ∧ _ ∧ _)
      have hEx : Ext wr (wr.alloc (.cells #[.int .i64 xf.func, .int .i64 xf.at_, .slice al xf.locals.length cl, .slice as_ xf.stack.length cs] 43)) := by ((repeat (first | assumption | exact Ext.refl _ | (exact And.left (by assumption)) | refine Ext.alloc ?_ _ | refine Ext.drew ?_ | refine Ext.drewN ?_ _ | refine Ext.setCell ?_ (by simp) _ | refine Ext.setCell ?_ (by simp; omega) _ | refine Ext.trans ?_ (by assumption))); done)
      obtain ⟨ay, cy, ey, hcy, hmy⟩ := (HYW.out).fo.row.shape
      have HYB := Lib.hid ((HYW.out).fo.row.lt2 (by decide))
      have hyc := (HYW.out).c0.ext hEx
      rw [ey] at hyc
      have HEY := Lib.hid ey
      have HRY : Hid (RowAt wr (f5 + 1) 4 (.slice ay Y.fr.length cy) Y.fr.length (Y.fr.flatMap frameF)) := by unfold Hid; rw [← ey]; exact (HYW.out).fo.row
      have hfy9 : Y.fr.length ≤ 900 := by
       have h1 := congrArg (fun g => g.frames.length) HYG.out
       simp only [PFiber.g, List.length_map, List.length_take] at h1
       omega
      obtain ⟨wx, hwx⟩ : ∃ wx, wx = wr.alloc (.cells #[.int .i64 xf.func, .int .i64 xf.at_, .slice al xf.locals.length cl, .slice as_ xf.stack.length cs] 43) := ⟨_, rfl⟩
      rw [← hwx] at hEx HX7 hyc ⊢
      have HEWX := Lib.hid ((HEW.out).trans hEx)
      have HEX2 := Lib.hid hEx
      have HEX := Lib.hid ((HEKW.out).trans hEx)
      have HWS : Hid (wx.heap.size = wr.heap.size + 1) := by unfold Hid; rw [hwx]; exact Array.size_push _
      obtain ⟨x7, hx7⟩ : ∃ x7, wr.heap.size = x7 := ⟨_, rfl⟩
      rw [hx7] at HX7 HWS ⊢
      have HX7E := Lib.hid hx7
      clear hwx ey
      have S6 : ∀ W, Ext wx W → W.cell? ⟨f5, 0, none⟩ = some (.slice ay Y.fr.length cy) ∧ W.cell? ⟨x7, 0, none⟩ = some (.int .i64 xf.func) ∧ W.cell? ⟨x7, 1, none⟩ = some (.int .i64 xf.at_) ∧ W.cell? ⟨x7, 2, none⟩ = some (.slice al xf.locals.length cl) ∧ W.cell? ⟨x7, 3, none⟩ = some (.slice as_ xf.stack.length cs) := fun W h => ⟨Ext.cell h hyc.1, Ext.cell h (HX7.out).1.1, Ext.cell h (HX7.out).2.1.1, Ext.cell h (HX7.out).2.2.1.1, Ext.cell h (HX7.out).2.2.2.1⟩
      refine wp_region_rw (fun w' => w'.cell? ⟨f5, 0, none⟩ = some (.slice ay Y.fr.length cy) ∧ w'.cell? ⟨x7, 0, none⟩ = some (.int .i64 xf.func) ∧ w'.cell? ⟨x7, 1, none⟩ = some (.int .i64 xf.at_) ∧ w'.cell? ⟨x7, 2, none⟩ = some (.slice al xf.locals.length cl) ∧ w'.cell? ⟨x7, 3, none⟩ = some (.slice as_ xf.stack.length cs))
       18 [0, 1, 2, 3, 4, 5, 7, 8, 11, 12] 9 (by kernel_rfl) (by kernel_rfl) (fun _ _ _ _ _ h => h) (S6 _ (Ext.refl _).drew) ?_
      (try simp only [pickOps, List.filterMap_cons, List.filterMap_nil, List.getElem?_cons_zero, List.getElem?_cons_succ])
      repeat (
       refine readsQ_do (by rfl) ?_
       apply Exists.intro
       refine ⟨fun w' hw' => ?_, ?_⟩
       focus
        (try dsimp only at hw')
        go_split_ands
        go_simp
        (try with_reducible rfl)
       (try dsimp only [Act.put])
       (try simp only [List.setIfInBounds_toArray, List.set_cons_succ, List.set_cons_zero]))
      refine readsQ_nil ?_
      have HNF5 : Hid (¬ rowBlock (.slice ay Y.fr.length cy) = some f5) := fun e => by have := (HRY.out).le f5 e; omega
      have HNX7 : Hid (¬ rowBlock (.slice ay Y.fr.length cy) = some x7) := fun e => by
       have h1 := HYB.out x7 (by rw [HEY.out]; exact e)
       have h2 := HX7E.out
       omega
      refine wpAnyW_two 6 10 (by kernel_rfl) rfl rfl ?_ ?_
      ·go_wp2_with fail
       refine nextA_go (S6 _ (by ((repeat (first | assumption | exact Ext.refl _ | (exact And.left (by assumption)) | refine Ext.alloc ?_ _ | refine Ext.drew ?_ | refine Ext.drewN ?_ _ | refine Ext.setCell ?_ (by simp) _ | refine Ext.setCell ?_ (by simp; omega) _ | refine Ext.trans ?_ (by assumption))); done))) ?_
       refine wpAnyW_two 9 10 (by kernel_rfl) rfl rfl ?_ ?_
       ·refine wpList_append_row rfl _ _ 24 rfl (f5 + 1) 3 i0 (.int .i64 0) 1 8 Tryz.underlying24 hi0 hz0 hz1 hz2 rfl (by decide) _ _ _ rfl (RowAt.nil _ _ _ _) xf.locals.length (ints xf.locals) (SrcSl.up HSL.out (HEX.out.trans (by ((repeat (first | assumption | exact Ext.refl _ | (exact And.left (by assumption)) | refine Ext.alloc ?_ _ | refine Ext.drew ?_ | refine Ext.drewN ?_ _ | refine Ext.setCell ?_ (by simp) _ | refine Ext.setCell ?_ (by simp; omega) _ | refine Ext.trans ?_ (by assumption))); done)))) (by unfold maxLen; omega) (by omega) (by exact Nat.le_trans HB6.out (Ext.size (show Ext wr _ from (by ((repeat (first | assumption | exact Ext.refl _ | (exact And.left (by assumption)) | refine Ext.alloc ?_ _ | refine Ext.drew ?_ | refine Ext.drewN ?_ _ | refine Ext.setCell ?_ (by simp) _ | refine Ext.setCell ?_ (by simp; omega) _ | refine Ext.trans ?_ (by assumption))); done))))) ?_
        intro v1 Wv1 rv1
        have RV1 := Lib.hid rv1
        have HA1 := Lib.hid (fresh_row rv1 (show Ext wx _ from (by ((repeat (first | assumption | exact Ext.refl _ | (exact And.left (by assumption)) | refine Ext.alloc ?_ _ | refine Ext.drew ?_ | refine Ext.drewN ?_ _ | refine Ext.setCell ?_ (by simp) _ | refine Ext.setCell ?_ (by simp; omega) _ | refine Ext.trans ?_ (by assumption))); done))))
        have hxv1 := rv_ext rv1
        obtain ⟨a91, cap91, rfl, _, _⟩ := rv1.1.shape
        clear rv1
        go_wp2_with fail
        refine nextA_go (S6 Wv1 (by ((repeat (first | assumption | exact Ext.refl _ | (exact And.left (by assumption)) | refine Ext.alloc ?_ _ | refine Ext.drew ?_ | refine Ext.drewN ?_ _ | refine Ext.setCell ?_ (by simp) _ | refine Ext.setCell ?_ (by simp; omega) _ | refine Ext.trans ?_ (by assumption))); done))) ?_
        refine wpAnyW_one 10 (by kernel_rfl) rfl ?_
        go_wp2_with fail
        refine nextA_go (S6 _ (by ((repeat (first | assumption | exact Ext.refl _ | (exact And.left (by assumption)) | refine Ext.alloc ?_ _ | refine Ext.drew ?_ | refine Ext.drewN ?_ _ | refine Ext.setCell ?_ (by simp) _ | refine Ext.setCell ?_ (by simp; omega) _ | refine Ext.trans ?_ (by assumption))); done))) ?_
        refine wpAnyW_one 13 (by kernel_rfl) rfl ?_
        refine wpList_append_row rfl _ _ 24 rfl (f5 + 1) 3 i0 (.int .i64 0) 1 8 Tryz.underlying24 hi0 hz0 hz1 hz2 rfl (by decide) _ _ _ rfl (RowAt.nil _ _ _ _) xf.stack.length (ints xf.stack) (SrcSl.up HSS.out (HEX.out.trans (by ((repeat (first | assumption | exact Ext.refl _ | (exact And.left (by assumption)) | refine Ext.alloc ?_ _ | refine Ext.drew ?_ | refine Ext.drewN ?_ _ | refine Ext.setCell ?_ (by simp) _ | refine Ext.setCell ?_ (by simp; omega) _ | refine Ext.trans ?_ (by assumption))); done)))) (by unfold maxLen; omega) (by omega) (by exact Nat.le_trans HB6.out (Ext.size (show Ext wr _ from (by ((repeat (first | assumption | exact Ext.refl _ | (exact And.left (by assumption)) | refine Ext.alloc ?_ _ | refine Ext.drew ?_ | refine Ext.drewN ?_ _ | refine Ext.setCell ?_ (by simp) _ | refine Ext.setCell ?_ (by simp; omega) _ | refine Ext.trans ?_ (by assumption))); done))))) ?_
        intro v2 Wv2 rv2
        have RV2 := Lib.hid rv2
        have HA2 := Lib.hid (fresh_row rv2 (show Ext wx _ from (by ((repeat (first | assumption | exact Ext.refl _ | (exact And.left (by assumption)) | refine Ext.alloc ?_ _ | refine Ext.drew ?_ | refine Ext.drewN ?_ _ | refine Ext.setCell ?_ (by simp) _ | refine Ext.setCell ?_ (by simp; omega) _ | refine Ext.trans ?_ (by assumption))); done))))
        have HA3 := Lib.hid (fresh_row rv2 (show Ext Wv1 _ from (by ((repeat (first | assumption | exact Ext.refl _ | (exact And.left (by assumption)) | refine Ext.alloc ?_ _ | refine Ext.drew ?_ | refine Ext.drewN ?_ _ | refine Ext.setCell ?_ (by simp) _ | refine Ext.setCell ?_ (by simp; omega) _ | refine Ext.trans ?_ (by assumption))); done))))
        have hxv2 := rv_ext rv2
        obtain ⟨a92, cap92, rfl, _, _⟩ := rv2.1.shape
        clear rv2
        go_wp2_with fail
        refine nextA_go (S6 Wv2 (by ((repeat (first | assumption | exact Ext.refl _ | (exact And.left (by assumption)) | refine Ext.alloc ?_ _ | refine Ext.drew ?_ | refine Ext.drewN ?_ _ | refine Ext.setCell ?_ (by simp) _ | refine Ext.setCell ?_ (by simp; omega) _ | refine Ext.trans ?_ (by assumption))); done))) ?_
        refine wpAnyW_one 14 (by kernel_rfl) rfl ?_
        go_wp2_with fail
        refine nextA_go (S6 Wv2 (by ((repeat (first | assumption | exact Ext.refl _ | (exact And.left (by assumption)) | refine Ext.alloc ?_ _ | refine Ext.drew ?_ | refine Ext.drewN ?_ _ | refine Ext.setCell ?_ (by simp) _ | refine Ext.setCell ?_ (by simp; omega) _ | refine Ext.trans ?_ (by assumption))); done))) ?_
        refine wpAnyW_one 15 (by kernel_rfl) rfl ?_
        go_wp2_with fail
        refine nextA_go (S6 _ (by ((repeat (first | assumption | exact Ext.refl _ | (exact And.left (by assumption)) | refine Ext.alloc ?_ _ | refine Ext.drew ?_ | refine Ext.drewN ?_ _ | refine Ext.setCell ?_ (by simp) _ | refine Ext.setCell ?_ (by simp; omega) _ | refine Ext.trans ?_ (by assumption))); done))) ?_
        refine wpAnyW_one 16 (by kernel_rfl) rfl ?_
        refine wpList_append_row rfl _ _ 39 rfl (f5 + 1) 43 i1 (.agg #[.int .i64 0, .int .i64 0, .slice none 0 0, .slice none 0 0]) 4 64 Tryz.underlying39 hi1 hz3 hz4 hz5 rfl (by decide) _ _ _ rfl (HRY.out.ext (show Ext wr _ from (by ((repeat (first | assumption | exact Ext.refl _ | (exact And.left (by assumption)) | refine Ext.alloc ?_ _ | refine Ext.drew ?_ | refine Ext.drewN ?_ _ | refine Ext.setCell ?_ (by simp) _ | refine Ext.setCell ?_ (by simp; omega) _ | refine Ext.trans ?_ (by assumption))); done))) (by decide)) 1 _ (src_cells _ _ 4 rfl (by simp [Value.oneCell']) _) (by unfold maxLen; omega) (by omega) (by exact Nat.le_trans HB6.out (Ext.size (show Ext wr _ from (by ((repeat (first | assumption | exact Ext.refl _ | (exact And.left (by assumption)) | refine Ext.alloc ?_ _ | refine Ext.drew ?_ | refine Ext.drewN ?_ _ | refine Ext.setCell ?_ (by simp) _ | refine Ext.setCell ?_ (by simp; omega) _ | refine Ext.trans ?_ (by assumption))); done))))) ?_
        intro v3 Wv3 rv3
        have RV3 := Lib.hid rv3
        obtain ⟨a93, cap93, rfl, _, _⟩ := rv3.1.shape
        clear rv3
        go_wp2_with fail
        have h12 : Ext Wv1 Wv2 := by ((repeat (first | assumption | exact Ext.refl _ | (exact And.left (by assumption)) | refine Ext.alloc ?_ _ | refine Ext.drew ?_ | refine Ext.drewN ?_ _ | refine Ext.setCell ?_ (by simp) _ | refine Ext.setCell ?_ (by simp; omega) _ | refine Ext.trans ?_ (by assumption))); done)
        have hxx : Ext wx Wv2 := by ((repeat (first | assumption | exact Ext.refl _ | (exact And.left (by assumption)) | refine Ext.alloc ?_ _ | refine Ext.drew ?_ | refine Ext.drewN ?_ _ | refine Ext.setCell ?_ (by simp) _ | refine Ext.setCell ?_ (by simp; omega) _ | refine Ext.trans ?_ (by assumption))); done)
        have hR3 : NewRow (Wv2.alloc (.cells #[.int .i64 xf.func, .int .i64 xf.at_, .slice a91 xf.locals.length cap91, .slice a92 xf.stack.length cap92] 43)) Wv3 (f5 + 1) 4 (.slice ay Y.fr.length cy) (.slice a93 (Y.fr.length + 1) cap93) (Y.fr.length + 1) (Y.fr.flatMap frameF ++ [.int .i64 xf.func, .int .i64 xf.at_, .slice a91 xf.locals.length cap91, .slice a92 xf.stack.length cap92]) := RV3.out
        have hcg : Chg (fun k => rowBlock (.slice ay Y.fr.length cy) = some k) (Wv2.alloc (.cells #[.int .i64 xf.func, .int .i64 xf.at_, .slice a91 xf.locals.length cap91, .slice a92 xf.stack.length cap92] 43)) Wv3 := hR3.2.1
        have hS9 := cells5_chg (S6 _ (by ((repeat (first | assumption | exact Ext.refl _ | (exact And.left (by assumption)) | refine Ext.alloc ?_ _ | refine Ext.drew ?_ | refine Ext.drewN ?_ _ | refine Ext.setCell ?_ (by simp) _ | refine Ext.setCell ?_ (by simp; omega) _ | refine Ext.trans ?_ (by assumption))); done))) hcg HNF5.out HNX7.out
        have HS9 := Lib.hid hS9
        have hc5 := ((hyc.ext hxx).ext ((Ext.refl _).alloc (.cells #[.int .i64 xf.func, .int .i64 xf.at_, .slice a91 xf.locals.length cap91, .slice a92 xf.stack.length cap92] 43))).chg hcg HNF5.out
        obtain ⟨c5, c5'⟩ := hc5
        have HR3 := Lib.hid hR3
        clear hR3 hcg
        refine nextA_go HS9.out ?_
        refine wpAnyW_one 17 (by kernel_rfl) rfl ?_
        go_wp2_with fail
        refine nextA_go HS9.out ?_
        refine wpAnyW_one 18 (by kernel_rfl) rfl ?_
        go_wp2_with fail
        refine nextA_end rfl (by kernel_rfl) ?_
        go_wp2_with fail
        have hR1 := RV1.out
        have hR2 := RV2.out
        have hb1 := HA1.out
        have hb2 := HA2.out
        have hb3 := HA3.out
        simp only [Nat.zero_add, List.nil_append] at hR1 hR2 hb1 hb2 hb3
        have hfin := frame_fin (HYW.out) HEX2.out hxx h12 (Nat.lt_succ_self f5) hR1.1 hR2.1 hb1 hb2 hb3 HIL.out hl9 hs9 (by rw [HEY.out]; exact HR3.out) (by omega)
        go_roundw
        case rel => exact ⟨i + 1, _, by omega, by go_num, fin_ext (HRY.out) HEW.out ((HEX2.out.trans hxx).alloc _) HF5.out HR3.out, hfin, by rw [HGD4.out]; exact frame_g HYG.out⟩
        case measure => simp [intOf]; omega
       ·go_wp2_with fail
        refine nextA_go (S6 _ (by ((repeat (first | assumption | exact Ext.refl _ | (exact And.left (by assumption)) | refine Ext.alloc ?_ _ | refine Ext.drew ?_ | refine Ext.drewN ?_ _ | refine Ext.setCell ?_ (by simp) _ | refine Ext.setCell ?_ (by simp; omega) _ | refine Ext.trans ?_ (by assumption))); done))) ?_
        refine wpAnyW_one 9 (by kernel_rfl) rfl ?_
        refine wpList_append_row rfl _ _ 24 rfl (f5 + 1) 3 i0 (.int .i64 0) 1 8 Tryz.underlying24 hi0 hz0 hz1 hz2 rfl (by decide) _ _ _ rfl (RowAt.nil _ _ _ _) xf.locals.length (ints xf.locals) (SrcSl.up HSL.out (HEX.out.trans (by ((repeat (first | assumption | exact Ext.refl _ | (exact And.left (by assumption)) | refine Ext.alloc ?_ _ | refine Ext.drew ?_ | refine Ext.drewN ?_ _ | refine Ext.setCell ?_ (by simp) _ | refine Ext.setCell ?_ (by simp; omega) _ | refine Ext.trans ?_ (by assumption))); done)))) (by unfold maxLen; omega) (by omega) (by exact Nat.le_trans HB6.out (Ext.size (show Ext wr _ from (by ((repeat (first | assumption | exact Ext.refl _ | (exact And.left (by assumption)) | refine Ext.alloc ?_ _ | refine Ext.drew ?_ | refine Ext.drewN ?_ _ | refine Ext.setCell ?_ (by simp) _ | refine Ext.setCell ?_ (by simp; omega) _ | refine Ext.trans ?_ (by assumption))); done))))) ?_
        intro v1 Wv1 rv1
        have RV1 := Lib.hid rv1
        have HA1 := Lib.hid (fresh_row rv1 (show Ext wx _ from (by ((repeat (first | assumption | exact Ext.refl _ | (exact And.left (by assumption)) | refine Ext.alloc ?_ _ | refine Ext.drew ?_ | refine Ext.drewN ?_ _ | refine Ext.setCell ?_ (by simp) _ | refine Ext.setCell ?_ (by simp; omega) _ | refine Ext.trans ?_ (by assumption))); done))))
        have hxv1 := rv_ext rv1
        obtain ⟨a91, cap91, rfl, _, _⟩ := rv1.1.shape
        clear rv1
        go_wp2_with fail
        refine nextA_go (S6 Wv1 (by ((repeat (first | assumption | exact Ext.refl _ | (exact And.left (by assumption)) | refine Ext.alloc ?_ _ | refine Ext.drew ?_ | refine Ext.drewN ?_ _ | refine Ext.setCell ?_ (by simp) _ | refine Ext.setCell ?_ (by simp; omega) _ | refine Ext.trans ?_ (by assumption))); done))) ?_
        refine wpAnyW_one 13 (by kernel_rfl) rfl ?_
        refine wpList_append_row rfl _ _ 24 rfl (f5 + 1) 3 i0 (.int .i64 0) 1 8 Tryz.underlying24 hi0 hz0 hz1 hz2 rfl (by decide) _ _ _ rfl (RowAt.nil _ _ _ _) xf.stack.length (ints xf.stack) (SrcSl.up HSS.out (HEX.out.trans (by ((repeat (first | assumption | exact Ext.refl _ | (exact And.left (by assumption)) | refine Ext.alloc ?_ _ | refine Ext.drew ?_ | refine Ext.drewN ?_ _ | refine Ext.setCell ?_ (by simp) _ | refine Ext.setCell ?_ (by simp; omega) _ | refine Ext.trans ?_ (by assumption))); done)))) (by unfold maxLen; omega) (by omega) (by exact Nat.le_trans HB6.out (Ext.size (show Ext wr _ from (by ((repeat (first | assumption | exact Ext.refl _ | (exact And.left (by assumption)) | refine Ext.alloc ?_ _ | refine Ext.drew ?_ | refine Ext.drewN ?_ _ | refine Ext.setCell ?_ (by simp) _ | refine Ext.setCell ?_ (by simp; omega) _ | refine Ext.trans ?_ (by assumption))); done))))) ?_
        intro v2 Wv2 rv2
        have RV2 := Lib.hid rv2
        have HA2 := Lib.hid (fresh_row rv2 (show Ext wx _ from (by ((repeat (first | assumption | exact Ext.refl _ | (exact And.left (by assumption)) | refine Ext.alloc ?_ _ | refine Ext.drew ?_ | refine Ext.drewN ?_ _ | refine Ext.setCell ?_ (by simp) _ | refine Ext.setCell ?_ (by simp; omega) _ | refine Ext.trans ?_ (by assumption))); done))))
        have HA3 := Lib.hid (fresh_row rv2 (show Ext Wv1 _ from (by ((repeat (first | assumption | exact Ext.refl _ | (exact And.left (by assumption)) | refine Ext.alloc ?_ _ | refine Ext.drew ?_ | refine Ext.drewN ?_ _ | refine Ext.setCell ?_ (by simp) _ | refine Ext.setCell ?_ (by simp; omega) _ | refine Ext.trans ?_ (by assumption))); done))))
        have hxv2 := rv_ext rv2
        obtain ⟨a92, cap92, rfl, _, _⟩ := rv2.1.shape
        clear rv2
        go_wp2_with fail
        refine nextA_go (S6 Wv2 (by ((repeat (first | assumption | exact Ext.refl _ | (exact And.left (by assumption)) | refine Ext.alloc ?_ _ | refine Ext.drew ?_ | refine Ext.drewN ?_ _ | refine Ext.setCell ?_ (by simp) _ | refine Ext.setCell ?_ (by simp; omega) _ | refine Ext.trans ?_ (by assumption))); done))) ?_
        refine wpAnyW_one 14 (by kernel_rfl) rfl ?_
        go_wp2_with fail
        refine nextA_go (S6 Wv2 (by ((repeat (first | assumption | exact Ext.refl _ | (exact And.left (by assumption)) | refine Ext.alloc ?_ _ | refine Ext.drew ?_ | refine Ext.drewN ?_ _ | refine Ext.setCell ?_ (by simp) _ | refine Ext.setCell ?_ (by simp; omega) _ | refine Ext.trans ?_ (by assumption))); done))) ?_
        refine wpAnyW_one 15 (by kernel_rfl) rfl ?_
        go_wp2_with fail
        refine nextA_go (S6 _ (by ((repeat (first | assumption | exact Ext.refl _ | (exact And.left (by assumption)) | refine Ext.alloc ?_ _ | refine Ext.drew ?_ | refine Ext.drewN ?_ _ | refine Ext.setCell ?_ (by simp) _ | refine Ext.setCell ?_ (by simp; omega) _ | refine Ext.trans ?_ (by assumption))); done))) ?_
        refine wpAnyW_one 16 (by kernel_rfl) rfl ?_
        refine wpList_append_row rfl _ _ 39 rfl (f5 + 1) 43 i1 (.agg #[.int .i64 0, .int .i64 0, .slice none 0 0, .slice none 0 0]) 4 64 Tryz.underlying39 hi1 hz3 hz4 hz5 rfl (by decide) _ _ _ rfl (HRY.out.ext (show Ext wr _ from (by ((repeat (first | assumption | exact Ext.refl _ | (exact And.left (by assumption)) | refine Ext.alloc ?_ _ | refine Ext.drew ?_ | refine Ext.drewN ?_ _ | refine Ext.setCell ?_ (by simp) _ | refine Ext.setCell ?_ (by simp; omega) _ | refine Ext.trans ?_ (by assumption))); done))) (by decide)) 1 _ (src_cells _ _ 4 rfl (by simp [Value.oneCell']) _) (by unfold maxLen; omega) (by omega) (by exact Nat.le_trans HB6.out (Ext.size (show Ext wr _ from (by ((repeat (first | assumption | exact Ext.refl _ | (exact And.left (by assumption)) | refine Ext.alloc ?_ _ | refine Ext.drew ?_ | refine Ext.drewN ?_ _ | refine Ext.setCell ?_ (by simp) _ | refine Ext.setCell ?_ (by simp; omega) _ | refine Ext.trans ?_ (by assumption))); done))))) ?_
        intro v3 Wv3 rv3
        have RV3 := Lib.hid rv3
        obtain ⟨a93, cap93, rfl, _, _⟩ := rv3.1.shape
        clear rv3
        go_wp2_with fail
        have h12 : Ext Wv1 Wv2 := by ((repeat (first | assumption | exact Ext.refl _ | (exact And.left (by assumption)) | refine Ext.alloc ?_ _ | refine Ext.drew ?_ | refine Ext.drewN ?_ _ | refine Ext.setCell ?_ (by simp) _ | refine Ext.setCell ?_ (by simp; omega) _ | refine Ext.trans ?_ (by assumption))); done)
        have hxx : Ext wx Wv2 := by ((repeat (first | assumption | exact Ext.refl _ | (exact And.left (by assumption)) | refine Ext.alloc ?_ _ | refine Ext.drew ?_ | refine Ext.drewN ?_ _ | refine Ext.setCell ?_ (by simp) _ | refine Ext.setCell ?_ (by simp; omega) _ | refine Ext.trans ?_ (by assumption))); done)
        have hR3 : NewRow (Wv2.alloc (.cells #[.int .i64 xf.func, .int .i64 xf.at_, .slice a91 xf.locals.length cap91, .slice a92 xf.stack.length cap92] 43)) Wv3 (f5 + 1) 4 (.slice ay Y.fr.length cy) (.slice a93 (Y.fr.length + 1) cap93) (Y.fr.length + 1) (Y.fr.flatMap frameF ++ [.int .i64 xf.func, .int .i64 xf.at_, .slice a91 xf.locals.length cap91, .slice a92 xf.stack.length cap92]) := RV3.out
        have hcg : Chg (fun k => rowBlock (.slice ay Y.fr.length cy) = some k) (Wv2.alloc (.cells #[.int .i64 xf.func, .int .i64 xf.at_, .slice a91 xf.locals.length cap91, .slice a92 xf.stack.length cap92] 43)) Wv3 := hR3.2.1
        have hS9 := cells5_chg (S6 _ (by ((repeat (first | assumption | exact Ext.refl _ | (exact And.left (by assumption)) | refine Ext.alloc ?_ _ | refine Ext.drew ?_ | refine Ext.drewN ?_ _ | refine Ext.setCell ?_ (by simp) _ | refine Ext.setCell ?_ (by simp; omega) _ | refine Ext.trans ?_ (by assumption))); done))) hcg HNF5.out HNX7.out
        have HS9 := Lib.hid hS9
        have hc5 := ((hyc.ext hxx).ext ((Ext.refl _).alloc (.cells #[.int .i64 xf.func, .int .i64 xf.at_, .slice a91 xf.locals.length cap91, .slice a92 xf.stack.length cap92] 43))).chg hcg HNF5.out
        obtain ⟨c5, c5'⟩ := hc5
        have HR3 := Lib.hid hR3
        clear hR3 hcg
        refine nextA_go HS9.out ?_
        refine wpAnyW_one 17 (by kernel_rfl) rfl ?_
        go_wp2_with fail
        refine nextA_go HS9.out ?_
        refine wpAnyW_one 18 (by kernel_rfl) rfl ?_
        go_wp2_with fail
        refine nextA_end rfl (by kernel_rfl) ?_
        go_wp2_with fail
        have hR1 := RV1.out
        have hR2 := RV2.out
        have hb1 := HA1.out
        have hb2 := HA2.out
        have hb3 := HA3.out
        simp only [Nat.zero_add, List.nil_append] at hR1 hR2 hb1 hb2 hb3
        have hfin := frame_fin (HYW.out) HEX2.out hxx h12 (Nat.lt_succ_self f5) hR1.1 hR2.1 hb1 hb2 hb3 HIL.out hl9 hs9 (by rw [HEY.out]; exact HR3.out) (by omega)
        go_roundw
        case rel => exact ⟨i + 1, _, by omega, by go_num, fin_ext (HRY.out) HEW.out ((HEX2.out.trans hxx).alloc _) HF5.out HR3.out, hfin, by rw [HGD4.out]; exact frame_g HYG.out⟩
        case measure => simp [intOf]; omega
      ·go_wp2_with fail
       refine nextA_go (S6 _ (by ((repeat (first | assumption | exact Ext.refl _ | (exact And.left (by assumption)) | refine Ext.alloc ?_ _ | refine Ext.drew ?_ | refine Ext.drewN ?_ _ | refine Ext.setCell ?_ (by simp) _ | refine Ext.setCell ?_ (by simp; omega) _ | refine Ext.trans ?_ (by assumption))); done))) ?_
       refine wpAnyW_one 6 (by kernel_rfl) rfl ?_
       go_wp2_with fail
       refine nextA_go (S6 _ (by ((repeat (first | assumption | exact Ext.refl _ | (exact And.left (by assumption)) | refine Ext.alloc ?_ _ | refine Ext.drew ?_ | refine Ext.drewN ?_ _ | refine Ext.setCell ?_ (by simp) _ | refine Ext.setCell ?_ (by simp; omega) _ | refine Ext.trans ?_ (by assumption))); done))) ?_
       refine wpAnyW_one 9 (by kernel_rfl) rfl ?_
       refine wpList_append_row rfl _ _ 24 rfl (f5 + 1) 3 i0 (.int .i64 0) 1 8 Tryz.underlying24 hi0 hz0 hz1 hz2 rfl (by decide) _ _ _ rfl (RowAt.nil _ _ _ _) xf.locals.length (ints xf.locals) (SrcSl.up HSL.out (HEX.out.trans (by ((repeat (first | assumption | exact Ext.refl _ | (exact And.left (by assumption)) | refine Ext.alloc ?_ _ | refine Ext.drew ?_ | refine Ext.drewN ?_ _ | refine Ext.setCell ?_ (by simp) _ | refine Ext.setCell ?_ (by simp; omega) _ | refine Ext.trans ?_ (by assumption))); done)))) (by unfold maxLen; omega) (by omega) (by exact Nat.le_trans HB6.out (Ext.size (show Ext wr _ from (by ((repeat (first | assumption | exact Ext.refl _ | (exact And.left (by assumption)) | refine Ext.alloc ?_ _ | refine Ext.drew ?_ | refine Ext.drewN ?_ _ | refine Ext.setCell ?_ (by simp) _ | refine Ext.setCell ?_ (by simp; omega) _ | refine Ext.trans ?_ (by assumption))); done))))) ?_
       intro v1 Wv1 rv1
       have RV1 := Lib.hid rv1
       have HA1 := Lib.hid (fresh_row rv1 (show Ext wx _ from (by ((repeat (first | assumption | exact Ext.refl _ | (exact And.left (by assumption)) | refine Ext.alloc ?_ _ | refine Ext.drew ?_ | refine Ext.drewN ?_ _ | refine Ext.setCell ?_ (by simp) _ | refine Ext.setCell ?_ (by simp; omega) _ | refine Ext.trans ?_ (by assumption))); done))))
       have hxv1 := rv_ext rv1
       obtain ⟨a91, cap91, rfl, _, _⟩ := rv1.1.shape
       clear rv1
       go_wp2_with fail
       refine nextA_go (S6 Wv1 (by ((repeat (first | assumption | exact Ext.refl _ | (exact And.left (by assumption)) | refine Ext.alloc ?_ _ | refine Ext.drew ?_ | refine Ext.drewN ?_ _ | refine Ext.setCell ?_ (by simp) _ | refine Ext.setCell ?_ (by simp; omega) _ | refine Ext.trans ?_ (by assumption))); done))) ?_
       refine wpAnyW_one 13 (by kernel_rfl) rfl ?_
       refine wpList_append_row rfl _ _ 24 rfl (f5 + 1) 3 i0 (.int .i64 0) 1 8 Tryz.underlying24 hi0 hz0 hz1 hz2 rfl (by decide) _ _ _ rfl (RowAt.nil _ _ _ _) xf.stack.length (ints xf.stack) (SrcSl.up HSS.out (HEX.out.trans (by ((repeat (first | assumption | exact Ext.refl _ | (exact And.left (by assumption)) | refine Ext.alloc ?_ _ | refine Ext.drew ?_ | refine Ext.drewN ?_ _ | refine Ext.setCell ?_ (by simp) _ | refine Ext.setCell ?_ (by simp; omega) _ | refine Ext.trans ?_ (by assumption))); done)))) (by unfold maxLen; omega) (by omega) (by exact Nat.le_trans HB6.out (Ext.size (show Ext wr _ from (by ((repeat (first | assumption | exact Ext.refl _ | (exact And.left (by assumption)) | refine Ext.alloc ?_ _ | refine Ext.drew ?_ | refine Ext.drewN ?_ _ | refine Ext.setCell ?_ (by simp) _ | refine Ext.setCell ?_ (by simp; omega) _ | refine Ext.trans ?_ (by assumption))); done))))) ?_
       intro v2 Wv2 rv2
       have RV2 := Lib.hid rv2
       have HA2 := Lib.hid (fresh_row rv2 (show Ext wx _ from (by ((repeat (first | assumption | exact Ext.refl _ | (exact And.left (by assumption)) | refine Ext.alloc ?_ _ | refine Ext.drew ?_ | refine Ext.drewN ?_ _ | refine Ext.setCell ?_ (by simp) _ | refine Ext.setCell ?_ (by simp; omega) _ | refine Ext.trans ?_ (by assumption))); done))))
       have HA3 := Lib.hid (fresh_row rv2 (show Ext Wv1 _ from (by ((repeat (first | assumption | exact Ext.refl _ | (exact And.left (by assumption)) | refine Ext.alloc ?_ _ | refine Ext.drew ?_ | refine Ext.drewN ?_ _ | refine Ext.setCell ?_ (by simp) _ | refine Ext.setCell ?_ (by simp; omega) _ | refine Ext.trans ?_ (by assumption))); done))))
       have hxv2 := rv_ext rv2
       obtain ⟨a92, cap92, rfl, _, _⟩ := rv2.1.shape
       clear rv2
       go_wp2_with fail
       refine nextA_go (S6 Wv2 (by ((repeat (first | assumption | exact Ext.refl _ | (exact And.left (by assumption)) | refine Ext.alloc ?_ _ | refine Ext.drew ?_ | refine Ext.drewN ?_ _ | refine Ext.setCell ?_ (by simp) _ | refine Ext.setCell ?_ (by simp; omega) _ | refine Ext.trans ?_ (by assumption))); done))) ?_
       refine wpAnyW_one 14 (by kernel_rfl) rfl ?_
       go_wp2_with fail
       refine nextA_go (S6 Wv2 (by ((repeat (first | assumption | exact Ext.refl _ | (exact And.left (by assumption)) | refine Ext.alloc ?_ _ | refine Ext.drew ?_ | refine Ext.drewN ?_ _ | refine Ext.setCell ?_ (by simp) _ | refine Ext.setCell ?_ (by simp; omega) _ | refine Ext.trans ?_ (by assumption))); done))) ?_
       refine wpAnyW_one 15 (by kernel_rfl) rfl ?_
       go_wp2_with fail
       refine nextA_go (S6 _ (by ((repeat (first | assumption | exact Ext.refl _ | (exact And.left (by assumption)) | refine Ext.alloc ?_ _ | refine Ext.drew ?_ | refine Ext.drewN ?_ _ | refine Ext.setCell ?_ (by simp) _ | refine Ext.setCell ?_ (by simp; omega) _ | refine Ext.trans ?_ (by assumption))); done))) ?_
       refine wpAnyW_one 16 (by kernel_rfl) rfl ?_
       refine wpList_append_row rfl _ _ 39 rfl (f5 + 1) 43 i1 (.agg #[.int .i64 0, .int .i64 0, .slice none 0 0, .slice none 0 0]) 4 64 Tryz.underlying39 hi1 hz3 hz4 hz5 rfl (by decide) _ _ _ rfl (HRY.out.ext (show Ext wr _ from (by ((repeat (first | assumption | exact Ext.refl _ | (exact And.left (by assumption)) | refine Ext.alloc ?_ _ | refine Ext.drew ?_ | refine Ext.drewN ?_ _ | refine Ext.setCell ?_ (by simp) _ | refine Ext.setCell ?_ (by simp; omega) _ | refine Ext.trans ?_ (by assumption))); done))) (by decide)) 1 _ (src_cells _ _ 4 rfl (by simp [Value.oneCell']) _) (by unfold maxLen; omega) (by omega) (by exact Nat.le_trans HB6.out (Ext.size (show Ext wr _ from (by ((repeat (first | assumption | exact Ext.refl _ | (exact And.left (by assumption)) | refine Ext.alloc ?_ _ | refine Ext.drew ?_ | refine Ext.drewN ?_ _ | refine Ext.setCell ?_ (by simp) _ | refine Ext.setCell ?_ (by simp; omega) _ | refine Ext.trans ?_ (by assumption))); done))))) ?_
       intro v3 Wv3 rv3
       have RV3 := Lib.hid rv3
       obtain ⟨a93, cap93, rfl, _, _⟩ := rv3.1.shape
       clear rv3
       go_wp2_with fail
       have h12 : Ext Wv1 Wv2 := by ((repeat (first | assumption | exact Ext.refl _ | (exact And.left (by assumption)) | refine Ext.alloc ?_ _ | refine Ext.drew ?_ | refine Ext.drewN ?_ _ | refine Ext.setCell ?_ (by simp) _ | refine Ext.setCell ?_ (by simp; omega) _ | refine Ext.trans ?_ (by assumption))); done)
       have hxx : Ext wx Wv2 := by ((repeat (first | assumption | exact Ext.refl _ | (exact And.left (by assumption)) | refine Ext.alloc ?_ _ | refine Ext.drew ?_ | refine Ext.drewN ?_ _ | refine Ext.setCell ?_ (by simp) _ | refine Ext.setCell ?_ (by simp; omega) _ | refine Ext.trans ?_ (by assumption))); done)
       have hR3 : NewRow (Wv2.alloc (.cells #[.int .i64 xf.func, .int .i64 xf.at_, .slice a91 xf.locals.length cap91, .slice a92 xf.stack.length cap92] 43)) Wv3 (f5 + 1) 4 (.slice ay Y.fr.length cy) (.slice a93 (Y.fr.length + 1) cap93) (Y.fr.length + 1) (Y.fr.flatMap frameF ++ [.int .i64 xf.func, .int .i64 xf.at_, .slice a91 xf.locals.length cap91, .slice a92 xf.stack.length cap92]) := RV3.out
       have hcg : Chg (fun k => rowBlock (.slice ay Y.fr.length cy) = some k) (Wv2.alloc (.cells #[.int .i64 xf.func, .int .i64 xf.at_, .slice a91 xf.locals.length cap91, .slice a92 xf.stack.length cap92] 43)) Wv3 := hR3.2.1
       have hS9 := cells5_chg (S6 _ (by ((repeat (first | assumption | exact Ext.refl _ | (exact And.left (by assumption)) | refine Ext.alloc ?_ _ | refine Ext.drew ?_ | refine Ext.drewN ?_ _ | refine Ext.setCell ?_ (by simp) _ | refine Ext.setCell ?_ (by simp; omega) _ | refine Ext.trans ?_ (by assumption))); done))) hcg HNF5.out HNX7.out
       have HS9 := Lib.hid hS9
       have hc5 := ((hyc.ext hxx).ext ((Ext.refl _).alloc (.cells #[.int .i64 xf.func, .int .i64 xf.at_, .slice a91 xf.locals.length cap91, .slice a92 xf.stack.length cap92] 43))).chg hcg HNF5.out
       obtain ⟨c5, c5'⟩ := hc5
       have HR3 := Lib.hid hR3
       clear hR3 hcg
       refine nextA_go HS9.out ?_
       refine wpAnyW_one 17 (by kernel_rfl) rfl ?_
       go_wp2_with fail
       refine nextA_go HS9.out ?_
       refine wpAnyW_one 18 (by kernel_rfl) rfl ?_
       go_wp2_with fail
       refine nextA_end rfl (by kernel_rfl) ?_
       go_wp2_with fail
       have hR1 := RV1.out
       have hR2 := RV2.out
       have hb1 := HA1.out
       have hb2 := HA2.out
       have hb3 := HA3.out
       simp only [Nat.zero_add, List.nil_append] at hR1 hR2 hb1 hb2 hb3
       have hfin := frame_fin (HYW.out) HEX2.out hxx h12 (Nat.lt_succ_self f5) hR1.1 hR2.1 hb1 hb2 hb3 HIL.out hl9 hs9 (by rw [HEY.out]; exact HR3.out) (by omega)
       go_roundw
       case rel => exact ⟨i + 1, _, by omega, by go_num, fin_ext (HRY.out) HEW.out ((HEX2.out.trans hxx).alloc _) HF5.out HR3.out, hfin, by rw [HGD4.out]; exact frame_g HYG.out⟩
       case measure => simp [intOf]; omega
     ·obtain rfl : i = fb.frames.length := by omega
      have hyg := HYG.out
      rw [List.take_length] at hyg
      obtain ⟨av, cv, ev, hcv, hmv⟩ := (HOK.out).row.shape
      obtain ⟨ay, cy, ey, hcy, hmy⟩ := (HYW.out).fo.row.shape
      obtain ⟨z0, z0'⟩ := (HOK.out).c0.ext HEKW.out
      obtain ⟨y0, y0'⟩ := (HYW.out).c0
      obtain ⟨y1, y1'⟩ := (HYW.out).c1
      rw [ev] at z0
      rw [ey] at y0
      have HEV := Lib.hid ev
      have HEY := Lib.hid ey
      have HRK : Hid (RowAt wk w1.heap.size 2 (.slice av P.fs.length cv) P.fs.length (P.fs.flatMap fiberF)) := by unfold Hid; rw [← ev]; exact (HOK.out).row
      have hl9 : P.fs.length ≤ 900 := by
       have h1 := congrArg (fun g => g.fibers.length) HGK.out
       simp only [PState.g, List.length_map, List.length_take] at h1
       omega
      have HBK : Hid (w1.heap.size ≤ wr.heap.size) := (HEK.out.trans HEKW.out).size
      have HNO : Hid (¬ rowBlock (.slice av P.fs.length cv) = some o3) := fun e => (HOK.out).dis.1 (PState.mem_vfs (by rw [HEV.out]; exact e))
      clear ev ey hlt2 hi
      go_wp2_with (first
       | (at_builtin; refine wpList_append_row rfl _ _ 23 rfl w1.heap.size 41 i2 (.agg #[.slice none 0 0, .int .i64 0]) 2 32 Tryz.underlying23 hi2 hz6 hz7 hz8 rfl (by decide) _ _ _ rfl (by exact (HRK.out.ext (HEKW.out.alloc _) (by decide))) 1 _ (by exact src_cells _ _ 2 rfl (by simp [Value.oneCell']) _) (by unfold maxLen; omega) (by omega) (by exact Nat.le_trans HBK.out (Ext.size ((Ext.refl _).alloc _))) ?_; intro v1 Wv1 rv1; have RV := Lib.hid rv1; obtain ⟨q0, q0'⟩ := ((HOK.out).c0.ext (HEKW.out.alloc (.cells #[.slice ay Y.fr.length cy, .int .i64 Y.caller] 41))).chg rv1.2.1 HNO.out; obtain ⟨a9, cap9, rfl, _, _⟩ := rv1.1.shape; clear rv1))
      have hR : NewRow (wr.alloc (.cells #[.slice ay Y.fr.length cy, .int .i64 Y.caller] 41)) Wv1 w1.heap.size 2 (.slice av P.fs.length cv) (.slice a9 (P.fs.length + 1) cap9) (P.fs.length + 1) (P.fs.flatMap fiberF ++ [.slice ay Y.fr.length cy, .int .i64 Y.caller]) := RV.out
      have hfin := fiber_fin (HOK.out) (HYW.out) HF5.out HEKW.out 41 (by rw [HEV.out, HEY.out]; exact hR) (by omega)
      go_roundw
      case rel => exact ⟨k + 1, _, by omega, by go_num, (Chg.ext_from (HEK.out.trans (HEKW.out.alloc _)) hR.2.1 (fun g e => HRK.out.le g e)).setCell (p := ⟨o3, 0, none⟩) (HOK.out).le _, hfin, by rw [HGD.out]; exact fiber_g HGK.out hyg⟩
      case measure => simp [intOf]; omega
   ·obtain rfl : k = fs.length := by omega
    have hg2 := HGK.out
    rw [List.take_length] at hg2
    obtain ⟨z0, z0'⟩ := (HOK.out).c0
    obtain ⟨z1, z1'⟩ := (HOK.out).c1
    obtain ⟨z2, z2'⟩ := (HOK.out).c2
    have hR := HR1.out
    obtain ⟨r0, r0'⟩ := (hR.1).ext HEK.out
    obtain ⟨r1, r1'⟩ := (hR.2.1).ext HEK.out
    obtain ⟨r2, r2'⟩ := (hR.2.2).ext HEK.out
    obtain ⟨av, cv, ev, _, _⟩ := (HOK.out).row.shape
    obtain ⟨ao9, co9, eo, _, _⟩ := (HOK.out).out.shape
    rw [ev] at z0
    rw [eo] at z2
    have HEV := Lib.hid ev
    have HEO := Lib.hid eo
    clear hR hlt ev eo
    go_wp2_with fail
    refine bodyPost_ret (results_cell_mid rfl _ _ (w.heap.size + 1) 0 _ _ rfl (box3 ⟨r0, r0'⟩ ⟨r1, r1'⟩ ⟨r2, r2'⟩ _ _ _) rfl rfl (by kernel_rfl)) rfl ?_
    have hlt9 := (HOK.out).rows.lt
    refine ⟨⟨P, by rw [HEV.out, HEO.out], ?_, hg2⟩, (((HE1.out.trans HEK.out).setCell (p := ⟨w.heap.size + 1, 0, none⟩) (Nat.le_succ _) _).setCell (p := ⟨w.heap.size + 1, 1, none⟩) (Nat.le_succ _) _).setCell (p := ⟨w.heap.size + 1, 2, none⟩) (Nat.le_succ _) _⟩
    have hO9 := (HOK.out).chg (chg3 wk (w.heap.size + 1) (.slice av P.fs.length cv) (.int .i64 P.now) (.slice ao9 P.out.length co9)) (fun e => by have h1 := (HOK.out).le; have h2 := HBS.out; have h3 : o3 = w.heap.size + 1 := e; omega) (fun g hg e => by have h1 := (HOK.out).ge g (List.mem_cons_of_mem _ hg); have h2 := HBS.out; have h3 : g = w.heap.size + 1 := e; omega)
    exact hO9.rows.mono (by have h2 := HBS.out; omega)
end Go.Proofs.YtgahbngbpfilgaaGreat
end
section
set_option maxHeartbeats 4000000
set_option maxRecDepth 100000
namespace Go.Proofs.YtgahbngbpfilgaaGreat
open Go Go.RowKit
def stepG (p : List GFunc) (s : GState) : Int × GState := if s.now < 0 then (8, ⟨[], 0, []⟩) else if (doneG p s).1 = 0 then (0, (doneG p s).2) else ((doneG p s).1, ⟨[], 0, []⟩)
theorem StateV.few {w : World} {S : Nat → Prop} {v : Value} {s : GState} (h : StateV w S v s) : ∃ a c b d, v = .agg #[.slice a s.fibers.length c, .int .i64 s.now, .slice b s.out.length d] := by
 obtain ⟨x, y, rfl, ⟨a, c, rfl, _⟩, _, ⟨b, d, rfl, _⟩⟩ := h
 exact ⟨a, c, b, d, rfl⟩
theorem OwnR.state {W : World} {B : Nat} {P : PState} (h : OwnR W B P) (S : Nat → Prop) (hS : ∀ g, B ≤ g → S g) : StateV W S (.agg #[P.vfs, .int .i64 P.now, P.vo]) P.g := by
 have f := h.few
 refine ⟨_, _, rfl, Sl.map' PFiber.g (Sl.of_row fiberF h.row (fun _ => rfl) (by omega) fun b o y hb _ hy hc => ?_), h.i.1, Ints.of_row (by rw [flatMap_intF]; exact h.out) (show P.out.length * 8 ≤ _ by omega) h.i.2 S (fun b hb _ => hS b hb)⟩
 have hy' := h.fs y hy
 exact ⟨⟨_, hc 0 _ rfl, hy'.frames S hS⟩, hS b hb, hc 1 _ rfl, hy'.i⟩
theorem OwnR.chg {M : Nat → Prop} {W W' : World} {B : Nat} {P : PState} (h : OwnR W B P) (hc : Chg M W W') (hM : ∀ g ∈ P.bl, ¬ M g) : OwnR W' B P :=
 ⟨h.i, h.row.chg hc (fun g e => hM g (PState.mem_vfs e)) (by decide), h.out.chg hc (fun g e => hM g (PState.mem_vo e)) (by decide), fun y hy => (h.fs y hy).chg hc (fun g hg => hM g (PState.mem_fs hy hg)), h.few, h.nodup⟩
theorem OwnR.ge {W : World} {B : Nat} {P : PState} (h : OwnR W B P) : ∀ g ∈ P.bl, B ≤ g := by
 intro g hg
 unfold PState.bl at hg
 rcases List.mem_append.1 hg with h1 | h1
 ·rcases List.mem_append.1 h1 with h2 | h2
  ·exact h.row.le g (by simpa using h2)
  ·exact h.out.le g (by simpa using h2)
 ·obtain ⟨y, hy, h2⟩ := List.mem_flatMap.1 h1
  unfold PFiber.bl at h2
  rcases List.mem_append.1 h2 with h3 | h3
  ·exact (h.fs y hy).row.le g (by simpa using h3)
  ·obtain ⟨x, hx, h4⟩ := List.mem_flatMap.1 h3
   unfold PFrame.bl at h4
   rcases List.mem_append.1 h4 with h5 | h5
   ·exact ((h.fs y hy).fr x hx).l.le g (by simpa using h5)
   ·exact ((h.fs y hy).fr x hx).s.le g (by simpa using h5)
def StateO (W : World) (B : Nat) (x : Value) (s : GState) : Prop := ∃ P, x = .agg #[P.vfs, .int .i64 P.now, P.vo] ∧ OwnR W B P ∧ P.g = s
theorem StateO.state {W : World} {B : Nat} {x : Value} {s : GState} (h : StateO W B x s) : StateV W (B ≤ ·) x s := by
 obtain ⟨P, rfl, h1, rfl⟩ := h
 exact h1.state _ (fun _ h => h)
theorem StateO.few {W : World} {B : Nat} {x : Value} {s : GState} (h : StateO W B x s) : ∃ a c b d, x = .agg #[.slice a s.fibers.length c, .int .i64 s.now, .slice b s.out.length d] := h.state.few
theorem StateO.chg {M : Nat → Prop} {W W' : World} {B : Nat} {x : Value} {s : GState} (h : StateO W B x s) (hc : Chg M W W') (hM : ∀ g, B ≤ g → ¬ M g) : StateO W' B x s := by
 obtain ⟨P, e, h1, h2⟩ := h
 exact ⟨P, e, h1.chg hc (fun g hg => hM g (h1.ge g hg)), h2⟩
theorem StateO.ext {W W' : World} {B : Nat} {x : Value} {s : GState} (h : StateO W B x s) (he : Ext W W') : StateO W' B x s := h.chg (M := fun _ => False) (Chg.of_ext he) (fun _ _ h => h)
theorem StateO.mono {W : World} {B B' : Nat} {x : Value} {s : GState} (h : StateO W B x s) (hb : B' ≤ B) : StateO W B' x s := by
 obtain ⟨P, e, h1, h2⟩ := h
 exact ⟨P, e, h1.mono hb, h2⟩
theorem stateO_nil (w : World) (B : Nat) : StateO w B (.agg #[.slice none 0 0, .int .i64 0, .slice none 0 0]) ⟨[], 0, []⟩ :=
 ⟨⟨[], 0, [], .slice none 0 0, .slice none 0 0⟩, rfl, ⟨⟨I64.zero, (fun n hn => by cases hn)⟩, RowAt.nil _ _ _ _, RowAt.nil _ _ _ _, (fun y hy => by cases hy), ⟨by show 0 ≤ 1000; omega, by show 0 ≤ 1000; omega⟩, by unfold PState.bl; simp [rowBlock]⟩, rfl⟩
theorem stays_below {S : Nat → Prop} {w w' : World} {B : Nat} (he : Ext w w') (hB : w.heap.size ≤ B) : Stays S (· < B) w w' := fun b o v _ hc => ⟨Ext.cell he hc, by have := lt_of_cell hc; show b < B; omega⟩
theorem stepped_any (p : List GFunc) (v : Value) (S T : Nat → Prop) (s : GState) (vs : Value) (w : World) (hp : Funcs w S v p) (hs : StateV w T vs s) (hf : FewS s) (hfit : s.now < 0 ∨ OpFit p s) :
  Calls Tryz.prog 35 #[v, vs] w fun e w' => (∃ x, e = .returned (.tuple #[x, .int .i64 (stepG p s).1]) ∧ StateO w' w.heap.size x (stepG p s).2) ∧ Ext w w' := by
 have HP := Lib.hid hp
 have HS := Lib.hid hs
 obtain ⟨a, c, b, d, rfl⟩ := hs.few
 obtain ⟨ap, cp, rfl, _, _, _⟩ := hp
 have RA := alloc_keep
 have c0 := Lib.hid (Cx.new (w.alloc (.cells #[.slice a s.fibers.length c, .int .i64 s.now, .slice b s.out.length d] 26)) [.slice none 0 0, .int .i64 0, .slice none 0 0] 26 (j := 0) rfl)
 have c1 := Lib.hid (Cx.new (w.alloc (.cells #[.slice a s.fibers.length c, .int .i64 s.now, .slice b s.out.length d] 26)) [.slice none 0 0, .int .i64 0, .slice none 0 0] 26 (j := 1) rfl)
 have c2 := Lib.hid (Cx.new (w.alloc (.cells #[.slice a s.fibers.length c, .int .i64 s.now, .slice b s.out.length d] 26)) [.slice none 0 0, .int .i64 0, .slice none 0 0] 26 (j := 2) rfl)
 have hs0 : (w.alloc (.cells #[.slice a s.fibers.length c, .int .i64 s.now, .slice b s.out.length d] 26)).heap.size = w.heap.size + 1 := Array.size_push _
 rw [hs0] at c0 c1 c2
 have HS0 := Lib.hid hs0
 clear hs0
 by_cases hn : s.now < 0
 ·have T1 : decide (s.now < 0) = true := decide_eq_true hn
  have HG : Hid (stepG p s = (8, ⟨[], 0, []⟩)) := by unfold Hid stepG; rw [if_pos hn]
  clear hn
  obtain ⟨⟨r0, r0'⟩, ⟨r1, r1'⟩, ⟨r2, r2'⟩⟩ := (⟨c0.out, c1.out, c2.out⟩ : _ ∧ _ ∧ _)
  go_enter Tryz.func35, Tryz.ntmps35
  go_wp2_with fail
  refine bodyPost_ret (results_cell2 rfl _ _ (w.heap.size + 1) 0 [.slice none 0 0, .int .i64 0, .slice none 0 0] _ rfl (range3 r0 r1 r2) rfl rfl (by kernel_rfl)) rfl ?_
  rw [HG.out]
  exact ⟨⟨_, rfl, stateO_nil _ _⟩, ((Ext.refl w).alloc _).alloc _⟩
 ·have T1 : decide (s.now < 0) = false := decide_eq_false hn
  have hfit := hfit.resolve_left hn
  have HFIT := Lib.hid hfit
  have HFEW := Lib.hid hf
  have HN := Lib.hid hn
  clear hf hn hfit
  have HE1 : Hid (Ext w ((w.alloc (.cells #[.slice a s.fibers.length c, .int .i64 s.now, .slice b s.out.length d] 26)).alloc (.cells #[.slice none 0 0, .int .i64 0, .slice none 0 0] 26))) := ((Ext.refl w).alloc _).alloc _
  have HS1 : Hid (((w.alloc (.cells #[.slice a s.fibers.length c, .int .i64 s.now, .slice b s.out.length d] 26)).alloc (.cells #[.slice none 0 0, .int .i64 0, .slice none 0 0] 26)).heap.size = w.heap.size + 2) := by unfold Hid; simp
  go_enter Tryz.func35, Tryz.ntmps35
  go_upto_region 4 with (first
   | (go_at_call 7; (with_reducible refine (ownState_any s _ T _ (StateV.stays (Ext.stays (by ((repeat (first | assumption | exact Ext.refl _ | (exact And.left (by assumption)) | refine Ext.alloc ?_ _ | refine Ext.drew ?_ | refine Ext.drewN ?_ _ | refine Ext.setCell ?_ (by simp) _ | refine Ext.setCell ?_ (by simp; omega) _ | refine Ext.trans ?_ (by assumption))); done))) HS.out) HFEW.out).mono ?_); rintro e w2 ⟨⟨P, rfl, hO, hg⟩, hx2⟩; obtain ⟨av, cv, ev, _, _⟩ := hO.row.shape; obtain ⟨ao, co, eo, _, _⟩ := hO.out.shape; rw [ev, eo]; have HO := Lib.hid hO; have HGP := Lib.hid hg; have HX2 := Lib.hid hx2; have HEV := Lib.hid ev; have HEO := Lib.hid eo; clear hO hg hx2 ev eo))
  have hO := HO.out
  rw [HS1.out] at hO
  have hb3 : OwnS (w2.alloc (.cells #[.slice av P.fs.length cv, .int .i64 P.now, .slice ao P.out.length co] 26)) (w.heap.size + 2) w2.heap.size P :=
   (hO.ext ((Ext.refl _).alloc _)).box (by rw [HEV.out]; exact Cx.new w2 [.slice av P.fs.length cv, .int .i64 P.now, .slice ao P.out.length co] _ (j := 0) rfl) (Cx.new w2 [.slice av P.fs.length cv, .int .i64 P.now, .slice ao P.out.length co] _ (j := 1) rfl) (by rw [HEO.out]; exact Cx.new w2 [.slice av P.fs.length cv, .int .i64 P.now, .slice ao P.out.length co] _ (j := 2) rfl)
    (by have := (HX2.out).size; have := HS1.out; omega) (fun hm => by have := hO.lt _ hm; omega)
  have HB3 := Lib.hid hb3
  have HE3 : Hid (Ext w (w2.alloc (.cells #[.slice av P.fs.length cv, .int .i64 P.now, .slice ao P.out.length co] 26))) := ((HE1.out).trans HX2.out).alloc _
  have HC3 := Lib.hid (⟨((c0.out).ext HX2.out).ext ((Ext.refl _).alloc (.cells #[.slice av P.fs.length cv, .int .i64 P.now, .slice ao P.out.length co] 26)), ((c1.out).ext HX2.out).ext ((Ext.refl _).alloc (.cells #[.slice av P.fs.length cv, .int .i64 P.now, .slice ao P.out.length co] 26)), ((c2.out).ext HX2.out).ext ((Ext.refl _).alloc (.cells #[.slice av P.fs.length cv, .int .i64 P.now, .slice ao P.out.length co] 26))⟩ : _ ∧ _ ∧ _)
  generalize w2.alloc (.cells #[.slice av P.fs.length cv, .int .i64 P.now, .slice ao P.out.length co] 26) = w3 at *
  have hp3 : Funcs w3 (· < w.heap.size + 2) (.slice ap p.length cp) p := Funcs.stays (stays_below HE3.out (by omega)) HP.out
  have HP3 := Lib.hid hp3
  have HFIT3 : Hid (OpFit p P.g) := by unfold Hid; rw [HGP.out]; exact HFIT.out
  have HFEW3 : Hid (FewS P.g) := by unfold Hid; rw [HGP.out]; exact HFEW.out
  obtain ⟨bb, hbb⟩ : ∃ bb, w2.heap.size = bb := ⟨_, rfl⟩
  rw [hbb] at HB3 ⊢
  clear hb3 hO hp3 c0 c1 c2 hbb
  rename World => w3
  by_cases he : (doneG p s).1 = 0
  ·have HG : Hid (stepG p s = (0, (doneG p s).2)) := by unfold Hid stepG; rw [if_neg (show ¬ s.now < 0 by have := HN.out; omega), if_pos he]
   have HE := Lib.hid he
   clear he
   go_upto_region 7 with (first
    | (go_at_call 60; (with_reducible refine (done_any p _ HP3.out HB3.out HFEW3.out HFIT3.out).mono ?_); rintro e w4 ⟨rfl, d4⟩; rw [HGP.out, HE.out]; rw [HGP.out] at d4; have D4 := Lib.hid d4; clear d4))
   obtain ⟨⟨P4, o4, g4, s4⟩, k4⟩ := (D4.out).turn HE.out
   obtain ⟨av4, cv4, ev4, _, _⟩ := o4.row.shape
   obtain ⟨ao4, co4, eo4, _, _⟩ := o4.out.shape
   obtain ⟨z0, z0'⟩ := o4.c0
   obtain ⟨z1, z1'⟩ := o4.c1
   obtain ⟨z2, z2'⟩ := o4.c2
   rw [ev4] at z0
   rw [eo4] at z2
   have hnb : ¬ (w.heap.size + 1 ∈ bb :: P.bl) := fun hm => by have := (HB3.out).ge _ hm; omega
   obtain ⟨r0, r0'⟩ := (HC3.out).1.chg k4 hnb
   obtain ⟨r1, r1'⟩ := (HC3.out).2.1.chg k4 hnb
   obtain ⟨r2, r2'⟩ := (HC3.out).2.2.chg k4 hnb
   have hE4 : Ext w w4 := Chg.ext_from HE3.out k4 (fun n hn => by have := (HB3.out).ge n hn; omega)
   have HE4 := Lib.hid hE4
   have HO4 := Lib.hid o4
   have HG4 := Lib.hid g4
   have HEV4 := Lib.hid ev4
   have HEO4 := Lib.hid eo4
   clear o4 g4 s4 k4 ev4 eo4 hnb hE4
   go_wp2_with fail
   refine bodyPost_ret (results_cell2 rfl _ _ (w.heap.size + 1) 0 _ _ rfl (box3 ⟨r0, r0'⟩ ⟨r1, r1'⟩ ⟨r2, r2'⟩ _ _ _) rfl rfl (by kernel_rfl)) rfl ?_
   rw [HG.out]
   refine ⟨⟨_, rfl, ?_⟩, ((HE4.out.setCell (p := ⟨w.heap.size + 1, 0, none⟩) (Nat.le_succ _) _).setCell (p := ⟨w.heap.size + 1, 1, none⟩) (Nat.le_succ _) _).setCell (p := ⟨w.heap.size + 1, 2, none⟩) (Nat.le_succ _) _⟩
   have h9 := (HO4.out).chg (chg3 w4 (w.heap.size + 1) (.slice av4 P4.fs.length cv4) (.int .i64 P4.now) (.slice ao4 P4.out.length co4)) (fun e => by have h1 := (HO4.out).le; have h2 : bb = w.heap.size + 1 := e; omega) (fun g hg e => by have h1 := (HO4.out).ge g (List.mem_cons_of_mem _ hg); have h2 : g = w.heap.size + 1 := e; omega)
   exact ⟨P4, by rw [HEV4.out, HEO4.out], h9.rows.mono (by omega), HG4.out⟩
  ·have HG : Hid (stepG p s = ((doneG p s).1, ⟨[], 0, []⟩)) := by unfold Hid stepG; rw [if_neg (show ¬ s.now < 0 by have := HN.out; omega), if_neg he]
   have TE : ((doneG p s).1 != 0) = true := bne_iff_ne.2 he
   obtain ⟨re, hre⟩ : ∃ re, (doneG p s).1 = re := ⟨_, rfl⟩
   rw [hre] at TE HG
   have HRE := Lib.hid hre
   clear he hre
   go_upto_region 6 with (first
    | (go_at_call 60; (with_reducible refine (done_any p _ HP3.out HB3.out HFEW3.out HFIT3.out).mono ?_); rintro e w4 ⟨rfl, d4⟩; rw [HGP.out, HRE.out]; have K4 := Lib.hid d4.chg; clear d4))
   have hnb : ¬ (w.heap.size + 1 ∈ bb :: P.bl) := fun hm => by have := (HB3.out).ge _ hm; omega
   obtain ⟨r0, r0'⟩ := (HC3.out).1.chg K4.out hnb
   obtain ⟨r1, r1'⟩ := (HC3.out).2.1.chg K4.out hnb
   obtain ⟨r2, r2'⟩ := (HC3.out).2.2.chg K4.out hnb
   have HE4 : Hid (Ext w w4) := Chg.ext_from HE3.out K4.out (fun n hn => by have := (HB3.out).ge n hn; omega)
   clear hnb
   go_wp2_with fail
   refine bodyPost_ret (results_cell2 rfl _ _ (w.heap.size + 1) 0 [.slice none 0 0, .int .i64 0, .slice none 0 0] _ rfl (box3 ⟨r0, r0'⟩ ⟨r1, r1'⟩ ⟨r2, r2'⟩ _ _ _) rfl rfl (by kernel_rfl)) rfl ?_
   rw [HG.out]
   exact ⟨⟨_, rfl, stateO_nil _ _⟩, ((HE4.out.setCell (p := ⟨w.heap.size + 1, 0, none⟩) (Nat.le_succ _) _).setCell (p := ⟨w.heap.size + 1, 1, none⟩) (Nat.le_succ _) _).setCell (p := ⟨w.heap.size + 1, 2, none⟩) (Nat.le_succ _) _⟩
end Go.Proofs.YtgahbngbpfilgaaGreat
end
