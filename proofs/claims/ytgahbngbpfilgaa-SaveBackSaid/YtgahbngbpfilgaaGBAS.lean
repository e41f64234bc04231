/- Merged texts: contracts and plain facts, one part behind another; each part begins with what it says. -/
import Derived.Test.YtgahbngbpfilgaaGBAF
import Derived.Test.YtgahbngbpfilgaaGBAP
import Derived.Test.YtgahbngbpfilgaaGBAQ
import Derived.Test.YtgahbngbpfilgaaGBAR
import Derived.BigRegion
section
/- The engine of package step: resume. -/
set_option maxHeartbeats 4000000
set_option maxRecDepth 100000
namespace Go.Proofs.Ytgahbngbpfilgaa
open Go Go.RowKit

theorem LineRetS.ll {B : Nat} {s : GState} {e : Ending} {w : World} (h : LineRetS B s e w) : ∃ a c ok, e = .returned (.tuple #[.slice a (lineLL s).length c, .bool ok]) ∧ Ints w (B ≤ ·) (.slice a (lineLL s).length c) (lineLL s) := by
  unfold LineRetS at h
  unfold lineLL
  cases hl : lineS s with
  | none => rw [hl] at h; exact ⟨none, 0, false, h, Sl.nil _ _ _⟩
  | some l => rw [hl] at h; obtain ⟨a, c, e1, h1⟩ := h; exact ⟨a, c, true, e1, h1⟩

/-- Who can be resumed is fresh, or not at its first op. -/
def FreshFit (p : List GFunc) (s : GState) : Prop := ∀ f : GFiber, f = (popG (popG s)).fibers.getD (lastV (popG s)).toNat default → 0 ≤ lastV (popG s) → lastV (popG s) < (popG (popG s)).fibers.length → lastV (popG s) ∉ lineLL (popG (popG s)) → 0 < f.frames.length →
  freshB p f = decide ((topOf f).at_ = 0) ∧ ∀ h : 0 < f.frames.length, 0 ≤ f.frames[0].func ∧ f.frames[0].func < p.length

end Go.Proofs.Ytgahbngbpfilgaa
end
section
/- The engine of package step: far. -/
set_option maxHeartbeats 4000000
set_option maxRecDepth 100000
namespace Go.Proofs.Ytgahbngbpfilgaa
open Go Go.RowKit

/-- Bounds of a state whose op is done. -/
structure FarFit (p : List GFunc) (s : GState) (k : Int) : Prop where
  out : s.out.length ≤ 30
  fibers : s.fibers.length ≤ 5
  frames : (curF s).frames.length ≤ 6
  fresh : k = 14 → FreshFit p s

end Go.Proofs.Ytgahbngbpfilgaa
end
section
/- The engine of package step: do. -/
set_option maxHeartbeats 8000000
set_option maxRecDepth 100000
namespace Go.Proofs.Ytgahbngbpfilgaa
open Go Go.RowKit

end Go.Proofs.Ytgahbngbpfilgaa
end
section
/- Contract of the document's waits and fresh. -/
set_option maxHeartbeats 4000000
set_option maxRecDepth 100000
namespace Go.Proofs.Ytgahbngbpfilgaa
open Go Go.RowKit

theorem frameB_nat {p : List GFunc} (hz : progErr p = 0) {x : GFrame} (h : frameB p x = true) : ∃ (n m : Nat) (hn : n < p.length), x.func = n ∧ x.at_ = m ∧ m < p[n].code.length ∧ (x.locals.length : Int) = p[n].locals ∧ 0 ≤ (hgt p n).getD m 0 ∧ (hgt p n).length = p[n].code.length ∧ p[n].code.length ≤ 24 := by
  unfold frameB at h
  simp only [Bool.and_eq_true, decide_eq_true_eq] at h
  obtain ⟨⟨⟨h1, h2⟩, h3⟩, h4⟩ := h
  obtain ⟨n, hn⟩ : ∃ n : Nat, x.func = n := ⟨x.func.toNat, by omega⟩
  have hnl : n < p.length := by omega
  rw [hn, funcOf_nat hnl] at h2 h3
  rw [hn] at h4
  obtain ⟨m, hm⟩ : ∃ m : Nat, x.at_ = m := ⟨x.at_.toNat, by omega⟩
  rw [hm] at h3 h4
  exact ⟨n, m, hnl, hn, hm, by omega, h2, by simpa using h4, hgt_len hz hnl, (rightAt hz hnl).1.len⟩

theorem waits_any (p : List GFunc) (v : Value) (S T : Nat → Prop) (x : GFrame) (vx : Value) (kind a : Int) (w : World) (hp : Funcs w S v p) (hz : progErr p = 0) (hx : FrameV w T vx x) (hf : frameB p x = true) :
    Calls Try.prog 68 #[v, vx, .int .i64 kind, .int .i64 a] w fun e w' => e = .returned (.bool (waitB p x kind a)) ∧ Ext w w' := by
  have HP := Lib.hid hp
  have HZ := Lib.hid hz
  obtain ⟨n, m, hn, e1, e2, hm, _, hu0, hlm, h24⟩ := frameB_nat hz hf
  obtain ⟨fn, at_, ls, st⟩ := x
  simp only at e1 e2
  subst e1 e2
  obtain ⟨vs, vt, rfl, _, _, hls, hst⟩ := hx
  obtain ⟨a1, c1, rfl, _, _, _⟩ := hls
  obtain ⟨a2, c2, rfl, _, hst2, _⟩ := hst
  simp only at *
  have RA := alloc_keep
  obtain ⟨b, o, cap, rfl, hcap, hby, ⟨_, hA, iA⟩, ⟨_, hL, iL⟩, vc, hC, hcode⟩ := hp.get hn
  obtain ⟨ca, ccap, rfl, hcc, hcby, hops⟩ := hcode
  have hF := funcOf_nat hn
  have hlm1 := Nat.le_of_eq hlm
  have hlm2 := Nat.le_of_eq hlm.symm
  obtain ⟨u, hu⟩ : ∃ u, (hgt p n).getD m 0 = u := ⟨_, rfl⟩
  have HU := Lib.hid hu
  rw [hu] at hu0
  obtain ⟨r, hr⟩ : ∃ r, waitB p ⟨n, m, ls, st⟩ kind a = r := ⟨_, rfl⟩
  rw [hr]
  have HR := Lib.hid hr
  have HF := Lib.hid hF
  have HO := Lib.hid hops
  clear hp hz hf hr hF hu hlm hops
  by_cases h1 : m = 0
  · have HRR : Hid (r = false) := by unfold Hid; rw [← HR.out]; unfold waitB; simp [h1]
    subst h1
    go_enter Try.func68, Try.ntmps68
    go_wp2_with (first
      | (go_at_call 45; refine (heights_right p _ _ n _ (Funcs.stays (Ext.stays ((Ext.refl w).alloc _)) HP.out) HZ.out hn).mono ?_; rintro e w2 ⟨⟨a3, c3, rfl, hi⟩, hx2⟩; have hc2 := Ext.keep hx2))
    refine wp_region_ext (by kernel_rfl) (by kernel_rfl) ?_
    repeat (first
      | go_big_quiet_skip
      | (go_big_quiet_want
         unfold Oper.quiet
         apply Exists.intro
         refine ⟨fun w' hw' => ?_, ?_⟩
         focus
           have hcq := Ext.keep hw'
           go_simp
           first
             | with_reducible rfl
             | fail
         (try dsimp only [Act.put])
         (try simp only [List.setIfInBounds_toArray, List.set_cons_succ, List.set_cons_zero])
         go_big_quiet_on))
    refine wpQuiet_nil ?_
    intro wq hq
    go_wp2_with fail
    go_ret
    exact ⟨by rw [HRR.out]; rfl, ((Ext.refl w).alloc _).trans (hx2.trans hq)⟩
  · obtain ⟨j, hj⟩ : ∃ j, m = j + 1 := ⟨m - 1, by omega⟩
    have hjl : j < p[n].code.length := by omega
    have KK4 : IntKind.i64.wrap ((m : Int) - 1) = (j : Int) := by rw [IntWalk.i64_in _ (by omega)]; omega
    have T1 : ((m : Int) == 0) = false := beq_eq_false_iff_ne.2 (by omega)
    have hml : m < (hgt p n).length := by omega
    have HUG : Hid ((hgt p n)[m] = u) := by unfold Hid; rw [← HU.out]; simp [List.getD, List.getElem?_eq_getElem hml]
    by_cases h2 : (st.length : Int) = u - 1
    · have T2 : ((st.length : Int) != u - 1) = false := by rw [bne_eq_false_iff_eq]; exact h2
      obtain ⟨cb, co, rfl, ⟨_, z0, _⟩, _, z1, _⟩ := HO.out j hjl
      obtain ⟨y, hy⟩ : ∃ y, p[n].code[j] = y := ⟨_, rfl⟩
      have HB : Hid (opBack p ⟨n, m, ls, st⟩ = y) := by
        unfold Hid opBack
        rw [HF.out]
        show p[n].code.getD ((m : Int) - 1).toNat default = y
        rw [show ((m : Int) - 1).toNat = j by omega, ← hy]
        simp [List.getD, List.getElem?_eq_getElem hjl]
      rw [hy] at z0 z1
      clear hy
      obtain ⟨k1, k2⟩ := y
      simp only at z0 z1
      have HRR : Hid (r = (decide (k1 = kind) && (!decide (kind = 11) || decide (k2 = a)))) := by
        unfold Hid
        rw [← HR.out]
        unfold waitB
        rw [HB.out]
        simp only
        rw [decide_eq_false (show ¬ (m : Int) = 0 by omega), show (hgt p (n : Int)).getD ((m : Int).toNat) 0 = u from HU.out, decide_eq_true h2]
        simp
      clear h1 h2 hj HR HB
      go_enter Try.func68, Try.ntmps68
      go_wp2_with (first
        | (go_at_call 45; refine (heights_right p _ _ n _ (Funcs.stays (Ext.stays ((Ext.refl w).alloc _)) HP.out) HZ.out hn).mono ?_; rintro e w2 ⟨⟨a3, c3, rfl, hi⟩, hx2⟩; have hc2 := Ext.keep hx2; obtain ⟨bl, ol, rfl, x0⟩ := Ints.at' hi (m := m) (by omega); have iU := hi.i64 _ (List.getElem_mem (show m < (hgt p n).length by omega)); rw [HUG.out] at iU; rw [HU.out] at x0; unfold I64 at iU; have KK3 : IntKind.i64.wrap (u - 1) = u - 1 := IntWalk.i64_in _ (by omega)))
      refine wp_region_ext (by kernel_rfl) (by kernel_rfl) ?_
      repeat (first
        | go_big_quiet_skip
        | (go_big_quiet_want
           unfold Oper.quiet
           apply Exists.intro
           refine ⟨fun w' hw' => ?_, ?_⟩
           focus
             have hcq := Ext.keep hw'
             go_simp
             first
               | with_reducible rfl
               | fail
           (try dsimp only [Act.put])
           (try simp only [List.setIfInBounds_toArray, List.set_cons_succ, List.set_cons_zero])
           go_big_quiet_on))
      refine wpQuiet_nil ?_
      intro wq hq
      have HQ := Lib.hid (((Ext.refl w).alloc _).trans (hx2.trans hq))
      have z0' := Ext.cell HQ.out z0
      have z1' := Ext.cell HQ.out z1
      have hC' := Ext.cell HQ.out hC
      have q0 := Ext.cell (hx2.trans hq) (Cx.new w [.int .i64 n, .int .i64 m, .slice a1 ls.length c1, .slice a2 st.length c2] 70 (j := 0) rfl).1
      have q1 := Ext.cell (hx2.trans hq) (Cx.new w [.int .i64 n, .int .i64 m, .slice a1 ls.length c1, .slice a2 st.length c2] 70 (j := 1) rfl).1
      go_upto_region 4 with fail
      go_region
      have y0 := (Cx.ext (Cx.new wq [.int .i64 k1, .int .i64 k2] 110 (j := 0) rfl) (Ext.refl _).drew).1
      have y1 := (Cx.ext (Cx.new wq [.int .i64 k1, .int .i64 k2] 110 (j := 1) rfl) (Ext.refl _).drew).1
      have hE5 := HQ.out.trans ((Ext.refl wq).alloc (.cells #[.int .i64 k1, .int .i64 k2] 110)).drew
      generalize (wq.alloc (.cells #[.int .i64 k1, .int .i64 k2] 110)).drew = w5 at *
      clear z0 z1 hC z0' z1' hC' q0 q1 hx2 hq
      by_cases h5 : k1 = kind
      · have T5 : (k1 == kind) = true := by simp [h5]
        by_cases h6 : kind = 11
        · have T6 : (kind != 11) = false := by rw [bne_eq_false_iff_eq]; exact h6
          have HR2 : Hid (r = decide (k2 = a)) := by unfold Hid; rw [HRR.out]; simp [h5, h6]
          have TE : (k2 == a) = decide (k2 = a) := by rw [Bool.eq_iff_iff]; simp
          clear h5 h6
          go_wp2_with fail
          go_ret
          exact ⟨by rw [HR2.out, ← TE]; rfl, hE5⟩
        · have T6 : (kind != 11) = true := bne_iff_ne.2 h6
          have HR2 : Hid (r = true) := by unfold Hid; rw [HRR.out]; simp [h5, h6]
          clear h5 h6
          go_wp2_with fail
          go_ret
          exact ⟨by rw [HR2.out]; rfl, hE5⟩
      · have T5 : (k1 == kind) = false := by simp [h5]
        have HR2 : Hid (r = false) := by unfold Hid; rw [HRR.out]; simp [h5]
        clear h5
        go_wp2_with fail
        go_ret
        exact ⟨by rw [HR2.out]; rfl, hE5⟩
    · have T2 : ((st.length : Int) != u - 1) = true := bne_iff_ne.2 h2
      have HRR : Hid (r = false) := by
        unfold Hid
        rw [← HR.out]
        unfold waitB
        rw [show (hgt p (GFrame.func ⟨n, m, ls, st⟩)).getD (GFrame.at_ ⟨n, m, ls, st⟩).toNat 0 = u from HU.out]
        simp only
        rw [decide_eq_false h2]
        simp
      clear h1 h2 hj HR
      go_enter Try.func68, Try.ntmps68
      go_wp2_with (first
        | (go_at_call 45; refine (heights_right p _ _ n _ (Funcs.stays (Ext.stays ((Ext.refl w).alloc _)) HP.out) HZ.out hn).mono ?_; rintro e w2 ⟨⟨a3, c3, rfl, hi⟩, hx2⟩; have hc2 := Ext.keep hx2; obtain ⟨bl, ol, rfl, x0⟩ := Ints.at' hi (m := m) (by omega); have iU := hi.i64 _ (List.getElem_mem (show m < (hgt p n).length by omega)); rw [HUG.out] at iU; rw [HU.out] at x0; unfold I64 at iU; have KK3 : IntKind.i64.wrap (u - 1) = u - 1 := IntWalk.i64_in _ (by omega)))
      refine wp_region_ext (by kernel_rfl) (by kernel_rfl) ?_
      repeat (first
        | go_big_quiet_skip
        | (go_big_quiet_want
           unfold Oper.quiet
           apply Exists.intro
           refine ⟨fun w' hw' => ?_, ?_⟩
           focus
             have hcq := Ext.keep hw'
             go_simp
             first
               | with_reducible rfl
               | fail
           (try dsimp only [Act.put])
           (try simp only [List.setIfInBounds_toArray, List.set_cons_succ, List.set_cons_zero])
           go_big_quiet_on))
      refine wpQuiet_nil ?_
      intro wq hq
      go_wp2_with fail
      go_ret
      exact ⟨by rw [HRR.out]; rfl, ((Ext.refl w).alloc _).trans (hx2.trans hq)⟩

theorem fresh_any (p : List GFunc) (v : Value) (S T : Nat → Prop) (x : GFiber) (vx : Value) (w : World) (hp : Funcs w S v p) (hx : FiberV w T vx x) (hf : ∀ h : 0 < x.frames.length, 0 ≤ x.frames[0].func ∧ x.frames[0].func < p.length) :
    Calls Try.prog 69 #[v, vx] w fun e w' => e = .returned (.bool (freshB p x)) ∧ Ext w w' := by
  have HP := Lib.hid hp
  obtain ⟨fs, cl⟩ := x
  obtain ⟨vf, rfl, hfr, _⟩ := hx
  have hfr0 := hfr
  obtain ⟨a1, c1, rfl, _, _, _⟩ := hfr
  simp only at *
  have RA := alloc_keep
  obtain ⟨r, hr⟩ : ∃ r, freshB p ⟨fs, cl⟩ = r := ⟨_, rfl⟩
  rw [hr]
  have HR := Lib.hid hr
  clear hr
  by_cases h1 : fs.length = 1
  · have T1 : ((fs.length : Int) != 1) = false := by rw [bne_eq_false_iff_eq]; omega
    obtain ⟨x, rfl⟩ : ∃ x, fs = [x] := List.length_eq_one_iff.1 h1
    obtain ⟨b0, b1⟩ := hf (by simp)
    obtain ⟨bf, of, cf, e1, _, _, ⟨_, x0, _⟩, ⟨_, x1, _⟩, ⟨vl, x2, hls⟩, ⟨vs, x3, hss⟩⟩ := hfr0.get (i := 0) (by simp)
    simp only [Value.slice.injEq, List.getElem_cons_zero] at e1 x0 x1 hls hss b0 b1
    obtain ⟨rfl, -, rfl⟩ := e1
    rw [Nat.zero_mul, Nat.add_zero] at x0 x1 x2 x3
    obtain ⟨fn, at_, ls, st⟩ := x
    simp only at *
    obtain ⟨n, rfl⟩ : ∃ n : Nat, fn = n := ⟨fn.toNat, by omega⟩
    have hn : n < p.length := by omega
    obtain ⟨b, o, cap, rfl, hcap, hby, ⟨_, hA, iA⟩, _, _⟩ := hp.get hn
    have hF := funcOf_nat hn
    have HLS := Lib.hid hls
    obtain ⟨a2, c2, rfl, _, _, _⟩ := hls
    obtain ⟨a3, c3, rfl, _, _, _⟩ := hss
    have HRR : Hid (r = (decide (at_ = 0) && decide (p[n].args = 1) && decide (st.length = 0) && allK ls.length (fun k => decide (ls.getD k 0 = 0)))) := by
      unfold Hid
      rw [← HR.out]
      unfold freshB
      simp only [List.getD_cons_zero, hF]
      simp
    clear hF HR hfr0 hp b0 b1 hf h1
    by_cases h2 : at_ = 0
    · have T2 : (at_ != 0) = false := by rw [bne_eq_false_iff_eq]; exact h2
      by_cases h3 : p[n].args = 1
      · have T3 : (p[n].args != 1) = false := by rw [bne_eq_false_iff_eq]; exact h3
        by_cases h4 : st.length = 0
        · have T4 : ((st.length : Int) != 0) = false := by rw [bne_eq_false_iff_eq]; omega
          have HR2 : Hid (r = allK ls.length (fun k => decide (ls.getD k 0 = 0))) := by unfold Hid; rw [HRR.out]; simp [h2, h3, h4]
          clear h2 h3 h4 HRR
          go_enter Try.func69, Try.ntmps69
          have BX := Lib.hid (Cx.new w [.slice (some ⟨bf, of, none⟩) 1 c1, .int .i64 cl] 68 (j := 0) rfl)
          have HX2 := Lib.hid x2
          go_wp2_with fail
          go_loopw [5] (fun q wr => ∃ k : Nat, k ≤ ls.length ∧ q = .int .i64 k ∧ Ext (w.alloc (.cells #[.slice (some ⟨bf, of, none⟩) 1 c1, .int .i64 cl] 68)) wr ∧ ∀ i, i < k → ls.getD i 0 = 0) (fun q _ => ls.length - (intOf q).toNat)
          case atStart => exact ⟨0, Nat.zero_le _, rfl, Ext.refl _, fun i hi => absurd hi (Nat.not_lt_zero _)⟩
          case round =>
            obtain ⟨k, hk, rfl, hb, hz0⟩ := hrel
            have HB := Lib.hid hb
            have HZ0 := Lib.hid hz0
            have q0 := (BX.out.ext hb).1
            have q2 := Ext.cell (((Ext.refl w).alloc _).trans hb) HX2.out
            clear hb hz0 x0 x1 x2 x3 hA
            by_cases hlt : k < ls.length
            · obtain ⟨bl, ol, rfl, l0⟩ := Ints.at' HLS.out hlt
              have l1 := Ext.cell (((Ext.refl w).alloc _).trans HB.out) l0
              clear l0
              generalize hu : ls.getD k 0 = u at *
              have HU := Lib.hid hu
              clear hu
              by_cases h0 : u = 0
              · have T0 : (u != 0) = false := by rw [bne_eq_false_iff_eq]; exact h0
                have HZ1 : Hid (∀ i, i < k + 1 → ls.getD i 0 = 0) := fun i hi => by
                  by_cases e : i = k
                  · rw [e, HU.out]; exact h0
                  · exact HZ0.out i (by omega)
                clear h0
                go_wp2_with fail
                go_roundw
                case rel => exact ⟨k + 1, by omega, by go_num, HB.out, HZ1.out⟩
                case measure => simp [intOf]; omega
              · have T0 : (u != 0) = true := bne_iff_ne.2 h0
                have HR3 : Hid (r = false) := by unfold Hid; rw [HR2.out]; exact allK_false hlt (by rw [HU.out]; exact decide_eq_false h0)
                clear h0
                go_wp2_with fail
                go_ret
                exact ⟨by rw [HR3.out]; rfl, ((Ext.refl w).alloc _).trans HB.out⟩
            · obtain rfl : k = ls.length := by omega
              have HR3 : Hid (r = true) := by unfold Hid; rw [HR2.out]; exact allK_true (fun i hi => decide_eq_true (HZ0.out i hi))
              clear hlt
              go_wp2_with fail
              go_ret
              exact ⟨by rw [HR3.out]; rfl, ((Ext.refl w).alloc _).trans HB.out⟩
        · have T4 : ((st.length : Int) != 0) = true := bne_iff_ne.2 (by omega)
          have HR2 : Hid (r = false) := by unfold Hid; rw [HRR.out]; simp [h4]
          clear h2 h3 h4 HRR
          go_enter Try.func69, Try.ntmps69
          go_wp2_with fail
          go_ret
          exact ⟨by rw [HR2.out]; rfl, (Ext.refl w).alloc _⟩
      · have T3 : (p[n].args != 1) = true := bne_iff_ne.2 h3
        have HR2 : Hid (r = false) := by unfold Hid; rw [HRR.out]; simp [h3]
        clear h2 h3 HRR
        go_enter Try.func69, Try.ntmps69
        go_wp2_with fail
        go_ret
        exact ⟨by rw [HR2.out]; rfl, (Ext.refl w).alloc _⟩
    · have T2 : (at_ != 0) = true := bne_iff_ne.2 h2
      have HR2 : Hid (r = false) := by unfold Hid; rw [HRR.out]; simp [h2]
      clear h2 HRR
      go_enter Try.func69, Try.ntmps69
      go_wp2_with fail
      go_ret
      exact ⟨by rw [HR2.out]; rfl, (Ext.refl w).alloc _⟩
  · have T1 : ((fs.length : Int) != 1) = true := bne_iff_ne.2 (by omega)
    have HR2 : Hid (r = false) := by unfold Hid; rw [← HR.out]; unfold freshB; simp [h1]
    obtain ⟨a, cap, rfl, _, _, _⟩ := hp
    clear h1 HR
    go_enter Try.func69, Try.ntmps69
    go_wp2_with fail
    go_ret
    exact ⟨by rw [HR2.out]; rfl, (Ext.refl w).alloc _⟩
end Go.Proofs.Ytgahbngbpfilgaa
end
