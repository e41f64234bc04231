/- Merged texts: contracts and plain facts, one part behind another; each part begins with what it says. -/
import Derived.Test.YtpomcbginkhlbaaGTAJ
import Derived.Test.YtpomcbginkhlbaaGTAK
section
/- Contract of the document's waits and fresh. -/
set_option maxHeartbeats 4000000
set_option maxRecDepth 100000
namespace Go.Proofs.Ytpomcbginkhlbaa
open Go Go.RowKit

theorem frameB_nat {p : List GFunc} (hz : progErr p = 0) {x : GFrame} (h : frameB p x = true) : ∃ (n m : Nat) (hn : n < p.length), x.func = n ∧ x.at_ = m ∧ m < p[n].code.length ∧ (x.locals.length : Int) = p[n].locals ∧ 0 ≤ (hgt p n).getD m 0 ∧ (hgt p n).length = p[n].code.length ∧ p[n].code.length ≤ 24 := by
  unfold frameB at h
  simp only [Bool.and_eq_true, decide_eq_true_eq] at h
  obtain ⟨⟨⟨h1, h2⟩, h3⟩, h4⟩ := h
  obtain ⟨n, hn⟩ : ∃ n : Nat, x.func = n := ⟨x.func.toNat, by omega⟩
  have hnl : n < p.length := by omega
  rw [hn, funcOf_nat hnl] at h2 h3
  rw [hn] at h4
  obtain ⟨m, hm⟩ : ∃ m : Nat, x.at_ = m := ⟨x.at_.toNat, by omega⟩
  rw [hm] at h3 h4
  exact ⟨n, m, hnl, hn, hm, by omega, h2, by simpa using h4, hgt_len hz hnl, (rightAt hz hnl).1.len⟩

theorem waits_any (p : List GFunc) (v : Value) (S T : Nat → Prop) (x : GFrame) (vx : Value) (kind a : Int) (w : World) (hp : Funcs w S v p) (hz : progErr p = 0) (hx : FrameV w T vx x) (hf : frameB p x = true) :
    Calls Try.prog 69 #[v, vx, .int .i64 kind, .int .i64 a] w fun e w' => e = .returned (.bool (waitB p x kind a)) ∧ Ext w w' := by
  have HP := Lib.hid hp
  have HZ := Lib.hid hz
  obtain ⟨n, m, hn, e1, e2, hm, _, hu0, hlm, h24⟩ := frameB_nat hz hf
  obtain ⟨fn, at_, ls, st⟩ := x
  simp only at e1 e2
  subst e1 e2
  obtain ⟨vs, vt, rfl, _, _, hls, hst⟩ := hx
  obtain ⟨a1, c1, rfl, _, _, _⟩ := hls
  obtain ⟨a2, c2, rfl, _, hst2, _⟩ := hst
  simp only at *
  have RA := alloc_keep
  obtain ⟨b, o, cap, rfl, hcap, hby, ⟨_, hA, iA⟩, ⟨_, hL, iL⟩, vc, hC, hcode⟩ := hp.get hn
  obtain ⟨ca, ccap, rfl, hcc, hcby, hops⟩ := hcode
  have hF := funcOf_nat hn
  have hlm1 := Nat.le_of_eq hlm
  have hlm2 := Nat.le_of_eq hlm.symm
  obtain ⟨u, hu⟩ : ∃ u, (hgt p n).getD m 0 = u := ⟨_, rfl⟩
  have HU := Lib.hid hu
  rw [hu] at hu0
  obtain ⟨r, hr⟩ : ∃ r, waitB p ⟨n, m, ls, st⟩ kind a = r := ⟨_, rfl⟩
  rw [hr]
  have HR := Lib.hid hr
  have HF := Lib.hid hF
  have HO := Lib.hid hops
  clear hp hz hf hr hF hu hlm hops
  by_cases h1 : m = 0
  · have HRR : Hid (r = false) := by unfold Hid; rw [← HR.out]; unfold waitB; simp [h1]
    subst h1
    go_enter Try.func69, Try.ntmps69
    go_wp2_with (first
      | (go_at_call 42; refine (heights_right p _ _ n _ (Funcs.stays (Ext.stays ((Ext.refl w).alloc _)) HP.out) HZ.out hn).mono ?_; rintro e w2 ⟨⟨a3, c3, rfl, hi⟩, hx2⟩; have hc2 := Ext.keep hx2))
    refine wp_region_ext (by kernel_rfl) (by kernel_rfl) ?_
    repeat (first
      | go_big_quiet_skip
      | (go_big_quiet_want
         unfold Oper.quiet
         apply Exists.intro
         refine ⟨fun w' hw' => ?_, ?_⟩
         focus
           have hcq := Ext.keep hw'
           go_simp
           first
             | with_reducible rfl
             | fail
         (try dsimp only [Act.put])
         (try simp only [List.setIfInBounds_toArray, List.set_cons_succ, List.set_cons_zero])
         go_big_quiet_on))
    refine wpQuiet_nil ?_
    intro wq hq
    go_wp2_with fail
    go_ret
    exact ⟨by rw [HRR.out]; rfl, ((Ext.refl w).alloc _).trans (hx2.trans hq)⟩
  · obtain ⟨j, hj⟩ : ∃ j, m = j + 1 := ⟨m - 1, by omega⟩
    have hjl : j < p[n].code.length := by omega
    have KK4 : IntKind.i64.wrap ((m : Int) - 1) = (j : Int) := by rw [IntWalk.i64_in _ (by omega)]; omega
    have T1 : ((m : Int) == 0) = false := beq_eq_false_iff_ne.2 (by omega)
    have hml : m < (hgt p n).length := by omega
    have HUG : Hid ((hgt p n)[m] = u) := by unfold Hid; rw [← HU.out]; simp [List.getD, List.getElem?_eq_getElem hml]
    by_cases h2 : (st.length : Int) = u - 1
    · have T2 : ((st.length : Int) != u - 1) = false := by rw [bne_eq_false_iff_eq]; exact h2
      obtain ⟨cb, co, rfl, ⟨_, z0, _⟩, _, z1, _⟩ := HO.out j hjl
      obtain ⟨y, hy⟩ : ∃ y, p[n].code[j] = y := ⟨_, rfl⟩
      have HB : Hid (opBack p ⟨n, m, ls, st⟩ = y) := by
        unfold Hid opBack
        rw [HF.out]
        show p[n].code.getD ((m : Int) - 1).toNat default = y
        rw [show ((m : Int) - 1).toNat = j by omega, ← hy]
        simp [List.getD, List.getElem?_eq_getElem hjl]
      rw [hy] at z0 z1
      clear hy
      obtain ⟨k1, k2⟩ := y
      simp only at z0 z1
      have HRR : Hid (r = (decide (k1 = kind) && (!decide (kind = 11) || decide (k2 = a)))) := by
        unfold Hid
        rw [← HR.out]
        unfold waitB
        rw [HB.out]
        simp only
        rw [decide_eq_false (show ¬ (m : Int) = 0 by omega), show (hgt p (n : Int)).getD ((m : Int).toNat) 0 = u from HU.out, decide_eq_true h2]
        simp
      clear h1 h2 hj HR HB
      go_enter Try.func69, Try.ntmps69
      go_wp2_with (first
        | (go_at_call 42; refine (heights_right p _ _ n _ (Funcs.stays (Ext.stays ((Ext.refl w).alloc _)) HP.out) HZ.out hn).mono ?_; rintro e w2 ⟨⟨a3, c3, rfl, hi⟩, hx2⟩; have hc2 := Ext.keep hx2; obtain ⟨bl, ol, rfl, x0⟩ := Ints.at' hi (m := m) (by omega); have iU := hi.i64 _ (List.getElem_mem (show m < (hgt p n).length by omega)); rw [HUG.out] at iU; rw [HU.out] at x0; unfold I64 at iU; have KK3 : IntKind.i64.wrap (u - 1) = u - 1 := IntWalk.i64_in _ (by omega)))
      refine wp_region_ext (by kernel_rfl) (by kernel_rfl) ?_
      repeat (first
        | go_big_quiet_skip
        | (go_big_quiet_want
           unfold Oper.quiet
           apply Exists.intro
           refine ⟨fun w' hw' => ?_, ?_⟩
           focus
             have hcq := Ext.keep hw'
             go_simp
             first
               | with_reducible rfl
               | fail
           (try dsimp only [Act.put])
           (try simp only [List.setIfInBounds_toArray, List.set_cons_succ, List.set_cons_zero])
           go_big_quiet_on))
      refine wpQuiet_nil ?_
      intro wq hq
      have HQ := Lib.hid (((Ext.refl w).alloc _).trans (hx2.trans hq))
      have z0' := Ext.cell HQ.out z0
      have z1' := Ext.cell HQ.out z1
      have hC' := Ext.cell HQ.out hC
      have q0 := Ext.cell (hx2.trans hq) (Cx.new w [.int .i64 n, .int .i64 m, .slice a1 ls.length c1, .slice a2 st.length c2] 54 (j := 0) rfl).1
      have q1 := Ext.cell (hx2.trans hq) (Cx.new w [.int .i64 n, .int .i64 m, .slice a1 ls.length c1, .slice a2 st.length c2] 54 (j := 1) rfl).1
      go_upto_region 4 with fail
      go_region
      have y0 := (Cx.ext (Cx.new wq [.int .i64 k1, .int .i64 k2] 58 (j := 0) rfl) (Ext.refl _).drew).1
      have y1 := (Cx.ext (Cx.new wq [.int .i64 k1, .int .i64 k2] 58 (j := 1) rfl) (Ext.refl _).drew).1
      have hE5 := HQ.out.trans ((Ext.refl wq).alloc (.cells #[.int .i64 k1, .int .i64 k2] 58)).drew
      generalize (wq.alloc (.cells #[.int .i64 k1, .int .i64 k2] 58)).drew = w5 at *
      clear z0 z1 hC z0' z1' hC' q0 q1 hx2 hq
      by_cases h5 : k1 = kind
      · have T5 : (k1 == kind) = true := by simp [h5]
        by_cases h6 : kind = 11
        · have T6 : (kind != 11) = false := by rw [bne_eq_false_iff_eq]; exact h6
          have HR2 : Hid (r = decide (k2 = a)) := by unfold Hid; rw [HRR.out]; simp [h5, h6]
          have TE : (k2 == a) = decide (k2 = a) := by rw [Bool.eq_iff_iff]; simp
          clear h5 h6
          go_wp2_with fail
          go_ret
          exact ⟨by rw [HR2.out, ← TE]; rfl, hE5⟩
        · have T6 : (kind != 11) = true := bne_iff_ne.2 h6
          have HR2 : Hid (r = true) := by unfold Hid; rw [HRR.out]; simp [h5, h6]
          clear h5 h6
          go_wp2_with fail
          go_ret
          exact ⟨by rw [HR2.out]; rfl, hE5⟩
      · have T5 : (k1 == kind) = false := by simp [h5]
        have HR2 : Hid (r = false) := by unfold Hid; rw [HRR.out]; simp [h5]
        clear h5
        go_wp2_with fail
        go_ret
        exact ⟨by rw [HR2.out]; rfl, hE5⟩
    · have T2 : ((st.length : Int) != u - 1) = true := bne_iff_ne.2 h2
      have HRR : Hid (r = false) := by
        unfold Hid
        rw [← HR.out]
        unfold waitB
        rw [show (hgt p (GFrame.func ⟨n, m, ls, st⟩)).getD (GFrame.at_ ⟨n, m, ls, st⟩).toNat 0 = u from HU.out]
        simp only
        rw [decide_eq_false h2]
        simp
      clear h1 h2 hj HR
      go_enter Try.func69, Try.ntmps69
      go_wp2_with (first
        | (go_at_call 42; refine (heights_right p _ _ n _ (Funcs.stays (Ext.stays ((Ext.refl w).alloc _)) HP.out) HZ.out hn).mono ?_; rintro e w2 ⟨⟨a3, c3, rfl, hi⟩, hx2⟩; have hc2 := Ext.keep hx2; obtain ⟨bl, ol, rfl, x0⟩ := Ints.at' hi (m := m) (by omega); have iU := hi.i64 _ (List.getElem_mem (show m < (hgt p n).length by omega)); rw [HUG.out] at iU; rw [HU.out] at x0; unfold I64 at iU; have KK3 : IntKind.i64.wrap (u - 1) = u - 1 := IntWalk.i64_in _ (by omega)))
      refine wp_region_ext (by kernel_rfl) (by kernel_rfl) ?_
      repeat (first
        | go_big_quiet_skip
        | (go_big_quiet_want
           unfold Oper.quiet
           apply Exists.intro
           refine ⟨fun w' hw' => ?_, ?_⟩
           focus
             have hcq := Ext.keep hw'
             go_simp
             first
               | with_reducible rfl
               | fail
           (try dsimp only [Act.put])
           (try simp only [List.setIfInBounds_toArray, List.set_cons_succ, List.set_cons_zero])
           go_big_quiet_on))
      refine wpQuiet_nil ?_
      intro wq hq
      go_wp2_with fail
      go_ret
      exact ⟨by rw [HRR.out]; rfl, ((Ext.refl w).alloc _).trans (hx2.trans hq)⟩

theorem fresh_any (p : List GFunc) (v : Value) (S T : Nat → Prop) (x : GFiber) (vx : Value) (w : World) (hp : Funcs w S v p) (hx : FiberV w T vx x) (hf : ∀ h : 0 < x.frames.length, 0 ≤ x.frames[0].func ∧ x.frames[0].func < p.length) :
    Calls Try.prog 54 #[v, vx] w fun e w' => e = .returned (.bool (freshB p x)) ∧ Ext w w' := by
  have HP := Lib.hid hp
  obtain ⟨fs, cl⟩ := x
  obtain ⟨vf, rfl, hfr, _⟩ := hx
  have hfr0 := hfr
  obtain ⟨a1, c1, rfl, _, _, _⟩ := hfr
  simp only at *
  have RA := alloc_keep
  obtain ⟨r, hr⟩ : ∃ r, freshB p ⟨fs, cl⟩ = r := ⟨_, rfl⟩
  rw [hr]
  have HR := Lib.hid hr
  clear hr
  by_cases h1 : fs.length = 1
  · have T1 : ((fs.length : Int) != 1) = false := by rw [bne_eq_false_iff_eq]; omega
    obtain ⟨x, rfl⟩ : ∃ x, fs = [x] := List.length_eq_one_iff.1 h1
    obtain ⟨b0, b1⟩ := hf (by simp)
    obtain ⟨bf, of, cf, e1, _, _, ⟨_, x0, _⟩, ⟨_, x1, _⟩, ⟨vl, x2, hls⟩, ⟨vs, x3, hss⟩⟩ := hfr0.get (i := 0) (by simp)
    simp only [Value.slice.injEq, List.getElem_cons_zero] at e1 x0 x1 hls hss b0 b1
    obtain ⟨rfl, -, rfl⟩ := e1
    rw [Nat.zero_mul, Nat.add_zero] at x0 x1 x2 x3
    obtain ⟨fn, at_, ls, st⟩ := x
    simp only at *
    obtain ⟨n, rfl⟩ : ∃ n : Nat, fn = n := ⟨fn.toNat, by omega⟩
    have hn : n < p.length := by omega
    obtain ⟨b, o, cap, rfl, hcap, hby, ⟨_, hA, iA⟩, _, _⟩ := hp.get hn
    have hF := funcOf_nat hn
    have HLS := Lib.hid hls
    obtain ⟨a2, c2, rfl, _, _, _⟩ := hls
    obtain ⟨a3, c3, rfl, _, _, _⟩ := hss
    have HRR : Hid (r = (decide (at_ = 0) && decide (p[n].args = 1) && decide (st.length = 0) && allK ls.length (fun k => decide (ls.getD k 0 = 0)))) := by
      unfold Hid
      rw [← HR.out]
      unfold freshB
      simp only [List.getD_cons_zero, hF]
      simp
    clear hF HR hfr0 hp b0 b1 hf h1
    by_cases h2 : at_ = 0
    · have T2 : (at_ != 0) = false := by rw [bne_eq_false_iff_eq]; exact h2
      by_cases h3 : p[n].args = 1
      · have T3 : (p[n].args != 1) = false := by rw [bne_eq_false_iff_eq]; exact h3
        by_cases h4 : st.length = 0
        · have T4 : ((st.length : Int) != 0) = false := by rw [bne_eq_false_iff_eq]; omega
          have HR2 : Hid (r = allK ls.length (fun k => decide (ls.getD k 0 = 0))) := by unfold Hid; rw [HRR.out]; simp [h2, h3, h4]
          clear h2 h3 h4 HRR
          go_enter Try.func54, Try.ntmps54
          have BX := Lib.hid (Cx.new w [.slice (some ⟨bf, of, none⟩) 1 c1, .int .i64 cl] 52 (j := 0) rfl)
          have HX2 := Lib.hid x2
          go_wp2_with fail
          go_loopw [5] (fun q wr => ∃ k : Nat, k ≤ ls.length ∧ q = .int .i64 k ∧ Ext (w.alloc (.cells #[.slice (some ⟨bf, of, none⟩) 1 c1, .int .i64 cl] 52)) wr ∧ ∀ i, i < k → ls.getD i 0 = 0) (fun q _ => ls.length - (intOf q).toNat)
          case atStart => exact ⟨0, Nat.zero_le _, rfl, Ext.refl _, fun i hi => absurd hi (Nat.not_lt_zero _)⟩
          case round =>
            obtain ⟨k, hk, rfl, hb, hz0⟩ := hrel
            have HB := Lib.hid hb
            have HZ0 := Lib.hid hz0
            have q0 := (BX.out.ext hb).1
            have q2 := Ext.cell (((Ext.refl w).alloc _).trans hb) HX2.out
            clear hb hz0 x0 x1 x2 x3 hA
            by_cases hlt : k < ls.length
            · obtain ⟨bl, ol, rfl, l0⟩ := Ints.at' HLS.out hlt
              have l1 := Ext.cell (((Ext.refl w).alloc _).trans HB.out) l0
              clear l0
              generalize hu : ls.getD k 0 = u at *
              have HU := Lib.hid hu
              clear hu
              by_cases h0 : u = 0
              · have T0 : (u != 0) = false := by rw [bne_eq_false_iff_eq]; exact h0
                have HZ1 : Hid (∀ i, i < k + 1 → ls.getD i 0 = 0) := fun i hi => by
                  by_cases e : i = k
                  · rw [e, HU.out]; exact h0
                  · exact HZ0.out i (by omega)
                clear h0
                go_wp2_with fail
                go_roundw
                case rel => exact ⟨k + 1, by omega, by go_num, HB.out, HZ1.out⟩
                case measure => simp [intOf]; omega
              · have T0 : (u != 0) = true := bne_iff_ne.2 h0
                have HR3 : Hid (r = false) := by unfold Hid; rw [HR2.out]; exact allK_false hlt (by rw [HU.out]; exact decide_eq_false h0)
                clear h0
                go_wp2_with fail
                go_ret
                exact ⟨by rw [HR3.out]; rfl, ((Ext.refl w).alloc _).trans HB.out⟩
            · obtain rfl : k = ls.length := by omega
              have HR3 : Hid (r = true) := by unfold Hid; rw [HR2.out]; exact allK_true (fun i hi => decide_eq_true (HZ0.out i hi))
              clear hlt
              go_wp2_with fail
              go_ret
              exact ⟨by rw [HR3.out]; rfl, ((Ext.refl w).alloc _).trans HB.out⟩
        · have T4 : ((st.length : Int) != 0) = true := bne_iff_ne.2 (by omega)
          have HR2 : Hid (r = false) := by unfold Hid; rw [HRR.out]; simp [h4]
          clear h2 h3 h4 HRR
          go_enter Try.func54, Try.ntmps54
          go_wp2_with fail
          go_ret
          exact ⟨by rw [HR2.out]; rfl, (Ext.refl w).alloc _⟩
      · have T3 : (p[n].args != 1) = true := bne_iff_ne.2 h3
        have HR2 : Hid (r = false) := by unfold Hid; rw [HRR.out]; simp [h3]
        clear h2 h3 HRR
        go_enter Try.func54, Try.ntmps54
        go_wp2_with fail
        go_ret
        exact ⟨by rw [HR2.out]; rfl, (Ext.refl w).alloc _⟩
    · have T2 : (at_ != 0) = true := bne_iff_ne.2 h2
      have HR2 : Hid (r = false) := by unfold Hid; rw [HRR.out]; simp [h2]
      clear h2 HRR
      go_enter Try.func54, Try.ntmps54
      go_wp2_with fail
      go_ret
      exact ⟨by rw [HR2.out]; rfl, (Ext.refl w).alloc _⟩
  · have T1 : ((fs.length : Int) != 1) = true := bne_iff_ne.2 (by omega)
    have HR2 : Hid (r = false) := by unfold Hid; rw [← HR.out]; unfold freshB; simp [h1]
    obtain ⟨a, cap, rfl, _, _, _⟩ := hp
    clear h1 HR
    go_enter Try.func54, Try.ntmps54
    go_wp2_with fail
    go_ret
    exact ⟨by rw [HR2.out]; rfl, (Ext.refl w).alloc _⟩
end Go.Proofs.Ytpomcbginkhlbaa
end
section
/- Contract of the document's fiberFine. -/
set_option maxHeartbeats 4000000
set_option maxRecDepth 100000
namespace Go.Proofs.Ytpomcbginkhlbaa
open Go Go.RowKit

/-- A frame in its cells. -/
structure FrameAt (w : World) (b o : Nat) (x : GFrame) (vl vs : Value) : Prop where
  f : w.cell? ⟨b, o, none⟩ = some (.int .i64 x.func)
  a : w.cell? ⟨b, o + 1, none⟩ = some (.int .i64 x.at_)
  l : w.cell? ⟨b, o + 2, none⟩ = some vl
  s : w.cell? ⟨b, o + 3, none⟩ = some vs
theorem FrameAt.ext {w w' : World} {b o : Nat} {x : GFrame} {vl vs : Value} (h : FrameAt w b o x vl vs) (he : Ext w w') : FrameAt w' b o x vl vs := ⟨Ext.cell he h.f, Ext.cell he h.a, Ext.cell he h.l, Ext.cell he h.s⟩
theorem Frames.at' {w : World} {S : Nat → Prop} {a : Option Addr} {fs : List GFrame} {n c : Nat} (h : Frames w S (.slice a n c) fs) {k : Nat} (hk : k < fs.length) :
    ∃ b o al cl as_ cs, a = some ⟨b, o, none⟩ ∧ FrameAt w b (o + k * 4) (fs.getD k default) (.slice al (fs.getD k default).locals.length cl) (.slice as_ (fs.getD k default).stack.length cs) ∧
      FrameV w S (.agg #[.int .i64 (fs.getD k default).func, .int .i64 (fs.getD k default).at_, .slice al (fs.getD k default).locals.length cl, .slice as_ (fs.getD k default).stack.length cs]) (fs.getD k default) := by
  have e : fs.getD k default = fs[k] := by simp [List.getD, List.getElem?_eq_getElem hk]
  rw [e]
  obtain ⟨b, o, c', e1, _, _, ⟨_, x0, i0⟩, ⟨_, x1, i1⟩, ⟨vl, x2, hl⟩, ⟨vs, x3, hs⟩⟩ := h.get hk
  simp only [Value.slice.injEq] at e1
  obtain ⟨rfl, -, rfl⟩ := e1
  have hl2 := hl
  have hs2 := hs
  obtain ⟨al, cl, rfl, _, _, _⟩ := hl
  obtain ⟨as_, cs, rfl, _, _, _⟩ := hs
  exact ⟨b, o, al, cl, as_, cs, rfl, ⟨x0, x1, x2, x3⟩, _, _, rfl, i0, i1, hl2, hs2⟩

theorem fiberFine_any (p : List GFunc) (v : Value) (S T : Nat → Prop) (x : GFiber) (vx : Value) (on runs : Bool) (w : World) (hp : Funcs w S v p) (hz : progErr p = 0) (hx : FiberV w T vx x) :
    Calls Try.prog 48 #[v, vx, .bool on, .bool runs] w fun e w' => e = .returned (.bool (fiberB p x on runs)) ∧ Ext w w' := by
  have HP := Lib.hid hp
  have HZ := Lib.hid hz
  have HX := Lib.hid hx
  obtain ⟨ap, capp, rfl, _, _, _⟩ := hp
  obtain ⟨fs, cl⟩ := x
  obtain ⟨vf, rfl, hfr, _⟩ := hx
  have HFR := Lib.hid hfr
  obtain ⟨af, cf, rfl, _, hby, _⟩ := hfr
  simp only at *
  have RA := alloc_keep
  have hlen5 := (progErr_zero hz).most
  have KK1 : IntKind.i64.wrap ((p.length : Int) - 1) = (p.length : Int) - 1 := IntWalk.i64_in _ (by omega)
  obtain ⟨r, hr⟩ : ∃ r, fiberB p ⟨fs, cl⟩ on runs = r := ⟨_, rfl⟩
  rw [hr]
  have HR := Lib.hid hr
  clear hr hz
  have BX := Lib.hid (⟨Cx.new w [.slice af fs.length cf, .int .i64 cl] 52 (j := 0) rfl, Cx.new w [.slice af fs.length cf, .int .i64 cl] 52 (j := 1) rfl⟩ : _ ∧ _)
  have HE1 := Lib.hid ((Ext.refl w).alloc (.cells #[.slice af fs.length cf, .int .i64 cl] 52))
  by_cases h0 : fs.length = 0
  · have T0 : ((fs.length : Int) == 0) = true := by simp [h0]
    have HR2 : Hid (r = (!on && decide (cl = -1))) := by unfold Hid; rw [← HR.out]; unfold fiberB; rw [if_pos h0]
    clear h0
    cases on with
    | true =>
      go_enter Try.func48, Try.ntmps48
      go_wp2_with fail
      go_ret
      exact ⟨by rw [HR2.out]; rfl, HE1.out⟩
    | false =>
      have TE : (cl == -1) = decide (cl = -1) := by rw [Bool.eq_iff_iff]; simp
      have HR3 : Hid (r = (cl == -1)) := by unfold Hid; rw [HR2.out, TE]; rfl
      clear TE
      go_enter Try.func48, Try.ntmps48
      go_wp2_with fail
      go_ret
      exact ⟨by rw [HR3.out]; rfl, HE1.out⟩
  · have T0 : ((fs.length : Int) == 0) = false := beq_eq_false_iff_ne.2 (by omega)
    have HR2 : Hid (r = (allK fs.length (onB p fs) && topB p ⟨fs, cl⟩ on runs (fs.getD (fs.length - 1) default))) := by unfold Hid; rw [← HR.out]; unfold fiberB; rw [if_neg h0]
    clear HR
    go_enter Try.func48, Try.ntmps48
    go_wp2_with fail
    generalize w.alloc (.cells #[.slice af fs.length cf, .int .i64 cl] 52) = w1 at *
    go_loopw [10] (fun q wr => ∃ k : Nat, k ≤ fs.length ∧ q = .int .i64 k ∧ Ext w1 wr ∧ ∀ i, i < k → onB p fs i = true) (fun q _ => fs.length - (intOf q).toNat)
    case atStart => exact ⟨0, Nat.zero_le _, rfl, Ext.refl _, fun i hi => absurd hi (Nat.not_lt_zero _)⟩
    case round =>
      obtain ⟨k, hk, rfl, hb, hall⟩ := hrel
      have HB := Lib.hid hb
      have HALL := Lib.hid hall
      obtain ⟨⟨q0, -⟩, ⟨q1, -⟩⟩ := (⟨BX.out.1.ext hb, BX.out.2.ext hb⟩ : _ ∧ _)
      clear hb hall
      by_cases hlt : k < fs.length
      · obtain ⟨bf, of, al, cl1, as_, cs1, rfl, hfa, hfv⟩ := (Frames.stays (Ext.stays (HE1.out.trans HB.out)) HFR.out).at' hlt
        have HFV := Lib.hid hfv
        obtain ⟨x0, x1, x2, x3⟩ := hfa
        clear hfv
        obtain ⟨k1, hk1⟩ : ∃ k1, k1 = k + 1 := ⟨_, rfl⟩
        have HK1 := Lib.hid hk1
        have KK2 : IntKind.i64.wrap ((k : Int) + 1) = (k1 : Int) := by rw [IntWalk.i64_in _ (by omega), hk1]; rfl
        clear hk1
        by_cases h1 : frameB p (fs.getD k default) = true
        · have HF1 := Lib.hid h1
          by_cases h2 : k + 1 < fs.length
          · have h21 : k1 < fs.length := by rw [HK1.out]; exact h2
            have T2 : decide ((k1 : Int) < (fs.length : Int)) = true := decide_eq_true (by omega)
            obtain ⟨bg, og, _, _, _, _, eg, hga, _⟩ := (Frames.stays (Ext.stays (HE1.out.trans HB.out)) HFR.out).at' h21
            simp only [Option.some.injEq, Addr.mk.injEq, and_true] at eg
            obtain ⟨rfl, rfl⟩ := eg
            have y0 := hga.f
            clear hga
            have HOB : Hid (onB p fs k = (decide (0 ≤ (fs.getD k1 default).func ∧ (fs.getD k1 default).func < p.length) && waitB p (fs.getD k default) 11 (fs.getD k1 default).func)) := by
              rw [HK1.out]
              unfold Hid onB
              rw [h1, decide_eq_true h2]
              rfl
            generalize fs.getD k1 default = y at *
            generalize fs.getD k default = x at *
            obtain ⟨yf, hyf⟩ : ∃ yf, y.func = yf := ⟨_, rfl⟩
            rw [hyf] at y0 HOB
            clear hyf h1 h2
            by_cases h3 : 0 ≤ yf ∧ yf < p.length
            · have HW1 : Hid (decide (0 ≤ yf ∧ yf ≤ (p.length : Int) - 1) = true) := decide_eq_true (by omega)
              cases h4 : waitB p x 11 yf with
              | true =>
                have HW2 := Lib.hid h4
                have HO : Hid (onB p fs k = true) := by unfold Hid; rw [HOB.out, h4, decide_eq_true h3]; rfl
                clear h3 h4
                go_upto_region 7 with fail
                refine wp_region_ext (by kernel_rfl) (by kernel_rfl) ?_
                repeat (first
                  | go_big_quiet_skip
                  | (go_big_quiet_want
                     unfold Oper.quiet
                     apply Exists.intro
                     refine ⟨fun w' hw' => ?_, ?_⟩
                     focus
                       have hcq := Ext.keep hw'
                       go_simp
                       first
                         | with_reducible rfl
                         | (go_at_call 68; refine (frameFine_any p _ _ _ x _ _ (Funcs.stays (Ext.stays ((HE1.out.trans HB.out).trans hw')) HP.out) HZ.out (FrameV.stays (Ext.stays hw') HFV.out)).mono ?_; rintro e w2 ⟨rfl, hx2⟩; rw [HF1.out]; exact ⟨rfl, hw'.trans hx2⟩) | (go_at_call 46; refine (within_any _ _ _ _).mono ?_; rintro e w2 ⟨rfl, rfl⟩; rw [HW1.out]; exact ⟨rfl, hw'⟩) | (go_at_call 69; refine (waits_any p _ _ _ x _ _ _ _ (Funcs.stays (Ext.stays ((HE1.out.trans HB.out).trans hw')) HP.out) HZ.out (FrameV.stays (Ext.stays hw') HFV.out) HF1.out).mono ?_; rintro e w2 ⟨rfl, hx2⟩; rw [HW2.out]; exact ⟨rfl, hw'.trans hx2⟩)
                     (try dsimp only [Act.put])
                     (try simp only [List.setIfInBounds_toArray, List.set_cons_succ, List.set_cons_zero])
                     go_big_quiet_on))
                refine wpQuiet_nil ?_
                intro wq hq
                go_wp2_with fail
                go_roundw
                case rel => exact ⟨k + 1, by omega, by rw [HK1.out], HB.out.trans hq, fun i hi => by
                  by_cases e : i = k
                  · rw [e]; exact HO.out
                  · exact HALL.out i (by omega)⟩
                case measure => simp [intOf, HK1.out]; omega
              | false =>
                have HW2 := Lib.hid h4
                have HO : Hid (r = false) := by unfold Hid; rw [HR2.out, allK_false hlt (by rw [HOB.out, h4, decide_eq_true h3]; rfl)]; rfl
                clear h3 h4
                go_upto_region 7 with fail
                refine wp_region_ext (by kernel_rfl) (by kernel_rfl) ?_
                repeat (first
                  | go_big_quiet_skip
                  | (go_big_quiet_want
                     unfold Oper.quiet
                     apply Exists.intro
                     refine ⟨fun w' hw' => ?_, ?_⟩
                     focus
                       have hcq := Ext.keep hw'
                       go_simp
                       first
                         | with_reducible rfl
                         | (go_at_call 68; refine (frameFine_any p _ _ _ x _ _ (Funcs.stays (Ext.stays ((HE1.out.trans HB.out).trans hw')) HP.out) HZ.out (FrameV.stays (Ext.stays hw') HFV.out)).mono ?_; rintro e w2 ⟨rfl, hx2⟩; rw [HF1.out]; exact ⟨rfl, hw'.trans hx2⟩) | (go_at_call 46; refine (within_any _ _ _ _).mono ?_; rintro e w2 ⟨rfl, rfl⟩; rw [HW1.out]; exact ⟨rfl, hw'⟩) | (go_at_call 69; refine (waits_any p _ _ _ x _ _ _ _ (Funcs.stays (Ext.stays ((HE1.out.trans HB.out).trans hw')) HP.out) HZ.out (FrameV.stays (Ext.stays hw') HFV.out) HF1.out).mono ?_; rintro e w2 ⟨rfl, hx2⟩; rw [HW2.out]; exact ⟨rfl, hw'.trans hx2⟩)
                     (try dsimp only [Act.put])
                     (try simp only [List.setIfInBounds_toArray, List.set_cons_succ, List.set_cons_zero])
                     go_big_quiet_on))
                refine wpQuiet_nil ?_
                intro wq hq
                go_wp2_with fail
                go_ret
                exact ⟨by rw [HO.out]; rfl, (HE1.out.trans HB.out).trans hq⟩
            · have HW1 : Hid (decide (0 ≤ yf ∧ yf ≤ (p.length : Int) - 1) = false) := decide_eq_false (by omega)
              have HO : Hid (r = false) := by unfold Hid; rw [HR2.out, allK_false hlt (by rw [HOB.out, decide_eq_false h3]; rfl)]; rfl
              clear h3
              go_upto_region 7 with fail
              refine wp_region_ext (by kernel_rfl) (by kernel_rfl) ?_
              repeat (first
                | go_big_quiet_skip
                | (go_big_quiet_want
                   unfold Oper.quiet
                   apply Exists.intro
                   refine ⟨fun w' hw' => ?_, ?_⟩
                   focus
                     have hcq := Ext.keep hw'
                     go_simp
                     first
                       | with_reducible rfl
                       | (go_at_call 68; refine (frameFine_any p _ _ _ x _ _ (Funcs.stays (Ext.stays ((HE1.out.trans HB.out).trans hw')) HP.out) HZ.out (FrameV.stays (Ext.stays hw') HFV.out)).mono ?_; rintro e w2 ⟨rfl, hx2⟩; rw [HF1.out]; exact ⟨rfl, hw'.trans hx2⟩) | (go_at_call 46; refine (within_any _ _ _ _).mono ?_; rintro e w2 ⟨rfl, rfl⟩; rw [HW1.out]; exact ⟨rfl, hw'⟩)
                   (try dsimp only [Act.put])
                   (try simp only [List.setIfInBounds_toArray, List.set_cons_succ, List.set_cons_zero])
                   go_big_quiet_on))
              refine wpQuiet_nil ?_
              intro wq hq
              go_wp2_with fail
              go_ret
              exact ⟨by rw [HO.out]; rfl, (HE1.out.trans HB.out).trans hq⟩
          · have T2 : decide ((k1 : Int) < (fs.length : Int)) = false := decide_eq_false (by rw [HK1.out]; omega)
            have T2n : decide (k1 < fs.length) = false := decide_eq_false (by rw [HK1.out]; omega)
            have HO : Hid (onB p fs k = true) := by unfold Hid onB; rw [h1, decide_eq_false h2]; rfl
            generalize fs.getD k default = x at *
            clear h1 h2
            go_upto_region 7 with fail
            refine wp_region_ext (by kernel_rfl) (by kernel_rfl) ?_
            repeat (first
              | go_big_quiet_skip
              | (go_big_quiet_want
                 unfold Oper.quiet
                 apply Exists.intro
                 refine ⟨fun w' hw' => ?_, ?_⟩
                 focus
                   have hcq := Ext.keep hw'
                   go_simp
                   first
                     | with_reducible rfl
                     | (go_at_call 68; refine (frameFine_any p _ _ _ x _ _ (Funcs.stays (Ext.stays ((HE1.out.trans HB.out).trans hw')) HP.out) HZ.out (FrameV.stays (Ext.stays hw') HFV.out)).mono ?_; rintro e w2 ⟨rfl, hx2⟩; rw [HF1.out]; exact ⟨rfl, hw'.trans hx2⟩)
                 (try dsimp only [Act.put])
                 (try simp only [List.setIfInBounds_toArray, List.set_cons_succ, List.set_cons_zero])
                 go_big_quiet_on))
            refine wpQuiet_nil ?_
            intro wq hq
            go_wp2_with fail
            go_roundw
            case rel => exact ⟨k + 1, by omega, by rw [HK1.out], HB.out.trans hq, fun i hi => by
              by_cases e : i = k
              · rw [e]; exact HO.out
              · exact HALL.out i (by omega)⟩
            case measure => simp [intOf, HK1.out]; omega
        · have HF1 : Hid (frameB p (fs.getD k default) = false) := Bool.eq_false_iff.2 h1
          have HO : Hid (r = false) := by unfold Hid; rw [HR2.out, allK_false hlt (by unfold onB; rw [HF1.out]; rfl)]; rfl
          generalize fs.getD k default = x at *
          clear h1
          go_upto_region 7 with fail
          refine wp_region_ext (by kernel_rfl) (by kernel_rfl) ?_
          repeat (first
            | go_big_quiet_skip
            | (go_big_quiet_want
               unfold Oper.quiet
               apply Exists.intro
               refine ⟨fun w' hw' => ?_, ?_⟩
               focus
                 have hcq := Ext.keep hw'
                 go_simp
                 first
                   | with_reducible rfl
                   | (go_at_call 68; refine (frameFine_any p _ _ _ x _ _ (Funcs.stays (Ext.stays ((HE1.out.trans HB.out).trans hw')) HP.out) HZ.out (FrameV.stays (Ext.stays hw') HFV.out)).mono ?_; rintro e w2 ⟨rfl, hx2⟩; rw [HF1.out]; exact ⟨rfl, hw'.trans hx2⟩)
               (try dsimp only [Act.put])
               (try simp only [List.setIfInBounds_toArray, List.set_cons_succ, List.set_cons_zero])
               go_big_quiet_on))
          refine wpQuiet_nil ?_
          intro wq hq
          go_wp2_with fail
          go_ret
          exact ⟨by rw [HO.out]; rfl, (HE1.out.trans HB.out).trans hq⟩
      · obtain rfl : k = fs.length := by omega
        have HR3 : Hid (r = topB p ⟨fs, cl⟩ on runs (fs.getD (fs.length - 1) default)) := by unfold Hid; rw [HR2.out, allK_true HALL.out, Bool.true_and]
        obtain ⟨j, hj⟩ : ∃ j, fs.length = j + 1 := ⟨fs.length - 1, by omega⟩
        have hjl : j < fs.length := by omega
        have hon := HALL.out j hjl
        have HF1 : Hid (frameB p (fs.getD j default) = true) := by
          unfold Hid
          unfold onB at hon
          rw [Bool.and_eq_true] at hon
          exact hon.1
        have HFR0 : Hid (∀ h : 0 < fs.length, 0 ≤ fs[0].func ∧ fs[0].func < p.length) := fun h => by
          have h1 := HALL.out 0 h
          unfold onB at h1
          rw [Bool.and_eq_true] at h1
          have h2 := h1.1
          unfold frameB at h2
          simp only [Bool.and_eq_true, decide_eq_true_eq] at h2
          have e : fs.getD 0 default = fs[0] := by simp [List.getD, List.getElem?_eq_getElem h]
          rw [e] at h2
          exact h2.1.1.1
        rw [show fs.length - 1 = j by omega] at HR3
        obtain ⟨bf, of, al, cl1, as_, cs1, rfl, hfa, hfv⟩ := (Frames.stays (Ext.stays (HE1.out.trans HB.out)) HFR.out).at' hjl
        have KK2 : IntKind.i64.wrap ((fs.length : Int) - 1) = (j : Int) := by rw [IntWalk.i64_in _ (by omega)]; omega
        have HFV := Lib.hid hfv
        obtain ⟨x0, x1, x2, x3⟩ := hfa
        clear hfv hon hlt
        generalize fs.getD j default = x at *
        clear hj
        rename World => wr
        obtain ⟨n, m, hn, e1, e2, hm, _, hu0, hlm, h24⟩ := frameB_nat HZ.out HF1.out
        obtain ⟨fn, at_, ls, st⟩ := x
        simp only at e1 e2
        subst e1 e2
        simp only at *
        have hlm1 := Nat.le_of_eq hlm
        have hlm2 := Nat.le_of_eq hlm.symm
        have tb := Lib.hid (⟨(Cx.new wr [.int .i64 n, .int .i64 m, .slice al ls.length cl1, .slice as_ st.length cs1] 54 (j := 0) rfl).1, (Cx.new wr [.int .i64 n, .int .i64 m, .slice al ls.length cl1, .slice as_ st.length cs1] 54 (j := 1) rfl).1, (Cx.new wr [.int .i64 n, .int .i64 m, .slice al ls.length cl1, .slice as_ st.length cs1] 54 (j := 2) rfl).1, (Cx.new wr [.int .i64 n, .int .i64 m, .slice al ls.length cl1, .slice as_ st.length cs1] 54 (j := 3) rfl).1⟩ : _ ∧ _ ∧ _ ∧ _)
        have hEX : Ext wr (wr.alloc (.cells #[.int .i64 n, .int .i64 m, .slice al ls.length cl1, .slice as_ st.length cs1] 54)) := (Ext.refl _).alloc _
        have HEX0 := Lib.hid hEX
        have q0' := Ext.cell hEX q0
        have q1' := Ext.cell hEX q1
        clear hlm hEX
        go_upto_region 10 with fail
        generalize wr.heap.size = bt at *
        generalize wr.alloc (.cells #[.int .i64 n, .int .i64 m, .slice al ls.length cl1, .slice as_ st.length cs1] 54) = w5 at *
        have HE5 := Lib.hid ((HE1.out.trans HB.out).trans HEX0.out)
        obtain ⟨t0, t1, t2, t3⟩ := tb.out
        clear q0 q1 x0 x1 x2 x3
        cases runs with
        | true =>
          have hml : m < (hgt p n).length := by omega
          obtain ⟨u, hu⟩ : ∃ u, (hgt p n).getD m 0 = u := ⟨_, rfl⟩
          have HU := Lib.hid hu
          have HR4 : Hid (r = ((st.length : Int) == u)) := by
            unfold Hid
            rw [HR3.out]
            unfold topB fullB
            rw [if_pos rfl, show (hgt p (GFrame.func ⟨n, m, ls, st⟩)).getD (GFrame.at_ ⟨n, m, ls, st⟩).toNat 0 = u from HU.out, Bool.eq_iff_iff]
            simp
          clear hu
          go_upto_region 12 with (first
            | (go_at_call 42; refine (heights_right p _ _ n _ (Funcs.stays (Ext.stays HE5.out) HP.out) HZ.out hn).mono ?_; rintro e w2 ⟨⟨a3, c3, rfl, hi⟩, hx2⟩; obtain ⟨bl, ol, rfl, l0⟩ := Ints.at' hi (m := m) (by omega); rw [HU.out] at l0))
          have t1' := Ext.cell hx2 t1
          have t3' := Ext.cell hx2 t3
          refine wp_region_ext (by kernel_rfl) (by kernel_rfl) ?_
          repeat (first
            | go_big_quiet_skip
            | (go_big_quiet_want
               unfold Oper.quiet
               apply Exists.intro
               refine ⟨fun w' hw' => ?_, ?_⟩
               focus
                 have hcq := Ext.keep hw'
                 go_simp
                 first
                   | with_reducible rfl
                   | fail
               (try dsimp only [Act.put])
               (try simp only [List.setIfInBounds_toArray, List.set_cons_succ, List.set_cons_zero])
               go_big_quiet_on))
          refine wpQuiet_nil ?_
          intro wq hq
          go_wp2_with fail
          go_ret
          exact ⟨by rw [HR4.out]; rfl, HE5.out.trans (hx2.trans hq)⟩
        | false =>
          cases on with
          | true =>
            have HR4 : Hid (r = waitB p ⟨n, m, ls, st⟩ 14 0) := by unfold Hid; rw [HR3.out]; rfl
            go_wp2_with (first
              | (go_at_call 69; refine (waits_any p _ _ _ ⟨n, m, ls, st⟩ _ _ _ _ (Funcs.stays (Ext.stays HE5.out) HP.out) HZ.out (FrameV.stays (Ext.stays HEX0.out) HFV.out) HF1.out).mono ?_; rintro e w2 ⟨rfl, hx2⟩; rw [← HR4.out]))
            go_ret
            exact ⟨rfl, HE5.out.trans hx2⟩
          | false =>
            have HR4 : Hid (r = (decide (cl = -1) && (freshB p ⟨fs, cl⟩ || waitB p ⟨n, m, ls, st⟩ 15 0))) := by unfold Hid; rw [HR3.out]; rfl
            by_cases hc : cl = -1
            · have T1 : (cl == -1) = true := by simp [hc]
              cases hfr : freshB p ⟨fs, cl⟩ with
              | true =>
                have HW := Lib.hid hfr
                have HR5 : Hid (r = true) := by unfold Hid; rw [HR4.out, hfr, decide_eq_true hc]; rfl
                clear hfr hc
                go_wp2_with (first
                  | (go_at_call 54; refine (fresh_any p _ _ _ ⟨fs, cl⟩ _ _ (Funcs.stays (Ext.stays HE5.out) HP.out) (FiberV.stays (Ext.stays HE5.out) HX.out) HFR0.out).mono ?_; rintro e w2 ⟨rfl, hx2⟩; rw [HW.out]))
                go_ret
                exact ⟨by rw [HR5.out]; rfl, HE5.out.trans hx2⟩
              | false =>
                have HW := Lib.hid hfr
                have HR5 : Hid (r = waitB p ⟨n, m, ls, st⟩ 15 0) := by unfold Hid; rw [HR4.out, hfr, decide_eq_true hc]; rfl
                clear hfr hc
                go_wp2_with (first
                  | (go_at_call 54; refine (fresh_any p _ _ _ ⟨fs, cl⟩ _ _ (Funcs.stays (Ext.stays HE5.out) HP.out) (FiberV.stays (Ext.stays HE5.out) HX.out) HFR0.out).mono ?_; rintro e w2 ⟨rfl, hx2⟩; rw [HW.out]; have s0 := Ext.cell hx2 t0; have s1 := Ext.cell hx2 t1; have s2 := Ext.cell hx2 t2; have s3 := Ext.cell hx2 t3)
                  | (go_at_call 69; refine (waits_any p _ _ _ ⟨n, m, ls, st⟩ _ _ _ _ (Funcs.stays (Ext.stays (HE5.out.trans hx2)) HP.out) HZ.out (FrameV.stays (Ext.stays (HEX0.out.trans hx2)) HFV.out) HF1.out).mono ?_; rintro e w3 ⟨rfl, hx3⟩; rw [← HR5.out]))
                go_ret
                exact ⟨rfl, (HE5.out.trans hx2).trans hx3⟩
            · have T1 : (cl == -1) = false := beq_eq_false_iff_ne.2 hc
              have HR5 : Hid (r = false) := by unfold Hid; rw [HR4.out, decide_eq_false hc]; rfl
              clear hc
              go_wp2_with fail
              go_ret
              exact ⟨by rw [HR5.out]; rfl, HE5.out⟩
end Go.Proofs.Ytpomcbginkhlbaa
end
section
/- Contract of the document's StateError. -/
set_option maxHeartbeats 4000000
set_option maxRecDepth 100000
namespace Go.Proofs.Ytpomcbginkhlbaa
open Go Go.RowKit

theorem Fibers.at' {w : World} {S : Nat → Prop} {a : Option Addr} {fs : List GFiber} {n c : Nat} (h : Fibers w S (.slice a n c) fs) {k : Nat} (hk : k < fs.length) :
    ∃ b o af cf, a = some ⟨b, o, none⟩ ∧ w.cell? ⟨b, o + k * 2, none⟩ = some (.slice af (fs.getD k default).frames.length cf) ∧ w.cell? ⟨b, o + k * 2 + 1, none⟩ = some (.int .i64 (fs.getD k default).caller) ∧
      FiberV w S (.agg #[.slice af (fs.getD k default).frames.length cf, .int .i64 (fs.getD k default).caller]) (fs.getD k default) := by
  have e : fs.getD k default = fs[k] := by simp [List.getD, List.getElem?_eq_getElem hk]
  rw [e]
  obtain ⟨b, o, c', e1, _, _, ⟨vf, x0, hf⟩, ⟨_, x1, i1⟩⟩ := h.get hk
  simp only [Value.slice.injEq] at e1
  obtain ⟨rfl, -, rfl⟩ := e1
  have hf2 := hf
  obtain ⟨af, cf, rfl, _, _, _⟩ := hf
  exact ⟨b, o, af, cf, rfl, x0, x1, _, rfl, hf2, i1⟩

theorem stateError_any (p : List GFunc) (v : Value) (S T : Nat → Prop) (s : GState) (vs : Value) (w : World) (hp : Funcs w S v p) (hs : StateV w T vs s) :
    Calls Try.prog 26 #[v, vs] w fun e w' => e = .returned (.int .i64 (stateErr p s)) ∧ Ext w w' := by
  have HP := Lib.hid hp
  have HS := Lib.hid hs
  obtain ⟨ap, capp, rfl, _, _, _⟩ := hp
  obtain ⟨x, y, rfl, hfs, _, hout⟩ := hs
  have HFS := Lib.hid hfs
  obtain ⟨af, cf, rfl, _, _, _⟩ := hfs
  obtain ⟨ao, co, rfl, _, _, _⟩ := hout
  have RA := alloc_keep
  obtain ⟨r, hr⟩ : ∃ r, stateErr p s = r := ⟨_, rfl⟩
  rw [hr]
  have HR := Lib.hid hr
  clear hr
  have BX := Lib.hid (⟨Cx.new w [.slice af s.fibers.length cf, .int .i64 s.now, .slice ao s.out.length co] 43 (j := 0) rfl, Cx.new w [.slice af s.fibers.length cf, .int .i64 s.now, .slice ao s.out.length co] 43 (j := 1) rfl, Cx.new w [.slice af s.fibers.length cf, .int .i64 s.now, .slice ao s.out.length co] 43 (j := 2) rfl⟩ : _ ∧ _ ∧ _)
  have HE1 := Lib.hid ((Ext.refl w).alloc (.cells #[.slice af s.fibers.length cf, .int .i64 s.now, .slice ao s.out.length co] 43))
  by_cases hz : progErr p = 0
  · have HZ := Lib.hid hz
    have HR1 : Hid (r = if 5 < s.fibers.length ∨ 30 < s.out.length then 2 else if allK s.fibers.length (framesFew s) = false then 2 else if s.fibers.length = 0 then 5 else if ¬ (-1 ≤ s.now ∧ s.now ≤ (s.fibers.length : Int) - 1) then 3 else if allK s.fibers.length (callersB s) = false then 3 else lineErr p s) := by
      unfold Hid
      rw [← HR.out]
      unfold stateErr
      rw [if_neg (fun h => h hz)]
    have TZ : Hid (progErr p = 0) := hz
    clear hz HR
    go_enter Try.func26, Try.ntmps26
    go_upto_region 4 with (first
      | (go_at_call 21; (with_reducible refine (progError_any p _ S _ (Funcs.stays (Ext.stays HE1.out) HP.out)).mono ?_); rintro e w2 ⟨rfl, hx2⟩; rw [HZ.out]))
    have HE2 := Lib.hid (HE1.out.trans hx2)
    have BX2 := Lib.hid (⟨BX.out.1.ext hx2, BX.out.2.1.ext hx2, BX.out.2.2.ext hx2⟩ : _ ∧ _ ∧ _)
    obtain ⟨⟨b0, -⟩, ⟨b1, -⟩, ⟨b2, -⟩⟩ := BX2.out
    clear hx2 HE1 BX
    rename World => w2
    by_cases h5 : 5 < s.fibers.length
    · have T5 : decide ((5 : Int) < (s.fibers.length : Int)) = true := decide_eq_true (by omega)
      have HR2 : Hid (r = 2) := by unfold Hid; rw [HR1.out, if_pos (.inl h5)]
      clear h5
      go_wp2_with fail
      go_ret
      exact ⟨by rw [HR2.out]; rfl, HE2.out⟩
    · have T5 : decide ((5 : Int) < (s.fibers.length : Int)) = false := decide_eq_false (by omega)
      have T5n : decide (5 < s.fibers.length) = false := decide_eq_false h5
      by_cases h30 : 30 < s.out.length
      · have T30 : decide ((30 : Int) < (s.out.length : Int)) = true := decide_eq_true (by omega)
        have HR2 : Hid (r = 2) := by unfold Hid; rw [HR1.out, if_pos (.inr h30)]
        clear h30
        go_wp2_with fail
        go_ret
        exact ⟨by rw [HR2.out]; rfl, HE2.out⟩
      · have T30 : decide ((30 : Int) < (s.out.length : Int)) = false := decide_eq_false (by omega)
        have T30n : decide (30 < s.out.length) = false := decide_eq_false h30
        have HR2 : Hid (r = if allK s.fibers.length (framesFew s) = false then 2 else if s.fibers.length = 0 then 5 else if ¬ (-1 ≤ s.now ∧ s.now ≤ (s.fibers.length : Int) - 1) then 3 else if allK s.fibers.length (callersB s) = false then 3 else lineErr p s) := by
          unfold Hid; rw [HR1.out, if_neg (by omega)]
        have h5' : s.fibers.length ≤ 5 := by omega
        clear h30 h5 HR1
        go_upto_region 6 with fail
        clear T5 T5n T30 T30n b0 b1 b2
        go_wp2_with fail
        go_loopw [6] (fun q wr => ∃ k : Nat, k ≤ s.fibers.length ∧ q = .int .i64 k ∧ Ext w2 wr ∧ ∀ i, i < k → framesFew s i = true) (fun q _ => s.fibers.length - (intOf q).toNat)
        case atStart => exact ⟨0, Nat.zero_le _, rfl, Ext.refl _, fun i hi => absurd hi (Nat.not_lt_zero _)⟩
        case round =>
          obtain ⟨k, hk, rfl, hb, hall⟩ := hrel
          have HB := Lib.hid hb
          have HALL := Lib.hid hall
          obtain ⟨⟨b0, -⟩, ⟨b1, -⟩, ⟨b2, -⟩⟩ := (⟨BX2.out.1.ext hb, BX2.out.2.1.ext hb, BX2.out.2.2.ext hb⟩ : _ ∧ _ ∧ _)
          clear hb hall
          by_cases hlt : k < s.fibers.length
          · obtain ⟨bf, of, ag, cg, rfl, x0, x1, _⟩ := (Fibers.stays (Ext.stays (HE2.out.trans HB.out)) HFS.out).at' hlt
            obtain ⟨m, hm⟩ : ∃ m, (s.fibers.getD k default).frames.length = m := ⟨_, rfl⟩
            rw [hm] at x0
            have HM := Lib.hid hm
            clear hm x1
            by_cases h6 : m ≤ 6
            · have T6 : decide ((6 : Int) < (m : Int)) = false := decide_eq_false (by omega)
              have T6n : decide (6 < m) = false := decide_eq_false (by omega)
              have HO : Hid (framesFew s k = true) := by unfold Hid framesFew; rw [HM.out]; exact decide_eq_true h6
              clear h6
              go_wp2_with fail
              go_roundw
              case rel => exact ⟨k + 1, by omega, by go_num, HB.out, fun i hi => by
                by_cases e : i = k
                · rw [e]; exact HO.out
                · exact HALL.out i (by omega)⟩
              case measure => simp [intOf]; omega
            · have T6 : decide ((6 : Int) < (m : Int)) = true := decide_eq_true (by omega)
              have HR3 : Hid (r = 2) := by unfold Hid; rw [HR2.out, if_pos (allK_false hlt (by unfold framesFew; rw [HM.out]; exact decide_eq_false h6))]
              clear h6
              go_wp2_with fail
              go_ret
              exact ⟨by rw [HR3.out]; rfl, HE2.out.trans HB.out⟩
          · obtain rfl : k = s.fibers.length := by omega
            have HR3 : Hid (r = if s.fibers.length = 0 then 5 else if ¬ (-1 ≤ s.now ∧ s.now ≤ (s.fibers.length : Int) - 1) then 3 else if allK s.fibers.length (callersB s) = false then 3 else lineErr p s) := by
              unfold Hid; rw [HR2.out, allK_true HALL.out, if_neg (by decide)]
            have HE3 := Lib.hid (HE2.out.trans HB.out)
            have BX3 := Lib.hid (⟨BX2.out.1.ext HB.out, BX2.out.2.1.ext HB.out, BX2.out.2.2.ext HB.out⟩ : _ ∧ _ ∧ _)
            clear HE2 BX2 HR2 HALL hlt
            rename World => w3
            by_cases h0 : s.fibers.length = 0
            · have T0 : ((s.fibers.length : Int) == 0) = true := by simp [h0]
              have HR4 : Hid (r = 5) := by unfold Hid; rw [HR3.out, if_pos h0]
              clear h0
              go_wp2_with fail
              go_ret
              exact ⟨by rw [HR4.out]; rfl, HE3.out⟩
            · have T0 : ((s.fibers.length : Int) == 0) = false := beq_eq_false_iff_ne.2 (by omega)
              have hpos : 0 < s.fibers.length := by omega
              have KK : IntKind.i64.wrap ((s.fibers.length : Int) - 1) = (s.fibers.length : Int) - 1 := IntWalk.i64_in _ (by omega)
              by_cases hn : -1 ≤ s.now ∧ s.now ≤ (s.fibers.length : Int) - 1
              · have HW1 : Hid (decide (-1 ≤ s.now ∧ s.now ≤ (s.fibers.length : Int) - 1) = true) := decide_eq_true hn
                have HNOW := Lib.hid hn
                have HR4 : Hid (r = if allK s.fibers.length (callersB s) = false then 3 else lineErr p s) := by unfold Hid; rw [HR3.out, if_neg h0, if_neg (fun h => h hn)]
                clear h0 hn HR3
                go_upto_region 15 with (first
                  | (go_at_call 46; (with_reducible refine (within_any _ _ _ _).mono ?_); rintro e w4 ⟨rfl, rfl⟩; rw [HW1.out]))
                go_wp2_with fail
                clear b0 b1 b2
                go_loopw [7] (fun q wr => ∃ k : Nat, k ≤ s.fibers.length ∧ q = .int .i64 k ∧ Ext w3 wr ∧ ∀ i, i < k → callersB s i = true) (fun q _ => s.fibers.length - (intOf q).toNat)
                case atStart => exact ⟨0, Nat.zero_le _, rfl, Ext.refl _, fun i hi => absurd hi (Nat.not_lt_zero _)⟩
                case round =>
                  obtain ⟨k, hk, rfl, hb, hall⟩ := hrel
                  have HB := Lib.hid hb
                  have HALL := Lib.hid hall
                  obtain ⟨⟨b0, -⟩, ⟨b1, -⟩, ⟨b2, -⟩⟩ := (⟨BX3.out.1.ext hb, BX3.out.2.1.ext hb, BX3.out.2.2.ext hb⟩ : _ ∧ _ ∧ _)
                  clear hb hall
                  by_cases hlt : k < s.fibers.length
                  · obtain ⟨bf, of, ag, cg, rfl, x0, x1, _⟩ := (Fibers.stays (Ext.stays (HE3.out.trans HB.out)) HFS.out).at' hlt
                    obtain ⟨m, hm⟩ : ∃ m, (s.fibers.getD k default).caller = m := ⟨_, rfl⟩
                    rw [hm] at x1
                    have HM := Lib.hid hm
                    clear hm x0
                    by_cases h6 : -1 ≤ m ∧ m ≤ (s.fibers.length : Int) - 1
                    · have HW2 : Hid (decide (-1 ≤ m ∧ m ≤ (s.fibers.length : Int) - 1) = true) := decide_eq_true h6
                      have HO : Hid (callersB s k = true) := by unfold Hid callersB; rw [HM.out]; exact decide_eq_true h6
                      clear h6
                      go_upto_region 18 with fail
                      refine wp_region_ext (by kernel_rfl) (by kernel_rfl) ?_
                      repeat (first
                        | go_big_quiet_skip
                        | (go_big_quiet_want
                           unfold Oper.quiet
                           apply Exists.intro
                           refine ⟨fun w' hw' => ?_, ?_⟩
                           focus
                             have hcq := Ext.keep hw'
                             go_simp
                             first
                               | with_reducible rfl
                               | (go_at_call 46; refine (within_any _ _ _ _).mono ?_; rintro e w4 ⟨rfl, rfl⟩; rw [HW2.out]; exact ⟨rfl, hw'⟩)
                           (try dsimp only [Act.put])
                           (try simp only [List.setIfInBounds_toArray, List.set_cons_succ, List.set_cons_zero])
                           go_big_quiet_on))
                      refine wpQuiet_nil ?_
                      intro wq hq
                      go_wp2_with fail
                      go_roundw
                      case rel => exact ⟨k + 1, by omega, by go_num, HB.out.trans hq, fun i hi => by
                        by_cases e : i = k
                        · rw [e]; exact HO.out
                        · exact HALL.out i (by omega)⟩
                      case measure => simp [intOf]; omega
                    · have HW2 : Hid (decide (-1 ≤ m ∧ m ≤ (s.fibers.length : Int) - 1) = false) := decide_eq_false h6
                      have HR5 : Hid (r = 3) := by unfold Hid; rw [HR4.out, if_pos (allK_false hlt (by unfold callersB; rw [HM.out]; exact decide_eq_false h6))]
                      clear h6
                      go_upto_region 18 with fail
                      refine wp_region_ext (by kernel_rfl) (by kernel_rfl) ?_
                      repeat (first
                        | go_big_quiet_skip
                        | (go_big_quiet_want
                           unfold Oper.quiet
                           apply Exists.intro
                           refine ⟨fun w' hw' => ?_, ?_⟩
                           focus
                             have hcq := Ext.keep hw'
                             go_simp
                             first
                               | with_reducible rfl
                               | (go_at_call 46; refine (within_any _ _ _ _).mono ?_; rintro e w4 ⟨rfl, rfl⟩; rw [HW2.out]; exact ⟨rfl, hw'⟩)
                           (try dsimp only [Act.put])
                           (try simp only [List.setIfInBounds_toArray, List.set_cons_succ, List.set_cons_zero])
                           go_big_quiet_on))
                      refine wpQuiet_nil ?_
                      intro wq hq
                      go_wp2_with fail
                      go_ret
                      exact ⟨by rw [HR5.out]; rfl, (HE3.out.trans HB.out).trans hq⟩
                  · obtain rfl : k = s.fibers.length := by omega
                    have HR5 : Hid (r = lineErr p s) := by unfold Hid; rw [HR4.out, allK_true HALL.out, if_neg (by decide)]
                    have HCS : Hid (Callers s) := ⟨HNOW.out, fun k hk => of_decide_eq_true (HALL.out k hk), by omega⟩
                    have HE4 := Lib.hid (HE3.out.trans HB.out)
                    have BX4 := Lib.hid (⟨BX3.out.1.ext HB.out, BX3.out.2.1.ext HB.out, BX3.out.2.2.ext HB.out⟩ : _ ∧ _ ∧ _)
                    clear HE3 BX3 HR4 HALL hlt
                    rename World => w4
                    cases hl : lineS s with
                    | none =>
                      have HL := Lib.hid hl
                      have HR6 : Hid (r = 1) := by unfold Hid; rw [HR5.out]; unfold lineErr; rw [hl]
                      clear hl
                      go_wp2_with (first
                        | (go_at_call 47; (with_reducible refine (lineOf_any s _ _ _ (StateV.stays (Ext.stays HE4.out) HS.out) HCS.out).mono ?_); rintro e w5 ⟨hlr, hx5⟩; unfold LineRet at hlr; rw [HL.out] at hlr; obtain rfl := hlr))
                      go_ret
                      exact ⟨by rw [HR6.out]; rfl, HE4.out.trans hx5⟩
                    | some l =>
                      have HL := Lib.hid hl
                      have HR6 : Hid (r = if lineEnd l = false then 1 else if s.now = -1 ∧ 0 < (s.fibers.getD 0 default).frames.length then 1 else if allK s.fibers.length (fibK p s l) = false then 1 else 0) := by unfold Hid; rw [HR5.out]; unfold lineErr; rw [hl]
                      clear hl HR5
                      go_upto_region 21 with (first
                        | (go_at_call 47; (with_reducible refine (lineOf_any s _ _ _ (StateV.stays (Ext.stays HE4.out) HS.out) HCS.out).mono ?_); rintro e w5 ⟨hlr, hx5⟩; unfold LineRet at hlr; rw [HL.out] at hlr; obtain ⟨al, cl, rfl, hline⟩ := hlr))
                      have HLINE := Lib.hid hline
                      have HE5 := Lib.hid (HE4.out.trans hx5)
                      have BX5 := Lib.hid (⟨BX4.out.1.ext hx5, BX4.out.2.1.ext hx5, BX4.out.2.2.ext hx5⟩ : _ ∧ _ ∧ _)
                      clear HE4 BX4 hx5 hline b0 b1 b2
                      rename World => w5
                      obtain ⟨⟨b0, -⟩, ⟨b1, -⟩, ⟨b2, -⟩⟩ := BX5.out
                      cases hle : lineEnd l with
                      | false =>
                        have HR7 : Hid (r = 1) := by unfold Hid; rw [HR6.out, if_pos hle]
                        clear hle
                        go_wp2_with fail
                        go_ret
                        exact ⟨by rw [HR7.out]; rfl, HE5.out⟩
                      | true =>
                        have HR7 : Hid (r = if s.now = -1 ∧ 0 < (s.fibers.getD 0 default).frames.length then 1 else if allK s.fibers.length (fibK p s l) = false then 1 else 0) := by unfold Hid; rw [HR6.out, if_neg (by rw [hle]; decide)]
                        clear hle HR6
                        obtain ⟨bf, of, ag, cg, rfl, x0, x1, _⟩ := (Fibers.stays (Ext.stays HE5.out) HFS.out).at' hpos
                        rw [Nat.zero_mul, Nat.add_zero] at x0
                        obtain ⟨m, hm⟩ : ∃ m, (s.fibers.getD 0 default).frames.length = m := ⟨_, rfl⟩
                        rw [hm] at x0 HR7
                        have HM := Lib.hid hm
                        clear hm x1
                        by_cases hbad : s.now = -1 ∧ 0 < m
                        · have T1 : (s.now == -1) = true := by simp [hbad.1]
                          have T2 : decide ((0 : Int) < (m : Int)) = true := decide_eq_true (by omega)
                          have T2n : decide (0 < m) = true := decide_eq_true hbad.2
                          have HR8 : Hid (r = 1) := by unfold Hid; rw [HR7.out, if_pos hbad]
                          clear hbad
                          go_wp2_with fail
                          go_ret
                          exact ⟨by rw [HR8.out]; rfl, HE5.out⟩
                        · have HR8 : Hid (r = if allK s.fibers.length (fibK p s l) = false then 1 else 0) := by unfold Hid; rw [HR7.out, if_neg hbad]
                          go_cut [92] (fun v9 wx => v9 = .bool false ∧ w5 = wx)
                          case first =>
                            by_cases h1 : s.now = -1
                            · have T1 : (s.now == -1) = true := by simp [h1]
                              have T2 : decide ((0 : Int) < (m : Int)) = false := decide_eq_false (by omega)
                              have T2n : decide (0 < m) = false := decide_eq_false (by omega)
                              clear hbad h1
                              go_wp2_with fail
                              go_meet
                              exact ⟨rfl, rfl⟩
                            · have T1 : (s.now == -1) = false := beq_eq_false_iff_ne.2 h1
                              clear hbad h1
                              go_wp2_with fail
                              go_meet
                              exact ⟨rfl, rfl⟩
                          case rest =>
                            obtain ⟨rfl, rfl⟩ := hcut
                            obtain ⟨hh, hhe⟩ : ∃ hh, decide ((0 : Int) ∈ l) = hh := ⟨_, rfl⟩
                            have HH := Lib.hid hhe
                            clear hbad hhe HR7 b0 b1 b2 x0
                            go_wp2_with fail
                            go_loopw [10] (fun q wr => ∃ k : Nat, k ≤ s.fibers.length ∧ q = .int .i64 k ∧ Ext w5 wr ∧ ∀ i, i < k → fibK p s l i = true) (fun q _ => s.fibers.length - (intOf q).toNat)
                            case atStart => exact ⟨0, Nat.zero_le _, rfl, Ext.refl _, fun i hi => absurd hi (Nat.not_lt_zero _)⟩
                            case round =>
                              obtain ⟨k, hk, rfl, hb, hall⟩ := hrel
                              have HB := Lib.hid hb
                              have HALL := Lib.hid hall
                              obtain ⟨⟨b0, -⟩, ⟨b1, -⟩, ⟨b2, -⟩⟩ := (⟨BX5.out.1.ext hb, BX5.out.2.1.ext hb, BX5.out.2.2.ext hb⟩ : _ ∧ _ ∧ _)
                              clear hb hall
                              by_cases hlt : k < s.fibers.length
                              · obtain ⟨bg, og, a0, c0, e0, z0, _, _⟩ := (Fibers.stays (Ext.stays (HE5.out.trans HB.out)) HFS.out).at' hpos
                                simp only [Option.some.injEq, Addr.mk.injEq, and_true] at e0
                                obtain ⟨rfl, rfl⟩ := e0
                                rw [Nat.zero_mul, Nat.add_zero, HM.out] at z0
                                obtain ⟨bg, og, a2, c2, e2, y0, y1, hfv⟩ := (Fibers.stays (Ext.stays (HE5.out.trans HB.out)) HFS.out).at' hlt
                                simp only [Option.some.injEq, Addr.mk.injEq, and_true] at e2
                                obtain ⟨rfl, rfl⟩ := e2
                                have HFV := Lib.hid hfv
                                have TE : decide ((k : Int) = s.now) = ((k : Int) == s.now) := by rw [Bool.eq_iff_iff]; simp
                                obtain ⟨on, hon⟩ : ∃ on, decide ((k : Int) ∈ l) = on := ⟨_, rfl⟩
                                have HON := Lib.hid hon
                                obtain ⟨runs, hruns⟩ : ∃ runs, ((k : Int) == s.now) = runs := ⟨_, rfl⟩
                                have HKD : Hid (fibK p s l k = (fiberB p (s.fibers.getD k default) on runs && !(decide (k = 0) && !hh && decide (0 < m)))) := by
                                  unfold Hid fibK
                                  rw [hon, TE, hruns, HH.out, HM.out]
                                clear hon TE hfv
                                generalize s.fibers.getD k default = f at *
                                cases hf : fiberB p f on runs with
                                | false =>
                                  have HF := Lib.hid hf
                                  have HK : Hid (fibK p s l k = false) := by unfold Hid; rw [HKD.out, hf]; rfl
                                  clear hf
                                  have HR9 : Hid (r = 1) := by unfold Hid; rw [HR8.out, if_pos (allK_false hlt HK.out)]
                                  go_upto_region 26 with fail
                                  refine wp_region_ext (by kernel_rfl) (by kernel_rfl) ?_
                                  repeat (first
                                    | go_big_quiet_skip
                                    | (go_big_quiet_want
                                       unfold Oper.quiet
                                       apply Exists.intro
                                       refine ⟨fun w' hw' => ?_, ?_⟩
                                       focus
                                         have hcq := Ext.keep hw'
                                         go_simp
                                         first
                                           | with_reducible rfl
                                           | (go_at_call 49; refine (has_any l _ _ _ _ (Ints.stays (Ext.stays (HB.out.trans hw')) HLINE.out)).mono ?_; rintro e w7 ⟨rfl, hx7⟩; first | (rw [HH.out]; exact ⟨rfl, hw'.trans hx7⟩) | (rw [HON.out]; exact ⟨rfl, hw'.trans hx7⟩)) | (go_at_call 48; refine (fiberFine_any p _ _ _ f _ on _ _ (Funcs.stays (Ext.stays ((HE5.out.trans HB.out).trans hw')) HP.out) HZ.out (FiberV.stays (Ext.stays hw') HFV.out)).mono ?_; rintro e w7 ⟨rfl, hx7⟩; rw [HF.out]; exact ⟨rfl, hw'.trans hx7⟩)
                                       (try dsimp only [Act.put])
                                       (try simp only [List.setIfInBounds_toArray, List.set_cons_succ, List.set_cons_zero])
                                       go_big_quiet_on))
                                  refine wpQuiet_nil ?_
                                  intro wq hq
                                  go_wp2_with fail
                                  go_ret
                                  exact ⟨by rw [HR9.out]; rfl, (HE5.out.trans HB.out).trans hq⟩
                                | true =>
                                  have HF := Lib.hid hf
                                  have HKD2 : Hid (fibK p s l k = !(decide (k = 0) && !hh && decide (0 < m))) := by unfold Hid; rw [HKD.out, hf, Bool.true_and]
                                  clear hf
                                  by_cases hk0 : k = 0
                                  · have T0 : ((k : Int) == 0) = true := by simp [hk0]
                                    have HKD3 : Hid (fibK p s l k = !(!hh && decide (0 < m))) := by unfold Hid; rw [HKD2.out, decide_eq_true hk0, Bool.true_and]
                                    clear hk0
                                    cases hh with
                                    | true =>
                                      have HK : Hid (fibK p s l k = true) := by unfold Hid; rw [HKD3.out]; rfl
                                      go_upto_region 26 with fail
                                      refine wp_region_ext (by kernel_rfl) (by kernel_rfl) ?_
                                      repeat (first
                                        | go_big_quiet_skip
                                        | (go_big_quiet_want
                                           unfold Oper.quiet
                                           apply Exists.intro
                                           refine ⟨fun w' hw' => ?_, ?_⟩
                                           focus
                                             have hcq := Ext.keep hw'
                                             go_simp
                                             first
                                               | with_reducible rfl
                                               | (go_at_call 49; refine (has_any l _ _ _ _ (Ints.stays (Ext.stays (HB.out.trans hw')) HLINE.out)).mono ?_; rintro e w7 ⟨rfl, hx7⟩; first | (rw [HH.out]; exact ⟨rfl, hw'.trans hx7⟩) | (rw [HON.out]; exact ⟨rfl, hw'.trans hx7⟩)) | (go_at_call 48; refine (fiberFine_any p _ _ _ f _ on _ _ (Funcs.stays (Ext.stays ((HE5.out.trans HB.out).trans hw')) HP.out) HZ.out (FiberV.stays (Ext.stays hw') HFV.out)).mono ?_; rintro e w7 ⟨rfl, hx7⟩; rw [HF.out]; exact ⟨rfl, hw'.trans hx7⟩)
                                           (try dsimp only [Act.put])
                                           (try simp only [List.setIfInBounds_toArray, List.set_cons_succ, List.set_cons_zero])
                                           go_big_quiet_on))
                                      refine wpQuiet_nil ?_
                                      intro wq hq
                                      go_wp2_with fail
                                      go_roundw
                                      case rel => exact ⟨k + 1, by omega, by go_num, HB.out.trans hq, fun i hi => by
                                        by_cases e : i = k
                                        · rw [e]; exact HK.out
                                        · exact HALL.out i (by omega)⟩
                                      case measure => simp [intOf]; omega
                                    | false =>
                                      by_cases hm0 : 0 < m
                                      · have T3 : decide ((0 : Int) < (m : Int)) = true := decide_eq_true (by omega)
                                        have T3n : decide (0 < m) = true := decide_eq_true hm0
                                        have HK : Hid (fibK p s l k = false) := by unfold Hid; rw [HKD3.out, T3n]; rfl
                                        clear hm0
                                        have HR9 : Hid (r = 1) := by unfold Hid; rw [HR8.out, if_pos (allK_false hlt HK.out)]
                                        go_upto_region 26 with fail
                                        refine wp_region_ext (by kernel_rfl) (by kernel_rfl) ?_
                                        repeat (first
                                          | go_big_quiet_skip
                                          | (go_big_quiet_want
                                             unfold Oper.quiet
                                             apply Exists.intro
                                             refine ⟨fun w' hw' => ?_, ?_⟩
                                             focus
                                               have hcq := Ext.keep hw'
                                               go_simp
                                               first
                                                 | with_reducible rfl
                                                 | (go_at_call 49; refine (has_any l _ _ _ _ (Ints.stays (Ext.stays (HB.out.trans hw')) HLINE.out)).mono ?_; rintro e w7 ⟨rfl, hx7⟩; first | (rw [HH.out]; exact ⟨rfl, hw'.trans hx7⟩) | (rw [HON.out]; exact ⟨rfl, hw'.trans hx7⟩)) | (go_at_call 48; refine (fiberFine_any p _ _ _ f _ on _ _ (Funcs.stays (Ext.stays ((HE5.out.trans HB.out).trans hw')) HP.out) HZ.out (FiberV.stays (Ext.stays hw') HFV.out)).mono ?_; rintro e w7 ⟨rfl, hx7⟩; rw [HF.out]; exact ⟨rfl, hw'.trans hx7⟩)
                                             (try dsimp only [Act.put])
                                             (try simp only [List.setIfInBounds_toArray, List.set_cons_succ, List.set_cons_zero])
                                             go_big_quiet_on))
                                        refine wpQuiet_nil ?_
                                        intro wq hq
                                        go_wp2_with fail
                                        go_ret
                                        exact ⟨by rw [HR9.out]; rfl, (HE5.out.trans HB.out).trans hq⟩
                                      · have T3 : decide ((0 : Int) < (m : Int)) = false := decide_eq_false (by omega)
                                        have T3n : decide (0 < m) = false := decide_eq_false hm0
                                        have HK : Hid (fibK p s l k = true) := by unfold Hid; rw [HKD3.out, T3n]; rfl
                                        clear hm0
                                        go_upto_region 26 with fail
                                        refine wp_region_ext (by kernel_rfl) (by kernel_rfl) ?_
                                        repeat (first
                                          | go_big_quiet_skip
                                          | (go_big_quiet_want
                                             unfold Oper.quiet
                                             apply Exists.intro
                                             refine ⟨fun w' hw' => ?_, ?_⟩
                                             focus
                                               have hcq := Ext.keep hw'
                                               go_simp
                                               first
                                                 | with_reducible rfl
                                                 | (go_at_call 49; refine (has_any l _ _ _ _ (Ints.stays (Ext.stays (HB.out.trans hw')) HLINE.out)).mono ?_; rintro e w7 ⟨rfl, hx7⟩; first | (rw [HH.out]; exact ⟨rfl, hw'.trans hx7⟩) | (rw [HON.out]; exact ⟨rfl, hw'.trans hx7⟩)) | (go_at_call 48; refine (fiberFine_any p _ _ _ f _ on _ _ (Funcs.stays (Ext.stays ((HE5.out.trans HB.out).trans hw')) HP.out) HZ.out (FiberV.stays (Ext.stays hw') HFV.out)).mono ?_; rintro e w7 ⟨rfl, hx7⟩; rw [HF.out]; exact ⟨rfl, hw'.trans hx7⟩)
                                             (try dsimp only [Act.put])
                                             (try simp only [List.setIfInBounds_toArray, List.set_cons_succ, List.set_cons_zero])
                                             go_big_quiet_on))
                                        refine wpQuiet_nil ?_
                                        intro wq hq
                                        go_wp2_with fail
                                        go_roundw
                                        case rel => exact ⟨k + 1, by omega, by go_num, HB.out.trans hq, fun i hi => by
                                          by_cases e : i = k
                                          · rw [e]; exact HK.out
                                          · exact HALL.out i (by omega)⟩
                                        case measure => simp [intOf]; omega
                                  · have T0 : ((k : Int) == 0) = false := beq_eq_false_iff_ne.2 (by omega)
                                    have HK : Hid (fibK p s l k = true) := by unfold Hid; rw [HKD2.out, decide_eq_false hk0]; rfl
                                    clear hk0
                                    go_upto_region 26 with fail
                                    refine wp_region_ext (by kernel_rfl) (by kernel_rfl) ?_
                                    repeat (first
                                      | go_big_quiet_skip
                                      | (go_big_quiet_want
                                         unfold Oper.quiet
                                         apply Exists.intro
                                         refine ⟨fun w' hw' => ?_, ?_⟩
                                         focus
                                           have hcq := Ext.keep hw'
                                           go_simp
                                           first
                                             | with_reducible rfl
                                             | (go_at_call 49; refine (has_any l _ _ _ _ (Ints.stays (Ext.stays (HB.out.trans hw')) HLINE.out)).mono ?_; rintro e w7 ⟨rfl, hx7⟩; first | (rw [HH.out]; exact ⟨rfl, hw'.trans hx7⟩) | (rw [HON.out]; exact ⟨rfl, hw'.trans hx7⟩)) | (go_at_call 48; refine (fiberFine_any p _ _ _ f _ on _ _ (Funcs.stays (Ext.stays ((HE5.out.trans HB.out).trans hw')) HP.out) HZ.out (FiberV.stays (Ext.stays hw') HFV.out)).mono ?_; rintro e w7 ⟨rfl, hx7⟩; rw [HF.out]; exact ⟨rfl, hw'.trans hx7⟩)
                                         (try dsimp only [Act.put])
                                         (try simp only [List.setIfInBounds_toArray, List.set_cons_succ, List.set_cons_zero])
                                         go_big_quiet_on))
                                    refine wpQuiet_nil ?_
                                    intro wq hq
                                    go_wp2_with fail
                                    go_roundw
                                    case rel => exact ⟨k + 1, by omega, by go_num, HB.out.trans hq, fun i hi => by
                                      by_cases e : i = k
                                      · rw [e]; exact HK.out
                                      · exact HALL.out i (by omega)⟩
                                    case measure => simp [intOf]; omega
                              · obtain rfl : k = s.fibers.length := by omega
                                have HR9 : Hid (r = 0) := by unfold Hid; rw [HR8.out, allK_true HALL.out, if_neg (by decide)]
                                clear hlt
                                go_wp2_with fail
                                go_ret
                                exact ⟨by rw [HR9.out]; rfl, HE5.out.trans HB.out⟩
              · have HW1 : Hid (decide (-1 ≤ s.now ∧ s.now ≤ (s.fibers.length : Int) - 1) = false) := decide_eq_false hn
                have HR4 : Hid (r = 3) := by unfold Hid; rw [HR3.out, if_neg h0, if_pos hn]
                clear h0 hn HR3
                go_wp2_with (first
                  | (go_at_call 46; (with_reducible refine (within_any _ _ _ _).mono ?_); rintro e w4 ⟨rfl, rfl⟩; rw [HW1.out]))
                go_ret
                exact ⟨by rw [HR4.out]; rfl, HE3.out⟩
  · have HR1 : Hid (r = progErr p) := by unfold Hid; rw [← HR.out]; unfold stateErr; rw [if_pos hz]
    obtain ⟨q, hq⟩ : ∃ q, progErr p = q := ⟨_, rfl⟩
    rw [hq] at hz HR1
    have HQ := Lib.hid hq
    have TB : (q != 0) = true := bne_iff_ne.2 hz
    clear hz hq HR
    go_enter Try.func26, Try.ntmps26
    go_wp2_with (first
      | (go_at_call 21; (with_reducible refine (progError_any p _ S _ (Funcs.stays (Ext.stays HE1.out) HP.out)).mono ?_); rintro e w2 ⟨rfl, hx2⟩; rw [HQ.out]))
    go_ret
    exact ⟨by rw [HR1.out]; rfl, HE1.out.trans hx2⟩
end Go.Proofs.Ytpomcbginkhlbaa
end
