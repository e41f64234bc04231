/- Contracts of prog.Check and the document's ProgError. -/
import Derived.Test.YtpomcbginkhlbaaFlowH
import Derived.Test.YtpomcbginkhlbaaOp6
import Derived.Test.YtpomcbginkhlbaaProgP
set_option maxHeartbeats 2000000
set_option maxRecDepth 100000
namespace Go.Proofs.Ytpomcbginkhlbaa
open Go Go.RowKit

theorem hts_at {p : List GFunc} {k : Nat} (h : funcErr p k = 0) (hk : k < p.length) : p.getD k default = p[k] ∧ RightF p p[k] := by
  obtain ⟨n, hn, e, hg, hR⟩ := hts_here h
  obtain rfl : k = n := by omega
  exact ⟨by simpa using hg, hR⟩

theorem progCheck_any (p : List GFunc) (v : Value) (S : Nat → Prop) (w : World) (hp : Funcs w S v p) :
    Calls Try.prog 16 #[v] w fun e w' => e = .returned (.int .i64 (progErr p)) ∧ Ext w w' := by
  have HP := Lib.hid hp
  obtain ⟨r, hr⟩ : ∃ r, progErr p = r := ⟨_, rfl⟩
  rw [hr]
  have HR := Lib.hid hr
  clear hr
  have hp0 := hp
  obtain ⟨a, cap, rfl, hcap, hby, _⟩ := hp
  by_cases h1 : 5 < p.length
  · have hres : r = 2 := by rw [← HR.out]; unfold progErr; rw [if_pos h1]
    subst hres
    clear hp0
    go_enter Try.func16, Try.ntmps16
    go_wp2_with fail
    go_ret
    exact ⟨rfl, Ext.refl _⟩
  · by_cases h2 : p.length = 0
    · have hres : r = 5 := by rw [← HR.out]; unfold progErr; rw [if_neg h1, if_pos h2]
      subst hres
      have TZ : ((p.length : Int) == 0) = true := by simp [h2]
      clear hp0 h2
      go_enter Try.func16, Try.ntmps16
      go_wp2_with fail
      go_ret
      exact ⟨rfl, Ext.refl _⟩
    · have hpos : 0 < p.length := by omega
      have TZ : ((p.length : Int) == 0) = false := beq_eq_false_iff_ne.2 (by omega)
      have h5 : p.length ≤ 5 := by omega
      obtain ⟨b, o, cap', e0, _, _, ⟨_, x0, _⟩, _, _⟩ := hp0.get hpos
      simp only [Value.slice.injEq] at e0
      obtain ⟨rfl, -, rfl⟩ := e0
      rw [Nat.zero_mul, Nat.add_zero] at x0
      have e1 : p.getD 0 default = p[0] := by simp [List.getD, List.getElem?_eq_getElem hpos]
      by_cases h3 : p[0].args ≠ 0
      · have hres : r = 1 := by rw [← HR.out]; unfold progErr; rw [if_neg h1, if_neg h2, e1, if_pos h3]
        subst hres
        have T3 : (p[0].args != 0) = true := bne_iff_ne.2 h3
        clear hp0 h2 h3 e1 h1
        go_enter Try.func16, Try.ntmps16
        go_wp2_with fail
        go_ret
        exact ⟨rfl, Ext.refl _⟩
      · have HRES : Hid (r = if firstFrom p 0 ≠ 0 then firstFrom p 0 else if allFrom p 0 = true then 0 else 1) := by
          unfold Hid
          rw [← HR.out, ← firstFrom_zero, ← allFrom_zero]
          unfold progErr
          rw [if_neg h1, if_neg h2, e1, if_neg h3]
        have T3 : (p[0].args != 0) = false := by rw [bne_eq_false_iff_eq]; exact Decidable.byContradiction h3
        clear hp0 h2 h3 e1 HR h1
        go_enter Try.func16, Try.ntmps16
        go_wp2_with fail
        go_loopw [24] (fun q wr => ∃ k : Nat, k ≤ p.length ∧ q = .int .i64 k ∧ Ext w wr ∧ firstFrom p k = firstFrom p 0) (fun q _ => p.length - (intOf q).toNat)
        case atStart => exact ⟨0, Nat.zero_le _, rfl, Ext.refl _, rfl⟩
        case round =>
          obtain ⟨k, hk, rfl, hb, hff⟩ := hrel
          have HB := Lib.hid hb
          have HFF := Lib.hid hff
          clear hb hff
          by_cases hlt : k < p.length
          · obtain ⟨e, he⟩ : ∃ e, funcErr p k = e := ⟨_, rfl⟩
            have HE := Lib.hid he
            have HST := Lib.hid (firstFrom_step p hlt)
            clear he
            by_cases hz : e = 0
            · subst hz
              go_wp2_with (first
                | (go_at_call 38; (with_reducible refine (check_any p _ S k _ (Funcs.stays (Ext.stays HB.out) HP.out)).mono ?_); rintro e w1 ⟨rfl, hb1⟩; rw [HE.out]))
              go_roundw
              case rel => exact ⟨k + 1, by omega, by go_num, HB.out.trans hb1, by rw [← HFF.out, HST.out, if_neg (fun h => h HE.out)]⟩
              case measure => simp [intOf]; omega
            · have TE : (e != 0) = true := bne_iff_ne.2 hz
              have hres : r = e := by
                rw [HRES.out, ← HFF.out, HST.out, HE.out, if_pos hz, if_pos hz]
              subst hres
              clear hz
              go_wp2_with (first
                | (go_at_call 38; (with_reducible refine (check_any p _ S k _ (Funcs.stays (Ext.stays HB.out) HP.out)).mono ?_); rintro e w1 ⟨rfl, hb1⟩; rw [HE.out]))
              go_ret
              exact ⟨rfl, HB.out.trans hb1⟩
          · obtain rfl : k = p.length := by omega
            have HZ : Hid (firstFrom p 0 = 0) := by
              unfold Hid
              rw [← HFF.out, firstFrom_end]
            clear hlt HFF
            rename World => wr1
            go_wp2_with fail
            go_loopw [36] (fun q wr => ∃ k : Nat, k ≤ p.length ∧ q = .int .i64 k ∧ Ext w wr ∧ allFrom p k = allFrom p 0) (fun q _ => p.length - (intOf q).toNat)
            case atStart => exact ⟨0, Nat.zero_le _, rfl, HB.out, rfl⟩
            case round =>
              obtain ⟨k, hk, rfl, hb, hff⟩ := hrel
              have HB2 := Lib.hid hb
              have HFF := Lib.hid hff
              clear hb hff HB
              by_cases hlt : k < p.length
              · have hfe := firstFrom_nil _ 0 rfl HZ.out k (Nat.zero_le _) hlt
                obtain ⟨hg, hR⟩ := hts_at hfe hlt
                have HST := Lib.hid (allFrom_step p hlt)
                rw [hg] at HST
                clear hfe hg
                cases hh : hts p p[k].code with
                | none =>
                  have HH := Lib.hid hh
                  have hres : r = 1 := by
                    rw [HRES.out, HZ.out, if_neg (fun h => h rfl), ← HFF.out, HST.out, hh]
                    rfl
                  subst hres
                  clear hh
                  go_wp2_with (first
                    | (go_at_call 39; (with_reducible refine (flowOf_any p _ S k _ (Funcs.stays (Ext.stays HB2.out) HP.out) hlt hR).mono ?_); rintro e w2 ⟨hr, hb2⟩; rw [HH.out] at hr; obtain rfl := hr))
                  go_ret
                  exact ⟨rfl, HB2.out.trans hb2⟩
                | some l =>
                  have HH := Lib.hid hh
                  clear hh
                  go_wp2_with (first
                    | (go_at_call 39; (with_reducible refine (flowOf_any p _ S k _ (Funcs.stays (Ext.stays HB2.out) HP.out) hlt hR).mono ?_); rintro e w2 ⟨hr, hb2⟩; rw [HH.out] at hr; obtain ⟨vl, rfl, hl⟩ := hr; obtain ⟨al, cl, rfl, _, _, _⟩ := (⟨hl, trivial⟩ : _ ∧ True).1))
                  go_roundw
                  case rel => exact ⟨k + 1, by omega, by go_num, HB2.out.trans hb2, by rw [← HFF.out, HST.out, HH.out]; rfl⟩
                  case measure => simp [intOf]; omega
              · obtain rfl : k = p.length := by omega
                have hres : r = 0 := by
                  rw [HRES.out, HZ.out, if_neg (fun h => h rfl), ← HFF.out, allFrom_end]
                  rfl
                subst hres
                clear hlt HFF
                go_wp2_with fail
                go_ret
                exact ⟨rfl, HB2.out⟩
theorem progError_any (p : List GFunc) (v : Value) (S : Nat → Prop) (w : World) (hp : Funcs w S v p) :
    Calls Try.prog 21 #[v] w fun e w' => e = .returned (.int .i64 (progErr p)) ∧ Ext w w' := by
  have HP := Lib.hid hp
  obtain ⟨r, hr⟩ : ∃ r, progErr p = r := ⟨_, rfl⟩
  rw [hr]
  have HR := Lib.hid hr
  clear hr
  have hp0 := hp
  obtain ⟨a, cap, rfl, hcap, hby, _⟩ := hp
  by_cases h1 : 5 < p.length
  · have hres : r = 2 := by rw [← HR.out]; unfold progErr; rw [if_pos h1]
    subst hres
    clear hp0
    go_enter Try.func21, Try.ntmps21
    go_wp2_with fail
    go_ret
    exact ⟨rfl, Ext.refl _⟩
  · by_cases h2 : p.length = 0
    · have hres : r = 5 := by rw [← HR.out]; unfold progErr; rw [if_neg h1, if_pos h2]
      subst hres
      have TZ : ((p.length : Int) == 0) = true := by simp [h2]
      clear hp0 h2
      go_enter Try.func21, Try.ntmps21
      go_wp2_with fail
      go_ret
      exact ⟨rfl, Ext.refl _⟩
    · have hpos : 0 < p.length := by omega
      have TZ : ((p.length : Int) == 0) = false := beq_eq_false_iff_ne.2 (by omega)
      have h5 : p.length ≤ 5 := by omega
      obtain ⟨b, o, cap', e0, _, _, ⟨_, x0, _⟩, _, _⟩ := hp0.get hpos
      simp only [Value.slice.injEq] at e0
      obtain ⟨rfl, -, rfl⟩ := e0
      rw [Nat.zero_mul, Nat.add_zero] at x0
      have e1 : p.getD 0 default = p[0] := by simp [List.getD, List.getElem?_eq_getElem hpos]
      by_cases h3 : p[0].args ≠ 0
      · have hres : r = 1 := by rw [← HR.out]; unfold progErr; rw [if_neg h1, if_neg h2, e1, if_pos h3]
        subst hres
        have T3 : (p[0].args != 0) = true := bne_iff_ne.2 h3
        clear hp0 h2 h3 e1 h1
        go_enter Try.func21, Try.ntmps21
        go_wp2_with fail
        go_ret
        exact ⟨rfl, Ext.refl _⟩
      · have HRES : Hid (r = if firstFrom p 0 ≠ 0 then firstFrom p 0 else if allFrom p 0 = true then 0 else 1) := by
          unfold Hid
          rw [← HR.out, ← firstFrom_zero, ← allFrom_zero]
          unfold progErr
          rw [if_neg h1, if_neg h2, e1, if_neg h3]
        have T3 : (p[0].args != 0) = false := by rw [bne_eq_false_iff_eq]; exact Decidable.byContradiction h3
        clear hp0 h2 h3 e1 HR h1
        go_enter Try.func21, Try.ntmps21
        go_wp2_with fail
        go_loopw [3] (fun q wr => ∃ k : Nat, k ≤ p.length ∧ q = .int .i64 k ∧ Ext w wr ∧ firstFrom p k = firstFrom p 0) (fun q _ => p.length - (intOf q).toNat)
        case atStart => exact ⟨0, Nat.zero_le _, rfl, Ext.refl _, rfl⟩
        case round =>
          obtain ⟨k, hk, rfl, hb, hff⟩ := hrel
          have HB := Lib.hid hb
          have HFF := Lib.hid hff
          clear hb hff
          by_cases hlt : k < p.length
          · obtain ⟨e, he⟩ : ∃ e, funcErr p k = e := ⟨_, rfl⟩
            have HE := Lib.hid he
            have HST := Lib.hid (firstFrom_step p hlt)
            clear he
            by_cases hz : e = 0
            · subst hz
              go_wp2_with (first
                | (go_at_call 41; (with_reducible refine (funcError_any p _ S k _ (Funcs.stays (Ext.stays HB.out) HP.out)).mono ?_); rintro e w1 ⟨rfl, hb1⟩; rw [HE.out]))
              go_roundw
              case rel => exact ⟨k + 1, by omega, by go_num, HB.out.trans hb1, by rw [← HFF.out, HST.out, if_neg (fun h => h HE.out)]⟩
              case measure => simp [intOf]; omega
            · have TE : (e != 0) = true := bne_iff_ne.2 hz
              have hres : r = e := by
                rw [HRES.out, ← HFF.out, HST.out, HE.out, if_pos hz, if_pos hz]
              subst hres
              clear hz
              go_wp2_with (first
                | (go_at_call 41; (with_reducible refine (funcError_any p _ S k _ (Funcs.stays (Ext.stays HB.out) HP.out)).mono ?_); rintro e w1 ⟨rfl, hb1⟩; rw [HE.out]))
              go_ret
              exact ⟨rfl, HB.out.trans hb1⟩
          · obtain rfl : k = p.length := by omega
            have HZ : Hid (firstFrom p 0 = 0) := by
              unfold Hid
              rw [← HFF.out, firstFrom_end]
            clear hlt HFF
            rename World => wr1
            go_wp2_with fail
            go_loopw [5] (fun q wr => ∃ k : Nat, k ≤ p.length ∧ q = .int .i64 k ∧ Ext w wr ∧ allFrom p k = allFrom p 0) (fun q _ => p.length - (intOf q).toNat)
            case atStart => exact ⟨0, Nat.zero_le _, rfl, HB.out, rfl⟩
            case round =>
              obtain ⟨k, hk, rfl, hb, hff⟩ := hrel
              have HB2 := Lib.hid hb
              have HFF := Lib.hid hff
              clear hb hff HB
              by_cases hlt : k < p.length
              · have hfe := firstFrom_nil _ 0 rfl HZ.out k (Nat.zero_le _) hlt
                obtain ⟨hg, hR⟩ := hts_at hfe hlt
                have HST := Lib.hid (allFrom_step p hlt)
                rw [hg] at HST
                clear hfe hg
                cases hh : hts p p[k].code with
                | none =>
                  have HH := Lib.hid hh
                  have hres : r = 1 := by
                    rw [HRES.out, HZ.out, if_neg (fun h => h rfl), ← HFF.out, HST.out, hh]
                    rfl
                  subst hres
                  clear hh
                  go_wp2_with (first
                    | (go_at_call 42; (with_reducible refine (heights_any p _ S k _ (Funcs.stays (Ext.stays HB2.out) HP.out) hlt hR).mono ?_); rintro e w2 ⟨hr, hb2⟩; rw [htsR_eq hR.jumps, HH.out] at hr; obtain rfl := hr))
                  go_ret
                  exact ⟨rfl, HB2.out.trans hb2⟩
                | some l =>
                  have HH := Lib.hid hh
                  clear hh
                  go_wp2_with (first
                    | (go_at_call 42; (with_reducible refine (heights_any p _ S k _ (Funcs.stays (Ext.stays HB2.out) HP.out) hlt hR).mono ?_); rintro e w2 ⟨hr, hb2⟩; rw [htsR_eq hR.jumps, HH.out] at hr; obtain ⟨vl, rfl, hl⟩ := hr; obtain ⟨al, cl, rfl, _, _, _⟩ := (⟨hl, trivial⟩ : _ ∧ True).1))
                  go_roundw
                  case rel => exact ⟨k + 1, by omega, by go_num, HB2.out.trans hb2, by rw [← HFF.out, HST.out, HH.out]; rfl⟩
                  case measure => simp [intOf]; omega
              · obtain rfl : k = p.length := by omega
                have hres : r = 0 := by
                  rw [HRES.out, HZ.out, if_neg (fun h => h rfl), ← HFF.out, allFrom_end]
                  rfl
                subst hres
                clear hlt HFF
                go_wp2_with fail
                go_ret
                exact ⟨rfl, HB2.out⟩
end Go.Proofs.Ytpomcbginkhlbaa
