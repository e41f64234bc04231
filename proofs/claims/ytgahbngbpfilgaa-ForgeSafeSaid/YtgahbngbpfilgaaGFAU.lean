/- Merged texts: contracts and plain facts, one part behind another; each part begins with what it says. -/
import Derived.Test.YtgahbngbpfilgaaGFAD
import Derived.Test.YtgahbngbpfilgaaGFAI
import Derived.Test.YtgahbngbpfilgaaGFAJ
import Derived.Test.YtgahbngbpfilgaaGFAR
import Derived.Test.YtgahbngbpfilgaaGFAT
section
/- Plain facts of the judge's fiber: it finds what the document says. No program in sight; no condition. -/
namespace Go.Proofs.Ytgahbngbpfilgaa

end Go.Proofs.Ytgahbngbpfilgaa
end
section
/- Contract of state.Fresh. -/
set_option maxHeartbeats 4000000
set_option maxRecDepth 100000
namespace Go.Proofs.Ytgahbngbpfilgaa
open Go Go.RowKit

theorem nonzero_any (n : Int) (w : World) : Calls Try.prog 122 #[.int .i64 n] w fun e w' => e = .returned (.bool (n != 0)) ∧ w = w' := by
  go_enter Try.func122, Try.ntmps122
  go_wp2_with fail
  go_ret
  exact ⟨rfl, rfl⟩

theorem indexFunc_any (l : List Int) (v : Value) (S : Nat → Prop) (w : World) (hl : Ints w S v l) :
    Calls Try.prog 85 #[v, .func (.func 122) #[] #[]] w fun e w' => (∃ i : Int, e = .returned (.int .i64 i) ∧ (0 ≤ i ↔ ∃ k, k < l.length ∧ l.getD k 0 ≠ 0)) ∧ Ext w w' := by
  have HL := Lib.hid hl
  obtain ⟨pa, ca, rfl, hca, hba, _⟩ := hl
  go_enter Try.func85, Try.ntmps85
  go_wp2_with fail
  go_loopw [8] (fun q wr => ∃ k : Nat, k ≤ l.length ∧ q = .int .i64 k ∧ Ext w wr ∧ ∀ i, i < k → l.getD i 0 = 0) (fun q _ => l.length - (intOf q).toNat)
  case atStart => exact ⟨0, Nat.zero_le _, rfl, Ext.refl _, fun i hi => absurd hi (Nat.not_lt_zero _)⟩
  case round =>
    obtain ⟨k, hk, rfl, hb3, htk⟩ := hrel
    have HB3 := Lib.hid hb3
    have HTK := Lib.hid htk
    clear hb3 htk
    by_cases hlt : k < l.length
    · obtain ⟨ba, oa, rfl, x0⟩ := Ints.at' HL.out hlt
      have x1 := Ext.cell HB3.out x0
      clear x0
      obtain ⟨u, hu⟩ : ∃ u, l.getD k 0 = u := ⟨_, rfl⟩
      rw [hu] at x1
      have HU := Lib.hid hu
      clear hu
      by_cases h0 : u = 0
      · have HT : Hid ((u != 0) = false) := by unfold Hid; rw [bne_eq_false_iff_eq]; exact h0
        have HX : Hid (∀ i, i < k + 1 → l.getD i 0 = 0) := fun i hi => by
          by_cases e : i = k
          · rw [e, HU.out]; exact h0
          · exact HTK.out i (by omega)
        clear h0
        go_wp2_with (first | (go_at_call 122; (with_reducible refine (nonzero_any _ _).mono ?_); rintro e w4 ⟨rfl, rfl⟩; rw [HT.out]))
        go_roundw
        case rel => exact ⟨k + 1, by omega, by go_num, HB3.out, HX.out⟩
        case measure => simp [intOf]; omega
      · have HT : Hid ((u != 0) = true) := bne_iff_ne.2 h0
        have HX : Hid (∃ k, k < l.length ∧ l.getD k 0 ≠ 0) := ⟨k, hlt, by rw [HU.out]; exact h0⟩
        clear h0
        go_wp2_with (first | (go_at_call 122; (with_reducible refine (nonzero_any _ _).mono ?_); rintro e w4 ⟨rfl, rfl⟩; rw [HT.out]))
        go_ret
        exact ⟨⟨k, rfl, ⟨fun _ => HX.out, fun _ => by omega⟩⟩, HB3.out⟩
    · obtain rfl : k = l.length := by omega
      have HX : Hid (¬ ∃ k, k < l.length ∧ l.getD k 0 ≠ 0) := fun ⟨k, h1, h2⟩ => h2 (HTK.out k h1)
      clear hlt
      go_wp2_with fail
      go_ret
      exact ⟨⟨-1, rfl, ⟨fun h => by omega, fun h => (HX.out h).elim⟩⟩, HB3.out⟩

theorem containsFunc_any (l : List Int) (v : Value) (S : Nat → Prop) (w : World) (hl : Ints w S v l) :
    Calls Try.prog 54 #[v, .func (.func 122) #[] #[]] w fun e w' => e = .returned (.bool (!allK l.length (fun k => decide (l.getD k 0 = 0)))) ∧ Ext w w' := by
  have HL := Lib.hid hl
  obtain ⟨pa, ca, rfl, hca, hba, _⟩ := hl
  obtain ⟨t, ht⟩ : ∃ t, (!allK l.length (fun k => decide (l.getD k 0 = 0))) = t := ⟨_, rfl⟩
  rw [ht]
  have HT : Hid (decide (∃ k, k < l.length ∧ l.getD k 0 ≠ 0) = t) := by
    unfold Hid
    rw [← ht]
    cases h : allK l.length (fun k => decide (l.getD k 0 = 0)) with
    | true =>
      have := allK_of h
      exact decide_eq_false (fun ⟨k, h1, h2⟩ => h2 (of_decide_eq_true (this k h1)))
    | false =>
      refine decide_eq_true (Classical.byContradiction fun hn => ?_)
      have : allK l.length (fun k => decide (l.getD k 0 = 0)) = true := allK_true fun k hk => decide_eq_true (Classical.byContradiction fun h2 => hn ⟨k, hk, h2⟩)
      rw [this] at h
      cases h
  clear ht
  go_enter Try.func54, Try.ntmps54
  go_wp2_with (first
    | (go_at_call 85; (with_reducible refine (indexFunc_any l _ S _ HL.out).mono ?_); rintro e w2 ⟨⟨i, rfl, hi⟩, hx⟩; have HI := Lib.hid hi; clear hi))
  go_ret
  refine ⟨?_, hx⟩
  exact congrArg (fun b => Ending.returned (.bool b)) ((decide_eq_decide.2 HI.out).trans HT.out)

theorem stateFresh_any (p : List GFunc) (v : Value) (S T : Nat → Prop) (x : GFiber) (vx : Value) (w : World) (hp : Funcs w S v p) (hx : FiberV w T vx x) (hf : ∀ h : 0 < x.frames.length, 0 ≤ x.frames[0].func ∧ x.frames[0].func < p.length) :
    Calls Try.prog 104 #[v, vx] w fun e w' => e = .returned (.bool (freshB p x)) ∧ Ext w w' := by
  have HP := Lib.hid hp
  obtain ⟨fs, cl⟩ := x
  obtain ⟨vf, rfl, hfr, _⟩ := hx
  have hfr0 := hfr
  obtain ⟨a1, c1, rfl, _, _, _⟩ := hfr
  simp only at *
  have RA := alloc_keep
  obtain ⟨r, hr⟩ : ∃ r, freshB p ⟨fs, cl⟩ = r := ⟨_, rfl⟩
  rw [hr]
  have HR := Lib.hid hr
  clear hr
  by_cases h1 : fs.length = 1
  · have T1 : ((fs.length : Int) != 1) = false := by rw [bne_eq_false_iff_eq]; omega
    obtain ⟨x, rfl⟩ : ∃ x, fs = [x] := List.length_eq_one_iff.1 h1
    obtain ⟨b0, b1⟩ := hf (by simp)
    obtain ⟨bf, of, cf, e1, _, _, ⟨_, x0, _⟩, ⟨_, x1, _⟩, ⟨vl, x2, hls⟩, ⟨vs, x3, hss⟩⟩ := hfr0.get (i := 0) (by simp)
    simp only [Value.slice.injEq, List.getElem_cons_zero] at e1 x0 x1 hls hss b0 b1
    obtain ⟨rfl, -, rfl⟩ := e1
    rw [Nat.zero_mul, Nat.add_zero] at x0 x1 x2 x3
    obtain ⟨fn, at_, ls, st⟩ := x
    simp only at *
    obtain ⟨n, rfl⟩ : ∃ n : Nat, fn = n := ⟨fn.toNat, by omega⟩
    have hn : n < p.length := by omega
    obtain ⟨b, o, cap, rfl, hcap, hby, ⟨_, hA, iA⟩, _, _⟩ := hp.get hn
    have hF := funcOf_nat hn
    have HLS := Lib.hid hls
    obtain ⟨a2, c2, rfl, _, _, _⟩ := hls
    obtain ⟨a3, c3, rfl, _, _, _⟩ := hss
    have HRR : Hid (r = (decide (at_ = 0) && decide (p[n].args = 1) && decide (st.length = 0) && allK ls.length (fun k => decide (ls.getD k 0 = 0)))) := by
      unfold Hid
      rw [← HR.out]
      unfold freshB
      simp only [List.getD_cons_zero, hF]
      simp
    clear hF HR hfr0 hp b0 b1 hf h1
    by_cases h2 : at_ = 0
    · have T2 : (at_ == 0) = true := by simp [h2]
      by_cases h3 : p[n].args = 1
      · have T3 : (p[n].args == 1) = true := by simp [h3]
        by_cases h4 : st.length = 0
        · have T4 : ((st.length : Int) == 0) = true := by simp [h4]
          have HR2 : Hid (r = allK ls.length (fun k => decide (ls.getD k 0 = 0))) := by unfold Hid; rw [HRR.out]; simp [h2, h3, h4]
          clear h2 h3 h4 HRR
          go_enter Try.func104, Try.ntmps104
          go_wp2_with (first
            | (go_at_call 54; (with_reducible refine (containsFunc_any ls _ _ _ (Ints.stays (Ext.stays (((Ext.refl w).alloc _).alloc _)) HLS.out)).mono ?_); rintro e w2 ⟨rfl, hx2⟩; rw [← HR2.out]))
          go_ret
          exact ⟨rfl, by ((repeat (first | assumption | exact Ext.refl _ | (exact And.left (by assumption)) | refine Ext.alloc ?_ _ | refine Ext.drew ?_ | refine Ext.drewN ?_ _ | refine Ext.setCell ?_ (by simp) _ | refine Ext.setCell ?_ (by simp; omega) _ | refine Ext.trans ?_ (by assumption))); done)⟩
        · have T4 : ((st.length : Int) == 0) = false := beq_eq_false_iff_ne.2 (by omega)
          have HR2 : Hid (r = false) := by unfold Hid; rw [HRR.out]; simp [h4]
          clear h2 h3 h4 HRR
          go_enter Try.func104, Try.ntmps104
          go_wp2_with fail
          go_ret
          exact ⟨by rw [HR2.out]; rfl, by ((repeat (first | assumption | exact Ext.refl _ | (exact And.left (by assumption)) | refine Ext.alloc ?_ _ | refine Ext.drew ?_ | refine Ext.drewN ?_ _ | refine Ext.setCell ?_ (by simp) _ | refine Ext.setCell ?_ (by simp; omega) _ | refine Ext.trans ?_ (by assumption))); done)⟩
      · have T3 : (p[n].args == 1) = false := beq_eq_false_iff_ne.2 h3
        have HR2 : Hid (r = false) := by unfold Hid; rw [HRR.out]; simp [h3]
        clear h2 h3 HRR
        go_enter Try.func104, Try.ntmps104
        go_wp2_with fail
        go_ret
        exact ⟨by rw [HR2.out]; rfl, by ((repeat (first | assumption | exact Ext.refl _ | (exact And.left (by assumption)) | refine Ext.alloc ?_ _ | refine Ext.drew ?_ | refine Ext.drewN ?_ _ | refine Ext.setCell ?_ (by simp) _ | refine Ext.setCell ?_ (by simp; omega) _ | refine Ext.trans ?_ (by assumption))); done)⟩
    · have T2 : (at_ == 0) = false := beq_eq_false_iff_ne.2 h2
      have HR2 : Hid (r = false) := by unfold Hid; rw [HRR.out]; simp [h2]
      clear h2 HRR
      go_enter Try.func104, Try.ntmps104
      go_wp2_with fail
      go_ret
      exact ⟨by rw [HR2.out]; rfl, by ((repeat (first | assumption | exact Ext.refl _ | (exact And.left (by assumption)) | refine Ext.alloc ?_ _ | refine Ext.drew ?_ | refine Ext.drewN ?_ _ | refine Ext.setCell ?_ (by simp) _ | refine Ext.setCell ?_ (by simp; omega) _ | refine Ext.trans ?_ (by assumption))); done)⟩
  · have T1 : ((fs.length : Int) != 1) = true := bne_iff_ne.2 (by omega)
    have HR2 : Hid (r = false) := by unfold Hid; rw [← HR.out]; unfold freshB; simp [h1]
    obtain ⟨a, cap, rfl, _, _, _⟩ := hp
    clear h1 HR
    go_enter Try.func104, Try.ntmps104
    go_wp2_with fail
    go_ret
    exact ⟨by rw [HR2.out]; rfl, by ((repeat (first | assumption | exact Ext.refl _ | (exact And.left (by assumption)) | refine Ext.alloc ?_ _ | refine Ext.drew ?_ | refine Ext.drewN ?_ _ | refine Ext.setCell ?_ (by simp) _ | refine Ext.setCell ?_ (by simp; omega) _ | refine Ext.trans ?_ (by assumption))); done)⟩
end Go.Proofs.Ytgahbngbpfilgaa
end
section
/- Contracts of slices.Index and slices.Contains at ints. -/
set_option maxHeartbeats 2000000
set_option maxRecDepth 100000
namespace Go.Proofs.Ytgahbngbpfilgaa
open Go Go.RowKit

theorem indexI_any (l : List Int) (v : Value) (x : Int) (S : Nat → Prop) (w : World) (hl : Ints w S v l) :
    Calls Try.prog 121 #[v, .int .i64 x] w fun e w' => (∃ i : Int, e = .returned (.int .i64 i) ∧ (0 ≤ i ↔ x ∈ l) ∧ I64 i) ∧ Ext w w' := by
  have HL := Lib.hid hl
  obtain ⟨pa, ca, rfl, hca, hba, _⟩ := hl
  go_enter Try.func121, Try.ntmps121
  go_wp2_with fail
  go_loopw [8] (fun q wr => ∃ k : Nat, k ≤ l.length ∧ q = .int .i64 k ∧ Ext w wr ∧ x ∉ l.take k) (fun q _ => l.length - (intOf q).toNat)
  case atStart => exact ⟨0, Nat.zero_le _, rfl, Ext.refl _, by simp⟩
  case round =>
    obtain ⟨k, hk, rfl, hb3, htk⟩ := hrel
    have HB3 := Lib.hid hb3
    have HTK := Lib.hid htk
    clear hb3 htk
    by_cases hlt : k < l.length
    · obtain ⟨ba, oa, _, e1, _, _, _, x0, _⟩ := HL.out.get hlt
      simp only [Value.slice.injEq] at e1
      obtain ⟨rfl, -, rfl⟩ := e1
      rw [Nat.mul_one] at x0
      have x1 := Ext.cell HB3.out x0
      have HM : Hid (l[k] ∈ l) := List.getElem_mem hlt
      have HS : Hid (l.take (k + 1) = l.take k ++ [l[k]]) := List.take_succ_eq_append_getElem hlt
      clear x0
      generalize l[k] = u at *
      by_cases hu : x = u
      · have TT : (x == u) = true := by simp [hu]
        have HX : Hid (x ∈ l) := hu ▸ HM.out
        clear hu
        go_wp2_with fail
        go_ret
        exact ⟨⟨k, rfl, ⟨fun _ => HX.out, fun _ => by omega⟩, I64.nat (by omega)⟩, HB3.out⟩
      · have TT : (x == u) = false := by simp [hu]
        have HX : Hid (x ∉ l.take (k + 1)) := by unfold Hid; rw [HS.out, List.mem_append, List.mem_singleton]; exact fun h => h.elim HTK.out hu
        clear hu
        go_wp2_with fail
        go_roundw
        case rel => exact ⟨k + 1, by omega, by go_num, HB3.out, HX.out⟩
        case measure => simp [intOf]; omega
    · obtain rfl : k = l.length := by omega
      have HX : Hid (x ∉ l) := by have := HTK.out; rwa [List.take_length] at this
      go_wp2_with fail
      go_ret
      exact ⟨⟨-1, rfl, ⟨fun h => by omega, fun h => (HX.out h).elim⟩, I64.small (by omega) (by omega)⟩, HB3.out⟩

theorem containsI_any (l : List Int) (v : Value) (x : Int) (S : Nat → Prop) (w : World) (hl : Ints w S v l) :
    Calls Try.prog 101 #[v, .int .i64 x] w fun e w' => e = .returned (.bool (decide (x ∈ l))) ∧ Ext w w' := by
  have HL := Lib.hid hl
  obtain ⟨pa, ca, rfl, hca, hba, _⟩ := hl
  obtain ⟨t, ht⟩ : ∃ t, decide (x ∈ l) = t := ⟨_, rfl⟩
  rw [ht]
  have HT := Lib.hid ht
  clear ht
  go_enter Try.func101, Try.ntmps101
  go_wp2_with (first
    | (go_at_call 121; (with_reducible refine (indexI_any l _ x S _ HL.out).mono ?_); rintro e w2 ⟨⟨i, rfl, hi, _⟩, hx⟩; have HI := Lib.hid hi; clear hi))
  go_ret
  refine ⟨?_, hx⟩
  exact congrArg (fun b => Ending.returned (.bool b)) ((decide_eq_decide.2 HI.out).trans HT.out)
end Go.Proofs.Ytgahbngbpfilgaa
end
section
/- Contract of the judge's fiber. -/
set_option maxHeartbeats 4000000
set_option maxRecDepth 100000
set_option linter.unusedSimpArgs false
namespace Go.Proofs.Ytgahbngbpfilgaa
open Go Go.RowKit

end Go.Proofs.Ytgahbngbpfilgaa
end
