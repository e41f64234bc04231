/- Merged texts: contracts and plain facts, one part behind another; each part begins with what it says. -/
import Derived.Test.YtpomcbginkhlbaaGTAP
import Derived.Test.YtpomcbginkhlbaaGTAR
import Derived.StillTailTactics
section
/- Contracts of the judge's frame and waits. -/
set_option maxHeartbeats 4000000
set_option maxRecDepth 100000
set_option linter.unusedSimpArgs false
namespace Go.Proofs.Ytpomcbginkhlbaa
open Go Go.RowKit

/-- Heights of all functions, a slice of slices. -/
def HtsL (w : World) : Value → List (List Int) → Prop := Sl (fun b o l => ∃ v, w.cell? ⟨b, o, none⟩ = some v ∧ Ints w (fun _ => True) v l) 1 24
theorem HtsL.ext {w w' : World} {v : Value} {l : List (List Int)} (h : HtsL w v l) (he : Ext w w') : HtsL w' v l :=
  Sl.mono h fun _ _ _ ⟨v, h1, h2⟩ => ⟨v, Ext.cell he h1, Ints.stays (Ext.stays he) h2⟩

/-- A judge in its block. -/
structure Judge (w : World) (b : Nat) (p : List GFunc) (s : GState) (line : List Int) : Prop where
  fs : ∃ a c, w.cell? ⟨b, 0, none⟩ = some (.slice a s.fibers.length c) ∧ Fibers w (fun _ => True) (.slice a s.fibers.length c) s.fibers
  now : w.cell? ⟨b, 1, none⟩ = some (.int .i64 s.now)
  pr : ∃ a c, w.cell? ⟨b, 3, none⟩ = some (.slice a p.length c) ∧ Funcs w (fun _ => True) (.slice a p.length c) p
  hts : ∃ a c, w.cell? ⟨b, 4, none⟩ = some (.slice a p.length c) ∧ HtsL w (.slice a p.length c) ((List.range p.length).map (fun k : Nat => hgt p k))
  ln : ∃ a c, w.cell? ⟨b, 5, none⟩ = some (.slice a line.length c) ∧ Ints w (fun _ => True) (.slice a line.length c) line
theorem Judge.ext {w w' : World} {b : Nat} {p : List GFunc} {s : GState} {line : List Int} (h : Judge w b p s line) (he : Ext w w') : Judge w' b p s line := by
  obtain ⟨a1, c1, h1, h2⟩ := h.fs
  obtain ⟨a3, c3, h5, h6⟩ := h.pr
  obtain ⟨a4, c4, h7, h8⟩ := h.hts
  obtain ⟨a5, c5, h9, h10⟩ := h.ln
  exact ⟨⟨a1, c1, Ext.cell he h1, Fibers.stays (Ext.stays he) h2⟩, Ext.cell he h.now, ⟨a3, c3, Ext.cell he h5, Funcs.stays (Ext.stays he) h6⟩, ⟨a4, c4, Ext.cell he h7, h8.ext he⟩, ⟨a5, c5, Ext.cell he h9, Ints.stays (Ext.stays he) h10⟩⟩
theorem Judge.at' {w : World} {p : List GFunc} {a : Option Addr} {n c : Nat} (h : HtsL w (.slice a n c) ((List.range p.length).map (fun k : Nat => hgt p k))) {k : Nat} (hk : k < p.length) :
    ∃ b o a' c', a = some ⟨b, o, none⟩ ∧ w.cell? ⟨b, o + k, none⟩ = some (.slice a' (hgt p k).length c') ∧ Ints w (fun _ => True) (.slice a' (hgt p k).length c') (hgt p k) := by
  obtain ⟨b, o, _, e1, _, _, v, x0, hi⟩ := h.get (i := k) (by simpa using hk)
  simp only [Value.slice.injEq] at e1
  obtain ⟨rfl, -, -⟩ := e1
  rw [Nat.mul_one] at x0
  simp only [List.getElem_map, List.getElem_range] at hi
  have hi2 := hi
  obtain ⟨a', c', rfl, _, _, _⟩ := hi
  exact ⟨b, o, a', c', rfl, x0, hi2⟩

theorem jframe_any (p : List GFunc) (s : GState) (line : List Int) (jb : Nat) (T : Nat → Prop) (x : GFrame) (vx : Value) (w : World) (hj : Judge w jb p s line) (hz : progErr p = 0) (hx : FrameV w T vx x) :
    Calls Try.prog 81 #[.pointer (some ⟨jb, 0, none⟩), vx] w fun e w' => e = mustE (frameB p x) 1 ∧ Ext w w' := by
  have HJ := Lib.hid hj
  have HZ := Lib.hid hz
  obtain ⟨fn, at_, ls, st⟩ := x
  obtain ⟨vs, vt, rfl, _, _, hls, hst⟩ := hx
  obtain ⟨a1, c1, rfl, _, _, _⟩ := hls
  obtain ⟨a2, c2, rfl, _, _, _⟩ := hst
  simp only at *
  have RA := alloc_keep
  have hlen5 := (progErr_zero hz).most
  obtain ⟨ap, cp, j3, hp⟩ := hj.pr
  obtain ⟨ah, ch, j4, hh⟩ := hj.hts
  have bx := Lib.hid (⟨Cx.new w [.int .i64 fn, .int .i64 at_, .slice a1 ls.length c1, .slice a2 st.length c2] 54 (j := 0) rfl, Cx.new w [.int .i64 fn, .int .i64 at_, .slice a1 ls.length c1, .slice a2 st.length c2] 54 (j := 1) rfl, Cx.new w [.int .i64 fn, .int .i64 at_, .slice a1 ls.length c1, .slice a2 st.length c2] 54 (j := 2) rfl⟩ : _ ∧ _ ∧ _)
  have hE1 : Ext w (w.alloc (.cells #[.int .i64 fn, .int .i64 at_, .slice a1 ls.length c1, .slice a2 st.length c2] 54)) := (Ext.refl w).alloc _
  have HE1 := Lib.hid hE1
  have k3 := Ext.cell hE1 j3
  have k4 := Ext.cell hE1 j4
  have HP := Lib.hid hp
  have HH := Lib.hid hh
  clear hp hh hj j3 j4
  by_cases h1 : 0 ≤ fn ∧ fn < p.length
  · obtain ⟨n, rfl⟩ : ∃ n : Nat, fn = n := ⟨fn.toNat, by omega⟩
    have hn : n < p.length := by omega
    have hlm := hgt_len hz hn
    have hmax := (rightAt hz hn).1.len
    have hF := funcOf_nat hn
    obtain ⟨b, o, cap, e1, hcap, hby, _, ⟨_, hL, iL⟩, vc, hC, hcode⟩ := HP.out.get hn
    simp only [Value.slice.injEq] at e1
    obtain ⟨rfl, -, rfl⟩ := e1
    obtain ⟨ca, ccap, rfl, hcc, hcby, _⟩ := hcode
    have hL1 := Ext.cell hE1 hL
    have hC1 := Ext.cell hE1 hC
    have T2 : decide ((n : Int) < (p.length : Int)) = true := decide_eq_true (by omega)
    go_enter Try.func81, Try.ntmps81
    go_upto_region 1 with fail
    obtain ⟨⟨b0, -⟩, ⟨b1, -⟩, ⟨b2, -⟩⟩ := bx.out
    generalize w.alloc (.cells #[.int .i64 n, .int .i64 at_, .slice a1 ls.length c1, .slice a2 st.length c2] 54) = w1 at *
    go_still_tail 11, (by kernel_rfl)
    change wpList _ _ _ _ _ w1.drew
    have hE2 : Ext w1 w1.drew := (Ext.refl _).drew
    generalize w1.drew = w2 at *
    go_upto_region 2 with (first
      | (go_at_call 66; refine (must2 _ _ _ _ _ ).mono ?_; rintro e w3 ⟨rfl, hx3⟩; rw [Bool.and_true, show mustE true 1 = .returned (.tuple #[]) from rfl]))
    have hE3 : Ext w1 w3 := hE2.trans (((Ext.refl _).alloc _).trans hx3)
    have HE3 := Lib.hid (HE1.out.trans hE3)
    have d0 := Ext.cell hE3 b0
    have d1 := Ext.cell hE3 b1
    have d2 := Ext.cell hE3 b2
    have d3 := Ext.cell hE3 k3
    have d4 := Ext.cell hE3 k4
    have d5 := Ext.cell hE3 hL1
    have d6 := Ext.cell hE3 hC1
    clear hx3 hE2 b0 b1 b2 k3 k4 hL1 hC1 hE1 hE3
    rename World => w3
    have HBX := Lib.hid (⟨d0, d1, d4⟩ : _ ∧ _ ∧ _)
    by_cases h2 : (ls.length : Int) = p[n].locals
    · have HLs : Hid (((ls.length : Int) == p[n].locals) = true) := by unfold Hid; simp [h2]
      by_cases h3 : 0 ≤ at_ ∧ at_ < p[n].code.length
      · obtain ⟨m, rfl⟩ : ∃ m : Nat, at_ = m := ⟨at_.toNat, by omega⟩
        have hm : m < p[n].code.length := by omega
        have hml : m < (hgt p n).length := by omega
        obtain ⟨u, hu⟩ : ∃ u, (hgt p n).getD m 0 = u := ⟨_, rfl⟩
        have HR : Hid (frameB p ⟨n, m, ls, st⟩ = decide (0 ≤ u)) := by
          unfold Hid frameB
          simp only [hF]
          rw [decide_eq_true h1, decide_eq_true h2, decide_eq_true h3, show (m : Int).toNat = m by omega, hu]
          simp
        have HU := Lib.hid hu
        obtain ⟨bh, oh, ah2, ch2, rfl, hh0, hhi⟩ := Judge.at' HH.out hn
        obtain ⟨bl, ol, rfl, hl0⟩ := Ints.at' hhi hml
        rw [HU.out] at hl0
        have HHI := Lib.hid (⟨hh0, hl0⟩ : _ ∧ _)
        clear h1 h2 h3 hu hhi hh0 hl0
        go_still_tail 29, (by kernel_rfl)
        change wpList _ _ _ _ _ w3.drew
        have hE4 : Ext w3 w3.drew := (Ext.refl _).drew
        generalize w3.drew = w4 at *
        go_upto_region 3 with (first
          | (go_at_call 66; refine (must3 _ _ _ _ _ _ ).mono ?_; rintro e w5 ⟨he, hx5⟩; rw [HLs.out] at he; simp only [Bool.and_true, Bool.true_and, Bool.and_false, Bool.false_and, Bool.and_self, mustE] at he; subst he))
        have hE5 : Ext w3 w5 := hE4.trans (((Ext.refl _).alloc _).trans hx5)
        have HE5 := Lib.hid (HE3.out.trans hE5)
        have d0' := Ext.cell hE5 d0
        have d1' := Ext.cell hE5 d1
        have d4' := Ext.cell hE5 d4
        have d7 := Ext.cell HE5.out HHI.out.1
        have d8 := Ext.cell HE5.out HHI.out.2
        clear hx5 hE4 hE5 d0 d1 d2 d3 d4 d5 d6
        rename World => w5
        go_still_tail 13, (by kernel_rfl)
        change wpList _ _ _ _ _ w5.drew
        have hE6 : Ext w5 w5.drew := (Ext.refl _).drew
        generalize w5.drew = w6 at *
        by_cases h0 : 0 ≤ u
        · have HU0 : Hid (decide (0 ≤ u) = true) := decide_eq_true h0
          clear h0
          go_wp2_with (first
            | (go_at_call 66; refine (must1 _ _ _ _ ).mono ?_; rintro e w7 ⟨he, hx7⟩; rw [HU0.out] at he; simp only [Bool.and_true, Bool.true_and, Bool.and_false, Bool.false_and, Bool.and_self, mustE] at he; subst he))
          go_end0
          exact ⟨by rw [HR.out, HU0.out]; rfl, (HE5.out.trans hE6).trans (((Ext.refl _).alloc _).trans hx7)⟩
        · have HU0 : Hid (decide (0 ≤ u) = false) := decide_eq_false h0
          clear h0
          go_wp2_with (first
            | (go_at_call 66; refine (must1 _ _ _ _ ).mono ?_; rintro e w7 ⟨he, hx7⟩; rw [HU0.out] at he; simp only [Bool.and_true, Bool.true_and, Bool.and_false, Bool.false_and, Bool.and_self, mustE] at he; subst he))
          exact ⟨rfl, by rw [HR.out, HU0.out]; rfl, (HE5.out.trans hE6).trans (((Ext.refl _).alloc _).trans hx7)⟩
      · have HR : Hid (frameB p ⟨n, at_, ls, st⟩ = false) := by
          unfold Hid frameB
          simp only [hF]
          rw [decide_eq_false h3]
          simp
        by_cases h4 : at_ < 0
        · have T4 : decide (0 ≤ at_) = false := decide_eq_false (by omega)
          clear h1 h2 h3 h4
          go_still_tail 29, (by kernel_rfl)
          change wpList _ _ _ _ _ w3.drew
          have hE4 : Ext w3 w3.drew := (Ext.refl _).drew
          generalize w3.drew = w4 at *
          go_wp2_with (first
            | (go_at_call 66; refine (must3 _ _ _ _ _ _ ).mono ?_; rintro e w5 ⟨he, hx5⟩; (try rw [T4] at he); simp only [Bool.and_true, Bool.true_and, Bool.and_false, Bool.false_and, Bool.and_self, mustE] at he; subst he))
          exact ⟨rfl, by rw [HR.out]; rfl, (HE3.out.trans hE4).trans (((Ext.refl _).alloc _).trans hx5)⟩
        · have T4 : decide (0 ≤ at_) = true := decide_eq_true (by omega)
          have T5 : decide (at_ < (p[n].code.length : Int)) = false := decide_eq_false (by omega)
          clear h1 h2 h3 h4
          go_still_tail 29, (by kernel_rfl)
          change wpList _ _ _ _ _ w3.drew
          have hE4 : Ext w3 w3.drew := (Ext.refl _).drew
          generalize w3.drew = w4 at *
          go_wp2_with (first
            | (go_at_call 66; refine (must3 _ _ _ _ _ _ ).mono ?_; rintro e w5 ⟨he, hx5⟩; (try rw [T5] at he); simp only [Bool.and_true, Bool.true_and, Bool.and_false, Bool.false_and, Bool.and_self, mustE] at he; subst he))
          exact ⟨rfl, by rw [HR.out]; rfl, (HE3.out.trans hE4).trans (((Ext.refl _).alloc _).trans hx5)⟩
    · have HLs : Hid (((ls.length : Int) == p[n].locals) = false) := by unfold Hid; simp [h2]
      have HR : Hid (frameB p ⟨n, at_, ls, st⟩ = false) := by
        unfold Hid frameB
        simp only [hF]
        rw [decide_eq_false h2]
        simp
      clear h1 h2
      go_still_tail 29, (by kernel_rfl)
      change wpList _ _ _ _ _ w3.drew
      have hE4 : Ext w3 w3.drew := (Ext.refl _).drew
      generalize w3.drew = w4 at *
      go_wp2_with (first
        | (go_at_call 66; refine (must3 _ _ _ _ _ _ ).mono ?_; rintro e w5 ⟨he, hx5⟩; rw [HLs.out] at he; simp only [Bool.and_true, Bool.true_and, Bool.and_false, Bool.false_and, Bool.and_self, mustE] at he; subst he))
      exact ⟨rfl, by rw [HR.out]; rfl, (HE3.out.trans hE4).trans (((Ext.refl _).alloc _).trans hx5)⟩
  · have HR : Hid (frameB p ⟨fn, at_, ls, st⟩ = false) := by
      unfold Hid frameB
      simp only
      rw [decide_eq_false h1]
      simp
    by_cases h2 : fn < 0
    · have T1 : decide (0 ≤ fn) = false := decide_eq_false (by omega)
      clear h1 h2 hz
      go_enter Try.func81, Try.ntmps81
      go_upto_region 1 with fail
      obtain ⟨⟨b0, -⟩, ⟨b1, -⟩, ⟨b2, -⟩⟩ := bx.out
      generalize w.alloc (.cells #[.int .i64 fn, .int .i64 at_, .slice a1 ls.length c1, .slice a2 st.length c2] 54) = w1 at *
      go_still_tail 11, (by kernel_rfl)
      change wpList _ _ _ _ _ w1.drew
      have hE2 : Ext w1 w1.drew := (Ext.refl _).drew
      generalize w1.drew = w2 at *
      go_wp2_with (first
        | (go_at_call 66; refine (must2 _ _ _ _ _ ).mono ?_; rintro e w3 ⟨rfl, hx3⟩; rw [Bool.false_and, show mustE false 1 = .panicked (refusal 1) from rfl]))
      exact ⟨rfl, by rw [HR.out]; rfl, (HE1.out.trans hE2).trans (((Ext.refl _).alloc _).trans hx3)⟩
    · have T1 : decide (0 ≤ fn) = true := decide_eq_true (by omega)
      have T2 : decide (fn < (p.length : Int)) = false := decide_eq_false (by omega)
      clear h1 h2 hz
      go_enter Try.func81, Try.ntmps81
      go_upto_region 1 with fail
      obtain ⟨⟨b0, -⟩, ⟨b1, -⟩, ⟨b2, -⟩⟩ := bx.out
      generalize w.alloc (.cells #[.int .i64 fn, .int .i64 at_, .slice a1 ls.length c1, .slice a2 st.length c2] 54) = w1 at *
      go_still_tail 11, (by kernel_rfl)
      change wpList _ _ _ _ _ w1.drew
      have hE2 : Ext w1 w1.drew := (Ext.refl _).drew
      generalize w1.drew = w2 at *
      go_wp2_with (first
        | (go_at_call 66; refine (must2 _ _ _ _ _ ).mono ?_; rintro e w3 ⟨rfl, hx3⟩; rw [Bool.and_false, show mustE false 1 = .panicked (refusal 1) from rfl]))
      exact ⟨rfl, by rw [HR.out]; rfl, (HE1.out.trans hE2).trans (((Ext.refl _).alloc _).trans hx3)⟩
end Go.Proofs.Ytpomcbginkhlbaa
end
section
/- Contract of the judge's waits. -/
set_option maxHeartbeats 4000000
set_option maxRecDepth 100000
namespace Go.Proofs.Ytpomcbginkhlbaa
open Go Go.RowKit

def jwaitB (p : List GFunc) (x : GFrame) (kind : Int) : Bool := decide (0 < x.at_) && decide ((x.stack.length : Int) = (hgt p x.func).getD x.at_.toNat 0 - 1) && decide ((opBack p x).kind = kind)
theorem waitB_j {p : List GFunc} {x : GFrame} (h : 0 ≤ x.at_) (kind a : Int) : waitB p x kind a = (jwaitB p x kind && (!decide (kind = 11) || decide ((opBack p x).a = a))) := by
  unfold waitB jwaitB
  have : (!decide (x.at_ = 0)) = decide (0 < x.at_) := by
    by_cases h0 : x.at_ = 0
    · simp [h0]
    · rw [decide_eq_false h0, decide_eq_true (by omega)]; rfl
  rw [this]
  simp only [Bool.and_assoc]

theorem jwaits_any (p : List GFunc) (s : GState) (line : List Int) (jb : Nat) (T : Nat → Prop) (x : GFrame) (vx : Value) (kind : Int) (w : World) (hj : Judge w jb p s line) (hz : progErr p = 0) (hx : FrameV w T vx x) (hf : frameB p x = true) :
    Calls Try.prog 82 #[.pointer (some ⟨jb, 0, none⟩), vx, .int .i64 kind] w fun e w' => e = .returned (.bool (jwaitB p x kind)) ∧ Ext w w' := by
  have HJ := Lib.hid hj
  have HZ := Lib.hid hz
  obtain ⟨n, m, hn, e1, e2, hm, _, hu0, hlm, h24⟩ := frameB_nat hz hf
  obtain ⟨fn, at_, ls, st⟩ := x
  simp only at e1 e2
  subst e1 e2
  obtain ⟨vs, vt, rfl, _, _, hls, hst⟩ := hx
  obtain ⟨a1, c1, rfl, _, _, _⟩ := hls
  obtain ⟨a2, c2, rfl, _, hst2, _⟩ := hst
  simp only at *
  have RA := alloc_keep
  obtain ⟨ap, cp, j3, hp⟩ := hj.pr
  obtain ⟨ah, ch, j4, hh⟩ := hj.hts
  have hE1 : Ext w (w.alloc (.cells #[.int .i64 n, .int .i64 m, .slice a1 ls.length c1, .slice a2 st.length c2] 54)) := (Ext.refl w).alloc _
  obtain ⟨b, o, cap, e1, hcap, hby, _, _, vc, hC, hcode⟩ := hp.get hn
  simp only [Value.slice.injEq] at e1
  obtain ⟨rfl, -, rfl⟩ := e1
  obtain ⟨ca, ccap, rfl, hcc, hcby, hops⟩ := hcode
  have hml : m < (hgt p n).length := by omega
  obtain ⟨u, hu⟩ : ∃ u, (hgt p n).getD m 0 = u := ⟨_, rfl⟩
  obtain ⟨bh, oh, ah2, ch2, rfl, hh0, hhi⟩ := Judge.at' hh hn
  obtain ⟨bl, ol, rfl, hl0⟩ := Ints.at' hhi hml
  have iU := hhi.i64 _ (List.getElem_mem hml)
  have hug : (hgt p n)[m] = u := by rw [← hu]; simp [List.getD, List.getElem?_eq_getElem hml]
  rw [hug] at iU
  rw [hu] at hl0 hu0
  unfold I64 at iU
  have KK3 : IntKind.i64.wrap (u - 1) = u - 1 := IntWalk.i64_in _ (by omega)
  have HU := Lib.hid hu
  obtain ⟨r, hr⟩ : ∃ r, jwaitB p ⟨n, m, ls, st⟩ kind = r := ⟨_, rfl⟩
  rw [hr]
  have HR := Lib.hid hr
  have HF := Lib.hid (funcOf_nat hn)
  have HO := Lib.hid hops
  have k3 := Ext.cell hE1 j3
  have k4 := Ext.cell hE1 j4
  have k5 := Ext.cell hE1 hC
  have k6 := Ext.cell hE1 hh0
  have k7 := Ext.cell hE1 hl0
  have HE1 := Lib.hid hE1
  have bx := Lib.hid (⟨(Cx.new w [.int .i64 n, .int .i64 m, .slice a1 ls.length c1, .slice a2 st.length c2] 54 (j := 0) rfl).1, (Cx.new w [.int .i64 n, .int .i64 m, .slice a1 ls.length c1, .slice a2 st.length c2] 54 (j := 1) rfl).1, (Cx.new w [.int .i64 n, .int .i64 m, .slice a1 ls.length c1, .slice a2 st.length c2] 54 (j := 3) rfl).1⟩ : _ ∧ _ ∧ _)
  clear hr hu hug hops j3 j4 hC hh0 hl0 hE1 hhi hh hp hj hf hlm
  by_cases h1 : m = 0
  · have HRR : Hid (r = false) := by unfold Hid; rw [← HR.out]; unfold jwaitB; simp [h1]
    subst h1
    go_enter Try.func82, Try.ntmps82
    go_upto_region 1 with fail
    obtain ⟨b0, b1, b3⟩ := bx.out
    generalize w.alloc (.cells #[.int .i64 n, .int .i64 ((0 : Nat) : Int), .slice a1 ls.length c1, .slice a2 st.length c2] 54) = w1 at *
    refine wp_region_ext (by kernel_rfl) (by kernel_rfl) ?_
    repeat (first
      | go_big_quiet_skip
      | (go_big_quiet_want
         unfold Oper.quiet
         apply Exists.intro
         refine ⟨fun w' hw' => ?_, ?_⟩
         focus
           have hcq := Ext.keep hw'
           go_simp
           first
             | with_reducible rfl
             | fail
         (try dsimp only [Act.put])
         (try simp only [List.setIfInBounds_toArray, List.set_cons_succ, List.set_cons_zero])
         go_big_quiet_on))
    refine wpQuiet_nil ?_
    intro wq hq
    go_wp2_with fail
    go_ret
    exact ⟨by rw [HRR.out]; rfl, HE1.out.trans hq⟩
  · obtain ⟨j, hj⟩ : ∃ j, m = j + 1 := ⟨m - 1, by omega⟩
    have hjl : j < p[n].code.length := by omega
    have KK4 : IntKind.i64.wrap ((m : Int) - 1) = (j : Int) := by rw [IntWalk.i64_in _ (by omega)]; omega
    have T1 : decide ((0 : Int) < (m : Int)) = true := decide_eq_true (by omega)
    have T1n : decide (0 < m) = true := decide_eq_true (by omega)
    by_cases h2 : (st.length : Int) = u - 1
    · have T2 : ((st.length : Int) == u - 1) = true := by simp [h2]
      obtain ⟨cb, co, rfl, ⟨_, z0, _⟩, _⟩ := HO.out j hjl
      obtain ⟨y, hy⟩ : ∃ y, p[n].code[j] = y := ⟨_, rfl⟩
      have HB : Hid (opBack p ⟨n, m, ls, st⟩ = y) := by
        unfold Hid opBack
        rw [HF.out]
        show p[n].code.getD ((m : Int) - 1).toNat default = y
        rw [show ((m : Int) - 1).toNat = j by omega, ← hy]
        simp [List.getD, List.getElem?_eq_getElem hjl]
      rw [hy] at z0
      have HRR : Hid (r = (y.kind == kind)) := by
        unfold Hid
        rw [← HR.out]
        unfold jwaitB
        rw [HB.out]
        simp only
        rw [decide_eq_true (show 0 < (m : Int) by omega), show (hgt p (n : Int)).getD ((m : Int).toNat) 0 = u from HU.out, decide_eq_true h2, Bool.eq_iff_iff]
        simp
      obtain ⟨yk, hyk⟩ : ∃ yk, y.kind = yk := ⟨_, rfl⟩
      rw [hyk] at z0 HRR
      have z1 := Ext.cell HE1.out z0
      clear h1 h2 hj HR HB hy hyk z0
      go_enter Try.func82, Try.ntmps82
      go_upto_region 1 with fail
      obtain ⟨b0, b1, b3⟩ := bx.out
      generalize w.alloc (.cells #[.int .i64 n, .int .i64 m, .slice a1 ls.length c1, .slice a2 st.length c2] 54) = w1 at *
      refine wp_region_ext (by kernel_rfl) (by kernel_rfl) ?_
      repeat (first
        | go_big_quiet_skip
        | (go_big_quiet_want
           unfold Oper.quiet
           apply Exists.intro
           refine ⟨fun w' hw' => ?_, ?_⟩
           focus
             have hcq := Ext.keep hw'
             go_simp
             first
               | with_reducible rfl
               | fail
           (try dsimp only [Act.put])
           (try simp only [List.setIfInBounds_toArray, List.set_cons_succ, List.set_cons_zero])
           go_big_quiet_on))
      refine wpQuiet_nil ?_
      intro wq hq
      go_wp2_with fail
      go_ret
      exact ⟨by rw [HRR.out]; rfl, HE1.out.trans hq⟩
    · have T2 : ((st.length : Int) == u - 1) = false := beq_eq_false_iff_ne.2 h2
      have HRR : Hid (r = false) := by
        unfold Hid
        rw [← HR.out]
        unfold jwaitB
        rw [show (hgt p (GFrame.func ⟨n, m, ls, st⟩)).getD (GFrame.at_ ⟨n, m, ls, st⟩).toNat 0 = u from HU.out]
        simp only
        rw [decide_eq_false h2]
        simp
      clear h1 h2 hj HR
      go_enter Try.func82, Try.ntmps82
      go_upto_region 1 with fail
      obtain ⟨b0, b1, b3⟩ := bx.out
      generalize w.alloc (.cells #[.int .i64 n, .int .i64 m, .slice a1 ls.length c1, .slice a2 st.length c2] 54) = w1 at *
      refine wp_region_ext (by kernel_rfl) (by kernel_rfl) ?_
      repeat (first
        | go_big_quiet_skip
        | (go_big_quiet_want
           unfold Oper.quiet
           apply Exists.intro
           refine ⟨fun w' hw' => ?_, ?_⟩
           focus
             have hcq := Ext.keep hw'
             go_simp
             first
               | with_reducible rfl
               | fail
           (try dsimp only [Act.put])
           (try simp only [List.setIfInBounds_toArray, List.set_cons_succ, List.set_cons_zero])
           go_big_quiet_on))
      refine wpQuiet_nil ?_
      intro wq hq
      go_wp2_with fail
      go_ret
      exact ⟨by rw [HRR.out]; rfl, HE1.out.trans hq⟩
end Go.Proofs.Ytpomcbginkhlbaa
end
section
/- Plain facts of the judge's fiber: it finds what the document says. No program in sight; no condition. -/
namespace Go.Proofs.Ytpomcbginkhlbaa

def jonB (p : List GFunc) (l : List GFrame) (k : Nat) : Bool := jwaitB p (l.getD k default) 11 && decide ((opBack p (l.getD k default)).a = (l.getD (k + 1) default).func)
def jtopB (p : List GFunc) (f : GFiber) (on runs : Bool) (x : GFrame) : Bool :=
  if runs then fullB p x else if on then jwaitB p x 14 else freshB p f || jwaitB p x 15
/-- What the judge finds of a fiber that has frames. -/
def jrestB (p : List GFunc) (f : GFiber) (on runs : Bool) : Bool :=
  allK f.frames.length (fun k => frameB p (f.frames.getD k default)) && allK (f.frames.length - 1) (jonB p f.frames) && jtopB p f on runs (f.frames.getD (f.frames.length - 1) default)
def jfiberB (p : List GFunc) (f : GFiber) (n : Nat) (on runs : Bool) : Bool :=
  if on = false ∧ ¬ (f.caller = -1 ∧ (0 < n ∨ f.frames.length = 0)) then false else if f.frames.length = 0 then !on else jrestB p f on runs

theorem frameB_at {p : List GFunc} {x : GFrame} (h : frameB p x = true) : 0 ≤ x.func ∧ x.func < p.length ∧ 0 ≤ x.at_ := by
  unfold frameB at h
  simp only [Bool.and_eq_true, decide_eq_true_eq] at h
  exact ⟨h.1.1.1.1, h.1.1.1.2, h.1.2.1⟩

theorem jrest_eq {p : List GFunc} {f : GFiber} {on runs : Bool} (h0 : f.frames.length ≠ 0) (hc : on = false → f.caller = -1) (hr : runs = true → on = true) : jrestB p f on runs = fiberB p f on runs := by
  unfold jrestB fiberB
  rw [if_neg h0]
  cases hall : allK f.frames.length (fun k => frameB p (f.frames.getD k default)) with
  | false =>
    have : allK f.frames.length (onB p f.frames) = false := by
      cases h : allK f.frames.length (onB p f.frames) with
      | false => rfl
      | true =>
        have : allK f.frames.length (fun k => frameB p (f.frames.getD k default)) = true := allK_true fun k hk => by
          have := allK_of h k hk
          unfold onB at this
          rw [Bool.and_eq_true] at this
          exact this.1
        rw [this] at hall
        cases hall
    rw [this]
    rfl
  | true =>
    have hfr := allK_of hall
    have e1 : allK f.frames.length (onB p f.frames) = allK (f.frames.length - 1) (jonB p f.frames) := by
      have step : ∀ k, k < f.frames.length → onB p f.frames k = (!decide (k + 1 < f.frames.length) || jonB p f.frames k) := fun k hk => by
        unfold onB
        rw [show frameB p (f.frames.getD k default) = true from hfr k hk, Bool.true_and]
        by_cases h1 : k + 1 < f.frames.length
        · have a := frameB_at (hfr k hk)
          have b := frameB_at (hfr (k + 1) h1)
          rw [decide_eq_true h1, decide_eq_true (show 0 ≤ (f.frames.getD (k + 1) default).func ∧ (f.frames.getD (k + 1) default).func < p.length from ⟨b.1, b.2.1⟩), waitB_j a.2.2]
          unfold jonB
          simp
        · rw [decide_eq_false h1]
          rfl
      rw [Bool.eq_iff_iff]
      constructor
      · intro h
        refine allK_true fun k hk => ?_
        have h2 := allK_of h k (by omega)
        rw [step k (by omega), decide_eq_true (by omega)] at h2
        simpa using h2
      · intro h
        refine allK_true fun k hk => ?_
        rw [step k hk]
        by_cases h1 : k + 1 < f.frames.length
        · rw [allK_of h k (by omega)]
          simp
        · rw [decide_eq_false h1]
          rfl
    have e2 : jtopB p f on runs (f.frames.getD (f.frames.length - 1) default) = topB p f on runs (f.frames.getD (f.frames.length - 1) default) := by
      have a := frameB_at (hfr (f.frames.length - 1) (by omega))
      unfold jtopB topB
      cases runs with
      | true => rfl
      | false =>
        cases on with
        | true => rw [waitB_j a.2.2 14 0]; simp
        | false => rw [waitB_j a.2.2 15 0, decide_eq_true (hc rfl)]; simp
    rw [e1, e2, Bool.true_and]

theorem jfiber_eq {p : List GFunc} {s : GState} {line : List Int} {n : Nat} (hnow : (n : Int) = s.now → (n : Int) ∈ line) :
    jfiberB p (s.fibers.getD n default) n (decide ((n : Int) ∈ line)) (decide ((n : Int) = s.now)) = fibK p s line n := by
  unfold jfiberB fibK
  generalize hf : s.fibers.getD n default = f
  have hr : decide ((n : Int) = s.now) = true → decide ((n : Int) ∈ line) = true := fun h => decide_eq_true (hnow (of_decide_eq_true h))
  generalize hon : decide ((n : Int) ∈ line) = on at *
  generalize decide ((n : Int) = s.now) = runs at *
  have hlast : (decide (n = 0) && !decide ((0 : Int) ∈ line) && decide (0 < (s.fibers.getD 0 default).frames.length)) = (decide (n = 0) && !on && decide (0 < f.frames.length)) := by
    by_cases h0 : n = 0
    · subst h0
      rw [← hf, ← hon]
      rfl
    · rw [decide_eq_false h0]; rfl
  rw [hlast]
  by_cases h0 : f.frames.length = 0
  · have hfb : fiberB p f on runs = (!on && decide (f.caller = -1)) := by unfold fiberB; rw [if_pos h0]
    rw [hfb]
    cases on with
    | true => rw [if_neg (by simp), if_pos h0]; simp
    | false =>
      by_cases h1 : f.caller = -1
      · rw [if_neg (by simp [h1, h0]), if_pos h0]; simp [h1, h0]
      · rw [if_pos ⟨rfl, fun h => h1 h.1⟩]; simp [h1]
  · cases on with
    | true =>
      rw [if_neg (by simp), if_neg h0, jrest_eq h0 (by simp) hr]
      simp
    | false =>
      by_cases h1 : f.caller = -1
      · by_cases h2 : 0 < n
        · rw [if_neg (by simp [h1, h2]), if_neg h0, jrest_eq h0 (fun _ => h1) hr]
          have : ¬ n = 0 := by omega
          simp [this]
        · have h3 : n = 0 := by omega
          have h4 : 0 < f.frames.length := by omega
          rw [if_pos ⟨rfl, fun h => h.2.elim h2 h0⟩]
          simp [h3, h4]
      · rw [if_pos ⟨rfl, fun h => h1 h.1⟩]
        have : fiberB p f false runs = false := by
          unfold fiberB topB
          rw [if_neg h0]
          cases runs with
          | true => exact absurd (hr rfl) (by decide)
          | false => simp [h1]
        rw [this]
        rfl
end Go.Proofs.Ytpomcbginkhlbaa
end
