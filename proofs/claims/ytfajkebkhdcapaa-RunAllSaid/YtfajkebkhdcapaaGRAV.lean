/- Merged texts: contracts and plain facts, one part behind another; each part begins with what it says. -/
import Derived.Test.YtfajkebkhdcapaaGRAM
import Derived.Test.YtfajkebkhdcapaaGRAQ
import Derived.Test.YtfajkebkhdcapaaGRAR
import Derived.Test.YtfajkebkhdcapaaGRAS
import Derived.Test.YtfajkebkhdcapaaGRAU
import Derived.StillTailTactics
section
/- Contracts of the judge's frame and waits. -/
set_option maxHeartbeats 4000000
set_option maxRecDepth 100000
set_option linter.unusedSimpArgs false
namespace Go.Proofs.Ytfajkebkhdcapaa
open Go Go.RowKit

/-- Heights of all functions, a slice of slices. -/
def HtsL (w : World) : Value → List (List Int) → Prop := Sl (fun b o l => ∃ v, w.cell? ⟨b, o, none⟩ = some v ∧ Ints w (fun _ => True) v l) 1 24
theorem HtsL.ext {w w' : World} {v : Value} {l : List (List Int)} (h : HtsL w v l) (he : Ext w w') : HtsL w' v l :=
  Sl.mono h fun _ _ _ ⟨v, h1, h2⟩ => ⟨v, Ext.cell he h1, Ints.stays (Ext.stays he) h2⟩

/-- A judge in its block. -/
structure Judge (w : World) (b : Nat) (p : List GFunc) (s : GState) (line : List Int) : Prop where
  fs : ∃ a c, w.cell? ⟨b, 0, none⟩ = some (.slice a s.fibers.length c) ∧ Fibers w (fun _ => True) (.slice a s.fibers.length c) s.fibers
  now : w.cell? ⟨b, 1, none⟩ = some (.int .i64 s.now)
  pr : ∃ a c, w.cell? ⟨b, 3, none⟩ = some (.slice a p.length c) ∧ Funcs w (fun _ => True) (.slice a p.length c) p
  hts : ∃ a c, w.cell? ⟨b, 4, none⟩ = some (.slice a p.length c) ∧ HtsL w (.slice a p.length c) ((List.range p.length).map (fun k : Nat => hgt p k))
  ln : ∃ a c, w.cell? ⟨b, 5, none⟩ = some (.slice a line.length c) ∧ Ints w (fun _ => True) (.slice a line.length c) line
theorem Judge.ext {w w' : World} {b : Nat} {p : List GFunc} {s : GState} {line : List Int} (h : Judge w b p s line) (he : Ext w w') : Judge w' b p s line := by
  obtain ⟨a1, c1, h1, h2⟩ := h.fs
  obtain ⟨a3, c3, h5, h6⟩ := h.pr
  obtain ⟨a4, c4, h7, h8⟩ := h.hts
  obtain ⟨a5, c5, h9, h10⟩ := h.ln
  exact ⟨⟨a1, c1, Ext.cell he h1, Fibers.stays (Ext.stays he) h2⟩, Ext.cell he h.now, ⟨a3, c3, Ext.cell he h5, Funcs.stays (Ext.stays he) h6⟩, ⟨a4, c4, Ext.cell he h7, h8.ext he⟩, ⟨a5, c5, Ext.cell he h9, Ints.stays (Ext.stays he) h10⟩⟩
theorem Judge.at' {w : World} {p : List GFunc} {a : Option Addr} {n c : Nat} (h : HtsL w (.slice a n c) ((List.range p.length).map (fun k : Nat => hgt p k))) {k : Nat} (hk : k < p.length) :
    ∃ b o a' c', a = some ⟨b, o, none⟩ ∧ w.cell? ⟨b, o + k, none⟩ = some (.slice a' (hgt p k).length c') ∧ Ints w (fun _ => True) (.slice a' (hgt p k).length c') (hgt p k) := by
  obtain ⟨b, o, _, e1, _, _, v, x0, hi⟩ := h.get (i := k) (by simpa using hk)
  simp only [Value.slice.injEq] at e1
  obtain ⟨rfl, -, -⟩ := e1
  rw [Nat.mul_one] at x0
  simp only [List.getElem_map, List.getElem_range] at hi
  have hi2 := hi
  obtain ⟨a', c', rfl, _, _, _⟩ := hi
  exact ⟨b, o, a', c', rfl, x0, hi2⟩

theorem jframe_any (p : List GFunc) (s : GState) (line : List Int) (jb : Nat) (T : Nat → Prop) (x : GFrame) (vx : Value) (w : World) (hj : Judge w jb p s line) (hz : progErr p = 0) (hx : FrameV w T vx x) :
    Calls Try.prog 69 #[.pointer (some ⟨jb, 0, none⟩), vx] w fun e w' => e = mustE (frameB p x) 1 ∧ Ext w w' := by
  have HJ := Lib.hid hj
  have HZ := Lib.hid hz
  obtain ⟨fn, at_, ls, st⟩ := x
  obtain ⟨vs, vt, rfl, _, _, hls, hst⟩ := hx
  obtain ⟨a1, c1, rfl, _, _, _⟩ := hls
  obtain ⟨a2, c2, rfl, _, _, _⟩ := hst
  simp only at *
  have RA := alloc_keep
  have hlen5 := (progErr_zero hz).most
  obtain ⟨ap, cp, j3, hp⟩ := hj.pr
  obtain ⟨ah, ch, j4, hh⟩ := hj.hts
  have bx := Lib.hid (⟨Cx.new w [.int .i64 fn, .int .i64 at_, .slice a1 ls.length c1, .slice a2 st.length c2] 45 (j := 0) rfl, Cx.new w [.int .i64 fn, .int .i64 at_, .slice a1 ls.length c1, .slice a2 st.length c2] 45 (j := 1) rfl, Cx.new w [.int .i64 fn, .int .i64 at_, .slice a1 ls.length c1, .slice a2 st.length c2] 45 (j := 2) rfl⟩ : _ ∧ _ ∧ _)
  have hE1 : Ext w (w.alloc (.cells #[.int .i64 fn, .int .i64 at_, .slice a1 ls.length c1, .slice a2 st.length c2] 45)) := (Ext.refl w).alloc _
  have HE1 := Lib.hid hE1
  have k3 := Ext.cell hE1 j3
  have k4 := Ext.cell hE1 j4
  have HP := Lib.hid hp
  have HH := Lib.hid hh
  clear hp hh hj j3 j4
  by_cases h1 : 0 ≤ fn ∧ fn < p.length
  · obtain ⟨n, rfl⟩ : ∃ n : Nat, fn = n := ⟨fn.toNat, by omega⟩
    have hn : n < p.length := by omega
    have hlm := hgt_len hz hn
    have hmax := (rightAt hz hn).1.len
    have hF := funcOf_nat hn
    obtain ⟨b, o, cap, e1, hcap, hby, _, ⟨_, hL, iL⟩, vc, hC, hcode⟩ := HP.out.get hn
    simp only [Value.slice.injEq] at e1
    obtain ⟨rfl, -, rfl⟩ := e1
    obtain ⟨ca, ccap, rfl, hcc, hcby, _⟩ := hcode
    have hL1 := Ext.cell hE1 hL
    have hC1 := Ext.cell hE1 hC
    have T2 : decide ((n : Int) < (p.length : Int)) = true := decide_eq_true (by omega)
    go_enter Try.func69, Try.ntmps69
    go_upto_region 1 with fail
    obtain ⟨⟨b0, -⟩, ⟨b1, -⟩, ⟨b2, -⟩⟩ := bx.out
    generalize w.alloc (.cells #[.int .i64 n, .int .i64 at_, .slice a1 ls.length c1, .slice a2 st.length c2] 45) = w1 at *
    go_still_tail 11, (by kernel_rfl)
    change wpList _ _ _ _ _ w1.drew
    have hE2 : Ext w1 w1.drew := (Ext.refl _).drew
    generalize w1.drew = w2 at *
    go_upto_region 2 with (first
      | (go_at_call 48; refine (must2 _ _ _ _ _ ).mono ?_; rintro e w3 ⟨rfl, hx3⟩; rw [Bool.and_true, show mustE true 1 = .returned (.tuple #[]) from rfl]))
    have hE3 : Ext w1 w3 := hE2.trans (((Ext.refl _).alloc _).trans hx3)
    have HE3 := Lib.hid (HE1.out.trans hE3)
    have d0 := Ext.cell hE3 b0
    have d1 := Ext.cell hE3 b1
    have d2 := Ext.cell hE3 b2
    have d3 := Ext.cell hE3 k3
    have d4 := Ext.cell hE3 k4
    have d5 := Ext.cell hE3 hL1
    have d6 := Ext.cell hE3 hC1
    clear hx3 hE2 b0 b1 b2 k3 k4 hL1 hC1 hE1 hE3
    rename World => w3
    have HBX := Lib.hid (⟨d0, d1, d4⟩ : _ ∧ _ ∧ _)
    by_cases h2 : (ls.length : Int) = p[n].locals
    · have HLs : Hid (((ls.length : Int) == p[n].locals) = true) := by unfold Hid; simp [h2]
      by_cases h3 : 0 ≤ at_ ∧ at_ < p[n].code.length
      · obtain ⟨m, rfl⟩ : ∃ m : Nat, at_ = m := ⟨at_.toNat, by omega⟩
        have hm : m < p[n].code.length := by omega
        have hml : m < (hgt p n).length := by omega
        obtain ⟨u, hu⟩ : ∃ u, (hgt p n).getD m 0 = u := ⟨_, rfl⟩
        have HR : Hid (frameB p ⟨n, m, ls, st⟩ = decide (0 ≤ u)) := by
          unfold Hid frameB
          simp only [hF]
          rw [decide_eq_true h1, decide_eq_true h2, decide_eq_true h3, show (m : Int).toNat = m by omega, hu]
          simp
        have HU := Lib.hid hu
        obtain ⟨bh, oh, ah2, ch2, rfl, hh0, hhi⟩ := Judge.at' HH.out hn
        obtain ⟨bl, ol, rfl, hl0⟩ := Ints.at' hhi hml
        rw [HU.out] at hl0
        have HHI := Lib.hid (⟨hh0, hl0⟩ : _ ∧ _)
        clear h1 h2 h3 hu hhi hh0 hl0
        go_still_tail 29, (by kernel_rfl)
        change wpList _ _ _ _ _ w3.drew
        have hE4 : Ext w3 w3.drew := (Ext.refl _).drew
        generalize w3.drew = w4 at *
        go_upto_region 3 with (first
          | (go_at_call 48; refine (must3 _ _ _ _ _ _ ).mono ?_; rintro e w5 ⟨he, hx5⟩; rw [HLs.out] at he; simp only [Bool.and_true, Bool.true_and, Bool.and_false, Bool.false_and, Bool.and_self, mustE] at he; subst he))
        have hE5 : Ext w3 w5 := hE4.trans (((Ext.refl _).alloc _).trans hx5)
        have HE5 := Lib.hid (HE3.out.trans hE5)
        have d0' := Ext.cell hE5 d0
        have d1' := Ext.cell hE5 d1
        have d4' := Ext.cell hE5 d4
        have d7 := Ext.cell HE5.out HHI.out.1
        have d8 := Ext.cell HE5.out HHI.out.2
        clear hx5 hE4 hE5 d0 d1 d2 d3 d4 d5 d6
        rename World => w5
        go_still_tail 13, (by kernel_rfl)
        change wpList _ _ _ _ _ w5.drew
        have hE6 : Ext w5 w5.drew := (Ext.refl _).drew
        generalize w5.drew = w6 at *
        by_cases h0 : 0 ≤ u
        · have HU0 : Hid (decide (0 ≤ u) = true) := decide_eq_true h0
          clear h0
          go_wp2_with (first
            | (go_at_call 48; refine (must1 _ _ _ _ ).mono ?_; rintro e w7 ⟨he, hx7⟩; rw [HU0.out] at he; simp only [Bool.and_true, Bool.true_and, Bool.and_false, Bool.false_and, Bool.and_self, mustE] at he; subst he))
          go_end0
          exact ⟨by rw [HR.out, HU0.out]; rfl, (HE5.out.trans hE6).trans (((Ext.refl _).alloc _).trans hx7)⟩
        · have HU0 : Hid (decide (0 ≤ u) = false) := decide_eq_false h0
          clear h0
          go_wp2_with (first
            | (go_at_call 48; refine (must1 _ _ _ _ ).mono ?_; rintro e w7 ⟨he, hx7⟩; rw [HU0.out] at he; simp only [Bool.and_true, Bool.true_and, Bool.and_false, Bool.false_and, Bool.and_self, mustE] at he; subst he))
          exact ⟨rfl, by rw [HR.out, HU0.out]; rfl, (HE5.out.trans hE6).trans (((Ext.refl _).alloc _).trans hx7)⟩
      · have HR : Hid (frameB p ⟨n, at_, ls, st⟩ = false) := by
          unfold Hid frameB
          simp only [hF]
          rw [decide_eq_false h3]
          simp
        by_cases h4 : at_ < 0
        · have T4 : decide (0 ≤ at_) = false := decide_eq_false (by omega)
          clear h1 h2 h3 h4
          go_still_tail 29, (by kernel_rfl)
          change wpList _ _ _ _ _ w3.drew
          have hE4 : Ext w3 w3.drew := (Ext.refl _).drew
          generalize w3.drew = w4 at *
          go_wp2_with (first
            | (go_at_call 48; refine (must3 _ _ _ _ _ _ ).mono ?_; rintro e w5 ⟨he, hx5⟩; (try rw [T4] at he); simp only [Bool.and_true, Bool.true_and, Bool.and_false, Bool.false_and, Bool.and_self, mustE] at he; subst he))
          exact ⟨rfl, by rw [HR.out]; rfl, (HE3.out.trans hE4).trans (((Ext.refl _).alloc _).trans hx5)⟩
        · have T4 : decide (0 ≤ at_) = true := decide_eq_true (by omega)
          have T5 : decide (at_ < (p[n].code.length : Int)) = false := decide_eq_false (by omega)
          clear h1 h2 h3 h4
          go_still_tail 29, (by kernel_rfl)
          change wpList _ _ _ _ _ w3.drew
          have hE4 : Ext w3 w3.drew := (Ext.refl _).drew
          generalize w3.drew = w4 at *
          go_wp2_with (first
            | (go_at_call 48; refine (must3 _ _ _ _ _ _ ).mono ?_; rintro e w5 ⟨he, hx5⟩; (try rw [T5] at he); simp only [Bool.and_true, Bool.true_and, Bool.and_false, Bool.false_and, Bool.and_self, mustE] at he; subst he))
          exact ⟨rfl, by rw [HR.out]; rfl, (HE3.out.trans hE4).trans (((Ext.refl _).alloc _).trans hx5)⟩
    · have HLs : Hid (((ls.length : Int) == p[n].locals) = false) := by unfold Hid; simp [h2]
      have HR : Hid (frameB p ⟨n, at_, ls, st⟩ = false) := by
        unfold Hid frameB
        simp only [hF]
        rw [decide_eq_false h2]
        simp
      clear h1 h2
      go_still_tail 29, (by kernel_rfl)
      change wpList _ _ _ _ _ w3.drew
      have hE4 : Ext w3 w3.drew := (Ext.refl _).drew
      generalize w3.drew = w4 at *
      go_wp2_with (first
        | (go_at_call 48; refine (must3 _ _ _ _ _ _ ).mono ?_; rintro e w5 ⟨he, hx5⟩; rw [HLs.out] at he; simp only [Bool.and_true, Bool.true_and, Bool.and_false, Bool.false_and, Bool.and_self, mustE] at he; subst he))
      exact ⟨rfl, by rw [HR.out]; rfl, (HE3.out.trans hE4).trans (((Ext.refl _).alloc _).trans hx5)⟩
  · have HR : Hid (frameB p ⟨fn, at_, ls, st⟩ = false) := by
      unfold Hid frameB
      simp only
      rw [decide_eq_false h1]
      simp
    by_cases h2 : fn < 0
    · have T1 : decide (0 ≤ fn) = false := decide_eq_false (by omega)
      clear h1 h2 hz
      go_enter Try.func69, Try.ntmps69
      go_upto_region 1 with fail
      obtain ⟨⟨b0, -⟩, ⟨b1, -⟩, ⟨b2, -⟩⟩ := bx.out
      generalize w.alloc (.cells #[.int .i64 fn, .int .i64 at_, .slice a1 ls.length c1, .slice a2 st.length c2] 45) = w1 at *
      go_still_tail 11, (by kernel_rfl)
      change wpList _ _ _ _ _ w1.drew
      have hE2 : Ext w1 w1.drew := (Ext.refl _).drew
      generalize w1.drew = w2 at *
      go_wp2_with (first
        | (go_at_call 48; refine (must2 _ _ _ _ _ ).mono ?_; rintro e w3 ⟨rfl, hx3⟩; rw [Bool.false_and, show mustE false 1 = .panicked (refusal 1) from rfl]))
      exact ⟨rfl, by rw [HR.out]; rfl, (HE1.out.trans hE2).trans (((Ext.refl _).alloc _).trans hx3)⟩
    · have T1 : decide (0 ≤ fn) = true := decide_eq_true (by omega)
      have T2 : decide (fn < (p.length : Int)) = false := decide_eq_false (by omega)
      clear h1 h2 hz
      go_enter Try.func69, Try.ntmps69
      go_upto_region 1 with fail
      obtain ⟨⟨b0, -⟩, ⟨b1, -⟩, ⟨b2, -⟩⟩ := bx.out
      generalize w.alloc (.cells #[.int .i64 fn, .int .i64 at_, .slice a1 ls.length c1, .slice a2 st.length c2] 45) = w1 at *
      go_still_tail 11, (by kernel_rfl)
      change wpList _ _ _ _ _ w1.drew
      have hE2 : Ext w1 w1.drew := (Ext.refl _).drew
      generalize w1.drew = w2 at *
      go_wp2_with (first
        | (go_at_call 48; refine (must2 _ _ _ _ _ ).mono ?_; rintro e w3 ⟨rfl, hx3⟩; rw [Bool.and_false, show mustE false 1 = .panicked (refusal 1) from rfl]))
      exact ⟨rfl, by rw [HR.out]; rfl, (HE1.out.trans hE2).trans (((Ext.refl _).alloc _).trans hx3)⟩
end Go.Proofs.Ytfajkebkhdcapaa
end
section
/- Contract of the judge's waits. -/
set_option maxHeartbeats 4000000
set_option maxRecDepth 100000
namespace Go.Proofs.Ytfajkebkhdcapaa
open Go Go.RowKit

def jwaitB (p : List GFunc) (x : GFrame) (kind : Int) : Bool := decide (0 < x.at_) && decide ((x.stack.length : Int) = (hgt p x.func).getD x.at_.toNat 0 - 1) && decide ((opBack p x).kind = kind)
theorem waitB_j {p : List GFunc} {x : GFrame} (h : 0 ≤ x.at_) (kind a : Int) : waitB p x kind a = (jwaitB p x kind && (!decide (kind = 11) || decide ((opBack p x).a = a))) := by
  unfold waitB jwaitB
  have : (!decide (x.at_ = 0)) = decide (0 < x.at_) := by
    by_cases h0 : x.at_ = 0
    · simp [h0]
    · rw [decide_eq_false h0, decide_eq_true (by omega)]; rfl
  rw [this]
  simp only [Bool.and_assoc]

theorem jwaits_any (p : List GFunc) (s : GState) (line : List Int) (jb : Nat) (T : Nat → Prop) (x : GFrame) (vx : Value) (kind : Int) (w : World) (hj : Judge w jb p s line) (hz : progErr p = 0) (hx : FrameV w T vx x) (hf : frameB p x = true) :
    Calls Try.prog 70 #[.pointer (some ⟨jb, 0, none⟩), vx, .int .i64 kind] w fun e w' => e = .returned (.bool (jwaitB p x kind)) ∧ Ext w w' := by
  have HJ := Lib.hid hj
  have HZ := Lib.hid hz
  obtain ⟨n, m, hn, e1, e2, hm, _, hu0, hlm, h24⟩ := frameB_nat hz hf
  obtain ⟨fn, at_, ls, st⟩ := x
  simp only at e1 e2
  subst e1 e2
  obtain ⟨vs, vt, rfl, _, _, hls, hst⟩ := hx
  obtain ⟨a1, c1, rfl, _, _, _⟩ := hls
  obtain ⟨a2, c2, rfl, _, hst2, _⟩ := hst
  simp only at *
  have RA := alloc_keep
  obtain ⟨ap, cp, j3, hp⟩ := hj.pr
  obtain ⟨ah, ch, j4, hh⟩ := hj.hts
  have hE1 : Ext w (w.alloc (.cells #[.int .i64 n, .int .i64 m, .slice a1 ls.length c1, .slice a2 st.length c2] 45)) := (Ext.refl w).alloc _
  obtain ⟨b, o, cap, e1, hcap, hby, _, _, vc, hC, hcode⟩ := hp.get hn
  simp only [Value.slice.injEq] at e1
  obtain ⟨rfl, -, rfl⟩ := e1
  obtain ⟨ca, ccap, rfl, hcc, hcby, hops⟩ := hcode
  have hml : m < (hgt p n).length := by omega
  obtain ⟨u, hu⟩ : ∃ u, (hgt p n).getD m 0 = u := ⟨_, rfl⟩
  obtain ⟨bh, oh, ah2, ch2, rfl, hh0, hhi⟩ := Judge.at' hh hn
  obtain ⟨bl, ol, rfl, hl0⟩ := Ints.at' hhi hml
  have iU := hhi.i64 _ (List.getElem_mem hml)
  have hug : (hgt p n)[m] = u := by rw [← hu]; simp [List.getD, List.getElem?_eq_getElem hml]
  rw [hug] at iU
  rw [hu] at hl0 hu0
  unfold I64 at iU
  have KK3 : IntKind.i64.wrap (u - 1) = u - 1 := IntWalk.i64_in _ (by omega)
  have HU := Lib.hid hu
  obtain ⟨r, hr⟩ : ∃ r, jwaitB p ⟨n, m, ls, st⟩ kind = r := ⟨_, rfl⟩
  rw [hr]
  have HR := Lib.hid hr
  have HF := Lib.hid (funcOf_nat hn)
  have HO := Lib.hid hops
  have k3 := Ext.cell hE1 j3
  have k4 := Ext.cell hE1 j4
  have k5 := Ext.cell hE1 hC
  have k6 := Ext.cell hE1 hh0
  have k7 := Ext.cell hE1 hl0
  have HE1 := Lib.hid hE1
  have bx := Lib.hid (⟨(Cx.new w [.int .i64 n, .int .i64 m, .slice a1 ls.length c1, .slice a2 st.length c2] 45 (j := 0) rfl).1, (Cx.new w [.int .i64 n, .int .i64 m, .slice a1 ls.length c1, .slice a2 st.length c2] 45 (j := 1) rfl).1, (Cx.new w [.int .i64 n, .int .i64 m, .slice a1 ls.length c1, .slice a2 st.length c2] 45 (j := 3) rfl).1⟩ : _ ∧ _ ∧ _)
  clear hr hu hug hops j3 j4 hC hh0 hl0 hE1 hhi hh hp hj hf hlm
  by_cases h1 : m = 0
  · have HRR : Hid (r = false) := by unfold Hid; rw [← HR.out]; unfold jwaitB; simp [h1]
    subst h1
    go_enter Try.func70, Try.ntmps70
    go_upto_region 1 with fail
    obtain ⟨b0, b1, b3⟩ := bx.out
    generalize w.alloc (.cells #[.int .i64 n, .int .i64 ((0 : Nat) : Int), .slice a1 ls.length c1, .slice a2 st.length c2] 45) = w1 at *
    refine wp_region_ext (by kernel_rfl) (by kernel_rfl) ?_
    repeat (first
      | go_big_quiet_skip
      | (go_big_quiet_want
         unfold Oper.quiet
         apply Exists.intro
         refine ⟨fun w' hw' => ?_, ?_⟩
         focus
           have hcq := Ext.keep hw'
           go_simp
           first
             | with_reducible rfl
             | fail
         (try dsimp only [Act.put])
         (try simp only [List.setIfInBounds_toArray, List.set_cons_succ, List.set_cons_zero])
         go_big_quiet_on))
    refine wpQuiet_nil ?_
    intro wq hq
    go_wp2_with fail
    go_ret
    exact ⟨by rw [HRR.out]; rfl, HE1.out.trans hq⟩
  · obtain ⟨j, hj⟩ : ∃ j, m = j + 1 := ⟨m - 1, by omega⟩
    have hjl : j < p[n].code.length := by omega
    have KK4 : IntKind.i64.wrap ((m : Int) - 1) = (j : Int) := by rw [IntWalk.i64_in _ (by omega)]; omega
    have T1 : decide ((0 : Int) < (m : Int)) = true := decide_eq_true (by omega)
    have T1n : decide (0 < m) = true := decide_eq_true (by omega)
    by_cases h2 : (st.length : Int) = u - 1
    · have T2 : ((st.length : Int) == u - 1) = true := by simp [h2]
      obtain ⟨cb, co, rfl, ⟨_, z0, _⟩, _⟩ := HO.out j hjl
      obtain ⟨y, hy⟩ : ∃ y, p[n].code[j] = y := ⟨_, rfl⟩
      have HB : Hid (opBack p ⟨n, m, ls, st⟩ = y) := by
        unfold Hid opBack
        rw [HF.out]
        show p[n].code.getD ((m : Int) - 1).toNat default = y
        rw [show ((m : Int) - 1).toNat = j by omega, ← hy]
        simp [List.getD, List.getElem?_eq_getElem hjl]
      rw [hy] at z0
      have HRR : Hid (r = (y.kind == kind)) := by
        unfold Hid
        rw [← HR.out]
        unfold jwaitB
        rw [HB.out]
        simp only
        rw [decide_eq_true (show 0 < (m : Int) by omega), show (hgt p (n : Int)).getD ((m : Int).toNat) 0 = u from HU.out, decide_eq_true h2, Bool.eq_iff_iff]
        simp
      obtain ⟨yk, hyk⟩ : ∃ yk, y.kind = yk := ⟨_, rfl⟩
      rw [hyk] at z0 HRR
      have z1 := Ext.cell HE1.out z0
      clear h1 h2 hj HR HB hy hyk z0
      go_enter Try.func70, Try.ntmps70
      go_upto_region 1 with fail
      obtain ⟨b0, b1, b3⟩ := bx.out
      generalize w.alloc (.cells #[.int .i64 n, .int .i64 m, .slice a1 ls.length c1, .slice a2 st.length c2] 45) = w1 at *
      refine wp_region_ext (by kernel_rfl) (by kernel_rfl) ?_
      repeat (first
        | go_big_quiet_skip
        | (go_big_quiet_want
           unfold Oper.quiet
           apply Exists.intro
           refine ⟨fun w' hw' => ?_, ?_⟩
           focus
             have hcq := Ext.keep hw'
             go_simp
             first
               | with_reducible rfl
               | fail
           (try dsimp only [Act.put])
           (try simp only [List.setIfInBounds_toArray, List.set_cons_succ, List.set_cons_zero])
           go_big_quiet_on))
      refine wpQuiet_nil ?_
      intro wq hq
      go_wp2_with fail
      go_ret
      exact ⟨by rw [HRR.out]; rfl, HE1.out.trans hq⟩
    · have T2 : ((st.length : Int) == u - 1) = false := beq_eq_false_iff_ne.2 h2
      have HRR : Hid (r = false) := by
        unfold Hid
        rw [← HR.out]
        unfold jwaitB
        rw [show (hgt p (GFrame.func ⟨n, m, ls, st⟩)).getD (GFrame.at_ ⟨n, m, ls, st⟩).toNat 0 = u from HU.out]
        simp only
        rw [decide_eq_false h2]
        simp
      clear h1 h2 hj HR
      go_enter Try.func70, Try.ntmps70
      go_upto_region 1 with fail
      obtain ⟨b0, b1, b3⟩ := bx.out
      generalize w.alloc (.cells #[.int .i64 n, .int .i64 m, .slice a1 ls.length c1, .slice a2 st.length c2] 45) = w1 at *
      refine wp_region_ext (by kernel_rfl) (by kernel_rfl) ?_
      repeat (first
        | go_big_quiet_skip
        | (go_big_quiet_want
           unfold Oper.quiet
           apply Exists.intro
           refine ⟨fun w' hw' => ?_, ?_⟩
           focus
             have hcq := Ext.keep hw'
             go_simp
             first
               | with_reducible rfl
               | fail
           (try dsimp only [Act.put])
           (try simp only [List.setIfInBounds_toArray, List.set_cons_succ, List.set_cons_zero])
           go_big_quiet_on))
      refine wpQuiet_nil ?_
      intro wq hq
      go_wp2_with fail
      go_ret
      exact ⟨by rw [HRR.out]; rfl, HE1.out.trans hq⟩
end Go.Proofs.Ytfajkebkhdcapaa
end
section
/- Plain facts of the judge's fiber: it finds what the document says. No program in sight; no condition. -/
namespace Go.Proofs.Ytfajkebkhdcapaa

def jonB (p : List GFunc) (l : List GFrame) (k : Nat) : Bool := jwaitB p (l.getD k default) 11 && decide ((opBack p (l.getD k default)).a = (l.getD (k + 1) default).func)
def jtopB (p : List GFunc) (f : GFiber) (on runs : Bool) (x : GFrame) : Bool :=
  if runs then fullB p x else if on then jwaitB p x 14 else freshB p f || jwaitB p x 15
/-- What the judge finds of a fiber that has frames. -/
def jrestB (p : List GFunc) (f : GFiber) (on runs : Bool) : Bool :=
  allK f.frames.length (fun k => frameB p (f.frames.getD k default)) && allK (f.frames.length - 1) (jonB p f.frames) && jtopB p f on runs (f.frames.getD (f.frames.length - 1) default)
def jfiberB (p : List GFunc) (f : GFiber) (n : Nat) (on runs : Bool) : Bool :=
  if on = false ∧ ¬ (f.caller = -1 ∧ (0 < n ∨ f.frames.length = 0)) then false else if f.frames.length = 0 then !on else jrestB p f on runs

theorem frameB_at {p : List GFunc} {x : GFrame} (h : frameB p x = true) : 0 ≤ x.func ∧ x.func < p.length ∧ 0 ≤ x.at_ := by
  unfold frameB at h
  simp only [Bool.and_eq_true, decide_eq_true_eq] at h
  exact ⟨h.1.1.1.1, h.1.1.1.2, h.1.2.1⟩

theorem jrest_eq {p : List GFunc} {f : GFiber} {on runs : Bool} (h0 : f.frames.length ≠ 0) (hc : on = false → f.caller = -1) (hr : runs = true → on = true) : jrestB p f on runs = fiberB p f on runs := by
  unfold jrestB fiberB
  rw [if_neg h0]
  cases hall : allK f.frames.length (fun k => frameB p (f.frames.getD k default)) with
  | false =>
    have : allK f.frames.length (onB p f.frames) = false := by
      cases h : allK f.frames.length (onB p f.frames) with
      | false => rfl
      | true =>
        have : allK f.frames.length (fun k => frameB p (f.frames.getD k default)) = true := allK_true fun k hk => by
          have := allK_of h k hk
          unfold onB at this
          rw [Bool.and_eq_true] at this
          exact this.1
        rw [this] at hall
        cases hall
    rw [this]
    rfl
  | true =>
    have hfr := allK_of hall
    have e1 : allK f.frames.length (onB p f.frames) = allK (f.frames.length - 1) (jonB p f.frames) := by
      have step : ∀ k, k < f.frames.length → onB p f.frames k = (!decide (k + 1 < f.frames.length) || jonB p f.frames k) := fun k hk => by
        unfold onB
        rw [show frameB p (f.frames.getD k default) = true from hfr k hk, Bool.true_and]
        by_cases h1 : k + 1 < f.frames.length
        · have a := frameB_at (hfr k hk)
          have b := frameB_at (hfr (k + 1) h1)
          rw [decide_eq_true h1, decide_eq_true (show 0 ≤ (f.frames.getD (k + 1) default).func ∧ (f.frames.getD (k + 1) default).func < p.length from ⟨b.1, b.2.1⟩), waitB_j a.2.2]
          unfold jonB
          simp
        · rw [decide_eq_false h1]
          rfl
      rw [Bool.eq_iff_iff]
      constructor
      · intro h
        refine allK_true fun k hk => ?_
        have h2 := allK_of h k (by omega)
        rw [step k (by omega), decide_eq_true (by omega)] at h2
        simpa using h2
      · intro h
        refine allK_true fun k hk => ?_
        rw [step k hk]
        by_cases h1 : k + 1 < f.frames.length
        · rw [allK_of h k (by omega)]
          simp
        · rw [decide_eq_false h1]
          rfl
    have e2 : jtopB p f on runs (f.frames.getD (f.frames.length - 1) default) = topB p f on runs (f.frames.getD (f.frames.length - 1) default) := by
      have a := frameB_at (hfr (f.frames.length - 1) (by omega))
      unfold jtopB topB
      cases runs with
      | true => rfl
      | false =>
        cases on with
        | true => rw [waitB_j a.2.2 14 0]; simp
        | false => rw [waitB_j a.2.2 15 0, decide_eq_true (hc rfl)]; simp
    rw [e1, e2, Bool.true_and]

theorem jfiber_eq {p : List GFunc} {s : GState} {line : List Int} {n : Nat} (hnow : (n : Int) = s.now → (n : Int) ∈ line) :
    jfiberB p (s.fibers.getD n default) n (decide ((n : Int) ∈ line)) (decide ((n : Int) = s.now)) = fibK p s line n := by
  unfold jfiberB fibK
  generalize hf : s.fibers.getD n default = f
  have hr : decide ((n : Int) = s.now) = true → decide ((n : Int) ∈ line) = true := fun h => decide_eq_true (hnow (of_decide_eq_true h))
  generalize hon : decide ((n : Int) ∈ line) = on at *
  generalize decide ((n : Int) = s.now) = runs at *
  have hlast : (decide (n = 0) && !decide ((0 : Int) ∈ line) && decide (0 < (s.fibers.getD 0 default).frames.length)) = (decide (n = 0) && !on && decide (0 < f.frames.length)) := by
    by_cases h0 : n = 0
    · subst h0
      rw [← hf, ← hon]
      rfl
    · rw [decide_eq_false h0]; rfl
  rw [hlast]
  by_cases h0 : f.frames.length = 0
  · have hfb : fiberB p f on runs = (!on && decide (f.caller = -1)) := by unfold fiberB; rw [if_pos h0]
    rw [hfb]
    cases on with
    | true => rw [if_neg (by simp), if_pos h0]; simp
    | false =>
      by_cases h1 : f.caller = -1
      · rw [if_neg (by simp [h1, h0]), if_pos h0]; simp [h1, h0]
      · rw [if_pos ⟨rfl, fun h => h1 h.1⟩]; simp [h1]
  · cases on with
    | true =>
      rw [if_neg (by simp), if_neg h0, jrest_eq h0 (by simp) hr]
      simp
    | false =>
      by_cases h1 : f.caller = -1
      · by_cases h2 : 0 < n
        · rw [if_neg (by simp [h1, h2]), if_neg h0, jrest_eq h0 (fun _ => h1) hr]
          have : ¬ n = 0 := by omega
          simp [this]
        · have h3 : n = 0 := by omega
          have h4 : 0 < f.frames.length := by omega
          rw [if_pos ⟨rfl, fun h => h.2.elim h2 h0⟩]
          simp [h3, h4]
      · rw [if_pos ⟨rfl, fun h => h1 h.1⟩]
        have : fiberB p f false runs = false := by
          unfold fiberB topB
          rw [if_neg h0]
          cases runs with
          | true => exact absurd (hr rfl) (by decide)
          | false => simp [h1]
        rw [this]
        rfl
end Go.Proofs.Ytfajkebkhdcapaa
end
section
/- Contract of the judge's fiber. -/
set_option maxHeartbeats 4000000
set_option maxRecDepth 100000
set_option linter.unusedSimpArgs false
namespace Go.Proofs.Ytfajkebkhdcapaa
open Go Go.RowKit

theorem jfiber_any (p : List GFunc) (s : GState) (line : List Int) (jb : Nat) (n : Nat) (w : World) (hj : Judge w jb p s line) (hz : progErr p = 0) (hn : n < s.fibers.length) :
    Calls Try.prog 50 #[.pointer (some ⟨jb, 0, none⟩), .int .i64 n] w fun e w' => e = mustE (jfiberB p (s.fibers.getD n default) n (decide ((n : Int) ∈ line)) (decide ((n : Int) = s.now))) 1 ∧ Ext w w' := by
  have HJ := Lib.hid hj
  have HZ := Lib.hid hz
  have RA := alloc_keep
  obtain ⟨aj, cj, j0, hfs⟩ := hj.fs
  have j1 := hj.now
  obtain ⟨ap, cp, j3, hp⟩ := hj.pr
  obtain ⟨al, cl, j5, hln⟩ := hj.ln
  obtain ⟨bf, of, af, cf, rfl, x0, x1, hfv⟩ := Fibers.at' hfs hn
  have HFV := Lib.hid hfv
  have HLN := Lib.hid hln
  have HP := Lib.hid hp
  have HJC := Lib.hid (⟨j0, j1, j3, j5⟩ : _ ∧ _ ∧ _ ∧ _)
  obtain ⟨on, hon⟩ : ∃ on, decide ((n : Int) ∈ line) = on := ⟨_, rfl⟩
  have HON := Lib.hid hon
  have hrunseq : decide ((n : Int) = s.now) = ((n : Int) == s.now) := by rw [Bool.eq_iff_iff]; simp
  obtain ⟨runs, hruns⟩ : ∃ runs, ((n : Int) == s.now) = runs := ⟨_, rfl⟩
  have HRUNS := Lib.hid hruns
  rw [hon, hrunseq, hruns]
  generalize s.fibers.getD n default = F at *
  obtain ⟨r, hr⟩ : ∃ r, jfiberB p F n on runs = r := ⟨_, rfl⟩
  rw [hr]
  have HR := Lib.hid hr
  obtain ⟨fs, clr⟩ := F
  simp only at *
  obtain ⟨_, e0, hfr, _⟩ := HFV.out
  simp only [Value.agg.injEq] at e0
  simp at e0
  subst e0
  have HFR := Lib.hid hfr
  have hby : fs.length * 64 ≤ 140737488355328 := by obtain ⟨_, _, _, _, h, _⟩ := hfr; exact h.1
  clear hr hon hruns hrunseq hfv hln hp hfs hfr
  go_enter Try.func50, Try.ntmps50
  go_upto_region 1 with fail
  have bx := Lib.hid (⟨Cx.new w [.slice af fs.length cf, .int .i64 clr] 43 (j := 0) rfl, Cx.new w [.slice af fs.length cf, .int .i64 clr] 43 (j := 1) rfl⟩ : _ ∧ _)
  have hE1 : Ext w (w.alloc (.cells #[.slice af fs.length cf, .int .i64 clr] 43)) := (Ext.refl w).alloc _
  have HE1 := Lib.hid hE1
  have k5 := Ext.cell hE1 j5
  generalize w.alloc (.cells #[.slice af fs.length cf, .int .i64 clr] 43) = w1 at *
  go_upto_region 2 with (first
    | (go_at_call 44; (with_reducible refine (containsI_any line _ _ _ _ (Ints.stays (Ext.stays HE1.out) HLN.out)).mono ?_); rintro e w2 ⟨rfl, hx2⟩; rw [HON.out]))
  have HE2 := Lib.hid (HE1.out.trans hx2)
  have BX2 := Lib.hid (⟨bx.out.1.ext hx2, bx.out.2.ext hx2⟩ : _ ∧ _)
  clear hE1 hx2 k5 j0 j1 j3 j5 x0 x1 bx
  rename World => w2
  go_upto_if 27 with fail
  go_cut [5] (fun v wx => v = .bool on ∧ Ext w2 wx ∧ ((on = false ∧ ¬ (clr = -1 ∧ (0 < n ∨ fs.length = 0))) → False) ∧ (on = false → fs.length ≠ 0))
  case first =>
    obtain ⟨⟨b0, -⟩, ⟨b1, -⟩⟩ := BX2.out
    cases on with
    | true =>
      go_wp2_with fail
      go_meet
      exact ⟨rfl, Ext.refl _, (fun h => by cases h.1), (fun h => by cases h)⟩
    | false =>
      by_cases h1 : clr = -1
      · have T1 : (clr == -1) = true := by simp [h1]
        by_cases h2 : 0 < n
        · have T2 : decide ((0 : Int) < (n : Int)) = true := decide_eq_true (by omega)
          have T2n : decide (0 < n) = true := decide_eq_true h2
          by_cases h3 : fs.length = 0
          · have T3 : ((fs.length : Int) == 0) = true := by simp [h3]
            have HRR : Hid (r = true) := by unfold Hid; rw [← HR.out]; unfold jfiberB; simp [h1, h2, h3]
            clear h1 h2 h3 HR
            go_wp2_with (first
              | (go_at_call 48; refine (must2 _ _ _ _ _ ).mono ?_; rintro e w3 ⟨he, hx3⟩; simp only [Bool.and_true, Bool.true_and, Bool.and_false, Bool.false_and, Bool.and_self, mustE] at he; subst he; have e0 := Ext.cell (((Ext.refl w2).alloc _).trans hx3) b0))
            first | go_end0 | refine bodyPost_ret (results_none rfl _ _ _) rfl ?_
            exact ⟨by rw [HRR.out]; rfl, HE2.out.trans (((Ext.refl _).alloc _).trans hx3)⟩
          · have T3 : ((fs.length : Int) == 0) = false := beq_eq_false_iff_ne.2 (by omega)
            go_wp2_with (first
              | (go_at_call 48; refine (must2 _ _ _ _ _ ).mono ?_; rintro e w3 ⟨he, hx3⟩; simp only [Bool.and_true, Bool.true_and, Bool.and_false, Bool.false_and, Bool.and_self, mustE] at he; subst he; have e0 := Ext.cell (((Ext.refl w2).alloc _).trans hx3) b0))
            go_meet
            exact ⟨rfl, ((Ext.refl _).alloc _).trans hx3, (fun h => h.2 ⟨h1, .inl h2⟩), (fun _ => h3)⟩
        · have T2 : decide ((0 : Int) < (n : Int)) = false := decide_eq_false (by omega)
          have T2n : decide (0 < n) = false := decide_eq_false h2
          by_cases h3 : fs.length = 0
          · have T3 : ((fs.length : Int) == 0) = true := by simp [h3]
            have HRR : Hid (r = true) := by unfold Hid; rw [← HR.out]; unfold jfiberB; simp [h1, h3]
            clear h1 h2 h3 HR
            go_wp2_with (first
              | (go_at_call 48; refine (must2 _ _ _ _ _ ).mono ?_; rintro e w3 ⟨he, hx3⟩; simp only [Bool.and_true, Bool.true_and, Bool.and_false, Bool.false_and, Bool.and_self, mustE] at he; subst he; have e0 := Ext.cell (((Ext.refl w2).alloc _).trans hx3) b0))
            first | go_end0 | refine bodyPost_ret (results_none rfl _ _ _) rfl ?_
            exact ⟨by rw [HRR.out]; rfl, HE2.out.trans (((Ext.refl _).alloc _).trans hx3)⟩
          · have T3 : ((fs.length : Int) == 0) = false := beq_eq_false_iff_ne.2 (by omega)
            have HRR : Hid (r = false) := by unfold Hid; rw [← HR.out]; unfold jfiberB; simp [h2, h3]
            clear h1 h2 h3 HR
            go_wp2_with (first
              | (go_at_call 48; refine (must2 _ _ _ _ _ ).mono ?_; rintro e w3 ⟨he, hx3⟩; simp only [Bool.and_true, Bool.true_and, Bool.and_false, Bool.false_and, Bool.and_self, mustE] at he; subst he))
            exact ⟨rfl, by rw [HRR.out]; rfl, HE2.out.trans (((Ext.refl _).alloc _).trans hx3)⟩
      · have T1 : (clr == -1) = false := beq_eq_false_iff_ne.2 h1
        have HRR : Hid (r = false) := by unfold Hid; rw [← HR.out]; unfold jfiberB; simp [h1]
        by_cases h2 : 0 < n
        · have T2 : decide ((0 : Int) < (n : Int)) = true := decide_eq_true (by omega)
          have T2n : decide (0 < n) = true := decide_eq_true h2
          clear h1 h2 HR
          go_wp2_with (first
            | (go_at_call 48; refine (must2 _ _ _ _ _ ).mono ?_; rintro e w3 ⟨he, hx3⟩; simp only [Bool.and_true, Bool.true_and, Bool.and_false, Bool.false_and, Bool.and_self, mustE] at he; subst he))
          exact ⟨rfl, by rw [HRR.out]; rfl, HE2.out.trans (((Ext.refl _).alloc _).trans hx3)⟩
        · have T2 : decide ((0 : Int) < (n : Int)) = false := decide_eq_false (by omega)
          have T2n : decide (0 < n) = false := decide_eq_false h2
          clear h1 h2 HR
          go_wp2_with (first
            | (go_at_call 48; refine (must2 _ _ _ _ _ ).mono ?_; rintro e w3 ⟨he, hx3⟩; simp only [Bool.and_true, Bool.true_and, Bool.and_false, Bool.false_and, Bool.and_self, mustE] at he; subst he))
          exact ⟨rfl, by rw [HRR.out]; rfl, HE2.out.trans (((Ext.refl _).alloc _).trans hx3)⟩
  case rest =>
    obtain ⟨rfl, hx3, hgood, hpos⟩ := hcut
    have HE3 := Lib.hid (HE2.out.trans hx3)
    have BX3 := Lib.hid (⟨BX2.out.1.ext hx3, BX2.out.2.ext hx3⟩ : _ ∧ _)
    clear hx3 HE2 BX2
    rename World => w3
    obtain ⟨⟨b0, -⟩, ⟨b1, -⟩⟩ := BX3.out
    by_cases h0 : fs.length = 0
    · have T0 : decide ((0 : Int) < (fs.length : Int)) = false := decide_eq_false (by omega)
      have T0n : decide (0 < fs.length) = false := decide_eq_false (by omega)
      have HRR : Hid (r = false) := by
        unfold Hid
        rw [← HR.out]
        unfold jfiberB
        cases on with
        | true => simp [h0]
        | false => exact absurd h0 (hpos rfl)
      clear h0 HR hgood hpos
      go_wp2_with (first
        | (go_at_call 48; refine (must1 _ _ _ _ ).mono ?_; rintro e w4 ⟨he, hx4⟩; simp only [Bool.and_true, Bool.true_and, Bool.and_false, Bool.false_and, Bool.and_self, mustE] at he; subst he))
      exact ⟨rfl, by rw [HRR.out]; rfl, HE3.out.trans (((Ext.refl _).alloc _).trans hx4)⟩
    · have T0 : decide ((0 : Int) < (fs.length : Int)) = true := decide_eq_true (by omega)
      have T0n : decide (0 < fs.length) = true := decide_eq_true (by omega)
      have HRR : Hid (r = jrestB p ⟨fs, clr⟩ on runs) := by
        unfold Hid
        rw [← HR.out]
        unfold jfiberB
        rw [if_neg (fun h => hgood h), if_neg h0]
      clear HR hgood hpos
      go_upto_region 6 with (first
        | (go_at_call 48; refine (must1 _ _ _ _ ).mono ?_; rintro e w4 ⟨he, hx4⟩; simp only [Bool.and_true, Bool.true_and, Bool.and_false, Bool.false_and, Bool.and_self, mustE] at he; subst he))
      have HE4 := Lib.hid (HE3.out.trans (((Ext.refl _).alloc _).trans hx4))
      have BX4 := Lib.hid (⟨BX3.out.1.ext (((Ext.refl _).alloc _).trans hx4), BX3.out.2.ext (((Ext.refl _).alloc _).trans hx4)⟩ : _ ∧ _)
      clear hx4 HE3 BX3 b0 b1
      rename World => w4
      obtain ⟨⟨b0, -⟩, ⟨b1, -⟩⟩ := BX4.out
      go_wp2_with fail
      clear b0 b1
      go_loopw [54] (fun q wr => ∃ k : Nat, k ≤ fs.length ∧ q = .int .i64 k ∧ Ext w4 wr ∧ ∀ i, i < k → frameB p (fs.getD i default) = true) (fun q _ => fs.length - (intOf q).toNat)
      case atStart => exact ⟨0, Nat.zero_le _, rfl, Ext.refl _, fun i hi => absurd hi (Nat.not_lt_zero _)⟩
      case round =>
        obtain ⟨k, hk, rfl, hb, hall⟩ := hrel
        have HB := Lib.hid hb
        have HALL := Lib.hid hall
        clear hb hall
        by_cases hlt : k < fs.length
        · obtain ⟨bg, og, al2, cl2, as2, cs2, rfl, hfa, hfv⟩ := (Frames.stays (Ext.stays (HE4.out.trans HB.out)) HFR.out).at' hlt
          have HFV2 := Lib.hid hfv
          obtain ⟨x0, x1, x2, x3⟩ := hfa
          obtain ⟨ok, hok⟩ : ∃ ok, frameB p (fs.getD k default) = ok := ⟨_, rfl⟩
          have HOK := Lib.hid hok
          clear hfv hok
          generalize hxx : fs.getD k default = x at *
          have HXX := Lib.hid hxx
          clear hxx
          go_upto_region 9 with fail
          have HE5 := Lib.hid ((HE4.out.trans HB.out).trans ((Ext.refl wr).alloc (.cells #[.int .i64 x.func, .int .i64 x.at_, .slice al2 x.locals.length cl2, .slice as2 x.stack.length cs2] 45)))
          cases ok with
          | true =>
            go_wp2_with (first
              | (go_at_call 69; refine (jframe_any p s line jb _ x _ _ (HJ.out.ext HE5.out) HZ.out (FrameV.stays (Ext.stays ((Ext.refl _).alloc _)) HFV2.out)).mono ?_; rintro e w6 ⟨he, hx6⟩; rw [HOK.out] at he; simp only [mustE] at he; subst he))
            go_roundw
            case rel => exact ⟨k + 1, by omega, by go_num, HB.out.trans (((Ext.refl _).alloc _).trans hx6), fun i hi => by
              by_cases e : i = k
              · rw [e, HXX.out]; exact HOK.out
              · exact HALL.out i (by omega)⟩
            case measure => simp [intOf]; omega
          | false =>
            have HR2 : Hid (r = false) := by unfold Hid; rw [HRR.out]; unfold jrestB; rw [allK_false hlt (by show frameB p (fs.getD k default) = false; rw [HXX.out]; exact HOK.out)]; rfl
            go_wp2_with (first
              | (go_at_call 69; refine (jframe_any p s line jb _ x _ _ (HJ.out.ext HE5.out) HZ.out (FrameV.stays (Ext.stays ((Ext.refl _).alloc _)) HFV2.out)).mono ?_; rintro e w6 ⟨he, hx6⟩; rw [HOK.out] at he; simp only [mustE] at he; subst he))
            exact ⟨rfl, by rw [HR2.out]; rfl, HE5.out.trans hx6⟩
        · obtain rfl : k = fs.length := by omega
          have HR2 : Hid (r = (allK (fs.length - 1) (jonB p fs) && jtopB p ⟨fs, clr⟩ on runs (fs.getD (fs.length - 1) default))) := by unfold Hid; rw [HRR.out]; unfold jrestB; rw [allK_true HALL.out, Bool.true_and]
          have HE5 := Lib.hid (HE4.out.trans HB.out)
          have BX5 := Lib.hid (⟨BX4.out.1.ext HB.out, BX4.out.2.ext HB.out⟩ : _ ∧ _)
          clear hlt HRR HE4 BX4
          rename World => w5
          obtain ⟨⟨b0, -⟩, ⟨b1, -⟩⟩ := BX5.out
          obtain ⟨bg, og, _, _, _, _, rfl, _, _⟩ := (Frames.stays (Ext.stays HE5.out) HFR.out).at' (k := 0) (by omega)
          go_upto_region 11 with fail
          go_cut [64, 65, 66] (fun v64 v65 v66 wx => (∃ o2 c2, v64 = .slice (some ⟨bg, o2, none⟩) (fs.length - 1) c2 ∧ (1 < fs.length → o2 = og + 4)) ∧ v65 = .int .i64 ((fs.length - 1 : Nat) : Int) ∧ v66 = .int .i64 0 ∧ w5 = wx)
          case first =>
            have hcle : fs.length ≤ cf := by obtain ⟨_, _, e, h, _⟩ := HFR.out; simp only [Value.slice.injEq] at e; omega
            by_cases hc1 : cf = 1
            · subst hc1
              go_wp2_with fail
              go_meet
              have h1 : fs.length = 1 := by omega
              exact ⟨⟨og, 0, by rw [h1], fun h => by omega⟩, by rw [h1]; rfl, rfl, rfl⟩
            · go_wp2_with fail
              go_meet
              exact ⟨⟨_, _, rfl, fun _ => rfl⟩, rfl, rfl, rfl⟩
          case rest =>
            obtain ⟨⟨o2, c2, rfl, ho2⟩, rfl, rfl, rfl⟩ := hcut
            have hM1 : fs.length - 1 < fs.length := by omega
            have hM2 : fs.length ≤ (fs.length - 1) + 1 := by omega
            generalize fs.length - 1 = M at *
            clear b0 b1
            go_wp2_with fail
            go_loopw [66] (fun q wr => ∃ k : Nat, k ≤ M ∧ q = .int .i64 k ∧ Ext w5 wr ∧ ∀ i, i < k → jonB p fs i = true) (fun q _ => M - (intOf q).toNat)
            case atStart => exact ⟨0, Nat.zero_le _, rfl, Ext.refl _, fun i hi => absurd hi (Nat.not_lt_zero _)⟩
            case round =>
              obtain ⟨k, hk, rfl, hb, hall2⟩ := hrel
              have HB2 := Lib.hid hb
              have HALL2 := Lib.hid hall2
              obtain ⟨⟨b0, -⟩, ⟨b1, -⟩⟩ := (⟨BX5.out.1.ext hb, BX5.out.2.ext hb⟩ : _ ∧ _)
              clear hb hall2
              by_cases hlt : k < M
              · obtain ⟨k1, hk1⟩ : ∃ k1, k1 = k + 1 := ⟨_, rfl⟩
                have ho2' : og + k1 * 4 = o2 + k * 4 := by rw [ho2 (by omega), hk1]; omega
                have hkf : k < fs.length := by omega
                have hFx := HALL.out k hkf
                obtain ⟨_, _, alx, clx, asx, csx, eg, hfa, hfv⟩ := (Frames.stays (Ext.stays (HE5.out.trans HB2.out)) HFR.out).at' hkf
                simp only [Option.some.injEq, Addr.mk.injEq, and_true] at eg
                obtain ⟨rfl, rfl⟩ := eg
                obtain ⟨_, _, aly, cly, asy, csy, eg, hfay, _⟩ := (Frames.stays (Ext.stays (HE5.out.trans HB2.out)) HFR.out).at' (k := k1) (by omega)
                simp only [Option.some.injEq, Addr.mk.injEq, and_true] at eg
                obtain ⟨rfl, rfl⟩ := eg
                rw [ho2'] at hfay
                have HJON : Hid (jonB p fs k = (jwaitB p (fs.getD k default) 11 && decide ((opBack p (fs.getD k default)).a = (fs.getD k1 default).func))) := by rw [hk1]; rfl
                have HFV2 := Lib.hid hfv
                have HK1 := Lib.hid hk1
                clear hfv hk1 ho2'
                generalize fs.getD k default = x at *
                generalize fs.getD k1 default = y at *
                obtain ⟨x0, x1, x2, x3⟩ := hfa
                obtain ⟨y0, y1, y2, y3⟩ := hfay
                obtain ⟨n', m', hn', e1, e2, hm', _, hu0, hlm, h24⟩ := frameB_nat HZ.out hFx
                obtain ⟨fn', at', lsx, stx⟩ := x
                simp only at e1 e2
                subst e1 e2
                simp only at *
                have HFX := Lib.hid hFx
                obtain ⟨bp, op, capp, ep, _, _, _, _, vcp, hCp, hcodep⟩ := HP.out.get hn'
                simp only [Value.slice.injEq] at ep
                obtain ⟨rfl, -, rfl⟩ := ep
                obtain ⟨cap', ccap', rfl, hcc', _, hopsp⟩ := hcodep
                have HOPS := Lib.hid hopsp
                clear hFx hopsp hlm
                rename World => wr
                go_upto_region 15 with fail
                have hE7 : Ext wr ((wr.alloc (.cells #[.int .i64 y.func, .int .i64 y.at_, .slice aly y.locals.length cly, .slice asy y.stack.length csy] 45)).alloc (.cells #[.int .i64 n', .int .i64 m', .slice alx lsx.length clx, .slice asx stx.length csx] 45)) := ((Ext.refl _).alloc _).alloc _
                have yb0 := (Cx.ext (Cx.new wr [.int .i64 y.func, .int .i64 y.at_, .slice aly y.locals.length cly, .slice asy y.stack.length csy] 45 (j := 0) rfl) ((Ext.refl _).alloc (.cells #[.int .i64 n', .int .i64 m', .slice alx lsx.length clx, .slice asx stx.length csx] 45))).1
                have hSy : (wr.alloc (.cells #[.int .i64 y.func, .int .i64 y.at_, .slice aly y.locals.length cly, .slice asy y.stack.length csy] 45)).heap.size = wr.heap.size + 1 := Array.size_push _
                have xb0 := (Cx.new (wr.alloc (.cells #[.int .i64 y.func, .int .i64 y.at_, .slice aly y.locals.length cly, .slice asy y.stack.length csy] 45)) [.int .i64 n', .int .i64 m', .slice alx lsx.length clx, .slice asx stx.length csx] 45 (j := 0) rfl).1
                have xb1 := (Cx.new (wr.alloc (.cells #[.int .i64 y.func, .int .i64 y.at_, .slice aly y.locals.length cly, .slice asy y.stack.length csy] 45)) [.int .i64 n', .int .i64 m', .slice alx lsx.length clx, .slice asx stx.length csx] 45 (j := 1) rfl).1
                have xb2 := (Cx.new (wr.alloc (.cells #[.int .i64 y.func, .int .i64 y.at_, .slice aly y.locals.length cly, .slice asy y.stack.length csy] 45)) [.int .i64 n', .int .i64 m', .slice alx lsx.length clx, .slice asx stx.length csx] 45 (j := 2) rfl).1
                have xb3 := (Cx.new (wr.alloc (.cells #[.int .i64 y.func, .int .i64 y.at_, .slice aly y.locals.length cly, .slice asy y.stack.length csy] 45)) [.int .i64 n', .int .i64 m', .slice alx lsx.length clx, .slice asx stx.length csx] 45 (j := 3) rfl).1
                rw [hSy] at xb0 xb1 xb2 xb3
                have HX7 := Lib.hid hE7
                have HE7 := Lib.hid ((HE5.out.trans HB2.out).trans hE7)
                have j3 := Ext.cell HE7.out HJC.out.2.2.1
                have hC7 := Ext.cell HE7.out hCp
                clear hSy hE7 x0 x1 x2 x3 y0 y1 y2 y3 b0 b1 hCp
                generalize (wr.alloc (.cells [.int .i64 y.func, .int .i64 y.at_, .slice aly y.locals.length cly, .slice asy y.stack.length csy].toArray 45)).alloc (.cells [.int .i64 n', .int .i64 m', .slice alx lsx.length clx, .slice asx stx.length csx].toArray 45) = w7 at *
                cases hw : jwaitB p ⟨n', m', lsx, stx⟩ 11 with
                | false =>
                  have HW := Lib.hid hw
                  have HR3 : Hid (r = false) := by unfold Hid; rw [HR2.out, allK_false hlt (by rw [HJON.out, hw]; rfl)]; rfl
                  clear hw
                  refine wp_region_ext_tail 23 (by kernel_rfl) (by kernel_rfl) ?_
                  simp only [List.take_succ_cons, List.take_zero, List.drop_succ_cons, List.drop_zero]
                  repeat (first
                    | go_big_quiet_skip
                    | (go_big_quiet_want
                       unfold Oper.quiet
                       apply Exists.intro
                       refine ⟨fun w' hw' => ?_, ?_⟩
                       focus
                         have hcq := Ext.keep hw'
                         go_simp
                         first
                           | with_reducible rfl
                           | (go_at_call 70; refine (jwaits_any p s line jb _ ⟨n', m', lsx, stx⟩ _ 11 _ (HJ.out.ext (HE7.out.trans hw')) HZ.out (FrameV.stays (Ext.stays (HX7.out.trans hw')) HFV2.out) HFX.out).mono ?_; rintro e w8 ⟨rfl, hx8⟩; rw [HW.out]; exact ⟨rfl, hw'.trans hx8⟩)
                       (try dsimp only [Act.put])
                       (try simp only [List.setIfInBounds_toArray, List.set_cons_succ, List.set_cons_zero])
                       go_big_quiet_on))
                  refine wpQuiet_nil ?_
                  intro wq hq
                  go_wp2_with (first
                    | (go_at_call 48; refine (must1 _ _ _ _ ).mono ?_; rintro e w9 ⟨he, hx9⟩; simp only [Bool.and_true, Bool.true_and, Bool.and_false, Bool.false_and, Bool.and_self, mustE] at he; subst he))
                  exact ⟨rfl, by rw [HR3.out]; rfl, HE7.out.trans (hq.trans (((Ext.refl _).alloc _).trans hx9))⟩
                | true =>
                  have HW := Lib.hid hw
                  have hmpos : 0 < m' := by
                    unfold jwaitB at hw
                    simp only [Bool.and_eq_true, decide_eq_true_eq] at hw
                    omega
                  obtain ⟨q, hq'⟩ : ∃ q, m' = q + 1 := ⟨m' - 1, by omega⟩
                  have hql : q < p[n'].code.length := by omega
                  have KK : IntKind.i64.wrap ((m' : Int) - 1) = (q : Int) := by rw [IntWalk.i64_in _ (by omega)]; omega
                  obtain ⟨cb, co, rfl, _, _, z1, _⟩ := HOPS.out q hql
                  obtain ⟨ya, hya⟩ : ∃ ya, p[n'].code[q].a = ya := ⟨_, rfl⟩
                  rw [hya] at z1
                  have hOB : (opBack p ⟨n', m', lsx, stx⟩).a = ya := by
                    unfold opBack
                    rw [show (funcOf p (GFrame.func ⟨n', m', lsx, stx⟩)) = p[n'] from funcOf_nat hn']
                    show (p[n'].code.getD ((m' : Int) - 1).toNat default).a = ya
                    rw [show ((m' : Int) - 1).toNat = q by omega, ← hya]
                    simp [List.getD, List.getElem?_eq_getElem hql]
                  have HJ2 : Hid (jonB p fs k = (ya == y.func)) := by
                    unfold Hid
                    rw [HJON.out, hw, hOB, Bool.true_and, Bool.eq_iff_iff]
                    simp
                  have z7 := Ext.cell HE7.out z1
                  clear hw hq' hOB hya z1 hmpos
                  obtain ⟨yf, hyf⟩ : ∃ yf, y.func = yf := ⟨_, rfl⟩
                  rw [hyf] at HJ2 yb0
                  clear hyf
                  refine wp_region_ext_tail 23 (by kernel_rfl) (by kernel_rfl) ?_
                  simp only [List.take_succ_cons, List.take_zero, List.drop_succ_cons, List.drop_zero]
                  repeat (first
                    | go_big_quiet_skip
                    | (go_big_quiet_want
                       unfold Oper.quiet
                       apply Exists.intro
                       refine ⟨fun w' hw' => ?_, ?_⟩
                       focus
                         have hcq := Ext.keep hw'
                         go_simp
                         first
                           | with_reducible rfl
                           | (go_at_call 70; refine (jwaits_any p s line jb _ ⟨n', m', lsx, stx⟩ _ 11 _ (HJ.out.ext (HE7.out.trans hw')) HZ.out (FrameV.stays (Ext.stays (HX7.out.trans hw')) HFV2.out) HFX.out).mono ?_; rintro e w8 ⟨rfl, hx8⟩; rw [HW.out]; exact ⟨rfl, hw'.trans hx8⟩)
                       (try dsimp only [Act.put])
                       (try simp only [List.setIfInBounds_toArray, List.set_cons_succ, List.set_cons_zero])
                       go_big_quiet_on))
                  refine wpQuiet_nil ?_
                  intro wq hq
                  by_cases hy : ya = yf
                  · have HYT : Hid ((ya == yf) = true) := by unfold Hid; simp [hy]
                    clear hy
                    go_wp2_with (first
                      | (go_at_call 48; refine (must1 _ _ _ _ ).mono ?_; rintro e w9 ⟨he, hx9⟩; rw [HYT.out] at he; simp only [Bool.and_true, Bool.true_and, Bool.and_false, Bool.false_and, Bool.and_self, mustE] at he; subst he))
                    go_roundw
                    case rel => exact ⟨k + 1, by omega, by go_num, (HB2.out.trans HX7.out).trans (hq.trans (((Ext.refl _).alloc _).trans hx9)), fun i hi => by
                      by_cases e : i = k
                      · rw [e, HJ2.out]; exact HYT.out
                      · exact HALL2.out i (by omega)⟩
                    case measure => simp [intOf]; omega
                  · have HYT : Hid ((ya == yf) = false) := beq_eq_false_iff_ne.2 hy
                    have HR3 : Hid (r = false) := by unfold Hid; rw [HR2.out, allK_false hlt (by rw [HJ2.out]; exact HYT.out)]; rfl
                    clear hy
                    go_wp2_with (first
                      | (go_at_call 48; refine (must1 _ _ _ _ ).mono ?_; rintro e w9 ⟨he, hx9⟩; rw [HYT.out] at he; simp only [Bool.and_true, Bool.true_and, Bool.and_false, Bool.false_and, Bool.and_self, mustE] at he; subst he))
                    exact ⟨rfl, by rw [HR3.out]; rfl, HE7.out.trans (hq.trans (((Ext.refl _).alloc _).trans hx9))⟩
              · obtain rfl : k = M := by omega
                have HR3 : Hid (r = jtopB p ⟨fs, clr⟩ on runs (fs.getD k default)) := by unfold Hid; rw [HR2.out, allK_true HALL2.out, Bool.true_and]
                have HFR0 : Hid (∀ h : 0 < fs.length, 0 ≤ fs[0].func ∧ fs[0].func < p.length) := fun h => by
                  have h1 := frameB_at (HALL.out 0 h)
                  have e : fs.getD 0 default = fs[0] := by simp [List.getD, List.getElem?_eq_getElem h]
                  rw [e] at h1
                  exact ⟨h1.1, h1.2.1⟩
                have KK : IntKind.i64.wrap ((fs.length : Int) - 1) = (k : Int) := by rw [IntWalk.i64_in _ (by omega)]; omega
                have hFx := HALL.out k hM1
                obtain ⟨_, _, alx, clx, asx, csx, eg, hfa, hfv⟩ := (Frames.stays (Ext.stays (HE5.out.trans HB2.out)) HFR.out).at' hM1
                simp only [Option.some.injEq, Addr.mk.injEq, and_true] at eg
                obtain ⟨rfl, rfl⟩ := eg
                have HFV2 := Lib.hid hfv
                clear hfv hlt HR2
                generalize fs.getD k default = x at *
                obtain ⟨x0, x1, x2, x3⟩ := hfa
                obtain ⟨n', m', hn', e1, e2, hm', _, hu0, hlm, h24⟩ := frameB_nat HZ.out hFx
                obtain ⟨fn', at', lsx, stx⟩ := x
                simp only at e1 e2
                subst e1 e2
                simp only at *
                have HFX := Lib.hid hFx
                have hml : m' < (hgt p n').length := by omega
                clear hFx hlm
                rename World => wr
                go_upto_region 19 with fail
                have hE7 : Ext wr (wr.alloc (.cells #[.int .i64 n', .int .i64 m', .slice alx lsx.length clx, .slice asx stx.length csx] 45)) := (Ext.refl _).alloc _
                have xb0 := (Cx.new wr [.int .i64 n', .int .i64 m', .slice alx lsx.length clx, .slice asx stx.length csx] 45 (j := 0) rfl).1
                have xb1 := (Cx.new wr [.int .i64 n', .int .i64 m', .slice alx lsx.length clx, .slice asx stx.length csx] 45 (j := 1) rfl).1
                have xb2 := (Cx.new wr [.int .i64 n', .int .i64 m', .slice alx lsx.length clx, .slice asx stx.length csx] 45 (j := 2) rfl).1
                have xb3 := (Cx.new wr [.int .i64 n', .int .i64 m', .slice alx lsx.length clx, .slice asx stx.length csx] 45 (j := 3) rfl).1
                have c0 := Ext.cell hE7 b0
                have c1 := Ext.cell hE7 b1
                have HX7 := Lib.hid hE7
                have HE7 := Lib.hid ((HE5.out.trans HB2.out).trans hE7)
                have j1 := Ext.cell HE7.out HJC.out.2.1
                have j3 := Ext.cell HE7.out HJC.out.2.2.1
                clear hE7 x0 x1 x2 x3 b0 b1
                generalize wr.alloc (.cells [.int .i64 n', .int .i64 m', .slice alx lsx.length clx, .slice asx stx.length csx].toArray 45) = w7 at *
                cases runs with
                | true =>
                  have TR := HRUNS.out
                  obtain ⟨u, hu⟩ : ∃ u, (hgt p n').getD m' 0 = u := ⟨_, rfl⟩
                  have HU := Lib.hid hu
                  have HR4 : Hid (r = ((stx.length : Int) == u)) := by
                    unfold Hid
                    rw [HR3.out]
                    unfold jtopB fullB
                    rw [if_pos rfl, show (hgt p (GFrame.func ⟨n', m', lsx, stx⟩)).getD (GFrame.at_ ⟨n', m', lsx, stx⟩).toNat 0 = u from HU.out, Bool.eq_iff_iff]
                    simp
                  obtain ⟨ah, ch, j4, hh⟩ := (HJ.out.ext HE7.out).hts
                  obtain ⟨bh, oh, ah2, ch2, rfl, hh0, hhi⟩ := Judge.at' hh hn'
                  obtain ⟨bl, ol, rfl, hl0⟩ := Ints.at' hhi hml
                  rw [HU.out] at hl0
                  clear hu hh hhi
                  go_upto_region 20 with fail
                  go_still_tail 16, (by kernel_rfl)
                  change wpList _ _ _ _ _ w7.drew
                  have hE8 : Ext w7 w7.drew := (Ext.refl _).drew
                  generalize w7.drew = w8 at *
                  by_cases hy : (stx.length : Int) = u
                  · have HYT : Hid (((stx.length : Int) == u) = true) := by unfold Hid; simp [hy]
                    have HR5 : Hid (r = true) := by unfold Hid; rw [HR4.out]; exact HYT.out
                    clear hy
                    go_wp2_with (first
                      | (go_at_call 48; refine (must1 _ _ _ _ ).mono ?_; rintro e w9 ⟨he, hx9⟩; rw [HYT.out] at he; simp only [Bool.and_true, Bool.true_and, Bool.and_false, Bool.false_and, Bool.and_self, mustE] at he; subst he))
                    go_end0
                    exact ⟨by rw [HR5.out]; rfl, HE7.out.trans (hE8.trans (((Ext.refl _).alloc _).trans hx9))⟩
                  · have HYT : Hid (((stx.length : Int) == u) = false) := beq_eq_false_iff_ne.2 hy
                    have HR5 : Hid (r = false) := by unfold Hid; rw [HR4.out]; exact HYT.out
                    clear hy
                    go_wp2_with (first
                      | (go_at_call 48; refine (must1 _ _ _ _ ).mono ?_; rintro e w9 ⟨he, hx9⟩; rw [HYT.out] at he; simp only [Bool.and_true, Bool.true_and, Bool.and_false, Bool.false_and, Bool.and_self, mustE] at he; subst he))
                    exact ⟨rfl, by rw [HR5.out]; rfl, HE7.out.trans (hE8.trans (((Ext.refl _).alloc _).trans hx9))⟩
                | false =>
                  have TR := HRUNS.out
                  cases on with
                  | true =>
                    have HR4 : Hid (r = jwaitB p ⟨n', m', lsx, stx⟩ 14) := by unfold Hid; rw [HR3.out]; rfl
                    cases hw : jwaitB p ⟨n', m', lsx, stx⟩ 14 with
                    | true =>
                      have HW := Lib.hid hw
                      have HR5 : Hid (r = true) := by unfold Hid; rw [HR4.out, hw]
                      clear hw
                      go_wp2_with (first
                        | (go_at_call 70; refine (jwaits_any p s line jb _ ⟨n', m', lsx, stx⟩ _ 14 _ (HJ.out.ext HE7.out) HZ.out (FrameV.stays (Ext.stays HX7.out) HFV2.out) HFX.out).mono ?_; rintro e w8 ⟨rfl, hx8⟩; rw [HW.out])
                        | (go_at_call 48; refine (must1 _ _ _ _ ).mono ?_; rintro e w9 ⟨he, hx9⟩; simp only [Bool.and_true, Bool.true_and, Bool.and_false, Bool.false_and, Bool.and_self, mustE] at he; subst he))
                      go_end0
                      exact ⟨by rw [HR5.out]; rfl, HE7.out.trans (hx8.trans (((Ext.refl _).alloc _).trans hx9))⟩
                    | false =>
                      have HW := Lib.hid hw
                      have HR5 : Hid (r = false) := by unfold Hid; rw [HR4.out, hw]
                      clear hw
                      go_wp2_with (first
                        | (go_at_call 70; refine (jwaits_any p s line jb _ ⟨n', m', lsx, stx⟩ _ 14 _ (HJ.out.ext HE7.out) HZ.out (FrameV.stays (Ext.stays HX7.out) HFV2.out) HFX.out).mono ?_; rintro e w8 ⟨rfl, hx8⟩; rw [HW.out])
                        | (go_at_call 48; refine (must1 _ _ _ _ ).mono ?_; rintro e w9 ⟨he, hx9⟩; simp only [Bool.and_true, Bool.true_and, Bool.and_false, Bool.false_and, Bool.and_self, mustE] at he; subst he))
                      exact ⟨rfl, by rw [HR5.out]; rfl, HE7.out.trans (hx8.trans (((Ext.refl _).alloc _).trans hx9))⟩
                  | false =>
                    have HR4 : Hid (r = (freshB p ⟨fs, clr⟩ || jwaitB p ⟨n', m', lsx, stx⟩ 15)) := by unfold Hid; rw [HR3.out]; rfl
                    go_upto_region 18 with fail
                    cases hfre : freshB p ⟨fs, clr⟩ with
                    | true =>
                      have HFRE := Lib.hid hfre
                      have HR5 : Hid (r = true) := by unfold Hid; rw [HR4.out, hfre]; rfl
                      clear hfre
                      refine wp_region_ext_tail 11 (by kernel_rfl) (by kernel_rfl) ?_
                      simp only [List.take_succ_cons, List.take_zero, List.drop_succ_cons, List.drop_zero]
                      repeat (first
                        | go_big_quiet_skip
                        | (go_big_quiet_want
                           unfold Oper.quiet
                           apply Exists.intro
                           refine ⟨fun w' hw' => ?_, ?_⟩
                           focus
                             have hcq := Ext.keep hw'
                             go_simp
                             first
                               | with_reducible rfl
                               | (go_at_call 71; refine (stateFresh_any p _ _ _ ⟨fs, clr⟩ _ _ (Funcs.stays (Ext.stays (HE7.out.trans hw')) HP.out) (FiberV.stays (Ext.stays (HE7.out.trans hw')) HFV.out) HFR0.out).mono ?_; rintro e w8 ⟨rfl, hx8⟩; rw [HFRE.out]; exact ⟨rfl, hw'.trans hx8⟩)
                           (try dsimp only [Act.put])
                           (try simp only [List.setIfInBounds_toArray, List.set_cons_succ, List.set_cons_zero])
                           go_big_quiet_on))
                      refine wpQuiet_nil ?_
                      intro wq hq
                      go_wp2_with (first
                        | (go_at_call 48; refine (must1 _ _ _ _ ).mono ?_; rintro e w9 ⟨he, hx9⟩; simp only [Bool.and_true, Bool.true_and, Bool.and_false, Bool.false_and, Bool.and_self, mustE] at he; subst he))
                      go_end0
                      exact ⟨by rw [HR5.out]; rfl, HE7.out.trans (hq.trans (((Ext.refl _).alloc _).trans hx9))⟩
                    | false =>
                      have HFRE := Lib.hid hfre
                      cases hw : jwaitB p ⟨n', m', lsx, stx⟩ 15 with
                      | true =>
                        have HW := Lib.hid hw
                        have HR5 : Hid (r = true) := by unfold Hid; rw [HR4.out, hfre, hw]; rfl
                        clear hfre hw
                        refine wp_region_ext_tail 11 (by kernel_rfl) (by kernel_rfl) ?_
                        simp only [List.take_succ_cons, List.take_zero, List.drop_succ_cons, List.drop_zero]
                        repeat (first
                          | go_big_quiet_skip
                          | (go_big_quiet_want
                             unfold Oper.quiet
                             apply Exists.intro
                             refine ⟨fun w' hw' => ?_, ?_⟩
                             focus
                               have hcq := Ext.keep hw'
                               go_simp
                               first
                                 | with_reducible rfl
                                 | (go_at_call 71; refine (stateFresh_any p _ _ _ ⟨fs, clr⟩ _ _ (Funcs.stays (Ext.stays (HE7.out.trans hw')) HP.out) (FiberV.stays (Ext.stays (HE7.out.trans hw')) HFV.out) HFR0.out).mono ?_; rintro e w8 ⟨rfl, hx8⟩; rw [HFRE.out]; exact ⟨rfl, hw'.trans hx8⟩) | (go_at_call 70; refine (jwaits_any p s line jb _ ⟨n', m', lsx, stx⟩ _ 15 _ (HJ.out.ext (HE7.out.trans hw')) HZ.out (FrameV.stays (Ext.stays (HX7.out.trans hw')) HFV2.out) HFX.out).mono ?_; rintro e w8 ⟨rfl, hx8⟩; rw [HW.out]; exact ⟨rfl, hw'.trans hx8⟩)
                             (try dsimp only [Act.put])
                             (try simp only [List.setIfInBounds_toArray, List.set_cons_succ, List.set_cons_zero])
                             go_big_quiet_on))
                        refine wpQuiet_nil ?_
                        intro wq hq
                        go_wp2_with (first
                          | (go_at_call 48; refine (must1 _ _ _ _ ).mono ?_; rintro e w9 ⟨he, hx9⟩; simp only [Bool.and_true, Bool.true_and, Bool.and_false, Bool.false_and, Bool.and_self, mustE] at he; subst he))
                        go_end0
                        exact ⟨by rw [HR5.out]; rfl, HE7.out.trans (hq.trans (((Ext.refl _).alloc _).trans hx9))⟩
                      | false =>
                        have HW := Lib.hid hw
                        have HR5 : Hid (r = false) := by unfold Hid; rw [HR4.out, hfre, hw]; rfl
                        clear hfre hw
                        refine wp_region_ext_tail 11 (by kernel_rfl) (by kernel_rfl) ?_
                        simp only [List.take_succ_cons, List.take_zero, List.drop_succ_cons, List.drop_zero]
                        repeat (first
                          | go_big_quiet_skip
                          | (go_big_quiet_want
                             unfold Oper.quiet
                             apply Exists.intro
                             refine ⟨fun w' hw' => ?_, ?_⟩
                             focus
                               have hcq := Ext.keep hw'
                               go_simp
                               first
                                 | with_reducible rfl
                                 | (go_at_call 71; refine (stateFresh_any p _ _ _ ⟨fs, clr⟩ _ _ (Funcs.stays (Ext.stays (HE7.out.trans hw')) HP.out) (FiberV.stays (Ext.stays (HE7.out.trans hw')) HFV.out) HFR0.out).mono ?_; rintro e w8 ⟨rfl, hx8⟩; rw [HFRE.out]; exact ⟨rfl, hw'.trans hx8⟩) | (go_at_call 70; refine (jwaits_any p s line jb _ ⟨n', m', lsx, stx⟩ _ 15 _ (HJ.out.ext (HE7.out.trans hw')) HZ.out (FrameV.stays (Ext.stays (HX7.out.trans hw')) HFV2.out) HFX.out).mono ?_; rintro e w8 ⟨rfl, hx8⟩; rw [HW.out]; exact ⟨rfl, hw'.trans hx8⟩)
                             (try dsimp only [Act.put])
                             (try simp only [List.setIfInBounds_toArray, List.set_cons_succ, List.set_cons_zero])
                             go_big_quiet_on))
                        refine wpQuiet_nil ?_
                        intro wq hq
                        go_wp2_with (first
                          | (go_at_call 48; refine (must1 _ _ _ _ ).mono ?_; rintro e w9 ⟨he, hx9⟩; simp only [Bool.and_true, Bool.true_and, Bool.and_false, Bool.false_and, Bool.and_self, mustE] at he; subst he))
                        exact ⟨rfl, by rw [HR5.out]; rfl, HE7.out.trans (hq.trans (((Ext.refl _).alloc _).trans hx9))⟩
end Go.Proofs.Ytfajkebkhdcapaa
end
