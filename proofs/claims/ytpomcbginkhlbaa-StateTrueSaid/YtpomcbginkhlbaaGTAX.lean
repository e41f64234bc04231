/- Merged texts: contracts and plain facts, one part behind another; each part begins with what it says. -/
import Derived.Test.YtpomcbginkhlbaaGTAW
section
/- Plain facts of heights, as FlowTrue and FlowSame ask them. -/
set_option maxHeartbeats 1000000
namespace Go.Proofs.Ytpomcbginkhlbaa
open Go Go.RowKit

theorem nx_len (x : GOp) (k : Nat) : (nx x k).length ≤ 2 := by unfold nx; (repeat' split) <;> simp

/-- What holds of a right function's heights. -/
structure HFacts (p : List GFunc) (C : List GOp) (l : List Int) : Prop where
  len : l.length = C.length
  pos : 0 < C.length
  zero : l.getD 0 0 = 0
  low : ∀ k, k < C.length → l.getD k 0 < 0 → l.getD k 0 = -1
  hi : ∀ k, k < C.length → l.getD k 0 ≤ 8
  thru : ∀ k, (hk : k < C.length) → 0 ≤ l.getD k 0 → takesOf p C[k] ≤ l.getD k 0 ∧ nOf p C[k] (l.getD k 0) ≤ 8 ∧ (C[k].kind = 12 → l.getD k 0 = 1) ∧ ∀ i ∈ nx C[k] k, i < C.length ∧ l.getD i 0 = nOf p C[k] (l.getD k 0)
  from_ : ∀ k, k < C.length → 0 ≤ l.getD k 0 → k ≠ 0 → ∃ j, ∃ hj : j < C.length, 0 ≤ l.getD j 0 ∧ k ∈ nx C[j] j

theorem hfacts {p : List GFunc} {F : GFunc} (hR : RightF p F) {l : List Int} (h : hts p F.code = some l) : HFacts p F.code l := by
  have hF := hts_full hR.jumps h
  refine ⟨hF.len, hF.zero.1, hF.zero.2, fun k hk h0 => by have := hF.low k hk; omega, fun k hk => ?_, fun k hk h0 => ?_, fun k hk h0 hne => ?_⟩
  · by_cases h0 : 0 ≤ l.getD k 0
    · rcases (hF.come k hk h0).from with ⟨_, h2⟩ | ⟨j, hh, hc, hj, hin, he⟩
      · omega
      · obtain ⟨_, e, h0'⟩ := hF.come_eq hc
        have := (badB_low (hF.thru j hj (by omega)).1).2.1
        rw [he, ← e]
        exact this
    · omega
  · obtain ⟨t1, t2⟩ := hF.thru k hk h0
    rw [getD_eq hk] at t1 t2
    obtain ⟨a1, a2, a3⟩ := badB_low t1
    refine ⟨a1, a2, fun h12 => ?_, t2⟩
    have h3 := a3 h12
    have ht : takesOf p F.code[k] = 1 := by unfold takesOf; rw [if_neg (by omega), if_pos (by omega)]
    have hl : leavesOf F.code[k] = 0 := by unfold leavesOf; rw [if_pos (by omega)]
    unfold nOf at h3
    omega
  · rcases (hF.come k hk h0).from with ⟨h1, _⟩ | ⟨j, hh, hc, hj, hin, _⟩
    · exact absurd h1 hne
    · obtain ⟨_, e, h0'⟩ := hF.come_eq hc
      rw [getD_eq hj] at hin
      exact ⟨j, hj, by rw [e]; exact h0', hin⟩

theorem eff_right {p : List GFunc} {F : GFunc} (hR : RightF p F) {x : GOp} (hx : x ∈ F.code) : effErr p x = 0 ∧ effTakes p x = takesOf p x ∧ effLeaves p x = leavesOf x := by
  obtain ⟨k0, k1, a0, _, ac, _⟩ := hR.op x hx
  have h : effErr p x = 0 := by unfold effErr; rw [if_neg (by omega), if_neg (fun h => h.2 ⟨a0, ac h.1⟩)]
  unfold effTakes effLeaves
  rw [if_pos h, if_pos h]
  exact ⟨h, rfl, rfl⟩

/-! Heights hang on nothing but how many args those have that are called. -/

theorem goT {p q : List GFunc} (ht : ∀ x, takesOf p x = takesOf q x) (x : GOp) (h : Int) : nOf p x h = nOf q x h ∧ badB p x h = badB q x h := by
  have : nOf p x h = nOf q x h := by unfold nOf; rw [ht]
  exact ⟨this, by unfold badB; rw [ht, this]⟩
theorem wl_same {p q : List GFunc} (ht : ∀ x, takesOf p x = takesOf q x) (code : List GOp) : ∀ (f : Nat) (out : List Int) (work : List Nat), wl p code f out work = wl q code f out work
  | 0, _, _ => rfl
  | _ + 1, _, [] => rfl
  | f + 1, out, k :: work => by
    unfold wl
    rw [(goT ht _ _).2, (goT ht _ _).1]
    split
    · rfl
    · split
      · rfl
      · exact wl_same ht code f _ _
theorem hts_same {p q : List GFunc} (ht : ∀ x, takesOf p x = takesOf q x) (code : List GOp) : hts p code = hts q code := by
  unfold hts; rw [wl_same ht]

/-- The same but for other functions' ops. -/
structure Sim (p q : List GFunc) : Prop where
  len : q.length = p.length
  same : ∀ k, (hp : k < p.length) → (hq : k < q.length) → q[k].args = p[k].args ∧ q[k].locals = p[k].locals

theorem Sim.getD {p q : List GFunc} (h : Sim p q) (k : Nat) : (q.getD k default).args = (p.getD k default).args ∧ (q.getD k default).locals = (p.getD k default).locals := by
  by_cases hk : k < p.length
  · have hq : k < q.length := by rw [h.len]; exact hk
    simp only [List.getD, List.getElem?_eq_getElem hk, List.getElem?_eq_getElem hq, Option.getD_some]
    exact h.same k hk hq
  · have hq : ¬ k < q.length := by rw [h.len]; exact hk
    simp [List.getD, List.getElem?_eq_none (by omega : p.length ≤ k), List.getElem?_eq_none (by omega : q.length ≤ k)]
theorem Sim.takes {p q : List GFunc} (h : Sim p q) (x : GOp) : takesOf q x = takesOf p x := by unfold takesOf; rw [(h.getD _).1]
theorem Sim.sized {p q : List GFunc} (h : Sim p q) (k : Nat) : sizedB (q.getD k default) = sizedB (p.getD k default) := by unfold sizedB; rw [(h.getD _).1, (h.getD _).2]
theorem Sim.opsErr {p q : List GFunc} (h : Sim p q) {F G : GFunc} (hl : F.locals = G.locals) (hc : F.code = G.code) : ∀ l : List GOp, opsErr q F l = opsErr p G l
  | [] => rfl
  | x :: l => by
    have : opErr q F x = opErr p G x := by unfold opErr mostOf; rw [hl, hc, h.len, h.sized, (h.getD _).1]
    unfold Proofs.Ytpomcbginkhlbaa.opsErr
    rw [this, Sim.opsErr h hl hc l]
theorem Sim.funcErr {p q : List GFunc} (h : Sim p q) {f : Int} (hc : (q.getD f.toNat default).code = (p.getD f.toNat default).code) : funcErr q f = funcErr p f := by
  unfold Proofs.Ytpomcbginkhlbaa.funcErr
  rw [h.len, hc, h.sized, h.opsErr (h.getD f.toNat).2 hc]
theorem Sim.heights {p q : List GFunc} (h : Sim p q) {f : Int} (hc : (q.getD f.toNat default).code = (p.getD f.toNat default).code) : hErr q f = hErr p f ∧ hList q f = hList p f := by
  unfold hErr hList
  rw [h.funcErr hc, hc, hts_same (fun x => h.takes x)]
  exact ⟨rfl, rfl⟩

theorem hErr_inv {p : List GFunc} {f : Int} (h : hErr p f = 0) : ∃ (n : Nat) (hn : n < p.length), f = n ∧ RightF p p[n] ∧ HFacts p p[n].code (hList p f) := by
  by_cases h0 : funcErr p f = 0
  · obtain ⟨n, hn, rfl, hg, hR⟩ := hts_here h0
    cases hh : hts p (p.getD (n : Int).toNat default).code with
    | none => rw [(hErr_none h0 hh).1] at h; cases h
    | some l =>
      refine ⟨n, hn, rfl, hR, ?_⟩
      rw [(hErr_some h0 hh).2]
      rw [hg] at hh
      exact hfacts hR hh
  · rw [(hErr_bad h0).1] at h; exact absurd h h0
end Go.Proofs.Ytpomcbginkhlbaa
end
section
/- Plain data: the frames of a right state. No program in sight; no condition. -/
set_option maxHeartbeats 1000000
namespace Go.Proofs.Ytpomcbginkhlbaa
open Go Go.RowKit

/-- What holds of each frame of a right state. -/
structure FrameF (p : List GFunc) (x : GFrame) : Prop where
  func : 0 ≤ x.func ∧ x.func < p.length
  locals : (x.locals.length : Int) = (funcOf p x.func).locals
  at_ : 0 ≤ x.at_ ∧ x.at_ < (funcOf p x.func).code.length
  stack : x.stack.length ≤ 8

theorem right_hf {p : List GFunc} (h : RightP p) {f : Int} (h0 : 0 ≤ f) (h1 : f < p.length) : RightF p (funcOf p f) ∧ HFacts p (funcOf p f).code (hgt p f) := by
  have hf : f.toNat < p.length := by omega
  have e : funcOf p f = p[f.toNat] := by unfold funcOf; simp [List.getD, List.getElem?_eq_getElem hf]
  have hr : RightF p (funcOf p f) := by
    rw [e]
    have e0 : ((f.toNat : Nat) : Int) = f := by omega
    have := h.func f.toNat hf
    rw [e0] at this
    exact (funcErr_zero this).2.2 hf
  refine ⟨hr, ?_⟩
  have hs := h.hts f.toNat hf
  unfold hgt
  have e2 : p.getD f.toNat default = funcOf p f := rfl
  rw [e2] at hs ⊢
  cases hh : hts p (funcOf p f).code with
  | none => rw [hh] at hs; cases hs
  | some l => exact hfacts hr hh

theorem frameB_facts {p : List GFunc} {x : GFrame} (h : frameB p x = true) : (0 ≤ x.func ∧ x.func < p.length) ∧ (x.locals.length : Int) = (funcOf p x.func).locals ∧ (0 ≤ x.at_ ∧ x.at_ < (funcOf p x.func).code.length) ∧ 0 ≤ (hgt p x.func).getD x.at_.toNat 0 := by
  unfold frameB at h
  simp only [Bool.and_eq_true, decide_eq_true_eq] at h
  exact ⟨h.1.1.1, h.1.1.2, h.1.2, h.2⟩
theorem waitB_stack {p : List GFunc} {x : GFrame} {k a : Int} (h : waitB p x k a = true) : (x.stack.length : Int) = (hgt p x.func).getD x.at_.toNat 0 - 1 := by
  unfold waitB at h
  simp only [Bool.and_eq_true, decide_eq_true_eq] at h
  exact h.1.2

theorem RightS.onF {p : List GFunc} {s : GState} {l : List Int} (h : RightS p s l) {k j : Nat} (hk : k < s.fibers.length) (hj : j < (s.fibers.getD k default).frames.length) :
    onB p (s.fibers.getD k default).frames j = true ∧ topB p (s.fibers.getD k default) (decide ((k : Int) ∈ l)) (decide ((k : Int) = s.now)) ((s.fibers.getD k default).frames.getD ((s.fibers.getD k default).frames.length - 1) default) = true := by
  have hb := h.fib k hk
  unfold fibK at hb
  rw [Bool.and_eq_true] at hb
  have hb := hb.1
  unfold fiberB at hb
  rw [if_neg (by omega), Bool.and_eq_true] at hb
  exact ⟨allK_of hb.1 j hj, hb.2⟩

theorem RightS.frameF {p : List GFunc} {s : GState} {l : List Int} (h : RightS p s l) {k j : Nat} (hk : k < s.fibers.length) (hj : j < (s.fibers.getD k default).frames.length) :
    FrameF p ((s.fibers.getD k default).frames.getD j default) := by
  obtain ⟨ho, ht⟩ := h.onF hk hj
  have hP := progErr_zero h.prog
  generalize s.fibers.getD k default = f at *
  unfold onB at ho
  rw [Bool.and_eq_true] at ho
  obtain ⟨ho1, ho2⟩ := ho
  obtain ⟨f1, f2, f3, f4⟩ := frameB_facts ho1
  refine ⟨f1, f2, f3, ?_⟩
  have hh := (right_hf hP f1.1 f1.2).2.hi (f.frames.getD j default).at_.toNat (by omega)
  by_cases hl : j + 1 < f.frames.length
  · rw [decide_eq_true hl] at ho2
    simp only [Bool.not_true, Bool.false_or, Bool.and_eq_true] at ho2
    have := waitB_stack ho2.2
    omega
  · obtain rfl : j = f.frames.length - 1 := by omega
    unfold topB at ht
    split at ht
    · unfold fullB at ht
      have := of_decide_eq_true ht
      omega
    · split at ht
      · have := waitB_stack ht; omega
      · rw [Bool.and_eq_true, Bool.or_eq_true] at ht
        rcases ht.2 with h2 | h2
        · unfold freshB at h2
          simp only [Bool.and_eq_true, decide_eq_true_eq] at h2
          have e1 : f.frames.length - 1 = 0 := by omega
          rw [e1]
          have := h2.1.2
          omega
        · have := waitB_stack h2; omega

/-- The fiber that runs: its topmost frame's op has no error and takes what lies there. -/
theorem RightS.nowF {p : List GFunc} {s : GState} {l : List Int} (h : RightS p s l) {k : Nat} (hn : s.now = k) :
    k < s.fibers.length ∧ 0 < (s.fibers.getD k default).frames.length ∧
    ∀ x, x = (s.fibers.getD k default).frames.getD ((s.fibers.getD k default).frames.length - 1) default →
      FrameF p x ∧ ∀ o, o = (funcOf p x.func).code.getD x.at_.toNat default → effErr p o = 0 ∧ effTakes p o ≤ x.stack.length := by
  have hL := h.lineF
  obtain ⟨hl, hd⟩ := hL.head (by omega)
  have hin : s.now ∈ l := by rw [← hd]; simp [List.getD, List.getElem?_eq_getElem hl]
  have hk : k < s.fibers.length := by have := hL.range _ hin; omega
  have hpos : 0 < (s.fibers.getD k default).frames.length := by
    have hb := h.fib k hk
    unfold fibK at hb
    rw [Bool.and_eq_true] at hb
    have hb := hb.1
    unfold fiberB at hb
    by_cases h0 : (s.fibers.getD k default).frames.length = 0
    · rw [if_pos h0, decide_eq_true (by rw [← hn]; exact hin)] at hb
      cases hb
    · omega
  refine ⟨hk, hpos, fun x hx => ?_⟩
  have hF := h.frameF hk (j := (s.fibers.getD k default).frames.length - 1) (by omega)
  obtain ⟨_, ht⟩ := h.onF hk (j := (s.fibers.getD k default).frames.length - 1) (by omega)
  rw [← hx] at hF ht
  refine ⟨hF, fun o ho => ?_⟩
  obtain ⟨hr, hh⟩ := right_hf (progErr_zero h.prog) hF.func.1 hF.func.2
  have ha : x.at_.toNat < (funcOf p x.func).code.length := by have := hF.at_; omega
  have e : o = (funcOf p x.func).code[x.at_.toNat] := by rw [ho]; simp [List.getD, List.getElem?_eq_getElem ha]
  obtain ⟨r1, r2, _⟩ := eff_right hr (x := o) (by rw [e]; exact List.getElem_mem ha)
  refine ⟨r1, ?_⟩
  have hf : fullB p x = true := by
    unfold topB at ht
    rw [if_pos (by rw [hn]; exact decide_eq_true rfl)] at ht
    exact ht
  unfold fullB at hf
  have hf := of_decide_eq_true hf
  have h0 : 0 ≤ (hgt p x.func).getD x.at_.toNat 0 := by omega
  have := (hh.thru _ ha h0).1
  rw [← e] at this
  rw [r2]
  omega
end Go.Proofs.Ytpomcbginkhlbaa
end
