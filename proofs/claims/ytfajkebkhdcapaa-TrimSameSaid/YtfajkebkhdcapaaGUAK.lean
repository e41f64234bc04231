/- Merged texts: contracts and plain facts, one part behind another; each part begins with what it says. -/
import Derived.Test.YtfajkebkhdcapaaGUAF
import Derived.Test.YtfajkebkhdcapaaGUAG
import Derived.Test.YtfajkebkhdcapaaGUAH
import Derived.Test.YtfajkebkhdcapaaGUAI
import Derived.Test.YtfajkebkhdcapaaGUAJ
section
/- Plain data: right states, and their line. No program in sight; no condition. -/
set_option maxHeartbeats 4000000
set_option maxRecDepth 100000
namespace Go.Proofs.Ytfajkebkhdcapaa
open Go Go.RowKit

/-- A right state. -/
structure RightS (p : List GFunc) (s : GState) (l : List Int) : Prop where
  prog : progErr p = 0
  few : s.fibers.length ≤ 5
  out : s.out.length ≤ 30
  frames : ∀ k, k < s.fibers.length → (s.fibers.getD k default).frames.length ≤ 6
  pos : 0 < s.fibers.length
  callers : Callers s
  line : lineS s = some l
  ends : lineEnd l = true
  done : ¬ (s.now = -1 ∧ 0 < (s.fibers.getD 0 default).frames.length)
  fib : ∀ k, k < s.fibers.length → fibK p s l k = true

theorem fibK_frames {p : List GFunc} {s : GState} {l : List Int} {k : Nat} (h : fibK p s l k = true) : ∀ hk : 0 < (s.fibers.getD k default).frames.length, 0 ≤ ((s.fibers.getD k default).frames[0]).func ∧ ((s.fibers.getD k default).frames[0]).func < p.length := by
  intro hk
  unfold fibK at h
  rw [Bool.and_eq_true] at h
  have h1 := h.1
  unfold fiberB at h1
  rw [if_neg (by omega), Bool.and_eq_true] at h1
  have h2 := allK_of h1.1 0 hk
  unfold onB at h2
  rw [Bool.and_eq_true] at h2
  have h3 := h2.1
  unfold frameB at h3
  simp only [Bool.and_eq_true, decide_eq_true_eq] at h3
  have e : ∀ (L : List GFrame) (h : 0 < L.length), L.getD 0 default = L[0] := fun L h => by simp [List.getD, List.getElem?_eq_getElem h]
  rw [e _ hk] at h3
  exact h3.1.1.1

structure LineF (s : GState) (l : List Int) : Prop where
  nodup : l.Nodup
  range : ∀ x ∈ l, 0 ≤ x ∧ x < s.fibers.length
  link : ∀ i, i + 1 < l.length → (s.fibers.getD (l.getD i 0).toNat default).caller = l.getD (i + 1) 0
  head : 0 ≤ s.now → 0 < l.length ∧ l.getD 0 0 = s.now
  none : s.now < 0 → l = []
end Go.Proofs.Ytfajkebkhdcapaa
end
section
/- Plain facts of heights, as FlowTrue and FlowSame ask them. -/
set_option maxHeartbeats 1000000
namespace Go.Proofs.Ytfajkebkhdcapaa
open Go Go.RowKit

/-- What holds of a right function's heights. -/
structure HFacts (p : List GFunc) (C : List GOp) (l : List Int) : Prop where
  len : l.length = C.length
  pos : 0 < C.length
  zero : l.getD 0 0 = 0
  low : ∀ k, k < C.length → l.getD k 0 < 0 → l.getD k 0 = -1
  hi : ∀ k, k < C.length → l.getD k 0 ≤ 8
  thru : ∀ k, (hk : k < C.length) → 0 ≤ l.getD k 0 → takesOf p C[k] ≤ l.getD k 0 ∧ nOf p C[k] (l.getD k 0) ≤ 8 ∧ (C[k].kind = 12 → l.getD k 0 = 1) ∧ ∀ i ∈ nx C[k] k, i < C.length ∧ l.getD i 0 = nOf p C[k] (l.getD k 0)
  from_ : ∀ k, k < C.length → 0 ≤ l.getD k 0 → k ≠ 0 → ∃ j, ∃ hj : j < C.length, 0 ≤ l.getD j 0 ∧ k ∈ nx C[j] j

theorem hfacts {p : List GFunc} {F : GFunc} (hR : RightF p F) {l : List Int} (h : hts p F.code = some l) : HFacts p F.code l := by
  have hF := hts_full hR.jumps h
  refine ⟨hF.len, hF.zero.1, hF.zero.2, fun k hk h0 => by have := hF.low k hk; omega, fun k hk => ?_, fun k hk h0 => ?_, fun k hk h0 hne => ?_⟩
  · by_cases h0 : 0 ≤ l.getD k 0
    · rcases (hF.come k hk h0).from with ⟨_, h2⟩ | ⟨j, hh, hc, hj, hin, he⟩
      · omega
      · obtain ⟨_, e, h0'⟩ := hF.come_eq hc
        have := (badB_low (hF.thru j hj (by omega)).1).2.1
        rw [he, ← e]
        exact this
    · omega
  · obtain ⟨t1, t2⟩ := hF.thru k hk h0
    rw [getD_eq hk] at t1 t2
    obtain ⟨a1, a2, a3⟩ := badB_low t1
    refine ⟨a1, a2, fun h12 => ?_, t2⟩
    have h3 := a3 h12
    have ht : takesOf p F.code[k] = 1 := by unfold takesOf; rw [if_neg (by omega), if_pos (by omega)]
    have hl : leavesOf F.code[k] = 0 := by unfold leavesOf; rw [if_pos (by omega)]
    unfold nOf at h3
    omega
  · rcases (hF.come k hk h0).from with ⟨h1, _⟩ | ⟨j, hh, hc, hj, hin, _⟩
    · exact absurd h1 hne
    · obtain ⟨_, e, h0'⟩ := hF.come_eq hc
      rw [getD_eq hj] at hin
      exact ⟨j, hj, by rw [e]; exact h0', hin⟩

/-! Heights hang on nothing but how many args those have that are called. -/

theorem goT {p q : List GFunc} (ht : ∀ x, takesOf p x = takesOf q x) (x : GOp) (h : Int) : nOf p x h = nOf q x h ∧ badB p x h = badB q x h := by
  have : nOf p x h = nOf q x h := by unfold nOf; rw [ht]
  exact ⟨this, by unfold badB; rw [ht, this]⟩
theorem wl_same {p q : List GFunc} (ht : ∀ x, takesOf p x = takesOf q x) (code : List GOp) : ∀ (f : Nat) (out : List Int) (work : List Nat), wl p code f out work = wl q code f out work
  | 0, _, _ => rfl
  | _ + 1, _, [] => rfl
  | f + 1, out, k :: work => by
    unfold wl
    rw [(goT ht _ _).2, (goT ht _ _).1]
    split
    · rfl
    · split
      · rfl
      · exact wl_same ht code f _ _
theorem hts_same {p q : List GFunc} (ht : ∀ x, takesOf p x = takesOf q x) (code : List GOp) : hts p code = hts q code := by
  unfold hts; rw [wl_same ht]

/-- The same but for other functions' ops. -/
structure Sim (p q : List GFunc) : Prop where
  len : q.length = p.length
  same : ∀ k, (hp : k < p.length) → (hq : k < q.length) → q[k].args = p[k].args ∧ q[k].locals = p[k].locals

theorem Sim.getD {p q : List GFunc} (h : Sim p q) (k : Nat) : (q.getD k default).args = (p.getD k default).args ∧ (q.getD k default).locals = (p.getD k default).locals := by
  by_cases hk : k < p.length
  · have hq : k < q.length := by rw [h.len]; exact hk
    simp only [List.getD, List.getElem?_eq_getElem hk, List.getElem?_eq_getElem hq, Option.getD_some]
    exact h.same k hk hq
  · have hq : ¬ k < q.length := by rw [h.len]; exact hk
    simp [List.getD, List.getElem?_eq_none (by omega : p.length ≤ k), List.getElem?_eq_none (by omega : q.length ≤ k)]
theorem Sim.takes {p q : List GFunc} (h : Sim p q) (x : GOp) : takesOf q x = takesOf p x := by unfold takesOf; rw [(h.getD _).1]
theorem Sim.sized {p q : List GFunc} (h : Sim p q) (k : Nat) : sizedB (q.getD k default) = sizedB (p.getD k default) := by unfold sizedB; rw [(h.getD _).1, (h.getD _).2]
theorem Sim.opsErr {p q : List GFunc} (h : Sim p q) {F G : GFunc} (hl : F.locals = G.locals) (hc : F.code = G.code) : ∀ l : List GOp, opsErr q F l = opsErr p G l
  | [] => rfl
  | x :: l => by
    have : opErr q F x = opErr p G x := by unfold opErr mostOf; rw [hl, hc, h.len, h.sized, (h.getD _).1]
    unfold Proofs.Ytfajkebkhdcapaa.opsErr
    rw [this, Sim.opsErr h hl hc l]
theorem Sim.funcErr {p q : List GFunc} (h : Sim p q) {f : Int} (hc : (q.getD f.toNat default).code = (p.getD f.toNat default).code) : funcErr q f = funcErr p f := by
  unfold Proofs.Ytfajkebkhdcapaa.funcErr
  rw [h.len, hc, h.sized, h.opsErr (h.getD f.toNat).2 hc]
theorem Sim.heights {p q : List GFunc} (h : Sim p q) {f : Int} (hc : (q.getD f.toNat default).code = (p.getD f.toNat default).code) : hErr q f = hErr p f ∧ hList q f = hList p f := by
  unfold hErr hList
  rw [h.funcErr hc, hc, hts_same (fun x => h.takes x)]
  exact ⟨rfl, rfl⟩

end Go.Proofs.Ytfajkebkhdcapaa
end
section
/- Plain data: the frames of a right state. No program in sight; no condition. -/
set_option maxHeartbeats 1000000
namespace Go.Proofs.Ytfajkebkhdcapaa
open Go Go.RowKit

/-- What holds of each frame of a right state. -/
structure FrameF (p : List GFunc) (x : GFrame) : Prop where
  func : 0 ≤ x.func ∧ x.func < p.length
  locals : (x.locals.length : Int) = (funcOf p x.func).locals
  at_ : 0 ≤ x.at_ ∧ x.at_ < (funcOf p x.func).code.length
  stack : x.stack.length ≤ 8

theorem right_hf {p : List GFunc} (h : RightP p) {f : Int} (h0 : 0 ≤ f) (h1 : f < p.length) : RightF p (funcOf p f) ∧ HFacts p (funcOf p f).code (hgt p f) := by
  have hf : f.toNat < p.length := by omega
  have e : funcOf p f = p[f.toNat] := by unfold funcOf; simp [List.getD, List.getElem?_eq_getElem hf]
  have hr : RightF p (funcOf p f) := by
    rw [e]
    have e0 : ((f.toNat : Nat) : Int) = f := by omega
    have := h.func f.toNat hf
    rw [e0] at this
    exact (funcErr_zero this).2.2 hf
  refine ⟨hr, ?_⟩
  have hs := h.hts f.toNat hf
  unfold hgt
  have e2 : p.getD f.toNat default = funcOf p f := rfl
  rw [e2] at hs ⊢
  cases hh : hts p (funcOf p f).code with
  | none => rw [hh] at hs; cases hs
  | some l => exact hfacts hr hh

theorem frameB_facts {p : List GFunc} {x : GFrame} (h : frameB p x = true) : (0 ≤ x.func ∧ x.func < p.length) ∧ (x.locals.length : Int) = (funcOf p x.func).locals ∧ (0 ≤ x.at_ ∧ x.at_ < (funcOf p x.func).code.length) ∧ 0 ≤ (hgt p x.func).getD x.at_.toNat 0 := by
  unfold frameB at h
  simp only [Bool.and_eq_true, decide_eq_true_eq] at h
  exact ⟨h.1.1.1, h.1.1.2, h.1.2, h.2⟩
theorem waitB_stack {p : List GFunc} {x : GFrame} {k a : Int} (h : waitB p x k a = true) : (x.stack.length : Int) = (hgt p x.func).getD x.at_.toNat 0 - 1 := by
  unfold waitB at h
  simp only [Bool.and_eq_true, decide_eq_true_eq] at h
  exact h.1.2

theorem RightS.onF {p : List GFunc} {s : GState} {l : List Int} (h : RightS p s l) {k j : Nat} (hk : k < s.fibers.length) (hj : j < (s.fibers.getD k default).frames.length) :
    onB p (s.fibers.getD k default).frames j = true ∧ topB p (s.fibers.getD k default) (decide ((k : Int) ∈ l)) (decide ((k : Int) = s.now)) ((s.fibers.getD k default).frames.getD ((s.fibers.getD k default).frames.length - 1) default) = true := by
  have hb := h.fib k hk
  unfold fibK at hb
  rw [Bool.and_eq_true] at hb
  have hb := hb.1
  unfold fiberB at hb
  rw [if_neg (by omega), Bool.and_eq_true] at hb
  exact ⟨allK_of hb.1 j hj, hb.2⟩

theorem RightS.frameF {p : List GFunc} {s : GState} {l : List Int} (h : RightS p s l) {k j : Nat} (hk : k < s.fibers.length) (hj : j < (s.fibers.getD k default).frames.length) :
    FrameF p ((s.fibers.getD k default).frames.getD j default) := by
  obtain ⟨ho, ht⟩ := h.onF hk hj
  have hP := progErr_zero h.prog
  generalize s.fibers.getD k default = f at *
  unfold onB at ho
  rw [Bool.and_eq_true] at ho
  obtain ⟨ho1, ho2⟩ := ho
  obtain ⟨f1, f2, f3, f4⟩ := frameB_facts ho1
  refine ⟨f1, f2, f3, ?_⟩
  have hh := (right_hf hP f1.1 f1.2).2.hi (f.frames.getD j default).at_.toNat (by omega)
  by_cases hl : j + 1 < f.frames.length
  · rw [decide_eq_true hl] at ho2
    simp only [Bool.not_true, Bool.false_or, Bool.and_eq_true] at ho2
    have := waitB_stack ho2.2
    omega
  · obtain rfl : j = f.frames.length - 1 := by omega
    unfold topB at ht
    split at ht
    · unfold fullB at ht
      have := of_decide_eq_true ht
      omega
    · split at ht
      · have := waitB_stack ht; omega
      · rw [Bool.and_eq_true, Bool.or_eq_true] at ht
        rcases ht.2 with h2 | h2
        · unfold freshB at h2
          simp only [Bool.and_eq_true, decide_eq_true_eq] at h2
          have e1 : f.frames.length - 1 = 0 := by omega
          rw [e1]
          have := h2.1.2
          omega
        · have := waitB_stack h2; omega

end Go.Proofs.Ytfajkebkhdcapaa
end
section
/- Contracts of the document's BeginOf, and of state's Frame, First, Begin. -/
set_option maxHeartbeats 4000000
set_option maxRecDepth 100000
namespace Go.Proofs.Ytfajkebkhdcapaa
open Go Go.RowKit

def freshFrame (p : List GFunc) (f : Int) : GFrame := ⟨f, 0, List.replicate (funcOf p f).locals.toNat 0, []⟩
def beginG (p : List GFunc) : GState := ⟨[⟨[freshFrame p 0], -1⟩], 0, []⟩

theorem I64.zero : I64 0 := I64.small (by decide) (by decide)
theorem I64.neg1 : I64 (-1) := I64.small (by decide) (by decide)
theorem FrameV.cells {w : World} {S : Nat → Prop} {x : GFrame} {sl st : Value} {b o : Nat} (h : FrameV w S (.agg #[.int .i64 x.func, .int .i64 x.at_, sl, st]) x) (hb : S b)
    (h0 : w.cell? ⟨b, o, none⟩ = some (.int .i64 x.func)) (h1 : w.cell? ⟨b, o + 1, none⟩ = some (.int .i64 x.at_)) (h2 : w.cell? ⟨b, o + 2, none⟩ = some sl) (h3 : w.cell? ⟨b, o + 3, none⟩ = some st) : FrameC w S b o x := by
  obtain ⟨s, t, e, i0, i1, hl, hs⟩ := h
  simp only [Value.agg.injEq] at e
  simp at e
  obtain ⟨rfl, rfl⟩ := e
  exact ⟨⟨hb, h0, i0⟩, ⟨hb, h1, i1⟩, ⟨_, h2, hl⟩, _, h3, hs⟩

/-- A first state in its new blocks, handed back in a box of the call. -/
theorem begin_state {w3 : World} {B base bx : Nat} {x : GFrame} {sl st : Value} (t1 t2 : TypeId) (h : FrameV w3 (base ≤ ·) (.agg #[.int .i64 x.func, .int .i64 x.at_, sl, st]) x) (hB : B ≤ bx) (hb : bx < base) (hb3 : bx < w3.heap.size) (u v z : Value) :
    StateV (((((w3.alloc (.cells #[.int .i64 x.func, .int .i64 x.at_, sl, st] t1)).alloc (.cells #[.slice (some ⟨w3.heap.size, 0, none⟩) 1 1, .int .i64 (-1)] t2)).setCell ⟨bx, 0, none⟩ u).setCell ⟨bx, 1, none⟩ v).setCell ⟨bx, 2, none⟩ z) (B ≤ ·)
      (.agg #[.slice (some ⟨w3.heap.size + 1, 0, none⟩) 1 1, .int .i64 0, .slice none 0 0]) ⟨[⟨[x], -1⟩], 0, []⟩ := by
  have hs4 : (w3.alloc (.cells #[.int .i64 x.func, .int .i64 x.at_, sl, st] t1)).heap.size = w3.heap.size + 1 := Array.size_push _
  have hE4 : Ext w3 (w3.alloc (.cells #[.int .i64 x.func, .int .i64 x.at_, sl, st] t1)) := (Ext.refl _).alloc _
  have f0 := Cx.new w3 [.int .i64 x.func, .int .i64 x.at_, sl, st] t1 (j := 0) rfl
  have f1 := Cx.new w3 [.int .i64 x.func, .int .i64 x.at_, sl, st] t1 (j := 1) rfl
  have f2 := Cx.new w3 [.int .i64 x.func, .int .i64 x.at_, sl, st] t1 (j := 2) rfl
  have f3 := Cx.new w3 [.int .i64 x.func, .int .i64 x.at_, sl, st] t1 (j := 3) rfl
  generalize w3.alloc (.cells [.int .i64 x.func, .int .i64 x.at_, sl, st].toArray t1) = w4 at *
  have hE5 : Ext w4 (w4.alloc (.cells #[.slice (some ⟨w3.heap.size, 0, none⟩) 1 1, .int .i64 (-1)] t2)) := (Ext.refl _).alloc _
  have g0 := Cx.new w4 [.slice (some ⟨w3.heap.size, 0, none⟩) 1 1, .int .i64 (-1)] t2 (j := 0) rfl
  have g1 := Cx.new w4 [.slice (some ⟨w3.heap.size, 0, none⟩) 1 1, .int .i64 (-1)] t2 (j := 1) rfl
  rw [hs4] at g0 g1
  generalize w4.alloc (.cells [.slice (some ⟨w3.heap.size, 0, none⟩) 1 1, .int .i64 (-1)].toArray t2) = w5 at *
  have hch := chg3 w5 bx u v z
  generalize ((w5.setCell ⟨bx, 0, none⟩ u).setCell ⟨bx, 1, none⟩ v).setCell ⟨bx, 2, none⟩ z = w6 at *
  have hfr : FrameV w6 (B ≤ ·) (.agg #[.int .i64 x.func, .int .i64 x.at_, sl, st]) x := FrameV.stays (S := (base ≤ ·)) (fun b o u' hb' hc => ⟨hch.cell (by show ¬ b = bx; have : base ≤ b := hb'; omega) (Ext.cell (hE4.trans hE5) hc), by show B ≤ b; have : base ≤ b := hb'; omega⟩) h
  have k : ∀ j u', Cx w4 w3.heap.size j u' → w6.cell? ⟨w3.heap.size, j, none⟩ = some u' := fun j u' h => ((h.ext hE5).chg hch (by omega)).1
  have k' : ∀ j u', Cx w5 (w3.heap.size + 1) j u' → w6.cell? ⟨w3.heap.size + 1, j, none⟩ = some u' := fun j u' h => (h.chg hch (by omega)).1
  refine ⟨_, _, rfl, Sl.one ⟨⟨_, k' _ _ g0, Sl.one (FrameV.cells hfr (by show B ≤ w3.heap.size; omega) (k _ _ f0) (k _ _ f1) (k _ _ f2) (k _ _ f3)) (by decide)⟩, by show B ≤ w3.heap.size + 1; omega, k' _ _ g1, I64.neg1⟩ (by decide), I64.zero, Sl.nil _ _ _⟩

theorem range4 {w : World} {b : Nat} {x y z u : Value} (h0 : w.cell? ⟨b, 0, none⟩ = some x) (h1 : w.cell? ⟨b, 1, none⟩ = some y) (h2 : w.cell? ⟨b, 2, none⟩ = some z) (h3 : w.cell? ⟨b, 3, none⟩ = some u) : w.rangeAt b 0 [x, y, z, u] := by
  intro j v hj
  rw [Nat.zero_add]
  match j, hj with
  | 0, hj => cases hj; exact h0
  | 1, hj => cases hj; exact h1
  | 2, hj => cases hj; exact h2
  | 3, hj => cases hj; exact h3
theorem box4 {W : World} {b : Nat} {u0 u1 u2 u3 : Value} (h0 : Cx W b 0 u0) (h1 : Cx W b 1 u1) (h2 : Cx W b 2 u2) (h3 : Cx W b 3 u3) (x y z u : Value) :
    ((((W.setCell ⟨b, 0, none⟩ x).setCell ⟨b, 1, none⟩ y).setCell ⟨b, 2, none⟩ z).setCell ⟨b, 3, none⟩ u).rangeAt b 0 [x, y, z, u] :=
  range4 ((((h0.set x).other (.inr (by decide)) y).other (.inr (by decide)) z).other (.inr (by decide)) u).1 ((((h1.other (.inr (by decide)) x).set y).other (.inr (by decide)) z).other (.inr (by decide)) u).1
    ((((h2.other (.inr (by decide)) x).other (.inr (by decide)) y).set z).other (.inr (by decide)) u).1 ((((h3.other (.inr (by decide)) x).other (.inr (by decide)) y).other (.inr (by decide)) z).set u).1
theorem chg4 (W : World) (b : Nat) (x y z u : Value) : Chg (· = b) W ((((W.setCell ⟨b, 0, none⟩ x).setCell ⟨b, 1, none⟩ y).setCell ⟨b, 2, none⟩ z).setCell ⟨b, 3, none⟩ u) := (chg3 W b x y z).trans (chg_one _ _ 3 _)
theorem ext4 {w W : World} (h : Ext w W) (x y z u : Value) : Ext w ((((W.setCell ⟨w.heap.size, 0, none⟩ x).setCell ⟨w.heap.size, 1, none⟩ y).setCell ⟨w.heap.size, 2, none⟩ z).setCell ⟨w.heap.size, 3, none⟩ u) :=
  (ext3 h x y z).setCell (p := ⟨w.heap.size, 3, none⟩) (Nat.le_refl _) _

theorem frame_any (p : List GFunc) (v : Value) (S : Nat → Prop) (n : Nat) (w : World) (hp : Funcs w S v p) (hn : n < p.length) (hR : RightF p p[n]) :
    Calls Try.prog 47 #[v, .int .i64 n] w fun e w' => (∃ x, e = .returned x ∧ FrameV w' (w.heap.size ≤ ·) x (freshFrame p n)) ∧ Ext w w' := by
  have hloc := hR.locals
  obtain ⟨b, o, cap, rfl, hcap, hby, _, ⟨_, hL, iL⟩, _⟩ := hp.get hn
  obtain ⟨N, hN⟩ : ∃ N : Nat, p[n].locals = N := ⟨p[n].locals.toNat, by omega⟩
  have HG : Hid (freshFrame p n = ⟨n, 0, List.replicate N 0, []⟩) := by
    unfold Hid freshFrame funcOf
    rw [show (n : Int).toNat = n by omega, show p.getD n default = p[n] by simp [List.getD, List.getElem?_eq_getElem hn], hN]
    rfl
  rw [hN] at hL hloc
  have hN4 : N ≤ 4 := by omega
  have hnI : I64 n := I64.nat (by omega)
  obtain ⟨i0, hi0, hz0, hz1, hz2⟩ := info_parts infoI
  have RA := alloc_keep
  have c0 := Lib.hid (Cx.new w [.int .i64 0, .int .i64 0, .slice none 0 0, .slice none 0 0] 45 (j := 0) rfl)
  have c1 := Lib.hid (Cx.new w [.int .i64 0, .int .i64 0, .slice none 0 0, .slice none 0 0] 45 (j := 1) rfl)
  have c2 := Lib.hid (Cx.new w [.int .i64 0, .int .i64 0, .slice none 0 0, .slice none 0 0] 45 (j := 2) rfl)
  have c3 := Lib.hid (Cx.new w [.int .i64 0, .int .i64 0, .slice none 0 0, .slice none 0 0] 45 (j := 3) rfl)
  clear hR hp hN
  go_enter Try.func47, Try.ntmps47
  go_wp2_with (first
    | (at_make; refine wpList_make_full _ rfl _ _ 27 rfl (w.heap.size + 1) 3 i0 (.int .i64 0) 1 Try.underlying27 hi0 hz0 hz1 .i64 .i64 _ _ N rfl rfl rfl rfl (by rw [hz2]; omega) (by unfold maxLen; omega) (by simp) ?_; intro w3 hown3 hgr3; have hE3 := ext_none hgr3; have hrow := IRow.made hown3; obtain ⟨⟨d0, d0'⟩, ⟨d1, d1'⟩, ⟨d2, d2'⟩, ⟨d3, d3'⟩⟩ := (⟨c0.out.ext hE3, c1.out.ext hE3, c2.out.ext hE3, c3.out.ext hE3⟩ : _ ∧ _ ∧ _ ∧ _)))
  have hs1 : (w.alloc (.cells #[.int .i64 0, .int .i64 0, .slice none 0 0, .slice none 0 0] 45)).heap.size = w.heap.size + 1 := Array.size_push _
  rw [hs1] at hrow
  refine bodyPost_ret (results_cell_mid rfl _ _ w.heap.size 0 _ _ rfl (box4 ⟨d0, d0'⟩ ⟨d1, d1'⟩ ⟨d2, d2'⟩ ⟨d3, d3'⟩ _ _ _ _) rfl rfl (by kernel_rfl)) rfl ?_
  refine ⟨⟨_, rfl, ?_⟩, ext4 (((Ext.refl w).alloc _).trans hE3) _ _ _ _⟩
  rw [HG.out]
  refine ⟨_, _, rfl, hnI, I64.zero, ?_, Sl.nil _ _ _⟩
  have := hrow.chg (chg4 w3 w.heap.size (.int .i64 n) (.int .i64 0) (.slice (some ⟨w.heap.size + 1, 0, none⟩) N N) (.slice none 0 0)) (by omega)
  have := this.ints (by rw [List.length_replicate]; omega) (fun x hx => by rw [List.eq_of_mem_replicate hx]; exact I64.zero) (w.heap.size ≤ ·) (fun b h => by show w.heap.size ≤ b; omega)
  rwa [List.length_replicate] at this

theorem first_any (p : List GFunc) (v : Value) (S : Nat → Prop) (w : World) (hp : Funcs w S v p) (hz : progErr p = 0) :
    Calls Try.prog 33 #[v] w fun e w' => (∃ x, e = .returned x ∧ StateV w' (w.heap.size ≤ ·) x (beginG p)) ∧ Ext w w' := by
  have HP := Lib.hid hp
  have hRP := progErr_zero hz
  have hpos := hRP.pos
  obtain ⟨_, _, hR'⟩ := funcErr_zero (hRP.func 0 hpos)
  have hR : RightF p p[0] := by have := hR' (by simpa using hpos); simpa using this
  have RA := alloc_keep
  have c0 := Lib.hid (Cx.new w [.slice none 0 0, .int .i64 0, .slice none 0 0] 35 (j := 0) rfl)
  have c1 := Lib.hid (Cx.new w [.slice none 0 0, .int .i64 0, .slice none 0 0] 35 (j := 1) rfl)
  have c2 := Lib.hid (Cx.new w [.slice none 0 0, .int .i64 0, .slice none 0 0] 35 (j := 2) rfl)
  have HS1 : Hid ((w.alloc (.cells #[.slice none 0 0, .int .i64 0, .slice none 0 0] 35)).heap.size = w.heap.size + 1) := Array.size_push _
  obtain ⟨a, cap, rfl, _, _, _⟩ := hp
  obtain ⟨F, hF⟩ : ∃ F, freshFrame p ((0 : Nat) : Int) = F := ⟨_, rfl⟩
  have HF := Lib.hid hF
  have HG : Hid (beginG p = ⟨[⟨[F], -1⟩], 0, []⟩) := by unfold Hid beginG; rw [← hF]; rfl
  rw [HG.out]
  clear hz hRP hF
  go_enter Try.func33, Try.ntmps33
  go_wp2_with (first
    | (go_at_call 47; refine (frame_any p _ S 0 _ (Funcs.stays (Ext.stays ((Ext.refl w).alloc _)) HP.out) hpos hR).mono ?_; rintro e w3 ⟨⟨x, rfl, hx⟩, hE3⟩; rw [HS1.out, HF.out] at hx; have HX := Lib.hid hx; obtain ⟨sl, st, rfl, _, _, hsl, hst⟩ := hx; obtain ⟨a1, n1, rfl, _, _, _⟩ := hsl; obtain ⟨a2, n2, rfl, _, _, _⟩ := hst; have HE4 := Lib.hid ((hE3.alloc (.cells #[.int .i64 F.func, .int .i64 F.at_, .slice a1 F.locals.length n1, .slice a2 F.stack.length n2] 45)).alloc (.cells #[.slice (some ⟨w3.heap.size, 0, none⟩) 1 1, .int .i64 (-1)] 43)); obtain ⟨⟨d0, d0'⟩, ⟨d1, d1'⟩, ⟨d2, d2'⟩⟩ := (⟨c0.out.ext HE4.out, c1.out.ext HE4.out, c2.out.ext HE4.out⟩ : _ ∧ _ ∧ _)))
  refine bodyPost_ret (results_cell_mid rfl _ _ w.heap.size 0 _ _ rfl (box3 ⟨d0, d0'⟩ ⟨d1, d1'⟩ ⟨d2, d2'⟩ _ _ _) rfl rfl (by kernel_rfl)) rfl ?_
  refine ⟨⟨_, rfl, ?_⟩, ext3 (((Ext.refl w).alloc _).trans (hE3.trans (((Ext.refl _).alloc _).alloc _))) _ _ _⟩
  have hsz := hE3.size
  rw [HS1.out] at hsz
  exact begin_state (x := F) 45 43 HX.out (Nat.le_refl _) (Nat.lt_succ_self _) (by omega) _ _ _

end Go.Proofs.Ytfajkebkhdcapaa
end
