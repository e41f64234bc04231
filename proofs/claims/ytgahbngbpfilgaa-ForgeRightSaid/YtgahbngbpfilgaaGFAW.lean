/- Merged texts: contracts and plain facts, one part behind another; each part begins with what it says. -/
import Derived.Test.YtgahbngbpfilgaaGFAH
import Derived.Test.YtgahbngbpfilgaaGFAI
import Derived.Test.YtgahbngbpfilgaaGFAR
import Derived.Test.YtgahbngbpfilgaaGFAT
import Derived.Test.YtgahbngbpfilgaaGFAV
section
/- Contract of SameStates. -/
set_option maxHeartbeats 4000000
set_option maxRecDepth 100000
namespace Go.Proofs.Ytgahbngbpfilgaa
open Go Go.RowKit

end Go.Proofs.Ytgahbngbpfilgaa
end
section
/- States that come of count(): what the base contracts share. -/
set_option maxHeartbeats 4000000
set_option maxRecDepth 100000
namespace Go.Proofs.Ytgahbngbpfilgaa
open Go Go.RowKit

def A1 : GState := ⟨[⟨[⟨0, 1, [0], [1]⟩], -1⟩, ⟨[⟨1, 0, [0], []⟩], -1⟩], 0, []⟩
/-- A state in its box, for reading. -/
structure BoxT (w : World) (b n m : Nat) (k : Int) (s : GState) : Prop where
  ex : ∃ a c d e, Cx w b 0 (.slice a n c) ∧ Cx w b 1 (.int .i64 k) ∧ Cx w b 2 (.slice d m e) ∧ StateV w (fun _ => True) (.agg #[.slice a n c, .int .i64 k, .slice d m e]) s
theorem BoxT.ext {w w' : World} {b n m : Nat} {k : Int} {s : GState} (h : BoxT w b n m k s) (he : Ext w w') : BoxT w' b n m k s := by
  obtain ⟨a, c, d, e, h1, h2, h3, h4⟩ := h.ex
  exact ⟨a, c, d, e, h1.ext he, h2.ext he, h3.ext he, StateV.stays (Ext.stays he) h4⟩
theorem BoxT.new {w : World} {a b : Option Addr} {n c m d : Nat} {k : Int} {s : GState} (h : StateV w (fun _ => True) (.agg #[.slice a n c, .int .i64 k, .slice b m d]) s) (t : TypeId) : BoxT (w.alloc (.cells #[.slice a n c, .int .i64 k, .slice b m d] t)) w.heap.size n m k s :=
  ⟨a, c, b, d, Cx.new w [.slice a n c, .int .i64 k, .slice b m d] _ (j := 0) rfl, Cx.new w [.slice a n c, .int .i64 k, .slice b m d] _ (j := 1) rfl, Cx.new w [.slice a n c, .int .i64 k, .slice b m d] _ (j := 2) rfl, StateV.stays (Ext.stays ((Ext.refl _).alloc _)) h⟩

end Go.Proofs.Ytgahbngbpfilgaa
end
section
/- Plain data: right states, and their line. No program in sight; no condition. -/
set_option maxHeartbeats 4000000
set_option maxRecDepth 100000
namespace Go.Proofs.Ytgahbngbpfilgaa
open Go Go.RowKit

/-- A right state. -/
structure RightS (p : List GFunc) (s : GState) (l : List Int) : Prop where
  prog : progErr p = 0
  few : s.fibers.length ≤ 5
  out : s.out.length ≤ 30
  frames : ∀ k, k < s.fibers.length → (s.fibers.getD k default).frames.length ≤ 6
  pos : 0 < s.fibers.length
  callers : Callers s
  line : lineS s = some l
  ends : lineEnd l = true
  done : ¬ (s.now = -1 ∧ 0 < (s.fibers.getD 0 default).frames.length)
  fib : ∀ k, k < s.fibers.length → fibK p s l k = true

theorem fibK_frames {p : List GFunc} {s : GState} {l : List Int} {k : Nat} (h : fibK p s l k = true) : ∀ hk : 0 < (s.fibers.getD k default).frames.length, 0 ≤ ((s.fibers.getD k default).frames[0]).func ∧ ((s.fibers.getD k default).frames[0]).func < p.length := by
  intro hk
  unfold fibK at h
  rw [Bool.and_eq_true] at h
  have h1 := h.1
  unfold fiberB at h1
  rw [if_neg (by omega), Bool.and_eq_true] at h1
  have h2 := allK_of h1.1 0 hk
  unfold onB at h2
  rw [Bool.and_eq_true] at h2
  have h3 := h2.1
  unfold frameB at h3
  simp only [Bool.and_eq_true, decide_eq_true_eq] at h3
  have e : ∀ (L : List GFrame) (h : 0 < L.length), L.getD 0 default = L[0] := fun L h => by simp [List.getD, List.getElem?_eq_getElem h]
  rw [e _ hk] at h3
  exact h3.1.1.1

structure LineF (s : GState) (l : List Int) : Prop where
  nodup : l.Nodup
  range : ∀ x ∈ l, 0 ≤ x ∧ x < s.fibers.length
  link : ∀ i, i + 1 < l.length → (s.fibers.getD (l.getD i 0).toNat default).caller = l.getD (i + 1) 0
  head : 0 ≤ s.now → 0 < l.length ∧ l.getD 0 0 = s.now
  none : s.now < 0 → l = []
end Go.Proofs.Ytgahbngbpfilgaa
end
section
/- Plain facts of heights, as FlowTrue and FlowSame ask them. -/
set_option maxHeartbeats 1000000
namespace Go.Proofs.Ytgahbngbpfilgaa
open Go Go.RowKit

/-- What holds of a right function's heights. -/
structure HFacts (p : List GFunc) (C : List GOp) (l : List Int) : Prop where
  len : l.length = C.length
  pos : 0 < C.length
  zero : l.getD 0 0 = 0
  low : ∀ k, k < C.length → l.getD k 0 < 0 → l.getD k 0 = -1
  hi : ∀ k, k < C.length → l.getD k 0 ≤ 8
  thru : ∀ k, (hk : k < C.length) → 0 ≤ l.getD k 0 → takesOf p C[k] ≤ l.getD k 0 ∧ nOf p C[k] (l.getD k 0) ≤ 8 ∧ (C[k].kind = 12 → l.getD k 0 = 1) ∧ ∀ i ∈ nx C[k] k, i < C.length ∧ l.getD i 0 = nOf p C[k] (l.getD k 0)
  from_ : ∀ k, k < C.length → 0 ≤ l.getD k 0 → k ≠ 0 → ∃ j, ∃ hj : j < C.length, 0 ≤ l.getD j 0 ∧ k ∈ nx C[j] j

theorem hfacts {p : List GFunc} {F : GFunc} (hR : RightF p F) {l : List Int} (h : hts p F.code = some l) : HFacts p F.code l := by
  have hF := hts_full hR.jumps h
  refine ⟨hF.len, hF.zero.1, hF.zero.2, fun k hk h0 => by have := hF.low k hk; omega, fun k hk => ?_, fun k hk h0 => ?_, fun k hk h0 hne => ?_⟩
  · by_cases h0 : 0 ≤ l.getD k 0
    · rcases (hF.come k hk h0).from with ⟨_, h2⟩ | ⟨j, hh, hc, hj, hin, he⟩
      · omega
      · obtain ⟨_, e, h0'⟩ := hF.come_eq hc
        have := (badB_low (hF.thru j hj (by omega)).1).2.1
        rw [he, ← e]
        exact this
    · omega
  · obtain ⟨t1, t2⟩ := hF.thru k hk h0
    rw [getD_eq hk] at t1 t2
    obtain ⟨a1, a2, a3⟩ := badB_low t1
    refine ⟨a1, a2, fun h12 => ?_, t2⟩
    have h3 := a3 h12
    have ht : takesOf p F.code[k] = 1 := by unfold takesOf; rw [if_neg (by omega), if_pos (by omega)]
    have hl : leavesOf F.code[k] = 0 := by unfold leavesOf; rw [if_pos (by omega)]
    unfold nOf at h3
    omega
  · rcases (hF.come k hk h0).from with ⟨h1, _⟩ | ⟨j, hh, hc, hj, hin, _⟩
    · exact absurd h1 hne
    · obtain ⟨_, e, h0'⟩ := hF.come_eq hc
      rw [getD_eq hj] at hin
      exact ⟨j, hj, by rw [e]; exact h0', hin⟩

/-! Heights hang on nothing but how many args those have that are called. -/

theorem goT {p q : List GFunc} (ht : ∀ x, takesOf p x = takesOf q x) (x : GOp) (h : Int) : nOf p x h = nOf q x h ∧ badB p x h = badB q x h := by
  have : nOf p x h = nOf q x h := by unfold nOf; rw [ht]
  exact ⟨this, by unfold badB; rw [ht, this]⟩
theorem wl_same {p q : List GFunc} (ht : ∀ x, takesOf p x = takesOf q x) (code : List GOp) : ∀ (f : Nat) (out : List Int) (work : List Nat), wl p code f out work = wl q code f out work
  | 0, _, _ => rfl
  | _ + 1, _, [] => rfl
  | f + 1, out, k :: work => by
    unfold wl
    rw [(goT ht _ _).2, (goT ht _ _).1]
    split
    · rfl
    · split
      · rfl
      · exact wl_same ht code f _ _
theorem hts_same {p q : List GFunc} (ht : ∀ x, takesOf p x = takesOf q x) (code : List GOp) : hts p code = hts q code := by
  unfold hts; rw [wl_same ht]

/-- The same but for other functions' ops. -/
structure Sim (p q : List GFunc) : Prop where
  len : q.length = p.length
  same : ∀ k, (hp : k < p.length) → (hq : k < q.length) → q[k].args = p[k].args ∧ q[k].locals = p[k].locals

theorem Sim.getD {p q : List GFunc} (h : Sim p q) (k : Nat) : (q.getD k default).args = (p.getD k default).args ∧ (q.getD k default).locals = (p.getD k default).locals := by
  by_cases hk : k < p.length
  · have hq : k < q.length := by rw [h.len]; exact hk
    simp only [List.getD, List.getElem?_eq_getElem hk, List.getElem?_eq_getElem hq, Option.getD_some]
    exact h.same k hk hq
  · have hq : ¬ k < q.length := by rw [h.len]; exact hk
    simp [List.getD, List.getElem?_eq_none (by omega : p.length ≤ k), List.getElem?_eq_none (by omega : q.length ≤ k)]
theorem Sim.takes {p q : List GFunc} (h : Sim p q) (x : GOp) : takesOf q x = takesOf p x := by unfold takesOf; rw [(h.getD _).1]
theorem Sim.sized {p q : List GFunc} (h : Sim p q) (k : Nat) : sizedB (q.getD k default) = sizedB (p.getD k default) := by unfold sizedB; rw [(h.getD _).1, (h.getD _).2]
theorem Sim.opsErr {p q : List GFunc} (h : Sim p q) {F G : GFunc} (hl : F.locals = G.locals) (hc : F.code = G.code) : ∀ l : List GOp, opsErr q F l = opsErr p G l
  | [] => rfl
  | x :: l => by
    have : opErr q F x = opErr p G x := by unfold opErr mostOf; rw [hl, hc, h.len, h.sized, (h.getD _).1]
    unfold Proofs.Ytgahbngbpfilgaa.opsErr
    rw [this, Sim.opsErr h hl hc l]
theorem Sim.funcErr {p q : List GFunc} (h : Sim p q) {f : Int} (hc : (q.getD f.toNat default).code = (p.getD f.toNat default).code) : funcErr q f = funcErr p f := by
  unfold Proofs.Ytgahbngbpfilgaa.funcErr
  rw [h.len, hc, h.sized, h.opsErr (h.getD f.toNat).2 hc]
theorem Sim.heights {p q : List GFunc} (h : Sim p q) {f : Int} (hc : (q.getD f.toNat default).code = (p.getD f.toNat default).code) : hErr q f = hErr p f ∧ hList q f = hList p f := by
  unfold hErr hList
  rw [h.funcErr hc, hc, hts_same (fun x => h.takes x)]
  exact ⟨rfl, rfl⟩

end Go.Proofs.Ytgahbngbpfilgaa
end
