/- Plain facts of heights, as FlowTrue and FlowSame ask them. -/
import Derived.Test.YtpiechbjponicaaFlowB
set_option maxHeartbeats 1000000
namespace Go.Proofs.Ytpiechbjponicaa
open Go Go.RowKit

theorem nextL_eq (x : GOp) (k : Nat) (h : 0 ≤ x.a) : nextL x k = nats (nx x k) := by
  unfold nextL nx nats
  by_cases h9 : x.kind = 9
  · simp [h9]; omega
  · by_cases h10 : x.kind = 10
    · simp [h10]; omega
    · by_cases h12 : x.kind = 12
      · simp [h12]
      · simp [h9, h10, h12]

theorem next_val (x : GOp) (k : Nat) (w : World) (hk1 : k ≤ 24) (h0 : 0 ≤ x.a) (hx : I64 x.a) :
    Calls Try.prog 28 #[.agg #[.int .i64 x.kind, .int .i64 x.a], .int .i64 k] w fun e w' => (∃ a cap, e = .returned (.slice a (nx x k).length cap) ∧ Ints w' (fun _ => True) (.slice a (nx x k).length cap) (nats (nx x k))) ∧ Ext w w' := by
  refine (next_law x k w (by omega) (by omega) hx).mono fun e w' ⟨⟨v, he, hi⟩, hb⟩ => ⟨?_, hb⟩
  rw [nextL_eq x k h0] at hi
  have hi2 := hi
  obtain ⟨a, cap, rfl, _, _, _⟩ := hi
  rw [nats_len] at he hi2
  exact ⟨a, cap, he, Ints.stays (Stays.widen (fun _ _ => trivial)) hi2⟩

theorem nx_len (x : GOp) (k : Nat) : (nx x k).length ≤ 2 := by unfold nx; (repeat' split) <;> simp

/-- What holds of a right function's heights. -/
structure HFacts (p : List GFunc) (C : List GOp) (l : List Int) : Prop where
  len : l.length = C.length
  pos : 0 < C.length
  zero : l.getD 0 0 = 0
  low : ∀ k, k < C.length → l.getD k 0 < 0 → l.getD k 0 = -1
  hi : ∀ k, k < C.length → l.getD k 0 ≤ 8
  thru : ∀ k, (hk : k < C.length) → 0 ≤ l.getD k 0 → takesOf p C[k] ≤ l.getD k 0 ∧ nOf p C[k] (l.getD k 0) ≤ 8 ∧ (C[k].kind = 12 → l.getD k 0 = 1) ∧ ∀ i ∈ nx C[k] k, i < C.length ∧ l.getD i 0 = nOf p C[k] (l.getD k 0)
  from_ : ∀ k, k < C.length → 0 ≤ l.getD k 0 → k ≠ 0 → ∃ j, ∃ hj : j < C.length, 0 ≤ l.getD j 0 ∧ k ∈ nx C[j] j

theorem hfacts {p : List GFunc} {F : GFunc} (hR : RightF p F) {l : List Int} (h : hts p F.code = some l) : HFacts p F.code l := by
  have hF := hts_full hR.jumps h
  refine ⟨hF.len, hF.zero.1, hF.zero.2, fun k hk h0 => by have := hF.low k hk; omega, fun k hk => ?_, fun k hk h0 => ?_, fun k hk h0 hne => ?_⟩
  · by_cases h0 : 0 ≤ l.getD k 0
    · rcases (hF.come k hk h0).from with ⟨_, h2⟩ | ⟨j, hh, hc, hj, hin, he⟩
      · omega
      · obtain ⟨_, e, h0'⟩ := hF.come_eq hc
        have := (badB_low (hF.thru j hj (by omega)).1).2.1
        rw [he, ← e]
        exact this
    · omega
  · obtain ⟨t1, t2⟩ := hF.thru k hk h0
    rw [getD_eq hk] at t1 t2
    obtain ⟨a1, a2, a3⟩ := badB_low t1
    refine ⟨a1, a2, fun h12 => ?_, t2⟩
    have h3 := a3 h12
    have ht : takesOf p F.code[k] = 1 := by unfold takesOf; rw [if_neg (by omega), if_pos (by omega)]
    have hl : leavesOf F.code[k] = 0 := by unfold leavesOf; rw [if_pos (by omega)]
    unfold nOf at h3
    omega
  · rcases (hF.come k hk h0).from with ⟨h1, _⟩ | ⟨j, hh, hc, hj, hin, _⟩
    · exact absurd h1 hne
    · obtain ⟨_, e, h0'⟩ := hF.come_eq hc
      rw [getD_eq hj] at hin
      exact ⟨j, hj, by rw [e]; exact h0', hin⟩

theorem eff_right {p : List GFunc} {F : GFunc} (hR : RightF p F) {x : GOp} (hx : x ∈ F.code) : effErr p x = 0 ∧ effTakes p x = takesOf p x ∧ effLeaves p x = leavesOf x := by
  obtain ⟨k0, k1, a0, _, ac, _⟩ := hR.op x hx
  have h : effErr p x = 0 := by unfold effErr; rw [if_neg (by omega), if_neg (fun h => h.2 ⟨a0, ac h.1⟩)]
  unfold effTakes effLeaves
  rw [if_pos h, if_pos h]
  exact ⟨h, rfl, rfl⟩

/-! Heights hang on nothing but how many args those have that are called. -/

theorem goT {p q : List GFunc} (ht : ∀ x, takesOf p x = takesOf q x) (x : GOp) (h : Int) : nOf p x h = nOf q x h ∧ badB p x h = badB q x h := by
  have : nOf p x h = nOf q x h := by unfold nOf; rw [ht]
  exact ⟨this, by unfold badB; rw [ht, this]⟩
theorem wl_same {p q : List GFunc} (ht : ∀ x, takesOf p x = takesOf q x) (code : List GOp) : ∀ (f : Nat) (out : List Int) (work : List Nat), wl p code f out work = wl q code f out work
  | 0, _, _ => rfl
  | _ + 1, _, [] => rfl
  | f + 1, out, k :: work => by
    unfold wl
    rw [(goT ht _ _).2, (goT ht _ _).1]
    split
    · rfl
    · split
      · rfl
      · exact wl_same ht code f _ _
theorem hts_same {p q : List GFunc} (ht : ∀ x, takesOf p x = takesOf q x) (code : List GOp) : hts p code = hts q code := by
  unfold hts; rw [wl_same ht]

/-- The same but for other functions' ops. -/
structure Sim (p q : List GFunc) : Prop where
  len : q.length = p.length
  same : ∀ k, (hp : k < p.length) → (hq : k < q.length) → q[k].args = p[k].args ∧ q[k].locals = p[k].locals

theorem Sim.getD {p q : List GFunc} (h : Sim p q) (k : Nat) : (q.getD k default).args = (p.getD k default).args ∧ (q.getD k default).locals = (p.getD k default).locals := by
  by_cases hk : k < p.length
  · have hq : k < q.length := by rw [h.len]; exact hk
    simp only [List.getD, List.getElem?_eq_getElem hk, List.getElem?_eq_getElem hq, Option.getD_some]
    exact h.same k hk hq
  · have hq : ¬ k < q.length := by rw [h.len]; exact hk
    simp [List.getD, List.getElem?_eq_none (by omega : p.length ≤ k), List.getElem?_eq_none (by omega : q.length ≤ k)]
theorem Sim.takes {p q : List GFunc} (h : Sim p q) (x : GOp) : takesOf q x = takesOf p x := by unfold takesOf; rw [(h.getD _).1]
theorem Sim.sized {p q : List GFunc} (h : Sim p q) (k : Nat) : sizedB (q.getD k default) = sizedB (p.getD k default) := by unfold sizedB; rw [(h.getD _).1, (h.getD _).2]
theorem Sim.opsErr {p q : List GFunc} (h : Sim p q) {F G : GFunc} (hl : F.locals = G.locals) (hc : F.code = G.code) : ∀ l : List GOp, opsErr q F l = opsErr p G l
  | [] => rfl
  | x :: l => by
    have : opErr q F x = opErr p G x := by unfold opErr mostOf; rw [hl, hc, h.len, h.sized, (h.getD _).1]
    unfold Proofs.Ytpiechbjponicaa.opsErr
    rw [this, Sim.opsErr h hl hc l]
theorem Sim.funcErr {p q : List GFunc} (h : Sim p q) {f : Int} (hc : (q.getD f.toNat default).code = (p.getD f.toNat default).code) : funcErr q f = funcErr p f := by
  unfold Proofs.Ytpiechbjponicaa.funcErr
  rw [h.len, hc, h.sized, h.opsErr (h.getD f.toNat).2 hc]
theorem Sim.heights {p q : List GFunc} (h : Sim p q) {f : Int} (hc : (q.getD f.toNat default).code = (p.getD f.toNat default).code) : hErr q f = hErr p f ∧ hList q f = hList p f := by
  unfold hErr hList
  rw [h.funcErr hc, hc, hts_same (fun x => h.takes x)]
  exact ⟨rfl, rfl⟩

theorem hErr_inv {p : List GFunc} {f : Int} (h : hErr p f = 0) : ∃ (n : Nat) (hn : n < p.length), f = n ∧ RightF p p[n] ∧ HFacts p p[n].code (hList p f) := by
  by_cases h0 : funcErr p f = 0
  · obtain ⟨n, hn, rfl, hg, hR⟩ := hts_here h0
    cases hh : hts p (p.getD (n : Int).toNat default).code with
    | none => rw [(hErr_none h0 hh).1] at h; cases h
    | some l =>
      refine ⟨n, hn, rfl, hR, ?_⟩
      rw [(hErr_some h0 hh).2]
      rw [hg] at hh
      exact hfacts hR hh
  · rw [(hErr_bad h0).1] at h; exact absurd h h0
end Go.Proofs.Ytpiechbjponicaa
