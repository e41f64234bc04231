/- Merged texts: contracts and plain facts, one part behind another; each part begins with what it says. -/
import Derived.Test.YtgahbngbpfilgaaGreatGHAC
import Derived.Test.YtgahbngbpfilgaaGreatGHAD
import Derived.Test.YtgahbngbpfilgaaGreatGHAE
import Derived.Test.YtgahbngbpfilgaaGreatGHAT
import Derived.Test.YtgahbngbpfilgaaGreatGHAU
import Derived.Test.YtgahbngbpfilgaaGreatGHAY
import Derived.Test.YtgahbngbpfilgaaGreatGHAZ
section
set_option maxHeartbeats 4000000
set_option maxRecDepth 100000
namespace Go.Proofs.YtgahbngbpfilgaaGreat
open Go Go.RowKit
set_option maxRecDepth 100000 in
def bys (l : List UInt8) : List Value := l.map fun b => .int .u8 (b.toNat : Int)
theorem NewRow.from {w0 W W' : World} {s B : Nat} {v v' : Value} {n m : Nat} {xs ys : List Value} (hE : Ext w0 W) (hB : w0.heap.size ≤ B) (hr : RowAt W B s v m ys) (hn : NewRow W W' B s v v' n xs) : RowAt W' B s v' n xs ∧ Ext w0 W' :=
 ⟨hn.1, Chg.ext_from hE hn.2.1 (fun q e => Nat.le_trans hB (hr.le q e))⟩
theorem Ints.spot {w : World} {S : Nat → Prop} {a : Option Addr} {l : List Int} {n c : Nat} (h : Ints w S (.slice a n c) l) {m : Nat} (hm : m < l.length) : ∃ b o, a = some ⟨b, o, none⟩ ∧ w.cell? ⟨b, o + m, none⟩ = some (.int .i64 (l.getD m 0)) := by
 obtain ⟨b, o, _, e1, _, _, _, x0, _⟩ := h.get hm
 simp only [Value.slice.injEq] at e1
 obtain ⟨rfl, -, rfl⟩ := e1
 rw [Nat.mul_one] at x0
 refine ⟨b, o, rfl, ?_⟩
 rw [x0]
 simp [List.getD, List.getElem?_eq_getElem hm]
end Go.Proofs.YtgahbngbpfilgaaGreat
end
section
namespace Go.Proofs.YtgahbngbpfilgaaGreat
set_option maxHeartbeats 1000000
structure EndF (p : List GFunc) (m : Int) (r : GState × Int × Int) : Prop where
 err : stateErr p r.1 = 0
 low : 0 ≤ r.2.1
 high : r.2.1 ≤ m
 bad : r.2.2 ≠ 0 → r.2.1 < m ∧ 0 ≤ r.1.now ∧ (doS p r.1).1 = r.2.2
 fine : r.2.2 = 0 → r.2.1 = m ∨ (r.1.now = -1 ∧ (doS p r.1).1 = 8)
open Go Go.RowKit
theorem Sl.front {α : Type} {E : Nat → Nat → α → Prop} {sz bytes n cap : Nat} {a : Option Addr} {l r : List α} (h : Sl E sz bytes (.slice a n cap) l) {k : Nat} (hk : k ≤ n) (hr : l.take k = r) : Sl E sz bytes (.slice a k cap) r := by
 obtain ⟨a', cap', e, h1, h2, h3⟩ := h
 simp only [Value.slice.injEq] at e
 obtain ⟨rfl, rfl, rfl⟩ := e
 subst hr
 refine ⟨a, cap, by rw [List.length_take, Nat.min_eq_left hk], by rw [List.length_take]; omega, ⟨Nat.le_trans (Nat.mul_le_mul_right _ (by rw [List.length_take]; omega)) h2.1, h2.2⟩, fun i hi => ?_⟩
 rw [List.length_take] at hi
 obtain ⟨b, o, e, hE⟩ := h3 i (by omega)
 exact ⟨b, o, e, by rw [List.getElem_take]; exact hE⟩
theorem Ints.front {w : World} {S : Nat → Prop} {n cap : Nat} {a : Option Addr} {l r : List Int} (h : Ints w S (.slice a n cap) l) {k : Nat} (hk : k ≤ n) (hr : l.take k = r) : Ints w S (.slice a k cap) r := Sl.front h hk hr
structure FarF (m n : Int) (r q : List Int × Int × Int) : Prop where
 low : 0 ≤ r.2.1 ∧ r.2.1 ≤ m
 high : q.2.1 ≤ m + n
 le : r.2.1 ≤ q.2.1
 len : r.1.length ≤ q.1.length
 pre : q.1.take r.1.length = r.1
 err : r.2.2 = 0 ∨ (r.2.2 ≠ 0 ∧ r.2.2 = q.2.2 ∧ r.2.1 = q.2.1)
structure SplitF (p : List GFunc) (m n : Int) (r q a : GState × Int × Int) : Prop where
 i0 : 0 ≤ r.2.1
 i1 : r.2.1 ≤ m
 j0 : 0 ≤ q.2.1
 j1 : q.2.1 ≤ n
 bad : r.2.2 ≠ 0 → a = r ∧ q.1 = r.1 ∧ q.2.1 = 0 ∧ ((n = 0 ∧ q.2.2 = 0) ∨ (0 < n ∧ q.2.2 = r.2.2))
 fine : r.2.2 = 0 → a = (q.1, r.2.1 + q.2.1, q.2.2) ∧ stateErr p q.1 = 0 ∧ (r.2.1 = m ∨ r.1.now = -1)
theorem Fibers.one {w : World} {S : Nat → Prop} {b o n cap : Nat} {l : List GFiber} (h : Fibers w S (.slice (some ⟨b, o, none⟩) n cap) l) {i : Nat} (hi : i < l.length) : StateV w S (.agg #[.slice (some ⟨b, o + i * 2, none⟩) 1 (cap - i), .int .i64 0, .slice none 0 0]) ⟨[l.getD i default], 0, []⟩ := by
 obtain ⟨a', cap', e, h1, h2, h3⟩ := h
 simp only [Value.slice.injEq] at e
 obtain ⟨rfl, rfl, rfl⟩ := e
 obtain ⟨b', o', e, hE⟩ := h3 i hi
 simp only [Option.some.injEq, Addr.mk.injEq, and_true] at e
 obtain ⟨rfl, rfl⟩ := e
 refine ⟨_, _, rfl, ⟨_, _, rfl, by simp only [List.length_singleton]; omega, ⟨by simp, by omega⟩, fun j hj => ⟨b, o + i * 2, rfl, ?_⟩⟩, I64.zero, Sl.nil _ _ _⟩
 have hj0 : j = 0 := by simpa using hj
 subst hj0
 rw [List.getElem_cons_zero, List.getD_eq_getElem?_getD, List.getElem?_eq_getElem hi]
 exact hE
theorem StateV.bd {w : World} {S : Nat → Prop} {a b : Option Addr} {n m c d : Nat} {k : Int} {s : GState} (h : StateV w S (.agg #[.slice a n c, .int .i64 k, .slice b m d]) s) :
  (n = s.fibers.length ∧ n ≤ c ∧ n * 32 ≤ 140737488355328 ∧ c ≤ 9223372036854775807) ∧ m = s.out.length ∧ m ≤ d ∧ m * 8 ≤ 140737488355328 ∧ d ≤ 9223372036854775807 := by
 obtain ⟨_, _, e, ⟨a1, c1, rfl, h1, h2, _⟩, _, ⟨a2, c2, rfl, h3, h4, _⟩⟩ := h
 simp only [Value.agg.injEq, Array.mk.injEq, List.cons.injEq, and_true, Value.slice.injEq] at e
 obtain ⟨⟨-, rfl, rfl⟩, -, -, rfl, rfl⟩ := e
 exact ⟨⟨rfl, h1, h2.1, h2.2⟩, rfl, h3, h4.1, h4.2⟩
end Go.Proofs.YtgahbngbpfilgaaGreat
end
section
namespace Go.Proofs.YtgahbngbpfilgaaGreat
set_option maxHeartbeats 1000000
open Go Go.RowKit
theorem few3 {w : World} {S : Nat → Prop} {v : Value} {f : List GFiber} {n : Int} {o : List Int} (h : StateV w S v ⟨f, n, o⟩) : ∃ a c b d, v = .agg #[.slice a f.length c, .int .i64 n, .slice b o.length d] := h.few
theorem Fibers.cells {w : World} {S : Nat → Prop} {a : Option Addr} {n c : Nat} {l : List GFiber} (h : Fibers w S (.slice a n c) l) {i : Nat} (hi : i < l.length) :
  ∃ g o, a = some ⟨g, o, none⟩ ∧ (∃ vf, w.cell? ⟨g, o + i * 2, none⟩ = some vf ∧ Frames w S vf (l.getD i default).frames) ∧ w.cell? ⟨g, o + i * 2 + 1, none⟩ = some (.int .i64 (l.getD i default).caller) := by
 obtain ⟨g, o, cap, e, _, _, h1, _, h2, _⟩ := h.get hi
 simp only [Value.slice.injEq] at e
 have e2 : l.getD i default = l[i] := by rw [List.getD_eq_getElem?_getD, List.getElem?_eq_getElem hi]; rfl
 rw [e2]
 exact ⟨g, o, e.1, h1, h2⟩
theorem Frames.last {w : World} {S : Nat → Prop} {v : Value} {gs : List GFrame} {y : GFrame} (h : Frames w S v (gs ++ [y])) {J N : Nat} (hJ : gs.length = J) (hN : J + 1 = N) :
  ∃ g o c, v = .slice (some ⟨g, o, none⟩) N c ∧ N ≤ c ∧ N * 64 ≤ 140737488355328 ∧ w.cell? ⟨g, o + J * 4, none⟩ = some (.int .i64 y.func) ∧ w.cell? ⟨g, o + J * 4 + 1, none⟩ = some (.int .i64 y.at_) ∧
   (∃ la lc, w.cell? ⟨g, o + J * 4 + 2, none⟩ = some (.slice la y.locals.length lc)) ∧ ∃ sa sc, w.cell? ⟨g, o + J * 4 + 3, none⟩ = some (.slice sa y.stack.length sc) ∧ Ints w S (.slice sa y.stack.length sc) y.stack := by
 subst hJ hN
 have hl : (gs ++ [y]).length = gs.length + 1 := by simp
 obtain ⟨g, o, c, rfl, h1, h2, ⟨_, f1, _⟩, ⟨_, f2, _⟩, ⟨vl, f3, ⟨la, lc, rfl, _⟩⟩, vs, f4, f5⟩ := h.get (i := gs.length) (by rw [hl]; omega)
 have e : (gs ++ [y])[gs.length]'(by rw [hl]; omega) = y := by simp
 rw [e] at f1 f2 f3 f5
 rw [hl] at h1 h2
 have f6 := f5
 obtain ⟨sa, sc, rfl, _⟩ := f5
 exact ⟨g, o, c, by rw [hl], h1, h2.1, f1, f2, ⟨la, lc, f3⟩, sa, sc, f4, f6⟩
theorem Ints.bd {w : World} {S : Nat → Prop} {a : Option Addr} {n c : Nat} {l : List Int} (h : Ints w S (.slice a n c) l) : n ≤ c ∧ n * 8 ≤ 140737488355328 := by
 obtain ⟨a', c', e, h1, h2, _⟩ := h
 simp only [Value.slice.injEq] at e
 obtain ⟨-, rfl, rfl⟩ := e
 exact ⟨h1, h2.1⟩
end Go.Proofs.YtgahbngbpfilgaaGreat
end
section
set_option maxHeartbeats 4000000
set_option maxRecDepth 100000
namespace Go.Proofs.YtgahbngbpfilgaaGreat
open Go Go.RowKit
structure Mini (s : GState) : Prop where
 fibers : s.fibers.length ≤ 5
 out : s.out.length ≤ 30
 frames : ∀ k, k < s.fibers.length → (s.fibers.getD k default).frames.length ≤ 6
 rows : ∀ k j, k < s.fibers.length → j < (s.fibers.getD k default).frames.length → ((s.fibers.getD k default).frames.getD j default).locals.length ≤ 8 ∧ ((s.fibers.getD k default).frames.getD j default).stack.length ≤ 8
end Go.Proofs.YtgahbngbpfilgaaGreat
end
