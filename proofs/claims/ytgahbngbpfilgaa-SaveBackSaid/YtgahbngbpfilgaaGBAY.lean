/- Merged texts: contracts and plain facts, one part behind another; each part begins with what it says. -/
import Derived.Test.YtgahbngbpfilgaaGBAI
import Derived.Test.YtgahbngbpfilgaaGBAJ
import Derived.Test.YtgahbngbpfilgaaGBAN
import Derived.Test.YtgahbngbpfilgaaGBAX
section
/- Contracts of step.Do and run.Run, All: what they answer, whatever they are handed. -/
set_option maxHeartbeats 4000000
set_option maxRecDepth 100000
namespace Go.Proofs.Ytgahbngbpfilgaa
open Go Go.RowKit

def doS (p : List GFunc) (s : GState) : Int × GState := if stateErr p s ≠ 0 then (stateErr p s, ⟨[], 0, []⟩) else stepG p s
end Go.Proofs.Ytgahbngbpfilgaa
end
section
/- Plain facts of what Do and Run answer, for the laws. -/
namespace Go.Proofs.Ytgahbngbpfilgaa
set_option maxHeartbeats 1000000

/-- Where running stops. -/
structure EndF (p : List GFunc) (m : Int) (r : GState × Int × Int) : Prop where
  err : stateErr p r.1 = 0
  low : 0 ≤ r.2.1
  high : r.2.1 ≤ m
  bad : r.2.2 ≠ 0 → r.2.1 < m ∧ 0 ≤ r.1.now ∧ (doS p r.1).1 = r.2.2
  fine : r.2.2 = 0 → r.2.1 = m ∨ (r.1.now = -1 ∧ (doS p r.1).1 = 8)
open Go Go.RowKit
theorem fibers_of {w : World} {S : Nat → Prop} {x y : Value} {k : Int} {s : GState} (h : StateV w S (.agg #[x, .int .i64 k, y]) s) : Fibers w S x s.fibers := by
  obtain ⟨x', y', e, h3, _, _⟩ := h
  simp only [Value.agg.injEq, Array.mk.injEq, List.cons.injEq, and_true] at e
  rw [e.1]
  exact h3
/-- With more fuel no less is done. -/
structure FarF (m n : Int) (r q : List Int × Int × Int) : Prop where
  low : 0 ≤ r.2.1 ∧ r.2.1 ≤ m
  high : q.2.1 ≤ m + n
  le : r.2.1 ≤ q.2.1
  len : r.1.length ≤ q.1.length
  pre : q.1.take r.1.length = r.1
  err : r.2.2 = 0 ∨ (r.2.2 ≠ 0 ∧ r.2.2 = q.2.2 ∧ r.2.1 = q.2.1)
/-- Running on in two goes: r the first, q the second, a at one go. -/
structure SplitF (p : List GFunc) (m n : Int) (r q a : GState × Int × Int) : Prop where
  i0 : 0 ≤ r.2.1
  i1 : r.2.1 ≤ m
  j0 : 0 ≤ q.2.1
  j1 : q.2.1 ≤ n
  bad : r.2.2 ≠ 0 → a = r ∧ q.1 = r.1 ∧ q.2.1 = 0 ∧ ((n = 0 ∧ q.2.2 = 0) ∨ (0 < n ∧ q.2.2 = r.2.2))
  fine : r.2.2 = 0 → a = (q.1, r.2.1 + q.2.1, q.2.2) ∧ stateErr p q.1 = 0 ∧ (r.2.1 = m ∨ r.1.now = -1)
/-- A slice's own fiber, as a slice of one. -/
theorem Fibers.one {w : World} {S : Nat → Prop} {b o n cap : Nat} {l : List GFiber} (h : Fibers w S (.slice (some ⟨b, o, none⟩) n cap) l) {i : Nat} (hi : i < l.length) : StateV w S (.agg #[.slice (some ⟨b, o + i * 2, none⟩) 1 (cap - i), .int .i64 0, .slice none 0 0]) ⟨[l.getD i default], 0, []⟩ := by
  obtain ⟨a', cap', e, h1, h2, h3⟩ := h
  simp only [Value.slice.injEq] at e
  obtain ⟨rfl, rfl, rfl⟩ := e
  obtain ⟨b', o', e, hE⟩ := h3 i hi
  simp only [Option.some.injEq, Addr.mk.injEq, and_true] at e
  obtain ⟨rfl, rfl⟩ := e
  refine ⟨_, _, rfl, ⟨_, _, rfl, by simp only [List.length_singleton]; omega, ⟨by simp, by omega⟩, fun j hj => ⟨b, o + i * 2, rfl, ?_⟩⟩, I64.zero, Sl.nil _ _ _⟩
  have hj0 : j = 0 := by simpa using hj
  subst hj0
  rw [List.getElem_cons_zero, List.getD_eq_getElem?_getD, List.getElem?_eq_getElem hi]
  exact hE
theorem StateV.bd {w : World} {S : Nat → Prop} {a b : Option Addr} {n m c d : Nat} {k : Int} {s : GState} (h : StateV w S (.agg #[.slice a n c, .int .i64 k, .slice b m d]) s) :
    (n = s.fibers.length ∧ n ≤ c ∧ n * 32 ≤ 140737488355328 ∧ c ≤ 9223372036854775807) ∧ m = s.out.length ∧ m ≤ d ∧ m * 8 ≤ 140737488355328 ∧ d ≤ 9223372036854775807 := by
  obtain ⟨_, _, e, ⟨a1, c1, rfl, h1, h2, _⟩, _, ⟨a2, c2, rfl, h3, h4, _⟩⟩ := h
  simp only [Value.agg.injEq, Array.mk.injEq, List.cons.injEq, and_true, Value.slice.injEq] at e
  obtain ⟨⟨-, rfl, rfl⟩, -, -, rfl, rfl⟩ := e
  exact ⟨⟨rfl, h1, h2.1, h2.2⟩, rfl, h3, h4.1, h4.2⟩
end Go.Proofs.Ytgahbngbpfilgaa
end
section
/- Plain facts and readings for StepBack. -/
namespace Go.Proofs.Ytgahbngbpfilgaa
set_option maxHeartbeats 1000000
open Go Go.RowKit

theorem few3 {w : World} {S : Nat → Prop} {v : Value} {f : List GFiber} {n : Int} {o : List Int} (h : StateV w S v ⟨f, n, o⟩) : ∃ a c b d, v = .agg #[.slice a f.length c, .int .i64 n, .slice b o.length d] := h.few
/-- A fiber of a row: its frames, its caller. -/
theorem Fibers.cells {w : World} {S : Nat → Prop} {a : Option Addr} {n c : Nat} {l : List GFiber} (h : Fibers w S (.slice a n c) l) {i : Nat} (hi : i < l.length) :
    ∃ g o, a = some ⟨g, o, none⟩ ∧ (∃ vf, w.cell? ⟨g, o + i * 2, none⟩ = some vf ∧ Frames w S vf (l.getD i default).frames) ∧ w.cell? ⟨g, o + i * 2 + 1, none⟩ = some (.int .i64 (l.getD i default).caller) := by
  obtain ⟨g, o, cap, e, _, _, h1, _, h2, _⟩ := h.get hi
  simp only [Value.slice.injEq] at e
  have e2 : l.getD i default = l[i] := by rw [List.getD_eq_getElem?_getD, List.getElem?_eq_getElem hi]; rfl
  rw [e2]
  exact ⟨g, o, e.1, h1, h2⟩
/-- The top frame of a row of frames. -/
theorem Frames.last {w : World} {S : Nat → Prop} {v : Value} {gs : List GFrame} {y : GFrame} (h : Frames w S v (gs ++ [y])) {J N : Nat} (hJ : gs.length = J) (hN : J + 1 = N) :
    ∃ g o c, v = .slice (some ⟨g, o, none⟩) N c ∧ N ≤ c ∧ N * 64 ≤ 140737488355328 ∧ w.cell? ⟨g, o + J * 4, none⟩ = some (.int .i64 y.func) ∧ w.cell? ⟨g, o + J * 4 + 1, none⟩ = some (.int .i64 y.at_) ∧
      (∃ la lc, w.cell? ⟨g, o + J * 4 + 2, none⟩ = some (.slice la y.locals.length lc)) ∧ ∃ sa sc, w.cell? ⟨g, o + J * 4 + 3, none⟩ = some (.slice sa y.stack.length sc) ∧ Ints w S (.slice sa y.stack.length sc) y.stack := by
  subst hJ hN
  have hl : (gs ++ [y]).length = gs.length + 1 := by simp
  obtain ⟨g, o, c, rfl, h1, h2, ⟨_, f1, _⟩, ⟨_, f2, _⟩, ⟨vl, f3, ⟨la, lc, rfl, _⟩⟩, vs, f4, f5⟩ := h.get (i := gs.length) (by rw [hl]; omega)
  have e : (gs ++ [y])[gs.length]'(by rw [hl]; omega) = y := by simp
  rw [e] at f1 f2 f3 f5
  rw [hl] at h1 h2
  have f6 := f5
  obtain ⟨sa, sc, rfl, _⟩ := f5
  exact ⟨g, o, c, by rw [hl], h1, h2.1, f1, f2, ⟨la, lc, f3⟩, sa, sc, f4, f6⟩

theorem Ints.bd {w : World} {S : Nat → Prop} {a : Option Addr} {n c : Nat} {l : List Int} (h : Ints w S (.slice a n c) l) : n ≤ c ∧ n * 8 ≤ 140737488355328 := by
  obtain ⟨a', c', e, h1, h2, _⟩ := h
  simp only [Value.slice.injEq] at e
  obtain ⟨-, rfl, rfl⟩ := e
  exact ⟨h1, h2.1⟩
end Go.Proofs.Ytgahbngbpfilgaa
end
section
/- Contract of the document's StateBytes, of a state with no more than a right one has. No condition but that. -/
set_option maxHeartbeats 4000000
set_option maxRecDepth 100000
namespace Go.Proofs.Ytgahbngbpfilgaa
open Go Go.RowKit

/-- No more of all than a right state has. -/
structure Mini (s : GState) : Prop where
  fibers : s.fibers.length ≤ 5
  out : s.out.length ≤ 30
  frames : ∀ k, k < s.fibers.length → (s.fibers.getD k default).frames.length ≤ 6
  rows : ∀ k j, k < s.fibers.length → j < (s.fibers.getD k default).frames.length → ((s.fibers.getD k default).frames.getD j default).locals.length ≤ 8 ∧ ((s.fibers.getD k default).frames.getD j default).stack.length ≤ 8

/-- So far. -/
def accO (s : GState) (k : Nat) : List UInt8 := by8 (s.now + 1) :: by8 s.fibers.length :: (s.fibers.take k).flatMap fiberL
def accI (A : List UInt8) (f : GFiber) (i : Nat) : List UInt8 := A ++ by8 (f.caller + 1) :: by8 f.frames.length :: (f.frames.take i).flatMap frameL
theorem accO_succ (s : GState) {k : Nat} (h : k < s.fibers.length) : accO s (k + 1) = accI (accO s k) (s.fibers.getD k default) (s.fibers.getD k default).frames.length := by
  unfold accO accI
  rw [List.take_add_one, List.flatMap_append, List.getElem?_eq_getElem h, List.take_length]
  simp [List.getD, List.getElem?_eq_getElem h, fiberL]
theorem accO_all (s : GState) : accO s s.fibers.length ++ manyL s.out = stateL s := by unfold accO stateL; rw [List.take_length]; rfl
theorem accI_succ (A : List UInt8) (f : GFiber) {i : Nat} (h : i < f.frames.length) : accI A f (i + 1) = accI A f i ++ [by8 (f.frames.getD i default).func, by8 (f.frames.getD i default).at_] ++ manyL (f.frames.getD i default).locals ++ manyL (f.frames.getD i default).stack := by
  unfold accI
  rw [List.take_add_one, List.flatMap_append, List.getElem?_eq_getElem h]
  simp [List.getD, List.getElem?_eq_getElem h, frameL]
theorem flat_le {α : Type} (g : α → List UInt8) (C : Nat) : ∀ (l : List α), (∀ x ∈ l, (g x).length ≤ C) → (l.flatMap g).length ≤ C * l.length
  | [], _ => by simp
  | x :: l, h => by
    have h1 := h x (by simp)
    have h2 := flat_le g C l (fun y hy => h y (by simp [hy]))
    rw [List.flatMap_cons, List.length_append, List.length_cons, Nat.mul_succ]
    omega
theorem frame_le {x : GFrame} (h : x.locals.length ≤ 8 ∧ x.stack.length ≤ 8) : (frameL x).length ≤ 132 := by
  unfold frameL
  rw [List.length_cons, List.length_cons, List.length_append, many_len, many_len]
  omega
theorem mem_getD {α : Type} [Inhabited α] {l : List α} {x : α} (h : x ∈ l) : ∃ i, i < l.length ∧ l.getD i default = x := by
  obtain ⟨i, hi, e⟩ := List.getElem_of_mem h
  exact ⟨i, hi, by simp [List.getD, List.getElem?_eq_getElem hi, e]⟩
theorem frames_le {s : GState} (h : Mini s) {k : Nat} (hk : k < s.fibers.length) (i : Nat) : (((s.fibers.getD k default).frames.take i).flatMap frameL).length ≤ 792 := by
  have h6 := h.frames k hk
  have h1 := flat_le frameL 132 ((s.fibers.getD k default).frames.take i) (fun x hx => by
    obtain ⟨j, hj, rfl⟩ := mem_getD (List.mem_of_mem_take hx)
    exact frame_le (h.rows k j hk hj))
  have h2 : ((s.fibers.getD k default).frames.take i).length ≤ (s.fibers.getD k default).frames.length := by rw [List.length_take]; omega
  omega
theorem accO_le {s : GState} (h : Mini s) (k : Nat) : (accO s k).length ≤ 4000 := by
  have h5 := h.fibers
  have h1 := flat_le fiberL 794 (s.fibers.take k) (fun f hf => by
    obtain ⟨j, hj, rfl⟩ := mem_getD (List.mem_of_mem_take hf)
    have := frames_le h hj (s.fibers.getD j default).frames.length
    rw [List.take_length] at this
    unfold fiberL
    rw [List.length_cons, List.length_cons]
    omega)
  have h2 : (s.fibers.take k).length ≤ s.fibers.length := by rw [List.length_take]; omega
  unfold accO
  rw [List.length_cons, List.length_cons]
  omega
theorem accI_le {s : GState} (h : Mini s) {k : Nat} (hk : k < s.fibers.length) (i : Nat) : (accI (accO s k) (s.fibers.getD k default) i).length ≤ 5000 := by
  have h1 := accO_le h k
  have h2 := frames_le h hk i
  unfold accI
  rw [List.length_append, List.length_cons, List.length_cons]
  omega
end Go.Proofs.Ytgahbngbpfilgaa
end
