/- Merged texts: contracts and plain facts, one part behind another; each part begins with what it says. -/
import Derived.Test.YtgahbngbpfilgaaGreatGHAB
import Derived.Test.YtgahbngbpfilgaaGreatGHBC
import Derived.RowKit
section
set_option maxHeartbeats 1000000
set_option maxRecDepth 100000
namespace Go.Proofs.YtgahbngbpfilgaaGreat
open Go Go.RowKit
end Go.Proofs.YtgahbngbpfilgaaGreat
end
section
namespace Go.Proofs.YtgahbngbpfilgaaGreat
open Go Go.RowKit
def ETree.root : ETree → GNode
 | .leaf x => x
 | .two x _ _ => x
 | .three x _ _ _ => x
def ETree.parts : ETree → List ETree
 | .leaf _ => []
 | .two _ a b => [a, b]
 | .three _ a b c => [a, b, c]
theorem ETree.flat_parts (t : ETree) : t.flat = t.root :: flatAll t.parts := by cases t <;> simp [ETree.flat, ETree.root, ETree.parts, flatAll]
def nodesOk (vals : List Int) (l : List GNode) : Prop := ∀ x ∈ l, 0 ≤ x.kind ∧ x.kind ≤ 7 ∧ 0 ≤ x.n ∧ x.n ≤ mostN vals.length x.kind
theorem nodesOk.part {vals : List Int} {t : ETree} (h : nodesOk vals t.flat) : ∀ s ∈ t.parts, nodesOk vals s.flat := by
 intro s hs x hx
 refine h x ?_
 rw [t.flat_parts]
 refine List.mem_cons_of_mem _ ?_
 have : ∀ ts : List ETree, s ∈ ts → x ∈ flatAll ts := by
  intro ts
  induction ts with
  | nil => simp
  | cons t ts ih =>
   intro h
   simp only [flatAll, List.mem_append]
   rcases List.mem_cons.1 h with rfl | h
   ·exact .inl hx
   ·exact .inr (ih h)
 exact this _ hs
theorem nodesOk.root {vals : List Int} {t : ETree} (h : nodesOk vals t.flat) : 0 ≤ t.root.kind ∧ t.root.kind ≤ 7 ∧ 0 ≤ t.root.n ∧ t.root.n ≤ mostN vals.length t.root.kind :=
 h _ (by rw [t.flat_parts]; simp)
end Go.Proofs.YtgahbngbpfilgaaGreat
end
section
set_option maxHeartbeats 1000000
set_option maxRecDepth 100000
namespace Go.Proofs.YtgahbngbpfilgaaGreat
open Go Go.RowKit
theorem Nodes.tail {w : World} {S : Nat → Prop} {b o n cap : Nat} {x : GNode} {l : List GNode} (h : Nodes w S (.slice (some ⟨b, o, none⟩) n cap) (x :: l)) :
  Nodes w S (.slice (if cap = 1 then some ⟨b, o, none⟩ else some ⟨b, o + 2, none⟩) l.length (cap - 1)) l := by
 obtain ⟨a, cap', e, h1, h2, h3⟩ := h
 simp only [Value.slice.injEq] at e
 obtain ⟨rfl, rfl, rfl⟩ := e
 refine ⟨_, cap - 1, rfl, by simp at h1; omega, ⟨by have := h2.1; rw [List.length_cons] at this; omega, by have := h2.2; omega⟩, fun i hi => ?_⟩
 have hc : cap ≠ 1 := by simp at h1; omega
 obtain ⟨b', o', e, hE⟩ := h3 (i + 1) (by simp; omega)
 simp only [Option.some.injEq, Addr.mk.injEq] at e
 obtain ⟨rfl, rfl, _⟩ := e
 refine ⟨b, o + 2, by rw [if_neg hc], ?_⟩
 simpa [Nat.add_mul, Nat.add_assoc, Nat.add_comm 2] using hE
end Go.Proofs.YtgahbngbpfilgaaGreat
end
section
namespace Go.Proofs.YtgahbngbpfilgaaGreat
def ETree.cost : ETree → Nat
 | .leaf _ => 1
 | .two _ a b => a.cost + b.cost + 1
 | .three _ a b c => a.cost + b.cost + c.cost + 2
def thirdAt (k a b : Nat) : Nat := k + a + 1 + b + 1
def ETree.laid : ETree → Nat → List GOp
 | .leaf x, _ => [⟨if x.kind = 0 then 0 else 2, x.n⟩]
 | .two x a b, k => a.laid k ++ (b.laid (k + a.cost) ++ [⟨x.kind + 2, 0⟩])
 | .three _ a b c, k => a.laid k ++ (⟨10, (thirdAt k a.cost b.cost : Nat)⟩ :: (b.laid (k + a.cost + 1) ++ (⟨9, (thirdAt k a.cost b.cost + c.cost : Nat)⟩ :: c.laid (thirdAt k a.cost b.cost))))
def ETree.high : ETree → Int → List Int
 | .leaf _, h => [h]
 | .two _ a b, h => a.high h ++ (b.high (h + 1) ++ [h + 2])
 | .three _ a b c, h => a.high h ++ ((h + 1) :: (b.high h ++ ((h + 1) :: c.high h)))
def Sits {α : Type} (code : List α) (k : Nat) (l : List α) : Prop := ∃ pre post, code = pre ++ (l ++ post) ∧ pre.length = k
theorem Sits.cons {α : Type} {code : List α} {k : Nat} {x : α} {l : List α} (h : Sits code k (x :: l)) : (k < code.length ∧ ∀ d, code.getD k d = x) ∧ Sits code (k + 1) l := by
 obtain ⟨pre, post, e, hk⟩ := h
 subst e hk
 refine ⟨⟨by simp, fun d => by simp [List.getD]⟩, pre ++ [x], post, by simp, by simp⟩
theorem Sits.self {α : Type} (l : List α) : Sits l 0 l := ⟨[], [], by simp, rfl⟩
theorem Sits.front {α : Type} (a b : List α) : Sits (a ++ b) 0 a := ⟨[], b, rfl, rfl⟩
theorem Sits.le {α : Type} {code : List α} {k : Nat} {l : List α} (h : Sits code k l) : k + l.length ≤ code.length := by
 obtain ⟨pre, post, e, hk⟩ := h
 subst e hk
 simp
def ETree.func (t : ETree) (locals : Int) : GFunc := ⟨locals, locals, t.laid 0 ++ [⟨12, 0⟩]⟩
def ETree.nodes (t : ETree) (locals : Nat) : Prop := ∀ x ∈ t.flat, 0 ≤ x.kind ∧ x.kind ≤ 7 ∧ 0 ≤ x.n ∧ x.n ≤ mostN locals x.kind
theorem ETree.nodes.two {x : GNode} {a b : ETree} {n : Nat} (h : (ETree.two x a b).nodes n) : a.nodes n ∧ b.nodes n :=
 ⟨fun y hy => h y (by simp [ETree.flat, hy]), fun y hy => h y (by simp [ETree.flat, hy])⟩
theorem ETree.nodes.three {x : GNode} {a b c : ETree} {n : Nat} (h : (ETree.three x a b c).nodes n) : a.nodes n ∧ b.nodes n ∧ c.nodes n :=
 ⟨fun y hy => h y (by simp [ETree.flat, hy]), fun y hy => h y (by simp [ETree.flat, hy]), fun y hy => h y (by simp [ETree.flat, hy])⟩
end Go.Proofs.YtgahbngbpfilgaaGreat
end
