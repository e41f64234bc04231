/- What an expression is worth: plain facts. No program in sight; no condition. -/
import Derived.Test.YtpiechbjponicaaExprP
import Derived.RowKit
namespace Go.Proofs.Ytpiechbjponicaa
open Go Go.RowKit

def ETree.root : ETree → GNode
  | .leaf x => x
  | .two x _ _ => x
  | .three x _ _ _ => x
def ETree.parts : ETree → List ETree
  | .leaf _ => []
  | .two _ a b => [a, b]
  | .three _ a b c => [a, b, c]

theorem ETree.flat_parts (t : ETree) : t.flat = t.root :: flatAll t.parts := by cases t <;> simp [ETree.flat, ETree.root, ETree.parts, flatAll]
theorem ETree.fits_parts (t : ETree) (h : t.fits) : t.parts.length = sizeN t.root.kind ∧ ∀ s ∈ t.parts, s.fits := by
  cases t <;> simp_all [ETree.fits, ETree.root, ETree.parts]

theorem flatAll_len (ts : List ETree) : ∀ s ∈ ts, s.flat.length ≤ (flatAll ts).length := by
  induction ts with
  | nil => simp
  | cons t ts ih =>
    intro s hs
    simp only [flatAll, List.length_append]
    rcases List.mem_cons.1 hs with rfl | h
    · omega
    · have := ih s h; omega

/-- Two parts reckoned. -/
def reckN (k a b : Int) : Int :=
  if k = 2 then wrap64 (a + b) else if k = 3 then wrap64 (a - b) else if k = 4 then wrap64 (a * b)
  else if k = 5 then (if a < b then 1 else 0) else if k = 6 then (if a = b then 1 else 0) else 0

def valT (vals : List Int) : ETree → Int
  | .leaf x => if x.kind = 0 then x.n else if x.kind = 1 then vals.getD x.n.toNat 0 else 0
  | .two x a b => reckN x.kind (valT vals a) (valT vals b)
  | .three _ a b c => if valT vals a = 0 then valT vals c else valT vals b

/-- All kinds and numbers are such as Check lets pass. -/
def nodesOk (vals : List Int) (l : List GNode) : Prop := ∀ x ∈ l, 0 ≤ x.kind ∧ x.kind ≤ 7 ∧ 0 ≤ x.n ∧ x.n ≤ mostN vals.length x.kind

theorem nodesOk.part {vals : List Int} {t : ETree} (h : nodesOk vals t.flat) : ∀ s ∈ t.parts, nodesOk vals s.flat := by
  intro s hs x hx
  refine h x ?_
  rw [t.flat_parts]
  refine List.mem_cons_of_mem _ ?_
  have : ∀ ts : List ETree, s ∈ ts → x ∈ flatAll ts := by
    intro ts
    induction ts with
    | nil => simp
    | cons t ts ih =>
      intro h
      simp only [flatAll, List.mem_append]
      rcases List.mem_cons.1 h with rfl | h
      · exact .inl hx
      · exact .inr (ih h)
  exact this _ hs

theorem nodesOk.root {vals : List Int} {t : ETree} (h : nodesOk vals t.flat) : 0 ≤ t.root.kind ∧ t.root.kind ≤ 7 ∧ 0 ≤ t.root.n ∧ t.root.n ≤ mostN vals.length t.root.kind :=
  h _ (by rw [t.flat_parts]; simp)

theorem exprErr_zero {vals : List Int} {e : List GNode} (h : exprErr e vals.length = 0) : vals.length ≤ 4 ∧ e.length ≤ 9 ∧ nodesOk vals e ∧ openOk 1 e = true := by
  unfold exprErr at h
  split at h
  · omega
  split at h
  · omega
  split at h
  · omega
  split at h
  · omega
  split at h
  · omega
  rename_i h1 h2 h3 h4 h5
  refine ⟨by omega, by omega, fun x hx => ?_, by simpa using h5⟩
  have a := (Decidable.not_not.1 h3) x hx
  have b := (Decidable.not_not.1 h4) x hx
  exact ⟨a.1, a.2, b.1, b.2⟩

/-- What a right expression is worth. -/
noncomputable def valOf (vals : List Int) (e : List GNode) : Int := by
  classical exact if h : ∃ t : ETree, t.fits ∧ e = t.flat then valT vals h.choose else 0

theorem valOf_flat (vals : List Int) (t : ETree) (ht : t.fits) : valOf vals t.flat = valT vals t := by
  unfold valOf
  have h : ∃ t' : ETree, t'.fits ∧ t.flat = t'.flat := ⟨t, ht, rfl⟩
  rw [dif_pos h]
  have h1 := h.choose_spec
  have := (ETree.flat_inj t h.choose [] [] ht h1.1 (by simpa using h1.2)).1
  rw [← this]
end Go.Proofs.Ytpiechbjponicaa
