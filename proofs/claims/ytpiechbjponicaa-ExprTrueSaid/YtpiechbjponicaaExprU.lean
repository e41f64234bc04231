/- Plain facts for ExprTrue: what errors and worths of expressions put together are. -/
import Derived.Test.YtpiechbjponicaaExprB
namespace Go.Proofs.Ytpiechbjponicaa
open Go Go.RowKit

theorem exprErr_tree {vals : List Int} {t : ETree} (ht : t.fits) (hL : vals.length ≤ 4) (hn : nodesOk vals t.flat) : exprErr t.flat vals.length = if 9 < t.flat.length then 2 else 0 := by
  unfold exprErr
  rw [if_neg (by omega)]
  by_cases h9 : 9 < t.flat.length
  · rw [if_pos h9, if_pos h9]
  · rw [if_neg h9, if_neg h9, if_neg (fun h => h (fun x hx => ⟨(hn x hx).1, (hn x hx).2.1⟩)), if_neg (fun h => h (fun x hx => ⟨(hn x hx).2.2.1, (hn x hx).2.2.2⟩)),
      if_neg (by rw [(openOk_one _).2 ⟨t, ht, rfl⟩]; decide)]

theorem valErr_tree {vals : List Int} {t : ETree} (ht : t.fits) (hL : vals.length ≤ 4) (hn : nodesOk vals t.flat) : valErr t.flat vals = if 9 < t.flat.length then 0 else valT vals t := by
  have h := exprErr_tree ht hL hn
  unfold valErr
  rw [h]
  by_cases h9 : 9 < t.flat.length
  · simp [h9]
  · simp [h9, valOf_flat vals t ht]

theorem nodesOk.append {vals : List Int} {l m : List GNode} (h : nodesOk vals l) (k : nodesOk vals m) : nodesOk vals (l ++ m) := fun x hx => by
  rcases List.mem_append.1 hx with h' | h'
  · exact h x h'
  · exact k x h'
theorem nodesOk.cons {vals : List Int} {x : GNode} {m : List GNode} (h : 0 ≤ x.kind ∧ x.kind ≤ 7 ∧ 0 ≤ x.n ∧ x.n ≤ mostN vals.length x.kind) (k : nodesOk vals m) : nodesOk vals (x :: m) := fun y hy => by
  rcases List.mem_cons.1 hy with rfl | h'
  · exact h
  · exact k y h'

/-- Two right ones, and what is made of them. -/
theorem put_two {vals : List Int} {a b : List GNode} (ha : exprErr a vals.length = 0) (hb : exprErr b vals.length = 0) (k : Int) (hk : 2 ≤ k ∧ k ≤ 6) :
    exprErr (⟨k, 0⟩ :: (a ++ b)) vals.length = (if 9 < 1 + a.length + b.length then 2 else 0) ∧ valErr (⟨k, 0⟩ :: (a ++ b)) vals = (if 9 < 1 + a.length + b.length then 0 else reckN k (valErr a vals) (valErr b vals)) := by
  obtain ⟨h4, h9, na, oa⟩ := exprErr_zero ha
  obtain ⟨_, k9, nb, ob⟩ := exprErr_zero hb
  obtain ⟨ta, fa, rfl⟩ := (openOk_one a).1 oa
  obtain ⟨tb, fb, rfl⟩ := (openOk_one b).1 ob
  have ht : (ETree.two ⟨k, 0⟩ ta tb).fits := ⟨by unfold sizeN; simp only; rw [if_neg (by omega), if_neg (by omega)], fa, fb⟩
  have hn : nodesOk vals (ETree.two ⟨k, 0⟩ ta tb).flat := nodesOk.cons ⟨by simp only; omega, by simp only; omega, by simp, by simp only [mostN]; rw [if_neg (by omega), if_neg (by omega)]; omega⟩ (na.append nb)
  have e1 := exprErr_tree ht h4 hn
  have e2 := valErr_tree ht h4 hn
  have hl : (ETree.two ⟨k, 0⟩ ta tb).flat.length = 1 + ta.flat.length + tb.flat.length := by simp [ETree.flat]; omega
  rw [hl] at e1 e2
  refine ⟨e1, e2.trans ?_⟩
  rw [valErr_flat fa ha, valErr_flat fb hb]
  rfl

theorem put_if {vals : List Int} {a b : List GNode} (ha : exprErr a vals.length = 0) (hb : exprErr b vals.length = 0) (n : Int) (hn : 0 ≤ n ∧ n ≤ 1) :
    exprErr (⟨7, 0⟩ :: ⟨0, n⟩ :: (a ++ b)) vals.length = (if 9 < 2 + a.length + b.length then 2 else 0) ∧ valErr (⟨7, 0⟩ :: ⟨0, n⟩ :: (a ++ b)) vals = (if 9 < 2 + a.length + b.length then 0 else if n = 0 then valErr b vals else valErr a vals) := by
  obtain ⟨h4, h9, na, oa⟩ := exprErr_zero ha
  obtain ⟨_, k9, nb, ob⟩ := exprErr_zero hb
  obtain ⟨ta, fa, rfl⟩ := (openOk_one a).1 oa
  obtain ⟨tb, fb, rfl⟩ := (openOk_one b).1 ob
  have ht : (ETree.three ⟨7, 0⟩ (.leaf ⟨0, n⟩) ta tb).fits := ⟨rfl, rfl, fa, fb⟩
  have hk : nodesOk vals (ETree.three ⟨7, 0⟩ (.leaf ⟨0, n⟩) ta tb).flat :=
    nodesOk.cons ⟨by simp, by simp, by simp, by simp [mostN]⟩ (nodesOk.cons ⟨by simp, by simp, hn.1, by simp only [mostN]; rw [if_pos trivial]; omega⟩ (na.append nb))
  have e1 := exprErr_tree ht h4 hk
  have e2 := valErr_tree ht h4 hk
  have hl : (ETree.three ⟨7, 0⟩ (.leaf ⟨0, n⟩) ta tb).flat.length = 2 + ta.flat.length + tb.flat.length := by simp [ETree.flat]; omega
  rw [hl] at e1 e2
  refine ⟨e1, e2.trans ?_⟩
  rw [valErr_flat fa ha, valErr_flat fb hb]
  simp [valT]
end Go.Proofs.Ytpiechbjponicaa
