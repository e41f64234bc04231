/- Merged texts: contracts and plain facts, one part behind another; each part begins with what it says. -/
import Derived.Test.YtpcjkfppacnkgaaGreatDoorGJAC
import Derived.Test.YtpcjkfppacnkgaaGreatDoorGJAE
import Derived.Test.YtpcjkfppacnkgaaGreatDoorGJAQ
section
/- Contract of the document's CallsOf. -/
set_option maxHeartbeats 4000000
set_option maxRecDepth 100000
namespace Go.Proofs.YtpcjkfppacnkgaaGreatDoor
open Go Go.RowKit

end Go.Proofs.YtpcjkfppacnkgaaGreatDoor
end
section
/- Contracts of prog.Calls and the document's CallsError. -/
set_option maxHeartbeats 4000000
set_option maxRecDepth 100000
namespace Go.Proofs.YtpcjkfppacnkgaaGreatDoor
open Go Go.RowKit

end Go.Proofs.YtpcjkfppacnkgaaGreatDoor
end
section
/- The example program of the laws, and its contract. -/
set_option maxHeartbeats 1000000
set_option maxRecDepth 100000
namespace Go.Proofs.YtpcjkfppacnkgaaGreatDoor
open Go Go.RowKit

def countCode0 : List GOp := [⟨13, 1⟩, ⟨3, 0⟩, ⟨2, 0⟩, ⟨0, 7⟩, ⟨14, 0⟩, ⟨16, 0⟩, ⟨2, 0⟩, ⟨0, 0⟩, ⟨14, 0⟩, ⟨16, 0⟩, ⟨2, 0⟩, ⟨0, 0⟩, ⟨14, 0⟩, ⟨12, 0⟩]
def countCode1 : List GOp := [⟨2, 0⟩, ⟨15, 0⟩, ⟨1, 0⟩, ⟨2, 0⟩, ⟨0, 1⟩, ⟨11, 2⟩, ⟨15, 0⟩, ⟨1, 0⟩, ⟨0, 99⟩, ⟨12, 0⟩, ⟨0, 5⟩, ⟨9, 9⟩]
def countCode2 : List GOp := [⟨2, 0⟩, ⟨2, 1⟩, ⟨4, 0⟩, ⟨12, 0⟩]
/-- The example program. -/
def countP : List GFunc := [⟨0, 1, countCode0⟩, ⟨1, 1, countCode1⟩, ⟨2, 2, countCode2⟩]

theorem o_any (k a : Int) (w : World) :
    Calls Tryz.prog 23 #[.int .i64 k, .int .i64 a] w fun e w' => e = .returned (.agg #[.int .i64 k, .int .i64 a]) ∧ Ext w w' := by
  go_enter Tryz.func23, Tryz.ntmps23
  go_wp2
  exact bodyPost_ret (v := .agg #[.int .i64 k, .int .i64 a]) (by simp [results, Tryz.results23, go_sem]) rfl ⟨rfl, (Ext.refl _).alloc _⟩

/-- What count hands back: four new blocks, each known whole. -/
def CountIs (w w' : World) (v : Value) : Prop := ∃ g c0 c1 c2 : Nat, v = .slice (some ⟨g, 0, none⟩) 3 3 ∧ w.heap.size ≤ c0 ∧ c0 < c1 ∧ c1 < c2 ∧ c2 < g ∧
  w'.heap[c0]? = some (.cells #[.int .i64 13, .int .i64 1, .int .i64 3, .int .i64 0, .int .i64 2, .int .i64 0, .int .i64 0, .int .i64 7, .int .i64 14, .int .i64 0, .int .i64 16, .int .i64 0, .int .i64 2, .int .i64 0, .int .i64 0, .int .i64 0, .int .i64 14, .int .i64 0, .int .i64 16, .int .i64 0, .int .i64 2, .int .i64 0, .int .i64 0, .int .i64 0, .int .i64 14, .int .i64 0, .int .i64 12, .int .i64 0] 51 (0, 0)) ∧
  w'.heap[c1]? = some (.cells #[.int .i64 2, .int .i64 0, .int .i64 15, .int .i64 0, .int .i64 1, .int .i64 0, .int .i64 2, .int .i64 0, .int .i64 0, .int .i64 1, .int .i64 11, .int .i64 2, .int .i64 15, .int .i64 0, .int .i64 1, .int .i64 0, .int .i64 0, .int .i64 99, .int .i64 12, .int .i64 0, .int .i64 0, .int .i64 5, .int .i64 9, .int .i64 9] 51 (0, 0)) ∧
  w'.heap[c2]? = some (.cells #[.int .i64 2, .int .i64 0, .int .i64 2, .int .i64 1, .int .i64 4, .int .i64 0, .int .i64 12, .int .i64 0] 51 (0, 0)) ∧
  w'.heap[g]? = some (.cells #[.int .i64 0, .int .i64 1, .slice (some ⟨c0, 0, none⟩) 14 14, .int .i64 1, .int .i64 1, .slice (some ⟨c1, 0, none⟩) 12 12, .int .i64 2, .int .i64 2, .slice (some ⟨c2, 0, none⟩) 4 4] 49 (0, 0))

theorem count_any (w : World) :
    Calls Tryz.prog 35 #[] w fun e w' => (∃ v, e = .returned v ∧ CountIs w w' v) ∧ Ext w w' := by
  go_enter Tryz.func35, Tryz.ntmps35
  go_wp2_with (first
    | (go_at_call 23; refine (o_any _ _ _).mono ?_; rintro e w1 ⟨rfl, hb⟩))
  go_ret
  refine ⟨⟨_, rfl, ?_⟩, ?_⟩
  · refine ⟨_, _, _, _, rfl, ?_, ?_, ?_, ?_, ?_, ?_, heap_alloc2_old _ _ _, heap_alloc2_new _ _ _⟩
    · (repeat (first | exact Nat.le_refl _ | refine Nat.le_trans ?_ (Ext.size (by assumption)) | refine Nat.le_trans ?_ (Ext.size ((Ext.refl _).alloc _))))
    · show _ + 1 ≤ _
      (repeat (first | (simp; done) | refine Nat.le_trans ?_ (Ext.size (by assumption)) | refine Nat.le_trans ?_ (Ext.size ((Ext.refl _).alloc _))))
    · show _ + 1 ≤ _
      (repeat (first | (simp; done) | refine Nat.le_trans ?_ (Ext.size (by assumption)) | refine Nat.le_trans ?_ (Ext.size ((Ext.refl _).alloc _))))
    · omega
    · refine Ext.heap (((Ext.refl _).alloc _).alloc _) ?_
      (repeat (first | exact heap_alloc_new _ _ | refine Ext.heap (by assumption) ?_ | refine Ext.heap ((Ext.refl _).alloc _) ?_))
    · refine Ext.heap (((Ext.refl _).alloc _).alloc _) ?_
      (repeat (first | exact heap_alloc_new _ _ | refine Ext.heap (by assumption) ?_ | refine Ext.heap ((Ext.refl _).alloc _) ?_))
  · ((repeat (first | assumption | exact Ext.refl _ | (exact And.left (by assumption)) | refine Ext.alloc ?_ _ | refine Ext.drew ?_ | refine Ext.drewN ?_ _ | refine Ext.setCell ?_ (by simp) _ | refine Ext.setCell ?_ (by simp; omega) _ | refine Ext.trans ?_ (by assumption))); done)

/-- A slice of ops out of a block that is known whole. -/
def opCells : List GOp → List Value
  | [] => []
  | x :: l => .int .i64 x.kind :: .int .i64 x.a :: opCells l

theorem opCells_at : ∀ (l : List GOp) (i : Nat) (h : i < l.length), (opCells l)[i * 2]? = some (.int .i64 l[i].kind) ∧ (opCells l)[i * 2 + 1]? = some (.int .i64 l[i].a)
  | [], i, h => absurd h (by simp)
  | x :: l, 0, _ => ⟨rfl, rfl⟩
  | x :: l, i + 1, h => by
    have := opCells_at l i (by simpa using h)
    rw [show (i + 1) * 2 = i * 2 + 2 by omega]
    exact this

theorem ops_of_block {w : World} {S : Nat → Prop} {c : Nat} {cs : Array Value} {t : TypeId} {fr : Nat × Nat} (l : List GOp) (hc : w.heap[c]? = some (.cells cs t fr)) (hl : cs.toList = opCells l)
    (hS : S c) (hI : ∀ x ∈ l, I64 x.kind ∧ I64 x.a) (hlen : l.length * 16 ≤ 140737488355328) : Ops w S (.slice (some ⟨c, 0, none⟩) l.length l.length) l := by
  refine ⟨_, _, rfl, Nat.le_refl _, ⟨hlen, by omega⟩, fun i hi => ⟨c, 0, rfl, ?_⟩⟩
  obtain ⟨h0, h1⟩ := opCells_at l i hi
  have hx := hI _ (List.getElem_mem hi)
  refine ⟨⟨hS, ?_, hx.1⟩, hS, ?_, hx.2⟩
  · rw [cell_of_row w c _ cs t fr hc, ← Array.getElem?_toList, hl, Nat.zero_add]; exact h0
  · rw [cell_of_row w c _ cs t fr hc, ← Array.getElem?_toList, hl, Nat.zero_add]; exact h1

theorem ops_small (l : List GOp) (h : ∀ x ∈ l, (-1000 ≤ x.kind ∧ x.kind ≤ 1000) ∧ -1000 ≤ x.a ∧ x.a ≤ 1000) : ∀ x ∈ l, I64 x.kind ∧ I64 x.a := fun x hx =>
  ⟨I64.small (by have := (h x hx).1.1; omega) (by have := (h x hx).1.2; omega), I64.small (by have := (h x hx).2.1; omega) (by have := (h x hx).2.2; omega)⟩

theorem CountIs.funcs {w w' : World} {v : Value} (h : CountIs w w' v) : Funcs w' (fun _ => True) v countP := by
  obtain ⟨g, c0, c1, c2, rfl, _, _, _, _, h0, h1, h2, hg⟩ := h
  have f0 := ops_of_block (S := fun _ => True) countCode0 h0 rfl trivial (ops_small _ (by decide)) (by decide)
  have f1 := ops_of_block (S := fun _ => True) countCode1 h1 rfl trivial (ops_small _ (by decide)) (by decide)
  have f2 := ops_of_block (S := fun _ => True) countCode2 h2 rfl trivial (ops_small _ (by decide)) (by decide)
  have cell := fun j => cell_of_row w' g j _ _ _ hg
  refine ⟨_, _, rfl, Nat.le_refl _, by decide, fun i hi => ⟨g, 0, rfl, ?_⟩⟩
  match i, hi with
  | 0, _ => exact ⟨⟨trivial, cell _, I64.small (by simp [countP]) (by simp [countP])⟩, ⟨trivial, cell _, I64.small (by simp [countP]) (by simp [countP])⟩, _, cell _, f0⟩
  | 1, _ => exact ⟨⟨trivial, cell _, I64.small (by simp [countP]) (by simp [countP])⟩, ⟨trivial, cell _, I64.small (by simp [countP]) (by simp [countP])⟩, _, cell _, f1⟩
  | 2, _ => exact ⟨⟨trivial, cell _, I64.small (by simp [countP]) (by simp [countP])⟩, ⟨trivial, cell _, I64.small (by simp [countP]) (by simp [countP])⟩, _, cell _, f2⟩

end Go.Proofs.YtpcjkfppacnkgaaGreatDoor
end
section
/- Contract of op.Effect. -/
set_option maxHeartbeats 400000
set_option maxRecDepth 100000
namespace Go.Proofs.YtpcjkfppacnkgaaGreatDoor
open Go Go.RowKit

end Go.Proofs.YtpcjkfppacnkgaaGreatDoor
end
