/- Merged texts: contracts and plain facts, one part behind another; each part begins with what it says. -/
import Derived.Test.YtpcjkfppacnkgaaGreatDoorGKAD
import Derived.Test.YtpcjkfppacnkgaaGreatDoorGKAE
import Derived.Test.YtpcjkfppacnkgaaGreatDoorGKAF
import Derived.Test.YtpcjkfppacnkgaaGreatDoorGKAH
section
/- Contracts of SameBools, and rows of Bools of the call's own. -/
set_option maxHeartbeats 2000000
set_option maxRecDepth 100000
namespace Go.Proofs.YtpcjkfppacnkgaaGreatDoor
open Go Go.RowKit

def bools (l : List Bool) : List Value := l.map Value.bool
theorem bools_set (l : List Bool) (k : Nat) (n : Bool) : (bools l).set k (.bool n) = bools (l.set k n) := by simp [bools, List.map_set]
theorem bools_get (l : List Bool) (k : Nat) (h : k < l.length) : (bools l)[k]? = some (.bool (l.getD k false)) := by simp [bools, List.getD, h]

/-- A row of Bools at the head of block g. -/
def BRow (w : World) (base g : Nat) (l : List Bool) : Prop := RowAt w base 1 (.slice (some ⟨g, 0, none⟩) l.length l.length) l.length (bools l)
theorem BRow.at {w : World} {base g : Nat} {l : List Bool} (h : BRow w base g l) {k : Nat} (hk : k < l.length) : w.cell? ⟨g, k, none⟩ = some (.bool (l.getD k false)) ∧ w.frozen? ⟨g, k, none⟩ = false ∧ base ≤ g := by
  obtain ⟨g', o, e, hb, hc⟩ := h.cell (by omega)
  simp only [Option.some.injEq, Addr.mk.injEq] at e
  obtain ⟨rfl, rfl, -⟩ := e
  have := hc k (by omega)
  rw [Nat.zero_add, bools_get l k hk] at this
  exact ⟨this.1, this.2, hb⟩
theorem BRow.store {w : World} {base g : Nat} {l : List Bool} (h : BRow w base g l) {k : Nat} (hk : k < l.length) (n : Bool) : BRow (w.setCell ⟨g, k, none⟩ (.bool n)) base g (l.set k n) := by
  have := RowAt.store h (j := k) (by omega) (.bool n)
  rw [Nat.zero_add, bools_set] at this
  unfold BRow
  rw [List.length_set]
  exact this
theorem BRow.ext {w w' : World} {base g : Nat} {l : List Bool} (h : BRow w base g l) (he : Ext w w') : BRow w' base g l := RowAt.ext h he (by decide)
theorem BRow.bools {w : World} {base g : Nat} {l : List Bool} (h : BRow w base g l) (hb : l.length ≤ 1000000) (S : Nat → Prop) (hS : ∀ b, base ≤ b → S b) : Bools w S (.slice (some ⟨g, 0, none⟩) l.length l.length) l := by
  refine ⟨_, _, rfl, Nat.le_refl _, ⟨by omega, by omega⟩, fun i hi => ?_⟩
  obtain ⟨c, _, hbg⟩ := h.at hi
  refine ⟨g, 0, rfl, hS _ hbg, ?_⟩
  rw [Nat.zero_add, Nat.mul_one, c]
  simp [List.getD, List.getElem?_eq_getElem hi]
theorem BRow.made {w : World} {base : Nat} {e : TypeId} {g n : Nat} (h : w.ownsRow base e 1 (.slice (some ⟨g, 0, none⟩) n n) n (madeCells (Value.bool false).cells (n * 1)).toList) : BRow w base g (List.replicate n false) := by
  have := RowAt.of_own h
  unfold BRow
  rw [List.length_replicate]
  rw [show (Value.bool false).cells = #[.bool false] from rfl, toList_madeCells_one, Nat.mul_one] at this
  rwa [show Proofs.YtpcjkfppacnkgaaGreatDoor.bools (List.replicate n false) = List.replicate n (Value.bool false) by simp [Proofs.YtpcjkfppacnkgaaGreatDoor.bools]]
end Go.Proofs.YtpcjkfppacnkgaaGreatDoor
end
section
/- Contracts of prog.Calls, its visit, and the document's CallsError. -/
set_option maxHeartbeats 4000000
set_option maxRecDepth 100000
namespace Go.Proofs.YtpcjkfppacnkgaaGreatDoor
open Go Go.RowKit

theorem RightP.callee {p : List GFunc} (h : RightP p) {k : Nat} (hk : k < p.length) {i : Nat} (hi : i < p[k].code.length) (hc : p[k].code[i].kind = 11 ∨ p[k].code[i].kind = 13) : 0 ≤ p[k].code[i].a ∧ p[k].code[i].a < p.length := by
  have h1 := ok_op (f := (k : Int)) (h.func k hk) (by omega) (by omega) (k := i) (by simpa using hi)
  obtain ⟨_, _, a0, a1, _⟩ := ok_facts h1
  simp only [Int.toNat_natCast] at a0 a1
  refine ⟨a0, ?_⟩
  unfold mostOf at a1
  rw [if_neg (by omega), if_neg (by omega), if_neg (by omega), if_pos hc] at a1
  omega

end Go.Proofs.YtpcjkfppacnkgaaGreatDoor
end
section
/- Contract of the document's CallsOf. -/
set_option maxHeartbeats 4000000
set_option maxRecDepth 100000
namespace Go.Proofs.YtpcjkfppacnkgaaGreatDoor
open Go Go.RowKit

end Go.Proofs.YtpcjkfppacnkgaaGreatDoor
end
section
/- Contracts of prog.Calls and the document's CallsError. -/
set_option maxHeartbeats 4000000
set_option maxRecDepth 100000
namespace Go.Proofs.YtpcjkfppacnkgaaGreatDoor
open Go Go.RowKit

end Go.Proofs.YtpcjkfppacnkgaaGreatDoor
end
