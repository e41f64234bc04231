/- Merged texts: contracts and plain facts, one part behind another; each part begins with what it says. -/
import Derived.Test.YtpcjkfppacnkgaaGreatDoorGKAB
import Derived.Test.YtpcjkfppacnkgaaGreatDoorGKAD
import Derived.Test.YtpcjkfppacnkgaaGreatDoorGKAF
import Derived.Deep.MidRow
import Derived.Laws.ResultCell
section
/- A cell of the call's own: its value, and that it may be written. No condition. -/
set_option maxHeartbeats 400000
namespace Go.Proofs.YtpcjkfppacnkgaaGreatDoor
open Go Go.RowKit

/-- A cell's value, and that it may be written. -/
def Cx (W : World) (b j : Nat) (v : Value) : Prop := W.cell? ⟨b, j, none⟩ = some v ∧ W.frozen? ⟨b, j, none⟩ = false
theorem Cx.lt {W : World} {b j : Nat} {v : Value} (h : Cx W b j v) : b < W.heap.size := lt_of_cell h.1
theorem Cx.new (W : World) (vs : List Value) (t : TypeId) {j : Nat} {v : Value} (hj : vs[j]? = some v) : Cx (W.alloc (.cells vs.toArray t)) W.heap.size j v := by
  refine ⟨?_, World.frozen?_alloc_new W vs.toArray t j⟩
  have := World.cell?_alloc_new W vs.toArray t j
  rw [this, List.getElem?_toArray, hj]
theorem Cx.ext {W W' : World} {b j : Nat} {v : Value} (h : Cx W b j v) (he : Ext W W') : Cx W' b j v :=
  ⟨Ext.cell he h.1, by rw [Ext.keepF he _ (by rw [h.1]; rfl)]; exact h.2⟩
theorem Cx.chg {M : Nat → Prop} {W W' : World} {b j : Nat} {v : Value} (h : Cx W b j v) (hc : Chg M W W') (hM : ¬ M b) : Cx W' b j v :=
  ⟨Chg.cell hc hM h.1, by rw [Chg.frozen hc hM h.lt]; exact h.2⟩
theorem Cx.set {W : World} {b j : Nat} {v : Value} (h : Cx W b j v) (u : Value) : Cx (W.setCell ⟨b, j, none⟩ u) b j u :=
  ⟨World.cell?_setCell_same' _ _ _ (by rw [h.1]; rfl), by rw [World.frozen?_setCell]; exact h.2⟩
theorem Cx.other {W : World} {b j b' j' : Nat} {v : Value} (h : Cx W b j v) (hne : b ≠ b' ∨ j ≠ j') (u : Value) : Cx (W.setCell ⟨b', j', none⟩ u) b j v :=
  ⟨by rw [World.cell?_setCell_other (a := ⟨b', j', none⟩) (b := ⟨b, j, none⟩) (h := by intro e; simp only [Addr.mk.injEq] at e; omega)]; exact h.1, by rw [World.frozen?_setCell]; exact h.2⟩

end Go.Proofs.YtpcjkfppacnkgaaGreatDoor
end
section
/- A made row of ints; a slice of one; a box of three cells. No condition. -/
set_option maxHeartbeats 400000
namespace Go.Proofs.YtpcjkfppacnkgaaGreatDoor
open Go Go.RowKit

theorem IRow.made {w : World} {base : Nat} {e : TypeId} {g n : Nat} (h : w.ownsRow base e 1 (.slice (some ⟨g, 0, none⟩) n n) n (madeCells (Value.int .i64 0).cells (n * 1)).toList) : IRow w base g (List.replicate n 0) := by
  have := RowAt.of_own h
  unfold IRow
  rw [List.length_replicate]
  rw [show (Value.int .i64 0).cells = #[.int .i64 0] from rfl, toList_madeCells_one, Nat.mul_one] at this
  rwa [show Proofs.YtpcjkfppacnkgaaGreatDoor.ints (List.replicate n 0) = List.replicate n (Value.int .i64 0) by simp [Proofs.YtpcjkfppacnkgaaGreatDoor.ints]]

theorem Sl.one {α : Type} {E : Nat → Nat → α → Prop} {sz bytes b o : Nat} {y : α} (h : E b o y) (hb : bytes ≤ 1000) : Sl E sz bytes (.slice (some ⟨b, o, none⟩) 1 1) [y] := by
  refine ⟨_, 1, rfl, Nat.le_refl _, ⟨by simp; omega, by decide⟩, fun i hi => ⟨b, o, rfl, ?_⟩⟩
  have : i = 0 := by simpa using hi
  subst this
  rw [Nat.zero_mul, Nat.add_zero]
  exact h
end Go.Proofs.YtpcjkfppacnkgaaGreatDoor
end
section
/- Contract of the document's trimmed. -/
set_option maxHeartbeats 4000000
set_option maxRecDepth 100000
namespace Go.Proofs.YtpcjkfppacnkgaaGreatDoor
open Go Go.RowKit

/-- The second loop's state. -/
structure TI (w2 w5 : World) (g b10 N : Nat) (A L : Int) (l : List Int) (acc : List GOp) (wx : World) : Prop where
  ext : Ext w2 wx
  tt : ∃ t, IRow wx g g t ∧ t.length = N ∧ ∀ i, i < N → t.getD i 0 = keepN l i
  c0 : Cx wx b10 0 (.int .i64 A)
  c1 : Cx wx b10 1 (.int .i64 L)
  c2 : ∃ v, Cx wx b10 2 v ∧ RowAt wx (b10 + 1) 2 v acc.length (acc.flatMap opF)
  size : w5.heap.size ≤ wx.heap.size

/-- One op in a new block. -/
theorem src_op (w : World) (y : GOp) (t : TypeId) : SrcSl (w.alloc (.cells #[.int .i64 y.kind, .int .i64 y.a] t)) 2 (.slice (some ⟨w.heap.size, 0, none⟩) 1 1) 1 (opF y) := by
  refine ⟨_, 1, rfl, rfl, by simp [opF, Value.oneCell'], .inr ⟨_, rfl, fun j u hj => ?_⟩⟩
  match j, hj with
  | 0, hj => cases hj; rw [Addr.add_zero']; exact World.cell?_alloc_new w _ _ 0
  | 1, hj => cases hj; exact World.cell?_alloc_new w _ _ 1

set_option maxRecDepth 100000 in
theorem infoO : (Tryz.prog.info? 51).map (fun i => (i.zero, i.size, i.bytes)) = some (some (.agg #[.int .i64 0, .int .i64 0]), 2, 16) := by kernel_rfl

/-- One op more behind the row. -/
theorem TI.grow {w2 w5 : World} {g b10 N : Nat} {A L : Int} {l : List Int} {acc : List GOp} {wx W7 W8 : World} {y : GOp} {v v1 : Value} (h : TI w2 w5 g b10 N A L l acc wx) (hb : w2.heap.size ≤ b10) (hg : g < b10)
    (he : Ext wx W7) (hc : Cx wx b10 2 v) (hr : RowAt wx (b10 + 1) 2 v acc.length (acc.flatMap opF)) (hn : NewRow W7 W8 (b10 + 1) 2 v v1 (acc.length + 1) (acc.flatMap opF ++ opF y)) :
    TI w2 w5 g b10 N A L l (acc ++ [y]) (W8.setCell ⟨b10, 2, none⟩ v1) ∧ Cx W8 b10 2 v := by
  obtain ⟨t, h1, h2, h3⟩ := h.tt
  have hM : ∀ q, rowBlock v = some q → b10 + 1 ≤ q := hr.le
  have hch := hn.2.1
  have k2 : Cx W8 b10 2 v := (hc.ext he).chg hch (fun e => by have := hM _ e; omega)
  refine ⟨⟨?_, ⟨t, ?_, h2, h3⟩, ?_, ?_, ⟨v1, k2.set v1, ?_⟩, ?_⟩, k2⟩
  · exact (Chg.ext_from (h.ext.trans he) hch (fun q e => by have := hM _ e; omega)).setCell (p := ⟨b10, 2, none⟩) hb _
  · exact ((h1.ext he).chg hch (fun e => by have := hM _ e; omega)).other (by omega) _
  · exact ((h.c0.ext he).chg hch (fun e => by have := hM _ e; omega)).other (.inr (by omega)) _
  · exact ((h.c1.ext he).chg hch (fun e => by have := hM _ e; omega)).other (.inr (by omega)) _
  · rw [List.length_append, List.length_singleton, List.flatMap_append, List.flatMap_singleton]
    exact hn.1.chg (chg_one W8 b10 2 v1) (fun q e hq => by have := hn.1.le _ e; omega) (by decide)
  · have e1 := h.size
    have e2 := he.size
    have e3 := hch.size
    have e4 : (W8.setCell ⟨b10, 2, none⟩ v1).heap.size = W8.heap.size := size_setCells b10 [v1] 2 W8
    omega

end Go.Proofs.YtpcjkfppacnkgaaGreatDoor
end
section
/- Contracts of slices.Index and slices.Contains at ints. -/
set_option maxHeartbeats 2000000
set_option maxRecDepth 100000
namespace Go.Proofs.YtpcjkfppacnkgaaGreatDoor
open Go Go.RowKit

end Go.Proofs.YtpcjkfppacnkgaaGreatDoor
end
