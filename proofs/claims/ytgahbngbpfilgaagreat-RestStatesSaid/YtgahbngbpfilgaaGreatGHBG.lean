/- Merged texts: contracts and plain facts, one part behind another; each part begins with what it says. -/
import Derived.Test.YtgahbngbpfilgaaGreatGHAT
import Derived.Test.YtgahbngbpfilgaaGreatGHBF
import Derived.Recover
import Derived.Tactics2
section
set_option maxHeartbeats 4000000
set_option maxRecDepth 100000
namespace Go.Proofs.YtgahbngbpfilgaaGreat
open Go Go.RowKit
end Go.Proofs.YtgahbngbpfilgaaGreat
end
section
set_option maxHeartbeats 4000000
set_option maxRecDepth 100000
namespace Go.Proofs.YtgahbngbpfilgaaGreat
open Go Go.RowKit
end Go.Proofs.YtgahbngbpfilgaaGreat
end
section
set_option maxHeartbeats 4000000
set_option maxRecDepth 100000
set_option linter.unusedSimpArgs false
namespace Go.Proofs.YtgahbngbpfilgaaGreat
open Go Go.RowKit
structure RdBox (w0 w : World) (sb : Nat) (u0 u1 u2 : Value) (x : Int) : Prop where
 ext : Ext w0 w
 le : w0.heap.size ≤ sb
 c0 : Cx w sb 0 u0
 c1 : Cx w sb 1 u1
 c2 : Cx w sb 2 u2
 ce : Cx w (sb + 1) 0 (.int .i64 x)
theorem RdBox.step {w0 w w' : World} {sb G : Nat} {u0 u1 u2 : Value} {x : Int} (h : RdBox w0 w sb u0 u1 u2 x) (hc : Chg (· = G) w w') (hG : sb + 1 < G) : RdBox w0 w' sb u0 u1 u2 x :=
 ⟨Chg.ext_from h.ext hc (fun n e => by have e2 : n = G := e; have := h.le; omega), h.le, h.c0.chg hc (fun e => by have e2 : sb = G := e; omega), h.c1.chg hc (fun e => by have e2 : sb = G := e; omega), h.c2.chg hc (fun e => by have e2 : sb = G := e; omega), h.ce.chg hc (fun e => by have e2 : sb + 1 = G := e; omega)⟩
theorem RdBox.new (w : World) : RdBox w ((w.alloc (.cells #[.slice none 0 0, .int .i64 0, .slice none 0 0] 26)).alloc (.cells #[.int .i64 0] 27)) w.heap.size (.slice none 0 0) (.int .i64 0) (.slice none 0 0) 0 := by
 have hz : (w.alloc (.cells #[.slice none 0 0, .int .i64 0, .slice none 0 0] 26)).heap.size = w.heap.size + 1 := Array.size_push _
 have hx : Ext (w.alloc (.cells #[.slice none 0 0, .int .i64 0, .slice none 0 0] 26)) ((w.alloc (.cells #[.slice none 0 0, .int .i64 0, .slice none 0 0] 26)).alloc (.cells #[.int .i64 0] 27)) := (Ext.refl _).alloc _
 refine ⟨((Ext.refl w).alloc _).alloc _, Nat.le_refl _, (Cx.new w [.slice none 0 0, .int .i64 0, .slice none 0 0] _ (j := 0) rfl).ext hx, (Cx.new w [.slice none 0 0, .int .i64 0, .slice none 0 0] _ (j := 1) rfl).ext hx, (Cx.new w [.slice none 0 0, .int .i64 0, .slice none 0 0] _ (j := 2) rfl).ext hx, ?_⟩
 rw [← hz]
 exact Cx.new _ [.int .i64 0] _ (j := 0) rfl
end Go.Proofs.YtgahbngbpfilgaaGreat
end
section
set_option maxHeartbeats 1000000
namespace Go.Proofs.YtgahbngbpfilgaaGreat
open Go Go.RowKit
structure I64S (s : GState) : Prop where
 now : I64 s.now
 out : ∀ n ∈ s.out, I64 n
 frame : ∀ f ∈ s.fibers, ∀ x ∈ f.frames, (∀ n ∈ x.locals, I64 n) ∧ ∀ n ∈ x.stack, I64 n
theorem Sl.all {α : Type} {E : Nat → Nat → α → Prop} {sz bytes : Nat} {v : Value} {l : List α} (h : Sl E sz bytes v l) : ∀ x ∈ l, ∃ b o, E b o x := by
 intro x hx
 obtain ⟨i, hi, rfl⟩ := List.getElem_of_mem hx
 obtain ⟨b, o, _, _, _, _, he⟩ := h.get hi
 exact ⟨_, _, he⟩
end Go.Proofs.YtgahbngbpfilgaaGreat
end
