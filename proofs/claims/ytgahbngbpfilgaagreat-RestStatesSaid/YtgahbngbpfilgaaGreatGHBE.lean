/- Merged texts: contracts and plain facts, one part behind another; each part begins with what it says. -/
import Derived.Test.YtgahbngbpfilgaaGreatGHAI
import Derived.Test.YtgahbngbpfilgaaGreatGHAP
import Derived.Test.YtgahbngbpfilgaaGreatGHAU
import Derived.Test.YtgahbngbpfilgaaGreatGHBB
import Derived.Test.YtgahbngbpfilgaaGreatGHBD
section
set_option maxHeartbeats 4000000
set_option maxRecDepth 100000
namespace Go.Proofs.YtgahbngbpfilgaaGreat
open Go Go.RowKit
structure Smi (w : World) (S : Nat → Prop) (R : Nat) (e : List GNode) (c : List GOp) (v vc : Value) : Prop where
 c0 : Cx w R 0 v
 c1 : Cx w R 1 vc
 nodes : Nodes w S v e
 row : RowAt w (R + 1) 2 vc c.length (c.flatMap opF)
def MS (R : Nat) (vc : Value) : Nat → Prop := fun b => b = R ∨ rowBlock vc = some b
def Grows (w : World) (vc vc' : Value) : Prop := ∀ g, rowBlock vc' = some g → rowBlock vc = some g ∨ w.heap.size ≤ g
theorem Grows.refl (w : World) (vc : Value) : Grows w vc vc := fun _ h => .inl h
theorem Grows.trans {w w1 : World} {vc vc1 vc2 : Value} {M : Nat → Prop} (h1 : Grows w vc vc1) (hc : Chg M w w1) (h2 : Grows w1 vc1 vc2) : Grows w vc vc2 := fun g hg => by
 have := hc.size
 rcases h2 g hg with h | h
 ·exact h1 g h
 ·exact .inr (by omega)
theorem MS.trans {w w1 w2 : World} {R : Nat} {vc vc1 : Value} (h1 : Chg (MS R vc) w w1) (hg : Grows w vc vc1) (h2 : Chg (MS R vc1) w1 w2) : Chg (MS R vc) w w2 :=
 h1.trans' h2 (fun n hn h => by
  rcases h with h | h
  ·exact .inl h
  ·rcases hg n h with h | h
   ·exact .inr h
   ·omega)
theorem Smi.keepsN {w w' : World} {S : Nat → Prop} {R : Nat} {e : List GNode} {c : List GOp} {v vc : Value} (hS : ∀ b, S b → b < R) (h : Smi w S R e c v vc) (hc : Chg (MS R vc) w w') : Nodes w' S v e :=
 Nodes.stays (hc.stays (fun b hb hm => by
  have hb := hS b hb
  rcases hm with hm | hm
  ·omega
  ·have := h.row.le b hm; omega)) h.nodes
theorem Smi.grow {w W7 W8 : World} {S : Nat → Prop} {R : Nat} {e : List GNode} {c : List GOp} {v vc v1 : Value} {y : GOp} (hS : ∀ b, S b → b < R) (h : Smi w S R e c v vc) (he : Ext w W7)
  (hn : NewRow W7 W8 (R + 1) 2 vc v1 (c.length + 1) (c.flatMap opF ++ opF y)) :
  (Smi (W8.setCell ⟨R, 1, none⟩ v1) S R e (c ++ [y]) v v1 ∧ Chg (MS R vc) w (W8.setCell ⟨R, 1, none⟩ v1) ∧ Grows w vc v1) ∧ Cx W8 R 1 vc := by
 have hM := h.row.le
 obtain ⟨n1, hch, n3⟩ := hn
 have k0 : Cx W8 R 0 v := (h.c0.ext he).chg hch (fun e => by have := hM _ e; omega)
 have k1 : Cx W8 R 1 vc := (h.c1.ext he).chg hch (fun e => by have := hM _ e; omega)
 have hC : Chg (MS R vc) w (W8.setCell ⟨R, 1, none⟩ v1) :=
  ((Chg.of_ext he).trans (hch.mono (fun _ _ h => .inr h))).setCell (p := ⟨R, 1, none⟩) (.inl (.inl rfl)) _
 refine ⟨⟨⟨k0.other (.inr (by decide)) _, k1.set _, h.keepsN hS hC, ?_⟩, hC, fun g hg => ?_⟩, k1⟩
 ·rw [List.length_append, List.length_singleton, List.flatMap_append, List.flatMap_singleton]
  exact n1.chg (chg_one W8 R 1 v1) (fun q e hq => by have := n1.le _ e; omega) (by decide)
 ·rcases n3 with n3 | n3
  ·exact .inl (by rw [← n3]; exact hg)
  ·have := he.size
   have := n3 g hg
   exact .inr (by omega)
theorem Smi.ext {w w' : World} {S : Nat → Prop} {R : Nat} {e : List GNode} {c : List GOp} {v vc : Value} (h : Smi w S R e c v vc) (he : Ext w w') : Smi w' S R e c v vc :=
 ⟨h.c0.ext he, h.c1.ext he, Nodes.stays he.stays h.nodes, h.row.ext he (by decide)⟩
theorem Smi.take {w W : World} {S : Nat → Prop} {R : Nat} {e e' : List GNode} {c : List GOp} {v v' vc : Value} (hS : ∀ b, S b → b < R) (h : Smi w S R e c v vc) (he : Ext w W) (hv : Nodes w S v' e') :
  Smi (W.setCell ⟨R, 0, none⟩ v') S R e' c v' vc ∧ Chg (MS R vc) w (W.setCell ⟨R, 0, none⟩ v') := by
 have hC : Chg (MS R vc) w (W.setCell ⟨R, 0, none⟩ v') := (Chg.of_ext he).setCell (p := ⟨R, 0, none⟩) (.inl (.inl rfl)) _
 have h2 : Smi w S R e' c v vc → Nodes (W.setCell ⟨R, 0, none⟩ v') S v' e' := fun _ => Nodes.stays (hC.stays (fun b hb hm => by
  have hb := hS b hb
  rcases hm with hm | hm
  ·omega
  ·have := h.row.le b hm; omega)) hv
 refine ⟨⟨(h.c0.ext he).set _, (h.c1.ext he).other (.inr (by decide)) _, Nodes.stays (hC.stays (fun b hb hm => by
  have hb := hS b hb
  rcases hm with hm | hm
  ·omega
  ·have := h.row.le b hm; omega)) hv, ?_⟩, hC⟩
 exact (h.row.ext he (by decide)).chg (chg_one W R 0 v') (fun q e hq => by have := h.row.le _ e; omega) (by decide)
end Go.Proofs.YtgahbngbpfilgaaGreat
end
section
set_option maxHeartbeats 4000000
set_option maxRecDepth 100000
namespace Go.Proofs.YtgahbngbpfilgaaGreat
open Go Go.RowKit
theorem apart {w : World} {R X : Nat} {vc vc' : Value} (hX : ¬ MS R vc X) (hl : X < w.heap.size) (hg : Grows w vc vc') : ¬ MS R vc' X := fun hm => by
 rcases hm with hm | hm
 ·exact hX (.inl hm)
 ·rcases hg X hm with h1 | h1
  ·exact hX (.inr h1)
  ·omega
theorem Smi.fresh {w : World} {S : Nat → Prop} {R : Nat} {e : List GNode} {c : List GOp} {v vc : Value} (h : Smi w S R e c v vc) : ¬ MS R vc w.heap.size := fun hm => by
 have := h.c0.lt
 rcases hm with hm | hm
 ·omega
 ·have := h.row.lt2 (by decide) _ hm; omega
structure Begun (w W : World) (S : Nat → Prop) (R X : Nat) (x : GNode) (e : List GNode) (c : List GOp) (v vc : Value) : Prop where
 smi : Smi W S R e c v vc
 chg : Chg (MS R vc) w W
 k : W.cell? ⟨X, 0, none⟩ = some (.int .i64 x.kind)
 n : W.cell? ⟨X, 1, none⟩ = some (.int .i64 x.n)
 out : ¬ MS R vc X
 lt : X < W.heap.size
theorem Smi.start {w : World} {S : Nat → Prop} {R : Nat} {e e' : List GNode} {c : List GOp} {v v' vc : Value} (hS : ∀ b, S b → b < R) (h : Smi w S R e c v vc) (hv : Nodes w S v' e') (x : GNode) (t : TypeId) :
  Begun w ((w.setCell ⟨R, 0, none⟩ v').alloc (.cells #[.int .i64 x.kind, .int .i64 x.n] t)) S R w.heap.size x e' c v' vc := by
 obtain ⟨h1, h2⟩ := h.take hS (Ext.refl w) hv
 have hsz : (w.setCell ⟨R, 0, none⟩ v').heap.size = w.heap.size := size_setCells R [v'] 0 w
 have c0 := (Cx.new (w.setCell ⟨R, 0, none⟩ v') [.int .i64 x.kind, .int .i64 x.n] t (j := 0) rfl).1
 have c1 := (Cx.new (w.setCell ⟨R, 0, none⟩ v') [.int .i64 x.kind, .int .i64 x.n] t (j := 1) rfl).1
 have hl := lt_of_cell c0
 rw [hsz] at c0 c1 hl
 exact ⟨h1.ext ((Ext.refl _).alloc _), h2.alloc _, c0, c1, h.fresh, hl⟩
theorem Begun.next {w W W' : World} {S : Nat → Prop} {R X : Nat} {x : GNode} {e : List GNode} {c : List GOp} {v vc vc1 vc' : Value} (h : Begun w W S R X x e c v vc1) (hg0 : Grows w vc vc1) (h0 : Chg (MS R vc) w W)
  (hc : Chg (MS R vc1) W W') (hg : Grows W vc1 vc') : (W'.cell? ⟨X, 0, none⟩ = some (.int .i64 x.kind) ∧ W'.cell? ⟨X, 1, none⟩ = some (.int .i64 x.n)) ∧ Chg (MS R vc) w W' ∧ Grows w vc vc' ∧ ¬ MS R vc' X ∧ X < W'.heap.size := by
 refine ⟨⟨hc.cell h.out h.k, hc.cell h.out h.n⟩, MS.trans h0 hg0 hc, hg0.trans h0 hg, apart h.out h.lt hg, ?_⟩
 have := hc.size
 have := h.lt
 omega
end Go.Proofs.YtgahbngbpfilgaaGreat
end
section
set_option maxHeartbeats 4000000
set_option maxRecDepth 100000
namespace Go.Proofs.YtgahbngbpfilgaaGreat
open Go Go.RowKit
structure Pen (w : World) (R : Nat) (A : List UInt8) (v : Value) : Prop where
 c0 : Cx w R 0 v
 row : RowAt w (R + 1) 1 v A.length (bys A)
theorem Pen.ext {w w' : World} {R : Nat} {A : List UInt8} {v : Value} (h : Pen w R A v) (he : Ext w w') : Pen w' R A v := ⟨h.c0.ext he, h.row.ext he (by decide)⟩
theorem Pen.grow {w W7 W8 : World} {R n : Nat} {A A' : List UInt8} {v v1 : Value} {xs : List Value} (h : Pen w R A v) (he : Ext w W7) (hn : NewRow W7 W8 (R + 1) 1 v v1 n xs) (hx : bys A' = xs) (hl : A'.length = n) :
  (Pen (W8.setCell ⟨R, 0, none⟩ v1) R A' v1 ∧ Chg (MS R v) w (W8.setCell ⟨R, 0, none⟩ v1) ∧ Grows w v v1) ∧ Cx W8 R 0 v := by
 subst hx hl
 have hM := h.row.le
 obtain ⟨n1, hch, n3⟩ := hn
 have k0 : Cx W8 R 0 v := (h.c0.ext he).chg hch (fun e => by have := hM _ e; omega)
 have hC : Chg (MS R v) w (W8.setCell ⟨R, 0, none⟩ v1) :=
  ((Chg.of_ext he).trans (hch.mono (fun _ _ h => .inr h))).setCell (p := ⟨R, 0, none⟩) (.inl (.inl rfl)) _
 refine ⟨⟨⟨k0.set _, n1.chg (chg_one W8 R 0 v1) (fun q e hq => by have := n1.le _ e; omega) (by decide)⟩, hC, fun g hg => ?_⟩, k0⟩
 rcases n3 with n3 | n3
 ·exact .inl (by rw [← n3]; exact hg)
 ·have := he.size
  have := n3 g hg
  exact .inr (by omega)
end Go.Proofs.YtgahbngbpfilgaaGreat
end
section
set_option maxHeartbeats 4000000
set_option maxRecDepth 100000
namespace Go.Proofs.YtgahbngbpfilgaaGreat
open Go Go.RowKit
structure PT (W : World) (R : Nat) (v : Value) (wr : World) (A : List UInt8) (vc : Value) : Prop where
 pen : Pen wr R A vc
 chg : Chg (MS R v) W wr
 grow : Grows W v vc
theorem PT.ext {W wr w1 : World} {R : Nat} {A : List UInt8} {v vc : Value} (h : PT W R v wr A vc) (he : Ext wr w1) : PT W R v w1 A vc := ⟨h.pen.ext he, h.chg.trans (Chg.of_ext he), h.grow⟩
theorem PT.step {W wr w1 w2 : World} {R : Nat} {A A' : List UInt8} {v vc v' : Value} (h : PT W R v wr A vc) (he : Ext wr w1) (hp : Pen w2 R A' v') (hc : Chg (MS R vc) w1 w2) (hg : Grows w1 vc v') : PT W R v w2 A' v' :=
 ⟨hp, MS.trans (h.ext he).chg h.grow hc, h.grow.trans (h.ext he).chg hg⟩
theorem PT.as {W wr : World} {R : Nat} {A A' : List UInt8} {v vc : Value} (h : PT W R v wr A vc) (e : A = A') : PT W R v wr A' vc := e ▸ h
theorem Pen.low {w : World} {R : Nat} {A : List UInt8} {v : Value} (h : Pen w R A v) : ∀ b, b < R → ¬ MS R v b := by
 intro b hb hm
 rcases hm with hm | hm
 ·omega
 ·have := h.row.le _ hm
  omega
theorem Pen.high {w : World} {R : Nat} {A : List UInt8} {v : Value} (h : Pen w R A v) : ∀ b, b = w.heap.size → ¬ MS R v b := by
 intro b hb hm
 have := h.c0.lt
 rcases hm with hm | hm
 ·omega
 ·have := h.row.lt2 (by decide) _ hm
  omega
theorem PT.cell {W wr : World} {R : Nat} {A : List UInt8} {v vc : Value} (h : PT W R v wr A vc) {b o : Nat} {x : Value} (hm : ¬ MS R v b) (hc : W.cell? ⟨b, o, none⟩ = some x) : wr.cell? ⟨b, o, none⟩ = some x := h.chg.cell hm hc
end Go.Proofs.YtgahbngbpfilgaaGreat
end
