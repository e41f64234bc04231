/- Merged texts: contracts and plain facts, one part behind another; each part begins with what it says. -/
import Derived.Test.YtgahbngbpfilgaaGreatGHAB
import Derived.Test.YtgahbngbpfilgaaGreatGHAC
import Derived.Test.YtgahbngbpfilgaaGreatGHAD
import Derived.Test.YtgahbngbpfilgaaGreatGHAE
import Derived.Test.YtgahbngbpfilgaaGreatGHAF
import Derived.Test.YtgahbngbpfilgaaGreatGHAL
import Derived.Test.YtgahbngbpfilgaaGreatGHBA
import Derived.Deep.MidRow
section
set_option maxHeartbeats 4000000
set_option maxRecDepth 100000
namespace Go.Proofs.YtgahbngbpfilgaaGreat
open Go Go.RowKit
structure Acc (w wr : World) (tb n : Nat) (v : Value) (A : List UInt8) (bx : List (Nat × Nat × Value)) : Prop where
 ext : Ext w wr
 row : RowAt wr (tb + 1) 1 v n (bys A)
 box : ∀ x ∈ bx, wr.cell? ⟨x.1, x.2.1, none⟩ = some x.2.2 ∧ rowBlock v ≠ some x.1
theorem Acc.up {w wr W : World} {tb n : Nat} {v : Value} {A : List UInt8} {bx : List (Nat × Nat × Value)} (h : Acc w wr tb n v A bx) (he : Ext wr W) : Acc w W tb n v A bx :=
 ⟨h.ext.trans he, h.row.ext he (by decide), fun x hx => ⟨Ext.cell he (h.box x hx).1, (h.box x hx).2⟩⟩
theorem Acc.step {w wr W7 W8 : World} {tb n n' : Nat} {v v' : Value} {A : List UInt8} {xs : List Value} {A' : List UInt8} {bx : List (Nat × Nat × Value)} (hw : w.heap.size ≤ tb + 1) (h : Acc w wr tb n v A bx) (he : Ext wr W7)
  (hn : NewRow W7 W8 (tb + 1) 1 v v' n' xs) (hx : bys A' = xs) : Acc w W8 tb n' v' A' bx := by
 subst hx
 have h7 := h.up he
 refine ⟨Chg.ext_from h7.ext hn.2.1 (fun q e => by have := h7.row.le q e; omega), hn.1, fun x hx => ?_⟩
 obtain ⟨c1, c2⟩ := h7.box x hx
 refine ⟨hn.2.1.cell c2 c1, fun e => ?_⟩
 rcases hn.2.2 with h1 | h1
 ·exact c2 (h1 ▸ e)
 ·have := h1 _ e
  have := lt_of_cell c1
  omega
theorem Acc.add {w wr : World} {tb n : Nat} {v : Value} {A : List UInt8} {bx : List (Nat × Nat × Value)} (h : Acc w wr tb n v A bx) (cs : List Value) (t : TypeId) (ys : List (Nat × Nat × Value)) (hy : ∀ y ∈ ys, y.1 = wr.heap.size ∧ cs[y.2.1]? = some y.2.2) :
  Acc w (wr.alloc (.cells cs.toArray t)) tb n v A (ys ++ bx) := by
 have h7 := h.up ((Ext.refl wr).alloc (.cells cs.toArray t))
 refine ⟨h7.ext, h7.row, fun x hx => ?_⟩
 rcases List.mem_append.1 hx with hx | hx
 ·obtain ⟨e1, e2⟩ := hy x hx
  rw [e1]
  refine ⟨(Cx.new wr cs t e2).1, fun e => ?_⟩
  have := h.row.lt2 (by decide) _ e
  omega
 ·exact h7.box x hx
theorem Acc.drop {w wr : World} {tb n : Nat} {v : Value} {A : List UInt8} {bx ys : List (Nat × Nat × Value)} (h : Acc w wr tb n v A bx) (hy : ∀ y ∈ ys, y ∈ bx) : Acc w wr tb n v A ys := ⟨h.ext, h.row, fun x hx => h.box x (hy x hx)⟩
end Go.Proofs.YtgahbngbpfilgaaGreat
end
section
namespace Go.Proofs.YtgahbngbpfilgaaGreat
def keepN (l : List Int) (n : Nat) : Nat := (l.take n).countP (fun h => decide (0 ≤ h))
def trimOp (l : List Int) (x : GOp) : GOp := if x.kind = 9 ∨ x.kind = 10 then ⟨x.kind, keepN l x.a.toNat⟩ else x
def trimGo (l : List Int) : List GOp → List Int → List GOp
 | x :: C, h :: m => if 0 ≤ h then trimOp l x :: trimGo l C m else trimGo l C m
 | _, _ => []
def trimC (C : List GOp) (l : List Int) : List GOp := trimGo l C l
def keepL (l : List Int) : List Int := l.filter (fun h => decide (0 ≤ h))
def trimG (p : List GFunc) (F : GFunc) : GFunc := ⟨F.args, F.locals, trimC F.code ((hts p F.code).getD [])⟩
theorem Full.height {p : List GFunc} {C : List GOp} {l : List Int} (hF : Full p C l) {k j : Nat} (hk : k < C.length) (h0 : 0 ≤ l.getD k 0) (hj : j ∈ nx C[k] k) : j < C.length ∧ l.getD j 0 = nOf p C[k] (l.getD k 0) ∧ 0 ≤ l.getD j 0 := by
 obtain ⟨t1, t2⟩ := hF.thru k hk h0
 have e : C.getD k default = C[k] := by simp [List.getD, List.getElem?_eq_getElem hk]
 rw [e] at t1 t2
 obtain ⟨a, b⟩ := t2 j hj
 exact ⟨a, b, by rw [b]; exact nOf_nonneg t1⟩
end Go.Proofs.YtgahbngbpfilgaaGreat
end
section
namespace Go.Proofs.YtgahbngbpfilgaaGreat
structure TrimFacts (p : List GFunc) (k : Nat) (hk : k < p.length) (l : List Int) : Prop where
 right : RightF p p[k]
 h : hts p p[k].code = some l
 g : trimG p p[k] = ⟨p[k].args, p[k].locals, trimC p[k].code l⟩
 hq : hts (p.map (trimG p)) (trimC p[k].code l) = some (keepL l)
 len : (trimC p[k].code l).length = (keepL l).length
 most : (trimC p[k].code l).length ≤ 24
 err : funcErr (p.map (trimG p)) k = 0
end Go.Proofs.YtgahbngbpfilgaaGreat
end
section
set_option maxHeartbeats 4000000
set_option maxRecDepth 100000
namespace Go.Proofs.YtgahbngbpfilgaaGreat
open Go Go.RowKit
structure TI (w2 w5 : World) (g b10 N : Nat) (A L : Int) (l : List Int) (acc : List GOp) (wx : World) : Prop where
 ext : Ext w2 wx
 tt : ∃ t, IRow wx g g t ∧ t.length = N ∧ ∀ i, i < N → t.getD i 0 = keepN l i
 c0 : Cx wx b10 0 (.int .i64 A)
 c1 : Cx wx b10 1 (.int .i64 L)
 c2 : ∃ v, Cx wx b10 2 v ∧ RowAt wx (b10 + 1) 2 v acc.length (acc.flatMap opF)
 size : w5.heap.size ≤ wx.heap.size
set_option maxRecDepth 100000 in
theorem infoO : (Tryz.prog.info? 59).map (fun i => (i.zero, i.size, i.bytes)) = some (some (.agg #[.int .i64 0, .int .i64 0]), 2, 16) := by kernel_rfl
theorem TI.grow {w2 w5 : World} {g b10 N : Nat} {A L : Int} {l : List Int} {acc : List GOp} {wx W7 W8 : World} {y : GOp} {v v1 : Value} (h : TI w2 w5 g b10 N A L l acc wx) (hb : w2.heap.size ≤ b10) (hg : g < b10)
  (he : Ext wx W7) (hc : Cx wx b10 2 v) (hr : RowAt wx (b10 + 1) 2 v acc.length (acc.flatMap opF)) (hn : NewRow W7 W8 (b10 + 1) 2 v v1 (acc.length + 1) (acc.flatMap opF ++ opF y)) :
  TI w2 w5 g b10 N A L l (acc ++ [y]) (W8.setCell ⟨b10, 2, none⟩ v1) ∧ Cx W8 b10 2 v := by
 obtain ⟨t, h1, h2, h3⟩ := h.tt
 have hM : ∀ q, rowBlock v = some q → b10 + 1 ≤ q := hr.le
 have hch := hn.2.1
 have k2 : Cx W8 b10 2 v := (hc.ext he).chg hch (fun e => by have := hM _ e; omega)
 refine ⟨⟨?_, ⟨t, ?_, h2, h3⟩, ?_, ?_, ⟨v1, k2.set v1, ?_⟩, ?_⟩, k2⟩
 ·exact (Chg.ext_from (h.ext.trans he) hch (fun q e => by have := hM _ e; omega)).setCell (p := ⟨b10, 2, none⟩) hb _
 ·exact ((h1.ext he).chg hch (fun e => by have := hM _ e; omega)).other (by omega) _
 ·exact ((h.c0.ext he).chg hch (fun e => by have := hM _ e; omega)).other (.inr (by omega)) _
 ·exact ((h.c1.ext he).chg hch (fun e => by have := hM _ e; omega)).other (.inr (by omega)) _
 ·rw [List.length_append, List.length_singleton, List.flatMap_append, List.flatMap_singleton]
  exact hn.1.chg (chg_one W8 b10 2 v1) (fun q e hq => by have := hn.1.le _ e; omega) (by decide)
 ·have e1 := h.size
  have e2 := he.size
  have e3 := hch.size
  have e4 : (W8.setCell ⟨b10, 2, none⟩ v1).heap.size = W8.heap.size := size_setCells b10 [v1] 2 W8
  omega
end Go.Proofs.YtgahbngbpfilgaaGreat
end
