/- Merged texts: contracts and plain facts, one part behind another; each part begins with what it says. -/
import Derived.Test.YtgahbngbpfilgaaGreatGHAH
import Derived.Test.YtgahbngbpfilgaaGreatGHBE
import Derived.Laws.Strings2
section
set_option maxHeartbeats 4000000
set_option maxRecDepth 100000
namespace Go.Proofs.YtgahbngbpfilgaaGreat
open Go Go.RowKit
def strV (b : List UInt8) : Value := .string ⟨b.toArray⟩
end Go.Proofs.YtgahbngbpfilgaaGreat
end
section
set_option maxHeartbeats 4000000
set_option maxRecDepth 100000
namespace Go.Proofs.YtgahbngbpfilgaaGreat
open Go Go.RowKit
structure Knd (δ : Type) where
 f : δ → List Value
 sz : Nat
 hf : ∀ y, (f y).length = sz
 pos : 0 < sz
 E : World → (Nat → Prop) → δ → Prop
 st : ∀ {S T : Nat → Prop} {w w' : World} {y : δ}, Stays S T w w' → E w S y → E w' T y
structure GRow {δ : Type} (K : Knd δ) (w : World) (base : Nat) (v : Value) (ys : List δ) : Prop where
 row : RowAt w base K.sz v ys.length (ys.flatMap K.f)
 el : ∀ y ∈ ys, K.E w (fun b => base ≤ b ∧ rowBlock v ≠ some b) y
theorem GRow.nil {δ : Type} (K : Knd δ) (w : World) (base : Nat) : GRow K w base (.slice none 0 0) [] := ⟨RowAt.nil _ _ _ _, by simp⟩
theorem GRow.chg {δ : Type} {K : Knd δ} {M : Nat → Prop} {w w' : World} {base : Nat} {v : Value} {ys : List δ} (h : GRow K w base v ys) (hc : Chg M w w') (hM : ∀ b, base ≤ b → ¬ M b) : GRow K w' base v ys :=
 ⟨h.row.chg hc (fun g e => hM g (h.row.le g e)) K.pos, fun y hy => K.st (hc.stays (fun b hb => hM b hb.1)) (h.el y hy)⟩
theorem GRow.ext {δ : Type} {K : Knd δ} {w w' : World} {base : Nat} {v : Value} {ys : List δ} (h : GRow K w base v ys) (he : Ext w w') : GRow K w' base v ys := h.chg (M := fun _ => False) (Chg.of_ext he) (fun _ _ h => h)
theorem GRow.grow {δ : Type} {K : Knd δ} {w0 w w' : World} {base n : Nat} {v v' : Value} {ys : List δ} {y : δ} (h0 : GRow K w0 base v ys) (h : GRow K w base v ys) (hb : base ≤ w0.heap.size) (hn : NewRow w w' base K.sz v v' n (ys.flatMap K.f ++ K.f y)) (hl : n = ys.length + 1)
  (hy : K.E w (w0.heap.size ≤ ·) y) : GRow K w' base v' (ys ++ [y]) := by
 subst hl
 obtain ⟨hr, hc, hb2⟩ := hn
 refine ⟨?_, fun z hz => ?_⟩
 ·rw [List.length_append, List.length_singleton, List.flatMap_append, List.flatMap_singleton]
  exact hr
 ·have hz' : K.E w (fun b => base ≤ b ∧ rowBlock v ≠ some b) z := by
   rcases List.mem_append.1 hz with h1 | h1
   ·exact h.el z h1
   ·rw [List.mem_singleton] at h1
    subst h1
    exact K.st (Stays.widen fun b hbb => ⟨Nat.le_trans hb hbb, fun e => by have := h0.row.lt2 K.pos b e; omega⟩) hy
  refine K.st (fun b o u hS hu => ⟨hc.cell hS.2 hu, hS.1, ?_⟩) hz'
  rcases hb2 with e | e
  ·rw [e]; exact hS.2
  ·intro e2
   have := e b e2
   have := lt_of_cell hu
   omega
def rdA {α : Type} (one : Rd α) (pre : List α) (k : Nat) (r : List UInt8) : Option (List α × List UInt8) := match rdN one k r with
 | none => none
 | some (l, r2) => some (pre ++ l, r2)
theorem rdA_nil {α : Type} (one : Rd α) (k : Nat) (r : List UInt8) : rdN one k r = rdA one [] k r := by
 unfold rdA
 cases rdN one k r with
 | none => rfl
 | some v => rfl
theorem rdA_zero {α : Type} (one : Rd α) (pre : List α) (r : List UInt8) : rdA one pre 0 r = some (pre, r) := by
 unfold rdA
 rw [rdN]
 simp
theorem rdA_none {α : Type} {one : Rd α} {pre : List α} {k : Nat} {r : List UInt8} (h : one r = none) : rdA one pre (k + 1) r = none := by
 unfold rdA
 rw [rdN, h]
theorem rdA_some {α : Type} {one : Rd α} {pre : List α} {k : Nat} {r r1 : List UInt8} {x : α} (h : one r = some (x, r1)) : rdA one pre (k + 1) r = rdA one (pre ++ [x]) k r1 := by
 unfold rdA
 rw [rdN, h]
 simp only
 cases rdN one k r1 with
 | none => rfl
 | some v => simp
structure ListS {δ α : Type} (K : Knd δ) (pr : δ → α) (one : Rd α) (w wr : World) (G : Nat) (b : List UInt8) (n i : Nat) (v : Value) (ys : List δ) (r : List UInt8) : Prop where
 len : ys.length = i
 rd : rdN one n b = rdA one (ys.map pr) (n - i) r
 row : GRow K wr w.heap.size v ys
 cx : Cx wr G 0 (strV r)
 chg : Chg (· = G) w wr
theorem ListS.start {δ α : Type} (K : Knd δ) (pr : δ → α) (one : Rd α) {w wr : World} {G : Nat} {b : List UInt8} (n : Nat) (hc : Cx wr G 0 (strV b)) (h : Chg (· = G) w wr) : ListS K pr one w wr G b n 0 (.slice none 0 0) [] b :=
 ⟨rfl, rdA_nil _ _ _, GRow.nil _ _ _, hc, h⟩
theorem ListS.step {δ α : Type} {K : Knd δ} {pr : δ → α} {one : Rd α} {w wr w2 W5 W6 : World} {G : Nat} {b : List UInt8} {n i m : Nat} {v v' : Value} {ys : List δ} {r r1 : List UInt8} {y : δ} (hG : G < w.heap.size) (h : ListS K pr one w wr G b n i v ys r) (hi : i < n)
  (h1 : one r = some (pr y, r1)) (hch : Chg (· = G) wr w2) (hcx : Cx w2 G 0 (strV r1)) (hy : K.E w2 (wr.heap.size ≤ ·) y) (he : Ext w2 W5) (hn : NewRow W5 W6 w.heap.size K.sz v v' m (ys.flatMap K.f ++ K.f y)) (hm : m = ys.length + 1) :
  ListS K pr one w W6 G b n (i + 1) v' (ys ++ [y]) r1 := by
 have hne : ∀ q, rowBlock v = some q → w.heap.size ≤ q := fun q e => h.row.row.le q e
 have hr2 : GRow K w2 w.heap.size v ys := h.row.chg hch (fun b hb e => by have : b = G := e; omega)
 refine ⟨by rw [List.length_append, List.length_singleton, h.len], ?_, h.row.grow (hr2.ext he) h.chg.size hn hm (K.st he.stays hy), ?_, ?_⟩
 ·rw [h.rd, show n - i = (n - (i + 1)) + 1 by omega, rdA_some h1, List.map_append]
  rfl
 ·exact (hcx.ext he).chg hn.2.1 (fun e => by have := hne _ e; omega)
 ·exact ((h.chg.trans hch).trans (Chg.of_ext he)).trans' hn.2.1 (fun q hq e => by have := hne _ e; omega)
theorem ListS.bad {δ α : Type} {K : Knd δ} {pr : δ → α} {one : Rd α} {w wr : World} {G : Nat} {b : List UInt8} {n i : Nat} {v : Value} {ys : List δ} {r : List UInt8} (h : ListS K pr one w wr G b n i v ys r) (hi : i < n) (h1 : one r = none) : rdN one n b = none := by
 rw [h.rd, show n - i = (n - (i + 1)) + 1 by omega, rdA_none h1]
theorem ListS.done {δ α : Type} {K : Knd δ} {pr : δ → α} {one : Rd α} {w wr : World} {G : Nat} {b : List UInt8} {n : Nat} {v : Value} {ys : List δ} {r : List UInt8} (h : ListS K pr one w wr G b n n v ys r) : rdN one n b = some (ys.map pr, r) := by
 rw [h.rd, Nat.sub_self, rdA_zero]
def kInt : Knd Int where
 f := intF
 sz := 1
 hf := fun _ => rfl
 pos := by decide
 E := fun _ _ n => I64 n
 st := fun _ h => h
def frameFv (y : GFrame × Value × Value) : List Value := [.int .i64 y.1.func, .int .i64 y.1.at_, y.2.1, y.2.2]
def kFrame : Knd (GFrame × Value × Value) where
 f := frameFv
 sz := 4
 hf := fun _ => rfl
 pos := by decide
 E := fun w S y => I64 y.1.func ∧ I64 y.1.at_ ∧ Ints w S y.2.1 y.1.locals ∧ Ints w S y.2.2 y.1.stack
 st := fun hs h => ⟨h.1, h.2.1, Ints.stays hs h.2.2.1, Ints.stays hs h.2.2.2⟩
def fiberFv (y : GFiber × Value) : List Value := [y.2, .int .i64 y.1.caller]
def kFiber : Knd (GFiber × Value) where
 f := fiberFv
 sz := 2
 hf := fun _ => rfl
 pos := by decide
 E := fun w S y => I64 y.1.caller ∧ Frames w S y.2 y.1.frames
 st := fun hs h => ⟨h.1, Frames.stays hs h.2⟩
theorem Sl.mapS {α β : Type} {E : Nat → Nat → β → Prop} {sz bytes : Nat} {v : Value} {l : List α} (f : α → β) (h : Sl (fun b o y => E b o (f y)) sz bytes v l) : Sl E sz bytes v (l.map f) := by
 obtain ⟨a, cap, rfl, h1, h2, h3⟩ := h
 refine ⟨a, cap, by rw [List.length_map], by rw [List.length_map]; exact h1, by rw [List.length_map]; exact h2, fun i hi => ?_⟩
 obtain ⟨b, o, e, h4⟩ := h3 i (by rwa [List.length_map] at hi)
 exact ⟨b, o, e, by rw [List.getElem_map]; exact h4⟩
theorem GRow.ints {w : World} {base : Nat} {v : Value} {l : List Int} (h : GRow kInt w base v l) (hl : l.length ≤ 1000000) : Ints w (base ≤ ·) v l :=
 Ints.of_row (base := base) h.row (by omega) (fun x hx => h.el x hx) _ (fun b hb _ => hb)
theorem GRow.frames {w : World} {base : Nat} {v : Value} {l : List (GFrame × Value × Value)} (h : GRow kFrame w base v l) (hl : l.length ≤ 1000000) : Frames w (base ≤ ·) v (l.map Prod.fst) := by
 refine Sl.mapS Prod.fst (Sl.of_row frameFv h.row (fun _ => rfl) (by omega) fun b o y hbb _ hy hc => ?_)
 obtain ⟨i1, i2, i3, i4⟩ := h.el y hy
 exact ⟨⟨hbb, hc 0 _ rfl, i1⟩, ⟨hbb, hc 1 _ rfl, i2⟩, ⟨y.2.1, hc 2 _ rfl, Ints.stays (Stays.widen (fun b hb => hb.1)) i3⟩, y.2.2, hc 3 _ rfl, Ints.stays (Stays.widen (fun b hb => hb.1)) i4⟩
theorem GRow.fibers {w : World} {base : Nat} {v : Value} {l : List (GFiber × Value)} (h : GRow kFiber w base v l) (hl : l.length ≤ 1000000) : Fibers w (base ≤ ·) v (l.map Prod.fst) := by
 refine Sl.mapS Prod.fst (Sl.of_row fiberFv h.row (fun _ => rfl) (by omega) fun b o y hbb _ hy hc => ?_)
 obtain ⟨i1, i2⟩ := h.el y hy
 exact ⟨⟨y.2, hc 0 _ rfl, Frames.stays (Stays.widen (fun b hb => hb.1)) i2⟩, hbb, hc 1 _ rfl, i1⟩
end Go.Proofs.YtgahbngbpfilgaaGreat
end
section
set_option maxHeartbeats 4000000
set_option maxRecDepth 100000
namespace Go.Proofs.YtgahbngbpfilgaaGreat
open Go Go.RowKit
end Go.Proofs.YtgahbngbpfilgaaGreat
end
section
set_option maxHeartbeats 4000000
set_option maxRecDepth 100000
namespace Go.Proofs.YtgahbngbpfilgaaGreat
open Go Go.RowKit
end Go.Proofs.YtgahbngbpfilgaaGreat
end
