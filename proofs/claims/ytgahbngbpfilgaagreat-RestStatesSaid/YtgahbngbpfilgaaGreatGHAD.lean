/- Merged texts: contracts and plain facts, one part behind another; each part begins with what it says. -/
import Derived.Test.YtgahbngbpfilgaaGreatGHAA
import Derived.Test.YtgahbngbpfilgaaGreatGHAB
import Derived.Test.YtgahbngbpfilgaaGreatGHAC
import Derived.Deep.AppendSrc
import Derived.Deep.MidRow
import Derived.Deep.Upon
import Derived.Laws.AppendOwn
import Derived.Laws.OwnMore
import Derived.OwnWalkIn
import Derived.Tactics
section
namespace Go.Proofs.YtgahbngbpfilgaaGreat
open Go Go.RowKit
structure Chg (M : Nat → Prop) (w w' : World) : Prop where
 os : w'.os = w.os
 tape : w'.tape = w.tape
 output : w'.output = w.output
 size : w.heap.size ≤ w'.heap.size
 block : ∀ k, k < w.heap.size → ¬ M k → w'.heap[k]? = w.heap[k]?
theorem Chg.refl (M : Nat → Prop) (w : World) : Chg M w w := ⟨rfl, rfl, rfl, Nat.le_refl _, fun _ _ _ => rfl⟩
theorem Chg.trans' {M M' : Nat → Prop} {a b c : World} (h : Chg M a b) (k : Chg M' b c) (hM : ∀ n, n < a.heap.size → M' n → M n) : Chg M a c :=
 ⟨k.os.trans h.os, k.tape.trans h.tape, k.output.trans h.output, Nat.le_trans h.size k.size, fun i hi hm => (k.block i (Nat.lt_of_lt_of_le hi h.size) (fun h' => hm (hM i hi h'))).trans (h.block i hi hm)⟩
theorem Chg.trans {M : Nat → Prop} {a b c : World} (h : Chg M a b) (k : Chg M b c) : Chg M a c := h.trans' k (fun _ _ h => h)
theorem Chg.mono {M M' : Nat → Prop} {a b : World} (h : Chg M a b) (hM : ∀ n, n < a.heap.size → M n → M' n) : Chg M' a b := ⟨h.os, h.tape, h.output, h.size, fun i hi hm => h.block i hi (fun h' => hm (hM i hi h'))⟩
theorem Chg.of_ext {M : Nat → Prop} {a b : World} (h : Ext a b) : Chg M a b := ⟨h.os, h.tape, h.output, h.size, fun i hi _ => h.block i hi⟩
theorem Chg.ext {M : Nat → Prop} {a b : World} (h : Chg M a b) (hM : ∀ n, n < a.heap.size → ¬ M n) : Ext a b := ⟨h.os, h.tape, h.output, h.size, fun i hi => h.block i hi (hM i hi)⟩
theorem Chg.ext_from {M : Nat → Prop} {w a b : World} (h0 : Ext w a) (h : Chg M a b) (hM : ∀ n, M n → w.heap.size ≤ n) : Ext w b :=
 ⟨h.os.trans h0.os, h.tape.trans h0.tape, h.output.trans h0.output, Nat.le_trans h0.size h.size, fun i hi => (h.block i (Nat.lt_of_lt_of_le hi h0.size) (fun h' => by have := hM i h'; omega)).trans (h0.block i hi)⟩
theorem Chg.alloc {M : Nat → Prop} {w w' : World} (h : Chg M w w') (o : Obj) : Chg M w (w'.alloc o) := h.trans (Chg.of_ext ((Ext.refl _).alloc o))
theorem Chg.drew {M : Nat → Prop} {w w' : World} (h : Chg M w w') : Chg M w w'.drew := h.trans (Chg.of_ext (Ext.refl _).drew)
theorem Chg.drewN {M : Nat → Prop} {w w' : World} (h : Chg M w w') (n : Nat) : Chg M w (w'.drewN n) := h.trans (Chg.of_ext ((Ext.refl _).drewN n))
theorem Chg.setCell {M : Nat → Prop} {w w' : World} (h : Chg M w w') {p : Addr} (hp : M p.block ∨ w.heap.size ≤ p.block) (u : Value) : Chg M w (w'.setCell p u) :=
 ⟨h.os, h.tape, h.output, by simpa using h.size, fun i hi hm => (Below.heap_setCell _ _ _ _ (fun e => by rcases hp with hp | hp; exact hm (e ▸ hp); omega)).trans (h.block i hi hm)⟩
theorem Chg.setRow {M : Nat → Prop} {w w' : World} (h : Chg M w w') {g : Nat} (hg : M g ∨ w.heap.size ≤ g) (cs : Array Value) : Chg M w (w'.setRow g cs) :=
 ⟨h.os, h.tape, h.output, by simpa using h.size, fun i hi hm => (setRow_other _ _ _ _ (fun e => by rcases hg with hp | hp; exact hm (e ▸ hp); omega)).trans (h.block i hi hm)⟩
theorem Chg.grown {M : Nat → Prop} {w w' w'' : World} {row : Option Nat} (h : Chg M w w') (hg : w'.grownBy w'' row) (hr : ∀ k, row = some k → M k ∨ w.heap.size ≤ k) : Chg M w w'' :=
 ⟨hg.os.trans h.os, hg.tape.trans h.tape, hg.output.trans h.output, Nat.le_trans h.size hg.size, fun i hi hm => (hg.block i (Nat.lt_of_lt_of_le hi h.size) (fun e => by rcases hr i e.symm with hp | hp; exact hm hp; omega)).trans (h.block i hi hm)⟩
theorem Chg.heap {M : Nat → Prop} {w w' : World} (h : Chg M w w') {g : Nat} (hm : ¬ M g) {o : Obj} (hg : w.heap[g]? = some o) : w'.heap[g]? = some o := by
 rw [h.block g (Array.getElem?_eq_some_iff.1 hg).1 hm]; exact hg
theorem Chg.cell {M : Nat → Prop} {w w' : World} (h : Chg M w w') {b o : Nat} (hm : ¬ M b) {v : Value} (hc : w.cell? ⟨b, o, none⟩ = some v) : w'.cell? ⟨b, o, none⟩ = some v :=
 (World.cell?_of_block (a := ⟨b, o, none⟩) (h.block b (lt_of_cell hc) hm)).trans hc
theorem Chg.frozen {M : Nat → Prop} {w w' : World} (h : Chg M w w') {b o : Nat} (hm : ¬ M b) (hb : b < w.heap.size) : w'.frozen? ⟨b, o, none⟩ = w.frozen? ⟨b, o, none⟩ :=
 World.frozen?_of_block (a := ⟨b, o, none⟩) (h.block b hb hm)
theorem Chg.stays {M S : Nat → Prop} {w w' : World} (h : Chg M w w') (hS : ∀ b, S b → ¬ M b) : Stays S S w w' := fun _ _ _ hb hc => ⟨h.cell (hS _ hb) hc, hb⟩
end Go.Proofs.YtgahbngbpfilgaaGreat
end
section
namespace Go.Proofs.YtgahbngbpfilgaaGreat
open Go Go.RowKit
def SrcSl (w : World) (size : Nat) (x : Value) (m : Nat) (news : List Value) : Prop :=
 ∃ a c, x = .slice a m c ∧ news.length = m * size ∧ (∀ u ∈ news, u.oneCell' = true) ∧ (m = 0 ∨ ∃ ad, a = some ad ∧ ∀ j u, news[j]? = some u → w.cell? (ad.add j) = some u)
section
variable {P : Program} {w : World}
end
theorem Sl.src {α : Type} {E : Nat → Nat → α → Prop} {sz bytes : Nat} {v : Value} {l : List α} {w : World} (f : α → List Value) (h : Sl E sz bytes v l) (hf : ∀ y, (f y).length = sz)
  (h1 : ∀ y, ∀ u ∈ f y, u.oneCell' = true) (hE : ∀ b o y, E b o y → ∀ j u, (f y)[j]? = some u → w.cell? ⟨b, o + j, none⟩ = some u) : SrcSl w sz v l.length (l.flatMap f) := by
 have hlen : ∀ l : List α, (l.flatMap f).length = l.length * sz := by
  intro l
  induction l with
  | nil => simp
  | cons y l ih => simp [ih, hf, Nat.add_mul]; omega
 obtain ⟨a, cap, rfl, h2, h3, h4⟩ := h
 refine ⟨a, cap, rfl, hlen l, ?_, ?_⟩
 ·intro u hu
  obtain ⟨y, _, hy⟩ := List.mem_flatMap.1 hu
  exact h1 y u hy
 ·by_cases h0 : l.length = 0
  ·exact .inl h0
  ·right
   obtain ⟨b, o, rfl, _⟩ := h4 0 (by omega)
   refine ⟨_, rfl, fun j u hj => ?_⟩
   have hjl : j < l.length * sz := by
    rw [← hlen l]
    exact (List.getElem?_eq_some_iff.1 hj).1
   have key : ∀ (l : List α) (j : Nat) (u : Value), (l.flatMap f)[j]? = some u → ∃ i r, ∃ h : i < l.length, j = i * sz + r ∧ (f l[i])[r]? = some u := by
    intro l
    induction l with
    | nil => intro j u h; simp at h
    | cons y l ih =>
     intro j u h
     rw [List.flatMap_cons] at h
     by_cases hj : j < sz
     ·rw [List.getElem?_append_left (by rw [hf]; exact hj)] at h
      exact ⟨0, j, by simp, by simp, h⟩
     ·rw [List.getElem?_append_right (by rw [hf]; omega), hf] at h
      obtain ⟨i, r, hi, e, hu⟩ := ih _ _ h
      exact ⟨i + 1, r, by simpa using hi, by rw [Nat.add_mul]; omega, by simpa using hu⟩
   obtain ⟨i, r, hi, rfl, hu⟩ := key l j u hj
   obtain ⟨b', o', e, hE'⟩ := h4 i hi
   simp only [Option.some.injEq, Addr.mk.injEq] at e
   obtain ⟨rfl, rfl, _⟩ := e
   have := hE _ _ _ hE' r u hu
   rw [Addr.add_lit, ← Nat.add_assoc]
   exact this
theorem Sl.of_own {α : Type} {E : Nat → Nat → α → Prop} {sz bytes base : Nat} {e : TypeId} {v : Value} {l : List α} {w : World} (f : α → List Value) (h : w.ownsRow base e sz v l.length (l.flatMap f)) (hf : ∀ y, (f y).length = sz)
  (hb : l.length * bytes ≤ 140737488355328) (hE : ∀ b o y, base ≤ b → y ∈ l → (∀ j u, (f y)[j]? = some u → w.cell? ⟨b, o + j, none⟩ = some u) → E b o y) : Sl E sz bytes v l := by
 rcases h.2 with ⟨rfl, h0⟩ | ⟨g, cap, cur, rfl, hbg, hg, hnc, hcm, hcs, htake⟩
 ·obtain rfl : l = [] := List.eq_nil_of_length_eq_zero h0
  exact Sl.nil _ _ _
 ·refine ⟨_, cap, rfl, hnc, ⟨hb, by unfold maxLen at hcm; omega⟩, fun i hi => ⟨g, 0, rfl, ?_⟩⟩
  refine hE _ _ _ hbg (List.getElem_mem hi) fun j u hu => ?_
  have hjs : j < sz := by rw [← hf l[i]]; exact (List.getElem?_eq_some_iff.1 hu).1
  have key : ∀ (l : List α) (i : Nat) (hi : i < l.length) (r : Nat), r < sz → (l.flatMap f)[i * sz + r]? = (f l[i])[r]? := by
   intro l
   induction l with
   | nil => intro i hi; simp at hi
   | cons y l ih =>
    intro i hi r hr
    rw [List.flatMap_cons]
    cases i with
    | zero => rw [List.getElem?_append_left (by rw [hf]; omega)]; simp
    | succ i =>
     rw [List.getElem?_append_right (by rw [hf, Nat.add_mul]; omega), hf]
     rw [show (i + 1) * sz + r - sz = i * sz + r by rw [Nat.add_mul]; omega]
     simpa using ih i (by simpa using hi) r hr
  have h5 := key l i hi j hjs
  rw [hu, ← htake] at h5
  rw [cell_of_row w g _ cur e (0, 0) hg, ← Array.getElem?_toList, Nat.zero_add]
  rw [List.getElem?_take] at h5
  split at h5
  ·exact h5
  ·cases h5
def opF (x : GOp) : List Value := [.int .i64 x.kind, .int .i64 x.a]
def nodeF (x : GNode) : List Value := [.int .i64 x.kind, .int .i64 x.n]
def intF (n : Int) : List Value := [.int .i64 n]
theorem Ints.src {w : World} {S : Nat → Prop} {v : Value} {l : List Int} (h : Ints w S v l) : SrcSl w 1 v l.length (l.flatMap intF) :=
 Sl.src intF h (fun _ => rfl) (by simp [intF, Value.oneCell']) (fun b o y hE j u hu => by
  match j, hu with
  | 0, hu => cases hu; exact hE.2.1)
theorem Ops.src {w : World} {S : Nat → Prop} {v : Value} {l : List GOp} (h : Ops w S v l) : SrcSl w 2 v l.length (l.flatMap opF) :=
 Sl.src opF h (fun _ => rfl) (by simp [opF, Value.oneCell']) (fun b o y hE j u hu => by
  match j, hu with
  | 0, hu => cases hu; exact hE.1.2.1
  | 1, hu => cases hu; exact hE.2.2.1)
theorem Nodes.src {w : World} {S : Nat → Prop} {v : Value} {l : List GNode} (h : Nodes w S v l) : SrcSl w 2 v l.length (l.flatMap nodeF) :=
 Sl.src nodeF h (fun _ => rfl) (by simp [nodeF, Value.oneCell']) (fun b o y hE j u hu => by
  match j, hu with
  | 0, hu => cases hu; exact hE.1.2.1
  | 1, hu => cases hu; exact hE.2.2.1)
theorem Ints.of_own {w : World} {base : Nat} {e : TypeId} {v : Value} {l : List Int} (h : w.ownsRow base e 1 v l.length (l.flatMap intF)) (hb : l.length * 8 ≤ 140737488355328) (hI : ∀ x ∈ l, I64 x) (S : Nat → Prop) (hS : ∀ b, base ≤ b → S b) : Ints w S v l :=
 Sl.of_own intF h (fun _ => rfl) hb fun b _ y hbb hy hc => ⟨hS b hbb, hc 0 _ rfl, hI y hy⟩
theorem Ops.of_own {w : World} {base : Nat} {e : TypeId} {v : Value} {l : List GOp} (h : w.ownsRow base e 2 v l.length (l.flatMap opF)) (hb : l.length * 16 ≤ 140737488355328) (hI : ∀ x ∈ l, I64 x.kind ∧ I64 x.a) (S : Nat → Prop) (hS : ∀ b, base ≤ b → S b) : Ops w S v l :=
 Sl.of_own opF h (fun _ => rfl) hb fun b _ y hbb hy hc => ⟨⟨hS b hbb, hc 0 _ rfl, (hI y hy).1⟩, hS b hbb, hc 1 _ rfl, (hI y hy).2⟩
theorem Nodes.of_own {w : World} {base : Nat} {e : TypeId} {v : Value} {l : List GNode} (h : w.ownsRow base e 2 v l.length (l.flatMap nodeF)) (hb : l.length * 16 ≤ 140737488355328) (hI : ∀ x ∈ l, I64 x.kind ∧ I64 x.n) (S : Nat → Prop) (hS : ∀ b, base ≤ b → S b) : Nodes w S v l :=
 Sl.of_own nodeF h (fun _ => rfl) hb fun b _ y hbb hy hc => ⟨⟨hS b hbb, hc 0 _ rfl, (hI y hy).1⟩, hS b hbb, hc 1 _ rfl, (hI y hy).2⟩
theorem Ints.i64 {w : World} {S : Nat → Prop} {v : Value} {l : List Int} (h : Ints w S v l) : ∀ x ∈ l, I64 x := by
 intro x hx
 obtain ⟨i, hi, rfl⟩ := List.getElem_of_mem hx
 obtain ⟨a, cap, rfl, _, _, h4⟩ := h
 obtain ⟨b, o, _, hE⟩ := h4 i hi
 exact hE.2.2
theorem Ops.i64 {w : World} {S : Nat → Prop} {v : Value} {l : List GOp} (h : Ops w S v l) : ∀ x ∈ l, I64 x.kind ∧ I64 x.a := by
 intro x hx
 obtain ⟨i, hi, rfl⟩ := List.getElem_of_mem hx
 obtain ⟨a, cap, rfl, _, _, h4⟩ := h
 obtain ⟨b, o, _, hE⟩ := h4 i hi
 exact ⟨hE.1.2.2, hE.2.2.2⟩
theorem Nodes.i64 {w : World} {S : Nat → Prop} {v : Value} {l : List GNode} (h : Nodes w S v l) : ∀ x ∈ l, I64 x.kind ∧ I64 x.n := by
 intro x hx
 obtain ⟨i, hi, rfl⟩ := List.getElem_of_mem hx
 obtain ⟨a, cap, rfl, _, _, h4⟩ := h
 obtain ⟨b, o, _, hE⟩ := h4 i hi
 exact ⟨hE.1.2.2, hE.2.2.2⟩
theorem Sl.bd {α : Type} {E : Nat → Nat → α → Prop} {sz bytes : Nat} {v : Value} {l : List α} (h : Sl E sz bytes v l) : l.length * bytes ≤ 140737488355328 := by
 obtain ⟨a, cap, rfl, _, h3, _⟩ := h
 exact h3.1
end Go.Proofs.YtgahbngbpfilgaaGreat
end
section
namespace Go.Proofs.YtgahbngbpfilgaaGreat
open Go Go.RowKit
structure RowAt (w : World) (base size : Nat) (v : Value) (n : Nat) (xs : List Value) : Prop where
 len : xs.length = n * size
 val : ∃ a cap, v = .slice a n cap ∧ n ≤ cap ∧ cap ≤ maxLen ∧ (cap = 0 ∨ ∃ g o, a = some ⟨g, o, none⟩ ∧ base ≤ g ∧
  (∀ j, j < n * size → w.cell? ⟨g, o + j, none⟩ = xs[j]?) ∧ (∀ j, j < cap * size → (w.cell? ⟨g, o + j, none⟩).isSome = true ∧ w.frozen? ⟨g, o + j, none⟩ = false))
def rowBlock : Value → Option Nat
 | .slice (some a) _ cap => if cap = 0 then none else some a.block
 | _ => none
theorem rowBlock_some (g o n cap : Nat) (h : cap ≠ 0) : rowBlock (.slice (some ⟨g, o, none⟩) n cap) = some g := by simp [rowBlock, h]
theorem RowAt.nil (w : World) (base size : Nat) (a : Option Addr) : RowAt w base size (.slice a 0 0) 0 [] := ⟨by simp, a, 0, rfl, Nat.le_refl _, Nat.zero_le _, .inl rfl⟩
theorem RowAt.shape {w : World} {base size : Nat} {v : Value} {n : Nat} {xs : List Value} (h : RowAt w base size v n xs) : ∃ a cap, v = .slice a n cap ∧ n ≤ cap ∧ cap ≤ maxLen := by
 obtain ⟨a, cap, e, h1, h2, _⟩ := h.val
 exact ⟨a, cap, e, h1, h2⟩
theorem RowAt.keep {w w' : World} {base size : Nat} {v : Value} {n : Nat} {xs : List Value} (h : RowAt w base size v n xs) (hk : ∀ g, rowBlock v = some g → g < w.heap.size → w'.heap[g]? = w.heap[g]?) (hs : 0 < size) : RowAt w' base size v n xs := by
 obtain ⟨hl, a, cap, rfl, h1, h2, h3⟩ := h
 refine ⟨hl, a, cap, rfl, h1, h2, ?_⟩
 by_cases hc0 : cap = 0
 ·exact .inl hc0
 rcases h3 with h3 | ⟨g, o, rfl, hb, hc, ht⟩
 ·exact .inl h3
 ·have hcs : 0 < cap * size := Nat.mul_pos (by omega) hs
  have hg : g < w.heap.size := World.block_lt_of_cell? w _ (Option.isSome_iff_exists.1 (ht 0 hcs).1).choose_spec
  have e := hk g (rowBlock_some g o n cap hc0) hg
  exact .inr ⟨g, o, rfl, hb, fun j hj => (World.cell?_of_block (a := ⟨g, o + j, none⟩) e).trans (hc j hj), fun j hj => by
   rw [World.cell?_of_block (a := ⟨g, o + j, none⟩) e, World.frozen?_of_block (a := ⟨g, o + j, none⟩) e]; exact ht j hj⟩
theorem RowAt.chg {M : Nat → Prop} {w w' : World} {base size : Nat} {v : Value} {n : Nat} {xs : List Value} (h : RowAt w base size v n xs) (hc : Chg M w w') (hM : ∀ g, rowBlock v = some g → ¬ M g) (hs : 0 < size) : RowAt w' base size v n xs :=
 h.keep (fun g hg hl => hc.block g hl (hM g hg)) hs
theorem RowAt.ext {w w' : World} {base size : Nat} {v : Value} {n : Nat} {xs : List Value} (h : RowAt w base size v n xs) (hc : Ext w w') (hs : 0 < size) : RowAt w' base size v n xs :=
 h.keep (fun g _ hl => hc.block g hl) hs
theorem RowAt.mono {w : World} {base base' size : Nat} {v : Value} {n : Nat} {xs : List Value} (h : RowAt w base size v n xs) (hb : base' ≤ base) : RowAt w base' size v n xs := by
 obtain ⟨hl, a, cap, rfl, h1, h2, h3⟩ := h
 refine ⟨hl, a, cap, rfl, h1, h2, h3.imp id ?_⟩
 rintro ⟨g, o, rfl, hbb, hc⟩
 exact ⟨g, o, rfl, Nat.le_trans hb hbb, hc⟩
theorem RowAt.made (W : World) (cs : Array Value) (e : TypeId) (size n base : Nat) (hb : base ≤ W.heap.size) (hn : n ≤ maxLen) (hs : cs.size = n * size) :
  RowAt (W.alloc (.cells cs e)) base size (.slice (some ⟨W.heap.size, 0, none⟩) n n) n cs.toList := by
 refine ⟨by simpa using hs, _, n, rfl, Nat.le_refl _, hn, .inr ⟨W.heap.size, 0, rfl, hb, fun j hj => ?_, fun j hj => ?_⟩⟩
 ·rw [Nat.zero_add]
  have : (W.alloc (.cells cs e)).cell? ⟨W.heap.size, j, none⟩ = cs[j]? := World.cell?_alloc_new W _ _ j
  rw [this]; simp
 ·rw [Nat.zero_add]
  have e1 : (W.alloc (.cells cs e)).cell? ⟨W.heap.size, j, none⟩ = cs[j]? := World.cell?_alloc_new W _ _ j
  refine ⟨by rw [e1, Array.getElem?_eq_getElem (by omega)]; rfl, World.frozen?_alloc_new W _ _ j⟩
theorem RowAt.le {w : World} {base size : Nat} {v : Value} {n : Nat} {xs : List Value} (h : RowAt w base size v n xs) : ∀ g, rowBlock v = some g → base ≤ g := by
 obtain ⟨hl, a, cap, rfl, h1, h2, h3⟩ := h
 intro g' hg
 by_cases hc0 : cap = 0
 ·subst hc0; cases a <;> simp [rowBlock] at hg
 ·obtain ⟨g, o, rfl, hb, _⟩ := h3.resolve_left hc0
  rw [rowBlock_some g o n cap hc0] at hg
  cases hg
  exact hb
theorem tape_setCells (b : Nat) : ∀ (vs : List Value) (o : Nat) (w : World), (w.setCells b o vs).tape = w.tape
 | [], _, _ => rfl
 | v :: r, o, w => (tape_setCells b r (o + 1) (w.setCell ⟨b, o, none⟩ v)).trans rfl
theorem size_setCells (b : Nat) : ∀ (vs : List Value) (o : Nat) (w : World), (w.setCells b o vs).heap.size = w.heap.size
 | [], _, _ => rfl
 | v :: r, o, w => (size_setCells b r (o + 1) (w.setCell ⟨b, o, none⟩ v)).trans (by simp)
theorem Chg.setCells {M : Nat → Prop} {w w' : World} (h : Chg M w w') {b : Nat} (hb : M b ∨ w.heap.size ≤ b) (o : Nat) (vs : List Value) : Chg M w (w'.setCells b o vs) :=
 ⟨(World.os_setCells _ _ _ _).trans h.os, (tape_setCells _ _ _ _).trans h.tape, (World.output_setCells _ _ _ _).trans h.output, by rw [size_setCells]; exact h.size,
  fun k hk hm => (World.heap_setCells_other w' b o vs (Nat.lt_of_lt_of_le hk h.size) (fun e => by subst e; rcases hb with hb | hb; exact hm hb; omega)).trans (h.block k hk hm)⟩
section
variable {P : Program} {w : World}
theorem src_of_sl {size : Nat} {tx e' : TypeId} (hk : P.underlying tx = some (.slice e')) {x : Value} {m : Nat} {news : List Value} (hx : SrcSl w size x m news) : Src P size tx x m news w := by
 obtain ⟨a, c, rfl, hl, h1, hc⟩ := hx
 match a with
 | some ad =>
  refine Src.ofSlice w hk ad m c news hl ?_ h1
  rcases hc with rfl | ⟨ad', e, h⟩
  ·intro j u hj
   have : news = [] := List.eq_nil_of_length_eq_zero (by simpa using hl)
   rw [this] at hj; simp at hj
  ·cases e; exact h
 | none =>
  have hm : m = 0 := by
   rcases hc with h | ⟨ad, e, _⟩
   ·exact h
   ·cases e
  subst hm
  have hn : news = [] := List.eq_nil_of_length_eq_zero (by simpa using hl)
  subst hn
  exact Src.ofNil w hk c
def NewRow (w w' : World) (base size : Nat) (v v' : Value) (n : Nat) (xs : List Value) : Prop :=
 RowAt w' base size v' n xs ∧ Chg (fun g => rowBlock v = some g) w w' ∧ (rowBlock v' = rowBlock v ∨ ∀ g, rowBlock v' = some g → w.heap.size ≤ g)
theorem run_append_row (base : Nat) (t ty e : TypeId) (i : TypeInfo) (z : Value) (size bytes : Nat) (ht : P.underlying t = some (.slice e)) (hi : P.info? e = some i) (hz : i.zero = some z)
  (hsize : i.size = size) (hby : i.bytes = bytes) (hzs : z.cells.size = size) (hsz : 0 < size)
  (v : Value) (n : Nat) (xs : List Value) (hown : RowAt w base size v n xs) (x : Value) (m : Nat) (news : List Value) (hx : SrcSl w size x m news)
  (h63 : n + m ≤ maxLen) (hbytes : (n + m) * bytes ≤ 140737488355328) (hbase : base ≤ w.heap.size) :
  ∃ v' w', (Builtin.append_ #[t, t] ty #[v, x]).run P w = .ok v' w' ∧ NewRow w w' base size v v' (n + m) (xs ++ news) := by
 subst hsize
 subst hby
 have hs := src_of_sl (P := P) (tx := t) ht hx
 have hnl := hs.newsLen
 have hlen : (xs ++ news).length = (n + m) * i.size := by rw [List.length_append, hown.len, hnl, Nat.add_mul]
 obtain ⟨hl, a, cap, rfl, h1, h2, h3⟩ := hown
 have grow : cap < n + m → (Builtin.firstCells i.size n (.slice a n cap)).run P w.drew = .ok xs.toArray w.drew →
   ∃ v' w', (Builtin.append_ #[t, t] ty #[.slice a n cap, x]).run P w = .ok v' w' ∧ NewRow w w' base i.size (.slice a n cap) v' (n + m) (xs ++ news) := by
  intro hg hold
  have hsmall : n + m ≤ 9223372036854775807 := by simp only [maxLen] at h63; omega
  have hrun := run_append_grow_src (P := P) w t t ty e i z ht hi hz a n cap xs hold x m news hs hg (by omega) (growslice_fits hg hbytes)
  have hge := grownCap_ge w (n + m) cap e
  have hcm := grownCap_le_maxLen w (n + m) cap e h63
  have hsize : ((xs ++ news).toArray ++ Builtin.zeroCells z.cells (grownCap w (n + m) cap e - (n + m))).size = grownCap w (n + m) cap e * i.size := by
   rw [Array.size_append, List.size_toArray, hlen, size_zeroCells, hzs, ← Nat.add_mul]
   congr 1
   omega
  refine ⟨_, _, hrun, ⟨hlen, _, _, rfl, hge, hcm, .inr ⟨w.heap.size, 0, rfl, hbase, fun j hj => ?_, fun j hj => ?_⟩⟩, (Chg.of_ext (Ext.refl w).drew).alloc _, .inr (fun g hg => by
   have : rowBlock (.slice (some ⟨w.heap.size, 0, none⟩) (n + m) (grownCap w (n + m) cap e)) = some w.heap.size := rowBlock_some _ _ _ _ (by omega)
   rw [this] at hg; cases hg; exact Nat.le_refl _)⟩
  ·rw [Nat.zero_add]
   have e1 : (w.drew.alloc (.cells ((xs ++ news).toArray ++ Builtin.zeroCells z.cells (grownCap w (n + m) cap e - (n + m))) e)).cell? ⟨w.heap.size, j, none⟩ = _ := World.cell?_alloc_new w.drew _ _ j
   rw [e1, Array.getElem?_append_left (by simp only [List.size_toArray]; rw [hlen]; exact hj), List.getElem?_toArray]
  ·rw [Nat.zero_add]
   have e1 : (w.drew.alloc (.cells ((xs ++ news).toArray ++ Builtin.zeroCells z.cells (grownCap w (n + m) cap e - (n + m))) e)).cell? ⟨w.heap.size, j, none⟩ = _ := World.cell?_alloc_new w.drew _ _ j
   exact ⟨by rw [e1, Array.getElem?_eq_getElem (by rw [hsize]; exact hj)]; rfl, World.frozen?_alloc_new w.drew _ _ j⟩
 by_cases hc0 : cap = 0
 ·subst hc0
  obtain rfl : n = 0 := by omega
  obtain rfl : xs = [] := List.eq_nil_of_length_eq_zero (by simpa using hl)
  by_cases hm : m = 0
  ·subst hm
   obtain rfl : news = [] := List.eq_nil_of_length_eq_zero (by simpa using hnl)
   exact ⟨_, _, run_append_nothing (P := P) w t t ty e i ht hi a 0 0 (Nat.le_refl _) x hs, by simpa using RowAt.nil w base i.size a, Chg.refl _ _, .inl rfl⟩
  ·refine grow (by omega) ?_
   have := run_firstCells_none (P := P) w.drew i.size 0 0 0
   cases a with
   | none => exact this
   | some ad => exact run_firstCells_some w.drew i.size 0 ad 0 0 [] (by simp) (by simp)
 ·obtain ⟨g, o, rfl, hb, hc, ht'⟩ := h3.resolve_left hc0
  by_cases hroom : n + m ≤ cap
  ·have hfit : (n + m) * i.size ≤ cap * i.size := Nat.mul_le_mul_right _ hroom
   have eaddr : ∀ j, o + n * i.size + j = o + (n * i.size + j) := fun j => Nat.add_assoc _ _ _
   have hin : ∀ j, j < news.length → n * i.size + j < cap * i.size := fun j hj => by rw [hnl] at hj; rw [Nat.add_mul] at hfit; omega
   have hsome : ∀ j, j < news.length → (w.cell? ⟨g, o + n * i.size + j, none⟩).isSome = true := fun j hj => by rw [eaddr]; exact (ht' _ (hin j hj)).1
   have hrun := run_append_room_src (P := P) w t t ty e i ht hi g o n cap x m news hs hroom hsome (fun j hj => by rw [eaddr]; exact (ht' _ (hin j hj)).2)
   refine ⟨_, _, hrun, ⟨hlen, _, _, rfl, hroom, h2, .inr ⟨g, o, rfl, hb, fun j hj => ?_, fun j hj => ?_⟩⟩, Chg.setCells (M := fun b => rowBlock (Value.slice (some ⟨g, o, none⟩) n cap) = some b) (Chg.refl _ _) (.inl (rowBlock_some g o n cap hc0)) _ _, .inl (by simp [rowBlock])⟩
   ·by_cases hj' : j < n * i.size
    ·rw [World.cell?_setCells_out g _ _ _ _ (fun _ _ => .inl (by show o + j < o + n * i.size; omega)), hc j hj', List.getElem?_append_left (by omega)]
    ·have hjn : j - n * i.size < news.length := by rw [hnl]; rw [Nat.add_mul] at hj; omega
     have := World.cell?_setCells_in g news (o + n * i.size) w hsome (j - n * i.size) hjn
     rw [eaddr, show n * i.size + (j - n * i.size) = j by omega] at this
     rw [this, List.getElem?_append_right (by omega), hl, List.getElem?_eq_getElem hjn]
   ·exact ⟨World.isSome_setCells g _ _ _ _ (ht' j hj).1, by rw [World.frozen?_setCells]; exact (ht' j hj).2⟩
  ·refine grow (by omega) (run_firstCells_some w.drew i.size n _ n cap xs hl fun j u hu => ?_)
   have hj : j < n * i.size := by rw [← hl]; exact (List.getElem?_eq_some_iff.1 hu).1
   rw [World.cell?_drew, Addr.add_lit, hc j hj, hu]
theorem wp_append_row {o : Oper} {a : Act} {K : Act → World → Prop} {Q : Exit → Act → World → Prop} (s x : Operand) (t : TypeId)
  (ho : o.op = .call { callee := .builtin .append, args := #[s, x], argTypes := #[t, t] })
  (base : Nat) (e : TypeId) (i : TypeInfo) (z : Value) (size bytes : Nat) (ht : P.underlying t = some (.slice e)) (hi : P.info? e = some i) (hz : i.zero = some z)
  (hsize : i.size = size) (hby : i.bytes = bytes) (hzs : z.cells.size = size) (hsz : 0 < size)
  (v : Value) (n : Nat) (xs : List Value) (hs : a.eval s = v) (hown : RowAt w base size v n xs) (m : Nat) (news : List Value) (hx : SrcSl w size (a.eval x) m news)
  (h63 : n + m ≤ maxLen) (hbytes : (n + m) * bytes ≤ 140737488355328) (hbase : base ≤ w.heap.size)
  (h : ∀ v' w', NewRow w w' base size v v' (n + m) (xs ++ news) → K (a.put o.dst v') w') : o.wp P a w K Q := by
 obtain ⟨v', w', hr, h2⟩ := run_append_row (P := P) base t o.type e i z size bytes ht hi hz hsize hby hzs hsz v n xs hown (a.eval x) m news hx h63 hbytes hbase
 unfold Oper.wp execOp
 simp only [ho, resolve, invoke, builtin, Sem.run_bind, Sem.run_pure, Result.andThen_ok, List.map_toArray, List.map_cons, List.map_nil, hs, hr]
 exact h v' w' h2
theorem wpList_append_row {ops : Array Oper} {rest : List Oper} {o : Oper} {a : Act} {Q : Exit → Act → World → Prop} (hgd : o.guard = none) (s x : Operand) (t : TypeId)
  (ho : o.op = .call { callee := .builtin .append, args := #[s, x], argTypes := #[t, t] })
  (base : Nat) (e : TypeId) (i : TypeInfo) (z : Value) (size bytes : Nat) (ht : P.underlying t = some (.slice e)) (hi : P.info? e = some i) (hz : i.zero = some z)
  (hsize : i.size = size) (hby : i.bytes = bytes) (hzs : z.cells.size = size) (hsz : 0 < size)
  (v : Value) (n : Nat) (xs : List Value) (hs : a.eval s = v) (hown : RowAt w base size v n xs) (m : Nat) (news : List Value) (hx : SrcSl w size (a.eval x) m news)
  (h63 : n + m ≤ maxLen) (hbytes : (n + m) * bytes ≤ 140737488355328) (hbase : base ≤ w.heap.size)
  (h : ∀ v' w', NewRow w w' base size v v' (n + m) (xs ++ news) → wpList P ops Q rest (a.put o.dst v') w') : wpList P ops Q (o :: rest) a w :=
 wpList_plain hgd fun _ hK => wp_append_row s x t ho base e i z size bytes ht hi hz hsize hby hzs hsz v n xs hs hown m news hx h63 hbytes hbase fun v' w' h2 => hK _ _ (h v' w' h2)
theorem wpListIn_append_row {F : Fence} {nF : Nat} {ops : Array Oper} {rest : List Oper} {o : Oper} {a : Act} {Q : Exit → Act → World → Prop} (hgd : o.guard = none) (s x : Operand) (t : TypeId)
  (ho : o.op = .call { callee := .builtin .append, args := #[s, x], argTypes := #[t, t] })
  (base : Nat) (e : TypeId) (i : TypeInfo) (z : Value) (size bytes : Nat) (ht : P.underlying t = some (.slice e)) (hi : P.info? e = some i) (hz : i.zero = some z)
  (hsize : i.size = size) (hby : i.bytes = bytes) (hzs : z.cells.size = size) (hsz : 0 < size)
  (v : Value) (n : Nat) (xs : List Value) (hs : a.eval s = v) (hown : RowAt w base size v n xs) (m : Nat) (news : List Value) (hx : SrcSl w size (a.eval x) m news)
  (h63 : n + m ≤ maxLen) (hbytes : (n + m) * bytes ≤ 140737488355328) (hbase : base ≤ w.heap.size)
  (h : ∀ v' w', NewRow w w' base size v v' (n + m) (xs ++ news) → wpListIn F nF P ops Q rest (a.put o.dst v') w') : wpListIn F nF P ops Q (o :: rest) a w := by
 refine wpListIn_plain hgd fun K hK' => ?_
 obtain ⟨v', w', hrun, r1⟩ := run_append_row (P := P) base t o.type e i z size bytes ht hi hz hsize hby hzs hsz v n xs hown (a.eval x) m news hx h63 hbytes hbase
 unfold Oper.wpIn
 refine ⟨?_, ?_⟩
 ·simp [Oper.about, ho, resolve, Target.leads, Sem.run_pure]
 ·rw [Oper.semAt_plain F _ _ (by rw [ho]; intro c hc'; cases hc')]
  simp only [execOp, ho, resolve, invoke, builtin, Sem.run_bind, Sem.run_pure, Result.andThen_ok, List.map_toArray, List.map_cons, List.map_nil, hs, hrun]
  exact hK' _ _ (h v' w' r1)
end
theorem ext_row {w W W' : World} {base size : Nat} {v v' : Value} {n n' : Nat} {xs xs' : List Value} (h : Ext w W) (ho : RowAt W base size v n xs) (hb : w.heap.size ≤ base) (hr : NewRow W W' base size v v' n' xs') : Ext w W' :=
 Chg.ext_from h hr.2.1 (fun g hg => Nat.le_trans hb (ho.le g hg))
theorem Sl.of_row {α : Type} {E : Nat → Nat → α → Prop} {sz bytes base : Nat} {v : Value} {l : List α} {w : World} (f : α → List Value) (h : RowAt w base sz v l.length (l.flatMap f)) (hf : ∀ y, (f y).length = sz)
  (hb : l.length * bytes ≤ 140737488355328) (hE : ∀ b o y, base ≤ b → rowBlock v = some b → y ∈ l → (∀ j u, (f y)[j]? = some u → w.cell? ⟨b, o + j, none⟩ = some u) → E b o y) : Sl E sz bytes v l := by
 obtain ⟨hl, a, cap, rfl, h1, h2, h3⟩ := h
 refine ⟨a, cap, rfl, h1, ⟨hb, by unfold maxLen at h2; omega⟩, fun i hi => ?_⟩
 obtain ⟨g, o, rfl, hbg, hc, _⟩ := h3.resolve_left (by omega)
 refine ⟨g, o, rfl, hE _ _ _ hbg (rowBlock_some g o _ _ (by omega)) (List.getElem_mem hi) fun j u hu => ?_⟩
 have hjs : j < sz := by rw [← hf l[i]]; exact (List.getElem?_eq_some_iff.1 hu).1
 have key : ∀ (l : List α) (i : Nat) (hi : i < l.length) (r : Nat), r < sz → (l.flatMap f)[i * sz + r]? = (f l[i])[r]? := by
  intro l
  induction l with
  | nil => intro i hi; simp at hi
  | cons y l ih =>
   intro i hi r hr
   rw [List.flatMap_cons]
   cases i with
   | zero => rw [List.getElem?_append_left (by rw [hf]; omega)]; simp
   | succ i =>
    rw [List.getElem?_append_right (by rw [hf, Nat.add_mul]; omega), hf]
    rw [show (i + 1) * sz + r - sz = i * sz + r by rw [Nat.add_mul]; omega]
    simpa using ih i (by simpa using hi) r hr
 have h5 := key l i hi j hjs
 have hlt : i * sz + j < l.length * sz := by
  have : (i + 1) * sz ≤ l.length * sz := Nat.mul_le_mul_right _ hi
  rw [Nat.add_mul] at this
  omega
 rw [Nat.add_assoc, hc _ hlt, h5, hu]
theorem Ints.of_row {w : World} {base : Nat} {v : Value} {l : List Int} (h : RowAt w base 1 v l.length (l.flatMap intF)) (hb : l.length * 8 ≤ 140737488355328) (hI : ∀ x ∈ l, I64 x) (S : Nat → Prop) (hS : ∀ b, base ≤ b → rowBlock v = some b → S b) : Ints w S v l :=
 Sl.of_row intF h (fun _ => rfl) hb fun b _ y hbb ho hy hc => ⟨hS b hbb ho, hc 0 _ rfl, hI y hy⟩
theorem Ops.of_row {w : World} {base : Nat} {v : Value} {l : List GOp} (h : RowAt w base 2 v l.length (l.flatMap opF)) (hb : l.length * 16 ≤ 140737488355328) (hI : ∀ x ∈ l, I64 x.kind ∧ I64 x.a) (S : Nat → Prop) (hS : ∀ b, base ≤ b → rowBlock v = some b → S b) : Ops w S v l :=
 Sl.of_row opF h (fun _ => rfl) hb fun b _ y hbb ho hy hc => ⟨⟨hS b hbb ho, hc 0 _ rfl, (hI y hy).1⟩, hS b hbb ho, hc 1 _ rfl, (hI y hy).2⟩
theorem Nodes.of_row {w : World} {base : Nat} {v : Value} {l : List GNode} (h : RowAt w base 2 v l.length (l.flatMap nodeF)) (hb : l.length * 16 ≤ 140737488355328) (hI : ∀ x ∈ l, I64 x.kind ∧ I64 x.n) (S : Nat → Prop) (hS : ∀ b, base ≤ b → rowBlock v = some b → S b) : Nodes w S v l :=
 Sl.of_row nodeF h (fun _ => rfl) hb fun b _ y hbb ho hy hc => ⟨⟨hS b hbb ho, hc 0 _ rfl, (hI y hy).1⟩, hS b hbb ho, hc 1 _ rfl, (hI y hy).2⟩
theorem RowAt.tail {w : World} {base size cap n : Nat} {a : Option Addr} {xs : List Value} (h : RowAt w base size (.slice a (n + 1) cap) (n + 1) xs) :
  ∃ g o, a = some ⟨g, o, none⟩ ∧ n < cap ∧ cap ≤ maxLen ∧ RowAt w base size (.slice (if cap = 1 then some ⟨g, o, none⟩ else some ⟨g, o + size, none⟩) n (cap - 1)) n (xs.drop size) ∧ (∀ j, j < size → w.cell? ⟨g, o + j, none⟩ = xs[j]?) := by
 obtain ⟨hl, a', cap', e, h1, h2, h3⟩ := h
 simp only [Value.slice.injEq] at e
 obtain ⟨rfl, -, rfl⟩ := e
 obtain ⟨g, o, rfl, hb, hc, ht⟩ := h3.resolve_left (by omega)
 rw [Nat.add_mul, Nat.one_mul] at hl hc
 refine ⟨g, o, rfl, by omega, h2, ⟨by rw [List.length_drop]; omega, _, _, rfl, by omega, by omega, ?_⟩, fun j hj => hc j (by omega)⟩
 by_cases hc1 : cap = 1
 ·exact .inl (by omega)
 ·rw [if_neg hc1]
  have hcap : (cap - 1) * size + size = cap * size := by rw [← Nat.succ_mul]; congr 1; omega
  refine .inr ⟨g, o + size, rfl, hb, fun j hj => ?_, fun j hj => ?_⟩
  ·rw [Nat.add_assoc, hc _ (by omega), List.getElem?_drop]
  ·rw [Nat.add_assoc]; exact ht _ (by omega)
theorem RowAt.store {w : World} {base size n cap g o : Nat} {xs : List Value} (h : RowAt w base size (.slice (some ⟨g, o, none⟩) n cap) n xs) {j : Nat} (hj : j < n * size) (u : Value) :
  RowAt (w.setCell ⟨g, o + j, none⟩ u) base size (.slice (some ⟨g, o, none⟩) n cap) n (xs.set j u) := by
 obtain ⟨hl, a', cap', e, h1, h2, h3⟩ := h
 simp only [Value.slice.injEq] at e
 obtain ⟨rfl, -, rfl⟩ := e
 have hn : 0 < n := by
  rcases Nat.eq_zero_or_pos n with h0 | h0
  ·subst h0; simp at hj
  ·exact h0
 obtain ⟨g', o', e, hb, hc, ht⟩ := h3.resolve_left (by omega)
 simp only [Option.some.injEq, Addr.mk.injEq] at e
 obtain ⟨rfl, rfl, -⟩ := e
 have hcap : n * size ≤ cap * size := Nat.mul_le_mul_right _ h1
 refine ⟨by simpa using hl, _, cap, rfl, h1, h2, .inr ⟨g, o, rfl, hb, fun i hi => ?_, fun i hi => ?_⟩⟩
 ·by_cases e : i = j
  ·subst e
   rw [World.cell?_setCell_same' _ _ _ (ht i (by omega)).1, List.getElem?_set_self (by omega)]
  ·have hne : (⟨g, o + j, none⟩ : Addr) ≠ ⟨g, o + i, none⟩ := by intro h; simp only [Addr.mk.injEq] at h; omega
   rw [List.getElem?_set_ne (fun h => e h.symm), ← hc i hi]
   exact World.cell?_setCell_other _ _ _ _ hne
 ·refine ⟨?_, by rw [World.frozen?_setCell]; exact (ht i hi).2⟩
  have := World.isSome_setCells g [u] (o + j) w ⟨g, o + i, none⟩ (ht i hi).1
  exact this
theorem RowAt.cell {w : World} {base size n cap : Nat} {a : Option Addr} {xs : List Value} (h : RowAt w base size (.slice a n cap) n xs) (hn : 0 < n) : ∃ g o, a = some ⟨g, o, none⟩ ∧ base ≤ g ∧ (∀ j, j < n * size → w.cell? ⟨g, o + j, none⟩ = xs[j]? ∧ w.frozen? ⟨g, o + j, none⟩ = false) := by
 obtain ⟨hl, a', cap', e, h1, h2, h3⟩ := h
 simp only [Value.slice.injEq] at e
 obtain ⟨rfl, -, rfl⟩ := e
 obtain ⟨g, o, rfl, hb, hc, ht⟩ := h3.resolve_left (by omega)
 have hcap : n * size ≤ cap * size := Nat.mul_le_mul_right _ h1
 exact ⟨g, o, rfl, hb, fun j hj => ⟨hc j hj, (ht j (by omega)).2⟩⟩
end Go.Proofs.YtgahbngbpfilgaaGreat
end
section
namespace Go.Proofs.YtgahbngbpfilgaaGreat
open Go Go.RowKit
set_option maxRecDepth 100000 in
theorem infoI : (Tryz.prog.info? 3).map (fun i => (i.zero, i.size, i.bytes)) = some (some (.int .i64 0), 1, 8) := by kernel_rfl
def ints (l : List Int) : List Value := l.map (Value.int .i64)
theorem flatMap_intF (l : List Int) : l.flatMap intF = ints l := by
 induction l with
 | nil => rfl
 | cons x l ih => rw [List.flatMap_cons, ih]; rfl
theorem ints_set (l : List Int) (k : Nat) (n : Int) : (ints l).set k (.int .i64 n) = ints (l.set k n) := by simp [ints, List.map_set]
theorem ints_get (l : List Int) (k : Nat) (h : k < l.length) : (ints l)[k]? = some (.int .i64 (l.getD k 0)) := by simp [ints, List.getD, h]
theorem ints_len (l : List Int) : (ints l).length = l.length := by simp [ints]
theorem ints_app (l m : List Int) : ints (l ++ m) = ints l ++ ints m := by simp [ints]
def IRow (w : World) (base g : Nat) (l : List Int) : Prop := RowAt w base 1 (.slice (some ⟨g, 0, none⟩) l.length l.length) l.length (ints l)
theorem IRow.at {w : World} {base g : Nat} {l : List Int} (h : IRow w base g l) {k : Nat} (hk : k < l.length) : w.cell? ⟨g, k, none⟩ = some (.int .i64 (l.getD k 0)) ∧ w.frozen? ⟨g, k, none⟩ = false ∧ base ≤ g := by
 obtain ⟨g', o, e, hb, hc⟩ := h.cell (by omega)
 simp only [Option.some.injEq, Addr.mk.injEq] at e
 obtain ⟨rfl, rfl, -⟩ := e
 have := hc k (by omega)
 rw [Nat.zero_add, ints_get l k hk] at this
 exact ⟨this.1, this.2, hb⟩
theorem IRow.store {w : World} {base g : Nat} {l : List Int} (h : IRow w base g l) {k : Nat} (hk : k < l.length) (n : Int) : IRow (w.setCell ⟨g, k, none⟩ (.int .i64 n)) base g (l.set k n) := by
 have := RowAt.store h (j := k) (by omega) (.int .i64 n)
 rw [Nat.zero_add, ints_set] at this
 unfold IRow
 rw [List.length_set]
 exact this
theorem IRow.ext {w w' : World} {base g : Nat} {l : List Int} (h : IRow w base g l) (he : Ext w w') : IRow w' base g l := RowAt.ext h he (by decide)
theorem IRow.chg {M : Nat → Prop} {w w' : World} {base g : Nat} {l : List Int} (h : IRow w base g l) (he : Chg M w w') (hM : ¬ M g) : IRow w' base g l :=
 RowAt.chg h he (fun g' hg => by
  simp only [rowBlock] at hg
  split at hg
  ·cases hg
  ·cases hg; exact hM) (by decide)
theorem chg_one (w : World) (b o : Nat) (u : Value) : Chg (· = b) w (w.setCell ⟨b, o, none⟩ u) := Chg.setCell (M := (· = b)) (p := ⟨b, o, none⟩) (Chg.refl _ _) (.inl rfl) u
theorem IRow.other {w : World} {base g : Nat} {l : List Int} (h : IRow w base g l) {b o : Nat} (hb : b ≠ g) (u : Value) : IRow (w.setCell ⟨b, o, none⟩ u) base g l :=
 h.chg (chg_one w b o u) (fun e => hb e.symm)
theorem IRow.mono {w : World} {base base' g : Nat} {l : List Int} (h : IRow w base g l) (hb : base' ≤ base) : IRow w base' g l := RowAt.mono h hb
theorem IRow.ints {w : World} {base g : Nat} {l : List Int} (h : IRow w base g l) (hb : l.length ≤ 1000000) (hI : ∀ x ∈ l, I64 x) (S : Nat → Prop) (hS : ∀ b, base ≤ b → S b) : Ints w S (.slice (some ⟨g, 0, none⟩) l.length l.length) l :=
 Ints.of_row (base := base) (by rw [flatMap_intF]; exact h) (by omega) hI S (fun b hbb _ => hS b hbb)
theorem RowAt.of_own {w : World} {base : Nat} {e : TypeId} {size : Nat} {v : Value} {n : Nat} {xs : List Value} (h : w.ownsRow base e size v n xs) : RowAt w base size v n xs := by
 refine ⟨h.1, ?_⟩
 rcases h.2 with ⟨rfl, rfl⟩ | ⟨g, cap, cur, rfl, hbg, hg, hnc, hcm, hcs, htake⟩
 ·exact ⟨none, 0, rfl, Nat.le_refl _, Nat.zero_le _, .inl rfl⟩
 ·refine ⟨_, cap, rfl, hnc, hcm, .inr ⟨g, 0, rfl, hbg, fun j hj => ?_, fun j hj => ?_⟩⟩
  ·rw [Nat.zero_add, cell_of_row w g _ cur e (0, 0) hg, ← htake, List.getElem?_take, if_pos hj, Array.getElem?_toList]
  ·rw [Nat.zero_add]
   refine ⟨by rw [cell_of_row w g _ cur e (0, 0) hg, Array.getElem?_eq_getElem (by omega)]; rfl, frozen_of_row w g _ cur e hg⟩
theorem ext_none {w w' : World} (hg : w.grownBy w' none) : Ext w w' := (Ext.refl w).grown hg (fun _ h => by cases h)
structure RightF (p : List GFunc) (f : GFunc) : Prop where
 len : f.code.length ≤ 24
 op : ∀ x ∈ f.code, 0 ≤ x.kind ∧ x.kind ≤ 16 ∧ 0 ≤ x.a ∧ (x.kind = 9 ∨ x.kind = 10 → x.a < f.code.length) ∧ (x.kind = 11 → x.a < p.length) ∧ 0 ≤ takesOf p x ∧ takesOf p x ≤ 4
 locals : 0 ≤ f.args ∧ f.args ≤ f.locals ∧ f.locals ≤ 4
theorem sizedB_facts {f : GFunc} (h : sizedB f = true) : 0 ≤ f.args ∧ f.args ≤ f.locals ∧ f.locals ≤ 4 := by
 unfold sizedB at h
 exact of_decide_eq_true h
theorem funcErr_zero {p : List GFunc} {f : Int} (h : funcErr p f = 0) : 0 ≤ f ∧ f < p.length ∧ ∀ hf : f.toNat < p.length, RightF p p[f.toNat] := by
 unfold funcErr at h
 by_cases hf : 0 ≤ f ∧ f < p.length
 ·rw [if_neg (fun k => k hf)] at h
  refine ⟨hf.1, hf.2, fun hl => ?_⟩
  have e : p.getD f.toNat default = p[f.toNat] := by simp [List.getD, List.getElem?_eq_getElem hl]
  rw [e] at h
  by_cases h2 : 24 < p[f.toNat].code.length
  ·rw [if_pos h2] at h; omega
  ·rw [if_neg h2] at h
   cases h3 : sizedB p[f.toNat] with
   | false => rw [if_pos h3] at h; omega
   | true =>
    rw [if_neg (by rw [h3]; decide)] at h
    refine ⟨by omega, fun x hx => ?_, sizedB_facts h3⟩
    have hops := ok_ops h x hx
    obtain ⟨k0, k1, a0, a1, hs, _⟩ := ok_facts hops
    have h11 : x.kind = 11 → x.a < p.length := fun hk => by
     unfold mostOf at a1
     rw [if_neg (by omega), if_neg (by omega), if_neg (by omega), if_pos (.inl hk)] at a1
     omega
    refine ⟨k0, k1, a0, fun hk => ?_, h11, ?_⟩
    ·unfold mostOf at a1
     rw [if_neg (by omega), if_neg (by omega), if_pos hk] at a1
     omega
    ·unfold takesOf
     split
     ·omega
     ·split
      ·omega
      ·split
       ·rename_i hk
        have := sizedB_facts (hs (.inl hk))
        omega
       ·omega
 ·rw [if_pos hf] at h; omega
theorem RightF.jumps {p : List GFunc} {f : GFunc} (h : RightF p f) : Jumps f.code := by
 intro k hk hj
 have e : f.code.getD k default = f.code[k] := by simp [List.getD, List.getElem?_eq_getElem hk]
 rw [e] at hj ⊢
 obtain ⟨_, _, h3, h4, _⟩ := h.op _ (List.getElem_mem hk)
 have := h4 hj
 omega
theorem RowAt.get_int {w : World} {base cap : Nat} {a : Option Addr} {l : List Int} (h : RowAt w base 1 (.slice a l.length cap) l.length (ints l)) {q : Nat} (hq : q < l.length) :
  ∃ g o, a = some ⟨g, o, none⟩ ∧ base ≤ g ∧ w.cell? ⟨g, o + q, none⟩ = some (.int .i64 (l.getD q 0)) := by
 obtain ⟨g, o, rfl, hb, hc⟩ := h.cell (by omega)
 refine ⟨g, o, rfl, hb, ?_⟩
 rw [(hc q (by omega)).1, ints_get l q hq]
theorem src_one (w : World) (n : Int) (t : TypeId) : SrcSl (w.alloc (.cells #[.int .i64 n] t)) 1 (.slice (some ⟨w.heap.size, 0, none⟩) 1 1) 1 (ints [n]) := by
 refine ⟨_, 1, rfl, rfl, by simp [ints, Value.oneCell'], .inr ⟨_, rfl, fun j u hj => ?_⟩⟩
 match j, hj with
 | 0, hj =>
  cases hj
  rw [Addr.add_zero']
  exact World.cell?_alloc_new w _ _ 0
def nats (l : List Nat) : List Int := l.map (fun k : Nat => (k : Int))
theorem nats_len (l : List Nat) : (nats l).length = l.length := by simp [nats]
theorem nats_get (l : List Nat) (q : Nat) (h : q < l.length) : (nats l).getD q 0 = (l.getD q 0 : Nat) := by simp [nats, List.getD, h]
def oneFrom (p : List GFunc) (code : List GOp) (i : Nat) (out : List Int) : Option (List Int) := oneR p code (List.range' i (code.length - i)) out
theorem oneFrom_zero (p : List GFunc) (code : List GOp) (out : List Int) : oneR p code (List.range code.length) out = oneFrom p code 0 out := by unfold oneFrom; rw [List.range_eq_range', Nat.sub_zero]
theorem oneFrom_end (p : List GFunc) (code : List GOp) (out : List Int) : oneFrom p code code.length out = some out := by unfold oneFrom; rw [Nat.sub_self]; rfl
theorem oneFrom_step (p : List GFunc) (code : List GOp) {i : Nat} (out : List Int) (h : i < code.length) : oneFrom p code i out = match one1 p code i out with
  | none => none
  | some o => oneFrom p code (i + 1) o := by
 unfold oneFrom
 rw [show code.length - i = (code.length - (i + 1)) + 1 by omega, List.range'_succ]
 rfl
theorem getD_eq {l : List GOp} {i : Nat} (h : i < l.length) : l.getD i default = l[i] := by simp [List.getD, List.getElem?_eq_getElem h]
theorem one1_neg {p : List GFunc} {code : List GOp} {i : Nat} {out : List Int} (h : out.getD i 0 < 0) : one1 p code i out = some out := by unfold one1; rw [if_pos h]
theorem one1_bad {p : List GFunc} {code : List GOp} {i : Nat} {out : List Int} (hi : i < code.length) (h : ¬ out.getD i 0 < 0) (hb : badB p code[i] (out.getD i 0) = true) : one1 p code i out = none := by
 unfold one1; rw [if_neg h, getD_eq hi, if_pos hb]
theorem one1_put {p : List GFunc} {code : List GOp} {i : Nat} {out : List Int} (hi : i < code.length) (h : ¬ out.getD i 0 < 0) (hb : badB p code[i] (out.getD i 0) = false) : one1 p code i out = putAll code.length (nOf p code[i] (out.getD i 0)) (nx code[i] i) out := by
 unfold one1; rw [if_neg h, getD_eq hi, hb]; rfl
theorem putAll_drop {len : Nat} {n : Int} {is : List Nat} {out : List Int} {q : Nat} (h : q < is.length) : putAll len n (is.drop q) out = if is.getD q 0 = len ∨ (0 ≤ out.getD (is.getD q 0) 0 ∧ out.getD (is.getD q 0) 0 ≠ n) then none else putAll len n (is.drop (q + 1)) (out.set (is.getD q 0) n) := by
 rw [List.drop_eq_getElem_cons h, show is.getD q 0 = is[q] by simp [List.getD, List.getElem?_eq_getElem h]]
 rfl
end Go.Proofs.YtgahbngbpfilgaaGreat
end
