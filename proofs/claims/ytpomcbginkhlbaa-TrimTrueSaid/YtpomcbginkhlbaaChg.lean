/- Worlds in which some old blocks may have been written, and new ones have come. No condition. -/
import Derived.Test.YtpomcbginkhlbaaBase
namespace Go.Proofs.Ytpomcbginkhlbaa
open Go Go.RowKit

/-- Old blocks are as they were, but those of M; new ones may have come. -/
structure Chg (M : Nat → Prop) (w w' : World) : Prop where
  os : w'.os = w.os
  tape : w'.tape = w.tape
  output : w'.output = w.output
  size : w.heap.size ≤ w'.heap.size
  block : ∀ k, k < w.heap.size → ¬ M k → w'.heap[k]? = w.heap[k]?

theorem Chg.refl (M : Nat → Prop) (w : World) : Chg M w w := ⟨rfl, rfl, rfl, Nat.le_refl _, fun _ _ _ => rfl⟩
theorem Chg.trans' {M M' : Nat → Prop} {a b c : World} (h : Chg M a b) (k : Chg M' b c) (hM : ∀ n, n < a.heap.size → M' n → M n) : Chg M a c :=
  ⟨k.os.trans h.os, k.tape.trans h.tape, k.output.trans h.output, Nat.le_trans h.size k.size, fun i hi hm => (k.block i (Nat.lt_of_lt_of_le hi h.size) (fun h' => hm (hM i hi h'))).trans (h.block i hi hm)⟩
theorem Chg.trans {M : Nat → Prop} {a b c : World} (h : Chg M a b) (k : Chg M b c) : Chg M a c := h.trans' k (fun _ _ h => h)
theorem Chg.mono {M M' : Nat → Prop} {a b : World} (h : Chg M a b) (hM : ∀ n, n < a.heap.size → M n → M' n) : Chg M' a b := ⟨h.os, h.tape, h.output, h.size, fun i hi hm => h.block i hi (fun h' => hm (hM i hi h'))⟩
theorem Chg.of_ext {M : Nat → Prop} {a b : World} (h : Ext a b) : Chg M a b := ⟨h.os, h.tape, h.output, h.size, fun i hi _ => h.block i hi⟩
theorem Chg.ext {M : Nat → Prop} {a b : World} (h : Chg M a b) (hM : ∀ n, n < a.heap.size → ¬ M n) : Ext a b := ⟨h.os, h.tape, h.output, h.size, fun i hi => h.block i hi (hM i hi)⟩
/-- Seen from an earlier world. -/
theorem Chg.ext_from {M : Nat → Prop} {w a b : World} (h0 : Ext w a) (h : Chg M a b) (hM : ∀ n, M n → w.heap.size ≤ n) : Ext w b :=
  ⟨h.os.trans h0.os, h.tape.trans h0.tape, h.output.trans h0.output, Nat.le_trans h0.size h.size, fun i hi => (h.block i (Nat.lt_of_lt_of_le hi h0.size) (fun h' => by have := hM i h'; omega)).trans (h0.block i hi)⟩
theorem Chg.alloc {M : Nat → Prop} {w w' : World} (h : Chg M w w') (o : Obj) : Chg M w (w'.alloc o) := h.trans (Chg.of_ext ((Ext.refl _).alloc o))
theorem Chg.drew {M : Nat → Prop} {w w' : World} (h : Chg M w w') : Chg M w w'.drew := h.trans (Chg.of_ext (Ext.refl _).drew)
theorem Chg.drewN {M : Nat → Prop} {w w' : World} (h : Chg M w w') (n : Nat) : Chg M w (w'.drewN n) := h.trans (Chg.of_ext ((Ext.refl _).drewN n))
theorem Chg.setCell {M : Nat → Prop} {w w' : World} (h : Chg M w w') {p : Addr} (hp : M p.block ∨ w.heap.size ≤ p.block) (u : Value) : Chg M w (w'.setCell p u) :=
  ⟨h.os, h.tape, h.output, by simpa using h.size, fun i hi hm => (Below.heap_setCell _ _ _ _ (fun e => by rcases hp with hp | hp; exact hm (e ▸ hp); omega)).trans (h.block i hi hm)⟩
theorem Chg.setRow {M : Nat → Prop} {w w' : World} (h : Chg M w w') {g : Nat} (hg : M g ∨ w.heap.size ≤ g) (cs : Array Value) : Chg M w (w'.setRow g cs) :=
  ⟨h.os, h.tape, h.output, by simpa using h.size, fun i hi hm => (setRow_other _ _ _ _ (fun e => by rcases hg with hp | hp; exact hm (e ▸ hp); omega)).trans (h.block i hi hm)⟩
theorem Chg.grown {M : Nat → Prop} {w w' w'' : World} {row : Option Nat} (h : Chg M w w') (hg : w'.grownBy w'' row) (hr : ∀ k, row = some k → M k ∨ w.heap.size ≤ k) : Chg M w w'' :=
  ⟨hg.os.trans h.os, hg.tape.trans h.tape, hg.output.trans h.output, Nat.le_trans h.size hg.size, fun i hi hm => (hg.block i (Nat.lt_of_lt_of_le hi h.size) (fun e => by rcases hr i e.symm with hp | hp; exact hm hp; omega)).trans (h.block i hi hm)⟩
theorem Chg.heap {M : Nat → Prop} {w w' : World} (h : Chg M w w') {g : Nat} (hm : ¬ M g) {o : Obj} (hg : w.heap[g]? = some o) : w'.heap[g]? = some o := by
  rw [h.block g (Array.getElem?_eq_some_iff.1 hg).1 hm]; exact hg
theorem Chg.cell {M : Nat → Prop} {w w' : World} (h : Chg M w w') {b o : Nat} (hm : ¬ M b) {v : Value} (hc : w.cell? ⟨b, o, none⟩ = some v) : w'.cell? ⟨b, o, none⟩ = some v :=
  (World.cell?_of_block (a := ⟨b, o, none⟩) (h.block b (lt_of_cell hc) hm)).trans hc
theorem Chg.frozen {M : Nat → Prop} {w w' : World} (h : Chg M w w') {b o : Nat} (hm : ¬ M b) (hb : b < w.heap.size) : w'.frozen? ⟨b, o, none⟩ = w.frozen? ⟨b, o, none⟩ :=
  World.frozen?_of_block (a := ⟨b, o, none⟩) (h.block b hb hm)
theorem Chg.stays {M S : Nat → Prop} {w w' : World} (h : Chg M w w') (hS : ∀ b, S b → ¬ M b) : Stays S S w w' := fun _ _ _ hb hc => ⟨h.cell (hS _ hb) hc, hb⟩
end Go.Proofs.Ytpomcbginkhlbaa
