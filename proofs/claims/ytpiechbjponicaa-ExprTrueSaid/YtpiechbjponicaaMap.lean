/- A small map of ints that a call makes: how its making, its two stores and a lookup run. No condition. -/
import Derived.Test.YtpiechbjponicaaBase
import Derived.WalkKit
set_option maxHeartbeats 400000
set_option maxRecDepth 100000
namespace Go.Proofs.Ytpiechbjponicaa
open Go Go.RowKit

theorem run_getObj_map {P : Program} (w : World) (es : Array MapEntry) (c : Nat) : (getObj w.heap.size).run P (w.alloc (.map es c)) = .ok (.map es c) (w.alloc (.map es c)) := by
  have h := heap_alloc_new w (.map es c)
  simp only [getObj, Sem.run, h]

theorem set_push {α : Type} (l : Array α) (a b : α) : (l.push a).setIfInBounds l.size b = l.push b := by
  apply Array.ext'
  simp

theorem run_setObj_map {P : Program} (w : World) (es es' : Array MapEntry) (c c' : Nat) : (setObj w.heap.size (.map es' c')).run P (w.alloc (.map es c)) = .ok () (w.alloc (.map es' c')) := by
  have h := heap_alloc_new w (.map es c)
  simp only [setObj, Sem.run, h]
  congr 1
  show ({ w with heap := (w.heap.push (.map es c)).setIfInBounds w.heap.size (.map es' c') } : World) = { w with heap := w.heap.push (.map es' c') }
  rw [set_push]

section
variable {P : Program} {T K E : TypeId} (hT : P.underlying T = some (.map K E)) (hK : P.underlying K = some (.int .i64)) (w : World)

include hK in
theorem run_checkKey_int (b : Bool) (k : Int) : (Instr.checkKey b 10000 K (.int .i64 k)).run P w = .ok () w := by
  rw [show (10000 : Nat) = 9999 + 1 from rfl]
  unfold Instr.checkKey
  simp only [Sem.run_bind, run_underlying hK, Result.andThen_ok]
  rfl

include hK in
theorem run_findKey_int (k : Int) (es : List MapEntry) (r : Option (Nat × Value)) (h : Instr.findNow (.int .i64) (.int .i64 k) es 0 = some r) : (Instr.findKey K (.int .i64 k) es).run P w = .ok r w := by
  unfold Instr.findKey
  simp only [Sem.run_bind, run_underlying hK, Result.andThen_ok, h]
  rfl

include hT hK

theorem run_upd0 (x : Value) : (Instr.mapUpdate T (.map (some w.heap.size)) (.int .i64 0) x).run P (w.alloc (.map #[] 0)) = .ok () (w.alloc (.map #[⟨.int .i64 0, x, 0⟩] 1)) := by
  unfold Instr.mapUpdate
  simp only [Sem.run_bind, run_underlying hT, run_getObj_map, Result.andThen_ok, run_checkKey_int hK, run_findKey_int hK _ 0 [] none rfl, run_setObj_map]
  rfl

theorem run_upd1 (x y : Value) : (Instr.mapUpdate T (.map (some w.heap.size)) (.int .i64 1) y).run P (w.alloc (.map #[⟨.int .i64 0, x, 0⟩] 1)) = .ok () (w.alloc (.map #[⟨.int .i64 0, x, 0⟩, ⟨.int .i64 1, y, 1⟩] 2)) := by
  unfold Instr.mapUpdate
  simp only [Sem.run_bind, run_underlying hT, run_getObj_map, Result.andThen_ok, run_checkKey_int hK, run_findKey_int hK _ 1 [⟨.int .i64 0, x, 0⟩] none rfl, run_setObj_map]
  rfl

theorem run_look2 (hz : ∀ w : World, (zeroValue E).run P w = .ok (.int .i64 0) w) (x y k : Int) : (Instr.lookup T (.map (some w.heap.size)) (.int .i64 k) false).run P (w.alloc (.map #[⟨.int .i64 0, .int .i64 x, 0⟩, ⟨.int .i64 1, .int .i64 y, 1⟩] 2)) =
    .ok (.int .i64 (if k = 0 then x else if k = 1 then y else 0)) (w.alloc (.map #[⟨.int .i64 0, .int .i64 x, 0⟩, ⟨.int .i64 1, .int .i64 y, 1⟩] 2)) := by
  unfold Instr.lookup
  have e : Instr.findNow (.int .i64) (.int .i64 k) [⟨.int .i64 0, .int .i64 x, 0⟩, ⟨.int .i64 1, .int .i64 y, 1⟩] 0 = some (if k = 0 then some (0, .int .i64 x) else if k = 1 then some (1, .int .i64 y) else none) := by
    by_cases h0 : k = 0
    · subst h0; rfl
    · have e0 : (k == 0) = false := by simp [h0]
      by_cases h1 : k = 1
      · subst h1; rfl
      · have e1 : (k == 1) = false := by simp [h1]
        simp [Instr.findNow, Instr.sameNow, e0, e1, h0, h1]
  simp only [Sem.run_bind, Sem.run_pure, run_underlying hT, run_getObj_map, Result.andThen_ok, run_checkKey_int hK]
  rw [run_findKey_int hK _ k _ _ e]
  by_cases h0 : k = 0
  · simp only [h0, if_true, Sem.run_bind, Sem.run_pure, Result.andThen_ok]; rfl
  · by_cases h1 : k = 1
    · simp only [h1, if_true, Result.andThen_ok]; rfl
    · simp only [h0, h1, if_false, Sem.run_bind, Sem.run_pure, Result.andThen_ok, hz]; rfl

/-- All three at a made map's own number. -/
theorem run_map2 (hz : ∀ w : World, (zeroValue E).run P w = .ok (.int .i64 0) w) (n : Nat) (hn : n = w.heap.size) (x y k : Int) :
    (Instr.mapUpdate T (.map (some n)) (.int .i64 0) (.int .i64 x)).run P (w.alloc (.map #[] 0)) = .ok () (w.alloc (.map #[⟨.int .i64 0, .int .i64 x, 0⟩] 1)) ∧
    (Instr.mapUpdate T (.map (some n)) (.int .i64 1) (.int .i64 y)).run P (w.alloc (.map #[⟨.int .i64 0, .int .i64 x, 0⟩] 1)) = .ok () (w.alloc (.map #[⟨.int .i64 0, .int .i64 x, 0⟩, ⟨.int .i64 1, .int .i64 y, 1⟩] 2)) ∧
    (Instr.lookup T (.map (some n)) (.int .i64 k) false).run P (w.alloc (.map #[⟨.int .i64 0, .int .i64 x, 0⟩, ⟨.int .i64 1, .int .i64 y, 1⟩] 2)) =
      .ok (.int .i64 (if k = 0 then x else if k = 1 then y else 0)) (w.alloc (.map #[⟨.int .i64 0, .int .i64 x, 0⟩, ⟨.int .i64 1, .int .i64 y, 1⟩] 2)) := by
  subst hn
  exact ⟨run_upd0 hT hK w _, run_upd1 hT hK w _ _, run_look2 hT hK w hz x y k⟩
end
end Go.Proofs.Ytpiechbjponicaa
