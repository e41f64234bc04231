/- Heights by their values; programs and rows of numbers in new memory. -/
import Derived.Test.YtpomcbginkhlbaaFlowH
import Derived.Test.YtpomcbginkhlbaaSame
import Derived.Test.YtpomcbginkhlbaaCnt
set_option maxHeartbeats 4000000
set_option maxRecDepth 100000
namespace Go.Proofs.Ytpomcbginkhlbaa
open Go Go.RowKit

theorem heights_val (p : List GFunc) (v : Value) (S : Nat → Prop) (f : Int) (w : World) (hp : Funcs w S v p) (r : Int) (l : List Int) (n : Nat) (hr : hErr p f = r) (hl : hList p f = l) (hn : l.length = n) :
    Calls Try.prog 18 #[v, .int .i64 f] w fun e w' => (∃ a cap, e = .returned (.tuple #[.slice a n cap, .int .i64 r]) ∧ Ints w' (fun _ => True) (.slice a n cap) l) ∧ Ext w w' := by
  subst hn
  refine (flowHeights_any p v S f w hp).mono fun e w' ⟨⟨v, he, hi⟩, hb⟩ => ⟨?_, hb⟩
  rw [hl] at hi
  rw [hr] at he
  have hi2 := hi
  obtain ⟨a, cap, rfl, _, _, _⟩ := hi
  exact ⟨a, cap, he, Ints.stays (Stays.widen (fun _ _ => trivial)) hi2⟩

theorem heightsOf_val (p : List GFunc) (v : Value) (S : Nat → Prop) (f : Int) (w : World) (hp : Funcs w S v p) :
    Calls Try.prog 34 #[v, .int .i64 f] w fun e w' => (∃ a cap, e = .returned (.tuple #[.slice a (hList p f).length cap, .int .i64 (hErr p f)]) ∧ Ints w' (fun _ => True) (.slice a (hList p f).length cap) (hList p f)) ∧ Ext w w' := by
  refine (heightsOf_any p v S f w hp).mono fun e w' ⟨⟨v, he, hi⟩, hb⟩ => ⟨?_, hb⟩
  have hi2 := hi
  obtain ⟨a, cap, rfl, _, _, _⟩ := hi
  exact ⟨a, cap, he, Ints.stays (Stays.widen (fun _ _ => trivial)) hi2⟩

theorem prog_ops (w : World) (l : List GOp) (n : Nat) (hn : l.length = n) (cs : Array Value) (hcs : cs.toList = opCells l) (hI : ∀ x ∈ l, I64 x.kind ∧ I64 x.a) (hl : l.length ≤ 1000) (t u : TypeId) :
    Funcs ((w.alloc (.cells cs t)).alloc (.cells #[.int .i64 0, .int .i64 0, .slice (some ⟨w.heap.size, 0, none⟩) n n] u)) (fun _ => True) (.slice (some ⟨w.heap.size + 1, 0, none⟩) 1 1) [⟨0, 0, l⟩] := by
  subst hn
  have hg := heap_alloc2_new w (.cells cs t) (.cells #[.int .i64 0, .int .i64 0, .slice (some ⟨w.heap.size, 0, none⟩) l.length l.length] u)
  have h0 := heap_alloc2_old w (.cells cs t) (.cells #[.int .i64 0, .int .i64 0, .slice (some ⟨w.heap.size, 0, none⟩) l.length l.length] u)
  have f0 := ops_of_block (S := fun _ => True) l h0 hcs trivial hI (by omega)
  have cell := fun j => cell_of_row _ _ j _ _ _ hg
  refine ⟨_, _, rfl, Nat.le_refl _, by simp, fun i hi => ⟨_, 0, rfl, ?_⟩⟩
  match i, hi with
  | 0, _ => exact ⟨⟨trivial, cell _, I64.small (by simp) (by simp)⟩, ⟨trivial, cell _, I64.small (by simp) (by simp)⟩, _, cell _, f0⟩

theorem ints_new (w : World) (l : List Int) (n : Nat) (hn : l.length = n) (cs : Array Value) (hcs : cs = (ints l).toArray) (hI : ∀ x ∈ l, I64 x) (hl : l.length ≤ 1000) (t : TypeId) : Ints (w.alloc (.cells cs t)) (fun _ => True) (.slice (some ⟨w.heap.size, 0, none⟩) n n) l := by
  subst hcs hn
  exact ints_block l (heap_alloc_new _ _) _ trivial hI hl

theorem small_ops {l : List GOp} (h : ∀ x ∈ l, -1000000 ≤ x.kind ∧ x.kind ≤ 1000000 ∧ -1000000 ≤ x.a ∧ x.a ≤ 1000000) : ∀ x ∈ l, I64 x.kind ∧ I64 x.a := fun x hx => ⟨I64.small (h x hx).1 (h x hx).2.1, I64.small (h x hx).2.2.1 (h x hx).2.2.2⟩
theorem small_ints {l : List Int} (h : ∀ x ∈ l, -1000000 ≤ x ∧ x ≤ 1000000) : ∀ x ∈ l, I64 x := fun x hx => I64.small (h x hx).1 (h x hx).2

end Go.Proofs.Ytpomcbginkhlbaa
