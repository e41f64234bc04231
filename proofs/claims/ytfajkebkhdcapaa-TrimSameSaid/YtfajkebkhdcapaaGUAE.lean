/- Merged texts: contracts and plain facts, one part behind another; each part begins with what it says. -/
import Derived.Test.YtfajkebkhdcapaaGUAD
import Derived.LoopIn
import Derived.LoopNIn
import Derived.OwnWalkIn
import Derived.RangeFuncBound
import Derived.RangeFuncCalls
import Derived.RangeFuncLeaves
import Derived.RangeFuncNested
import Derived.Shelf.Abstract
import Derived.Shelf.RegionOpen
import Derived.TacticsInMore
section
/- Contract of the document's FuncError. -/
set_option maxHeartbeats 1000000
set_option maxRecDepth 100000
namespace Go.Proofs.Ytfajkebkhdcapaa
open Go Go.RowKit

end Go.Proofs.Ytfajkebkhdcapaa
end
section
/- The example program of the laws, and its contract. -/
set_option maxHeartbeats 1000000
set_option maxRecDepth 100000
namespace Go.Proofs.Ytfajkebkhdcapaa
open Go Go.RowKit

def countCode0 : List GOp := [⟨13, 1⟩, ⟨3, 0⟩, ⟨2, 0⟩, ⟨0, 7⟩, ⟨14, 0⟩, ⟨16, 0⟩, ⟨2, 0⟩, ⟨0, 0⟩, ⟨14, 0⟩, ⟨16, 0⟩, ⟨2, 0⟩, ⟨0, 0⟩, ⟨14, 0⟩, ⟨12, 0⟩]
def countCode1 : List GOp := [⟨2, 0⟩, ⟨15, 0⟩, ⟨1, 0⟩, ⟨2, 0⟩, ⟨0, 1⟩, ⟨11, 2⟩, ⟨15, 0⟩, ⟨1, 0⟩, ⟨0, 99⟩, ⟨12, 0⟩, ⟨0, 5⟩, ⟨9, 9⟩]
def countCode2 : List GOp := [⟨2, 0⟩, ⟨2, 1⟩, ⟨4, 0⟩, ⟨12, 0⟩]
/-- The example program. -/
def countP : List GFunc := [⟨0, 1, countCode0⟩, ⟨1, 1, countCode1⟩, ⟨2, 2, countCode2⟩]

theorem o_any (k a : Int) (w : World) :
    Calls Try.prog 29 #[.int .i64 k, .int .i64 a] w fun e w' => e = .returned (.agg #[.int .i64 k, .int .i64 a]) ∧ Ext w w' := by
  go_enter Try.func29, Try.ntmps29
  go_wp2
  exact bodyPost_ret (v := .agg #[.int .i64 k, .int .i64 a]) (by simp [results, Try.results29, go_sem]) rfl ⟨rfl, (Ext.refl _).alloc _⟩

/-- What count hands back: four new blocks, each known whole. -/
def CountIs (w w' : World) (v : Value) : Prop := ∃ g c0 c1 c2 : Nat, v = .slice (some ⟨g, 0, none⟩) 3 3 ∧ w.heap.size ≤ c0 ∧ c0 < c1 ∧ c1 < c2 ∧ c2 < g ∧
  w'.heap[c0]? = some (.cells #[.int .i64 13, .int .i64 1, .int .i64 3, .int .i64 0, .int .i64 2, .int .i64 0, .int .i64 0, .int .i64 7, .int .i64 14, .int .i64 0, .int .i64 16, .int .i64 0, .int .i64 2, .int .i64 0, .int .i64 0, .int .i64 0, .int .i64 14, .int .i64 0, .int .i64 16, .int .i64 0, .int .i64 2, .int .i64 0, .int .i64 0, .int .i64 0, .int .i64 14, .int .i64 0, .int .i64 12, .int .i64 0] 61 (0, 0)) ∧
  w'.heap[c1]? = some (.cells #[.int .i64 2, .int .i64 0, .int .i64 15, .int .i64 0, .int .i64 1, .int .i64 0, .int .i64 2, .int .i64 0, .int .i64 0, .int .i64 1, .int .i64 11, .int .i64 2, .int .i64 15, .int .i64 0, .int .i64 1, .int .i64 0, .int .i64 0, .int .i64 99, .int .i64 12, .int .i64 0, .int .i64 0, .int .i64 5, .int .i64 9, .int .i64 9] 61 (0, 0)) ∧
  w'.heap[c2]? = some (.cells #[.int .i64 2, .int .i64 0, .int .i64 2, .int .i64 1, .int .i64 4, .int .i64 0, .int .i64 12, .int .i64 0] 61 (0, 0)) ∧
  w'.heap[g]? = some (.cells #[.int .i64 0, .int .i64 1, .slice (some ⟨c0, 0, none⟩) 14 14, .int .i64 1, .int .i64 1, .slice (some ⟨c1, 0, none⟩) 12 12, .int .i64 2, .int .i64 2, .slice (some ⟨c2, 0, none⟩) 4 4] 55 (0, 0))

theorem count_any (w : World) :
    Calls Try.prog 28 #[] w fun e w' => (∃ v, e = .returned v ∧ CountIs w w' v) ∧ Ext w w' := by
  go_enter Try.func28, Try.ntmps28
  go_wp2_with (first
    | (go_at_call 29; refine (o_any _ _ _).mono ?_; rintro e w1 ⟨rfl, hb⟩))
  go_ret
  refine ⟨⟨_, rfl, ?_⟩, ?_⟩
  · refine ⟨_, _, _, _, rfl, ?_, ?_, ?_, ?_, ?_, ?_, heap_alloc2_old _ _ _, heap_alloc2_new _ _ _⟩
    · (repeat (first | exact Nat.le_refl _ | refine Nat.le_trans ?_ (Ext.size (by assumption)) | refine Nat.le_trans ?_ (Ext.size ((Ext.refl _).alloc _))))
    · show _ + 1 ≤ _
      (repeat (first | (simp; done) | refine Nat.le_trans ?_ (Ext.size (by assumption)) | refine Nat.le_trans ?_ (Ext.size ((Ext.refl _).alloc _))))
    · show _ + 1 ≤ _
      (repeat (first | (simp; done) | refine Nat.le_trans ?_ (Ext.size (by assumption)) | refine Nat.le_trans ?_ (Ext.size ((Ext.refl _).alloc _))))
    · omega
    · refine Ext.heap (((Ext.refl _).alloc _).alloc _) ?_
      (repeat (first | exact heap_alloc_new _ _ | refine Ext.heap (by assumption) ?_ | refine Ext.heap ((Ext.refl _).alloc _) ?_))
    · refine Ext.heap (((Ext.refl _).alloc _).alloc _) ?_
      (repeat (first | exact heap_alloc_new _ _ | refine Ext.heap (by assumption) ?_ | refine Ext.heap ((Ext.refl _).alloc _) ?_))
  · ((repeat (first | assumption | exact Ext.refl _ | (exact And.left (by assumption)) | refine Ext.alloc ?_ _ | refine Ext.drew ?_ | refine Ext.drewN ?_ _ | refine Ext.setCell ?_ (by simp) _ | refine Ext.setCell ?_ (by simp; omega) _ | refine Ext.trans ?_ (by assumption))); done)

/-- A slice of ops out of a block that is known whole. -/
def opCells : List GOp → List Value
  | [] => []
  | x :: l => .int .i64 x.kind :: .int .i64 x.a :: opCells l

theorem opCells_at : ∀ (l : List GOp) (i : Nat) (h : i < l.length), (opCells l)[i * 2]? = some (.int .i64 l[i].kind) ∧ (opCells l)[i * 2 + 1]? = some (.int .i64 l[i].a)
  | [], i, h => absurd h (by simp)
  | x :: l, 0, _ => ⟨rfl, rfl⟩
  | x :: l, i + 1, h => by
    have := opCells_at l i (by simpa using h)
    rw [show (i + 1) * 2 = i * 2 + 2 by omega]
    exact this

theorem ops_of_block {w : World} {S : Nat → Prop} {c : Nat} {cs : Array Value} {t : TypeId} {fr : Nat × Nat} (l : List GOp) (hc : w.heap[c]? = some (.cells cs t fr)) (hl : cs.toList = opCells l)
    (hS : S c) (hI : ∀ x ∈ l, I64 x.kind ∧ I64 x.a) (hlen : l.length * 16 ≤ 140737488355328) : Ops w S (.slice (some ⟨c, 0, none⟩) l.length l.length) l := by
  refine ⟨_, _, rfl, Nat.le_refl _, ⟨hlen, by omega⟩, fun i hi => ⟨c, 0, rfl, ?_⟩⟩
  obtain ⟨h0, h1⟩ := opCells_at l i hi
  have hx := hI _ (List.getElem_mem hi)
  refine ⟨⟨hS, ?_, hx.1⟩, hS, ?_, hx.2⟩
  · rw [cell_of_row w c _ cs t fr hc, ← Array.getElem?_toList, hl, Nat.zero_add]; exact h0
  · rw [cell_of_row w c _ cs t fr hc, ← Array.getElem?_toList, hl, Nat.zero_add]; exact h1

theorem ops_small (l : List GOp) (h : ∀ x ∈ l, (-1000 ≤ x.kind ∧ x.kind ≤ 1000) ∧ -1000 ≤ x.a ∧ x.a ≤ 1000) : ∀ x ∈ l, I64 x.kind ∧ I64 x.a := fun x hx =>
  ⟨I64.small (by have := (h x hx).1.1; omega) (by have := (h x hx).1.2; omega), I64.small (by have := (h x hx).2.1; omega) (by have := (h x hx).2.2; omega)⟩

theorem CountIs.funcs {w w' : World} {v : Value} (h : CountIs w w' v) : Funcs w' (fun _ => True) v countP := by
  obtain ⟨g, c0, c1, c2, rfl, _, _, _, _, h0, h1, h2, hg⟩ := h
  have f0 := ops_of_block (S := fun _ => True) countCode0 h0 rfl trivial (ops_small _ (by decide)) (by decide)
  have f1 := ops_of_block (S := fun _ => True) countCode1 h1 rfl trivial (ops_small _ (by decide)) (by decide)
  have f2 := ops_of_block (S := fun _ => True) countCode2 h2 rfl trivial (ops_small _ (by decide)) (by decide)
  have cell := fun j => cell_of_row w' g j _ _ _ hg
  refine ⟨_, _, rfl, Nat.le_refl _, by decide, fun i hi => ⟨g, 0, rfl, ?_⟩⟩
  match i, hi with
  | 0, _ => exact ⟨⟨trivial, cell _, I64.small (by simp [countP]) (by simp [countP])⟩, ⟨trivial, cell _, I64.small (by simp [countP]) (by simp [countP])⟩, _, cell _, f0⟩
  | 1, _ => exact ⟨⟨trivial, cell _, I64.small (by simp [countP]) (by simp [countP])⟩, ⟨trivial, cell _, I64.small (by simp [countP]) (by simp [countP])⟩, _, cell _, f1⟩
  | 2, _ => exact ⟨⟨trivial, cell _, I64.small (by simp [countP]) (by simp [countP])⟩, ⟨trivial, cell _, I64.small (by simp [countP]) (by simp [countP])⟩, _, cell _, f2⟩

end Go.Proofs.Ytfajkebkhdcapaa
end
section
/- Programs and rows of numbers in new memory. -/
set_option maxHeartbeats 4000000
set_option maxRecDepth 100000
namespace Go.Proofs.Ytfajkebkhdcapaa
open Go Go.RowKit

theorem prog_ops (w : World) (l : List GOp) (n : Nat) (hn : l.length = n) (cs : Array Value) (hcs : cs.toList = opCells l) (hI : ∀ x ∈ l, I64 x.kind ∧ I64 x.a) (hl : l.length ≤ 1000) (t u : TypeId) :
    Funcs ((w.alloc (.cells cs t)).alloc (.cells #[.int .i64 0, .int .i64 0, .slice (some ⟨w.heap.size, 0, none⟩) n n] u)) (fun _ => True) (.slice (some ⟨w.heap.size + 1, 0, none⟩) 1 1) [⟨0, 0, l⟩] := by
  subst hn
  have hg := heap_alloc2_new w (.cells cs t) (.cells #[.int .i64 0, .int .i64 0, .slice (some ⟨w.heap.size, 0, none⟩) l.length l.length] u)
  have h0 := heap_alloc2_old w (.cells cs t) (.cells #[.int .i64 0, .int .i64 0, .slice (some ⟨w.heap.size, 0, none⟩) l.length l.length] u)
  have f0 := ops_of_block (S := fun _ => True) l h0 hcs trivial hI (by omega)
  have cell := fun j => cell_of_row _ _ j _ _ _ hg
  refine ⟨_, _, rfl, Nat.le_refl _, by simp, fun i hi => ⟨_, 0, rfl, ?_⟩⟩
  match i, hi with
  | 0, _ => exact ⟨⟨trivial, cell _, I64.small (by simp) (by simp)⟩, ⟨trivial, cell _, I64.small (by simp) (by simp)⟩, _, cell _, f0⟩

theorem small_ops {l : List GOp} (h : ∀ x ∈ l, -1000000 ≤ x.kind ∧ x.kind ≤ 1000000 ∧ -1000000 ≤ x.a ∧ x.a ≤ 1000000) : ∀ x ∈ l, I64 x.kind ∧ I64 x.a := fun x hx => ⟨I64.small (h x hx).1 (h x hx).2.1, I64.small (h x hx).2.2.1 (h x hx).2.2.2⟩
end Go.Proofs.Ytfajkebkhdcapaa
end
section
/- Contract of flow.Next, and of the iterator that it hands back: for every body that keeps what it says. -/
set_option maxHeartbeats 2000000
set_option maxRecDepth 100000
namespace Go.Proofs.Ytfajkebkhdcapaa
open Go Go.RowKit Go.Shelf

attribute [local go_sem] Oper.semAt_some

/-- The block in which the row lies that box bw names. -/
def RowB (W : World) (bw b : Nat) : Prop := ∃ v, W.cell? ⟨bw, 0, none⟩ = some v ∧ rowBlock v = some b

/-- What a round keeps: all cells, but those of fx and of the row that box bw names. -/
structure KpF (fx : Nat → Prop) (bw : Nat) (A B : World) : Prop where
  size : A.heap.size ≤ B.heap.size
  same : ∀ b o, ¬ fx b → ¬ RowB A bw b → A.heap[b]? = some o → o.isCells = true → B.heap[b]? = some o
  row : ∀ b, RowB B bw b → RowB A bw b ∨ A.heap.size ≤ b

theorem KpF.trans {fx : Nat → Prop} {bw : Nat} {A B C : World} (h : KpF fx bw A B) (k : KpF fx bw B C) : KpF fx bw A C where
  size := Nat.le_trans h.size k.size
  same b o hf hr ho hc := k.same b o hf (fun hb => (h.row b hb).elim hr (fun hle => by have := (Array.getElem?_eq_some_iff.1 ho).1; omega)) (h.same b o hf hr ho hc) hc
  row b hb := (k.row b hb).elim (h.row b) (fun hle => .inr (Nat.le_trans h.size hle))

theorem KpF.put {fx : Nat → Prop} {bw : Nat} {w : World} (hbw : bw < w.heap.size) (W : World) (l : Nat) (o o' : Obj) (hl : w.heap.size ≤ l) (ho : W.heap[l]? = some o) (hc : o.isCells = false) (_ : o.isWalk = false) : KpF fx bw W (W.putObj l o') where
  size := by simp
  same b o'' _ _ hb hcb := by
    have : b ≠ l := fun e => by subst e; rw [ho] at hb; cases hb; rw [hc] at hcb; cases hcb
    exact (World.putObj_heap_other this).trans hb
  row b hb := by
    obtain ⟨v, hv, hr⟩ := hb
    refine .inl ⟨v, ?_, hr⟩
    rw [← hv]
    exact (World.cell?_of_block (World.putObj_heap_other (by show bw ≠ l; omega))).symm

theorem KpF.cell {fx : Nat → Prop} {bw : Nat} {A B : World} (h : KpF fx bw A B) {b o : Nat} {v : Value} (hf : ¬ fx b) (hr : ¬ RowB A bw b) (hc : A.cell? ⟨b, o, none⟩ = some v) : B.cell? ⟨b, o, none⟩ = some v := by
  obtain ⟨ob, ho, hcc⟩ := cells_of_cell hc
  have := h.same b ob hf hr ho hcc
  rw [← hc]
  exact World.cell?_of_block (this.trans ho.symm)

theorem RowB.of_below {w W : World} {bw b : Nat} (hW : Below w.heap.size w W) (hbw : bw < w.heap.size) (h : RowB W bw b) : RowB w bw b := by
  obtain ⟨v, hv, hr⟩ := h
  exact ⟨v, by rw [← hv]; exact (hW.cell (p := ⟨bw, 0, none⟩) hbw).symm, hr⟩

theorem next_any (ca : Option Addr) (cn ccap : Nat) (k : Int) (w : World) :
    Calls Try.prog 63 #[.slice ca cn ccap, .int .i64 k] w fun e w' => e = .returned (.func (.func 96) #[] #[.pointer (some ⟨w.heap.size, 0, none⟩), .pointer (some ⟨w.heap.size + 1, 0, none⟩)]) ∧ w' = (w.alloc (.cells #[.slice ca cn ccap] 53)).alloc (.cells #[.int .i64 k] 3) := by
  go_enter Try.func63, Try.ntmps63
  go_wp2_with fail
  go_ret
  exact ⟨rfl, rfl⟩


/-- What has come when the iterator runs to its end. -/
theorem next_stops (n : Nat) (hn : 1 ≤ n) (fx : Nat → Prop) (bw b2 b3 : Nat) (cb co cn ccap : Nat) (x : GOp) (k : Nat) (w : World)
    (hk : k < cn) (hk24 : cn ≤ 24) (h2 : w.cell? ⟨b2, 0, none⟩ = some (.slice (some ⟨cb, co, none⟩) cn ccap)) (h3 : w.cell? ⟨b3, 0, none⟩ = some (.int .i64 k))
    (hx0 : w.cell? ⟨cb, co + k * 2, none⟩ = some (.int .i64 x.kind)) (hx1 : w.cell? ⟨cb, co + k * 2 + 1, none⟩ = some (.int .i64 x.a)) (ha : 0 ≤ x.a) (hle : ∀ i ∈ nx x k, i ≤ cn)
    (hfx : ∀ b, fx b → b < w.heap.size ∧ b ≠ b3) (hbw : bw < w.heap.size) (hrow : ∀ b, RowB w bw b → b < w.heap.size ∧ b ≠ b3) :
    SeqStopsK Fence.wide n Try.prog 96 #[.pointer (some ⟨b2, 0, none⟩), .pointer (some ⟨b3, 0, none⟩)] (fun i : { i : Nat // i ≤ cn } => #[Value.int .i64 i.1]) (KpF fx bw) (fun xs => xs.map (·.1) = nx x k) (fun pre => pre.map (·.1) <+: nx x k) 2 w := by
  intro l J Jx W hW hJ hJx hY h0
  have y2 : W.cell? ⟨b2, 0, none⟩ = some (.slice (some ⟨cb, co, none⟩) cn ccap) := Ext.cell hW h2
  have y3 : W.cell? ⟨b3, 0, none⟩ = some (.int .i64 k) := Ext.cell hW h3
  have z0 : W.cell? ⟨cb, co + k * 2, none⟩ = some (.int .i64 x.kind) := Ext.cell hW hx0
  have z1 : W.cell? ⟨cb, co + k * 2 + 1, none⟩ = some (.int .i64 x.a) := Ext.cell hW hx1
  have hJ0 : J [] (W.alloc (.cells #[.int .i64 x.kind, .int .i64 x.a] 61)) := hJ [] W _ none h0 (World.grownBy_alloc W _ none) (fun r e => by cases e)
  have RA := alloc_keep
  have hsz : w.heap.size ≤ W.heap.size := Ext.size hW
  have hb3 := lt_of_cell h3
  refine callsIn_of_wp Try.func96 rfl trivial ?_ rfl
  simp only [Try.ntmps96, List.size_toArray, List.length_cons, List.length_nil, Nat.reduceAdd, Nat.reduceSub, Array.replicate_succ, Array.replicate_zero, List.push_toArray, List.append_toArray, List.nil_append, List.cons_append]
  have hW1 : Below w.heap.size w (W.alloc (.cells #[.int .i64 x.kind, .int .i64 x.a] 61)) := Ext.alloc hW _
  have hrow1 : ∀ b, RowB (W.alloc (.cells #[.int .i64 x.kind, .int .i64 x.a] 61)) bw b → b < w.heap.size ∧ b ≠ b3 := fun b h => hrow b (RowB.of_below hW1 hbw h)
  have y3' := alloc_keep W (.cells #[.int .i64 x.kind, .int .i64 x.a] 61) ⟨b3, 0, none⟩ (by rw [y3]; rfl)
  rw [y3] at y3'
  have KK : IntKind.i64.wrap ((k : Int) + 1) = (k : Int) + 1 := IntWalk.i64_in _ (by omega)
  have HX0 := Lib.hid (fun W3 (hk3 : KpF fx bw (W.alloc (.cells #[.int .i64 x.kind, .int .i64 x.a] 61)) W3) =>
    KpF.cell hk3 (b := W.heap.size) (o := 0) (fun h => by have := (hfx _ h).1; omega) (fun h => by have := (hrow1 _ h).1; omega) (cell_alloc0 W x.kind x.a 61))
  have HX3 := Lib.hid (fun W3 (hk3 : KpF fx bw (W.alloc (.cells #[.int .i64 x.kind, .int .i64 x.a] 61)) W3) =>
    KpF.cell hk3 (b := b3) (o := 0) (fun h => (hfx _ h).2 rfl) (fun h => (hrow1 _ h).2 rfl) y3')
  by_cases h9 : x.kind = 9
  · have T9 : (x.kind == 9) = true := by simp [h9]
    have hnx : nx x k = [x.a.toNat] := by simp [nx, h9]
    have T9n : (x.kind != 9) = false := by simp [h9]
    clear h9
    obtain ⟨fn, tmps, assign, body, hy, hR⟩ := hY [] ⟨x.a.toNat, hle _ (by rw [hnx]; simp)⟩ _ hJ0 (Nat.succ_pos 1)
    dsimp only at hy
    rw [show ((x.a.toNat : Nat) : Int) = x.a by omega] at hy
    gi_wp2
    refine hR.mono ?_
    rintro e W3 (⟨rfl, hJ3, hk3⟩ | ⟨rfl, hJx3⟩)
    · have q0 := HX0.out _ hk3
      gi_wp2
      go_end0
      refine ⟨⟨_, rfl⟩, .inl ⟨_, ?_, hJ3⟩⟩
      exact hnx.symm
    · gi_wp2
      refine bodyPost_ret (results_none rfl _ _ _) rfl ?_
      refine ⟨⟨_, rfl⟩, .inr ⟨_, ?_, hJx3⟩⟩
      have hp := List.prefix_refl (nx x k)
      exact (congrArg (· <+: nx x k) hnx).mp hp
  · have T9 : (x.kind == 9) = false := by simp [h9]
    have T9n : (x.kind != 9) = true := by simp [h9]
    by_cases h10 : x.kind = 10
    · have T10 : (x.kind == 10) = true := by simp [h10]
      have T12 : (x.kind != 12) = true := by simp [h10]
      have hnx : nx x k = [x.a.toNat, k + 1] := by simp [nx, h10]
      clear h9 h10
      obtain ⟨fn, tmps, assign, body, hy, hR⟩ := hY [] ⟨x.a.toNat, hle _ (by rw [hnx]; simp)⟩ _ hJ0 (Nat.succ_pos 1)
      dsimp only at hy
      rw [show ((x.a.toNat : Nat) : Int) = x.a by omega] at hy
      gi_wp2
      refine hR.mono ?_
      rintro e W3 (⟨rfl, hJ3, hk3⟩ | ⟨rfl, hJx3⟩)
      · have q0 := HX0.out _ hk3
        have q3 := HX3.out _ hk3
        clear hy hR
        obtain ⟨fn, tmps, assign, body, hy, hR⟩ := hY [⟨x.a.toNat, hle _ (by rw [hnx]; simp)⟩] ⟨k + 1, hle _ (by rw [hnx]; simp)⟩ _ hJ3 (Nat.lt_succ_self 1)
        rw [show ((k + 1 : Nat) : Int) = (k : Int) + 1 by omega] at hy
        gi_wp2
        refine hR.mono ?_
        rintro e W4 (⟨rfl, hJ4, hk4⟩ | ⟨rfl, hJx4⟩)
        · gi_wp2
          go_end0
          refine ⟨⟨_, rfl⟩, .inl ⟨_, ?_, hJ4⟩⟩
          exact hnx.symm
        · gi_wp2
          go_end0
          refine ⟨⟨_, rfl⟩, .inr ⟨_, ?_, hJx4⟩⟩
          have hp := List.prefix_refl (nx x k)
          exact (congrArg (· <+: nx x k) hnx).mp hp
      · gi_wp2
        refine bodyPost_ret (results_none rfl _ _ _) rfl ?_
        refine ⟨⟨_, rfl⟩, .inr ⟨_, ?_, hJx3⟩⟩
        exact ⟨[k + 1], hnx.symm⟩
    · have T10 : (x.kind == 10) = false := by simp [h10]
      by_cases h12 : x.kind = 12
      · have T12 : (x.kind != 12) = false := by simp [h12]
        have hnx : nx x k = [] := by simp [nx, h12]
        clear h9 h10 h12
        gi_wp2
        refine ⟨fun _ h => (by cases h), ?_⟩
        gi_wp2
        go_end0
        refine ⟨⟨_, rfl⟩, .inl ⟨_, ?_, hJ0⟩⟩
        exact hnx.symm
      · have T12 : (x.kind != 12) = true := by simp [h12]
        have hnx : nx x k = [k + 1] := by simp [nx, h9, h10, h12]
        clear h9 h10 h12
        obtain ⟨fn, tmps, assign, body, hy, hR⟩ := hY [] ⟨k + 1, hle _ (by rw [hnx]; simp)⟩ _ hJ0 (Nat.succ_pos 1)
        dsimp only at hy
        rw [show ((k + 1 : Nat) : Int) = (k : Int) + 1 by omega] at hy
        gi_wp2
        refine ⟨fun _ h => (by cases h), ?_⟩
        gi_wp2
        refine hR.mono ?_
        rintro e W4 (⟨rfl, hJ4, hk4⟩ | ⟨rfl, hJx4⟩)
        · gi_wp2
          go_end0
          refine ⟨⟨_, rfl⟩, .inl ⟨_, ?_, hJ4⟩⟩
          exact hnx.symm
        · gi_wp2
          go_end0
          refine ⟨⟨_, rfl⟩, .inr ⟨_, ?_, hJx4⟩⟩
          have hp := List.prefix_refl (nx x k)
          exact (congrArg (· <+: nx x k) hnx).mp hp

/-- The law on a range over a function, the round's frame found by the walk. -/
theorem rangeF_ex {F : Fence} {n : Nat} {P : Program} {α : Type} {g : Operand} {ps : Array Tmp} {assign body : Code} {Q : Exit → Act → World → Prop} {a : Act} {w : World}
    (hro : F.round = none) (h1 : 1 ≤ n) {gf : Nat} {lb : Array Value} (hg : a.eval g = .func (.func gf) #[] lb) (hFg : F.fn gf) (eg : ∀ args w, (callFunc gf args).run P w = .ok (.enter gf args) w)
    {encs : α → Array Value} {Kp : World → World → Prop} {S Sp : List α → Prop} {N : Nat} {w0 : World} (hseq : SeqStopsK F (n - 1) P gf lb encs Kp S Sp N w0)
    (hKt : ∀ {A B C : World}, Kp A B → Kp B C → Kp A C) (hKb : ∀ (W : World) (l : Nat) (o o' : Obj), w.heap.size ≤ l → W.heap[l]? = some o → o.isCells = false → o.isWalk = false → Kp W (W.putObj l o')) (hb0 : Below w0.heap.size w0 w) (hps : ∀ x, (encs x).size = ps.size)
    (I : List α → World → Prop) (Ix : Code → List α → World → Prop) (hI : OwnFrom w.heap.size I) (hIx : ∀ c, OwnFrom w.heap.size (Ix c)) (h0 : I [] w)
    (hab : ∃ a₁ : α → Act, (∀ (l : Nat) (x : α) (W : World) (K : Act → World → Prop), K (a₁ x) W →
      assign.wpIn (F.inRound l) (n - 1 - 1) P (Exit.then K (fun _ _ _ => False)) { tmps := (ps.zip (encs x)).foldl (fun t (p, v) => t.setIfInBounds p v) a.tmps, defers := [] } W) ∧
      (∀ (l : Nat) (pre : List α) (x : α) (W : World), I pre W → pre.length < N → body.wpIn (F.inRound l) (n - 1 - 1) P (ownPostK Kp I Ix (pre ++ [x]) W) (a₁ x) W))
    (hdone : ∀ (D : Nat) (xs : List α) (W : World), w.heap.size ≤ D → S xs → I xs W → W.heap[D]? = some (.deferred (some [])) → Q .normal { a with defers := { target := .collected D, args := #[] } :: a.defers } W)
    (hstop : ∀ (D : Nat) (c : Code) (pre : List α) (W : World), w.heap.size ≤ D → Sp pre → Ix c pre W → W.heap[D]? = some (.deferred (some [])) → c.wpIn F n P Q { a with defers := { target := .collected D, args := #[] } :: a.defers } W) :
    (Code.rangeFunc g ps assign body).wpIn F n P Q a w := by
  obtain ⟨a₁, h1a, h1b⟩ := hab
  exact wpIn_rangeFunc_ownF hro h1 hg hFg eg hseq hKt hKb hb0 hps I Ix hI hIx h0 a₁ h1a h1b hdone hstop
end Go.Proofs.Ytfajkebkhdcapaa
end
