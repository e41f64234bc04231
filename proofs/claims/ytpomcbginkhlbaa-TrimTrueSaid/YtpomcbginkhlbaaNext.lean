/- Contract of flow.Next, and of the iterator that it hands back: for every body that keeps what it says. -/
import Derived.Test.YtpomcbginkhlbaaRowI
import Derived.RangeFuncNested
import Derived.RangeFuncBound
import Derived.RangeFuncCalls
import Derived.RangeFuncLeaves
import Derived.Shelf.Abstract
import Derived.Shelf.RegionOpen
import Derived.OwnWalkIn
import Derived.TacticsInMore
import Derived.LoopNIn
import Derived.LoopIn
set_option maxHeartbeats 2000000
set_option maxRecDepth 100000
namespace Go.Proofs.Ytpomcbginkhlbaa
open Go Go.RowKit Go.Shelf

attribute [local go_sem] Oper.semAt_some

/-- The block in which the row lies that box bw names. -/
def RowB (W : World) (bw b : Nat) : Prop := ∃ v, W.cell? ⟨bw, 0, none⟩ = some v ∧ rowBlock v = some b

/-- What a round keeps: all cells, but those of fx and of the row that box bw names. -/
structure KpF (fx : Nat → Prop) (bw : Nat) (A B : World) : Prop where
  size : A.heap.size ≤ B.heap.size
  same : ∀ b o, ¬ fx b → ¬ RowB A bw b → A.heap[b]? = some o → o.isCells = true → B.heap[b]? = some o
  row : ∀ b, RowB B bw b → RowB A bw b ∨ A.heap.size ≤ b

theorem KpF.trans {fx : Nat → Prop} {bw : Nat} {A B C : World} (h : KpF fx bw A B) (k : KpF fx bw B C) : KpF fx bw A C where
  size := Nat.le_trans h.size k.size
  same b o hf hr ho hc := k.same b o hf (fun hb => (h.row b hb).elim hr (fun hle => by have := (Array.getElem?_eq_some_iff.1 ho).1; omega)) (h.same b o hf hr ho hc) hc
  row b hb := (k.row b hb).elim (h.row b) (fun hle => .inr (Nat.le_trans h.size hle))

theorem KpF.put {fx : Nat → Prop} {bw : Nat} {w : World} (hbw : bw < w.heap.size) (W : World) (l : Nat) (o o' : Obj) (hl : w.heap.size ≤ l) (ho : W.heap[l]? = some o) (hc : o.isCells = false) (_ : o.isWalk = false) : KpF fx bw W (W.putObj l o') where
  size := by simp
  same b o'' _ _ hb hcb := by
    have : b ≠ l := fun e => by subst e; rw [ho] at hb; cases hb; rw [hc] at hcb; cases hcb
    exact (World.putObj_heap_other this).trans hb
  row b hb := by
    obtain ⟨v, hv, hr⟩ := hb
    refine .inl ⟨v, ?_, hr⟩
    rw [← hv]
    exact (World.cell?_of_block (World.putObj_heap_other (by show bw ≠ l; omega))).symm

theorem KpF.cell {fx : Nat → Prop} {bw : Nat} {A B : World} (h : KpF fx bw A B) {b o : Nat} {v : Value} (hf : ¬ fx b) (hr : ¬ RowB A bw b) (hc : A.cell? ⟨b, o, none⟩ = some v) : B.cell? ⟨b, o, none⟩ = some v := by
  obtain ⟨ob, ho, hcc⟩ := cells_of_cell hc
  have := h.same b ob hf hr ho hcc
  rw [← hc]
  exact World.cell?_of_block (this.trans ho.symm)

theorem RowB.of_below {w W : World} {bw b : Nat} (hW : Below w.heap.size w W) (hbw : bw < w.heap.size) (h : RowB W bw b) : RowB w bw b := by
  obtain ⟨v, hv, hr⟩ := h
  exact ⟨v, by rw [← hv]; exact (hW.cell (p := ⟨bw, 0, none⟩) hbw).symm, hr⟩

theorem next_any (ca : Option Addr) (cn ccap : Nat) (k : Int) (w : World) :
    Calls Try.prog 59 #[.slice ca cn ccap, .int .i64 k] w fun e w' => e = .returned (.func (.func 78) #[] #[.pointer (some ⟨w.heap.size, 0, none⟩), .pointer (some ⟨w.heap.size + 1, 0, none⟩)]) ∧ w' = (w.alloc (.cells #[.slice ca cn ccap] 23)).alloc (.cells #[.int .i64 k] 3) := by
  go_enter Try.func59, Try.ntmps59
  go_wp2_with fail
  go_ret
  exact ⟨rfl, rfl⟩


/-- What has come when the iterator runs to its end. -/
theorem next_stops (n : Nat) (hn : 1 ≤ n) (fx : Nat → Prop) (bw b2 b3 : Nat) (cb co cn ccap : Nat) (x : GOp) (k : Nat) (w : World)
    (hk : k < cn) (hk24 : cn ≤ 24) (h2 : w.cell? ⟨b2, 0, none⟩ = some (.slice (some ⟨cb, co, none⟩) cn ccap)) (h3 : w.cell? ⟨b3, 0, none⟩ = some (.int .i64 k))
    (hx0 : w.cell? ⟨cb, co + k * 2, none⟩ = some (.int .i64 x.kind)) (hx1 : w.cell? ⟨cb, co + k * 2 + 1, none⟩ = some (.int .i64 x.a)) (ha : 0 ≤ x.a) (hle : ∀ i ∈ nx x k, i ≤ cn)
    (hfx : ∀ b, fx b → b < w.heap.size ∧ b ≠ b3) (hbw : bw < w.heap.size) (hrow : ∀ b, RowB w bw b → b < w.heap.size ∧ b ≠ b3) :
    SeqStopsK Fence.wide n Try.prog 78 #[.pointer (some ⟨b2, 0, none⟩), .pointer (some ⟨b3, 0, none⟩)] (fun i : { i : Nat // i ≤ cn } => #[Value.int .i64 i.1]) (KpF fx bw) (fun xs => xs.map (·.1) = nx x k) (fun pre => pre.map (·.1) <+: nx x k) 2 w := by
  intro l J Jx W hW hJ hJx hY h0
  have y2 : W.cell? ⟨b2, 0, none⟩ = some (.slice (some ⟨cb, co, none⟩) cn ccap) := Ext.cell hW h2
  have y3 : W.cell? ⟨b3, 0, none⟩ = some (.int .i64 k) := Ext.cell hW h3
  have z0 : W.cell? ⟨cb, co + k * 2, none⟩ = some (.int .i64 x.kind) := Ext.cell hW hx0
  have z1 : W.cell? ⟨cb, co + k * 2 + 1, none⟩ = some (.int .i64 x.a) := Ext.cell hW hx1
  have hJ0 : J [] (W.alloc (.cells #[.int .i64 x.kind, .int .i64 x.a] 58)) := hJ [] W _ none h0 (World.grownBy_alloc W _ none) (fun r e => by cases e)
  have RA := alloc_keep
  have hsz : w.heap.size ≤ W.heap.size := Ext.size hW
  have hb3 := lt_of_cell h3
  refine callsIn_of_wp Try.func78 rfl trivial ?_ rfl
  simp only [Try.ntmps78, List.size_toArray, List.length_cons, List.length_nil, Nat.reduceAdd, Nat.reduceSub, Array.replicate_succ, Array.replicate_zero, List.push_toArray, List.append_toArray, List.nil_append, List.cons_append]
  have hW1 : Below w.heap.size w (W.alloc (.cells #[.int .i64 x.kind, .int .i64 x.a] 58)) := Ext.alloc hW _
  have hrow1 : ∀ b, RowB (W.alloc (.cells #[.int .i64 x.kind, .int .i64 x.a] 58)) bw b → b < w.heap.size ∧ b ≠ b3 := fun b h => hrow b (RowB.of_below hW1 hbw h)
  have y3' := alloc_keep W (.cells #[.int .i64 x.kind, .int .i64 x.a] 58) ⟨b3, 0, none⟩ (by rw [y3]; rfl)
  rw [y3] at y3'
  have KK : IntKind.i64.wrap ((k : Int) + 1) = (k : Int) + 1 := IntWalk.i64_in _ (by omega)
  have HX0 := Lib.hid (fun W3 (hk3 : KpF fx bw (W.alloc (.cells #[.int .i64 x.kind, .int .i64 x.a] 58)) W3) =>
    KpF.cell hk3 (b := W.heap.size) (o := 0) (fun h => by have := (hfx _ h).1; omega) (fun h => by have := (hrow1 _ h).1; omega) (cell_alloc0 W x.kind x.a 58))
  have HX3 := Lib.hid (fun W3 (hk3 : KpF fx bw (W.alloc (.cells #[.int .i64 x.kind, .int .i64 x.a] 58)) W3) =>
    KpF.cell hk3 (b := b3) (o := 0) (fun h => (hfx _ h).2 rfl) (fun h => (hrow1 _ h).2 rfl) y3')
  by_cases h9 : x.kind = 9
  · have T9 : (x.kind == 9) = true := by simp [h9]
    have hnx : nx x k = [x.a.toNat] := by simp [nx, h9]
    have T9n : (x.kind != 9) = false := by simp [h9]
    clear h9
    obtain ⟨fn, tmps, assign, body, hy, hR⟩ := hY [] ⟨x.a.toNat, hle _ (by rw [hnx]; simp)⟩ _ hJ0 (Nat.succ_pos 1)
    dsimp only at hy
    rw [show ((x.a.toNat : Nat) : Int) = x.a by omega] at hy
    gi_wp2
    refine hR.mono ?_
    rintro e W3 (⟨rfl, hJ3, hk3⟩ | ⟨rfl, hJx3⟩)
    · have q0 := HX0.out _ hk3
      gi_wp2
      go_end0
      refine ⟨⟨_, rfl⟩, .inl ⟨_, ?_, hJ3⟩⟩
      exact hnx.symm
    · gi_wp2
      refine bodyPost_ret (results_none rfl _ _ _) rfl ?_
      refine ⟨⟨_, rfl⟩, .inr ⟨_, ?_, hJx3⟩⟩
      have hp := List.prefix_refl (nx x k)
      exact (congrArg (· <+: nx x k) hnx).mp hp
  · have T9 : (x.kind == 9) = false := by simp [h9]
    have T9n : (x.kind != 9) = true := by simp [h9]
    by_cases h10 : x.kind = 10
    · have T10 : (x.kind == 10) = true := by simp [h10]
      have T12 : (x.kind != 12) = true := by simp [h10]
      have hnx : nx x k = [x.a.toNat, k + 1] := by simp [nx, h10]
      clear h9 h10
      obtain ⟨fn, tmps, assign, body, hy, hR⟩ := hY [] ⟨x.a.toNat, hle _ (by rw [hnx]; simp)⟩ _ hJ0 (Nat.succ_pos 1)
      dsimp only at hy
      rw [show ((x.a.toNat : Nat) : Int) = x.a by omega] at hy
      gi_wp2
      refine hR.mono ?_
      rintro e W3 (⟨rfl, hJ3, hk3⟩ | ⟨rfl, hJx3⟩)
      · have q0 := HX0.out _ hk3
        have q3 := HX3.out _ hk3
        clear hy hR
        obtain ⟨fn, tmps, assign, body, hy, hR⟩ := hY [⟨x.a.toNat, hle _ (by rw [hnx]; simp)⟩] ⟨k + 1, hle _ (by rw [hnx]; simp)⟩ _ hJ3 (Nat.lt_succ_self 1)
        rw [show ((k + 1 : Nat) : Int) = (k : Int) + 1 by omega] at hy
        gi_wp2
        refine hR.mono ?_
        rintro e W4 (⟨rfl, hJ4, hk4⟩ | ⟨rfl, hJx4⟩)
        · gi_wp2
          go_end0
          refine ⟨⟨_, rfl⟩, .inl ⟨_, ?_, hJ4⟩⟩
          exact hnx.symm
        · gi_wp2
          go_end0
          refine ⟨⟨_, rfl⟩, .inr ⟨_, ?_, hJx4⟩⟩
          have hp := List.prefix_refl (nx x k)
          exact (congrArg (· <+: nx x k) hnx).mp hp
      · gi_wp2
        refine bodyPost_ret (results_none rfl _ _ _) rfl ?_
        refine ⟨⟨_, rfl⟩, .inr ⟨_, ?_, hJx3⟩⟩
        exact ⟨[k + 1], hnx.symm⟩
    · have T10 : (x.kind == 10) = false := by simp [h10]
      by_cases h12 : x.kind = 12
      · have T12 : (x.kind != 12) = false := by simp [h12]
        have hnx : nx x k = [] := by simp [nx, h12]
        clear h9 h10 h12
        gi_wp2
        refine ⟨fun _ h => (by cases h), ?_⟩
        gi_wp2
        go_end0
        refine ⟨⟨_, rfl⟩, .inl ⟨_, ?_, hJ0⟩⟩
        exact hnx.symm
      · have T12 : (x.kind != 12) = true := by simp [h12]
        have hnx : nx x k = [k + 1] := by simp [nx, h9, h10, h12]
        clear h9 h10 h12
        obtain ⟨fn, tmps, assign, body, hy, hR⟩ := hY [] ⟨k + 1, hle _ (by rw [hnx]; simp)⟩ _ hJ0 (Nat.succ_pos 1)
        dsimp only at hy
        rw [show ((k + 1 : Nat) : Int) = (k : Int) + 1 by omega] at hy
        gi_wp2
        refine ⟨fun _ h => (by cases h), ?_⟩
        gi_wp2
        refine hR.mono ?_
        rintro e W4 (⟨rfl, hJ4, hk4⟩ | ⟨rfl, hJx4⟩)
        · gi_wp2
          go_end0
          refine ⟨⟨_, rfl⟩, .inl ⟨_, ?_, hJ4⟩⟩
          exact hnx.symm
        · gi_wp2
          go_end0
          refine ⟨⟨_, rfl⟩, .inr ⟨_, ?_, hJx4⟩⟩
          have hp := List.prefix_refl (nx x k)
          exact (congrArg (· <+: nx x k) hnx).mp hp

/-- The law on a range over a function, the round's frame found by the walk. -/
theorem rangeF_ex {F : Fence} {n : Nat} {P : Program} {α : Type} {g : Operand} {ps : Array Tmp} {assign body : Code} {Q : Exit → Act → World → Prop} {a : Act} {w : World}
    (hro : F.round = none) (h1 : 1 ≤ n) {gf : Nat} {lb : Array Value} (hg : a.eval g = .func (.func gf) #[] lb) (hFg : F.fn gf) (eg : ∀ args w, (callFunc gf args).run P w = .ok (.enter gf args) w)
    {encs : α → Array Value} {Kp : World → World → Prop} {S Sp : List α → Prop} {N : Nat} {w0 : World} (hseq : SeqStopsK F (n - 1) P gf lb encs Kp S Sp N w0)
    (hKt : ∀ {A B C : World}, Kp A B → Kp B C → Kp A C) (hKb : ∀ (W : World) (l : Nat) (o o' : Obj), w.heap.size ≤ l → W.heap[l]? = some o → o.isCells = false → o.isWalk = false → Kp W (W.putObj l o')) (hb0 : Below w0.heap.size w0 w) (hps : ∀ x, (encs x).size = ps.size)
    (I : List α → World → Prop) (Ix : Code → List α → World → Prop) (hI : OwnFrom w.heap.size I) (hIx : ∀ c, OwnFrom w.heap.size (Ix c)) (h0 : I [] w)
    (hab : ∃ a₁ : α → Act, (∀ (l : Nat) (x : α) (W : World) (K : Act → World → Prop), K (a₁ x) W →
      assign.wpIn (F.inRound l) (n - 1 - 1) P (Exit.then K (fun _ _ _ => False)) { tmps := (ps.zip (encs x)).foldl (fun t (p, v) => t.setIfInBounds p v) a.tmps, defers := [] } W) ∧
      (∀ (l : Nat) (pre : List α) (x : α) (W : World), I pre W → pre.length < N → body.wpIn (F.inRound l) (n - 1 - 1) P (ownPostK Kp I Ix (pre ++ [x]) W) (a₁ x) W))
    (hdone : ∀ (D : Nat) (xs : List α) (W : World), w.heap.size ≤ D → S xs → I xs W → W.heap[D]? = some (.deferred (some [])) → Q .normal { a with defers := { target := .collected D, args := #[] } :: a.defers } W)
    (hstop : ∀ (D : Nat) (c : Code) (pre : List α) (W : World), w.heap.size ≤ D → Sp pre → Ix c pre W → W.heap[D]? = some (.deferred (some [])) → c.wpIn F n P Q { a with defers := { target := .collected D, args := #[] } :: a.defers } W) :
    (Code.rangeFunc g ps assign body).wpIn F n P Q a w := by
  obtain ⟨a₁, h1a, h1b⟩ := hab
  exact wpIn_rangeFunc_ownF hro h1 hg hFg eg hseq hKt hKb hb0 hps I Ix hI hIx h0 a₁ h1a h1b hdone hstop
end Go.Proofs.Ytpomcbginkhlbaa
