/- Merged texts: contracts and plain facts, one part behind another; each part begins with what it says. -/
import Derived.Test.YtpcjkfppacnkgaaGreatDoorGNAB
import Derived.Test.YtpcjkfppacnkgaaGreatDoorGNAC
import Derived.Deep.RegionLaw
import Derived.Laws.CopyOwn
import Derived.LoopIn
import Derived.LoopNIn
import Derived.OwnWalkIn
import Derived.RangeFuncBound
import Derived.RangeFuncCalls
import Derived.RangeFuncLeaves
import Derived.RangeFuncNested
import Derived.Shelf.Abstract
import Derived.Shelf.Bits.Mul64
import Derived.Shelf.RegionOpen
import Derived.TacticsInMore
section
/- Rows of numbers of the call's own, known whole; what a right function's ops are. No condition. -/
namespace Go.Proofs.YtpcjkfppacnkgaaGreatDoor
open Go Go.RowKit

set_option maxRecDepth 100000 in
theorem infoI : (Tryz.prog.info? 3).map (fun i => (i.zero, i.size, i.bytes)) = some (some (.int .i64 0), 1, 8) := by kernel_rfl

def ints (l : List Int) : List Value := l.map (Value.int .i64)
theorem flatMap_intF (l : List Int) : l.flatMap intF = ints l := by
  induction l with
  | nil => rfl
  | cons x l ih => rw [List.flatMap_cons, ih]; rfl
theorem ints_set (l : List Int) (k : Nat) (n : Int) : (ints l).set k (.int .i64 n) = ints (l.set k n) := by simp [ints, List.map_set]
theorem ints_get (l : List Int) (k : Nat) (h : k < l.length) : (ints l)[k]? = some (.int .i64 (l.getD k 0)) := by simp [ints, List.getD, h]
theorem ints_len (l : List Int) : (ints l).length = l.length := by simp [ints]
theorem ints_app (l m : List Int) : ints (l ++ m) = ints l ++ ints m := by simp [ints]

/-- A row of numbers at the head of block g. -/
def IRow (w : World) (base g : Nat) (l : List Int) : Prop := RowAt w base 1 (.slice (some ⟨g, 0, none⟩) l.length l.length) l.length (ints l)

theorem IRow.at {w : World} {base g : Nat} {l : List Int} (h : IRow w base g l) {k : Nat} (hk : k < l.length) : w.cell? ⟨g, k, none⟩ = some (.int .i64 (l.getD k 0)) ∧ w.frozen? ⟨g, k, none⟩ = false ∧ base ≤ g := by
  obtain ⟨g', o, e, hb, hc⟩ := h.cell (by omega)
  simp only [Option.some.injEq, Addr.mk.injEq] at e
  obtain ⟨rfl, rfl, -⟩ := e
  have := hc k (by omega)
  rw [Nat.zero_add, ints_get l k hk] at this
  exact ⟨this.1, this.2, hb⟩
theorem IRow.store {w : World} {base g : Nat} {l : List Int} (h : IRow w base g l) {k : Nat} (hk : k < l.length) (n : Int) : IRow (w.setCell ⟨g, k, none⟩ (.int .i64 n)) base g (l.set k n) := by
  have := RowAt.store h (j := k) (by omega) (.int .i64 n)
  rw [Nat.zero_add, ints_set] at this
  unfold IRow
  rw [List.length_set]
  exact this
theorem IRow.ext {w w' : World} {base g : Nat} {l : List Int} (h : IRow w base g l) (he : Ext w w') : IRow w' base g l := RowAt.ext h he (by decide)
theorem IRow.chg {M : Nat → Prop} {w w' : World} {base g : Nat} {l : List Int} (h : IRow w base g l) (he : Chg M w w') (hM : ¬ M g) : IRow w' base g l :=
  RowAt.chg h he (fun g' hg => by
    simp only [rowBlock] at hg
    split at hg
    · cases hg
    · cases hg; exact hM) (by decide)
theorem chg_one (w : World) (b o : Nat) (u : Value) : Chg (· = b) w (w.setCell ⟨b, o, none⟩ u) := Chg.setCell (M := (· = b)) (p := ⟨b, o, none⟩) (Chg.refl _ _) (.inl rfl) u
/-- Another block is written. -/
theorem IRow.other {w : World} {base g : Nat} {l : List Int} (h : IRow w base g l) {b o : Nat} (hb : b ≠ g) (u : Value) : IRow (w.setCell ⟨b, o, none⟩ u) base g l :=
  h.chg (chg_one w b o u) (fun e => hb e.symm)
theorem IRow.mono {w : World} {base base' g : Nat} {l : List Int} (h : IRow w base g l) (hb : base' ≤ base) : IRow w base' g l := RowAt.mono h hb
theorem IRow.ints {w : World} {base g : Nat} {l : List Int} (h : IRow w base g l) (hb : l.length ≤ 1000000) (hI : ∀ x ∈ l, I64 x) (S : Nat → Prop) (hS : ∀ b, base ≤ b → S b) : Ints w S (.slice (some ⟨g, 0, none⟩) l.length l.length) l :=
  Ints.of_row (base := base) (by rw [flatMap_intF]; exact h) (by omega) hI S (fun b hbb _ => hS b hbb)

theorem RowAt.of_own {w : World} {base : Nat} {e : TypeId} {size : Nat} {v : Value} {n : Nat} {xs : List Value} (h : w.ownsRow base e size v n xs) : RowAt w base size v n xs := by
  refine ⟨h.1, ?_⟩
  rcases h.2 with ⟨rfl, rfl⟩ | ⟨g, cap, cur, rfl, hbg, hg, hnc, hcm, hcs, htake⟩
  · exact ⟨none, 0, rfl, Nat.le_refl _, Nat.zero_le _, .inl rfl⟩
  · refine ⟨_, cap, rfl, hnc, hcm, .inr ⟨g, 0, rfl, hbg, fun j hj => ?_, fun j hj => ?_⟩⟩
    · rw [Nat.zero_add, cell_of_row w g _ cur e (0, 0) hg, ← htake, List.getElem?_take, if_pos hj, Array.getElem?_toList]
    · rw [Nat.zero_add]
      refine ⟨by rw [cell_of_row w g _ cur e (0, 0) hg, Array.getElem?_eq_getElem (by omega)]; rfl, frozen_of_row w g _ cur e hg⟩

theorem ext_none {w w' : World} (hg : w.grownBy w' none) : Ext w w' := (Ext.refl w).grown hg (fun _ h => by cases h)

/-- A right function's ops. -/
structure RightF (p : List GFunc) (f : GFunc) : Prop where
  len : f.code.length ≤ 24
  op : ∀ x ∈ f.code, 0 ≤ x.kind ∧ x.kind ≤ 16 ∧ 0 ≤ x.a ∧ (x.kind = 9 ∨ x.kind = 10 → x.a < f.code.length) ∧ (x.kind = 11 → x.a < p.length) ∧ 0 ≤ takesOf p x ∧ takesOf p x ≤ 4
  locals : 0 ≤ f.args ∧ f.args ≤ f.locals ∧ f.locals ≤ 4

theorem sizedB_facts {f : GFunc} (h : sizedB f = true) : 0 ≤ f.args ∧ f.args ≤ f.locals ∧ f.locals ≤ 4 := by
  unfold sizedB at h
  exact of_decide_eq_true h

theorem funcErr_zero {p : List GFunc} {f : Int} (h : funcErr p f = 0) : 0 ≤ f ∧ f < p.length ∧ ∀ hf : f.toNat < p.length, RightF p p[f.toNat] := by
  unfold funcErr at h
  by_cases hf : 0 ≤ f ∧ f < p.length
  · rw [if_neg (fun k => k hf)] at h
    refine ⟨hf.1, hf.2, fun hl => ?_⟩
    have e : p.getD f.toNat default = p[f.toNat] := by simp [List.getD, List.getElem?_eq_getElem hl]
    rw [e] at h
    by_cases h2 : 24 < p[f.toNat].code.length
    · rw [if_pos h2] at h; omega
    · rw [if_neg h2] at h
      cases h3 : sizedB p[f.toNat] with
      | false => rw [if_pos h3] at h; omega
      | true =>
        rw [if_neg (by rw [h3]; decide)] at h
        refine ⟨by omega, fun x hx => ?_, sizedB_facts h3⟩
        have hops := ok_ops h x hx
        obtain ⟨k0, k1, a0, a1, hs, _⟩ := ok_facts hops
        have h11 : x.kind = 11 → x.a < p.length := fun hk => by
          unfold mostOf at a1
          rw [if_neg (by omega), if_neg (by omega), if_neg (by omega), if_pos (.inl hk)] at a1
          omega
        refine ⟨k0, k1, a0, fun hk => ?_, h11, ?_⟩
        · unfold mostOf at a1
          rw [if_neg (by omega), if_neg (by omega), if_pos hk] at a1
          omega
        · unfold takesOf
          split
          · omega
          · split
            · omega
            · split
              · rename_i hk
                have := sizedB_facts (hs (.inl hk))
                omega
              · omega
  · rw [if_pos hf] at h; omega

theorem RightF.jumps {p : List GFunc} {f : GFunc} (h : RightF p f) : Jumps f.code := by
  intro k hk hj
  have e : f.code.getD k default = f.code[k] := by simp [List.getD, List.getElem?_eq_getElem hk]
  rw [e] at hj ⊢
  obtain ⟨_, _, h3, h4, _⟩ := h.op _ (List.getElem_mem hk)
  have := h4 hj
  omega

/-- One number in a new block. -/
theorem src_one (w : World) (n : Int) (t : TypeId) : SrcSl (w.alloc (.cells #[.int .i64 n] t)) 1 (.slice (some ⟨w.heap.size, 0, none⟩) 1 1) 1 (ints [n]) := by
  refine ⟨_, 1, rfl, rfl, by simp [ints, Value.oneCell'], .inr ⟨_, rfl, fun j u hj => ?_⟩⟩
  match j, hj with
  | 0, hj =>
    cases hj
    rw [Addr.add_zero']
    exact World.cell?_alloc_new w _ _ 0

def nats (l : List Nat) : List Int := l.map (fun k : Nat => (k : Int))
theorem getD_eq {l : List GOp} {i : Nat} (h : i < l.length) : l.getD i default = l[i] := by simp [List.getD, List.getElem?_eq_getElem h]

end Go.Proofs.YtpcjkfppacnkgaaGreatDoor
end
section
/- Contract of flow.Next, and of the iterator that it hands back: for every body that keeps what it says. -/
set_option maxHeartbeats 2000000
set_option maxRecDepth 100000
namespace Go.Proofs.YtpcjkfppacnkgaaGreatDoor
open Go Go.RowKit Go.Shelf

attribute [local go_sem] Oper.semAt_some

/-- The block in which the row lies that box bw names. -/
def RowB (W : World) (bw b : Nat) : Prop := ∃ v, W.cell? ⟨bw, 0, none⟩ = some v ∧ rowBlock v = some b

/-- What a round keeps: all cells, but those of fx and of the row that box bw names. -/
structure KpF (fx : Nat → Prop) (bw : Nat) (A B : World) : Prop where
  size : A.heap.size ≤ B.heap.size
  same : ∀ b o, ¬ fx b → ¬ RowB A bw b → A.heap[b]? = some o → o.isCells = true → B.heap[b]? = some o
  row : ∀ b, RowB B bw b → RowB A bw b ∨ A.heap.size ≤ b

theorem KpF.trans {fx : Nat → Prop} {bw : Nat} {A B C : World} (h : KpF fx bw A B) (k : KpF fx bw B C) : KpF fx bw A C where
  size := Nat.le_trans h.size k.size
  same b o hf hr ho hc := k.same b o hf (fun hb => (h.row b hb).elim hr (fun hle => by have := (Array.getElem?_eq_some_iff.1 ho).1; omega)) (h.same b o hf hr ho hc) hc
  row b hb := (k.row b hb).elim (h.row b) (fun hle => .inr (Nat.le_trans h.size hle))

theorem KpF.put {fx : Nat → Prop} {bw : Nat} {w : World} (hbw : bw < w.heap.size) (W : World) (l : Nat) (o o' : Obj) (hl : w.heap.size ≤ l) (ho : W.heap[l]? = some o) (hc : o.isCells = false) (_ : o.isWalk = false) : KpF fx bw W (W.putObj l o') where
  size := by simp
  same b o'' _ _ hb hcb := by
    have : b ≠ l := fun e => by subst e; rw [ho] at hb; cases hb; rw [hc] at hcb; cases hcb
    exact (World.putObj_heap_other this).trans hb
  row b hb := by
    obtain ⟨v, hv, hr⟩ := hb
    refine .inl ⟨v, ?_, hr⟩
    rw [← hv]
    exact (World.cell?_of_block (World.putObj_heap_other (by show bw ≠ l; omega))).symm

theorem KpF.cell {fx : Nat → Prop} {bw : Nat} {A B : World} (h : KpF fx bw A B) {b o : Nat} {v : Value} (hf : ¬ fx b) (hr : ¬ RowB A bw b) (hc : A.cell? ⟨b, o, none⟩ = some v) : B.cell? ⟨b, o, none⟩ = some v := by
  obtain ⟨ob, ho, hcc⟩ := cells_of_cell hc
  have := h.same b ob hf hr ho hcc
  rw [← hc]
  exact World.cell?_of_block (this.trans ho.symm)

theorem RowB.of_below {w W : World} {bw b : Nat} (hW : Below w.heap.size w W) (hbw : bw < w.heap.size) (h : RowB W bw b) : RowB w bw b := by
  obtain ⟨v, hv, hr⟩ := h
  exact ⟨v, by rw [← hv]; exact (hW.cell (p := ⟨bw, 0, none⟩) hbw).symm, hr⟩

theorem next_any (ca : Option Addr) (cn ccap : Nat) (k : Int) (w : World) :
    Calls Tryz.prog 125 #[.slice ca cn ccap, .int .i64 k] w fun e w' => e = .returned (.func (.func 156) #[] #[.pointer (some ⟨w.heap.size, 0, none⟩), .pointer (some ⟨w.heap.size + 1, 0, none⟩)]) ∧ w' = (w.alloc (.cells #[.slice ca cn ccap] 47)).alloc (.cells #[.int .i64 k] 3) := by
  go_enter Tryz.func125, Tryz.ntmps125
  go_wp2_with fail
  go_ret
  exact ⟨rfl, rfl⟩


/-- What has come when the iterator runs to its end. -/
theorem next_stops (n : Nat) (hn : 1 ≤ n) (fx : Nat → Prop) (bw b2 b3 : Nat) (cb co cn ccap : Nat) (x : GOp) (k : Nat) (w : World)
    (hk : k < cn) (hk24 : cn ≤ 24) (h2 : w.cell? ⟨b2, 0, none⟩ = some (.slice (some ⟨cb, co, none⟩) cn ccap)) (h3 : w.cell? ⟨b3, 0, none⟩ = some (.int .i64 k))
    (hx0 : w.cell? ⟨cb, co + k * 2, none⟩ = some (.int .i64 x.kind)) (hx1 : w.cell? ⟨cb, co + k * 2 + 1, none⟩ = some (.int .i64 x.a)) (ha : 0 ≤ x.a) (hle : ∀ i ∈ nx x k, i ≤ cn)
    (hfx : ∀ b, fx b → b < w.heap.size ∧ b ≠ b3) (hbw : bw < w.heap.size) (hrow : ∀ b, RowB w bw b → b < w.heap.size ∧ b ≠ b3) :
    SeqStopsK Fence.wide n Tryz.prog 156 #[.pointer (some ⟨b2, 0, none⟩), .pointer (some ⟨b3, 0, none⟩)] (fun i : { i : Nat // i ≤ cn } => #[Value.int .i64 i.1]) (KpF fx bw) (fun xs => xs.map (·.1) = nx x k) (fun pre => pre.map (·.1) <+: nx x k) 2 w := by
  intro l J Jx W hW hJ hJx hY h0
  have y2 : W.cell? ⟨b2, 0, none⟩ = some (.slice (some ⟨cb, co, none⟩) cn ccap) := Ext.cell hW h2
  have y3 : W.cell? ⟨b3, 0, none⟩ = some (.int .i64 k) := Ext.cell hW h3
  have z0 : W.cell? ⟨cb, co + k * 2, none⟩ = some (.int .i64 x.kind) := Ext.cell hW hx0
  have z1 : W.cell? ⟨cb, co + k * 2 + 1, none⟩ = some (.int .i64 x.a) := Ext.cell hW hx1
  have hJ0 : J [] (W.alloc (.cells #[.int .i64 x.kind, .int .i64 x.a] 51)) := hJ [] W _ none h0 (World.grownBy_alloc W _ none) (fun r e => by cases e)
  have RA := alloc_keep
  have hsz : w.heap.size ≤ W.heap.size := Ext.size hW
  have hb3 := lt_of_cell h3
  refine callsIn_of_wp Tryz.func156 rfl trivial ?_ rfl
  simp only [Tryz.ntmps156, List.size_toArray, List.length_cons, List.length_nil, Nat.reduceAdd, Nat.reduceSub, Array.replicate_succ, Array.replicate_zero, List.push_toArray, List.append_toArray, List.nil_append, List.cons_append]
  have hW1 : Below w.heap.size w (W.alloc (.cells #[.int .i64 x.kind, .int .i64 x.a] 51)) := Ext.alloc hW _
  have hrow1 : ∀ b, RowB (W.alloc (.cells #[.int .i64 x.kind, .int .i64 x.a] 51)) bw b → b < w.heap.size ∧ b ≠ b3 := fun b h => hrow b (RowB.of_below hW1 hbw h)
  have y3' := alloc_keep W (.cells #[.int .i64 x.kind, .int .i64 x.a] 51) ⟨b3, 0, none⟩ (by rw [y3]; rfl)
  rw [y3] at y3'
  have KK : IntKind.i64.wrap ((k : Int) + 1) = (k : Int) + 1 := IntWalk.i64_in _ (by omega)
  have HX0 := Lib.hid (fun W3 (hk3 : KpF fx bw (W.alloc (.cells #[.int .i64 x.kind, .int .i64 x.a] 51)) W3) =>
    KpF.cell hk3 (b := W.heap.size) (o := 0) (fun h => by have := (hfx _ h).1; omega) (fun h => by have := (hrow1 _ h).1; omega) (cell_alloc0 W x.kind x.a 51))
  have HX3 := Lib.hid (fun W3 (hk3 : KpF fx bw (W.alloc (.cells #[.int .i64 x.kind, .int .i64 x.a] 51)) W3) =>
    KpF.cell hk3 (b := b3) (o := 0) (fun h => (hfx _ h).2 rfl) (fun h => (hrow1 _ h).2 rfl) y3')
  by_cases h9 : x.kind = 9
  · have T9 : (x.kind == 9) = true := by simp [h9]
    have hnx : nx x k = [x.a.toNat] := by simp [nx, h9]
    have T9n : (x.kind != 9) = false := by simp [h9]
    clear h9
    obtain ⟨fn, tmps, assign, body, hy, hR⟩ := hY [] ⟨x.a.toNat, hle _ (by rw [hnx]; simp)⟩ _ hJ0 (Nat.succ_pos 1)
    dsimp only at hy
    rw [show ((x.a.toNat : Nat) : Int) = x.a by omega] at hy
    gi_wp2
    refine hR.mono ?_
    rintro e W3 (⟨rfl, hJ3, hk3⟩ | ⟨rfl, hJx3⟩)
    · have q0 := HX0.out _ hk3
      gi_wp2
      go_end0
      refine ⟨⟨_, rfl⟩, .inl ⟨_, ?_, hJ3⟩⟩
      exact hnx.symm
    · gi_wp2
      refine bodyPost_ret (results_none rfl _ _ _) rfl ?_
      refine ⟨⟨_, rfl⟩, .inr ⟨_, ?_, hJx3⟩⟩
      have hp := List.prefix_refl (nx x k)
      exact (congrArg (· <+: nx x k) hnx).mp hp
  · have T9 : (x.kind == 9) = false := by simp [h9]
    have T9n : (x.kind != 9) = true := by simp [h9]
    by_cases h10 : x.kind = 10
    · have T10 : (x.kind == 10) = true := by simp [h10]
      have T12 : (x.kind != 12) = true := by simp [h10]
      have hnx : nx x k = [x.a.toNat, k + 1] := by simp [nx, h10]
      clear h9 h10
      obtain ⟨fn, tmps, assign, body, hy, hR⟩ := hY [] ⟨x.a.toNat, hle _ (by rw [hnx]; simp)⟩ _ hJ0 (Nat.succ_pos 1)
      dsimp only at hy
      rw [show ((x.a.toNat : Nat) : Int) = x.a by omega] at hy
      gi_wp2
      refine hR.mono ?_
      rintro e W3 (⟨rfl, hJ3, hk3⟩ | ⟨rfl, hJx3⟩)
      · have q0 := HX0.out _ hk3
        have q3 := HX3.out _ hk3
        clear hy hR
        obtain ⟨fn, tmps, assign, body, hy, hR⟩ := hY [⟨x.a.toNat, hle _ (by rw [hnx]; simp)⟩] ⟨k + 1, hle _ (by rw [hnx]; simp)⟩ _ hJ3 (Nat.lt_succ_self 1)
        rw [show ((k + 1 : Nat) : Int) = (k : Int) + 1 by omega] at hy
        gi_wp2
        refine hR.mono ?_
        rintro e W4 (⟨rfl, hJ4, hk4⟩ | ⟨rfl, hJx4⟩)
        · gi_wp2
          go_end0
          refine ⟨⟨_, rfl⟩, .inl ⟨_, ?_, hJ4⟩⟩
          exact hnx.symm
        · gi_wp2
          go_end0
          refine ⟨⟨_, rfl⟩, .inr ⟨_, ?_, hJx4⟩⟩
          have hp := List.prefix_refl (nx x k)
          exact (congrArg (· <+: nx x k) hnx).mp hp
      · gi_wp2
        refine bodyPost_ret (results_none rfl _ _ _) rfl ?_
        refine ⟨⟨_, rfl⟩, .inr ⟨_, ?_, hJx3⟩⟩
        exact ⟨[k + 1], hnx.symm⟩
    · have T10 : (x.kind == 10) = false := by simp [h10]
      by_cases h12 : x.kind = 12
      · have T12 : (x.kind != 12) = false := by simp [h12]
        have hnx : nx x k = [] := by simp [nx, h12]
        clear h9 h10 h12
        gi_wp2
        refine ⟨fun _ h => (by cases h), ?_⟩
        gi_wp2
        go_end0
        refine ⟨⟨_, rfl⟩, .inl ⟨_, ?_, hJ0⟩⟩
        exact hnx.symm
      · have T12 : (x.kind != 12) = true := by simp [h12]
        have hnx : nx x k = [k + 1] := by simp [nx, h9, h10, h12]
        clear h9 h10 h12
        obtain ⟨fn, tmps, assign, body, hy, hR⟩ := hY [] ⟨k + 1, hle _ (by rw [hnx]; simp)⟩ _ hJ0 (Nat.succ_pos 1)
        dsimp only at hy
        rw [show ((k + 1 : Nat) : Int) = (k : Int) + 1 by omega] at hy
        gi_wp2
        refine ⟨fun _ h => (by cases h), ?_⟩
        gi_wp2
        refine hR.mono ?_
        rintro e W4 (⟨rfl, hJ4, hk4⟩ | ⟨rfl, hJx4⟩)
        · gi_wp2
          go_end0
          refine ⟨⟨_, rfl⟩, .inl ⟨_, ?_, hJ4⟩⟩
          exact hnx.symm
        · gi_wp2
          go_end0
          refine ⟨⟨_, rfl⟩, .inr ⟨_, ?_, hJx4⟩⟩
          have hp := List.prefix_refl (nx x k)
          exact (congrArg (· <+: nx x k) hnx).mp hp

/-- The law on a range over a function, the round's frame found by the walk. -/
theorem rangeF_ex {F : Fence} {n : Nat} {P : Program} {α : Type} {g : Operand} {ps : Array Tmp} {assign body : Code} {Q : Exit → Act → World → Prop} {a : Act} {w : World}
    (hro : F.round = none) (h1 : 1 ≤ n) {gf : Nat} {lb : Array Value} (hg : a.eval g = .func (.func gf) #[] lb) (hFg : F.fn gf) (eg : ∀ args w, (callFunc gf args).run P w = .ok (.enter gf args) w)
    {encs : α → Array Value} {Kp : World → World → Prop} {S Sp : List α → Prop} {N : Nat} {w0 : World} (hseq : SeqStopsK F (n - 1) P gf lb encs Kp S Sp N w0)
    (hKt : ∀ {A B C : World}, Kp A B → Kp B C → Kp A C) (hKb : ∀ (W : World) (l : Nat) (o o' : Obj), w.heap.size ≤ l → W.heap[l]? = some o → o.isCells = false → o.isWalk = false → Kp W (W.putObj l o')) (hb0 : Below w0.heap.size w0 w) (hps : ∀ x, (encs x).size = ps.size)
    (I : List α → World → Prop) (Ix : Code → List α → World → Prop) (hI : OwnFrom w.heap.size I) (hIx : ∀ c, OwnFrom w.heap.size (Ix c)) (h0 : I [] w)
    (hab : ∃ a₁ : α → Act, (∀ (l : Nat) (x : α) (W : World) (K : Act → World → Prop), K (a₁ x) W →
      assign.wpIn (F.inRound l) (n - 1 - 1) P (Exit.then K (fun _ _ _ => False)) { tmps := (ps.zip (encs x)).foldl (fun t (p, v) => t.setIfInBounds p v) a.tmps, defers := [] } W) ∧
      (∀ (l : Nat) (pre : List α) (x : α) (W : World), I pre W → pre.length < N → body.wpIn (F.inRound l) (n - 1 - 1) P (ownPostK Kp I Ix (pre ++ [x]) W) (a₁ x) W))
    (hdone : ∀ (D : Nat) (xs : List α) (W : World), w.heap.size ≤ D → S xs → I xs W → W.heap[D]? = some (.deferred (some [])) → Q .normal { a with defers := { target := .collected D, args := #[] } :: a.defers } W)
    (hstop : ∀ (D : Nat) (c : Code) (pre : List α) (W : World), w.heap.size ≤ D → Sp pre → Ix c pre W → W.heap[D]? = some (.deferred (some [])) → c.wpIn F n P Q { a with defers := { target := .collected D, args := #[] } :: a.defers } W) :
    (Code.rangeFunc g ps assign body).wpIn F n P Q a w := by
  obtain ⟨a₁, h1a, h1b⟩ := hab
  exact wpIn_rangeFunc_ownF hro h1 hg hFg eg hseq hKt hKb hb0 hps I Ix hI hIx h0 a₁ h1a h1b hdone hstop
end Go.Proofs.YtpcjkfppacnkgaaGreatDoor
end
section
/- Contracts: math/bits.Mul64, math/bits.Mul, slices.Repeat of one -1, N times, N from 1 to 24. -/
set_option maxHeartbeats 2000000
set_option maxRecDepth 100000
namespace Go.Proofs.YtpcjkfppacnkgaaGreatDoor
open Go Go.RowKit Go.Lib

theorem mul64_any (x y : Nat) (hx : x < 18446744073709551616) (hy : y < 18446744073709551616) (w : World) :
    Calls Tryz.prog 191 #[.int .u64 x, .int .u64 y] w fun e w' => e = .returned (.tuple #[.int .u64 ((x * y / 18446744073709551616 : Nat) : Int), .int .u64 ((x * y % 18446744073709551616 : Nat) : Int)]) ∧ w = w' := by
  obtain ⟨bd, bt, bw, hhi⟩ := Lib.mul64_hi x y hx hy
  have ba := Lib.half_mul_le (a := x / 4294967296) (b := y / 4294967296) (by omega) (by omega)
  have bb := Lib.half_mul_le (a := x / 4294967296) (b := y % 4294967296) (by omega) (by omega)
  have bc := Lib.half_mul_le (a := x % 4294967296) (b := y / 4294967296) (by omega) (by omega)
  have ba' : x / 4294967296 * (y / 4294967296) < 18446744073709551616 := by omega
  have bb' : x / 4294967296 * (y % 4294967296) < 18446744073709551616 := by omega
  have bc' : x % 4294967296 * (y / 4294967296) < 18446744073709551616 := by omega
  have bh1 : x / 4294967296 * (y / 4294967296) + (x / 4294967296 * (y % 4294967296) + x % 4294967296 * (y % 4294967296) / 4294967296) / 4294967296 < 18446744073709551616 := by omega
  have bh : x / 4294967296 * (y / 4294967296) + (x / 4294967296 * (y % 4294967296) + x % 4294967296 * (y % 4294967296) / 4294967296) / 4294967296 + ((x / 4294967296 * (y % 4294967296) + x % 4294967296 * (y % 4294967296) / 4294967296) % 4294967296 + x % 4294967296 * (y / 4294967296)) / 4294967296 < 18446744073709551616 := by omega
  go_enter Tryz.func191, Tryz.ntmps191
  go_wp2
  simp only [Mul64.maskN x hx, Mul64.maskN y hy, Mul64.divN, Mul64.mulN, Mul64.addN, Mul64.wrapN _ bd, Mul64.wrapN _ bb', Mul64.wrapN _ bt, Mul64.maskN _ bt, Mul64.wrapN _ bc', Mul64.wrapN _ bw, Mul64.wrapN _ ba', Mul64.wrapN _ bh1, Mul64.wrapN _ bh, Mul64.wrapM (x * y)]
  rw [hhi]
  go_ret2
  exact ⟨rfl, rfl⟩

theorem mul_any (y : Nat) (hy : y < 18446744073709551616) (w : World) :
    Calls Tryz.prog 155 #[.int .u64 1, .int .u64 y] w fun e w' => e = .returned (.tuple #[.int .u64 0, .int .u64 y]) ∧ w = w' := by
  have c := mul64_any 1 y (by omega) hy w
  rw [Nat.one_mul, Nat.mod_eq_of_lt hy, Nat.div_eq_of_lt hy] at c
  go_enter Tryz.func155, Tryz.ntmps155
  go_wp2_with (first
    | (go_at_call 191; refine c.mono ?_; rintro e w1 ⟨rfl, rfl⟩))
  go_ret2
  exact ⟨rfl, rfl⟩

/-- What lies in the row when k are laid. -/
def repL (N k : Nat) : List Value := ints (List.replicate k (-1) ++ List.replicate (N - k) 0)
theorem repL_len {N k : Nat} (h : k ≤ N) : (repL N k).length = N := by simp [repL, ints]; omega

theorem infoIs : (Tryz.prog.info? 3).map (·.size) = some 1 := by kernel_rfl

theorem repL_splice {N k m : Nat} (_h : k + m ≤ N) : splice (repL N k) k (ints (List.replicate m (-1))) = repL N (k + m) := by
  unfold splice repL ints
  simp only [List.map_append, List.map_replicate, List.length_replicate]
  rw [List.take_left' (by simp), List.drop_append]
  simp only [List.length_replicate, List.drop_replicate]
  rw [show k - (k + m) = 0 by omega, show k + m - k = m by omega, show N - k - m = N - (k + m) by omega, List.replicate_zero, List.nil_append, ← List.append_assoc, List.replicate_append_replicate]

theorem repeat_any (v : Value) (bx ox cx N : Nat) (hN : 1 ≤ N) (hN' : N ≤ 24) (w : World) (hv : v = .slice (some ⟨bx, ox, none⟩) 1 cx) (hc : w.cell? ⟨bx, ox, none⟩ = some (.int .i64 (-1))) :
    Calls Tryz.prog 123 #[v, .int .i64 N] w fun e w' => e = .returned (.slice (some ⟨w.heap.size, 0, none⟩) N N) ∧ Ext w w' ∧ w'.heap[w.heap.size]? = some (.cells (repL N N).toArray 3 (0, 0)) := by
  subst hv
  have RA := alloc_keep
  obtain ⟨i0, hi0, hz0, hz1, hz2⟩ := info_parts infoI
  have HM := Lib.hid (mul_any N (by omega))
  have KW : IntKind.u64.wrap (N : Int) = N := by rw [IntKind.wrap_u64]; omega
  have KW2 : IntKind.i64.wrap (N : Int) = N := IntWalk.i64_in _ (by omega)
  have KN : ¬ (N : Int) < 0 := by omega
  have KL : ¬ (N : Int) > 9223372036854775807 := by omega
  have hb := lt_of_cell hc
  go_enter Tryz.func123, Tryz.ntmps123
  go_upto_region 7 with (first
    | (go_at_call 155; refine (HM.out _).mono ?_; rintro e w1 ⟨rfl, rfl⟩)
    | (at_make; refine wpList_make_full _ rfl _ _ 30 rfl w.heap.size 3 i0 (.int .i64 0) 1 Tryz.underlying30 hi0 hz0 hz1 .i64 .i64 _ _ N rfl rfl rfl rfl (by rw [hz2]; omega) (by unfold maxLen; omega) (Nat.le_refl _) ?_; intro w1 hown1 hgr1))
  have hE : Ext w w1 := ext_none hgr1
  have hg1 : w1.heap[w.heap.size]? = some (.cells (repL N 0).toArray 3 (0, 0)) := by
    rcases hown1.2 with ⟨h, h'⟩ | ⟨g, cap, cur, e, _, hg, _, _, hcs, htk⟩
    · omega
    · simp only [Value.slice.injEq, Option.some.injEq, Addr.mk.injEq] at e
      obtain ⟨⟨rfl, -⟩, -, rfl⟩ := e
      rw [hg]
      congr 2
      rw [← Array.toArray_toList (xs := cur)]
      congr 1
      rw [List.take_of_length_le (by simp; omega)] at htk
      rw [htk, show (Value.int IntKind.i64 0).cells = #[.int .i64 0] from rfl, toList_madeCells_one, Nat.mul_one]
      simp [repL, ints]
  have hc1 := Ext.cell hE hc
  have HMIN : (ints (List.replicate 1 (-1))).length = Nat.min 1 N := by rw [show Nat.min 1 N = 1 from Nat.min_eq_left hN]; rfl
  have HFIT : 0 + (ints (List.replicate 1 (-1))).length ≤ (repL N 0).length := by rw [repL_len (by omega)]; simp [ints]; omega
  have HSRC : ∀ (j : Nat) (v : Value), (ints (List.replicate 1 (-1)))[j]? = some v → w1.cell? ((⟨bx, ox, none⟩ : Addr).add j) = some v := fun j v hj => by
    match j, hj with
    | 0, hj => cases hj; rw [Addr.add_zero']; exact hc1
  clear hown1 hgr1
  go_wp2_with (first
    | (refine wpList_copy_splice rfl _ _ 30 30 rfl 3 Tryz.underlying30 infoIs _ _ _ _ _ _ rfl rfl w.heap.size 0 (repL N 0) 3 hg1 (ints (List.replicate 1 (-1))) HMIN (fun _ => ⟨rfl, _, rfl, HSRC⟩) HFIT (by simp [ints, Value.oneCell']) w.heap.size w hE (Nat.le_refl _) ?_; intro w2 hg2 hE2))
  have HG2 : Hid (w2.heap[w.heap.size]? = some (.cells (repL N 1).toArray 3 (0, 0))) := by
    have := hg2.out
    rwa [repL_splice (by omega)] at this
  have HE2 : Hid (Ext w w2) := Lib.hid hE2
  clear hg2 hE2 hg1 hE hc1
  go_loopw [8] (fun q wr => ∃ k : Nat, 1 ≤ k ∧ k ≤ N ∧ q = .int .i64 k ∧ Ext w wr ∧ wr.heap[w.heap.size]? = some (.cells (repL N k).toArray 3 (0, 0))) (fun q _ => N - (intOf q).toNat)
  case atStart => exact ⟨1, by omega, hN, rfl, HE2.out, HG2.out⟩
  case round =>
    obtain ⟨k, hk1, hkN, rfl, he3, hg3⟩ := hrel
    have HE3 := Lib.hid he3
    have HG3 := Lib.hid hg3
    clear he3 hg3 HE2 HG2
    by_cases hlt : k < N
    · have hne : ¬ N = k := by omega
      have hne2 : ¬ N - k = 0 := by omega
      have hle : k ≤ N := hkN
      obtain ⟨m, hm⟩ : ∃ m, Nat.min k (N - k) = m := ⟨_, rfl⟩
      have hm1 : 1 ≤ m ∧ m ≤ k ∧ k + m ≤ N := by
        rw [← hm]
        have h1 := Nat.min_le_left k (N - k)
        have h2 := Nat.min_le_right k (N - k)
        have h3 : 1 ≤ min k (N - k) := Nat.le_min.2 ⟨hk1, by omega⟩
        exact ⟨h3, h1, by have : Nat.min k (N - k) ≤ N - k := h2; omega⟩
      obtain ⟨hm1, hm2, hm3⟩ := hm1
      have HMIN : (ints (List.replicate m (-1))).length = Nat.min k (N - k) := by rw [hm]; simp [ints]
      have HFIT : k + (ints (List.replicate m (-1))).length ≤ (repL N k).length := by rw [repL_len (by omega)]; simp [ints]; omega
      have HSRC : ∀ (j : Nat) (v : Value), (ints (List.replicate m (-1)))[j]? = some v → wr.drew.cell? ((⟨w.heap.size, 0, none⟩ : Addr).add j) = some v := fun j v hj => by
        have hj' : j < m := by
          have := (List.getElem?_eq_some_iff.1 hj).1
          simpa [ints] using this
        show wr.cell? _ = _
        rw [Addr.add_lit, cell_of_row wr _ _ _ _ (0, 0) HG3.out, Nat.zero_add]
        rw [← hj]
        simp only [repL, ints, List.getElem?_toArray, List.map_append, List.map_replicate]
        rw [List.getElem?_append_left (by simp; omega), List.getElem?_replicate, List.getElem?_replicate, if_pos (by omega), if_pos hj']
      have HGI : goInt (ints (List.replicate m (-1))).length = .int .i64 (m : Int) := by simp [ints, goInt]
      have HMI : Hid ((m : Int) = ((ints (List.replicate m (-1))).length : Int)) := by unfold Hid; simp [ints]
      have KK : IntKind.i64.wrap ((k : Int) + (m : Int)) = (k : Int) + m := IntWalk.i64_in _ (by omega)
      go_wp2_with fail
      go_region_law (refine step_copy_splice rfl (.tmp 41) (.tmp 44) 30 30 rfl 3 Tryz.underlying30 infoIs (some ⟨w.heap.size, k, none⟩) (some ⟨w.heap.size, 0, none⟩) (N - k) (N - k) k N (by simp [Act.eval, Act.put]) (by simp [Act.eval, Act.put]) w.heap.size k (repL N k) 3 (by exact HG3.out) (ints (List.replicate m (-1))) HMIN (fun _ => ⟨rfl, _, rfl, HSRC⟩) HFIT (by simp [ints, Value.oneCell']) w.heap.size w HE3.out.drew (Nat.le_refl _) ?_; rw [HGI]; intro w4 hg4 hb4)
      have hg5 := hg4.out
      rw [repL_splice hm3] at hg5
      clear hg4
      simp only [Act.put, List.getElem_toArray, List.getElem_cons_succ, List.getElem_cons_zero, List.setIfInBounds_toArray, List.set_cons_succ, List.set_cons_zero]
      go_wp2_with fail
      go_roundw
      case rel => exact ⟨k + m, by omega, by omega, by go_num, hb4, hg5⟩
      case measure => simp [intOf]; omega
    · obtain rfl : k = N := by omega
      go_wp2_with fail
      go_ret
      exact ⟨rfl, HE3.out, HG3.out⟩
end Go.Proofs.YtpcjkfppacnkgaaGreatDoor
end
section
/- Contract of the document's heights. -/
set_option maxHeartbeats 4000000
set_option maxRecDepth 100000
namespace Go.Proofs.YtpcjkfppacnkgaaGreatDoor
open Go Go.RowKit

/-- What heights hands back. -/
def HtsRet (B : Nat) (r : Option (List Int)) (e : Ending) (w' : World) : Prop := match r with
  | none => e = .returned (.tuple #[.slice none 0 0, .bool false])
  | some l => ∃ v, e = .returned (.tuple #[v, .bool true]) ∧ Ints w' (B ≤ ·) v l

/-- Heights as they may be. -/
def Hgt (N : Nat) (out : List Int) : Prop := out.length = N ∧ ∀ x ∈ out, -1 ≤ x ∧ x ≤ 8
theorem Hgt.get {N : Nat} {out : List Int} (h : Hgt N out) {k : Nat} (hk : k < N) : -1 ≤ out.getD k 0 ∧ out.getD k 0 ≤ 8 := by
  have hk' : k < out.length := by rw [h.1]; exact hk
  have e : out.getD k 0 = out[k] := by simp [List.getD, List.getElem?_eq_getElem hk']
  rw [e]
  exact h.2 _ (List.getElem_mem hk')
theorem Hgt.set {N : Nat} {out : List Int} (h : Hgt N out) (k : Nat) {n : Int} (hn : -1 ≤ n ∧ n ≤ 8) : Hgt N (out.set k n) := by
  refine ⟨by rw [List.length_set]; exact h.1, fun x hx => ?_⟩
  rcases List.mem_or_eq_of_mem_set hx with h' | rfl
  · exact h.2 x h'
  · exact hn
theorem Hgt.i64 {N : Nat} {out : List Int} (h : Hgt N out) : ∀ x ∈ out, I64 x := fun x hx => by have := h.2 x hx; unfold I64; omega
theorem Hgt.out0 (N : Nat) : Hgt N (out0 N) := by
  unfold Hgt Proofs.YtpcjkfppacnkgaaGreatDoor.out0
  refine ⟨by simp, fun x hx => ?_⟩
  rcases List.mem_or_eq_of_mem_set hx with h' | rfl
  · rw [List.eq_of_mem_replicate h']; omega
  · omega

/-- Behind a test: the list of ways on. -/
structure NxtR (w wx : World) (B : Nat) (o2 : List Int) (x : GOp) (v : Value) (is : List Nat) : Prop where
  ext : Ext w wx
  out : IRow wx w.heap.size w.heap.size o2
  row : RowAt wx B 1 v is.length (ints (nats is))
  kind : wx.cell? ⟨B, 0, none⟩ = some (.int .i64 x.kind)

end Go.Proofs.YtpcjkfppacnkgaaGreatDoor
end
