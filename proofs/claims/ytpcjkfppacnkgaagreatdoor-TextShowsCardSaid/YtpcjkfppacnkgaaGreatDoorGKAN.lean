/- Merged texts: contracts and plain facts, one part behind another; each part begins with what it says. -/
import Derived.Test.YtpcjkfppacnkgaaGreatDoorGKAK
import Derived.Test.YtpcjkfppacnkgaaGreatDoorGKAL
import Derived.Test.YtpcjkfppacnkgaaGreatDoorGKAM
section
/- Functions in own rows beside kept blocks; plain facts of the lines that the document reads. No condition. -/
set_option maxHeartbeats 1000000
namespace Go.Proofs.YtpcjkfppacnkgaaGreatDoor
open Go Go.RowKit

def blocksP (v : Value) (fs : List (GFunc × Value)) : List Nat := (rowBlock v).toList ++ fs.flatMap fun y => (rowBlock y.2).toList

theorem Ext.froz {w w' : World} (h : Ext w w') {a : Addr} {v : Value} (hc : w.cell? a = some v) : w'.frozen? a = w.frozen? a := Ext.keepF h a (by rw [hc]; rfl)
/-- Functions in own rows, from B on; the blocks of Kp are as in w0. -/
structure PF (Kp : Nat → Prop) (w w0 : World) (B : Nat) (v : Value) (fs : List (GFunc × Value)) (wx : World) : Prop where
  inK : ∀ g, Kp g → g < w0.heap.size
  le : w0.heap.size ≤ wx.heap.size
  keep : Keep Kp w0 wx
  ext : Ext w wx
  base : w.heap.size ≤ B
  row : PRow wx B v fs
  off : ∀ g ∈ blocksP v fs, ¬ Kp g

theorem PF.start {Kp : Nat → Prop} {w w0 : World} {B : Nat} {v : Value} {fs : List (GFunc × Value)} (hK : ∀ g, Kp g → g < w0.heap.size) (he : Ext w w0) (hb : w.heap.size ≤ B) (hr : PRow w0 B v fs) (ho : ∀ g ∈ blocksP v fs, ¬ Kp g) : PF Kp w w0 B v fs w0 :=
  ⟨hK, Nat.le_refl _, Keep.refl _ _, he, hb, hr, ho⟩
theorem PF.more {Kp : Nat → Prop} {w w0 wx W : World} {B : Nat} {v : Value} {fs : List (GFunc × Value)} (h : PF Kp w w0 B v fs wx) (he : Ext wx W) : PF Kp w w0 B v fs W :=
  ⟨h.inK, Nat.le_trans h.le he.size, fun b hb => (he.block b (Nat.lt_of_lt_of_le (h.inK b hb) h.le)).trans (h.keep b hb), h.ext.trans he, h.base, h.row.ext he, h.off⟩
theorem PF.back {Kp Kp' : Nat → Prop} {w w0 wa wx : World} {B : Nat} {v v0 : Value} {fs fs0 : List (GFunc × Value)} (h : PF Kp' w wa B v fs wx) (h0 : PF Kp w w0 B v0 fs0 wa) (hK : ∀ g, Kp g → Kp' g) : PF Kp w w0 B v fs wx :=
  ⟨h0.inK, Nat.le_trans h0.le h.le, fun b hb => (h.keep b (hK b hb)).trans (h0.keep b hb), h.ext, h.base, h.row, fun g hg hk => h.off g hg (hK g hk)⟩
/-- A block that came later is kept, too. -/
theorem PF.with {Kp : Nat → Prop} {w w0 wr wa : World} {B g : Nat} {v : Value} {fs : List (GFunc × Value)} (h : PF Kp w w0 B v fs wr) (he : Ext wr wa) (hg : wr.heap.size ≤ g) (hga : g < wa.heap.size) : PF (fun b => Kp b ∨ b = g) w wa B v fs wa := by
  refine PF.start (fun b hb => ?_) (h.ext.trans he) h.base (h.row.ext he) (fun b hb hk => ?_)
  · rcases hb with hb | rfl
    · exact Nat.lt_of_lt_of_le (h.inK b hb) (Nat.le_trans h.le he.size)
    · exact hga
  · rcases hk with hk | rfl
    · exact h.off b hb hk
    · have := (h.row.ge b hb).2
      omega
theorem PF.cell {Kp : Nat → Prop} {w w0 wx : World} {B : Nat} {v : Value} {fs : List (GFunc × Value)} (h : PF Kp w w0 B v fs wx) {g o : Nat} {u : Value} (hg : Kp g) (hc : w0.cell? ⟨g, o, none⟩ = some u) : wx.cell? ⟨g, o, none⟩ = some u := (h.keep.cell hg).trans hc
theorem PF.push {Kp : Nat → Prop} {w w0 wx W W' : World} {B : Nat} {v v' : Value} {fs : List (GFunc × Value)} {A L : Int} (h : PF Kp w w0 B v fs wx) (he : Ext wx W)
    (hn : NewRow W W' B 3 v v' (fs.length + 1) (fs.flatMap funcF ++ [.int .i64 A, .int .i64 L, .slice none 0 0])) (hA : I64 A) (hL : I64 L) (hl : fs.length < 10000) : PF Kp w w0 B v' (fs ++ [(⟨A, L, []⟩, .slice none 0 0)]) W' := by
  have h1 := h.more he
  have hv : ∀ g, rowBlock v = some g → ¬ Kp g := fun g e => h.off g (by unfold blocksP; rw [e]; simp)
  refine ⟨h.inK, Nat.le_trans h1.le hn.2.1.size, fun b hb => ?_, Chg.ext_from h1.ext hn.2.1 (fun g e => Nat.le_trans h.base (h1.row.row.le g e)), h.base, h1.row.push hn hA hL hl, fun g hg => ?_⟩
  · exact (hn.2.1.block b (Nat.lt_of_lt_of_le (h.inK b hb) h1.le) (fun e => hv b e hb)).trans (h1.keep b hb)
  · unfold blocksP at hg
    rw [List.flatMap_append] at hg
    have e0 : (rowBlock (.slice none 0 0)).toList = [] := rfl
    simp only [List.flatMap_cons, List.flatMap_nil, List.append_nil, e0] at hg
    rcases List.mem_append.1 hg with h2 | h2
    · rcases hn.2.2 with e | e
      · rw [e] at h2; exact h.off g (List.mem_append.2 (.inl h2))
      · intro hK
        have := e g (by simpa using h2)
        have := h.inK g hK
        have := h1.le
        omega
    · exact h.off g (List.mem_append.2 (.inr h2))
theorem PF.op {Kp : Nat → Prop} {w w0 wx W W' : World} {B g o n cap : Nat} {L : List (GFunc × Value)} {y : GFunc × Value} {v1 : Value} {x : GOp} (h : PF Kp w w0 B (.slice (some ⟨g, o, none⟩) n cap) (L ++ [y]) wx) (he : Ext wx W)
    (hn : NewRow W W' B 2 y.2 v1 (y.1.code.length + 1) (y.1.code.flatMap opF ++ opF x)) (hx : I64 x.kind ∧ I64 x.a) (hl : y.1.code.length < 10000) :
    PF Kp w w0 B (.slice (some ⟨g, o, none⟩) n cap) (L ++ [({ y.1 with code := y.1.code ++ [x] }, v1)]) (W'.setCell ⟨g, o + L.length * 3 + 2, none⟩ v1) := by
  have h1 := h.more he
  have hcap : cap ≠ 0 := by
    obtain ⟨a, c, e, h1, _⟩ := h.row.row.shape
    simp only [Value.slice.injEq] at e
    have : (L ++ [y]).length = L.length + 1 := by simp
    omega
  have hgb : rowBlock (.slice (some ⟨g, o, none⟩) n cap) = some g := rowBlock_some _ _ _ _ hcap
  have hg : ¬ Kp g := h.off g (by unfold blocksP; rw [hgb]; simp)
  have hgB : B ≤ g := h.row.row.le g hgb
  have hv : ∀ k, rowBlock y.2 = some k → ¬ Kp k := fun k e => h.off k (by unfold blocksP; rw [List.flatMap_append]; simp [e])
  have hvB : ∀ k, rowBlock y.2 = some k → B ≤ k := fun k e => (h.row.fn y (by simp)).2.2.1.le k e
  have hc := chg_one W' g (o + L.length * 3 + 2) v1
  refine ⟨h.inK, ?_, fun b hb => ?_, ?_, h.base, h1.row.op hn hx hl, fun k hk => ?_⟩
  · exact Nat.le_trans (Nat.le_trans h1.le hn.2.1.size) hc.size
  · refine (hc.block b (Nat.lt_of_lt_of_le (h.inK b hb) (Nat.le_trans h1.le hn.2.1.size)) (fun e => hg (by subst e; exact hb))).trans ?_
    exact (hn.2.1.block b (Nat.lt_of_lt_of_le (h.inK b hb) h1.le) (fun e => hv b e hb)).trans (h1.keep b hb)
  · refine Chg.ext_from (Chg.ext_from h1.ext hn.2.1 (fun k e => Nat.le_trans h.base (hvB k e))) hc (fun k e => ?_)
    subst e
    exact Nat.le_trans h.base hgB
  · unfold blocksP at hk
    rw [List.flatMap_append] at hk
    simp only [List.flatMap_cons, List.flatMap_nil, List.append_nil] at hk
    rcases List.mem_append.1 hk with h2 | h2
    · exact h.off k (List.mem_append.2 (.inl h2))
    rcases List.mem_append.1 h2 with h3 | h3
    · exact h.off k (by unfold blocksP; rw [List.flatMap_append]; exact List.mem_append.2 (.inr (List.mem_append.2 (.inl h3))))
    · rcases hn.2.2 with e | e
      · exact hv k (by rw [← e]; simpa using h3)
      · intro hK
        have := e k (by simpa using h3)
        have := h.inK k hK
        have := h1.le
        omega

theorem flat_txt : ∀ (l : List By), l.flatMap txtF = l.map txtV
  | [] => rfl
  | x :: l => by rw [List.flatMap_cons, flat_txt l]; rfl
theorem RowAt.strs {w : World} {base cap : Nat} {a : Option Addr} {l : List By} (h : RowAt w base 1 (.slice a l.length cap) l.length (l.flatMap txtF)) (hn : 0 < l.length) :
    ∃ g o, a = some ⟨g, o, none⟩ ∧ base ≤ g ∧ g < w.heap.size ∧ ∀ i (hi : i < l.length), w.cell? ⟨g, o + i, none⟩ = some (txtV l[i]) := by
  obtain ⟨g, o, rfl, hb, hc⟩ := h.cell hn
  have h1 : ∀ i (hi : i < l.length), w.cell? ⟨g, o + i, none⟩ = some (txtV l[i]) := fun i hi => by
    rw [(hc i (by omega)).1, flat_txt, List.getElem?_map, List.getElem?_eq_getElem hi]
    rfl
  exact ⟨g, o, rfl, hb, lt_of_cell (h1 0 hn), h1⟩

theorem flat_func_len : ∀ (L : List (GFunc × Value)), (L.flatMap funcF).length = L.length * 3
  | [] => rfl
  | y :: L => by rw [List.flatMap_cons, List.length_append, flat_func_len L, List.length_cons]; simp [funcF]; omega
theorem PRow.last {w : World} {B g o n cap : Nat} {L : List (GFunc × Value)} {y : GFunc × Value} (h : PRow w B (.slice (some ⟨g, o, none⟩) n cap) (L ++ [y])) :
    w.cell? ⟨g, o + L.length * 3 + 2, none⟩ = some y.2 ∧ w.frozen? ⟨g, o + L.length * 3 + 2, none⟩ = false := by
  have hr := h.row
  obtain ⟨a, c, e, h1, h2⟩ := hr.shape
  simp only [Value.slice.injEq] at e
  obtain ⟨-, e1, -⟩ := e
  rw [e1] at hr
  have hlen : (L ++ [y]).length = L.length + 1 := by simp
  obtain ⟨g', o', e2, _, hc⟩ := hr.cell (by omega)
  simp only [Option.some.injEq, Addr.mk.injEq, and_true] at e2
  obtain ⟨rfl, rfl⟩ := e2
  have h3 := hc (L.length * 3 + 2) (by omega)
  rw [Nat.add_assoc]
  refine ⟨?_, h3.2⟩
  rw [h3.1, List.flatMap_append, List.getElem?_append_right (by rw [flat_func_len]; omega), flat_func_len, show L.length * 3 + 2 - L.length * 3 = 2 by omega]
  rfl
/-- While the op is appended, the kept blocks and the row of functions stay. -/
theorem PF.op_keeps {Kp : Nat → Prop} {w w0 wx W W' : World} {B g o n cap m : Nat} {L : List (GFunc × Value)} {y : GFunc × Value} {v1 : Value} {xs : List Value} (h : PF Kp w w0 B (.slice (some ⟨g, o, none⟩) n cap) (L ++ [y]) wx) (he : Ext wx W)
    (hn : NewRow W W' B 2 y.2 v1 m xs) : Keep Kp w0 W' ∧ W'.heap[g]? = wx.heap[g]? := by
  have h1 := h.more he
  have hcap : cap ≠ 0 := by
    obtain ⟨a, c, e, h1, _⟩ := h.row.row.shape
    simp only [Value.slice.injEq] at e
    have : (L ++ [y]).length = L.length + 1 := by simp
    omega
  have hgb : rowBlock (.slice (some ⟨g, o, none⟩) n cap) = some g := rowBlock_some _ _ _ _ hcap
  have hv : ∀ k, rowBlock y.2 = some k → ¬ Kp k := fun k e => h.off k (by unfold blocksP; rw [List.flatMap_append]; simp [e])
  have hgw : g < wx.heap.size := (h.row.ge g (by rw [hgb]; simp)).2
  have hgy : rowBlock y.2 ≠ some g := fun e => by
    have hnd := h.row.nodup
    rw [hgb] at hnd
    obtain ⟨_, _, n3⟩ := List.nodup_append.1 hnd
    exact n3 g (by simp) g (by rw [List.flatMap_append]; simp [e]) rfl
  exact ⟨fun b hb => (hn.2.1.block b (Nat.lt_of_lt_of_le (h.inK b hb) h1.le) (fun e => hv b e hb)).trans (h1.keep b hb), (hn.2.1.block g (Nat.lt_of_lt_of_le hgw he.size) hgy).trans (he.block g hgw)⟩
theorem splitGo_len (c : UInt8) : ∀ (l cur : By), (∀ p ∈ splitGo c cur l, p.length ≤ cur.length + l.length)
  | [], cur => by simp [splitGo]
  | b :: l, cur => by
    rw [splitGo]
    split
    · intro p hp
      rcases List.mem_cons.1 hp with rfl | hp
      · simp
      · have := splitGo_len c l [] p hp
        simp at this ⊢
        omega
    · intro p hp
      have := splitGo_len c l (cur ++ [b]) p hp
      simp at this ⊢
      omega
theorem splitC_mem {c : UInt8} {s p : By} (h : p ∈ splitC c s) : p.length ≤ s.length := by simpa using splitGo_len c s [] p h
theorem splitGo_ne (c : UInt8) : ∀ (l cur : By), 1 ≤ (splitGo c cur l).length
  | [], cur => by simp [splitGo]
  | b :: l, cur => by
    rw [splitGo]
    split
    · simp
    · exact splitGo_ne c l _
theorem wordsG_len (l : By) : 3 ≤ (wordsG l).length := by
  have := splitGo_ne 32 l []
  unfold wordsG splitC
  simp
  omega
theorem words_at (l : By) : ∃ a b c r, wordsG l = a :: b :: c :: r := by
  have := wordsG_len l
  match h : wordsG l, this with
  | a :: b :: c :: r, _ => exact ⟨a, b, c, r, rfl⟩
theorem mem_wordsG {l p : By} (h : p ∈ wordsG l) : p.length ≤ l.length := by
  unfold wordsG at h
  rcases List.mem_append.1 h with h | h
  · exact splitC_mem h
  · simp only [List.mem_cons, List.not_mem_nil, or_false, or_self] at h
    subst h
    simp
theorem decFrom_lt : ∀ (s : By) (n m : Nat), Lib.decFrom n s = some m → m < (n + 1) * 10 ^ s.length
  | [], n, m, h => by
    rw [Lib.decFrom] at h
    cases h
    simp
  | b :: s, n, m, h => by
    rw [Lib.decFrom] at h
    cases hd : Lib.digitVal b with
    | none => rw [hd] at h; exact absurd h (by simp)
    | some d =>
      rw [hd] at h
      have hd9 : d ≤ 9 := by
        unfold Lib.digitVal at hd
        split at hd
        · cases hd; omega
        · exact absurd hd (by simp)
      have := decFrom_lt s (n * 10 + d) m h
      rw [List.length_cons, Nat.pow_succ]
      refine Nat.lt_of_lt_of_le this ?_
      rw [Nat.mul_comm (10 ^ s.length) 10, ← Nat.mul_assoc]
      exact Nat.mul_le_mul_right _ (by omega)
theorem numG_bd (s : By) : -1 ≤ numG s ∧ numG s ≤ 999999 := by
  unfold numG
  split
  · rename_i h
    refine ⟨by omega, ?_⟩
    cases hd : Lib.decFrom 0 s with
    | none => simp
    | some m =>
      have h1 := decFrom_lt s 0 m hd
      have h2 : 10 ^ s.length ≤ 10 ^ 6 := Nat.pow_le_pow_right (by decide) h.1.2
      simp only [Option.getD_some]
      have : (10 : Nat) ^ 6 = 1000000 := by decide
      omega
  · omega
theorem addOp_pair (L : List (GFunc × Value)) (y : GFunc × Value) (x : GOp) (u : Value) : addOp ((L ++ [y]).map Prod.fst) x = (L ++ [({ y.1 with code := y.1.code ++ [x] }, u)]).map Prod.fst := by
  rw [List.map_append, List.map_append, List.map_singleton, addOp_last]
  rfl
theorem foldl_take_succ {α β : Type} (f : β → α → β) (b : β) {l : List α} {k : Nat} (h : k < l.length) : (l.take (k + 1)).foldl f b = f ((l.take k).foldl f b) l[k] := by
  rw [List.take_succ_eq_append_getElem h, List.foldl_append]
  rfl
/-- At most k of each. -/
def FewP (k : Nat) (fs : List (GFunc × Value)) : Prop := fs.length ≤ k ∧ ∀ y ∈ fs, y.1.code.length ≤ k
theorem FewP.next {k : Nat} {fs : List (GFunc × Value)} (h : FewP k fs) : FewP (k + 1) fs := ⟨by have := h.1; omega, fun y hy => by have := h.2 y hy; omega⟩
theorem FewP.push {k : Nat} {fs : List (GFunc × Value)} (h : FewP k fs) (A L : Int) (u : Value) : FewP (k + 1) (fs ++ [(⟨A, L, []⟩, u)]) := by
  refine ⟨by have := h.1; simp; omega, fun y hy => ?_⟩
  rcases List.mem_append.1 hy with h1 | h1
  · have := h.2 y h1; omega
  · rw [List.mem_singleton.1 h1]; simp
theorem FewP.op {k : Nat} {L : List (GFunc × Value)} {y : GFunc × Value} (h : FewP k (L ++ [y])) (x : GOp) (u : Value) : FewP (k + 1) (L ++ [({ y.1 with code := y.1.code ++ [x] }, u)]) := by
  refine ⟨by have := h.1; simp at this ⊢; omega, fun z hz => ?_⟩
  rcases List.mem_append.1 hz with h1 | h1
  · have := h.2 z (by simp [h1]); omega
  · rw [List.mem_singleton.1 h1]
    have := h.2 y (by simp)
    simp
    omega
end Go.Proofs.YtpcjkfppacnkgaaGreatDoor
end
section
/- A region that draws its order: reads in whatever order, then operations one at a time; what is read must stay only as far as operation z, which waits for all reads. No condition. -/
set_option maxHeartbeats 400000
namespace Go.Proofs.YtpcjkfppacnkgaaGreatDoor
open Go

section
variable {P : Program} {md : Region.Mode} {ops : Array Oper} {Q : Exit → Act → World → Prop} {S : World → Prop} {z : Nat}

end
end Go.Proofs.YtpcjkfppacnkgaaGreatDoor
end
section
/- A region that draws its order, as in RTail, where the last operation waits for each read, by way of others too. No condition. -/
set_option maxHeartbeats 400000
namespace Go.Proofs.YtpcjkfppacnkgaaGreatDoor
open Go

section
variable {P : Program} {md : Region.Mode} {ops : Array Oper} {Q : Exit → Act → World → Prop} {S : World → Prop} {z : Nat}

/-- Whoever has come, all that he waits for has come. -/
def ClosedL (md : Region.Mode) (ops : Array Oper) (listed : Array Bool) : Prop := ∀ k ok, ops[k]? = some ok → listed.getD k false = true → ∀ e ∈ ok.after, Region.binds md e = true → listed.getD e.on false = true
theorem getD_set_or {listed : Array Bool} {i k : Nat} (h : (listed.setIfInBounds i true).getD k false = true) : k = i ∨ listed.getD k false = true := by
  by_cases e : k = i
  · exact .inl e
  · rw [getD_set_ne false (Ne.symm e)] at h; exact .inr h
theorem ClosedL.set {listed : Array Bool} (h : ClosedL md ops listed) {i : Nat} (hr : i ∈ Region.ready md ops listed) : ClosedL md ops (listed.setIfInBounds i true) := by
  intro k ok hk hl e he hb
  obtain ⟨_, oi, hoi, hall⟩ := mem_ready.1 hr
  rcases getD_set_or hl with rfl | h1
  · rw [hoi] at hk; cases hk
    exact getD_set_true (hall e he hb)
  · exact getD_set_true (h k ok hk h1 e he hb)
theorem closedL_nil (n : Nat) : ClosedL md ops (Array.replicate n false) := by
  intro k ok _ hl
  exfalso
  rw [Array.getD_eq_getD_getElem?, Array.getElem?_replicate] at hl
  split at hl <;> simp at hl
def waitsT (md : Region.Mode) (ops : Array Oper) : Nat → Nat → Nat → Bool
  | 0, _, _ => false
  | f + 1, j, i => match ops[j]? with
    | some oj => oj.after.any fun e => Region.binds md e && (e.on == i || waitsT md ops f e.on i)
    | none => false
theorem waitsT_listed {listed : Array Bool} (hc : ClosedL md ops listed) {i : Nat} : ∀ (f j : Nat), waitsT md ops f j i = true → (∀ oj, ops[j]? = some oj → ∀ e ∈ oj.after, Region.binds md e = true → listed.getD e.on false = true) → listed.getD i false = true
  | 0, _, h, _ => by simp [waitsT] at h
  | f + 1, j, h, hj => by
    unfold waitsT at h
    split at h
    · rename_i oj hoj
      obtain ⟨e, he, hb⟩ := Array.any_eq_true'.1 h
      simp only [Bool.and_eq_true, Bool.or_eq_true, beq_iff_eq] at hb
      have hl := hj oj hoj e he hb.1
      rcases hb.2 with h1 | h1
      · rw [← h1]; exact hl
      · exact waitsT_listed hc f e.on h1 (fun ok hk => hc e.on ok hk hl)
    · cases h

theorem wpAnyW_firstT {i F : Nat} {oi : Oper} {v : Value} (hz : waitsT md ops F z i = true) (hi : ops[i]? = some oi) (hsel : ∀ (j : Nat) (o : Oper) cs b, ops[j]? = some o → o.op ≠ .select cs b)
    (hQ : ∀ c a w, Q (.panic c) (a.put oi.dst v) w → Q (.panic c) a w) :
    ∀ (fuel : Nat) (listed : Array Bool) (a : Act) (w : World), listed.size = ops.size → ClosedL md ops listed →
      (∀ j oj, ops[j]? = some oj → j ≠ i → listed.getD j true = false → (∀ e ∈ oj.after, Region.binds md e = true → e.on ≠ i) → oi.apart ops oj = true) →
      i ∈ Region.ready md ops listed → YieldsIf P ops S oi v a → S w →
      wpAnyW P md ops Q S z fuel (listed.setIfInBounds i true) (a.put oi.dst v) w → wpAnyW P md ops Q S z (fuel + 1) listed a w := by
  intro fuel
  induction fuel with
  | zero =>
    intro listed a w _ _ _ hr hy hS H
    refine ⟨fun h => (by rw [h] at hr; cases hr), fun j hj => ?_⟩
    by_cases hji : j = i
    · subst hji; exact hy.wpOp hi hS ⟨.inr hS, H⟩
    · have := ready_mono hj hji
      rw [H.1] at this
      cases this
  | succ fuel ih =>
    intro listed a w hsz hcl hfree hr hy hS H
    refine ⟨fun h => (by rw [h] at hr; cases hr), fun j hj => ?_⟩
    by_cases hji : j = i
    · subst hji; exact hy.wpOp hi hS ⟨.inr hS, H⟩
    · have h1 := H.2 j (ready_mono hj hji)
      obtain ⟨hjun, oj, hoj, hall⟩ := mem_ready.1 hj
      have hun0 : listed.getD i false ≠ true := fun h => by
        have h0 := (mem_ready.1 hr).1
        rcases Nat.lt_or_ge i listed.size with h' | h'
        · simp [h'] at h0 h; rw [h0] at h; cases h
        · simp [Array.getElem?_eq_none h'] at h
      have hnot : ∀ e ∈ oj.after, Region.binds md e = true → e.on ≠ i := fun e he hb heq => hun0 (heq ▸ hall e he hb)
      have hjz : j ≠ z := fun e => by
        subst e
        exact hun0 (waitsT_listed hcl F j hz (fun ok hk e he hb => by rw [hoj] at hk; cases hk; exact hall e he hb))
      have h2 := wpOp_putIf hoj (hfree j oj hoj hji hjun hnot) (fun cs b => hsel i oi cs b hi) (fun cs b => hsel j oj cs b hoj) hQ hy h1
      have hfree' : ∀ k ok, ops[k]? = some ok → k ≠ i → (listed.setIfInBounds j true).getD k true = false →
          (∀ e ∈ ok.after, Region.binds md e = true → e.on ≠ i) → oi.apart ops ok = true := fun k ok hk hki hun hno => by
        refine hfree k ok hk hki ?_ hno
        by_cases hjk : j = k
        · subst hjk; exact hjun
        · rw [getD_set_ne true hjk] at hun; exact hun
      refine wpOp_mono (fun a' w' h3 => ?_) h2
      have h4 := h3.2.1.resolve_left hjz
      exact ⟨.inr h4, ih (listed.setIfInBounds j true) a' w' (by simpa using hsz) (hcl.set hj) hfree' (ready_mono hr (Ne.symm hji)) h3.1 h4 (by rw [Array.setIfInBounds_comm _ _ hji]; exact h3.2.2)⟩

def rtHeadT (md : Region.Mode) (ops : Array Oper) (z : Nat) (tl : List Nat) : List Nat → Array Bool → Bool
  | [], listed => rtTail md ops z tl listed
  | k :: l, listed => (Region.ready md ops listed).contains k && Region.free md ops listed k && decide (k < ops.size) && waitsT md ops ops.size z k && rtHeadT md ops z tl l (listed.setIfInBounds k true)
/-- The check on a region. -/
def rtBT (md : Region.Mode) (ops : Array Oper) (z : Nat) (rd tl : List Nat) : Bool :=
  Region.noSelect ops && decide (rd.length + tl.length = ops.size) && rtHeadT md ops z tl rd (Array.replicate ops.size false)
theorem wpAnyW_headT {l : List Oper} (hl : ops = l.toArray) (hsel : Region.noSelect ops = true)  (hQ : ∀ c a d v w, Q (.panic c) (Act.put a (some d) v) w → Q (.panic c) a w) {w : World} (hS : S w) (tl : List Nat) :
    ∀ (rd : List Nat) (fuel : Nat) (listed : Array Bool) (a : Act), listed.size = ops.size → ClosedL md ops listed → rd.length + tl.length = fuel → rtHeadT md ops z tl rd listed = true → readsQ P ops S (fun a' => tailW P ops S Q (pickOps l tl) a' w) (pickOps l rd) a → wpAnyW P md ops Q S z fuel listed a w
  | [], fuel, listed, a, hs, _, hf, hB, h => wpAnyW_tail hl tl fuel listed a w (by simpa using hf) hB h
  | k :: rd, fuel, listed, a, hs, hcl, hf, hB, h => by
    simp only [rtHeadT, Bool.and_eq_true, decide_eq_true_eq] at hB
    obtain ⟨⟨⟨⟨h1, h2⟩, h3⟩, h4⟩, h5⟩ := hB
    obtain ⟨o, ho⟩ : ∃ o, l[k]? = some o := ⟨l[k]'(by subst hl; simpa using h3), by rw [List.getElem?_eq_getElem]⟩
    have ho' : ops[k]? = some o := by subst hl; simpa using ho
    have e : pickOps l (k :: rd) = o :: pickOps l rd := by unfold pickOps; simp [ho]
    rw [e] at h
    obtain ⟨v, hy, hK⟩ := h
    obtain ⟨f, rfl⟩ : ∃ f, fuel = f + 1 := ⟨fuel - 1, by simp at hf; omega⟩
    have hr : k ∈ Region.ready md ops listed := by simpa using h1
    exact wpAnyW_firstT h4 ho' (Region.noSelect_spec hsel) (fun c a w h => by cases hd : o.dst with | none => rw [hd] at h; exact h | some d => rw [hd] at h; exact hQ c _ _ _ w h) f listed a w hs hcl (Region.free_spec ho' h2) hr hy hS
      (wpAnyW_headT hl hsel hQ hS tl rd f _ _ (by simpa using hs) (hcl.set hr) (by simp at hf; omega) h5 hK)

theorem wp_region_rtt {id : Nat} {l : List Oper} {a : Act} {w : World} (S : World → Prop) (z : Nat) (rd tl : List Nat) (hm : P.follows .mixedOrders = true) (hB : rtBT .any l.toArray z rd tl = true) (hQ : ∀ c a d v w, Q (.panic c) (Act.put a (some d) v) w → Q (.panic c) a w) (hS : S w.drew)
    (h : readsQ P l.toArray S (fun a' => tailW P l.toArray S Q (pickOps l tl) a' w.drew) (pickOps l rd) a) : (Code.region id l.toArray true).wp P Q a w := by
  simp only [rtBT, Bool.and_eq_true, decide_eq_true_eq] at hB
  obtain ⟨⟨h1, h2⟩, h4⟩ := hB
  refine wp_region_any hm (wpAny_of_weak (S := S) (z := z) _ _ _ _ ?_)
  exact wpAnyW_headT rfl h1 hQ hS tl rd _ _ a (by simp) (closedL_nil _) h2 h4 h
end
end Go.Proofs.YtpcjkfppacnkgaaGreatDoor
end
section
/- Contract of the document's ProgFrom. No condition. -/
set_option maxHeartbeats 4000000
set_option maxRecDepth 100000
namespace Go.Proofs.YtpcjkfppacnkgaaGreatDoor
open Go Go.RowKit

theorem src_two (w : World) (t : TypeId) : SrcSl (w.alloc (.cells #[txtV [], txtV []] t)) 1 (.slice (some ⟨w.heap.size, 0, none⟩) 2 2) 2 [txtV [], txtV []] := by
  refine ⟨_, 2, rfl, rfl, by simp [txtV, Value.oneCell'], .inr ⟨_, rfl, fun j u hj => ?_⟩⟩
  match j, hj with
  | 0, hj => cases hj; rw [Addr.add_zero']; exact World.cell?_alloc_new w _ _ 0
  | 1, hj => cases hj; exact World.cell?_alloc_new w _ _ 1
/-- What ProgFrom hands back. -/
def FromRet (w : World) (s : By) (e : Ending) (w' : World) : Prop := ∃ v, e = .returned (.tuple #[v, .bool (docT s).1]) ∧ Funcs w' (w.heap.size ≤ ·) v (docT s).2
theorem lineG_at_func {l x0 x1 x2 : By} {xr : List By} (h : wordsG l = x0 :: x1 :: x2 :: xr) (h0 : x0 = funcT) (p : List GFunc) : lineG p l = p ++ [⟨numG x1, numG x2, []⟩] := by
  unfold lineG
  rw [h, List.headD_cons, if_pos h0]
  rfl
theorem lineG_at_op {l x0 x1 x2 : By} {xr : List By} (h : wordsG l = x0 :: x1 :: x2 :: xr) (h0 : x0 ≠ funcT) (p : List GFunc) : lineG p l = if namesT.idxOf x0 < 17 ∧ 0 < p.length then addOp p ⟨(namesT.idxOf x0 : Nat), max 0 (numG x1)⟩ else p := by
  unfold lineG
  rw [h, List.headD_cons, if_neg h0]
  rfl
theorem names_hit {x0 : By} {q : Nat} (h : namesT.idxOf x0 = q) (m : Nat) (hm : m < namesT.length) : (namesT[m] == x0) = decide (m = q) := by
  have hi : namesT.idxOf namesT[m] = m := by
    have := namesT_idx ⟨m, hm⟩
    simpa [List.getD, List.getElem?_eq_getElem hm] using this
  by_cases hq : m = q
  · subst hq
    rw [decide_eq_true rfl, beq_iff_eq]
    have := List.getElem_idxOf (xs := namesT) (x := x0) (by rw [h]; exact hm)
    simpa only [h] using this
  · rw [decide_eq_false hq, beq_eq_false_iff_ne]
    intro e
    apply hq
    rw [← h, ← e]
    exact hi.symm
theorem progFrom_any (s : By) (w : World) (hl : s.length ≤ 9000) :
    Calls Tryz.prog 18 #[txtV s] w fun e w' => FromRet w s e w' ∧ Ext w w' := by
  obtain ⟨X, hX⟩ : ∃ X : ByteArray, (⟨s.toArray⟩ : ByteArray) = X := ⟨_, rfl⟩
  have HX := Lib.hid hX
  obtain ⟨i0, hi0, hz0, hz1, hz2⟩ := info_parts infoF
  obtain ⟨i1, hi1, hy0, hy1, hy2⟩ := info_parts infoS
  obtain ⟨i2, hi2, hx0, hx1, hx2⟩ := info_parts infoO
  have hNL : namesT.length = 17 := rfl
  obtain ⟨ls, hls⟩ : ∃ ls, splitC 10 s = ls := ⟨_, rfl⟩
  have HLS := Lib.hid hls
  have HSP : Hid (Calls Tryz.prog 51 #[.string X, .int .u8 10] w fun e w' => ∃ v, e = .returned v ∧ RowAt w' w.heap.size 1 v ls.length (ls.flatMap txtF) ∧ ls.length ≤ s.length + 1 ∧ Ext w w') := by
    unfold Hid
    rw [← hX, ← hls]
    exact split_any s 10 w (by omega)
  change Calls Tryz.prog 18 #[.string ⟨s.toArray⟩] w _
  rw [hX]
  clear hX hls
  go_enter Tryz.func18, Tryz.ntmps18
  go_wp2_with (first
    | (go_at_call 51; refine HSP.out.mono ?_; rintro e wl0 ⟨vl, rfl, hrl, hll, hb1⟩))
  obtain ⟨gl, hgl⟩ : ∃ gl, rowBlock vl = gl := ⟨_, rfl⟩
  have HRL := Lib.hid hrl
  have HB1 := Lib.hid hb1
  obtain ⟨al, capl, rfl, _, _⟩ := hrl.shape
  clear hrl hb1
  obtain ⟨Bw, hBw⟩ : ∃ Bw, wl0.heap.size = Bw := ⟨_, rfl⟩
  have HBW := Lib.hid hBw
  clear hBw
  go_loopw [4, 6] (fun q4 q6 wr => ∃ (k : Nat) (fs : List (GFunc × Value)), q6 = .int .i64 k ∧ k ≤ ls.length ∧ fs.map Prod.fst = (ls.take k).foldl lineG [] ∧ FewP k fs ∧ PF (fun g => g < wl0.heap.size) w wl0 Bw q4 fs wr) (fun _ q6 _ => ls.length - (intOf q6).toNat)
  case atStart => exact ⟨0, [], rfl, Nat.zero_le _, rfl, ⟨Nat.le_refl _, by simp⟩, PF.start (fun _ h => h) HB1.out (by rw [← HBW.out]; exact HB1.out.size) (PRow.nil _ _) (by simp [blocksP, rowBlock])⟩
  case round =>
    obtain ⟨k, fs, rfl, hk, hfs, hfew, hpf⟩ := hrel
    have HFS := Lib.hid hfs
    have HFEW := Lib.hid hfew
    have HPF := Lib.hid hpf
    have HB := Lib.hid hpf.ext
    have hfl := hfew.1
    obtain ⟨ap, capp, rfl, _, _⟩ := hpf.row.row.shape
    clear hfs hfew hpf
    by_cases hlt : k < ls.length
    · obtain ⟨b, o, rfl, _, hbw, hcl⟩ := HRL.out.strs (by omega)
      have c0 : wr.cell? ⟨b, o + k, none⟩ = some (txtV ls[k]) := HPF.out.cell hbw (hcl k hlt)
      have HSTEP := Lib.hid (foldl_take_succ lineG [] hlt)
      have HML : Hid (ls[k] ∈ ls) := List.getElem_mem hlt
      have hll2 : ls[k].length ≤ s.length := splitC_mem (c := 10) (by rw [HLS.out]; exact HML.out)
      obtain ⟨x0, x1, x2, xr, hw⟩ := words_at ls[k]
      have HW := Lib.hid hw
      obtain ⟨l, hl0⟩ : ∃ l, ls[k] = l := ⟨_, rfl⟩
      rw [hl0] at c0 HSTEP hll2 HW
      have hwl : (splitC 32 l).length + 2 = (wordsG l).length := by unfold wordsG; simp
      obtain ⟨Y, hY⟩ : ∃ Y : ByteArray, (⟨l.toArray⟩ : ByteArray) = Y := ⟨_, rfl⟩
      have HSL : ∀ W, Hid (Calls Tryz.prog 51 #[.string Y, .int .u8 32] W fun e w' => ∃ v, e = .returned v ∧ RowAt w' W.heap.size 1 v (splitC 32 l).length ((splitC 32 l).flatMap txtF) ∧ (splitC 32 l).length ≤ l.length + 1 ∧ Ext W w') := fun W => by
        unfold Hid
        rw [← hY]
        exact split_any l 32 W (by omega)
      replace c0 : wr.cell? ⟨b, o + k, none⟩ = some (.string Y) := by rw [← hY]; exact c0
      have HSPW : Hid (splitC 32 l ++ [[], []] = wordsG l) := rfl
      have HLF := Lib.hid (lineG_at_func HW.out)
      have HLO := Lib.hid (lineG_at_op HW.out)
      have hx1l : x1.length ≤ 9000 := Nat.le_trans (mem_wordsG (l := l) (by rw [HW.out]; simp)) (by omega)
      have hx2l : x2.length ≤ 9000 := Nat.le_trans (mem_wordsG (l := l) (by rw [HW.out]; simp)) (by omega)
      clear hY hw hl0 hcl
      generalize splitC 32 l = sp at *
      generalize wordsG l = wl at *
      go_upto_region 7 with (first
        | (go_at_call 51; (with_reducible refine (HSL _).out.mono ?_); rintro e w2 ⟨vw, rfl, hrw, hwl2, hb2⟩; have HRW := Lib.hid hrw; have HB2 := Lib.hid hb2; obtain ⟨aw, capw, rfl, _, _⟩ := hrw.shape; clear hrw hb2)
        | (at_builtin; refine wpList_append_row rfl _ _ 79 rfl wr.heap.size 9 i1 (.string ⟨#[]⟩) 1 16 Tryz.underlying79 hi1 hy0 hy1 hy2 rfl (by decide) _ _ _ rfl (by exact HRW.out.ext ((Ext.refl _).alloc _) (by decide)) 2 [txtV [], txtV []] (src_two _ _) (by unfold maxLen; omega) (by omega) (by exact Nat.le_trans HB2.out.size ((Ext.refl _).alloc _).size) ?_; intro v1 Wv1 rv1; have RV := Lib.hid rv1; obtain ⟨a9, cap9, rfl, _, _⟩ := rv1.1.shape; have HX9 := Lib.hid (Chg.ext_from (HB2.out.alloc (.cells #[txtV [], txtV []] 9)) RV.out.2.1 (fun g e => HRW.out.le g e)); clear rv1))
      have hrw : RowAt Wv1 wr.heap.size 1 (.slice a9 wl.length cap9) wl.length (wl.flatMap txtF) := by
        have := RV.out.1
        rw [hwl] at this
        have e2 : wl.flatMap txtF = sp.flatMap txtF ++ [txtV [], txtV []] := by rw [← HSPW.out, List.flatMap_append]; rfl
        rw [e2]
        exact this
      have hw3 : 3 ≤ wl.length := by rw [HW.out]; simp
      have t0 : (0 : Int) < (wl.length : Int) := by omega
      have t0n : 0 < wl.length := by omega
      have t1 : (1 : Int) < (wl.length : Int) := by omega
      have t2 : (2 : Int) < (wl.length : Int) := by omega
      obtain ⟨gw, ow, rfl, hgw, hgw2, hcw⟩ := hrw.strs (by omega)
      have w0 : Wv1.cell? ⟨gw, ow, none⟩ = some (.string ⟨x0.toArray⟩) := by have := hcw 0 (by omega); simp only [HW.out] at this; exact this
      have w1 : Wv1.cell? ⟨gw, ow + 1, none⟩ = some (.string ⟨x1.toArray⟩) := by have := hcw 1 (by omega); simp only [HW.out] at this; exact this
      have w2 : Wv1.cell? ⟨gw, ow + 2, none⟩ = some (.string ⟨x2.toArray⟩) := by have := hcw 2 (by omega); simp only [HW.out] at this; exact this
      have HPK := Lib.hid (HPF.out.with HX9.out hgw hgw2)
      have HPF := Lib.hid (HPF.out.more HX9.out)
      have HBL : Hid (Bw ≤ Wv1.heap.size) := by unfold Hid; rw [← HBW.out]; exact HPF.out.le
      have HBa := Lib.hid (HB.out.trans HX9.out)
      clear RV HX9 HSPW HSL HRW hrw hcw c0 HB2 HB
      rename World => wa
      obtain ⟨A1, hA1⟩ : ∃ A1, numG x1 = A1 := ⟨_, rfl⟩
      obtain ⟨A2, hA2⟩ : ∃ A2, numG x2 = A2 := ⟨_, rfl⟩
      have HN1 : ∀ W, Hid (Calls Tryz.prog 52 #[.string ⟨x1.toArray⟩] W fun e w' => e = .returned (.int .i64 A1) ∧ Ext W w') := fun W => by unfold Hid; rw [← hA1]; exact num_any x1 W (by omega)
      have HN2 : ∀ W, Hid (Calls Tryz.prog 52 #[.string ⟨x2.toArray⟩] W fun e w' => e = .returned (.int .i64 A2) ∧ Ext W w') := fun W => by unfold Hid; rw [← hA2]; exact num_any x2 W (by omega)
      have bA1 : -1 ≤ A1 ∧ A1 ≤ 999999 := by rw [← hA1]; exact numG_bd x1
      have bA2 : -1 ≤ A2 ∧ A2 ≤ 999999 := by rw [← hA2]; exact numG_bd x2
      have iA1 : I64 A1 := by unfold I64; omega
      have iA2 : I64 A2 := by unfold I64; omega
      rw [hA1, hA2] at HLF
      rw [hA1] at HLO
      clear hA1 hA2
      by_cases hfn : x0 = funcT
      · have HL := Lib.hid (HLF.out hfn)
        have TF : (x0 == [102, 117, 110, 99]) = true := by rw [hfn]; rfl
        clear hfn HLF HLO
        go_wp2_with fail
        refine wp_region_rt (fun w' => w'.cell? ⟨gw, ow + 1, none⟩ = some (.string ⟨x1.toArray⟩) ∧ w'.cell? ⟨gw, ow + 2, none⟩ = some (.string ⟨x2.toArray⟩)) 12 [0, 1, 2, 3, 5, 6, 7] [4, 8, 9, 10, 11, 12] (by kernel_rfl) (by kernel_rfl) (fun _ _ _ _ _ h => h) (by exact ⟨w1, w2⟩) ?_
        (try simp only [pickOps, List.filterMap_cons, List.filterMap_nil, List.getElem?_cons_zero, List.getElem?_cons_succ])
        repeat (
          refine readsQ_do (by rfl) ?_
          apply Exists.intro
          refine ⟨fun w' hw' => ?_, ?_⟩
          focus
            (try dsimp only at hw')
            go_split_ands
            go_simp
            (try with_reducible rfl)
          (try dsimp only [Act.put])
          (try simp only [List.setIfInBounds_toArray, List.set_cons_succ, List.set_cons_zero]))
        refine readsQ_nil ?_
        refine tailW_step ?_
        go_wp2_with (first
          | (go_at_call 52; (with_reducible refine (HN1 _).out.mono ?_); rintro e w3 ⟨rfl, hb3⟩))
        refine nextW_go (by exact ⟨Ext.cell hb3 w1, Ext.cell hb3 w2⟩) ?_
        refine tailW_step ?_
        go_wp2_with (first
          | (go_at_call 52; (with_reducible refine (HN2 _).out.mono ?_); rintro e w4 ⟨rfl, hb4⟩))
        have HE4 := Lib.hid (((Ext.refl wa).drew.trans hb3).trans hb4)
        refine nextW_go (by exact ⟨Ext.cell HE4.out w1, Ext.cell HE4.out w2⟩) ?_
        refine tailW_step ?_
        go_wp2_with fail
        refine nextW_go (by exact ⟨Ext.cell HE4.out w1, Ext.cell HE4.out w2⟩) ?_
        refine tailW_step ?_
        go_wp2_with fail
        have HEA := Lib.hid (HE4.out.alloc (.cells #[.int .i64 A1, .int .i64 A2, .slice none 0 0] 49))
        have HPA := Lib.hid (HPK.out.more HEA.out)
        refine nextW_go (by exact ⟨Ext.cell HEA.out w1, Ext.cell HEA.out w2⟩) ?_
        refine tailW_step ?_
        go_wp2_with (first
          | (at_builtin; refine wpList_append_row rfl _ _ 27 rfl Bw 49 i0 (.agg #[.int .i64 0, .int .i64 0, .slice none 0 0]) 3 40 Tryz.underlying27 hi0 hz0 hz1 hz2 rfl (by decide) _ _ _ rfl (by exact HPA.out.row.row) 1 (funcF (⟨A1, A2, []⟩, .slice none 0 0)) (src_func _ ⟨A1, A2, []⟩ none 0 0 _) (by unfold maxLen; omega) (by omega) (by exact Nat.le_trans HBL.out HPA.out.le) ?_; intro v1 Wv1 rv1; have RV := Lib.hid (HPA.out.push (Ext.refl _) rv1 iA1 iA2 (by omega)); obtain ⟨a9, cap9, rfl, _, _⟩ := rv1.1.shape; clear rv1))
        refine nextW_go (by exact ⟨RV.out.cell (.inr rfl) w1, RV.out.cell (.inr rfl) w2⟩) ?_
        refine tailW_step ?_
        go_wp2_with fail
        refine nextW_end ?_
        go_wp2_with fail
        go_roundw
        case rel => exact ⟨k + 1, fs ++ [(⟨A1, A2, []⟩, .slice none 0 0)], by go_num, by omega, by rw [HSTEP.out, HL.out, List.map_append, HFS.out]; rfl, HFEW.out.push _ _ _, RV.out.back HPF.out (fun _ h => .inl h)⟩
        case measure => simp [intOf]; omega
      · have HL := Lib.hid (HLO.out hfn)
        have TF : (x0 == [102, 117, 110, 99]) = false := beq_eq_false_iff_ne.2 hfn
        clear hfn HLF HLO
        by_cases hf0 : fs.length = 0
        · obtain rfl : fs = [] := List.eq_nil_of_length_eq_zero hf0
          have HLL : Hid (lineG ([] : List GFunc) l = []) := by unfold Hid; rw [HL.out, if_neg (fun h => absurd h.2 (by simp))]
          clear hf0
          go_wp2_with fail
          go_loopw [8] (fun q8 wx => q8 = .int .i64 0 ∧ Ext wa wx) (fun _ _ => 0)
          case atStart => exact ⟨rfl, Ext.refl _⟩
          case round =>
            obtain ⟨rfl, hbx⟩ := hrel
            have HBX := Lib.hid hbx
            clear hbx
            go_wp2_with (first
              | (go_at_call 44; refine (names_any _).mono ?_; rintro e w3 ⟨vn, rfl, hvn, hb3⟩; obtain ⟨an, cn, rfl, _, _⟩ := hvn))
            go_roundw
            case rel => exact ⟨k + 1, [], by go_num, by omega, by rw [HSTEP.out, ← HFS.out]; exact HLL.out.symm, HFEW.out.next, HPF.out.more (HBX.out.trans hb3)⟩
            case measure => simp [intOf]; omega
        · obtain ⟨L, y, rfl⟩ : ∃ L y, fs = L ++ [y] := ⟨fs.dropLast, fs.getLast (fun e => hf0 (by rw [e]; rfl)), (List.dropLast_concat_getLast _).symm⟩
          obtain ⟨f, u0⟩ := y
          have hap : ∃ g o, ap = some ⟨g, o, none⟩ := by
            obtain ⟨g, o, e, _⟩ := HPF.out.row.row.cell (by simp)
            exact ⟨g, o, e⟩
          obtain ⟨g, o2, rfl⟩ := hap
          obtain ⟨q, hq⟩ : ∃ q, namesT.idxOf x0 = q := ⟨_, rfl⟩
          obtain ⟨A0, hA0⟩ : ∃ A0, max 0 A1 = A0 := ⟨_, rfl⟩
          have HIX := Lib.hid (names_hit hq)
          have HLL : Hid (lineG ((L ++ [(f, u0)]).map Prod.fst) l = if q < 17 then (L ++ [({ f with code := f.code ++ [(⟨(q : Int), A0⟩ : GOp)] }, u0)]).map Prod.fst else (L ++ [(f, u0)]).map Prod.fst) := by
            unfold Hid
            rw [HL.out, hq, hA0, ← addOp_pair L (f, u0) (⟨(q : Int), A0⟩ : GOp) u0]
            by_cases h17 : q < 17
            · rw [if_pos h17, if_pos ⟨h17, by simp⟩]
            · rw [if_neg h17, if_neg (fun h => h17 h.1)]
          have hlen : (L ++ [(f, u0)]).length = L.length + 1 := by simp
          have hfc := HFEW.out.2 (f, u0) (by simp)
          have hmx : (if 0 < A1 then A1 else 0) = A0 := by rw [← hA0]; split <;> omega
          have bA0 : 0 ≤ A0 ∧ A0 ≤ 999999 := by omega
          simp only at hfc
          rw [hlen]
          have hmx2 : max 0 A1 = A0 := hA0
          have hmx3 : max A1 0 = A0 := by rw [Int.max_comm]; exact hA0
          clear hf0 hq hA0
          go_wp2_with fail
          go_loopw [8] (fun q8 wx => ∃ (m : Nat) (c : List GOp) (u1 : Value), q8 = .int .i64 m ∧ m ≤ 17 ∧ PF (fun b => b < wl0.heap.size ∨ b = gw) w wa Bw (.slice (some ⟨g, o2, none⟩) (L.length + 1) capp) (L ++ [({ f with code := c }, u1)]) wx ∧ (m ≤ q ∧ c = f.code ∨ q < m ∧ c = f.code ++ [(⟨(q : Int), A0⟩ : GOp)])) (fun q8 _ => 17 - (intOf q8).toNat)
          case atStart => exact ⟨0, f.code, u0, rfl, by omega, by rw [← hlen]; exact HPK.out, .inl ⟨Nat.zero_le _, rfl⟩⟩
          case round =>
            obtain ⟨m, c, u1, rfl, hm, hpx, hcc⟩ := hrel
            have HPX := Lib.hid hpx
            have HCC := Lib.hid hcc
            clear hpx hcc
            by_cases hm17 : m < 17
            · have hmn : m < namesT.length := hm17
              obtain ⟨nm, hnm⟩ : ∃ nm, namesT[m] = nm := ⟨_, rfl⟩
              have HNM := Lib.hid hnm
              have hix := HIX.out m hmn
              rw [hnm] at hix
              clear hnm
              have tl0 : (0 : Int) < ((L.length + 1 : Nat) : Int) := by omega
              by_cases hmq : m = q
              · have TM : (nm == x0) = true := by rw [hix, decide_eq_true hmq]
                obtain rfl : c = f.code := by
                  rcases HCC.out with h | h
                  · exact h.2
                  · omega
                clear hix
                subst hmq
                go_upto_region 12 with (first
                  | (go_at_call 44; refine (names_any _).mono ?_; rintro e w3 ⟨vn, rfl, hvn, hb3⟩; obtain ⟨an, cn, rfl, _, _⟩ := hvn))
                have HPX := Lib.hid (HPX.out.more hb3)
                clear hb3
                rename World => wb
                have w0' := HPX.out.cell (.inr rfl) w0
                refine wp_region_rtt (fun w' => w'.cell? ⟨gw, ow, none⟩ = some (.string ⟨x0.toArray⟩)) 7 [1, 4, 5, 6] [0, 2, 3, 7] (by kernel_rfl) (by kernel_rfl) (fun _ _ _ _ _ h => h) (by exact w0') ?_
                (try simp only [pickOps, List.filterMap_cons, List.filterMap_nil, List.getElem?_cons_zero, List.getElem?_cons_succ])
                repeat (
                  refine readsQ_do (by rfl) ?_
                  apply Exists.intro
                  refine ⟨fun w' hw' => ?_, ?_⟩
                  focus
                    (try dsimp only at hw')
                    go_split_ands
                    go_simp
                    (try with_reducible rfl)
                  (try dsimp only [Act.put])
                  (try simp only [List.setIfInBounds_toArray, List.set_cons_succ, List.set_cons_zero]))
                refine readsQ_nil ?_
                refine tailW_step ?_
                go_wp2_with (first
                  | (go_at_call 44; refine (names_any _).mono ?_; rintro e w4 ⟨vn, rfl, hvn, hb4⟩; obtain ⟨bn, on, cn', rfl, _, xn⟩ := strs_at hvn hmn; rw [HNM.out] at xn; replace xn : w4.cell? ⟨bn, on + m, none⟩ = some (.string ⟨nm.toArray⟩) := xn))
                refine nextW_go (by exact Ext.cell hb4 w0') ?_
                refine tailW_step ?_
                go_wp2_with fail
                refine nextW_go (by exact Ext.cell hb4 w0') ?_
                refine tailW_step ?_
                go_wp2_with fail
                refine nextW_go (by exact Ext.cell hb4 w0') ?_
                refine tailW_step ?_
                go_wp2_with fail
                refine nextW_end ?_
                have HPX := Lib.hid (HPX.out.more ((Ext.refl _).drew.trans hb4))
                clear hb4 xn w0' hvn
                rename World => wc
                have w1' := HPX.out.cell (.inr rfl) w1
                obtain ⟨hcl, hfz⟩ := HPX.out.row.last
                simp only at hcl
                have hsh : ∃ a8 c8, u1 = .slice a8 f.code.length c8 := by
                  obtain ⟨a, c, e, _⟩ := (HPX.out.row.fn ({ f with code := f.code }, u1) (by simp)).2.2.1.shape
                  exact ⟨a, c, e⟩
                obtain ⟨a8, c8, rfl⟩ := hsh
                have hf9 : f.code.length ≤ 9001 := by omega
                have iK : I64 (m : Int) ∧ I64 A0 := by unfold I64; omega
                go_upto_region 14 with fail
                refine wp_region_rtt (fun w' => w'.cell? ⟨g, o2 + L.length * 3 + 2, none⟩ = some (.slice a8 f.code.length c8) ∧ w'.frozen? ⟨g, o2 + L.length * 3 + 2, none⟩ = false ∧ w'.cell? ⟨gw, ow + 1, none⟩ = some (.string ⟨x1.toArray⟩)) 16 [0, 1, 2, 3, 4, 5, 6, 7, 8] [9, 10, 11, 12, 13, 14, 15, 16] (by kernel_rfl) (by kernel_rfl) (fun _ _ _ _ _ h => h) (by exact ⟨hcl, hfz, w1'⟩) ?_
                (try simp only [pickOps, List.filterMap_cons, List.filterMap_nil, List.getElem?_cons_zero, List.getElem?_cons_succ])
                repeat (
                  refine readsQ_do (by rfl) ?_
                  apply Exists.intro
                  refine ⟨fun w' hw' => ?_, ?_⟩
                  focus
                    (try dsimp only at hw')
                    go_split_ands
                    go_simp
                    (try with_reducible rfl)
                  (try dsimp only [Act.put])
                  (try simp only [List.setIfInBounds_toArray, List.set_cons_succ, List.set_cons_zero]))
                refine readsQ_nil ?_
                refine tailW_step ?_
                go_wp2_with (first
                  | (go_at_call 52; (with_reducible refine (HN1 _).out.mono ?_); rintro e w4 ⟨rfl, hb4⟩))
                have HE4 := Lib.hid ((Ext.refl wc).drew.trans hb4)
                refine nextW_go (by exact ⟨Ext.cell HE4.out hcl, (Ext.froz HE4.out hcl).trans hfz, Ext.cell HE4.out w1'⟩) ?_
                refine tailW_step ?_
                go_wp2_with fail
                refine nextW_go (by exact ⟨Ext.cell HE4.out hcl, (Ext.froz HE4.out hcl).trans hfz, Ext.cell HE4.out w1'⟩) ?_
                refine tailW_step ?_
                go_wp2_with fail
                refine nextW_go (by exact ⟨Ext.cell HE4.out hcl, (Ext.froz HE4.out hcl).trans hfz, Ext.cell HE4.out w1'⟩) ?_
                refine tailW_step ?_
                go_wp2_with fail
                have HE5 := Lib.hid (HE4.out.alloc (.cells #[.int .i64 (m : Int), .int .i64 A0] 51))
                have HRO : Hid (RowAt _ Bw 2 (.slice a8 f.code.length c8) f.code.length (f.code.flatMap opF)) := Lib.hid ((HPX.out.row.fn ({ f with code := f.code }, .slice a8 f.code.length c8) (by simp)).2.2.1.ext HE5.out (by decide))
                refine nextW_go (by exact ⟨Ext.cell HE5.out hcl, (Ext.froz HE5.out hcl).trans hfz, Ext.cell HE5.out w1'⟩) ?_
                refine tailW_step ?_
                go_wp2_with (first
                  | (at_builtin; refine wpList_append_row rfl _ _ 47 rfl Bw 51 i2 (.agg #[.int .i64 0, .int .i64 0]) 2 16 Tryz.underlying47 hi2 hx0 hx1 hx2 rfl (by decide) _ _ _ rfl (by exact HRO.out) 1 (opF ⟨(m : Int), A0⟩) (src_op _ ⟨(m : Int), A0⟩ _) (by unfold maxLen; omega) (by omega) (by exact Nat.le_trans HBL.out (Nat.le_trans HPX.out.le HE5.out.size)) ?_; intro v1 Wv2 rv1; have RV := Lib.hid rv1; have RK := Lib.hid (HPX.out.op_keeps HE5.out rv1); obtain ⟨a9, cap9, rfl, _, _⟩ := rv1.1.shape; clear rv1))
                have hcl' : Wv2.cell? ⟨g, o2 + L.length * 3 + 2, none⟩ = some (.slice a8 f.code.length c8) := (World.cell?_of_block RK.out.2).trans hcl
                have hfz' : Wv2.frozen? ⟨g, o2 + L.length * 3 + 2, none⟩ = false := (World.frozen?_of_block RK.out.2).trans hfz
                have hw1' : Wv2.cell? ⟨gw, ow + 1, none⟩ = some (.string ⟨x1.toArray⟩) := (RK.out.1.cell (.inr rfl)).trans w1
                have HPN := Lib.hid (HPX.out.op (x := ⟨(m : Int), A0⟩) HE5.out RV.out iK (show f.code.length < 10000 by omega))
                refine nextW_go (by exact ⟨hcl', hfz', hw1'⟩) ?_
                refine tailW_step ?_
                go_wp2_with fail
                refine nextW_go (by exact ⟨hcl', hfz', hw1'⟩) ?_
                refine tailW_step ?_
                go_wp2_with fail
                refine nextW_go (by exact ⟨hcl', hfz', hw1'⟩) ?_
                refine tailW_step ?_
                go_wp2_with fail
                refine nextW_end ?_
                go_wp2_with fail
                go_roundw
                case rel => exact ⟨m + 1, f.code ++ [⟨(m : Int), A0⟩], .slice a9 (f.code.length + 1) cap9, by go_num, by omega, HPN.out, .inr ⟨by omega, rfl⟩⟩
                case measure => simp [intOf]; omega
              · have TM : (nm == x0) = false := by rw [hix, decide_eq_false hmq]
                clear hix
                go_upto_region 12 with (first
                  | (go_at_call 44; refine (names_any _).mono ?_; rintro e w3 ⟨vn, rfl, hvn, hb3⟩; obtain ⟨an, cn, rfl, _, _⟩ := hvn))
                have HPX := Lib.hid (HPX.out.more hb3)
                clear hb3
                rename World => wb
                have w0' := HPX.out.cell (.inr rfl) w0
                refine wp_region_rtt (fun w' => w'.cell? ⟨gw, ow, none⟩ = some (.string ⟨x0.toArray⟩)) 7 [1, 4, 5, 6] [0, 2, 3, 7] (by kernel_rfl) (by kernel_rfl) (fun _ _ _ _ _ h => h) (by exact w0') ?_
                (try simp only [pickOps, List.filterMap_cons, List.filterMap_nil, List.getElem?_cons_zero, List.getElem?_cons_succ])
                repeat (
                  refine readsQ_do (by rfl) ?_
                  apply Exists.intro
                  refine ⟨fun w' hw' => ?_, ?_⟩
                  focus
                    (try dsimp only at hw')
                    go_split_ands
                    go_simp
                    (try with_reducible rfl)
                  (try dsimp only [Act.put])
                  (try simp only [List.setIfInBounds_toArray, List.set_cons_succ, List.set_cons_zero]))
                refine readsQ_nil ?_
                refine tailW_step ?_
                go_wp2_with (first
                  | (go_at_call 44; refine (names_any _).mono ?_; rintro e w4 ⟨vn, rfl, hvn, hb4⟩; obtain ⟨bn, on, cn', rfl, _, xn⟩ := strs_at hvn hmn; rw [HNM.out] at xn; replace xn : w4.cell? ⟨bn, on + m, none⟩ = some (.string ⟨nm.toArray⟩) := xn))
                refine nextW_go (by exact Ext.cell hb4 w0') ?_
                refine tailW_step ?_
                go_wp2_with fail
                refine nextW_go (by exact Ext.cell hb4 w0') ?_
                refine tailW_step ?_
                go_wp2_with fail
                refine nextW_go (by exact Ext.cell hb4 w0') ?_
                refine tailW_step ?_
                go_wp2_with fail
                refine nextW_end ?_
                have HPX := Lib.hid (HPX.out.more ((Ext.refl _).drew.trans hb4))
                clear hb4 xn w0' hvn
                rename World => wc
                go_wp2_with fail
                go_roundw
                case rel => exact ⟨m + 1, c, u1, by go_num, by omega, HPX.out, HCC.out.imp (fun h => ⟨by omega, h.2⟩) (fun h => ⟨by omega, h.2⟩)⟩
                case measure => simp [intOf]; omega
            · obtain rfl : m = 17 := by omega
              go_wp2_with (first
                | (go_at_call 44; refine (names_any _).mono ?_; rintro e w3 ⟨vn, rfl, hvn, hb3⟩; obtain ⟨an, cn, rfl, _, _⟩ := hvn))
              go_roundw
              case rel =>
                refine ⟨k + 1, L ++ [({ f with code := c }, u1)], by go_num, by omega, ?_, ?_, ?_⟩
                · rw [HSTEP.out, ← HFS.out, HLL.out]
                  rcases HCC.out with ⟨h1, rfl⟩ | ⟨h1, rfl⟩
                  · rw [if_neg (by omega)]; simp
                  · rw [if_pos h1]; simp
                · rcases HCC.out with ⟨h1, rfl⟩ | ⟨h1, rfl⟩
                  · exact ⟨by have := HFEW.out.1; simp at this ⊢; omega, fun z hz => by
                      rcases List.mem_append.1 hz with h2 | h2
                      · have := HFEW.out.2 z (by simp [h2]); omega
                      · rw [List.mem_singleton.1 h2]; simp only; omega⟩
                  · exact HFEW.out.op _ _
                · exact (HPX.out.more hb3).back HPF.out (fun _ h => .inl h)
              case measure => simp [intOf]; omega
    · obtain rfl : k = ls.length := by omega
      have HDR : Hid (fs.map Prod.fst = docR s) := by
        unfold Hid docR
        rw [HFS.out, List.take_length, HLS.out]
      have HFU : ∀ W, Ext wr W → Hid (Funcs W (w.heap.size ≤ ·) (.slice ap fs.length capp) (docR s)) := fun W hW => by
        unfold Hid
        rw [← HDR.out]
        exact (HPF.out.row.ext hW).funcs _ (fun b hb => Nat.le_trans HPF.out.base hb)
      obtain ⟨P, hP⟩ : ∃ P, docR s = P := ⟨_, rfl⟩
      rw [hP] at HDR HFU
      have HPS := Lib.hid hP
      obtain ⟨r, hr⟩ : ∃ r, progErr P = r := ⟨_, rfl⟩
      have HR := Lib.hid hr
      clear hlt hP hr
      by_cases h0 : r = 0
      · subst h0
        obtain ⟨t, ht⟩ : ∃ t, textP P = t := ⟨_, rfl⟩
        have HT := Lib.hid ht
        obtain ⟨Y, hY⟩ : ∃ Y : ByteArray, (⟨t.toArray⟩ : ByteArray) = Y := ⟨_, rfl⟩
        have HY := Lib.hid hY
        have HPT : ∀ W, Ext wr W → Hid (Calls Tryz.prog 15 #[.slice ap fs.length capp] W fun e w' => e = .returned (.string Y) ∧ Ext W w') := fun W hW => by
          unfold Hid
          rw [← hY, ← ht]
          exact progText_any P _ _ W (HFU W hW).out HR.out
        clear ht hY
        by_cases hts : t = s
        · have HDT : Hid (docT s = (true, P)) := by
            unfold Hid docT
            rw [HPS.out, if_pos ⟨HR.out, HT.out.trans hts⟩]
          have hXY : Y = X := by rw [← HY.out, ← HX.out, hts]
          clear hts
          go_wp2_with (first
            | (go_at_call 14; (with_reducible refine (progError_any P _ _ _ (HFU _ (Ext.refl _)).out).mono ?_); rintro e w3 ⟨rfl, hb3⟩; rw [HR.out])
            | (go_at_call 15; (with_reducible refine (HPT _ (by assumption)).out.mono ?_); rintro e w4 ⟨rfl, hb4⟩; rw [hXY]))
          go_ret2
          exact ⟨⟨_, by rw [HDT.out]; rfl, by rw [HDT.out]; exact (HFU _ (hb3.trans hb4)).out⟩, HB.out.trans (hb3.trans hb4)⟩
        · have HDT : Hid (docT s = (false, [])) := by
            unfold Hid docT
            rw [HPS.out, if_neg (fun h => hts (HT.out.symm.trans h.2))]
          have hXY : (Y.toList == X.toList) = false := beq_eq_false_iff_ne.2 (fun e => hts (by rw [← HX.out, ← HY.out, ByteArray.toList_mk, ByteArray.toList_mk] at e; exact e))
          clear hts
          go_wp2_with (first
            | (go_at_call 14; (with_reducible refine (progError_any P _ _ _ (HFU _ (Ext.refl _)).out).mono ?_); rintro e w3 ⟨rfl, hb3⟩; rw [HR.out])
            | (go_at_call 15; (with_reducible refine (HPT _ (by assumption)).out.mono ?_); rintro e w4 ⟨rfl, hb4⟩))
          go_ret2
          exact ⟨⟨_, by rw [HDT.out]; rfl, by rw [HDT.out]; exact Sl.nil _ _ _⟩, HB.out.trans (hb3.trans hb4)⟩
      · have HDT : Hid (docT s = (false, [])) := by
          unfold Hid docT
          rw [HPS.out, if_neg (fun h => h0 (HR.out.symm.trans h.1))]
        have T0 : (r != 0) = true := bne_iff_ne.2 h0
        clear h0
        go_wp2_with (first
          | (go_at_call 14; (with_reducible refine (progError_any P _ _ _ (HFU _ (Ext.refl _)).out).mono ?_); rintro e w3 ⟨rfl, hb3⟩; rw [HR.out]))
        go_ret2
        exact ⟨⟨_, by rw [HDT.out]; rfl, by rw [HDT.out]; exact Sl.nil _ _ _⟩, HB.out.trans hb3⟩
end Go.Proofs.YtpcjkfppacnkgaaGreatDoor
end
