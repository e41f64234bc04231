/- Merged texts: contracts and plain facts, one part behind another; each part begins with what it says. -/
import Derived.Test.YtpcjkfppacnkgaaGreatDoorGNAD
import Derived.Test.YtpcjkfppacnkgaaGreatDoorGNAJ
import Derived.Test.YtpcjkfppacnkgaaGreatDoorGNAK
import Derived.Test.YtpcjkfppacnkgaaGreatDoorGNAM
import Derived.StillTailTactics
import Derived.WalkSmall
section
/- Functions in own rows beside kept blocks; plain facts of the lines that the document reads. No condition. -/
set_option maxHeartbeats 1000000
namespace Go.Proofs.YtpcjkfppacnkgaaGreatDoor
open Go Go.RowKit

def blocksP (v : Value) (fs : List (GFunc × Value)) : List Nat := (rowBlock v).toList ++ fs.flatMap fun y => (rowBlock y.2).toList

theorem Ext.froz {w w' : World} (h : Ext w w') {a : Addr} {v : Value} (hc : w.cell? a = some v) : w'.frozen? a = w.frozen? a := Ext.keepF h a (by rw [hc]; rfl)
/-- Functions in own rows, from B on; the blocks of Kp are as in w0. -/
structure PF (Kp : Nat → Prop) (w w0 : World) (B : Nat) (v : Value) (fs : List (GFunc × Value)) (wx : World) : Prop where
  inK : ∀ g, Kp g → g < w0.heap.size
  le : w0.heap.size ≤ wx.heap.size
  keep : Keep Kp w0 wx
  ext : Ext w wx
  base : w.heap.size ≤ B
  row : PRow wx B v fs
  off : ∀ g ∈ blocksP v fs, ¬ Kp g

theorem PF.start {Kp : Nat → Prop} {w w0 : World} {B : Nat} {v : Value} {fs : List (GFunc × Value)} (hK : ∀ g, Kp g → g < w0.heap.size) (he : Ext w w0) (hb : w.heap.size ≤ B) (hr : PRow w0 B v fs) (ho : ∀ g ∈ blocksP v fs, ¬ Kp g) : PF Kp w w0 B v fs w0 :=
  ⟨hK, Nat.le_refl _, Keep.refl _ _, he, hb, hr, ho⟩
theorem PF.more {Kp : Nat → Prop} {w w0 wx W : World} {B : Nat} {v : Value} {fs : List (GFunc × Value)} (h : PF Kp w w0 B v fs wx) (he : Ext wx W) : PF Kp w w0 B v fs W :=
  ⟨h.inK, Nat.le_trans h.le he.size, fun b hb => (he.block b (Nat.lt_of_lt_of_le (h.inK b hb) h.le)).trans (h.keep b hb), h.ext.trans he, h.base, h.row.ext he, h.off⟩
theorem PF.back {Kp Kp' : Nat → Prop} {w w0 wa wx : World} {B : Nat} {v v0 : Value} {fs fs0 : List (GFunc × Value)} (h : PF Kp' w wa B v fs wx) (h0 : PF Kp w w0 B v0 fs0 wa) (hK : ∀ g, Kp g → Kp' g) : PF Kp w w0 B v fs wx :=
  ⟨h0.inK, Nat.le_trans h0.le h.le, fun b hb => (h.keep b (hK b hb)).trans (h0.keep b hb), h.ext, h.base, h.row, fun g hg hk => h.off g hg (hK g hk)⟩
/-- A block that came later is kept, too. -/
theorem PF.with {Kp : Nat → Prop} {w w0 wr wa : World} {B g : Nat} {v : Value} {fs : List (GFunc × Value)} (h : PF Kp w w0 B v fs wr) (he : Ext wr wa) (hg : wr.heap.size ≤ g) (hga : g < wa.heap.size) : PF (fun b => Kp b ∨ b = g) w wa B v fs wa := by
  refine PF.start (fun b hb => ?_) (h.ext.trans he) h.base (h.row.ext he) (fun b hb hk => ?_)
  · rcases hb with hb | rfl
    · exact Nat.lt_of_lt_of_le (h.inK b hb) (Nat.le_trans h.le he.size)
    · exact hga
  · rcases hk with hk | rfl
    · exact h.off b hb hk
    · have := (h.row.ge b hb).2
      omega
theorem PF.cell {Kp : Nat → Prop} {w w0 wx : World} {B : Nat} {v : Value} {fs : List (GFunc × Value)} (h : PF Kp w w0 B v fs wx) {g o : Nat} {u : Value} (hg : Kp g) (hc : w0.cell? ⟨g, o, none⟩ = some u) : wx.cell? ⟨g, o, none⟩ = some u := (h.keep.cell hg).trans hc
theorem PF.push {Kp : Nat → Prop} {w w0 wx W W' : World} {B : Nat} {v v' : Value} {fs : List (GFunc × Value)} {A L : Int} (h : PF Kp w w0 B v fs wx) (he : Ext wx W)
    (hn : NewRow W W' B 3 v v' (fs.length + 1) (fs.flatMap funcF ++ [.int .i64 A, .int .i64 L, .slice none 0 0])) (hA : I64 A) (hL : I64 L) (hl : fs.length < 10000) : PF Kp w w0 B v' (fs ++ [(⟨A, L, []⟩, .slice none 0 0)]) W' := by
  have h1 := h.more he
  have hv : ∀ g, rowBlock v = some g → ¬ Kp g := fun g e => h.off g (by unfold blocksP; rw [e]; simp)
  refine ⟨h.inK, Nat.le_trans h1.le hn.2.1.size, fun b hb => ?_, Chg.ext_from h1.ext hn.2.1 (fun g e => Nat.le_trans h.base (h1.row.row.le g e)), h.base, h1.row.push hn hA hL hl, fun g hg => ?_⟩
  · exact (hn.2.1.block b (Nat.lt_of_lt_of_le (h.inK b hb) h1.le) (fun e => hv b e hb)).trans (h1.keep b hb)
  · unfold blocksP at hg
    rw [List.flatMap_append] at hg
    have e0 : (rowBlock (.slice none 0 0)).toList = [] := rfl
    simp only [List.flatMap_cons, List.flatMap_nil, List.append_nil, e0] at hg
    rcases List.mem_append.1 hg with h2 | h2
    · rcases hn.2.2 with e | e
      · rw [e] at h2; exact h.off g (List.mem_append.2 (.inl h2))
      · intro hK
        have := e g (by simpa using h2)
        have := h.inK g hK
        have := h1.le
        omega
    · exact h.off g (List.mem_append.2 (.inr h2))
theorem PF.op {Kp : Nat → Prop} {w w0 wx W W' : World} {B g o n cap : Nat} {L : List (GFunc × Value)} {y : GFunc × Value} {v1 : Value} {x : GOp} (h : PF Kp w w0 B (.slice (some ⟨g, o, none⟩) n cap) (L ++ [y]) wx) (he : Ext wx W)
    (hn : NewRow W W' B 2 y.2 v1 (y.1.code.length + 1) (y.1.code.flatMap opF ++ opF x)) (hx : I64 x.kind ∧ I64 x.a) (hl : y.1.code.length < 10000) :
    PF Kp w w0 B (.slice (some ⟨g, o, none⟩) n cap) (L ++ [({ y.1 with code := y.1.code ++ [x] }, v1)]) (W'.setCell ⟨g, o + L.length * 3 + 2, none⟩ v1) := by
  have h1 := h.more he
  have hcap : cap ≠ 0 := by
    obtain ⟨a, c, e, h1, _⟩ := h.row.row.shape
    simp only [Value.slice.injEq] at e
    have : (L ++ [y]).length = L.length + 1 := by simp
    omega
  have hgb : rowBlock (.slice (some ⟨g, o, none⟩) n cap) = some g := rowBlock_some _ _ _ _ hcap
  have hg : ¬ Kp g := h.off g (by unfold blocksP; rw [hgb]; simp)
  have hgB : B ≤ g := h.row.row.le g hgb
  have hv : ∀ k, rowBlock y.2 = some k → ¬ Kp k := fun k e => h.off k (by unfold blocksP; rw [List.flatMap_append]; simp [e])
  have hvB : ∀ k, rowBlock y.2 = some k → B ≤ k := fun k e => (h.row.fn y (by simp)).2.2.1.le k e
  have hc := chg_one W' g (o + L.length * 3 + 2) v1
  refine ⟨h.inK, ?_, fun b hb => ?_, ?_, h.base, h1.row.op hn hx hl, fun k hk => ?_⟩
  · exact Nat.le_trans (Nat.le_trans h1.le hn.2.1.size) hc.size
  · refine (hc.block b (Nat.lt_of_lt_of_le (h.inK b hb) (Nat.le_trans h1.le hn.2.1.size)) (fun e => hg (by subst e; exact hb))).trans ?_
    exact (hn.2.1.block b (Nat.lt_of_lt_of_le (h.inK b hb) h1.le) (fun e => hv b e hb)).trans (h1.keep b hb)
  · refine Chg.ext_from (Chg.ext_from h1.ext hn.2.1 (fun k e => Nat.le_trans h.base (hvB k e))) hc (fun k e => ?_)
    subst e
    exact Nat.le_trans h.base hgB
  · unfold blocksP at hk
    rw [List.flatMap_append] at hk
    simp only [List.flatMap_cons, List.flatMap_nil, List.append_nil] at hk
    rcases List.mem_append.1 hk with h2 | h2
    · exact h.off k (List.mem_append.2 (.inl h2))
    rcases List.mem_append.1 h2 with h3 | h3
    · exact h.off k (by unfold blocksP; rw [List.flatMap_append]; exact List.mem_append.2 (.inr (List.mem_append.2 (.inl h3))))
    · rcases hn.2.2 with e | e
      · exact hv k (by rw [← e]; simpa using h3)
      · intro hK
        have := e k (by simpa using h3)
        have := h.inK k hK
        have := h1.le
        omega

theorem flat_txt : ∀ (l : List By), l.flatMap txtF = l.map txtV
  | [] => rfl
  | x :: l => by rw [List.flatMap_cons, flat_txt l]; rfl
theorem RowAt.strs {w : World} {base cap : Nat} {a : Option Addr} {l : List By} (h : RowAt w base 1 (.slice a l.length cap) l.length (l.flatMap txtF)) (hn : 0 < l.length) :
    ∃ g o, a = some ⟨g, o, none⟩ ∧ base ≤ g ∧ g < w.heap.size ∧ ∀ i (hi : i < l.length), w.cell? ⟨g, o + i, none⟩ = some (txtV l[i]) := by
  obtain ⟨g, o, rfl, hb, hc⟩ := h.cell hn
  have h1 : ∀ i (hi : i < l.length), w.cell? ⟨g, o + i, none⟩ = some (txtV l[i]) := fun i hi => by
    rw [(hc i (by omega)).1, flat_txt, List.getElem?_map, List.getElem?_eq_getElem hi]
    rfl
  exact ⟨g, o, rfl, hb, lt_of_cell (h1 0 hn), h1⟩

theorem flat_func_len : ∀ (L : List (GFunc × Value)), (L.flatMap funcF).length = L.length * 3
  | [] => rfl
  | y :: L => by rw [List.flatMap_cons, List.length_append, flat_func_len L, List.length_cons]; simp [funcF]; omega
theorem PRow.last {w : World} {B g o n cap : Nat} {L : List (GFunc × Value)} {y : GFunc × Value} (h : PRow w B (.slice (some ⟨g, o, none⟩) n cap) (L ++ [y])) :
    w.cell? ⟨g, o + L.length * 3 + 2, none⟩ = some y.2 ∧ w.frozen? ⟨g, o + L.length * 3 + 2, none⟩ = false := by
  have hr := h.row
  obtain ⟨a, c, e, h1, h2⟩ := hr.shape
  simp only [Value.slice.injEq] at e
  obtain ⟨-, e1, -⟩ := e
  rw [e1] at hr
  have hlen : (L ++ [y]).length = L.length + 1 := by simp
  obtain ⟨g', o', e2, _, hc⟩ := hr.cell (by omega)
  simp only [Option.some.injEq, Addr.mk.injEq, and_true] at e2
  obtain ⟨rfl, rfl⟩ := e2
  have h3 := hc (L.length * 3 + 2) (by omega)
  rw [Nat.add_assoc]
  refine ⟨?_, h3.2⟩
  rw [h3.1, List.flatMap_append, List.getElem?_append_right (by rw [flat_func_len]; omega), flat_func_len, show L.length * 3 + 2 - L.length * 3 = 2 by omega]
  rfl
/-- While the op is appended, the kept blocks and the row of functions stay. -/
theorem PF.op_keeps {Kp : Nat → Prop} {w w0 wx W W' : World} {B g o n cap m : Nat} {L : List (GFunc × Value)} {y : GFunc × Value} {v1 : Value} {xs : List Value} (h : PF Kp w w0 B (.slice (some ⟨g, o, none⟩) n cap) (L ++ [y]) wx) (he : Ext wx W)
    (hn : NewRow W W' B 2 y.2 v1 m xs) : Keep Kp w0 W' ∧ W'.heap[g]? = wx.heap[g]? := by
  have h1 := h.more he
  have hcap : cap ≠ 0 := by
    obtain ⟨a, c, e, h1, _⟩ := h.row.row.shape
    simp only [Value.slice.injEq] at e
    have : (L ++ [y]).length = L.length + 1 := by simp
    omega
  have hgb : rowBlock (.slice (some ⟨g, o, none⟩) n cap) = some g := rowBlock_some _ _ _ _ hcap
  have hv : ∀ k, rowBlock y.2 = some k → ¬ Kp k := fun k e => h.off k (by unfold blocksP; rw [List.flatMap_append]; simp [e])
  have hgw : g < wx.heap.size := (h.row.ge g (by rw [hgb]; simp)).2
  have hgy : rowBlock y.2 ≠ some g := fun e => by
    have hnd := h.row.nodup
    rw [hgb] at hnd
    obtain ⟨_, _, n3⟩ := List.nodup_append.1 hnd
    exact n3 g (by simp) g (by rw [List.flatMap_append]; simp [e]) rfl
  exact ⟨fun b hb => (hn.2.1.block b (Nat.lt_of_lt_of_le (h.inK b hb) h1.le) (fun e => hv b e hb)).trans (h1.keep b hb), (hn.2.1.block g (Nat.lt_of_lt_of_le hgw he.size) hgy).trans (he.block g hgw)⟩
theorem splitGo_len (c : UInt8) : ∀ (l cur : By), (∀ p ∈ splitGo c cur l, p.length ≤ cur.length + l.length)
  | [], cur => by simp [splitGo]
  | b :: l, cur => by
    rw [splitGo]
    split
    · intro p hp
      rcases List.mem_cons.1 hp with rfl | hp
      · simp
      · have := splitGo_len c l [] p hp
        simp at this ⊢
        omega
    · intro p hp
      have := splitGo_len c l (cur ++ [b]) p hp
      simp at this ⊢
      omega
theorem splitC_mem {c : UInt8} {s p : By} (h : p ∈ splitC c s) : p.length ≤ s.length := by simpa using splitGo_len c s [] p h
theorem splitGo_ne (c : UInt8) : ∀ (l cur : By), 1 ≤ (splitGo c cur l).length
  | [], cur => by simp [splitGo]
  | b :: l, cur => by
    rw [splitGo]
    split
    · simp
    · exact splitGo_ne c l _
theorem decFrom_lt : ∀ (s : By) (n m : Nat), Lib.decFrom n s = some m → m < (n + 1) * 10 ^ s.length
  | [], n, m, h => by
    rw [Lib.decFrom] at h
    cases h
    simp
  | b :: s, n, m, h => by
    rw [Lib.decFrom] at h
    cases hd : Lib.digitVal b with
    | none => rw [hd] at h; exact absurd h (by simp)
    | some d =>
      rw [hd] at h
      have hd9 : d ≤ 9 := by
        unfold Lib.digitVal at hd
        split at hd
        · cases hd; omega
        · exact absurd hd (by simp)
      have := decFrom_lt s (n * 10 + d) m h
      rw [List.length_cons, Nat.pow_succ]
      refine Nat.lt_of_lt_of_le this ?_
      rw [Nat.mul_comm (10 ^ s.length) 10, ← Nat.mul_assoc]
      exact Nat.mul_le_mul_right _ (by omega)
theorem numG_bd (s : By) : -1 ≤ numG s ∧ numG s ≤ 999999 := by
  unfold numG
  split
  · rename_i h
    refine ⟨by omega, ?_⟩
    cases hd : Lib.decFrom 0 s with
    | none => simp
    | some m =>
      have h1 := decFrom_lt s 0 m hd
      have h2 : 10 ^ s.length ≤ 10 ^ 6 := Nat.pow_le_pow_right (by decide) h.1.2
      simp only [Option.getD_some]
      have : (10 : Nat) ^ 6 = 1000000 := by decide
      omega
  · omega
theorem addOp_pair (L : List (GFunc × Value)) (y : GFunc × Value) (x : GOp) (u : Value) : addOp ((L ++ [y]).map Prod.fst) x = (L ++ [({ y.1 with code := y.1.code ++ [x] }, u)]).map Prod.fst := by
  rw [List.map_append, List.map_append, List.map_singleton, addOp_last]
  rfl
/-- At most k of each. -/
def FewP (k : Nat) (fs : List (GFunc × Value)) : Prop := fs.length ≤ k ∧ ∀ y ∈ fs, y.1.code.length ≤ k
theorem FewP.next {k : Nat} {fs : List (GFunc × Value)} (h : FewP k fs) : FewP (k + 1) fs := ⟨by have := h.1; omega, fun y hy => by have := h.2 y hy; omega⟩
theorem FewP.push {k : Nat} {fs : List (GFunc × Value)} (h : FewP k fs) (A L : Int) (u : Value) : FewP (k + 1) (fs ++ [(⟨A, L, []⟩, u)]) := by
  refine ⟨by have := h.1; simp; omega, fun y hy => ?_⟩
  rcases List.mem_append.1 hy with h1 | h1
  · have := h.2 y h1; omega
  · rw [List.mem_singleton.1 h1]; simp
theorem FewP.op {k : Nat} {L : List (GFunc × Value)} {y : GFunc × Value} (h : FewP k (L ++ [y])) (x : GOp) (u : Value) : FewP (k + 1) (L ++ [({ y.1 with code := y.1.code ++ [x] }, u)]) := by
  refine ⟨by have := h.1; simp at this ⊢; omega, fun z hz => ?_⟩
  rcases List.mem_append.1 hz with h1 | h1
  · have := h.2 z (by simp [h1]); omega
  · rw [List.mem_singleton.1 h1]
    have := h.2 y (by simp)
    simp
    omega
end Go.Proofs.YtpcjkfppacnkgaaGreatDoor
end
section
/- Contract of the document's waits and fresh. -/
set_option maxHeartbeats 4000000
set_option maxRecDepth 100000
namespace Go.Proofs.YtpcjkfppacnkgaaGreatDoor
open Go Go.RowKit

end Go.Proofs.YtpcjkfppacnkgaaGreatDoor
end
section
/- Contracts of slices.Index and slices.Contains at bools (of false), and of must: it panics where one is false. -/
set_option maxHeartbeats 2000000
set_option maxRecDepth 100000
namespace Go.Proofs.YtpcjkfppacnkgaaGreatDoor
open Go Go.RowKit

theorem Bools.at' {w : World} {S : Nat → Prop} {a : Option Addr} {l : List Bool} {n c : Nat} (h : Bools w S (.slice a n c) l) {m : Nat} (hm : m < l.length) : ∃ b o, a = some ⟨b, o, none⟩ ∧ w.cell? ⟨b, o + m, none⟩ = some (.bool l[m]) := by
  obtain ⟨b, o, _, e1, _, _, _, x0⟩ := h.get hm
  simp only [Value.slice.injEq] at e1
  obtain ⟨rfl, -, rfl⟩ := e1
  rw [Nat.mul_one] at x0
  exact ⟨b, o, rfl, x0⟩

end Go.Proofs.YtpcjkfppacnkgaaGreatDoor
end
section
/- Contracts of the judge's frame and waits. -/
set_option maxHeartbeats 4000000
set_option maxRecDepth 100000
set_option linter.unusedSimpArgs false
namespace Go.Proofs.YtpcjkfppacnkgaaGreatDoor
open Go Go.RowKit

/-- Heights of all functions, a slice of slices. -/
def HtsL (w : World) : Value → List (List Int) → Prop := Sl (fun b o l => ∃ v, w.cell? ⟨b, o, none⟩ = some v ∧ Ints w (fun _ => True) v l) 1 24
theorem HtsL.ext {w w' : World} {v : Value} {l : List (List Int)} (h : HtsL w v l) (he : Ext w w') : HtsL w' v l :=
  Sl.mono h fun _ _ _ ⟨v, h1, h2⟩ => ⟨v, Ext.cell he h1, Ints.stays (Ext.stays he) h2⟩

/-- A judge in its block. -/
structure Judge (w : World) (b : Nat) (p : List GFunc) (s : GState) (line : List Int) : Prop where
  fs : ∃ a c, w.cell? ⟨b, 0, none⟩ = some (.slice a s.fibers.length c) ∧ Fibers w (fun _ => True) (.slice a s.fibers.length c) s.fibers
  now : w.cell? ⟨b, 1, none⟩ = some (.int .i64 s.now)
  pr : ∃ a c, w.cell? ⟨b, 3, none⟩ = some (.slice a p.length c) ∧ Funcs w (fun _ => True) (.slice a p.length c) p
  hts : ∃ a c, w.cell? ⟨b, 4, none⟩ = some (.slice a p.length c) ∧ HtsL w (.slice a p.length c) ((List.range p.length).map (fun k : Nat => hgt p k))
  ln : ∃ a c, w.cell? ⟨b, 5, none⟩ = some (.slice a line.length c) ∧ Ints w (fun _ => True) (.slice a line.length c) line
theorem Judge.ext {w w' : World} {b : Nat} {p : List GFunc} {s : GState} {line : List Int} (h : Judge w b p s line) (he : Ext w w') : Judge w' b p s line := by
  obtain ⟨a1, c1, h1, h2⟩ := h.fs
  obtain ⟨a3, c3, h5, h6⟩ := h.pr
  obtain ⟨a4, c4, h7, h8⟩ := h.hts
  obtain ⟨a5, c5, h9, h10⟩ := h.ln
  exact ⟨⟨a1, c1, Ext.cell he h1, Fibers.stays (Ext.stays he) h2⟩, Ext.cell he h.now, ⟨a3, c3, Ext.cell he h5, Funcs.stays (Ext.stays he) h6⟩, ⟨a4, c4, Ext.cell he h7, h8.ext he⟩, ⟨a5, c5, Ext.cell he h9, Ints.stays (Ext.stays he) h10⟩⟩
theorem Judge.at' {w : World} {p : List GFunc} {a : Option Addr} {n c : Nat} (h : HtsL w (.slice a n c) ((List.range p.length).map (fun k : Nat => hgt p k))) {k : Nat} (hk : k < p.length) :
    ∃ b o a' c', a = some ⟨b, o, none⟩ ∧ w.cell? ⟨b, o + k, none⟩ = some (.slice a' (hgt p k).length c') ∧ Ints w (fun _ => True) (.slice a' (hgt p k).length c') (hgt p k) := by
  obtain ⟨b, o, _, e1, _, _, v, x0, hi⟩ := h.get (i := k) (by simpa using hk)
  simp only [Value.slice.injEq] at e1
  obtain ⟨rfl, -, -⟩ := e1
  rw [Nat.mul_one] at x0
  simp only [List.getElem_map, List.getElem_range] at hi
  have hi2 := hi
  obtain ⟨a', c', rfl, _, _, _⟩ := hi
  exact ⟨b, o, a', c', rfl, x0, hi2⟩

end Go.Proofs.YtpcjkfppacnkgaaGreatDoor
end
