/- Merged texts: contracts and plain facts, one part behind another; each part begins with what it says. -/
import Derived.Test.YtpcjkfppacnkgaaGreatDoorGJAK
import Derived.Test.YtpcjkfppacnkgaaGreatDoorGJAL
import Derived.Test.YtpcjkfppacnkgaaGreatDoorGJAM
import Derived.Lib.AtoiAllCases
import Derived.Lib.AtoiErrMem
section
/- Functions in own rows beside kept blocks; plain facts of the lines that the document reads. No condition. -/
set_option maxHeartbeats 1000000
namespace Go.Proofs.YtpcjkfppacnkgaaGreatDoor
open Go Go.RowKit

def blocksP (v : Value) (fs : List (GFunc × Value)) : List Nat := (rowBlock v).toList ++ fs.flatMap fun y => (rowBlock y.2).toList

theorem Ext.froz {w w' : World} (h : Ext w w') {a : Addr} {v : Value} (hc : w.cell? a = some v) : w'.frozen? a = w.frozen? a := Ext.keepF h a (by rw [hc]; rfl)
/-- Functions in own rows, from B on; the blocks of Kp are as in w0. -/
structure PF (Kp : Nat → Prop) (w w0 : World) (B : Nat) (v : Value) (fs : List (GFunc × Value)) (wx : World) : Prop where
  inK : ∀ g, Kp g → g < w0.heap.size
  le : w0.heap.size ≤ wx.heap.size
  keep : Keep Kp w0 wx
  ext : Ext w wx
  base : w.heap.size ≤ B
  row : PRow wx B v fs
  off : ∀ g ∈ blocksP v fs, ¬ Kp g

theorem PF.start {Kp : Nat → Prop} {w w0 : World} {B : Nat} {v : Value} {fs : List (GFunc × Value)} (hK : ∀ g, Kp g → g < w0.heap.size) (he : Ext w w0) (hb : w.heap.size ≤ B) (hr : PRow w0 B v fs) (ho : ∀ g ∈ blocksP v fs, ¬ Kp g) : PF Kp w w0 B v fs w0 :=
  ⟨hK, Nat.le_refl _, Keep.refl _ _, he, hb, hr, ho⟩
theorem PF.more {Kp : Nat → Prop} {w w0 wx W : World} {B : Nat} {v : Value} {fs : List (GFunc × Value)} (h : PF Kp w w0 B v fs wx) (he : Ext wx W) : PF Kp w w0 B v fs W :=
  ⟨h.inK, Nat.le_trans h.le he.size, fun b hb => (he.block b (Nat.lt_of_lt_of_le (h.inK b hb) h.le)).trans (h.keep b hb), h.ext.trans he, h.base, h.row.ext he, h.off⟩
theorem PF.back {Kp Kp' : Nat → Prop} {w w0 wa wx : World} {B : Nat} {v v0 : Value} {fs fs0 : List (GFunc × Value)} (h : PF Kp' w wa B v fs wx) (h0 : PF Kp w w0 B v0 fs0 wa) (hK : ∀ g, Kp g → Kp' g) : PF Kp w w0 B v fs wx :=
  ⟨h0.inK, Nat.le_trans h0.le h.le, fun b hb => (h.keep b (hK b hb)).trans (h0.keep b hb), h.ext, h.base, h.row, fun g hg hk => h.off g hg (hK g hk)⟩
/-- A block that came later is kept, too. -/
theorem PF.with {Kp : Nat → Prop} {w w0 wr wa : World} {B g : Nat} {v : Value} {fs : List (GFunc × Value)} (h : PF Kp w w0 B v fs wr) (he : Ext wr wa) (hg : wr.heap.size ≤ g) (hga : g < wa.heap.size) : PF (fun b => Kp b ∨ b = g) w wa B v fs wa := by
  refine PF.start (fun b hb => ?_) (h.ext.trans he) h.base (h.row.ext he) (fun b hb hk => ?_)
  · rcases hb with hb | rfl
    · exact Nat.lt_of_lt_of_le (h.inK b hb) (Nat.le_trans h.le he.size)
    · exact hga
  · rcases hk with hk | rfl
    · exact h.off b hb hk
    · have := (h.row.ge b hb).2
      omega
theorem PF.cell {Kp : Nat → Prop} {w w0 wx : World} {B : Nat} {v : Value} {fs : List (GFunc × Value)} (h : PF Kp w w0 B v fs wx) {g o : Nat} {u : Value} (hg : Kp g) (hc : w0.cell? ⟨g, o, none⟩ = some u) : wx.cell? ⟨g, o, none⟩ = some u := (h.keep.cell hg).trans hc
theorem PF.push {Kp : Nat → Prop} {w w0 wx W W' : World} {B : Nat} {v v' : Value} {fs : List (GFunc × Value)} {A L : Int} (h : PF Kp w w0 B v fs wx) (he : Ext wx W)
    (hn : NewRow W W' B 3 v v' (fs.length + 1) (fs.flatMap funcF ++ [.int .i64 A, .int .i64 L, .slice none 0 0])) (hA : I64 A) (hL : I64 L) (hl : fs.length < 10000) : PF Kp w w0 B v' (fs ++ [(⟨A, L, []⟩, .slice none 0 0)]) W' := by
  have h1 := h.more he
  have hv : ∀ g, rowBlock v = some g → ¬ Kp g := fun g e => h.off g (by unfold blocksP; rw [e]; simp)
  refine ⟨h.inK, Nat.le_trans h1.le hn.2.1.size, fun b hb => ?_, Chg.ext_from h1.ext hn.2.1 (fun g e => Nat.le_trans h.base (h1.row.row.le g e)), h.base, h1.row.push hn hA hL hl, fun g hg => ?_⟩
  · exact (hn.2.1.block b (Nat.lt_of_lt_of_le (h.inK b hb) h1.le) (fun e => hv b e hb)).trans (h1.keep b hb)
  · unfold blocksP at hg
    rw [List.flatMap_append] at hg
    have e0 : (rowBlock (.slice none 0 0)).toList = [] := rfl
    simp only [List.flatMap_cons, List.flatMap_nil, List.append_nil, e0] at hg
    rcases List.mem_append.1 hg with h2 | h2
    · rcases hn.2.2 with e | e
      · rw [e] at h2; exact h.off g (List.mem_append.2 (.inl h2))
      · intro hK
        have := e g (by simpa using h2)
        have := h.inK g hK
        have := h1.le
        omega
    · exact h.off g (List.mem_append.2 (.inr h2))
theorem PF.op {Kp : Nat → Prop} {w w0 wx W W' : World} {B g o n cap : Nat} {L : List (GFunc × Value)} {y : GFunc × Value} {v1 : Value} {x : GOp} (h : PF Kp w w0 B (.slice (some ⟨g, o, none⟩) n cap) (L ++ [y]) wx) (he : Ext wx W)
    (hn : NewRow W W' B 2 y.2 v1 (y.1.code.length + 1) (y.1.code.flatMap opF ++ opF x)) (hx : I64 x.kind ∧ I64 x.a) (hl : y.1.code.length < 10000) :
    PF Kp w w0 B (.slice (some ⟨g, o, none⟩) n cap) (L ++ [({ y.1 with code := y.1.code ++ [x] }, v1)]) (W'.setCell ⟨g, o + L.length * 3 + 2, none⟩ v1) := by
  have h1 := h.more he
  have hcap : cap ≠ 0 := by
    obtain ⟨a, c, e, h1, _⟩ := h.row.row.shape
    simp only [Value.slice.injEq] at e
    have : (L ++ [y]).length = L.length + 1 := by simp
    omega
  have hgb : rowBlock (.slice (some ⟨g, o, none⟩) n cap) = some g := rowBlock_some _ _ _ _ hcap
  have hg : ¬ Kp g := h.off g (by unfold blocksP; rw [hgb]; simp)
  have hgB : B ≤ g := h.row.row.le g hgb
  have hv : ∀ k, rowBlock y.2 = some k → ¬ Kp k := fun k e => h.off k (by unfold blocksP; rw [List.flatMap_append]; simp [e])
  have hvB : ∀ k, rowBlock y.2 = some k → B ≤ k := fun k e => (h.row.fn y (by simp)).2.2.1.le k e
  have hc := chg_one W' g (o + L.length * 3 + 2) v1
  refine ⟨h.inK, ?_, fun b hb => ?_, ?_, h.base, h1.row.op hn hx hl, fun k hk => ?_⟩
  · exact Nat.le_trans (Nat.le_trans h1.le hn.2.1.size) hc.size
  · refine (hc.block b (Nat.lt_of_lt_of_le (h.inK b hb) (Nat.le_trans h1.le hn.2.1.size)) (fun e => hg (by subst e; exact hb))).trans ?_
    exact (hn.2.1.block b (Nat.lt_of_lt_of_le (h.inK b hb) h1.le) (fun e => hv b e hb)).trans (h1.keep b hb)
  · refine Chg.ext_from (Chg.ext_from h1.ext hn.2.1 (fun k e => Nat.le_trans h.base (hvB k e))) hc (fun k e => ?_)
    subst e
    exact Nat.le_trans h.base hgB
  · unfold blocksP at hk
    rw [List.flatMap_append] at hk
    simp only [List.flatMap_cons, List.flatMap_nil, List.append_nil] at hk
    rcases List.mem_append.1 hk with h2 | h2
    · exact h.off k (List.mem_append.2 (.inl h2))
    rcases List.mem_append.1 h2 with h3 | h3
    · exact h.off k (by unfold blocksP; rw [List.flatMap_append]; exact List.mem_append.2 (.inr (List.mem_append.2 (.inl h3))))
    · rcases hn.2.2 with e | e
      · exact hv k (by rw [← e]; simpa using h3)
      · intro hK
        have := e k (by simpa using h3)
        have := h.inK k hK
        have := h1.le
        omega

theorem flat_func_len : ∀ (L : List (GFunc × Value)), (L.flatMap funcF).length = L.length * 3
  | [] => rfl
  | y :: L => by rw [List.flatMap_cons, List.length_append, flat_func_len L, List.length_cons]; simp [funcF]; omega
theorem PRow.last {w : World} {B g o n cap : Nat} {L : List (GFunc × Value)} {y : GFunc × Value} (h : PRow w B (.slice (some ⟨g, o, none⟩) n cap) (L ++ [y])) :
    w.cell? ⟨g, o + L.length * 3 + 2, none⟩ = some y.2 ∧ w.frozen? ⟨g, o + L.length * 3 + 2, none⟩ = false := by
  have hr := h.row
  obtain ⟨a, c, e, h1, h2⟩ := hr.shape
  simp only [Value.slice.injEq] at e
  obtain ⟨-, e1, -⟩ := e
  rw [e1] at hr
  have hlen : (L ++ [y]).length = L.length + 1 := by simp
  obtain ⟨g', o', e2, _, hc⟩ := hr.cell (by omega)
  simp only [Option.some.injEq, Addr.mk.injEq, and_true] at e2
  obtain ⟨rfl, rfl⟩ := e2
  have h3 := hc (L.length * 3 + 2) (by omega)
  rw [Nat.add_assoc]
  refine ⟨?_, h3.2⟩
  rw [h3.1, List.flatMap_append, List.getElem?_append_right (by rw [flat_func_len]; omega), flat_func_len, show L.length * 3 + 2 - L.length * 3 = 2 by omega]
  rfl
/-- While the op is appended, the kept blocks and the row of functions stay. -/
theorem PF.op_keeps {Kp : Nat → Prop} {w w0 wx W W' : World} {B g o n cap m : Nat} {L : List (GFunc × Value)} {y : GFunc × Value} {v1 : Value} {xs : List Value} (h : PF Kp w w0 B (.slice (some ⟨g, o, none⟩) n cap) (L ++ [y]) wx) (he : Ext wx W)
    (hn : NewRow W W' B 2 y.2 v1 m xs) : Keep Kp w0 W' ∧ W'.heap[g]? = wx.heap[g]? := by
  have h1 := h.more he
  have hcap : cap ≠ 0 := by
    obtain ⟨a, c, e, h1, _⟩ := h.row.row.shape
    simp only [Value.slice.injEq] at e
    have : (L ++ [y]).length = L.length + 1 := by simp
    omega
  have hgb : rowBlock (.slice (some ⟨g, o, none⟩) n cap) = some g := rowBlock_some _ _ _ _ hcap
  have hv : ∀ k, rowBlock y.2 = some k → ¬ Kp k := fun k e => h.off k (by unfold blocksP; rw [List.flatMap_append]; simp [e])
  have hgw : g < wx.heap.size := (h.row.ge g (by rw [hgb]; simp)).2
  have hgy : rowBlock y.2 ≠ some g := fun e => by
    have hnd := h.row.nodup
    rw [hgb] at hnd
    obtain ⟨_, _, n3⟩ := List.nodup_append.1 hnd
    exact n3 g (by simp) g (by rw [List.flatMap_append]; simp [e]) rfl
  exact ⟨fun b hb => (hn.2.1.block b (Nat.lt_of_lt_of_le (h.inK b hb) h1.le) (fun e => hv b e hb)).trans (h1.keep b hb), (hn.2.1.block g (Nat.lt_of_lt_of_le hgw he.size) hgy).trans (he.block g hgw)⟩
theorem splitGo_len (c : UInt8) : ∀ (l cur : By), (∀ p ∈ splitGo c cur l, p.length ≤ cur.length + l.length)
  | [], cur => by simp [splitGo]
  | b :: l, cur => by
    rw [splitGo]
    split
    · intro p hp
      rcases List.mem_cons.1 hp with rfl | hp
      · simp
      · have := splitGo_len c l [] p hp
        simp at this ⊢
        omega
    · intro p hp
      have := splitGo_len c l (cur ++ [b]) p hp
      simp at this ⊢
      omega
theorem splitC_mem {c : UInt8} {s p : By} (h : p ∈ splitC c s) : p.length ≤ s.length := by simpa using splitGo_len c s [] p h
theorem splitGo_ne (c : UInt8) : ∀ (l cur : By), 1 ≤ (splitGo c cur l).length
  | [], cur => by simp [splitGo]
  | b :: l, cur => by
    rw [splitGo]
    split
    · simp
    · exact splitGo_ne c l _
theorem addOp_pair (L : List (GFunc × Value)) (y : GFunc × Value) (x : GOp) (u : Value) : addOp ((L ++ [y]).map Prod.fst) x = (L ++ [({ y.1 with code := y.1.code ++ [x] }, u)]).map Prod.fst := by
  rw [List.map_append, List.map_append, List.map_singleton, addOp_last]
  rfl
/-- At most k of each. -/
def FewP (k : Nat) (fs : List (GFunc × Value)) : Prop := fs.length ≤ k ∧ ∀ y ∈ fs, y.1.code.length ≤ k
theorem FewP.next {k : Nat} {fs : List (GFunc × Value)} (h : FewP k fs) : FewP (k + 1) fs := ⟨by have := h.1; omega, fun y hy => by have := h.2 y hy; omega⟩
theorem FewP.push {k : Nat} {fs : List (GFunc × Value)} (h : FewP k fs) (A L : Int) (u : Value) : FewP (k + 1) (fs ++ [(⟨A, L, []⟩, u)]) := by
  refine ⟨by have := h.1; simp; omega, fun y hy => ?_⟩
  rcases List.mem_append.1 hy with h1 | h1
  · have := h.2 y h1; omega
  · rw [List.mem_singleton.1 h1]; simp
theorem FewP.op {k : Nat} {L : List (GFunc × Value)} {y : GFunc × Value} (h : FewP k (L ++ [y])) (x : GOp) (u : Value) : FewP (k + 1) (L ++ [({ y.1 with code := y.1.code ++ [x] }, u)]) := by
  refine ⟨by have := h.1; simp at this ⊢; omega, fun z hz => ?_⟩
  rcases List.mem_append.1 hz with h1 | h1
  · have := h.2 z (by simp [h1]); omega
  · rw [List.mem_singleton.1 h1]
    have := h.2 y (by simp)
    simp
    omega
end Go.Proofs.YtpcjkfppacnkgaaGreatDoor
end
section
/- Contracts of the text package's must and nums: they panic where what is read is not as it must be. No condition. -/
set_option maxHeartbeats 4000000
set_option maxRecDepth 100000
namespace Go.Proofs.YtpcjkfppacnkgaaGreatDoor
open Go Go.RowKit

def brkE : PanicEntry := { v := .iface 138 (.agg #[]), recovered := false }
def mustT (b : Bool) : Ending := if b then .returned (.tuple #[]) else .panicked [brkE]
theorem mustT_true : mustT true = .returned (.tuple #[]) := rfl
theorem mustT_false : mustT false = .panicked [brkE] := rfl
theorem mustT_any (b : Bool) (w : World) : Calls Tryz.prog 50 #[.bool b] w fun e w' => e = mustT b ∧ w = w' := by
  cases b with
  | true =>
    go_enter Tryz.func50, Tryz.ntmps50
    go_wp2_with fail
    go_end0
    exact ⟨rfl, rfl⟩
  | false =>
    go_enter Tryz.func50, Tryz.ntmps50
    go_wp2_with fail
    exact ⟨rfl, rfl, rfl⟩
/-- What Atoi hands back: a number, and an error or none. -/
def AtoiR (s : By) (x : Int) (ev : Value) : Prop := match atoiO s with
  | some v => ev = .nilIface ∧ x = v ∧ I64 v
  | none => ∃ te pe, ev = .iface te pe
theorem atoi_any (s : By) (w : World) (hg : Glob w) (hl : s.length ≤ 100000) :
    Calls Tryz.prog 74 #[.string ⟨s.toArray⟩] w fun e w' => (∃ x ev, e = .returned (.tuple #[.int .i64 x, ev]) ∧ AtoiR s x ev) ∧ Ext w w' := by
  have hsz : (⟨s.toArray⟩ : ByteArray).size = s.length := size_by s
  have hdt : (⟨s.toArray⟩ : ByteArray).data.toList = s := by simp
  rcases h : Lib.atoiAll s with v | _ | _
  · refine (Tryz.strconv_Atoi_ok ⟨s.toArray⟩ (by omega) v (by rw [hdt]; exact h) w).mono ?_
    rintro e w' ⟨rfl, hw⟩
    refine ⟨⟨v, _, rfl, ?_⟩, ?_⟩
    · unfold AtoiR atoiO
      rw [h]
      exact ⟨rfl, rfl, Lib.atoiAll_bounds h⟩
    · rcases hw with rfl | ⟨t, rfl⟩
      · exact Ext.refl _
      · exact Lib.bytesWorld_below _ _ _
  · obtain ⟨ev, hv, hev⟩ := hg.syn
    refine (Tryz.strconv_Atoi_syntax ⟨s.toArray⟩ (by omega) (by rw [hdt]; exact h) ev w hv hev).mono ?_
    rintro e w' ⟨N, rfl, _, _, hb⟩
    refine ⟨⟨_, _, rfl, ?_⟩, hb⟩
    unfold AtoiR atoiO
    rw [h]
    exact ⟨_, _, rfl⟩
  · obtain ⟨ev, hv, hev⟩ := hg.rng
    refine (Tryz.strconv_Atoi_range ⟨s.toArray⟩ (by omega) (by rw [hdt]; exact h) ev w hv hev).mono ?_
    rintro e w' ⟨N, rfl, _, _, hb⟩
    refine ⟨⟨_, _, rfl, ?_⟩, hb⟩
    unfold AtoiR atoiO
    rw [h]
    exact ⟨_, _, rfl⟩

/-- What nums hands back, or that it panics. -/
def NumsRet (B : Nat) (o : Option (List Int)) (e : Ending) (w' : World) : Prop := match o with
  | some L => ∃ a c, e = .returned (.slice a L.length c) ∧ Ints w' (B ≤ ·) (.slice a L.length c) L
  | none => e = .panicked [brkE]
theorem mapM_next {l : List By} {k : Nat} {L : List Int} (h : k < l.length) (hL : (l.take k).mapM atoiO = some L) : (l.take (k + 1)).mapM atoiO = (atoiO l[k]).map fun x => L ++ [x] := by
  rw [List.take_succ_eq_append_getElem h, List.mapM_append, hL]
  rw [List.mapM_cons]
  cases atoiO l[k] with
  | none => rfl
  | some x => rfl
theorem mapM_stop {l : List By} {k : Nat} {L : List Int} (h : k < l.length) (hL : (l.take k).mapM atoiO = some L) (hx : atoiO l[k] = none) : l.mapM atoiO = none := by
  have e : l = l.take (k + 1) ++ l.drop (k + 1) := (List.take_append_drop _ _).symm
  rw [e, List.mapM_append, mapM_next h hL, hx]
  rfl
theorem nums_any (l : List By) (v : Value) (S : Nat → Prop) (n : Nat) (w : World) (hg : Glob w) (hv : Strs w S v l) (hl : l.length ≤ 100000) (hs : ∀ x ∈ l, x.length ≤ 100000) (hn : n ≤ 10) :
    Calls Tryz.prog 48 #[v, .int .i64 n] w fun e w' => NumsRet w.heap.size (numsR l n) e w' ∧ Ext w w' := by
  have HV := Lib.hid hv
  have HG := Lib.hid hg
  have HS := Lib.hid hs
  obtain ⟨i0, hi0, hz0, hz1, hz2⟩ := info_parts infoI
  obtain ⟨a, cap, rfl, hcap, hby, _⟩ := hv
  obtain ⟨R, hR⟩ : ∃ R, numsR l n = R := ⟨_, rfl⟩
  rw [hR]
  have HR := Lib.hid hR
  clear hR hg hs
  by_cases hln : l.length = n
  · subst hln
    have T0 : ((l.length : Int) == (l.length : Int)) = true := beq_self_eq_true _
    have HRR : Hid (l.mapM atoiO = R) := by unfold Hid; rw [← HR.out]; unfold numsR; rw [if_pos rfl]
    go_enter Tryz.func48, Tryz.ntmps48
    go_wp2_with (first
      | (go_at_call 50; refine (mustT_any _ _).mono ?_; rintro e w1 ⟨rfl, rfl⟩; rw [mustT_true]))
    go_loopw [5, 17] (fun q5 q17 wr => ∃ (k : Nat) (L : List Int), k ≤ l.length ∧ q17 = .int .i64 k ∧ (l.take k).mapM atoiO = some L ∧ L.length = k ∧ (∀ x ∈ L, I64 x) ∧ Ext w wr ∧ RowAt wr w.heap.size 1 q5 L.length (ints L)) (fun _ q _ => l.length - (intOf q).toNat)
    case atStart => exact ⟨0, [], Nat.zero_le _, rfl, rfl, rfl, by simp, Ext.refl _, RowAt.nil _ _ _ _⟩
    case round =>
      obtain ⟨k, L, hk, rfl, hL, hLk, hI, hb, hrow⟩ := hrel
      have HL := Lib.hid hL
      have HI := Lib.hid hI
      have HB := Lib.hid hb
      have HROW := Lib.hid hrow
      obtain ⟨ar, capr, rfl, _, _⟩ := hrow.shape
      have HBS := hb.size
      have HLK := Lib.hid hLk
      have hLb : L.length ≤ 100000 := by omega
      clear hL hI hb hrow hLk
      by_cases hlt : k < l.length
      · obtain ⟨bx, ox, cx, ex, _, hc⟩ := strs_at (HV.out.stays (Ext.stays HB.out)) hlt
        simp only [Value.slice.injEq] at ex
        obtain ⟨rfl, -, rfl⟩ := ex
        have hxl := HS.out _ (List.getElem_mem hlt)
        have HNX := Lib.hid (mapM_next hlt HL.out)
        have HST := Lib.hid (mapM_stop hlt HL.out)
        generalize l[k] = x at *
        replace hc : _ = some (Value.string ⟨x.toArray⟩) := hc
        cases hx : atoiO x with
        | none =>
          have HN : Hid (R = none) := by unfold Hid; rw [← HRR.out]; exact HST.out hx
          have HXX := Lib.hid hx
          clear hx
          go_wp2_with (first
            | (go_at_call 74; (with_reducible refine (atoi_any x _ (HG.out.ext HB.out) hxl).mono ?_); rintro e w3 ⟨⟨y, ev, rfl, hy⟩, hb3⟩; unfold AtoiR at hy; rw [HXX.out] at hy; obtain ⟨te, pe, rfl⟩ := hy)
            | (go_at_call 50; refine (mustT_any _ _).mono ?_; rintro e w1 ⟨rfl, rfl⟩; rw [mustT_false]))
          exact ⟨rfl, by rw [HN.out]; exact rfl, HB.out.trans hb3⟩
        | some z =>
          rw [hx] at HNX
          have HXX := Lib.hid hx
          have HS7 : ∀ W, Ext wr W → Hid (w.heap.size ≤ (W.alloc (.cells #[.int .i64 z] 3)).heap.size) := fun W h => by unfold Hid; exact Nat.le_trans (Nat.le_trans HBS h.size) ((Ext.refl W).alloc _).size
          clear hx HST
          go_wp2_with (first
            | (go_at_call 74; (with_reducible refine (atoi_any x _ (HG.out.ext HB.out) hxl).mono ?_); rintro e w3 ⟨⟨y, ev, rfl, hy⟩, hb3⟩; unfold AtoiR at hy; rw [HXX.out] at hy; obtain ⟨rfl, rfl, hzI⟩ := hy; have HE3 := Lib.hid (hb3.alloc (.cells #[.int .i64 y] 3)))
            | (go_at_call 50; refine (mustT_any _ _).mono ?_; rintro e w1 ⟨rfl, rfl⟩; rw [mustT_true])
            | (at_builtin; refine wpList_append_row rfl _ _ 30 rfl w.heap.size 3 i0 (.int .i64 0) 1 8 Tryz.underlying30 hi0 hz0 hz1 hz2 rfl (by decide) _ _ _ rfl (by exact HROW.out.ext HE3.out (by decide)) 1 (ints [y]) (src_one _ _ _) (by unfold maxLen; omega) (by omega) (by exact (HS7 _ hb3).out) ?_; intro v1 Wv1 rv1; have RV := Lib.hid rv1; obtain ⟨a9, cap9, rfl, _, _⟩ := rv1.1.shape; have HX9 := Lib.hid (Chg.ext_from (HB.out.trans HE3.out) RV.out.2.1 (fun g e => HROW.out.le g e)); clear rv1))
          go_roundw
          case rel => exact ⟨k + 1, L ++ [y], by omega, by go_num, HNX.out, by simp [HLK.out], fun u hu => (List.mem_append.1 hu).elim (HI.out u) (fun h => (List.mem_singleton.1 h) ▸ hzI), HX9.out, by rw [List.length_append, List.length_singleton, ints_app]; exact RV.out.1⟩
          case measure => simp [intOf]; omega
      · obtain rfl : k = l.length := by omega
        have HN : Hid (R = some L) := by unfold Hid; rw [← HRR.out]; have := HL.out; rwa [List.take_length] at this
        clear hlt
        go_wp2_with fail
        go_ret
        refine ⟨?_, HB.out⟩
        rw [HN.out]
        exact ⟨ar, capr, rfl, Ints.of_row (by rw [flatMap_intF]; exact HROW.out) (by omega) HI.out _ (fun _ h _ => h)⟩
  · have T0 : ((l.length : Int) == (n : Int)) = false := beq_eq_false_iff_ne.2 (by omega)
    have hRn : R = none := by rw [← HR.out]; unfold numsR; rw [if_neg hln]
    subst hRn
    clear hln
    go_enter Tryz.func48, Tryz.ntmps48
    go_wp2_with (first
      | (go_at_call 50; refine (mustT_any _ _).mono ?_; rintro e w1 ⟨rfl, rfl⟩; rw [mustT_false]))
    exact ⟨rfl, rfl, Ext.refl _⟩
end Go.Proofs.YtpcjkfppacnkgaaGreatDoor
end
section
/- A region that draws its order: reads in whatever order, then operations one at a time; what is read must stay only as far as operation z, which waits for all reads. No condition. -/
set_option maxHeartbeats 400000
namespace Go.Proofs.YtpcjkfppacnkgaaGreatDoor
open Go

section
variable {P : Program} {md : Region.Mode} {ops : Array Oper} {Q : Exit → Act → World → Prop} {S : World → Prop} {z : Nat}

end
end Go.Proofs.YtpcjkfppacnkgaaGreatDoor
end
section
/- A region that draws its order, as in RTail, where the last operation waits for each read, by way of others too. No condition. -/
set_option maxHeartbeats 400000
namespace Go.Proofs.YtpcjkfppacnkgaaGreatDoor
open Go

section
variable {P : Program} {md : Region.Mode} {ops : Array Oper} {Q : Exit → Act → World → Prop} {S : World → Prop} {z : Nat}

/-- Whoever has come, all that he waits for has come. -/
def ClosedL (md : Region.Mode) (ops : Array Oper) (listed : Array Bool) : Prop := ∀ k ok, ops[k]? = some ok → listed.getD k false = true → ∀ e ∈ ok.after, Region.binds md e = true → listed.getD e.on false = true
theorem getD_set_or {listed : Array Bool} {i k : Nat} (h : (listed.setIfInBounds i true).getD k false = true) : k = i ∨ listed.getD k false = true := by
  by_cases e : k = i
  · exact .inl e
  · rw [getD_set_ne false (Ne.symm e)] at h; exact .inr h
theorem ClosedL.set {listed : Array Bool} (h : ClosedL md ops listed) {i : Nat} (hr : i ∈ Region.ready md ops listed) : ClosedL md ops (listed.setIfInBounds i true) := by
  intro k ok hk hl e he hb
  obtain ⟨_, oi, hoi, hall⟩ := mem_ready.1 hr
  rcases getD_set_or hl with rfl | h1
  · rw [hoi] at hk; cases hk
    exact getD_set_true (hall e he hb)
  · exact getD_set_true (h k ok hk h1 e he hb)
theorem closedL_nil (n : Nat) : ClosedL md ops (Array.replicate n false) := by
  intro k ok _ hl
  exfalso
  rw [Array.getD_eq_getD_getElem?, Array.getElem?_replicate] at hl
  split at hl <;> simp at hl
def waitsT (md : Region.Mode) (ops : Array Oper) : Nat → Nat → Nat → Bool
  | 0, _, _ => false
  | f + 1, j, i => match ops[j]? with
    | some oj => oj.after.any fun e => Region.binds md e && (e.on == i || waitsT md ops f e.on i)
    | none => false
theorem waitsT_listed {listed : Array Bool} (hc : ClosedL md ops listed) {i : Nat} : ∀ (f j : Nat), waitsT md ops f j i = true → (∀ oj, ops[j]? = some oj → ∀ e ∈ oj.after, Region.binds md e = true → listed.getD e.on false = true) → listed.getD i false = true
  | 0, _, h, _ => by simp [waitsT] at h
  | f + 1, j, h, hj => by
    unfold waitsT at h
    split at h
    · rename_i oj hoj
      obtain ⟨e, he, hb⟩ := Array.any_eq_true'.1 h
      simp only [Bool.and_eq_true, Bool.or_eq_true, beq_iff_eq] at hb
      have hl := hj oj hoj e he hb.1
      rcases hb.2 with h1 | h1
      · rw [← h1]; exact hl
      · exact waitsT_listed hc f e.on h1 (fun ok hk => hc e.on ok hk hl)
    · cases h

theorem wpAnyW_firstT {i F : Nat} {oi : Oper} {v : Value} (hz : waitsT md ops F z i = true) (hi : ops[i]? = some oi) (hsel : ∀ (j : Nat) (o : Oper) cs b, ops[j]? = some o → o.op ≠ .select cs b)
    (hQ : ∀ c a w, Q (.panic c) (a.put oi.dst v) w → Q (.panic c) a w) :
    ∀ (fuel : Nat) (listed : Array Bool) (a : Act) (w : World), listed.size = ops.size → ClosedL md ops listed →
      (∀ j oj, ops[j]? = some oj → j ≠ i → listed.getD j true = false → (∀ e ∈ oj.after, Region.binds md e = true → e.on ≠ i) → oi.apart ops oj = true) →
      i ∈ Region.ready md ops listed → YieldsIf P ops S oi v a → S w →
      wpAnyW P md ops Q S z fuel (listed.setIfInBounds i true) (a.put oi.dst v) w → wpAnyW P md ops Q S z (fuel + 1) listed a w := by
  intro fuel
  induction fuel with
  | zero =>
    intro listed a w _ _ _ hr hy hS H
    refine ⟨fun h => (by rw [h] at hr; cases hr), fun j hj => ?_⟩
    by_cases hji : j = i
    · subst hji; exact hy.wpOp hi hS ⟨.inr hS, H⟩
    · have := ready_mono hj hji
      rw [H.1] at this
      cases this
  | succ fuel ih =>
    intro listed a w hsz hcl hfree hr hy hS H
    refine ⟨fun h => (by rw [h] at hr; cases hr), fun j hj => ?_⟩
    by_cases hji : j = i
    · subst hji; exact hy.wpOp hi hS ⟨.inr hS, H⟩
    · have h1 := H.2 j (ready_mono hj hji)
      obtain ⟨hjun, oj, hoj, hall⟩ := mem_ready.1 hj
      have hun0 : listed.getD i false ≠ true := fun h => by
        have h0 := (mem_ready.1 hr).1
        rcases Nat.lt_or_ge i listed.size with h' | h'
        · simp [h'] at h0 h; rw [h0] at h; cases h
        · simp [Array.getElem?_eq_none h'] at h
      have hnot : ∀ e ∈ oj.after, Region.binds md e = true → e.on ≠ i := fun e he hb heq => hun0 (heq ▸ hall e he hb)
      have hjz : j ≠ z := fun e => by
        subst e
        exact hun0 (waitsT_listed hcl F j hz (fun ok hk e he hb => by rw [hoj] at hk; cases hk; exact hall e he hb))
      have h2 := wpOp_putIf hoj (hfree j oj hoj hji hjun hnot) (fun cs b => hsel i oi cs b hi) (fun cs b => hsel j oj cs b hoj) hQ hy h1
      have hfree' : ∀ k ok, ops[k]? = some ok → k ≠ i → (listed.setIfInBounds j true).getD k true = false →
          (∀ e ∈ ok.after, Region.binds md e = true → e.on ≠ i) → oi.apart ops ok = true := fun k ok hk hki hun hno => by
        refine hfree k ok hk hki ?_ hno
        by_cases hjk : j = k
        · subst hjk; exact hjun
        · rw [getD_set_ne true hjk] at hun; exact hun
      refine wpOp_mono (fun a' w' h3 => ?_) h2
      have h4 := h3.2.1.resolve_left hjz
      exact ⟨.inr h4, ih (listed.setIfInBounds j true) a' w' (by simpa using hsz) (hcl.set hj) hfree' (ready_mono hr (Ne.symm hji)) h3.1 h4 (by rw [Array.setIfInBounds_comm _ _ hji]; exact h3.2.2)⟩

def rtHeadT (md : Region.Mode) (ops : Array Oper) (z : Nat) (tl : List Nat) : List Nat → Array Bool → Bool
  | [], listed => rtTail md ops z tl listed
  | k :: l, listed => (Region.ready md ops listed).contains k && Region.free md ops listed k && decide (k < ops.size) && waitsT md ops ops.size z k && rtHeadT md ops z tl l (listed.setIfInBounds k true)
/-- The check on a region. -/
def rtBT (md : Region.Mode) (ops : Array Oper) (z : Nat) (rd tl : List Nat) : Bool :=
  Region.noSelect ops && decide (rd.length + tl.length = ops.size) && rtHeadT md ops z tl rd (Array.replicate ops.size false)
theorem wpAnyW_headT {l : List Oper} (hl : ops = l.toArray) (hsel : Region.noSelect ops = true)  (hQ : ∀ c a d v w, Q (.panic c) (Act.put a (some d) v) w → Q (.panic c) a w) {w : World} (hS : S w) (tl : List Nat) :
    ∀ (rd : List Nat) (fuel : Nat) (listed : Array Bool) (a : Act), listed.size = ops.size → ClosedL md ops listed → rd.length + tl.length = fuel → rtHeadT md ops z tl rd listed = true → readsQ P ops S (fun a' => tailW P ops S Q (pickOps l tl) a' w) (pickOps l rd) a → wpAnyW P md ops Q S z fuel listed a w
  | [], fuel, listed, a, hs, _, hf, hB, h => wpAnyW_tail hl tl fuel listed a w (by simpa using hf) hB h
  | k :: rd, fuel, listed, a, hs, hcl, hf, hB, h => by
    simp only [rtHeadT, Bool.and_eq_true, decide_eq_true_eq] at hB
    obtain ⟨⟨⟨⟨h1, h2⟩, h3⟩, h4⟩, h5⟩ := hB
    obtain ⟨o, ho⟩ : ∃ o, l[k]? = some o := ⟨l[k]'(by subst hl; simpa using h3), by rw [List.getElem?_eq_getElem]⟩
    have ho' : ops[k]? = some o := by subst hl; simpa using ho
    have e : pickOps l (k :: rd) = o :: pickOps l rd := by unfold pickOps; simp [ho]
    rw [e] at h
    obtain ⟨v, hy, hK⟩ := h
    obtain ⟨f, rfl⟩ : ∃ f, fuel = f + 1 := ⟨fuel - 1, by simp at hf; omega⟩
    have hr : k ∈ Region.ready md ops listed := by simpa using h1
    exact wpAnyW_firstT h4 ho' (Region.noSelect_spec hsel) (fun c a w h => by cases hd : o.dst with | none => rw [hd] at h; exact h | some d => rw [hd] at h; exact hQ c _ _ _ w h) f listed a w hs hcl (Region.free_spec ho' h2) hr hy hS
      (wpAnyW_headT hl hsel hQ hS tl rd f _ _ (by simpa using hs) (hcl.set hr) (by simp at hf; omega) h5 hK)

theorem wp_region_rtt {id : Nat} {l : List Oper} {a : Act} {w : World} (S : World → Prop) (z : Nat) (rd tl : List Nat) (hm : P.follows .mixedOrders = true) (hB : rtBT .any l.toArray z rd tl = true) (hQ : ∀ c a d v w, Q (.panic c) (Act.put a (some d) v) w → Q (.panic c) a w) (hS : S w.drew)
    (h : readsQ P l.toArray S (fun a' => tailW P l.toArray S Q (pickOps l tl) a' w.drew) (pickOps l rd) a) : (Code.region id l.toArray true).wp P Q a w := by
  simp only [rtBT, Bool.and_eq_true, decide_eq_true_eq] at hB
  obtain ⟨⟨h1, h2⟩, h4⟩ := hB
  refine wp_region_any hm (wpAny_of_weak (S := S) (z := z) _ _ _ _ ?_)
  exact wpAnyW_headT rfl h1 hQ hS tl rd _ _ a (by simp) (closedL_nil _) h2 h4 h
end
end Go.Proofs.YtpcjkfppacnkgaaGreatDoor
end
