/- Contracts of trim.All and the document's TrimAll. -/
import Derived.Test.YtpomcbginkhlbaaTrimF
set_option maxHeartbeats 4000000
set_option maxRecDepth 100000
namespace Go.Proofs.Ytpomcbginkhlbaa
open Go Go.RowKit

set_option maxRecDepth 100000 in
theorem infoF : (Try.prog.info? 25).map (fun i => (i.zero, i.size, i.bytes)) = some (some (.agg #[.int .i64 0, .int .i64 0, .slice none 0 0]), 3, 40) := by kernel_rfl

theorem RowAt.lt {w : World} {base size : Nat} {v : Value} {n : Nat} {xs : List Value} (h : RowAt w base size v n xs) (hs : 0 < size) : ∀ g, rowBlock v = some g → g < w.heap.size := by
  obtain ⟨_, a, cap, rfl, _, _, h3⟩ := h
  intro g hg
  rcases h3 with h0 | ⟨g', o, rfl, _, _, ht⟩
  · subst h0; cases a <;> simp [rowBlock] at hg
  · by_cases hc : cap = 0
    · subst hc; simp [rowBlock] at hg
    · rw [rowBlock_some g' o n cap hc] at hg
      cases hg
      obtain ⟨v, hv⟩ := Option.isSome_iff_exists.1 (ht 0 (Nat.mul_pos (by omega) hs)).1
      exact lt_of_cell hv

theorem Sl.map {α β : Type} {E : Nat → Nat → β → Prop} {sz bytes : Nat} {v : Value} {l : List α} (f : α → β) (h : Sl (fun b o y => E b o (f y)) sz bytes v l) : Sl E sz bytes v (l.map f) := by
  obtain ⟨a, cap, rfl, h1, h2, h3⟩ := h
  refine ⟨a, cap, by rw [List.length_map], by rw [List.length_map]; exact h1, by rw [List.length_map]; exact h2, fun i hi => ?_⟩
  obtain ⟨b, o, e, h4⟩ := h3 i (by rwa [List.length_map] at hi)
  exact ⟨b, o, e, by rw [List.getElem_map]; exact h4⟩

/-- A function's cells: its ops' slice beside it. -/
def funcF (y : GFunc × Value) : List Value := [.int .i64 y.1.args, .int .i64 y.1.locals, y.2]

/-- A row of functions that the call makes: each function's ops lie from base on, and not in the row's own block. -/
structure FRow (w : World) (base : Nat) (v : Value) (fs : List (GFunc × Value)) : Prop where
  row : RowAt w base 3 v fs.length (fs.flatMap funcF)
  ops : ∀ y ∈ fs, I64 y.1.args ∧ I64 y.1.locals ∧ Ops w (fun b => base ≤ b ∧ rowBlock v ≠ some b) y.2 y.1.code
theorem FRow.nil (w : World) (base : Nat) : FRow w base (.slice none 0 0) [] := ⟨RowAt.nil _ _ _ _, by simp⟩
theorem FRow.chg {M : Nat → Prop} {w w' : World} {base : Nat} {v : Value} {fs : List (GFunc × Value)} (h : FRow w base v fs) (hc : Chg M w w') (hM : ∀ b, base ≤ b → ¬ M b) : FRow w' base v fs :=
  ⟨h.row.chg hc (fun g e => hM g (h.row.le g e)) (by decide), fun y hy => ⟨(h.ops y hy).1, (h.ops y hy).2.1, Ops.stays (hc.stays (fun b hb => hM b hb.1)) (h.ops y hy).2.2⟩⟩
theorem FRow.ext {w w' : World} {base : Nat} {v : Value} {fs : List (GFunc × Value)} (h : FRow w base v fs) (he : Ext w w') : FRow w' base v fs := h.chg (M := fun _ => False) (Chg.of_ext he) (fun _ _ h => h)
/-- .. one function more behind it. -/
theorem FRow.grow {w w' : World} {base : Nat} {v v' : Value} {fs : List (GFunc × Value)} {y : GFunc × Value} (h : FRow w base v fs) (hn : NewRow w w' base 3 v v' (fs.length + 1) (fs.flatMap funcF ++ funcF y))
    (hy : I64 y.1.args ∧ I64 y.1.locals ∧ Ops w (fun b => base ≤ b ∧ rowBlock v ≠ some b) y.2 y.1.code) : FRow w' base v' (fs ++ [y]) := by
  obtain ⟨hr, hc, hb⟩ := hn
  refine ⟨?_, fun z hz => ?_⟩
  · rw [List.length_append, List.length_singleton, List.flatMap_append, List.flatMap_singleton]
    exact hr
  · have hz' : I64 z.1.args ∧ I64 z.1.locals ∧ Ops w (fun b => base ≤ b ∧ rowBlock v ≠ some b) z.2 z.1.code := by
      rcases List.mem_append.1 hz with h1 | h1
      · exact h.ops z h1
      · rw [List.mem_singleton] at h1; subst h1; exact hy
    refine ⟨hz'.1, hz'.2.1, Ops.stays (fun b o u hS hu => ⟨hc.cell hS.2 hu, hS.1, ?_⟩) hz'.2.2⟩
    rcases hb with e | e
    · rw [e]; exact hS.2
    · intro e2
      have := e b e2
      have := lt_of_cell hu
      omega
theorem FRow.funcs {w : World} {base : Nat} {v : Value} {fs : List (GFunc × Value)} (h : FRow w base v fs) (hb : fs.length ≤ 1000000) : Funcs w (base ≤ ·) v (fs.map Prod.fst) := by
  refine Sl.map Prod.fst (Sl.of_row funcF h.row (fun _ => rfl) (by omega) fun b o y hbb _ hy hc => ?_)
  obtain ⟨i1, i2, i3⟩ := h.ops y hy
  exact ⟨⟨hbb, hc 0 _ rfl, i1⟩, ⟨hbb, hc 1 _ rfl, i2⟩, y.2, hc 2 _ rfl, Ops.stays (Stays.widen (fun b hb => hb.1)) i3⟩

/-- One function in a new block. -/
theorem src_func (w : World) (F : GFunc) (a : Option Addr) (n cap : Nat) (t : TypeId) : SrcSl (w.alloc (.cells #[.int .i64 F.args, .int .i64 F.locals, .slice a n cap] t)) 3 (.slice (some ⟨w.heap.size, 0, none⟩) 1 1) 1 (funcF (F, .slice a n cap)) := by
  refine ⟨_, 1, rfl, rfl, by simp [funcF, Value.oneCell'], .inr ⟨_, rfl, fun j u hj => ?_⟩⟩
  match j, hj with
  | 0, hj => cases hj; rw [Addr.add_zero']; exact World.cell?_alloc_new w _ _ 0
  | 1, hj => cases hj; exact World.cell?_alloc_new w _ _ 1
  | 2, hj => cases hj; exact World.cell?_alloc_new w _ _ 2

theorem trimAll_any (p : List GFunc) (v : Value) (S : Nat → Prop) (w : World) (hp : Funcs w S v p) :
    Calls Try.prog 10 #[v] w fun e w' => (∃ x, e = .returned (.tuple #[x, .int .i64 (progErr p)]) ∧ Funcs w' (w.heap.size ≤ ·) x (trimP p)) ∧ Ext w w' := by
  have HP := Lib.hid hp
  obtain ⟨a, cap, rfl, _, _, _⟩ := hp
  by_cases h0 : progErr p = 0
  · have HT : Hid (trimP p = p.map (trimG p)) := by unfold Hid trimP; rw [if_pos h0]
    have HRP := Lib.hid (progErr_zero h0)
    have hlen := HRP.out.most
    have H0 := Lib.hid h0
    have RA := alloc_keep
    obtain ⟨o0, ho0, hoz0, hoz1, hoz2⟩ := info_parts infoF
    clear h0
    go_enter Try.func10, Try.ntmps10
    go_wp2_with (first
      | (go_at_call 16; (with_reducible refine (progCheck_any p _ S _ HP.out).mono ?_); rintro e w1 ⟨rfl, hb1⟩; rw [H0.out]; have HB1 := Lib.hid hb1; clear hb1))
    go_loopw [5, 14] (fun q5 q wr => ∃ k : Nat, k ≤ p.length ∧ q = .int .i64 k ∧ Ext w wr ∧ ∃ fs, fs.map Prod.fst = (p.take k).map (trimG p) ∧ FRow wr w.heap.size q5 fs) (fun _ q _ => p.length - (intOf q).toNat)
    case atStart => exact ⟨0, Nat.zero_le _, rfl, HB1.out, [], by simp, FRow.nil _ _⟩
    case round =>
      obtain ⟨k, hk, rfl, hb, fs, hfs, hrow⟩ := hrel
      have HB := Lib.hid hb
      have HROW := Lib.hid hrow
      have HFS := Lib.hid hfs
      have hfl : fs.length ≤ k := by have := congrArg List.length hfs; simp at this; omega
      obtain ⟨ar, capr, rfl, _, _⟩ := hrow.row.shape
      clear hb hrow hfs HB1
      by_cases hlt : k < p.length
      · obtain ⟨hg, hR⟩ := hts_at (HRP.out.func k hlt) hlt
        have hs := HRP.out.hts k hlt
        rw [hg] at hs
        obtain ⟨l, hh⟩ := Option.isSome_iff_exists.1 hs
        have HH := Lib.hid hh
        have HTK : Hid (p.take (k + 1) = p.take k ++ [p[k]]) := List.take_succ_eq_append_getElem hlt
        clear hs hh hg
        generalize hG : trimG p p[k] = G at *
        have HGE := Lib.hid hG
        clear hG
        rename World => wr
        go_wp2_with (first
          | (go_at_call 33; (with_reducible refine (trimOf_any p _ S k _ (Funcs.stays (Ext.stays HB.out) HP.out) hlt hR l HH.out).mono ?_); rintro e w3 ⟨⟨x, rfl, hx⟩, hb3⟩; rw [HGE.out] at hx; obtain ⟨s, rfl, ix, iy, hops⟩ := hx; have HOPS := Lib.hid hops; obtain ⟨sa, cs, rfl, _, _, _⟩ := hops; have HB3 := Lib.hid hb3; have HSZ3 : Hid ((w3.alloc (.cells #[.int .i64 G.args, .int .i64 G.locals, .slice sa G.code.length cs] 25)).heap.size = w3.heap.size + 1) := Array.size_push _; clear hb3)
          | (at_builtin; refine wpList_append_row rfl _ _ 22 rfl w.heap.size 25 o0 (.agg #[.int .i64 0, .int .i64 0, .slice none 0 0]) 3 40 Try.underlying22 ho0 hoz0 hoz1 hoz2 rfl (by decide) _ _ _ rfl (by exact HROW.out.row.ext (HB3.out.trans ((Ext.refl _).alloc _)) (by decide)) 1 (funcF (G, .slice sa G.code.length cs)) (src_func _ _ _ _ _ _) (by unfold maxLen; omega) (by omega) (by rw [HSZ3.out]; exact Nat.le_succ_of_le ((HB.out.trans HB3.out).size)) ?_; intro v1 Wv1 rv1; have RV := Lib.hid rv1; obtain ⟨a1, cap1, rfl, _, _⟩ := rv1.1.shape; clear rv1))
        have hE := HB3.out.trans ((Ext.refl _).alloc (.cells #[.int .i64 G.args, .int .i64 G.locals, .slice sa G.code.length cs] 25))
        have hx4 : Ext w Wv1 := Chg.ext_from (HB.out.trans hE) RV.out.2.1 (fun g e => (HROW.out.row.le g e))
        have hfr := (HROW.out.ext hE).grow (y := (G, .slice sa G.code.length cs)) RV.out ⟨ix, iy, Ops.stays (fun b o u hS hu => ⟨Ext.cell ((Ext.refl _).alloc _) hu, Nat.le_trans HB.out.size hS, fun e => by have h1 := HROW.out.row.lt (by decide) b e; have h2 : wr.heap.size ≤ b := hS; omega⟩) HOPS.out⟩
        go_roundw
        case rel => exact ⟨k + 1, by omega, by go_num, hx4, fs ++ [(G, .slice sa G.code.length cs)], by rw [List.map_append, HFS.out, HTK.out, List.map_append, ← HGE.out]; rfl, hfr⟩
        case measure => simp [intOf]; omega
      · obtain rfl : k = p.length := by omega
        clear hlt
        go_wp2_with fail
        go_ret2
        refine ⟨⟨_, by rw [H0.out]; rfl, ?_⟩, HB.out⟩
        rw [HT.out]
        have := HROW.out.funcs (by omega)
        rwa [HFS.out, List.take_length] at this
  · have HT : Hid (trimP p = []) := by unfold Hid trimP; rw [if_neg h0]
    obtain ⟨r, hr⟩ : ∃ r, progErr p = r := ⟨_, rfl⟩
    rw [hr] at h0
    have HR := Lib.hid hr
    clear hr
    have TB : (r != 0) = true := bne_iff_ne.2 h0
    clear h0
    go_enter Try.func10, Try.ntmps10
    go_wp2_with (first
      | (go_at_call 16; (with_reducible refine (progCheck_any p _ S _ HP.out).mono ?_); rintro e w1 ⟨rfl, hb1⟩; rw [HR.out]; have HB1 := Lib.hid hb1; clear hb1))
    go_ret2
    exact ⟨⟨_, by rw [HR.out]; rfl, by rw [HT.out]; exact Sl.nil _ _ _⟩, HB1.out⟩

theorem refTrimAll_any (p : List GFunc) (v : Value) (S : Nat → Prop) (w : World) (hp : Funcs w S v p) :
    Calls Try.prog 12 #[v] w fun e w' => (∃ x, e = .returned (.tuple #[x, .int .i64 (progErr p)]) ∧ Funcs w' (w.heap.size ≤ ·) x (trimP p)) ∧ Ext w w' := by
  have HP := Lib.hid hp
  obtain ⟨a, cap, rfl, _, _, _⟩ := hp
  by_cases h0 : progErr p = 0
  · have HT : Hid (trimP p = p.map (trimG p)) := by unfold Hid trimP; rw [if_pos h0]
    have HRP := Lib.hid (progErr_zero h0)
    have hlen := HRP.out.most
    have H0 := Lib.hid h0
    have RA := alloc_keep
    obtain ⟨o0, ho0, hoz0, hoz1, hoz2⟩ := info_parts infoF
    clear h0
    go_enter Try.func12, Try.ntmps12
    go_wp2_with (first
      | (go_at_call 21; (with_reducible refine (progError_any p _ S _ HP.out).mono ?_); rintro e w1 ⟨rfl, hb1⟩; rw [H0.out]; have HB1 := Lib.hid hb1; clear hb1))
    go_loopw [5, 6] (fun q5 q wr => ∃ k : Nat, k ≤ p.length ∧ q = .int .i64 k ∧ Ext w wr ∧ ∃ fs, fs.map Prod.fst = (p.take k).map (trimG p) ∧ FRow wr w.heap.size q5 fs) (fun _ q _ => p.length - (intOf q).toNat)
    case atStart => exact ⟨0, Nat.zero_le _, rfl, HB1.out, [], by simp, FRow.nil _ _⟩
    case round =>
      obtain ⟨k, hk, rfl, hb, fs, hfs, hrow⟩ := hrel
      have HB := Lib.hid hb
      have HROW := Lib.hid hrow
      have HFS := Lib.hid hfs
      have hfl : fs.length ≤ k := by have := congrArg List.length hfs; simp at this; omega
      obtain ⟨ar, capr, rfl, _, _⟩ := hrow.row.shape
      clear hb hrow hfs HB1
      by_cases hlt : k < p.length
      · obtain ⟨hg, hR⟩ := hts_at (HRP.out.func k hlt) hlt
        have hs := HRP.out.hts k hlt
        rw [hg] at hs
        obtain ⟨l, hh⟩ := Option.isSome_iff_exists.1 hs
        have HH := Lib.hid hh
        have HTK : Hid (p.take (k + 1) = p.take k ++ [p[k]]) := List.take_succ_eq_append_getElem hlt
        clear hs hh hg
        generalize hG : trimG p p[k] = G at *
        have HGE := Lib.hid hG
        clear hG
        rename World => wr
        go_wp2_with (first
          | (go_at_call 35; (with_reducible refine (trimmed_any p _ S k _ (Funcs.stays (Ext.stays HB.out) HP.out) hlt hR l HH.out).mono ?_); rintro e w3 ⟨⟨x, rfl, hx⟩, hb3⟩; rw [HGE.out] at hx; obtain ⟨s, rfl, ix, iy, hops⟩ := hx; have HOPS := Lib.hid hops; obtain ⟨sa, cs, rfl, _, _, _⟩ := hops; have HB3 := Lib.hid hb3; have HSZ3 : Hid ((w3.alloc (.cells #[.int .i64 G.args, .int .i64 G.locals, .slice sa G.code.length cs] 25)).heap.size = w3.heap.size + 1) := Array.size_push _; clear hb3)
          | (at_builtin; refine wpList_append_row rfl _ _ 22 rfl w.heap.size 25 o0 (.agg #[.int .i64 0, .int .i64 0, .slice none 0 0]) 3 40 Try.underlying22 ho0 hoz0 hoz1 hoz2 rfl (by decide) _ _ _ rfl (by exact HROW.out.row.ext (HB3.out.trans ((Ext.refl _).alloc _)) (by decide)) 1 (funcF (G, .slice sa G.code.length cs)) (src_func _ _ _ _ _ _) (by unfold maxLen; omega) (by omega) (by rw [HSZ3.out]; exact Nat.le_succ_of_le ((HB.out.trans HB3.out).size)) ?_; intro v1 Wv1 rv1; have RV := Lib.hid rv1; obtain ⟨a1, cap1, rfl, _, _⟩ := rv1.1.shape; clear rv1))
        have hE := HB3.out.trans ((Ext.refl _).alloc (.cells #[.int .i64 G.args, .int .i64 G.locals, .slice sa G.code.length cs] 25))
        have hx4 : Ext w Wv1 := Chg.ext_from (HB.out.trans hE) RV.out.2.1 (fun g e => (HROW.out.row.le g e))
        have hfr := (HROW.out.ext hE).grow (y := (G, .slice sa G.code.length cs)) RV.out ⟨ix, iy, Ops.stays (fun b o u hS hu => ⟨Ext.cell ((Ext.refl _).alloc _) hu, Nat.le_trans HB.out.size hS, fun e => by have h1 := HROW.out.row.lt (by decide) b e; have h2 : wr.heap.size ≤ b := hS; omega⟩) HOPS.out⟩
        go_roundw
        case rel => exact ⟨k + 1, by omega, by go_num, hx4, fs ++ [(G, .slice sa G.code.length cs)], by rw [List.map_append, HFS.out, HTK.out, List.map_append, ← HGE.out]; rfl, hfr⟩
        case measure => simp [intOf]; omega
      · obtain rfl : k = p.length := by omega
        clear hlt
        go_wp2_with fail
        go_ret2
        refine ⟨⟨_, by rw [H0.out]; rfl, ?_⟩, HB.out⟩
        rw [HT.out]
        have := HROW.out.funcs (by omega)
        rwa [HFS.out, List.take_length] at this
  · have HT : Hid (trimP p = []) := by unfold Hid trimP; rw [if_neg h0]
    obtain ⟨r, hr⟩ : ∃ r, progErr p = r := ⟨_, rfl⟩
    rw [hr] at h0
    have HR := Lib.hid hr
    clear hr
    have TB : (r != 0) = true := bne_iff_ne.2 h0
    clear h0
    go_enter Try.func12, Try.ntmps12
    go_wp2_with (first
      | (go_at_call 21; (with_reducible refine (progError_any p _ S _ HP.out).mono ?_); rintro e w1 ⟨rfl, hb1⟩; rw [HR.out]; have HB1 := Lib.hid hb1; clear hb1))
    go_ret2
    exact ⟨⟨_, by rw [HR.out]; rfl, by rw [HT.out]; exact Sl.nil _ _ _⟩, HB1.out⟩
end Go.Proofs.Ytpomcbginkhlbaa
