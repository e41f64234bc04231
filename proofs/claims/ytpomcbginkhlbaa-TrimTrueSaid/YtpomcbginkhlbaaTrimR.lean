/- Contract of the document's trimmed. -/
import Derived.Test.YtpomcbginkhlbaaFlowR
import Derived.Test.YtpomcbginkhlbaaTrimP
import Derived.Deep.MidRow
set_option maxHeartbeats 4000000
set_option maxRecDepth 100000
namespace Go.Proofs.Ytpomcbginkhlbaa
open Go Go.RowKit

/-- A cell's value, and that it may be written. -/
def Cx (W : World) (b j : Nat) (v : Value) : Prop := W.cell? ⟨b, j, none⟩ = some v ∧ W.frozen? ⟨b, j, none⟩ = false
theorem Cx.lt {W : World} {b j : Nat} {v : Value} (h : Cx W b j v) : b < W.heap.size := lt_of_cell h.1
theorem Cx.new (W : World) (vs : List Value) (t : TypeId) {j : Nat} {v : Value} (hj : vs[j]? = some v) : Cx (W.alloc (.cells vs.toArray t)) W.heap.size j v := by
  refine ⟨?_, World.frozen?_alloc_new W vs.toArray t j⟩
  have := World.cell?_alloc_new W vs.toArray t j
  rw [this, List.getElem?_toArray, hj]
theorem Cx.ext {W W' : World} {b j : Nat} {v : Value} (h : Cx W b j v) (he : Ext W W') : Cx W' b j v :=
  ⟨Ext.cell he h.1, by rw [Ext.keepF he _ (by rw [h.1]; rfl)]; exact h.2⟩
theorem Cx.chg {M : Nat → Prop} {W W' : World} {b j : Nat} {v : Value} (h : Cx W b j v) (hc : Chg M W W') (hM : ¬ M b) : Cx W' b j v :=
  ⟨Chg.cell hc hM h.1, by rw [Chg.frozen hc hM h.lt]; exact h.2⟩
theorem Cx.set {W : World} {b j : Nat} {v : Value} (h : Cx W b j v) (u : Value) : Cx (W.setCell ⟨b, j, none⟩ u) b j u :=
  ⟨World.cell?_setCell_same' _ _ _ (by rw [h.1]; rfl), by rw [World.frozen?_setCell]; exact h.2⟩
theorem Cx.other {W : World} {b j b' j' : Nat} {v : Value} (h : Cx W b j v) (hne : b ≠ b' ∨ j ≠ j') (u : Value) : Cx (W.setCell ⟨b', j', none⟩ u) b j v :=
  ⟨by rw [World.cell?_setCell_other (a := ⟨b', j', none⟩) (b := ⟨b, j, none⟩) (h := by intro e; simp only [Addr.mk.injEq] at e; omega)]; exact h.1, by rw [World.frozen?_setCell]; exact h.2⟩

theorem IRow.made {w : World} {base : Nat} {e : TypeId} {g n : Nat} (h : w.ownsRow base e 1 (.slice (some ⟨g, 0, none⟩) n n) n (madeCells (Value.int .i64 0).cells (n * 1)).toList) : IRow w base g (List.replicate n 0) := by
  have := RowAt.of_own h
  unfold IRow
  rw [List.length_replicate]
  rw [show (Value.int .i64 0).cells = #[.int .i64 0] from rfl, toList_madeCells_one, Nat.mul_one] at this
  rwa [show Proofs.Ytpomcbginkhlbaa.ints (List.replicate n 0) = List.replicate n (Value.int .i64 0) by simp [Proofs.Ytpomcbginkhlbaa.ints]]

theorem trimGo_skip {l : List Int} {C : List GOp} {k : Nat} (hk : k < C.length) (hl : l.length = C.length) (h : ¬ 0 ≤ l.getD k 0) : trimGo l (C.drop k) (l.drop k) = trimGo l (C.drop (k + 1)) (l.drop (k + 1)) := by
  have hk' : k < l.length := by omega
  rw [List.drop_eq_getElem_cons hk, List.drop_eq_getElem_cons hk']
  simp only [List.getD, List.getElem?_eq_getElem hk', Option.getD_some] at h
  simp only [trimGo, if_neg h]
theorem trimGo_put {l : List Int} {C : List GOp} {k : Nat} (hk : k < C.length) (hl : l.length = C.length) (h : 0 ≤ l.getD k 0) : trimGo l (C.drop k) (l.drop k) = trimOp l C[k] :: trimGo l (C.drop (k + 1)) (l.drop (k + 1)) := by
  have hk' : k < l.length := by omega
  rw [List.drop_eq_getElem_cons hk, List.drop_eq_getElem_cons hk']
  simp only [List.getD, List.getElem?_eq_getElem hk', Option.getD_some] at h
  simp only [trimGo, if_pos h]

/-- The second loop's state. -/
structure TI (w2 w5 : World) (g b10 N : Nat) (A L : Int) (l : List Int) (acc : List GOp) (wx : World) : Prop where
  ext : Ext w2 wx
  tt : ∃ t, IRow wx g g t ∧ t.length = N ∧ ∀ i, i < N → t.getD i 0 = keepN l i
  c0 : Cx wx b10 0 (.int .i64 A)
  c1 : Cx wx b10 1 (.int .i64 L)
  c2 : ∃ v, Cx wx b10 2 v ∧ RowAt wx (b10 + 1) 2 v acc.length (acc.flatMap opF)
  size : w5.heap.size ≤ wx.heap.size

/-- New blocks written, and no old one. -/
theorem TI.ext' {w2 w5 : World} {g b10 N : Nat} {A L : Int} {l : List Int} {acc : List GOp} {wx wy : World} (h : TI w2 w5 g b10 N A L l acc wx) (he : Ext wx wy) : TI w2 w5 g b10 N A L l acc wy := by
  obtain ⟨t, h1, h2, h3⟩ := h.tt
  obtain ⟨v, h4, h5⟩ := h.c2
  exact ⟨h.ext.trans he, ⟨t, h1.ext he, h2, h3⟩, h.c0.ext he, h.c1.ext he, ⟨v, h4.ext he, h5.ext he (by decide)⟩, Nat.le_trans h.size he.size⟩

/-- One op in a new block. -/
theorem src_op (w : World) (y : GOp) (t : TypeId) : SrcSl (w.alloc (.cells #[.int .i64 y.kind, .int .i64 y.a] t)) 2 (.slice (some ⟨w.heap.size, 0, none⟩) 1 1) 1 (opF y) := by
  refine ⟨_, 1, rfl, rfl, by simp [opF, Value.oneCell'], .inr ⟨_, rfl, fun j u hj => ?_⟩⟩
  match j, hj with
  | 0, hj => cases hj; rw [Addr.add_zero']; exact World.cell?_alloc_new w _ _ 0
  | 1, hj => cases hj; exact World.cell?_alloc_new w _ _ 1

set_option maxRecDepth 100000 in
theorem infoO : (Try.prog.info? 58).map (fun i => (i.zero, i.size, i.bytes)) = some (some (.agg #[.int .i64 0, .int .i64 0]), 2, 16) := by kernel_rfl

/-- One op more behind the row. -/
theorem TI.grow {w2 w5 : World} {g b10 N : Nat} {A L : Int} {l : List Int} {acc : List GOp} {wx W7 W8 : World} {y : GOp} {v v1 : Value} (h : TI w2 w5 g b10 N A L l acc wx) (hb : w2.heap.size ≤ b10) (hg : g < b10)
    (he : Ext wx W7) (hc : Cx wx b10 2 v) (hr : RowAt wx (b10 + 1) 2 v acc.length (acc.flatMap opF)) (hn : NewRow W7 W8 (b10 + 1) 2 v v1 (acc.length + 1) (acc.flatMap opF ++ opF y)) :
    TI w2 w5 g b10 N A L l (acc ++ [y]) (W8.setCell ⟨b10, 2, none⟩ v1) ∧ Cx W8 b10 2 v := by
  obtain ⟨t, h1, h2, h3⟩ := h.tt
  have hM : ∀ q, rowBlock v = some q → b10 + 1 ≤ q := hr.le
  have hch := hn.2.1
  have k2 : Cx W8 b10 2 v := (hc.ext he).chg hch (fun e => by have := hM _ e; omega)
  refine ⟨⟨?_, ⟨t, ?_, h2, h3⟩, ?_, ?_, ⟨v1, k2.set v1, ?_⟩, ?_⟩, k2⟩
  · exact (Chg.ext_from (h.ext.trans he) hch (fun q e => by have := hM _ e; omega)).setCell (p := ⟨b10, 2, none⟩) hb _
  · exact ((h1.ext he).chg hch (fun e => by have := hM _ e; omega)).other (by omega) _
  · exact ((h.c0.ext he).chg hch (fun e => by have := hM _ e; omega)).other (.inr (by omega)) _
  · exact ((h.c1.ext he).chg hch (fun e => by have := hM _ e; omega)).other (.inr (by omega)) _
  · rw [List.length_append, List.length_singleton, List.flatMap_append, List.flatMap_singleton]
    exact hn.1.chg (chg_one W8 b10 2 v1) (fun q e hq => by have := hn.1.le _ e; omega) (by decide)
  · have e1 := h.size
    have e2 := he.size
    have e3 := hch.size
    have e4 : (W8.setCell ⟨b10, 2, none⟩ v1).heap.size = W8.heap.size := size_setCells b10 [v1] 2 W8
    omega

/-- A whole result out of its cells. -/
theorem results_cell_mid {P : Program} {fn : Func} {p : Tmp} {ty : TypeId} (h : fn.results = #[.cell p ty]) (tmps : Array Value) (w : World) (b o : Nat) (cs : List Value) (d : TypeDesc)
    (hp : tmps.getD p undef = .pointer (some ⟨b, o, none⟩)) (hc : w.rangeAt b o cs) (hu : P.underlying ty = some d) (hd : d.isRow = true) (hi : (P.info? ty).map (·.size) = some cs.length) :
    (results fn tmps).run P w = .ok (.agg cs.toArray) w := by
  have hp' : tmps[p]?.getD undef = .pointer (some ⟨b, o, none⟩) := by simpa using hp
  simp [results, h, hp', asAddr, run_loadVar_mid w b o ty cs d hc hu hd hi]
theorem range3 {w : World} {b : Nat} {x y z : Value} (h0 : w.cell? ⟨b, 0, none⟩ = some x) (h1 : w.cell? ⟨b, 1, none⟩ = some y) (h2 : w.cell? ⟨b, 2, none⟩ = some z) : w.rangeAt b 0 [x, y, z] := by
  intro j v hj
  rw [Nat.zero_add]
  match j, hj with
  | 0, hj => cases hj; exact h0
  | 1, hj => cases hj; exact h1
  | 2, hj => cases hj; exact h2

theorem trimGo_len (l : List Int) : ∀ (C : List GOp) (m : List Int), (trimGo l C m).length ≤ C.length
  | [], m => by simp [trimGo]
  | x :: C, [] => by simp [trimGo]
  | x :: C, h :: m => by
    have := trimGo_len l C m
    unfold trimGo
    split <;> simp <;> omega

theorem trimGo_i64 (l : List Int) (hl : l.length ≤ 1000000) : ∀ (C : List GOp) (m : List Int), (∀ y ∈ C, I64 y.kind ∧ I64 y.a) → ∀ y ∈ trimGo l C m, I64 y.kind ∧ I64 y.a
  | [], m, _, y, hy => by simp [trimGo] at hy
  | x :: C, [], _, y, hy => by simp [trimGo] at hy
  | x :: C, h :: m, hC, y, hy => by
    have hr := trimGo_i64 l hl C m (fun z hz => hC z (List.mem_cons_of_mem _ hz)) y
    have hx := hC x (List.mem_cons_self ..)
    unfold trimGo at hy
    split at hy
    · rcases List.mem_cons.mp hy with rfl | h
      · unfold trimOp
        split
        · refine ⟨hx.1, I64.nat ?_⟩
          have : keepN l x.a.toNat ≤ l.length := Nat.le_trans List.countP_le_length (List.length_take_le' _ _)
          omega
        · exact hx
      · exact hr h
    · exact hr hy

theorem keepN_le (l : List Int) (n : Nat) : keepN l n ≤ n := Nat.le_trans List.countP_le_length (by rw [List.length_take]; omega)

theorem trimmed_any (p : List GFunc) (v : Value) (S : Nat → Prop) (n : Nat) (w : World) (hp : Funcs w S v p) (hn : n < p.length) (hR : RightF p p[n]) (l : List Int) (hl : hts p p[n].code = some l) :
    Calls Try.prog 35 #[v, .int .i64 n] w fun e w' => (∃ x, e = .returned x ∧ FuncV w' (w.heap.size ≤ ·) x (trimG p p[n])) ∧ Ext w w' := by
  have HH : Hid (∀ w1, Ext w w1 → Calls Try.prog 42 #[v, .int .i64 n] w1 fun e w' => (∃ v2, e = .returned (.tuple #[v2, .bool true]) ∧ Ints w' (w1.heap.size ≤ ·) v2 l) ∧ Ext w1 w') := by
    intro w1 h1
    refine (heights_any p v S n w1 (Funcs.stays h1.stays hp) hn hR).mono fun e w' ⟨h, hx⟩ => ⟨?_, hx⟩
    rw [htsR_eq hR.jumps, hl] at h
    exact h
  have hfull := hts_full hR.jumps hl
  have hll := hfull.len
  have hHG : trimG p p[n] = ⟨p[n].args, p[n].locals, trimC p[n].code l⟩ := by unfold trimG; rw [hl]; rfl
  rw [hHG]
  obtain ⟨b, o, cap, rfl, hcap, hby, ⟨_, hA, iA⟩, ⟨_, hL, iL⟩, vc, hC, hcode⟩ := hp.get hn
  have HOI := Lib.hid (Ops.i64 hcode)
  obtain ⟨ca, ccap, rfl, hcc, hcby, hops⟩ := hcode
  have RA := alloc_keep
  have hlen := hR.len
  have hjm := fun x hx => (hR.op x hx).2.2
  obtain ⟨i0, hi0, hz0, hz1, hz2⟩ := info_parts infoI
  obtain ⟨o0, ho0, hoz0, hoz1, hoz2⟩ := info_parts infoO
  generalize hF : p[n] = F at *
  obtain ⟨A, L, C⟩ := F
  simp only at *
  have HO := Lib.hid hops
  have HJ := Lib.hid hjm
  clear hF hp hops hR hl hfull hjm hHG
  go_enter Try.func35, Try.ntmps35
  go_upto_region 2 with (first
    | (go_at_call 42; refine (HH.out _ ((Ext.refl w).alloc _)).mono ?_; rintro e w2 ⟨⟨v2, rfl, hi⟩, hx⟩))
  obtain ⟨a2, cap2, rfl, hc2, hb2, _⟩ := (⟨hi, trivial⟩ : _ ∧ True).1
  have hw2 : w.heap.size + 1 ≤ w2.heap.size := by have := hx.size; simpa using this
  have HI := Lib.hid hi
  have HX := Lib.hid (((Ext.refl w).alloc _).trans hx)
  have c40 := Cx.ext (Cx.new w [.int .i64 0, .int .i64 0, .slice none 0 0] 25 (j := 0) rfl) hx
  have c41 := Cx.ext (Cx.new w [.int .i64 0, .int .i64 0, .slice none 0 0] 25 (j := 1) rfl) hx
  have c42 := Cx.ext (Cx.new w [.int .i64 0, .int .i64 0, .slice none 0 0] 25 (j := 2) rfl) hx
  clear hi hx
  go_wp2_with (first
    | (at_make; refine wpList_make_full _ rfl _ _ 37 rfl w2.heap.size 3 i0 (.int .i64 0) 1 Try.underlying37 hi0 hz0 hz1 .i64 .i64 _ _ C.length rfl rfl rfl rfl (by rw [hz2]; omega) (by unfold maxLen; omega) (Nat.le_refl _) ?_; intro w3 hown3 hgr3))
  have hE3 := ext_none hgr3
  have hrow := IRow.made hown3
  clear hown3 hgr3
  go_loopw [8, 9] (fun q8 q9 wr => ∃ k : Nat, k ≤ C.length ∧ q8 = .int .i64 (keepN l k) ∧ q9 = .int .i64 k ∧ Ext w2 wr ∧ ∃ t, IRow wr w2.heap.size w2.heap.size t ∧ t.length = C.length ∧ ∀ i, i < k → t.getD i 0 = keepN l i) (fun _ q _ => C.length - (intOf q).toNat)
  case atStart => exact ⟨0, Nat.zero_le _, by rw [keepN_zero]; rfl, rfl, hE3, _, hrow, by simp, fun i hi => absurd hi (Nat.not_lt_zero _)⟩
  case round =>
    obtain ⟨k, hk, rfl, rfl, hbr, t, hrt, htl, hti⟩ := hrel
    have hkb := keepN_le l k
    have HB := Lib.hid hbr
    have HT := Lib.hid hrt
    have HTI := Lib.hid hti
    clear hbr hrt hti hE3 hrow
    by_cases hlt : k < C.length
    · obtain ⟨r0, r1, _⟩ := HT.out.at (k := k) (by omega)
      go_upto_region 8 with fail
      have hst := HT.out.store (k := k) (by omega) (keepN l k)
      have hE4 := HB.out.setCell (p := ⟨w2.heap.size, k, none⟩) (Nat.le_refl _) (.int .i64 (keepN l k))
      have hgt : ∀ i, i < k + 1 → (t.set k (keepN l k)).getD i 0 = keepN l i := fun i hi => by
        by_cases e : i = k
        · subst e; simp [List.getD, htl, hlt]
        · have := HTI.out i (by omega)
          simp only [List.getD, List.getElem?_set_ne (Ne.symm e)] at this ⊢
          exact this
      have htl' : (t.set k (keepN l k : Int)).length = C.length := by rw [List.length_set]; exact htl
      generalize t.set k (keepN l k : Int) = t2 at *
      generalize wr.setCell ⟨w2.heap.size, k, none⟩ (.int .i64 (keepN l k)) = w4 at *
      clear HB HT HTI r0 r1 htl
      have HE4 := Lib.hid hE4
      have HST := Lib.hid hst
      have HGT := Lib.hid hgt
      clear hE4 hst hgt
      obtain ⟨bl, ol, _, e1, _, _, _, x0, _⟩ := HI.out.get (i := k) (by omega)
      simp only [Value.slice.injEq] at e1
      obtain ⟨rfl, -, -⟩ := e1
      have y0 := Ext.cell HE4.out x0
      rw [Nat.mul_one] at y0
      have hlt' : k < l.length := by omega
      have hks := keepN_succ hlt'
      have eg : l.getD k 0 = l[k] := by simp [List.getD, List.getElem?_eq_getElem hlt']
      rw [eg] at hks
      have HKS := Lib.hid hks
      clear hks eg x0
      generalize l[k] = u at *
      by_cases h0 : 0 ≤ u
      · have T0 : decide (0 ≤ u) = true := by simpa using h0
        have HK2 : Hid (keepN l (k + 1) = keepN l k + 1) := by unfold Hid; rw [HKS.out, if_pos h0]
        clear h0 HKS
        go_wp2_with fail
        go_roundw
        case rel => exact ⟨k + 1, by omega, by rw [HK2.out]; go_num, by go_num, HE4.out, t2, HST.out, htl', HGT.out⟩
        case measure => simp [intOf]; omega
      · have T0 : decide (0 ≤ u) = false := by simpa using h0
        have HK2 : Hid (keepN l (k + 1) = keepN l k) := by unfold Hid; rw [HKS.out, if_neg h0]; rfl
        clear h0 HKS
        go_wp2_with fail
        go_roundw
        case rel => exact ⟨k + 1, by omega, by rw [HK2.out], by go_num, HE4.out, t2, HST.out, htl', HGT.out⟩
        case measure => simp [intOf]; omega
    · obtain rfl : k = C.length := by omega
      clear hlt
      have HBS := Lib.hid HB.out.size
      have HG1 : Hid (0 < C.length → w2.heap.size < wr.heap.size) := fun h0 => lt_of_cell (HT.out.at (k := 0) (by omega)).1
      go_upto_region 10 with fail
      have hA' := Ext.cell (HX.out.trans HB.out) hA
      have hL' := Ext.cell (HX.out.trans HB.out) hL
      have hC' := Ext.cell (HX.out.trans HB.out) hC
      go_region
      have hE5 : Ext wr (wr.alloc (.cells #[.int .i64 A, .int .i64 L, .slice none 0 0] 25)).drew := ((Ext.refl _).alloc _).drew
      generalize hw5 : (wr.alloc (.cells #[.int .i64 A, .int .i64 L, .slice none 0 0] 25)).drew = w5 at *
      have hB10 := hE5.size
      have hc0 : Cx w5 wr.heap.size 0 (.int .i64 A) := by rw [← hw5]; exact (Cx.new wr [.int .i64 A, .int .i64 L, .slice none 0 0] 25 rfl).ext (Ext.refl _).drew
      have hc1 : Cx w5 wr.heap.size 1 (.int .i64 L) := by rw [← hw5]; exact (Cx.new wr [.int .i64 A, .int .i64 L, .slice none 0 0] 25 rfl).ext (Ext.refl _).drew
      have hc2 : Cx w5 wr.heap.size 2 (.slice none 0 0) := by rw [← hw5]; exact (Cx.new wr [.int .i64 A, .int .i64 L, .slice none 0 0] 25 rfl).ext (Ext.refl _).drew
      have hs5 : w5.heap.size = wr.heap.size + 1 := by rw [← hw5]; exact Array.size_push _
      have hst : TI w2 w5 w2.heap.size wr.heap.size C.length A L l [] w5 := ⟨HB.out.trans hE5, ⟨t, HT.out.ext hE5, htl, HTI.out⟩, hc0, hc1, ⟨_, hc2, RowAt.nil _ _ _ _⟩, Nat.le_refl _⟩
      have HST := Lib.hid hst
      clear hw5 hst hc0 hc1 hc2 hA' hL' hC' HT HTI hE5
      go_wp2_with fail
      go_loopw [11] (fun q wx => ∃ k : Nat, k ≤ C.length ∧ q = .int .i64 k ∧ ∃ acc, acc ++ trimGo l (C.drop k) (l.drop k) = trimC C l ∧ acc.length ≤ k ∧ TI w2 w5 w2.heap.size wr.heap.size C.length A L l acc wx) (fun q _ => C.length - (intOf q).toNat)
      case atStart => exact ⟨0, Nat.zero_le _, rfl, [], rfl, Nat.le_refl _, HST.out⟩
      case round =>
        obtain ⟨k, hk, rfl, acc, hacc, hal, hti⟩ := hrel
        have HACC := Lib.hid hacc
        have HTI := Lib.hid hti
        clear hacc hti HST
        by_cases hlt : k < C.length
        · obtain ⟨cb, co, rfl, ⟨_, z0, i0'⟩, _, z1, i1'⟩ := HO.out k hlt
          have hxj := HJ.out _ (List.getElem_mem hlt)
          have HSKIP := Lib.hid (trimGo_skip hlt hll)
          have HPUT := Lib.hid (trimGo_put hlt hll)
          have z0' := Ext.cell (HX.out.trans HTI.out.ext) z0
          have z1' := Ext.cell (HX.out.trans HTI.out.ext) z1
          have hC' := Ext.cell (HX.out.trans HTI.out.ext) hC
          obtain ⟨bl, ol, _, e1, _, _, _, x0, _⟩ := HI.out.get (i := k) (by omega)
          simp only [Value.slice.injEq] at e1
          obtain ⟨rfl, -, -⟩ := e1
          have hlt' : k < l.length := by omega
          have eg : l.getD k 0 = l[k] := by simp [List.getD, List.getElem?_eq_getElem hlt']
          rw [Nat.mul_one, ← eg] at x0
          have X0 := Lib.hid x0
          clear eg x0 z0 z1
          generalize C[k] = x at *
          rename World => wx0
          go_upto_region 15 with fail
          have he6 : Ext wx0 (wx0.alloc (.cells #[.int .i64 x.kind, .int .i64 x.a] 58)) := (Ext.refl _).alloc _
          have hx0 : Cx (wx0.alloc (.cells #[.int .i64 x.kind, .int .i64 x.a] 58)) wx0.heap.size 0 (.int .i64 x.kind) := Cx.new wx0 [.int .i64 x.kind, .int .i64 x.a] 58 rfl
          have hx1 : Cx (wx0.alloc (.cells #[.int .i64 x.kind, .int .i64 x.a] 58)) wx0.heap.size 1 (.int .i64 x.a) := Cx.new wx0 [.int .i64 x.kind, .int .i64 x.a] 58 rfl
          have hs6 : (wx0.alloc (.cells #[.int .i64 x.kind, .int .i64 x.a] 58)).heap.size = wx0.heap.size + 1 := Array.size_push _
          have hs5x := HTI.out.size
          generalize hbx : wx0.heap.size = bx at *
          generalize wx0.alloc (.cells #[.int .i64 x.kind, .int .i64 x.a] 58) = w6 at *
          have HE6 := Lib.hid he6
          clear z0' z1' hC' he6
          go_cut [71] (fun v wx => ∃ c : Bool, v = .bool c ∧ (c = true ↔ (x.kind = 9 ∨ x.kind = 10)) ∧ w6 = wx)
          case first =>
            obtain ⟨q0, q1⟩ := hx0
            by_cases hk : x.kind = 9
            · have T9 : (x.kind == 9) = true := by simp [hk]
              have TT := Lib.hid (show (x.kind = 9 ∨ x.kind = 10) by simp [hk])
              clear hk
              go_wp2_with fail
              go_meet
              exact ⟨true, rfl, ⟨fun _ => TT.out, fun _ => rfl⟩, rfl⟩
            · have T9 : (x.kind == 9) = false := by simp [hk]
              by_cases hk' : x.kind = 10
              · have T10 : (x.kind == 10) = true := by simp [hk']
                have TT := Lib.hid (show (x.kind = 9 ∨ x.kind = 10) by simp [hk'])
                clear hk hk'
                go_wp2_with fail
                go_meet
                exact ⟨true, rfl, ⟨fun _ => TT.out, fun _ => rfl⟩, rfl⟩
              · have T10 : (x.kind == 10) = false := by simp [hk']
                have TT := Lib.hid (show ¬ (x.kind = 9 ∨ x.kind = 10) by simp [hk, hk'])
                clear hk hk'
                go_wp2_with fail
                go_meet
                exact ⟨false, rfl, ⟨fun h => (by cases h), fun h => (TT.out h).elim⟩, rfl⟩
          case rest =>
            obtain ⟨c, rfl, hcj, rfl⟩ := hcut
            have HCJ := Lib.hid hcj
            clear hcj
            go_upto_if 71 with fail
            go_cut [12] (fun v wx => v = .pointer (some ⟨bx, 0, none⟩) ∧ Cx wx bx 0 (.int .i64 (trimOp l x).kind) ∧ Cx wx bx 1 (.int .i64 (trimOp l x).a) ∧ TI w2 w5 w2.heap.size wr.heap.size C.length A L l acc wx)
            case first =>
              obtain ⟨q0, q1⟩ := hx0
              obtain ⟨r0, r1⟩ := hx1
              cases c with
              | true =>
                have hJ := HCJ.out.1 rfl
                obtain ⟨ha0, ha1, _⟩ := hxj
                have ha2 := ha1 hJ
                obtain ⟨m, hm⟩ : ∃ m : Nat, x.a = m := ⟨x.a.toNat, by omega⟩
                have hml : m < C.length := by omega
                have HTR : Hid (trimOp l x = ⟨x.kind, keepN l m⟩) := by unfold Hid trimOp; rw [if_pos hJ, hm]; rfl
                rw [hm] at r0
                obtain ⟨t, hrt, htl2, hti⟩ := HTI.out.tt
                obtain ⟨d0, _, _⟩ := (hrt.ext HE6.out).at (k := m) (by omega)
                rw [hti m hml] at d0
                clear hJ ha0 ha1 ha2 hti
                go_wp2_with fail
                go_meet
                rw [HTR.out]
                exact ⟨rfl, Cx.other ⟨q0, q1⟩ (.inr (by omega)) _, Cx.set ⟨r0, r1⟩ _, HTI.out.ext' (HE6.out.setCell (p := ⟨bx, 1, none⟩) (by show wx0.heap.size ≤ bx; omega) _)⟩
              | false =>
                have hJ : ¬ (x.kind = 9 ∨ x.kind = 10) := fun h => by have := HCJ.out.2 h; cases this
                have HTR : Hid (trimOp l x = x) := by unfold Hid trimOp; rw [if_neg hJ]
                clear hJ
                go_wp2_with fail
                go_meet
                rw [HTR.out]
                exact ⟨rfl, ⟨q0, q1⟩, ⟨r0, r1⟩, HTI.out.ext' HE6.out⟩
            case rest =>
              obtain ⟨rfl, hy0, hy1, hti2⟩ := hcut
              clear hx0 hx1 HTI HE6 hxj hs6 HCJ
              rename World => w7
              have HT2 := Lib.hid hti2
              have Y0 := Lib.hid hy0
              have Y1 := Lib.hid hy1
              clear hti2
              generalize trimOp l x = y at *
              have g0 := Ext.cell HT2.out.ext X0.out
              obtain ⟨q0, q1⟩ := hy0
              obtain ⟨r0, r1⟩ := hy1
              obtain ⟨⟨c0, c0'⟩, ⟨c1, c1'⟩⟩ := (⟨HT2.out.c0, HT2.out.c1⟩ : _ ∧ _)
              obtain ⟨vr, hcr, hrow⟩ := HT2.out.c2
              have HC2 := Lib.hid hcr
              obtain ⟨c2, c2'⟩ := hcr
              obtain ⟨ar, capr, rfl, _, _⟩ := hrow.shape
              have HROW := Lib.hid hrow
              clear X0
              generalize l.getD k 0 = hgt at *
              by_cases h0 : 0 ≤ hgt
              · have T0 : decide (0 ≤ hgt) = true := by simpa using h0
                have HACC2 := Lib.hid (HPUT.out h0)
                have HSZ7 : Hid ((w7.alloc (.cells #[.int .i64 y.kind, .int .i64 y.a] 58)).heap.size = w7.heap.size + 1) := Array.size_push _
                have HSZ8 : Hid (wr.heap.size + 1 ≤ w7.heap.size) := by unfold Hid; have := HT2.out.size; omega
                have HB10 : Hid (w2.heap.size ≤ wr.heap.size) := HB.out.size
                have HG10 : Hid (w2.heap.size < wr.heap.size) := HG1.out (by omega)
                clear h0 HSKIP HPUT hrow
                go_wp2_with (first
                  | (at_builtin; refine wpList_append_row rfl _ _ 23 rfl (wr.heap.size + 1) 58 o0 (.agg #[.int .i64 0, .int .i64 0]) 2 16 Try.underlying23 ho0 hoz0 hoz1 hoz2 rfl (by decide) _ _ _ rfl (by exact HROW.out.ext ((Ext.refl _).alloc _) (by decide)) 1 (opF y) (src_op _ _ _) (by unfold maxLen; omega) (by omega) (by rw [HSZ7.out]; exact Nat.le_succ_of_le HSZ8.out) ?_; intro v1 Wv1 rv1; obtain ⟨a1, cap1, rfl, _, _⟩ := rv1.1.shape; have HG := Lib.hid (HT2.out.grow HB10.out HG10.out ((Ext.refl _).alloc _) HC2.out HROW.out rv1); obtain ⟨k20, k21⟩ := HG.out.2))
                go_roundw
                case rel => exact ⟨k + 1, by omega, by go_num, acc ++ [y], by rw [List.append_assoc, List.singleton_append, ← HACC2.out]; exact HACC.out, by rw [List.length_append, List.length_singleton]; omega, HG.out.1⟩
                case measure => simp [intOf]; omega
              · have T0 : decide (0 ≤ hgt) = false := by simpa using h0
                have HACC2 := Lib.hid (HSKIP.out h0)
                clear h0 HSKIP HPUT hrow
                go_wp2_with fail
                go_roundw
                case rel => exact ⟨k + 1, by omega, by go_num, acc, by rw [← HACC2.out]; exact HACC.out, by omega, HT2.out⟩
                case measure => simp [intOf]; omega
        · obtain rfl : k = C.length := by omega
          have hacc' : acc = trimC C l := by have := HACC.out; simpa [trimGo] using this
          subst hacc'
          obtain ⟨⟨c0, c0'⟩, ⟨c1, c1'⟩⟩ := (⟨HTI.out.c0, HTI.out.c1⟩ : _ ∧ _)
          obtain ⟨vr, ⟨c2, c2'⟩, hrow⟩ := HTI.out.c2
          obtain ⟨ar, capr, rfl, _, _⟩ := hrow.shape
          have HROW := Lib.hid hrow
          obtain ⟨d0, d0'⟩ := c40.ext HTI.out.ext
          obtain ⟨d1, d1'⟩ := c41.ext HTI.out.ext
          obtain ⟨d2, d2'⟩ := c42.ext HTI.out.ext
          clear hlt HACC hrow
          go_wp2_with fail
          have e0 := (((Cx.set ⟨d0, d0'⟩ (.int .i64 A)).other (b' := w.heap.size) (j' := 1) (.inr (by decide)) (.int .i64 L)).other (b' := w.heap.size) (j' := 2) (.inr (by decide)) (.slice ar (trimC C l).length capr)).1
          have e1 := (((Cx.other ⟨d1, d1'⟩ (b' := w.heap.size) (j' := 0) (.inr (by decide)) (.int .i64 A)).set (.int .i64 L)).other (b' := w.heap.size) (j' := 2) (.inr (by decide)) (.slice ar (trimC C l).length capr)).1
          have e2 := (((Cx.other ⟨d2, d2'⟩ (b' := w.heap.size) (j' := 0) (.inr (by decide)) (.int .i64 A)).other (b' := w.heap.size) (j' := 1) (.inr (by decide)) (.int .i64 L)).set (.slice ar (trimC C l).length capr)).1
          refine bodyPost_ret (results_cell_mid rfl _ _ w.heap.size 0 _ _ rfl (range3 e0 e1 e2) rfl rfl (by kernel_rfl)) rfl ⟨⟨_, rfl, _, rfl, iA, iL, ?_⟩, ?_⟩
          · have hh := HX.out.size
            have hb2 := HBS.out
            refine Ops.of_row (l := trimC C l) (RowAt.chg (M := (· = w.heap.size)) HROW.out ?_ (fun g e hg => ?_) (by decide)) ?_ (trimGo_i64 l (by omega) C l HOI.out) _ (fun b hb _ => ?_)
            · exact (((chg_one _ _ 0 _).trans (chg_one _ _ 1 _)).trans (chg_one _ _ 2 _))
            · have h1 := HROW.out.le _ e
              omega
            · have : (trimC C l).length ≤ C.length := trimGo_len l C l
              omega
            · show w.heap.size ≤ b
              omega
          · exact (((HX.out.trans HTI.out.ext).setCell (p := ⟨w.heap.size, 0, none⟩) (Nat.le_refl _) _).setCell (p := ⟨w.heap.size, 1, none⟩) (Nat.le_refl _) _).setCell (p := ⟨w.heap.size, 2, none⟩) (Nat.le_refl _) _
end Go.Proofs.Ytpomcbginkhlbaa
