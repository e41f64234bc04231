/- Merged texts: contracts and plain facts, one part behind another; each part begins with what it says. -/
import Derived.Test.YtgahbngbpfilgaaGFAB
import Derived.Test.YtgahbngbpfilgaaGFAH
import Derived.Test.YtgahbngbpfilgaaGFAI
import Derived.Test.YtgahbngbpfilgaaGFAJ
import Derived.Test.YtgahbngbpfilgaaGFAL
import Derived.Test.YtgahbngbpfilgaaGFAN
import Derived.LoopN
section
/- Contracts of the document's forged, ForgeFunc and ForgeProg. No condition. -/
set_option maxHeartbeats 4000000
set_option maxRecDepth 100000
namespace Go.Proofs.Ytgahbngbpfilgaa
open Go Go.RowKit

theorem forged_any (t : ETree) (n : Nat) (ht : t.fits) (ho : t.nodes n) (h9 : t.flat.length ≤ 9) (hn : n ≤ 4) (v : Value) (S : Nat → Prop) (w : World) (hp : Nodes w S v t.flat) :
    Calls Try.prog 58 #[v, .int .i64 n] w fun e w' => (∃ x, e = .returned x ∧ FuncV w' (w.heap.size ≤ ·) x (t.func n)) ∧ Ext w w' := by
  have HI := Lib.hid (func_i64 t ht ho h9 hn)
  have hc := t.cost_le
  have HCL := Lib.hid (show t.cost ≤ 12 by omega)
  have hlaid := laid_any n t ht ho
  have HLA : Hid (∀ w1, Ext w w1 → Calls Try.prog 87 #[v, .int .i64 0] w1 fun e w' => (∃ v1 v2, e = .returned (.tuple #[v1, v2]) ∧ RowAt w' w1.heap.size 2 v1 t.cost ((t.laid 0).flatMap opF) ∧ Nodes w' S v2 []) ∧ Ext w1 w') := fun w1 h =>
    LaidC.call hlaid (rest := []) 0 (by rw [List.append_nil]; exact Nodes.stays h.stays hp) (by omega)
  obtain ⟨a, cap, rfl, _, _, _⟩ := hp
  have RA := alloc_keep
  obtain ⟨o0, ho0, hoz0, hoz1, hoz2⟩ := info_parts infoO
  have hE1 : Ext w (w.alloc (.cells #[.int .i64 0, .int .i64 0, .slice none 0 0] 43)) := (Ext.refl w).alloc _
  have hs1 : (w.alloc (.cells #[.int .i64 0, .int .i64 0, .slice none 0 0] 43)).heap.size = w.heap.size + 1 := Array.size_push _
  have r0 := Cx.new w [.int .i64 0, .int .i64 0, .slice none 0 0] 43 (j := 0) rfl
  have r1 := Cx.new w [.int .i64 0, .int .i64 0, .slice none 0 0] 43 (j := 1) rfl
  have r2 := Cx.new w [.int .i64 0, .int .i64 0, .slice none 0 0] 43 (j := 2) rfl
  have HR := Lib.hid (⟨r0, r1, r2⟩ : _ ∧ _ ∧ _)
  have HE1 := Lib.hid hE1
  have HS1 := Lib.hid hs1
  clear hc hlaid hE1 hs1 r0 r1 r2 ht ho h9
  go_enter Try.func58, Try.ntmps58
  go_upto_region 2 with (first
    | (go_at_call 87; (with_reducible refine (HLA.out _ HE1.out).mono ?_); rintro e w2 ⟨⟨v1, v2, rfl, hrow, hv2⟩, hb2⟩))
  rw [HS1.out] at hrow
  obtain ⟨a1, c1, rfl, hc1, _⟩ := hrow.shape
  obtain ⟨b2, c2, rfl, _, _, _⟩ := hv2
  have HROW := Lib.hid hrow
  have HB2 := Lib.hid hb2
  have hsz2 : w.heap.size + 1 ≤ w2.heap.size := by have := hb2.size; have := HS1.out; omega
  obtain ⟨L, hL⟩ : ∃ L, t.cost + 1 = L := ⟨_, rfl⟩
  have HLL := Lib.hid hL
  clear hrow hb2 hL
  obtain ⟨d0, d0'⟩ := (HR.out.1).ext HB2.out
  obtain ⟨d1, d1'⟩ := (HR.out.2.1).ext HB2.out
  obtain ⟨d2, d2'⟩ := (HR.out.2.2).ext HB2.out
  go_wp2_with (first
    | (at_builtin; refine wpList_append_row rfl _ _ 41 rfl (w.heap.size + 1) 110 o0 (.agg #[.int .i64 0, .int .i64 0]) 2 16 Try.underlying41 ho0 hoz0 hoz1 hoz2 rfl (by decide) _ _ _ rfl (by exact HROW.out.ext ((Ext.refl _).alloc _) (by decide)) 1 (opF ⟨12, 0⟩) (src_op _ ⟨12, 0⟩ _) (by have := HCL.out; unfold maxLen; omega) (by have := HCL.out; omega) (by simp; omega) ?_; intro v3 W3w rv3; rw [HLL.out] at rv3; obtain ⟨a3, c3, rfl, _, _⟩ := rv3.1.shape; have rv4 : NewRow (w2.alloc (.cells #[.int .i64 12, .int .i64 0] 110)) W3w (w.heap.size + 1) 2 (.slice a1 t.cost c1) (.slice a3 L c3) L ((t.laid 0).flatMap opF ++ opF ⟨12, 0⟩) := rv3; have hM : ∀ q, rowBlock (.slice a1 t.cost c1) = some q → w.heap.size + 1 ≤ q := HROW.out.le; have hq3 : Ext w2 (w2.alloc (.cells #[.int .i64 12, .int .i64 0] 110)) := (Ext.refl w2).alloc _; obtain ⟨f0, f0'⟩ := (Cx.ext ⟨d0, d0'⟩ hq3).chg rv4.2.1 (fun e => by have := hM _ e; omega); obtain ⟨f1, f1'⟩ := (Cx.ext ⟨d1, d1'⟩ hq3).chg rv4.2.1 (fun e => by have := hM _ e; omega); obtain ⟨f2, f2'⟩ := (Cx.ext ⟨d2, d2'⟩ hq3).chg rv4.2.1 (fun e => by have := hM _ e; omega); have HE3 := Lib.hid (Chg.ext_from (w := w) ((HE1.out.trans HB2.out).trans hq3) rv4.2.1 (fun q e => by have := hM _ e; omega)); have RV := Lib.hid rv4.1; clear rv3 rv4 hM hq3))
  refine bodyPost_ret (results_cell_mid rfl _ _ w.heap.size 0 _ _ rfl (box3 ⟨f0, f0'⟩ ⟨f1, f1'⟩ ⟨f2, f2'⟩ _ _ _) rfl rfl (by kernel_rfl)) rfl ?_
  refine ⟨⟨_, rfl, _, rfl, I64.small (by show (-1000000 : Int) ≤ n; omega) (by show (n : Int) ≤ 1000000; omega), I64.small (by show (-1000000 : Int) ≤ n; omega) (by show (n : Int) ≤ 1000000; omega), ?_⟩, ext3 HE3.out _ _ _⟩
  have hcl : (t.func n).code.length = L := by unfold ETree.func; simp only [List.length_append, t.laid_len, List.length_singleton]; exact HLL.out
  have hcf : (t.func n).code.flatMap opF = (t.laid 0).flatMap opF ++ opF ⟨12, 0⟩ := by unfold ETree.func; rw [List.flatMap_append, List.flatMap_singleton]
  have hrw : RowAt W3w (w.heap.size + 1) 2 (.slice a3 L c3) (t.func n).code.length ((t.func n).code.flatMap opF) := by rw [hcl, hcf]; exact RV.out
  refine Ops.of_row (l := (t.func n).code) (RowAt.chg (M := (· = w.heap.size)) hrw (chg3 _ _ _ _ _) (fun g e hg => ?_) (by decide)) (by have := HCL.out; have := HLL.out; omega) HI.out _ (fun b hb _ => ?_)
  · have h1 := hrw.le _ e
    omega
  · show w.heap.size ≤ b
    omega

theorem forgeFuncOf_any (es : List GNode) (locals : Int) (v : Value) (S : Nat → Prop) (w : World) (hp : Nodes w S v es) :
    Calls Try.prog 20 #[v, .int .i64 locals] w fun e w' => (∃ x, e = .returned (.tuple #[x, .int .i64 (exprErr es locals)]) ∧ FuncV w' (w.heap.size ≤ ·) x (forgeFn es locals)) ∧ Ext w w' := by
  have HP := Lib.hid hp
  obtain ⟨a, cap, rfl, _, _, _⟩ := hp
  have b0 := Cx.new w [.int .i64 0, .int .i64 0, .slice none 0 0] 43 (j := 0) rfl
  have b1 := Cx.new w [.int .i64 0, .int .i64 0, .slice none 0 0] 43 (j := 1) rfl
  have b2 := Cx.new w [.int .i64 0, .int .i64 0, .slice none 0 0] 43 (j := 2) rfl
  obtain ⟨e0, e0'⟩ := b0
  obtain ⟨e1, e1'⟩ := b1
  obtain ⟨e2, e2'⟩ := b2
  by_cases h0 : exprErr es locals = 0
  · obtain ⟨t, ht, he, htr, h9, hl0, hl4, ho⟩ := exprErr_tree h0
    obtain ⟨n, rfl⟩ : ∃ n : Nat, locals = n := ⟨locals.toNat, by omega⟩
    rw [Int.toNat_natCast] at ho
    have HT : Hid (forgeFn es (n : Int) = t.func n) := by unfold Hid forgeFn; rw [if_pos h0, htr]
    have H0 := Lib.hid h0
    have HOF := Lib.hid (fun (w' : World) (h : Ext w w') => forged_any t n ht ho h9 (by omega) (.slice a es.length cap) S w' (by rw [← he]; exact Nodes.stays h.stays HP.out))
    clear h0 he htr ho h9 ht hl0 hl4
    go_enter Try.func20, Try.ntmps20
    go_wp2_with (first
      | (go_at_call 58; (with_reducible refine (HOF.out _ ((Ext.refl w).alloc _)).mono ?_); rintro e w3 ⟨⟨x, rfl, hx⟩, hb3⟩; have HX := Lib.hid hx; obtain ⟨s, rfl, ix, iy, hops⟩ := hx; obtain ⟨⟨d0, d0'⟩, ⟨d1, d1'⟩, ⟨d2, d2'⟩⟩ := (⟨Cx.ext ⟨e0, e0'⟩ hb3, Cx.ext ⟨e1, e1'⟩ hb3, Cx.ext ⟨e2, e2'⟩ hb3⟩ : _ ∧ _ ∧ _); have HB3 := Lib.hid hb3; obtain ⟨sa, cs, rfl, _, _, _⟩ := (⟨hops, trivial⟩ : _ ∧ True).1; clear hb3 hops)
      | (go_at_call 57; (with_reducible refine (exprError_any es _ S n _ (Nodes.stays (Ext.stays ((Ext.refl w).alloc _)) HP.out)).mono ?_); rintro e w2 ⟨rfl, rfl⟩; rw [H0.out]))
    refine bodyPost_ret (results_cell2 rfl _ _ w.heap.size 0 _ _ rfl (box3 ⟨d0, d0'⟩ ⟨d1, d1'⟩ ⟨d2, d2'⟩ _ _ _) rfl rfl (by kernel_rfl)) rfl ?_
    refine ⟨⟨_, by rw [H0.out]; rfl, ?_⟩, ext3 (((Ext.refl w).alloc _).trans HB3.out) _ _ _⟩
    rw [HT.out]
    have hs : (w.alloc (.cells #[.int .i64 0, .int .i64 0, .slice none 0 0] 43)).heap.size = w.heap.size + 1 := Array.size_push _
    refine FuncV.stays (S := ((w.alloc (.cells #[.int .i64 0, .int .i64 0, .slice none 0 0] 43)).heap.size ≤ ·)) (fun b o v hb hc => ?_) HX.out
    have hb : w.heap.size + 1 ≤ b := by rw [← hs]; exact hb
    exact ⟨(chg3 _ _ _ _ _).cell (by show ¬ b = w.heap.size; omega) hc, by show w.heap.size ≤ b; omega⟩
  · have HT : Hid (forgeFn es locals = ⟨0, 0, []⟩) := by unfold Hid forgeFn; rw [if_neg h0]
    obtain ⟨r, hr⟩ : ∃ r, exprErr es locals = r := ⟨_, rfl⟩
    rw [hr] at h0
    have HR := Lib.hid hr
    clear hr
    have TB : (r != 0) = true := bne_iff_ne.2 h0
    clear h0
    go_enter Try.func20, Try.ntmps20
    go_wp2_with (first
      | (go_at_call 57; (with_reducible refine (exprError_any es _ S locals _ (Nodes.stays (Ext.stays ((Ext.refl w).alloc _)) HP.out)).mono ?_); rintro e w2 ⟨rfl, rfl⟩; rw [HR.out]))
    refine bodyPost_ret (results_cell2 rfl _ _ w.heap.size 0 _ _ rfl (range3 e0 e1 e2) rfl rfl (by kernel_rfl)) rfl ?_
    refine ⟨⟨_, by rw [HR.out]; rfl, ?_⟩, (Ext.refl w).alloc _⟩
    rw [HT.out]
    exact ⟨_, rfl, I64.small (by decide) (by decide), I64.small (by decide) (by decide), Sl.nil _ _ _⟩

theorem NewRow.cast {w w' : World} {b s n n' : Nat} {v v' : Value} {xs xs' : List Value} (h : NewRow w w' b s v v' n xs) (hn : n' = n) (hx : xs' = xs) : NewRow w w' b s v v' n' xs' := by
  subst hn hx
  exact h
/-- Two ops in a new block. -/
theorem src_ops (w : World) (y z : GOp) (t : TypeId) : SrcSl (w.alloc (.cells #[.int .i64 y.kind, .int .i64 y.a, .int .i64 z.kind, .int .i64 z.a] t)) 2 (.slice (some ⟨w.heap.size, 0, none⟩) 2 2) 2 (opF y ++ opF z) := by
  refine ⟨_, 2, rfl, rfl, by simp [opF, Value.oneCell'], .inr ⟨_, rfl, fun j u hj => ?_⟩⟩
  match j, hj with
  | 0, hj => cases hj; rw [Addr.add_zero']; exact World.cell?_alloc_new w _ _ 0
  | 1, hj => cases hj; exact World.cell?_alloc_new w _ _ 1
  | 2, hj => cases hj; exact World.cell?_alloc_new w _ _ 2
  | 3, hj => cases hj; exact World.cell?_alloc_new w _ _ 3

/-- The first function, its ops one by one. -/
structure MainS (w : World) (b : Nat) (c : List GOp) (v : Value) : Prop where
  c0 : Cx w b 0 (.int .i64 0)
  c1 : Cx w b 1 (.int .i64 0)
  c2 : Cx w b 2 v
  row : RowAt w (b + 1) 2 v c.length (c.flatMap opF)
theorem MainS.ext {w w' : World} {b : Nat} {c : List GOp} {v : Value} (h : MainS w b c v) (he : Ext w w') : MainS w' b c v := ⟨h.c0.ext he, h.c1.ext he, h.c2.ext he, h.row.ext he (by decide)⟩
theorem MainS.grow {w W7 W8 : World} {b n : Nat} {c c' : List GOp} {v v1 : Value} (h : MainS w b c v) (he : Ext w W7) (hn : NewRow W7 W8 (b + 1) 2 v v1 c'.length (c'.flatMap opF)) (hb : n ≤ b) :
    MainS (W8.setCell ⟨b, 2, none⟩ v1) b c' v1 ∧ Cx W8 b 2 v ∧ ∀ w0, w0.heap.size = n → Ext w0 w → Ext w0 (W8.setCell ⟨b, 2, none⟩ v1) := by
  have hM := h.row.le
  obtain ⟨n1, hch, _⟩ := hn
  have k0 := (h.c0.ext he).chg hch (fun e => by have := hM _ e; omega)
  have k1 := (h.c1.ext he).chg hch (fun e => by have := hM _ e; omega)
  have k2 := (h.c2.ext he).chg hch (fun e => by have := hM _ e; omega)
  refine ⟨⟨k0.other (.inr (by decide)) _, k1.other (.inr (by decide)) _, k2.set _, n1.chg (chg_one W8 b 2 v1) (fun q e hq => by have := n1.le _ e; omega) (by decide)⟩, k2, fun w0 h0 h1 => ?_⟩
  exact (Chg.ext_from (h1.trans he) hch (fun q e => by have := hM _ e; omega)).setCell (p := ⟨b, 2, none⟩) (by show w0.heap.size ≤ b; omega) _

theorem forgeProgOf_any (es : List GNode) (vals : List Int) (v vv : Value) (S : Nat → Prop) (w : World) (hp : Nodes w S v es) (hv : Ints w S vv vals) :
    Calls Try.prog 21 #[v, vv] w fun e w' => (∃ x, e = .returned (.tuple #[x, .int .i64 (forgeErr es vals)]) ∧ Funcs w' (w.heap.size ≤ ·) x (forgePr es vals)) ∧ Ext w w' := by
  have HP := Lib.hid hp
  have HV := Lib.hid hv
  obtain ⟨a, cap, rfl, _, _, _⟩ := hp
  obtain ⟨va, vcap, rfl, _, _, _⟩ := hv
  have RA := alloc_keep
  obtain ⟨o0, ho0, hoz0, hoz1, hoz2⟩ := info_parts infoO
  by_cases h0 : exprErr es vals.length = 0
  · have H0 := Lib.hid h0
    obtain ⟨t, ht, he, htr, h9, hl0, hl4, ho⟩ := exprErr_tree h0
    rw [Int.toNat_natCast] at ho
    have hv4 : vals.length ≤ 4 := by omega
    have HOF := Lib.hid (fun (w' : World) (h : Ext w w') => forged_any t vals.length ht ho h9 (by omega) (.slice a es.length cap) S w' (by rw [← he]; exact Nodes.stays h.stays HP.out))
    have HF3 : Hid ((∃ v ∈ vals, ¬ (0 ≤ v ∧ v ≤ 999)) → forgeErr es vals = 3 ∧ forgePr es vals = []) := fun hex => by
      have e : forgeErr es vals = 3 := by unfold forgeErr; rw [if_neg (fun h => h h0), if_pos hex]
      refine ⟨e, ?_⟩
      unfold forgePr
      rw [e, if_neg (by decide)]
    have HF0 : Hid ((∀ v ∈ vals, 0 ≤ v ∧ v ≤ 999) → forgeErr es vals = 0 ∧ forgePr es vals = [mainF vals, t.func vals.length]) := fun hall => by
      have e : forgeErr es vals = 0 := by unfold forgeErr; rw [if_neg (fun h => h h0), if_neg (fun ⟨v, hv, h⟩ => h (hall v hv))]
      refine ⟨e, ?_⟩
      unfold forgePr
      rw [e, if_pos rfl, htr]
    clear h0 he htr ho h9 ht hl0 hl4
    go_enter Try.func21, Try.ntmps21
    go_upto_region 5 with (first
      | (go_at_call 57; (with_reducible refine (exprError_any es _ S vals.length _ HP.out).mono ?_); rintro e w2 ⟨rfl, rfl⟩; rw [H0.out]))
    have hm0 : MainS (w.alloc (.cells #[.int .i64 0, .int .i64 0, .slice none 0 0] 43)) w.heap.size ((vals.take 0).map pushO) (.slice none 0 0) :=
      ⟨Cx.new w [.int .i64 0, .int .i64 0, .slice none 0 0] 43 (j := 0) rfl, Cx.new w [.int .i64 0, .int .i64 0, .slice none 0 0] 43 (j := 1) rfl, Cx.new w [.int .i64 0, .int .i64 0, .slice none 0 0] 43 (j := 2) rfl, RowAt.nil _ _ _ _⟩
    have hE1 : Ext w (w.alloc (.cells #[.int .i64 0, .int .i64 0, .slice none 0 0] 43)) := (Ext.refl w).alloc _
    obtain ⟨R, hR⟩ : ∃ R, w.heap.size = R := ⟨_, rfl⟩
    rw [hR] at hm0 ⊢
    generalize w.alloc (.cells #[.int .i64 0, .int .i64 0, .slice none 0 0] 43) = w1 at *
    have HM0 := Lib.hid hm0
    have HE1 := Lib.hid hE1
    have HRR := Lib.hid hR
    clear hm0 hE1 hR
    go_wp2_with fail
    go_loopw [8] (fun q wr => ∃ k : Nat, k ≤ vals.length ∧ q = .int .i64 k ∧ (∀ i, i < k → 0 ≤ vals.getD i 0 ∧ vals.getD i 0 ≤ 999) ∧ Ext w wr ∧ ∃ vr, MainS wr R ((vals.take k).map pushO) vr) (fun q _ => vals.length - (intOf q).toNat)
    case atStart => exact ⟨0, Nat.zero_le _, rfl, fun i hi => absurd hi (Nat.not_lt_zero _), HE1.out, _, HM0.out⟩
    case round =>
      obtain ⟨k, hk, rfl, hall, hE, vr, hm⟩ := hrel
      have HALL := Lib.hid hall
      have HE := Lib.hid hE
      have KI : IntKind.i64.wrap ((k : Int) + 1) = (k : Int) + 1 := IntWalk.i64_in _ (by omega)
      obtain ⟨ar, cr, rfl, _, _⟩ := hm.row.shape
      have hlen : ((vals.take k).map pushO).length = k := by rw [List.length_map, List.length_take]; omega
      rw [hlen] at hm
      have HM := Lib.hid hm
      obtain ⟨m0, m0'⟩ := hm.c0
      obtain ⟨m1, m1'⟩ := hm.c1
      obtain ⟨m2, m2'⟩ := hm.c2
      have hRl := hm.c0.lt
      have hrow : RowAt wr (R + 1) 2 (.slice ar k cr) k (((vals.take k).map pushO).flatMap opF) := by have h := hm.row; rw [hlen] at h; exact h
      have HROW := Lib.hid hrow
      clear hall hE hm hlen hrow HM0 HE1
      by_cases hlt : k < vals.length
      · obtain ⟨bw, ow, e2, y00⟩ := Ints.placeOf HV.out hlt
        subst e2
        have hbw : bw < R := by have := lt_of_cell y00; have := HRR.out; omega
        have y0 := Ext.cell HE.out y00
        clear y00
        have HTK := Lib.hid (take_push vals hlt)
        have HMEM : Hid (vals.getD k 0 ∈ vals) := by
          unfold Hid
          rw [show vals.getD k 0 = vals[k] by simp [List.getD, List.getElem?_eq_getElem hlt]]
          exact List.getElem_mem _
        obtain ⟨u, hu⟩ : ∃ u, vals.getD k 0 = u := ⟨_, rfl⟩
        rw [hu] at y0 HTK HMEM
        have HU := Lib.hid hu
        clear hu
        by_cases hin : 0 ≤ u ∧ u ≤ 999
        · have TW : Hid (decide (0 ≤ u ∧ u ≤ 999) = true) := decide_eq_true hin
          have HC1 : Hid (((vals.take (k + 1)).map pushO).length = k + 1) := by unfold Hid; rw [List.length_map, List.length_take]; omega
          have HC2 : Hid (((vals.take (k + 1)).map pushO).flatMap opF = ((vals.take k).map pushO).flatMap opF ++ opF ⟨0, u⟩) := by unfold Hid; rw [HTK.out, List.flatMap_append, List.flatMap_singleton]
          have HALL2 : Hid (∀ i, i < k + 1 → 0 ≤ vals.getD i 0 ∧ vals.getD i 0 ≤ 999) := fun i hi => by
            by_cases e : i = k
            · rw [e, HU.out]; exact hin
            · exact HALL.out i (by omega)
          clear hin
          go_upto_region 10 with (first
            | (go_at_call 33; (with_reducible refine (within_any _ _ _ _).mono ?_); rintro e w2 ⟨rfl, rfl⟩; rw [TW.out]))
          refine wp_region_rt (fun w' => w'.cell? ⟨R, 2, none⟩ = some (.slice ar k cr) ∧ w'.cell? ⟨bw, ow + k, none⟩ = some (.int .i64 u)) 10 [0, 1, 2, 3, 4, 5, 6] [7, 8, 9, 10] (by kernel_rfl) (by kernel_rfl) (fun _ _ _ _ _ h => h) (by refine ⟨?_, ?_⟩ <;> simpa) ?_
          (try simp only [pickOps, List.filterMap_cons, List.filterMap_nil, List.getElem?_cons_zero, List.getElem?_cons_succ])
          repeat (
            refine readsQ_do (by rfl) ?_
            apply Exists.intro
            refine ⟨fun w' hw' => ?_, ?_⟩
            focus
              (try dsimp only at hw')
              go_split_ands
              go_simp
              (try with_reducible rfl)
            (try dsimp only [Act.put])
            (try simp only [List.setIfInBounds_toArray, List.set_cons_succ, List.set_cons_zero]))
          refine readsQ_nil ?_
          refine tailW_step ?_
          go_wp2_with fail
          refine nextW_go (by constructor <;> simp [*]) ?_
          refine tailW_step ?_
          go_wp2_with (first
            | (at_builtin; refine wpList_append_row rfl _ _ 41 rfl (R + 1) 110 o0 (.agg #[.int .i64 0, .int .i64 0]) 2 16 Try.underlying41 ho0 hoz0 hoz1 hoz2 rfl (by decide) _ _ _ rfl (by exact HROW.out.ext (by ((repeat (first | assumption | exact Ext.refl _ | (exact And.left (by assumption)) | refine Ext.alloc ?_ _ | refine Ext.drew ?_ | refine Ext.drewN ?_ _ | refine Ext.setCell ?_ (by simp) _ | refine Ext.setCell ?_ (by simp; omega) _ | refine Ext.trans ?_ (by assumption))); done)) (by decide)) 1 (opF ⟨0, u⟩) (src_op _ ⟨0, u⟩ _) (by unfold maxLen; omega) (by omega) (by exact Nat.le_trans hRl (Ext.size (show Ext wr _ by ((repeat (first | assumption | exact Ext.refl _ | (exact And.left (by assumption)) | refine Ext.alloc ?_ _ | refine Ext.drew ?_ | refine Ext.drewN ?_ _ | refine Ext.setCell ?_ (by simp) _ | refine Ext.setCell ?_ (by simp; omega) _ | refine Ext.trans ?_ (by assumption))); done)))) ?_; intro v1 Wv1 rv1; have RV := Lib.hid rv1; obtain ⟨a9, cap9, rfl, _, _⟩ := rv1.1.shape; clear rv1))
          have hq7 : Ext wr (wr.alloc (.cells #[.int .i64 0, .int .i64 u] 110)).drew := ((Ext.refl _).alloc _).drew
          have RV2 : NewRow (wr.alloc (.cells #[.int .i64 0, .int .i64 u] 110)).drew Wv1 (R + 1) 2 (.slice ar k cr) (.slice a9 (k + 1) cap9) ((vals.take (k + 1)).map pushO).length (((vals.take (k + 1)).map pushO).flatMap opF) := by rw [HC1.out, HC2.out]; exact RV.out
          have HG := Lib.hid (MainS.grow (n := w.heap.size) HM.out hq7 RV2 (by have := HRR.out; omega))
          obtain ⟨k2, k2'⟩ := HG.out.2.1
          have y1 := Chg.cell RV2.2.1 (fun e => by have := HROW.out.le _ e; omega) (Ext.cell hq7 y0)
          clear RV RV2 hq7
          refine nextW_go (by exact ⟨k2, y1⟩) ?_
          refine tailW_step ?_
          go_wp2_with fail
          refine nextW_go (by exact ⟨k2, y1⟩) ?_
          refine tailW_step ?_
          go_wp2_with fail
          refine nextW_end ?_
          go_wp2_with fail
          go_roundw
          case rel => exact ⟨k + 1, by omega, by go_num, HALL2.out, HG.out.2.2 w rfl HE.out, _, HG.out.1⟩
          case measure => simp [intOf]; omega
        · have TW : Hid (decide (0 ≤ u ∧ u ≤ 999) = false) := decide_eq_false hin
          have HF := Lib.hid (HF3.out ⟨u, HMEM.out, hin⟩)
          clear hin
          go_wp2_with (first
            | (go_at_call 33; (with_reducible refine (within_any _ _ _ _).mono ?_); rintro e w2 ⟨rfl, rfl⟩; rw [TW.out]))
          go_ret2
          rw [HF.out.1, HF.out.2]
          exact ⟨⟨_, rfl, Sl.nil _ _ _⟩, HE.out⟩
      · obtain rfl : k = vals.length := by omega
        have hallv : ∀ v ∈ vals, 0 ≤ v ∧ v ≤ 999 := fun v hv => by
          obtain ⟨i, hi, e⟩ := List.getElem_of_mem hv
          have := HALL.out i hi
          rw [show vals.getD i 0 = vals[i] by simp [List.getD, List.getElem?_eq_getElem hi], e] at this
          exact this
        have HFF := Lib.hid (HF0.out hallv)
        have HMI := Lib.hid (main_i64 hallv)
        have HC1 : Hid ((mainF vals).code.length = vals.length + 2) := by unfold Hid mainF; simp
        have HC2 : Hid ((mainF vals).code.flatMap opF = ((vals.take vals.length).map pushO).flatMap opF ++ (opF ⟨11, 1⟩ ++ opF ⟨12, 0⟩)) := by
          unfold Hid mainF
          rw [List.take_length, List.flatMap_append]
          rfl
        clear hallv hlt
        go_upto_region 12 with (first
          | (at_builtin; refine wpList_append_row rfl _ _ 41 rfl (R + 1) 110 o0 (.agg #[.int .i64 0, .int .i64 0]) 2 16 Try.underlying41 ho0 hoz0 hoz1 hoz2 rfl (by decide) _ _ _ rfl (by exact HROW.out.ext ((Ext.refl _).alloc _) (by decide)) 2 (opF ⟨11, 1⟩ ++ opF ⟨12, 0⟩) (src_ops _ ⟨11, 1⟩ ⟨12, 0⟩ _) (by unfold maxLen; omega) (by omega) (by exact Nat.le_trans hRl (Ext.size (show Ext wr _ by ((repeat (first | assumption | exact Ext.refl _ | (exact And.left (by assumption)) | refine Ext.alloc ?_ _ | refine Ext.drew ?_ | refine Ext.drewN ?_ _ | refine Ext.setCell ?_ (by simp) _ | refine Ext.setCell ?_ (by simp; omega) _ | refine Ext.trans ?_ (by assumption))); done)))) ?_; intro v1 Wv1 rv1; obtain ⟨a9, cap9, rfl, _, _⟩ := rv1.1.shape; have RV2 : NewRow (wr.alloc (.cells #[.int .i64 11, .int .i64 1, .int .i64 12, .int .i64 0] 110)) Wv1 (R + 1) 2 (.slice ar vals.length cr) (.slice a9 (vals.length + 2) cap9) (mainF vals).code.length ((mainF vals).code.flatMap opF) := NewRow.cast rv1 HC1.out HC2.out; have HG := Lib.hid (MainS.grow (n := w.heap.size) HM.out ((Ext.refl _).alloc _) RV2 (by have := HRR.out; omega)); obtain ⟨k2, k2'⟩ := HG.out.2.1; clear rv1 RV2))
        have HE7 := Lib.hid (HG.out.2.2 w rfl HE.out)
        obtain ⟨L, hL⟩ : ∃ L, vals.length + 2 = L := ⟨_, rfl⟩
        rw [hL] at HG HE7 ⊢
        have HLL := Lib.hid hL
        have HM7 := Lib.hid HG.out.1
        generalize Wv1.setCell ⟨R, 2, none⟩ (.slice a9 L cap9) = w7 at *
        obtain ⟨x0, x0'⟩ := HM7.out.c0
        obtain ⟨x1, x1'⟩ := HM7.out.c1
        obtain ⟨x2, x2'⟩ := HM7.out.c2
        have hops : Ops w7 (w.heap.size ≤ ·) (.slice a9 L cap9) (mainF vals).code := Ops.of_row HM7.out.row (by rw [HC1.out]; omega) HMI.out _ (fun b hb _ => by show w.heap.size ≤ b; have := HRR.out; omega)
        have HOP := Lib.hid hops
        clear hops hL HG k2 k2' HM HROW HALL HMI HC2 m0 m0' m1 m1' m2 m2'
        refine wp_region_rt (fun w' => w'.cell? ⟨R, 0, none⟩ = some (.int .i64 0) ∧ w'.cell? ⟨R, 1, none⟩ = some (.int .i64 0) ∧ w'.cell? ⟨R, 2, none⟩ = some (.slice a9 L cap9)) 7 [0, 1, 2, 3] [4, 5, 6, 7] (by kernel_rfl) (by kernel_rfl) (fun _ _ _ _ _ h => h) (by refine ⟨?_, ?_, ?_⟩ <;> simpa) ?_
        (try simp only [pickOps, List.filterMap_cons, List.filterMap_nil, List.getElem?_cons_zero, List.getElem?_cons_succ])
        repeat (
          refine readsQ_do (by rfl) ?_
          apply Exists.intro
          refine ⟨fun w' hw' => ?_, ?_⟩
          focus
            (try dsimp only at hw')
            go_split_ands
            go_simp
            (try with_reducible rfl)
          (try dsimp only [Act.put])
          (try simp only [List.setIfInBounds_toArray, List.set_cons_succ, List.set_cons_zero]))
        refine readsQ_nil ?_
        refine tailW_step ?_
        go_wp2_with (first
          | (go_at_call 58; (with_reducible refine (HOF.out _ (HE7.out.trans (Ext.refl _).drew)).mono ?_); rintro e w8 ⟨⟨x, rfl, hx⟩, hb8⟩; have HX := Lib.hid hx; obtain ⟨s, rfl, ix, iy, hops⟩ := hx; obtain ⟨sa, cs, rfl, _, _, _⟩ := (⟨hops, trivial⟩ : _ ∧ True).1))
        have hE78 : Ext w7 w8 := ((Ext.refl w7).drew).trans hb8
        refine nextW_go (by exact ⟨Ext.cell hE78 x0, Ext.cell hE78 x1, Ext.cell hE78 x2⟩) ?_
        refine tailW_step ?_
        go_wp2_with fail
        have hgl := hb8.size
        have hw7 := HE7.out.size
        have hg8 : w.heap.size ≤ w8.heap.size := by have : w7.drew.heap.size = w7.heap.size := rfl; omega
        have hq9 : Ext w8 (w8.alloc (.cells #[.int .i64 0, .int .i64 0, .slice a9 L cap9, .int .i64 (t.func vals.length).args, .int .i64 (t.func vals.length).locals, .slice sa (t.func vals.length).code.length cs] 43)) := (Ext.refl _).alloc _
        have n0 := (Cx.new w8 [.int .i64 0, .int .i64 0, .slice a9 L cap9, .int .i64 (t.func vals.length).args, .int .i64 (t.func vals.length).locals, .slice sa (t.func vals.length).code.length cs] 43 (j := 0) rfl).1
        have n1 := (Cx.new w8 [.int .i64 0, .int .i64 0, .slice a9 L cap9, .int .i64 (t.func vals.length).args, .int .i64 (t.func vals.length).locals, .slice sa (t.func vals.length).code.length cs] 43 (j := 1) rfl).1
        have n2 := (Cx.new w8 [.int .i64 0, .int .i64 0, .slice a9 L cap9, .int .i64 (t.func vals.length).args, .int .i64 (t.func vals.length).locals, .slice sa (t.func vals.length).code.length cs] 43 (j := 2) rfl).1
        have n3 := (Cx.new w8 [.int .i64 0, .int .i64 0, .slice a9 L cap9, .int .i64 (t.func vals.length).args, .int .i64 (t.func vals.length).locals, .slice sa (t.func vals.length).code.length cs] 43 (j := 3) rfl).1
        have n4 := (Cx.new w8 [.int .i64 0, .int .i64 0, .slice a9 L cap9, .int .i64 (t.func vals.length).args, .int .i64 (t.func vals.length).locals, .slice sa (t.func vals.length).code.length cs] 43 (j := 4) rfl).1
        have n5 := (Cx.new w8 [.int .i64 0, .int .i64 0, .slice a9 L cap9, .int .i64 (t.func vals.length).args, .int .i64 (t.func vals.length).locals, .slice sa (t.func vals.length).code.length cs] 43 (j := 5) rfl).1
        generalize (w8.alloc (.cells #[.int .i64 0, .int .i64 0, .slice a9 L cap9, .int .i64 (t.func vals.length).args, .int .i64 (t.func vals.length).locals, .slice sa (t.func vals.length).code.length cs] 43)) = w9 at *
        have hE79 : Ext w7 w9 := hE78.trans hq9
        have hS9 : w9.cell? ⟨R, 0, none⟩ = some (.int .i64 0) ∧ w9.cell? ⟨R, 1, none⟩ = some (.int .i64 0) ∧ w9.cell? ⟨R, 2, none⟩ = some (.slice a9 L cap9) := ⟨Ext.cell hE79 x0, Ext.cell hE79 x1, Ext.cell hE79 x2⟩
        have hF := funcs_two (w := w9) (S := (w.heap.size ≤ ·)) (F := mainF vals) (G := t.func vals.length) hg8 n0 n1 n2 n3 n4 n5 ⟨I64.small (show (-1000000 : Int) ≤ 0 by decide) (show (0 : Int) ≤ 1000000 by decide), I64.small (show (-1000000 : Int) ≤ 0 by decide) (show (0 : Int) ≤ 1000000 by decide)⟩ ⟨ix, iy⟩ (Ops.stays hE79.stays HOP.out)
          (Ops.stays (fun b o v hb hc => ⟨Ext.cell hq9 hc, by show w.heap.size ≤ b; have : w7.drew.heap.size ≤ b := hb; have : w7.drew.heap.size = w7.heap.size := rfl; omega⟩) hops)
        have HF9 := Lib.hid hF
        have HE79 := Lib.hid hE79
        have HS9 := Lib.hid hS9
        clear n0 n1 n2 n3 n4 n5 hF hE79 hops hS9
        refine nextW_go (by exact HS9.out) ?_
        refine tailW_step ?_
        go_wp2_with fail
        refine nextW_go (by exact HS9.out) ?_
        refine tailW_step ?_
        go_wp2_with fail
        refine nextW_end ?_
        go_wp2_with fail
        go_ret2
        rw [HFF.out.1, HFF.out.2]
        exact ⟨⟨_, rfl, HF9.out⟩, HE7.out.trans HE79.out⟩
  · have HF : Hid (forgeErr es vals = exprErr es vals.length ∧ forgePr es vals = []) := by
      have e : forgeErr es vals = exprErr es vals.length := by unfold forgeErr; rw [if_pos h0]
      refine ⟨e, ?_⟩
      unfold forgePr
      rw [e, if_neg h0]
    rw [HF.out.1, HF.out.2]
    obtain ⟨r, hr⟩ : ∃ r, exprErr es vals.length = r := ⟨_, rfl⟩
    rw [hr] at h0 ⊢
    have HR := Lib.hid hr
    have TB : (r != 0) = true := bne_iff_ne.2 h0
    clear h0 hr HF
    go_enter Try.func21, Try.ntmps21
    go_wp2_with (first
      | (go_at_call 57; (with_reducible refine (exprError_any es _ S vals.length _ HP.out).mono ?_); rintro e w2 ⟨rfl, rfl⟩; rw [HR.out]))
    go_ret2
    exact ⟨⟨_, rfl, Sl.nil _ _ _⟩, Ext.refl _⟩
end Go.Proofs.Ytgahbngbpfilgaa
end
section
/- What the program of an expression puts out: plain facts. No condition. -/
set_option maxRecDepth 100000
namespace Go.Proofs.Ytgahbngbpfilgaa
open Go Go.RowKit

/-- One fiber that nobody has resumed; its frames, the last one apart. -/
def stF (fs : List GFrame) (f at_ : Int) (lo st : List Int) : GState := ⟨[⟨fs ++ [⟨f, at_, lo, st⟩], -1⟩], 0, []⟩

theorem modify_end {α : Type} (fs : List α) (x : α) (g : α → α) : (fs ++ [x]).modify fs.length g = fs ++ [g x] := by
  induction fs with
  | nil => rfl
  | cons y fs ih => simp only [List.cons_append, List.length_cons, List.modify_succ_cons, ih]
theorem modTop_st (fs : List GFrame) (f a : Int) (lo st : List Int) (g : GFrame → GFrame) : modTop (stF fs f a lo st) 0 g = ⟨[⟨fs ++ [g ⟨f, a, lo, st⟩], -1⟩], 0, []⟩ := by
  have e := modify_end fs ⟨f, a, lo, st⟩ g
  simp only [modTop, modFib, stF, Int.toNat_zero, List.modify_zero_cons, List.length_append, List.length_singleton, Nat.add_sub_cancel, e]
theorem curF_st (fs : List GFrame) (f a : Int) (lo st : List Int) : curF (stF fs f a lo st) = ⟨fs ++ [⟨f, a, lo, st⟩], -1⟩ := rfl
theorem curX_st (fs : List GFrame) (f a : Int) (lo st : List Int) : curX (stF fs f a lo st) = ⟨f, a, lo, st⟩ := by
  unfold curX
  rw [curF_st]
  simp [topOf, List.getD]
theorem push_st (fs : List GFrame) (f a : Int) (lo st : List Int) (v : Int) : pushG (stF fs f a lo st) 0 v = stF fs f a lo (st ++ [v]) := modTop_st fs f a lo st _
theorem pop_st (fs : List GFrame) (f a : Int) (lo st : List Int) (v : Int) : popG (stF fs f a lo (st ++ [v])) = stF fs f a lo st := by
  unfold popG
  rw [show (stF fs f a lo (st ++ [v])).now = 0 from rfl, modTop_st]
  simp [stF]
theorem last_st (fs : List GFrame) (f a : Int) (lo st : List Int) (v : Int) : lastV (stF fs f a lo (st ++ [v])) = v := by
  unfold lastV
  rw [curX_st]
  simp [List.getD]
theorem adv_st (fs : List GFrame) (f a : Int) (lo st : List Int) : advG (stF fs f a lo st) = stF fs f (a + 1) lo st := modTop_st fs f a lo st _
theorem setAt_st (fs : List GFrame) (f a : Int) (lo st : List Int) (b : Int) : setAtG (stF fs f a lo st) b = stF fs f b lo st := modTop_st fs f a lo st _

theorem done_st {p : List GFunc} {fs : List GFrame} {f k : Int} {lo st : List Int} {x : GOp} (h : (funcOf p f).code.getD k.toNat default = x) : doneG p (stF fs f k lo st) = workG p (stF fs f (k + 1) lo st) x.kind x.a := by
  unfold doneG
  rw [curX_st, adv_st]
  unfold opAt
  rw [h]

/-- So many steps are done. -/
def Goes (p : List GFunc) (n : Nat) (s t : GState) : Prop := ∀ k, runG p (k + n) s = ((runG p k t).1, (runG p k t).2.1 + n, (runG p k t).2.2)
theorem Goes.zero (p : List GFunc) (s : GState) : Goes p 0 s s := fun k => by simp
theorem Goes.step {p : List GFunc} {s t : GState} (h0 : ¬ s.now < 0) (h : doneG p s = (0, t)) : Goes p 1 s t := fun k => by
  rw [runG, if_neg h0, h]
  simp
theorem Goes.trans {p : List GFunc} {n m : Nat} {s t u : GState} (h1 : Goes p n s t) (h2 : Goes p m t u) : Goes p (n + m) s u := fun k => by
  rw [show k + (n + m) = (k + m) + n by omega, h1, h2]
  refine Prod.ext rfl (Prod.ext ?_ rfl)
  simp only
  omega
theorem Goes.st {p : List GFunc} {fs : List GFrame} {f k : Int} {lo st : List Int} {x : GOp} {t : GState} (h : (funcOf p f).code.getD k.toNat default = x) (hw : workG p (stF fs f (k + 1) lo st) x.kind x.a = (0, t)) : Goes p 1 (stF fs f k lo st) t :=
  .step (show ¬ (0 : Int) < 0 by decide) (by rw [done_st h, hw])

theorem reck_same {k : Int} (h : 2 ≤ k ∧ k ≤ 6) (a b : Int) : reckG (k + 2) a b = reckN k a b := by
  unfold reckG reckN truthG
  have : k = 2 ∨ k = 3 ∨ k = 4 ∨ k = 5 ∨ k = 6 := by omega
  rcases this with rfl | rfl | rfl | rfl | rfl <;> simp

theorem work_push (p : List GFunc) (fs : List GFrame) (f a : Int) (lo st : List Int) (v : Int) : workG p (stF fs f a lo st) 0 v = (0, stF fs f a lo (st ++ [v])) := by
  unfold workG
  rw [if_pos rfl, show (stF fs f a lo st).now = 0 from rfl, push_st]
theorem work_load (p : List GFunc) (fs : List GFrame) (f a : Int) (lo st : List Int) (v : Int) : workG p (stF fs f a lo st) 2 v = (0, stF fs f a lo (st ++ [lo.getD v.toNat 0])) := by
  unfold workG
  rw [if_neg (by decide), if_neg (by decide), if_pos rfl, show (stF fs f a lo st).now = 0 from rfl, curX_st, push_st]
theorem work_jump (p : List GFunc) (fs : List GFrame) (f a : Int) (lo st : List Int) (v : Int) : workG p (stF fs f a lo st) 9 v = (0, stF fs f v lo st) := by
  unfold workG
  rw [if_neg (by decide), if_neg (by decide), if_neg (by decide), if_neg (by decide), if_pos rfl, setAt_st]
theorem work_zero (p : List GFunc) (fs : List GFrame) (f a : Int) (lo st : List Int) (c v : Int) : workG p (stF fs f a lo (st ++ [c])) 10 v = (0, stF fs f (if c = 0 then v else a) lo st) := by
  unfold workG
  rw [if_neg (by decide), if_neg (by decide), if_neg (by decide), if_neg (by decide), if_neg (by decide), if_pos rfl, last_st, pop_st, setAt_st]
  by_cases h : c = 0
  · rw [if_pos h, if_pos h]
  · rw [if_neg h, if_neg h]
theorem work_reck (p : List GFunc) (fs : List GFrame) (f a : Int) (lo st : List Int) (c d k : Int) (hk : 4 ≤ k ∧ k ≤ 8) : workG p (stF fs f a lo (st ++ [c] ++ [d])) k 0 = (0, stF fs f a lo (st ++ [reckG k c d])) := by
  unfold workG
  rw [if_neg (by omega), if_neg (by omega), if_neg (by omega), if_neg (by omega), if_neg (by omega), if_neg (by omega), if_neg (by omega), if_neg (by omega), if_neg (by omega), if_neg (by omega), if_neg (by omega), if_neg (by omega)]
  rw [last_st, pop_st, last_st, pop_st, show (stF fs f a lo (st ++ [c] ++ [d])).now = 0 from rfl, push_st]

/-- A tree's ops lay its value upon the stack. -/
theorem tree_goes {p : List GFunc} {f : Int} {code : List GOp} (hcode : (funcOf p f).code = code) (fs : List GFrame) (lo : List Int) : ∀ (t : ETree), t.fits → t.nodes lo.length → ∀ (k : Nat) (st : List Int), Sits code k (t.laid k) →
    ∃ n, n ≤ t.cost ∧ Goes p n (stF fs f k lo st) (stF fs f (k + t.cost : Nat) lo (st ++ [valT lo t]))
  | .leaf x, hf, hn, k, st, hs => by
    refine ⟨1, Nat.le_refl _, ?_⟩
    obtain ⟨⟨_, h1⟩, _⟩ := hs.cons
    have hop : (funcOf p f).code.getD (k : Int).toNat default = ⟨if x.kind = 0 then 0 else 2, x.n⟩ := by rw [hcode, Int.toNat_natCast]; exact h1 _
    have hx : x.kind = 0 ∨ x.kind = 1 := by
      have h := hn x (by simp [ETree.flat])
      have hz : sizeN x.kind = 0 := hf
      unfold sizeN at hz
      split at hz
      · omega
      · split at hz <;> omega
    rcases hx with hx | hx
    · rw [hx, if_pos rfl] at hop
      refine Goes.st hop ?_
      rw [work_push, show valT lo (.leaf x) = x.n by unfold valT; rw [if_pos hx]]
      rfl
    · rw [hx, if_neg (by decide)] at hop
      refine Goes.st hop ?_
      rw [work_load, show valT lo (.leaf x) = lo.getD x.n.toNat 0 by unfold valT; rw [if_neg (by omega), if_pos hx]]
      rfl
  | .two x a b, hf, hn, k, st, hs => by
    obtain ⟨ha, hs⟩ := hs.app
    rw [a.laid_len] at hs
    obtain ⟨hb, hs⟩ := hs.app
    rw [b.laid_len] at hs
    obtain ⟨⟨_, h1⟩, _⟩ := hs.cons
    obtain ⟨n1, l1, g1⟩ := tree_goes hcode fs lo a hf.2.1 hn.two.1 k st ha
    obtain ⟨n2, l2, g2⟩ := tree_goes hcode fs lo b hf.2.2 hn.two.2 (k + a.cost) (st ++ [valT lo a]) hb
    have hop : (funcOf p f).code.getD ((k + a.cost + b.cost : Nat) : Int).toNat default = ⟨x.kind + 2, 0⟩ := by rw [hcode, Int.toNat_natCast]; exact h1 _
    have hk : 2 ≤ x.kind ∧ x.kind ≤ 6 := by
      have h := hn x (by simp [ETree.flat])
      rcases ETree.fits_two hf with h2 | h2 <;> omega
    have g3 : Goes p 1 (stF fs f ((k + a.cost + b.cost : Nat) : Int) lo (st ++ [valT lo a] ++ [valT lo b])) (stF fs f (k + (ETree.two x a b).cost : Nat) lo (st ++ [valT lo (.two x a b)])) := by
      refine Goes.st hop ?_
      rw [work_reck p fs f _ lo st _ _ _ (by simp only; omega), reck_same hk, show ((k + a.cost + b.cost : Nat) : Int) + 1 = ((k + (ETree.two x a b).cost : Nat) : Int) by simp only [ETree.cost]; omega]
      rfl
    exact ⟨n1 + n2 + 1, by simp only [ETree.cost]; omega, (g1.trans g2).trans g3⟩
  | .three x a b c, hf, hn, k, st, hs => by
    obtain ⟨ha, hs⟩ := hs.app
    rw [a.laid_len] at hs
    obtain ⟨⟨_, h1⟩, hs⟩ := hs.cons
    obtain ⟨hb, hs⟩ := hs.app
    rw [b.laid_len] at hs
    obtain ⟨⟨_, h2⟩, hs⟩ := hs.cons
    obtain ⟨n1, l1, g1⟩ := tree_goes hcode fs lo a hf.2.1 hn.three.1 k st ha
    have hop1 : (funcOf p f).code.getD ((k + a.cost : Nat) : Int).toNat default = ⟨10, (thirdAt k a.cost b.cost : Nat)⟩ := by rw [hcode, Int.toNat_natCast]; exact h1 _
    have hop2 : (funcOf p f).code.getD ((k + a.cost + 1 + b.cost : Nat) : Int).toNat default = ⟨9, (thirdAt k a.cost b.cost + c.cost : Nat)⟩ := by rw [hcode, Int.toNat_natCast]; exact h2 _
    have hend : thirdAt k a.cost b.cost + c.cost = k + (ETree.three x a b c).cost := by simp only [thirdAt, ETree.cost]; omega
    by_cases hz : valT lo a = 0
    · obtain ⟨n2, l2, g2⟩ := tree_goes hcode fs lo c hf.2.2.2 hn.three.2.2 (thirdAt k a.cost b.cost) st hs
      have g3 : Goes p 1 (stF fs f ((k + a.cost : Nat) : Int) lo (st ++ [valT lo a])) (stF fs f ((thirdAt k a.cost b.cost : Nat) : Int) lo st) := by
        refine Goes.st hop1 ?_
        rw [work_zero, if_pos hz]
      rw [hend] at g2
      rw [show valT lo (.three x a b c) = valT lo c by rw [valT, if_pos hz]]
      exact ⟨n1 + 1 + n2, by simp only [ETree.cost]; omega, (g1.trans g3).trans g2⟩
    · obtain ⟨n2, l2, g2⟩ := tree_goes hcode fs lo b hf.2.2.1 hn.three.2.1 (k + a.cost + 1) st hb
      have g3 : Goes p 1 (stF fs f ((k + a.cost : Nat) : Int) lo (st ++ [valT lo a])) (stF fs f ((k + a.cost + 1 : Nat) : Int) lo st) := by
        refine Goes.st hop1 ?_
        rw [work_zero, if_neg hz]
        rfl
      have g4 : Goes p 1 (stF fs f ((k + a.cost + 1 + b.cost : Nat) : Int) lo (st ++ [valT lo b])) (stF fs f ((k + (ETree.three x a b c).cost : Nat) : Int) lo (st ++ [valT lo b])) := by
        refine Goes.st hop2 ?_
        rw [work_jump, hend]
      rw [show valT lo (.three x a b c) = valT lo b by rw [valT, if_neg hz]]
      exact ⟨n1 + 1 + n2 + 1, by simp only [ETree.cost]; omega, ((g1.trans g3).trans g2).trans g4⟩

/-- The values are pushed. -/
theorem main_goes {p : List GFunc} (vals : List Int) {r : List GOp} (hcode : (funcOf p 0).code = vals.map (fun v => ⟨0, v⟩) ++ r) : Goes p vals.length (stF [] 0 0 [] []) (stF [] 0 vals.length [] vals) := by
  have key : ∀ (l pre : List Int), vals = pre ++ l → Goes p l.length (stF [] 0 pre.length [] pre) (stF [] 0 vals.length [] vals) := by
    intro l
    induction l with
    | nil =>
      intro pre e
      rw [List.append_nil] at e
      subst e
      exact Goes.zero _ _
    | cons v l ih =>
      intro pre e
      have h := ih (pre ++ [v]) (by rw [e]; simp)
      have g : Goes p 1 (stF [] 0 pre.length [] pre) (stF [] 0 ((pre ++ [v]).length : Nat) [] (pre ++ [v])) := by
        refine Goes.st (x := ⟨0, v⟩) ?_ ?_
        · rw [hcode, e, Int.toNat_natCast]
          simp [List.getD]
        · rw [work_push]
          simp
      rw [List.length_cons, Nat.add_comm]
      exact g.trans h
  exact key vals [] rfl

/-- What the program of a tree puts out. -/
theorem forge_runs (t : ETree) (vals : List Int) (ht : t.fits) (hn : t.nodes vals.length) (h9 : t.flat.length ≤ 9) (h4 : vals.length ≤ 4) :
    ∃ n : Nat, n < 60 ∧ runG [mainF vals, t.func vals.length] 500 (beginG [mainF vals, t.func vals.length]) = ((⟨[⟨[], -1⟩], -1, [valT vals t]⟩ : GState), (n : Int), (0 : Int)) := by
  generalize hp : [mainF vals, t.func vals.length] = p
  have h0 : funcOf p 0 = mainF vals := by rw [← hp]; rfl
  have h1 : funcOf p 1 = t.func vals.length := by rw [← hp]; rfl
  have hb : beginG p = stF [] 0 0 [] [] := by
    unfold beginG freshFrame
    rw [h0]
    rfl
  have g1 := main_goes (p := p) vals (r := [(⟨11, 1⟩ : GOp), (⟨12, 0⟩ : GOp)]) (by rw [h0]; rfl)
  have g2 : Goes p 1 (stF [] 0 vals.length [] vals) (stF [⟨0, (vals.length : Int) + 1, [], []⟩] 1 (0 : Nat) vals []) := by
    refine Goes.st (x := ⟨11, 1⟩) ?_ ?_
    · rw [h0, Int.toNat_natCast]; simp [mainF, List.getD]
    · have e : callG p (stF [] 0 ((vals.length : Int) + 1) [] vals) 1 = (0, stF [⟨0, (vals.length : Int) + 1, [], []⟩] 1 (0 : Nat) vals []) := by
        unfold callG
        rw [if_neg (by rw [curF_st]; simp)]
        unfold leaveG argsOf
        rw [h1, curX_st, show (stF [] 0 ((vals.length : Int) + 1) [] vals).now = 0 from rfl, modTop_st]
        simp [ETree.func, modFib, stF]
      simpa [workG] using e
  obtain ⟨n, hl, g3⟩ := tree_goes (p := p) (f := 1) (code := t.laid 0 ++ [(⟨12, 0⟩ : GOp)]) (by rw [h1]; rfl) [⟨0, (vals.length : Int) + 1, [], []⟩] vals t ht hn 0 [] (Sits.front _ _)
  have g4 : Goes p 1 (stF [⟨0, (vals.length : Int) + 1, [], []⟩] 1 (0 + t.cost : Nat) vals ([] ++ [valT vals t])) (stF [] 0 ((vals.length : Int) + 1) [] [valT vals t]) := by
    refine Goes.st (x := ⟨12, 0⟩) ?_ ?_
    · rw [h1, Int.toNat_natCast]; simp [ETree.func, List.getD, t.laid_len]
    · have e : returnG (stF [⟨0, (vals.length : Int) + 1, [], []⟩] 1 ((0 + t.cost : Nat) + 1) vals ([] ++ [valT vals t])) = (0, stF [] 0 ((vals.length : Int) + 1) [] [valT vals t]) := by
        unfold returnG
        rw [pop_st, last_st]
        have e2 : dropG (stF [⟨0, (vals.length : Int) + 1, [], []⟩] 1 ((0 + t.cost : Nat) + 1) vals []) = stF [] 0 ((vals.length : Int) + 1) [] [] := by simp [dropG, modFib, stF]
        rw [e2, if_pos (by rw [curF_st]; simp), show (stF [⟨0, (vals.length : Int) + 1, [], []⟩] 1 ((0 + t.cost : Nat) + 1) vals ([] ++ [valT vals t])).now = 0 from rfl, push_st]
        rfl
      simpa [workG] using e
  have g5 : Goes p 1 (stF [] 0 ((vals.length : Int) + 1) [] [valT vals t]) ⟨[⟨[], -1⟩], -1, [valT vals t]⟩ := by
    refine Goes.st (x := ⟨12, 0⟩) ?_ ?_
    · rw [h0, show ((vals.length : Int) + 1).toNat = vals.length + 1 by omega]; simp [mainF, List.getD]
    · have e : returnG (stF [] 0 ((vals.length : Int) + 1 + 1) [] ([] ++ [valT vals t])) = (0, ⟨[⟨[], -1⟩], -1, [valT vals t]⟩) := by
        unfold returnG
        rw [pop_st, last_st]
        have e2 : dropG (stF [] 0 ((vals.length : Int) + 1 + 1) [] []) = ⟨[⟨[], -1⟩], 0, []⟩ := by simp [dropG, modFib, stF]
        rw [e2]
        simp [curF, putG]
      simpa [workG] using e
  have hc := t.cost_le
  have g := (((g1.trans g2).trans g3).trans g4).trans g5
  refine ⟨vals.length + 1 + n + 1 + 1, by omega, ?_⟩
  have hk := g (500 - (vals.length + 1 + n + 1 + 1))
  rw [show 500 - (vals.length + 1 + n + 1 + 1) + (vals.length + 1 + n + 1 + 1) = 500 by omega] at hk
  rw [hb, hk]
  have hs : ∀ k : Nat, runG p k ⟨[⟨[], -1⟩], -1, [valT vals t]⟩ = (⟨[⟨[], -1⟩], -1, [valT vals t]⟩, 0, 0) := by
    intro k
    cases k with
    | zero => rfl
    | succ k => rw [runG, if_pos (show (-1 : Int) < 0 by decide)]
  rw [hs]
  simp
end Go.Proofs.Ytgahbngbpfilgaa
end
section
/- Contracts of the reader's value and of expr.Value. -/
set_option maxHeartbeats 1000000
set_option maxRecDepth 100000
namespace Go.Proofs.Ytgahbngbpfilgaa
open Go Go.RowKit

theorem exprTruth_any (b : Bool) (w : World) : Calls Try.prog 98 #[.bool b] w fun e w' => e = .returned (.int .i64 (if b then 1 else 0)) ∧ w = w' := by
  cases b
  all_goals
    go_enter Try.func98, Try.ntmps98
    go_wp2
    go_ret
    exact ⟨rfl, rfl⟩

/-- What the reader has read, and what is left. -/
def ReadsPost (S : Nat → Prop) (vv : Value) (R : Nat) (rest : List GNode) (w w' : World) : Prop :=
  Chg (· = R) w w' ∧ (∃ v', w'.cell? ⟨R, 0, none⟩ = some v' ∧ Nodes w' S v' rest) ∧ w'.cell? ⟨R, 1, none⟩ = some vv ∧ w'.frozen? ⟨R, 0, none⟩ = false

theorem reads_post {S : Nat → Prop} {vv : Value} {R : Nat} {rest : List GNode} {w W : World} {v' : Value} (hSR : ¬ S R) (hN : Nodes w S v' rest) (E : Chg (· = R) w W) (c0 : W.cell? ⟨R, 0, none⟩ = some v')
    (c1 : W.cell? ⟨R, 1, none⟩ = some vv) (f : W.frozen? ⟨R, 0, none⟩ = false) : ReadsPost S vv R rest w W :=
  ⟨E, ⟨v', c0, Nodes.stays (E.stays (fun _ hb e => hSR (e ▸ hb))) hN⟩, c1, f⟩

def ReadsC (vals : List Int) (S : Nat → Prop) (vv : Value) (t : ETree) : Prop := ∀ (rest : List GNode) (R : Nat) (w : World) (v : Value), (∀ b, S b → b < w.heap.size) → ¬ S R → w.cell? ⟨R, 0, none⟩ = some v → w.cell? ⟨R, 1, none⟩ = some vv → w.frozen? ⟨R, 0, none⟩ = false →
    Nodes w S v (t.flat ++ rest) → Ints w S vv vals →
    Calls Try.prog 66 #[.pointer (some ⟨R, 0, none⟩)] w fun e w' => e = .returned (.int .i64 (valT vals t)) ∧ ReadsPost S vv R rest w w'

theorem reads_call {vals : List Int} {S : Nat → Prop} {vv : Value} {t : ETree} (hC : ReadsC vals S vv t) {rest : List GNode} {R : Nat} {w W : World} (hS : ∀ b, S b → b < w.heap.size) (hSR : ¬ S R) (hi : Ints w S vv vals)
    (h : ReadsPost S vv R (t.flat ++ rest) w W) :
    Calls Try.prog 66 #[.pointer (some ⟨R, 0, none⟩)] W fun e w' => e = .returned (.int .i64 (valT vals t)) ∧ ReadsPost S vv R rest w w' ∧ Chg (· = R) W w' := by
  obtain ⟨E, ⟨v', c0, hN⟩, c1, f⟩ := h
  refine (hC rest R W v' (fun b hb => Nat.lt_of_lt_of_le (hS b hb) E.size) hSR c0 c1 f hN (Ints.stays (E.stays (fun _ hb e => hSR (e ▸ hb))) hi)).mono ?_
  rintro e w' ⟨rfl, E2, h2⟩
  exact ⟨rfl, ⟨E.trans E2, h2⟩, E2⟩

theorem reads_store {S : Nat → Prop} {vv : Value} {rest : List GNode} {R : Nat} {w W : World} (hS : ∀ b, S b → b < w.heap.size) (h : ReadsPost S vv R rest w W) {P : Nat} (hP : w.heap.size ≤ P) (hRP : P ≠ R) (k : Nat) (u : Value) :
    ReadsPost S vv R rest w (W.setCell ⟨P, k, none⟩ u) := by
  obtain ⟨E, ⟨v', c0, hN⟩, c1, f⟩ := h
  have E1 : Chg (· = P) W (W.setCell ⟨P, k, none⟩ u) := Chg.setCell (Chg.refl (· = P) W) (.inl rfl) u
  exact ⟨E.setCell (.inr hP) u, ⟨v', E1.cell (fun e => hRP e.symm) c0, Nodes.stays (E1.stays (fun b hb e => by have := hS b hb; omega)) hN⟩, E1.cell (fun e => hRP e.symm) c1, by
    rw [World.frozen?_setCell]; exact f⟩

theorem reads_drew {S : Nat → Prop} {vv : Value} {rest : List GNode} {R : Nat} {w W : World} (h : ReadsPost S vv R rest w W) : ReadsPost S vv R rest w W.drew := by
  obtain ⟨E, ⟨v', c0, hN⟩, c1, f⟩ := h
  exact ⟨E.drew, ⟨v', c0, Nodes.stays (Ext.refl W).drew.stays hN⟩, c1, f⟩

theorem exprSize_at (k n : Int) (h : (sizeN k : Int) = n) (w : World) : Calls Try.prog 97 #[.int .i64 k] w fun e w' => e = .returned (.int .i64 n) ∧ w = w' := by
  rw [← h]; exact exprSize_any k w

theorem reads_leaf (vals : List Int) (S : Nat → Prop) (vv : Value) (x : GNode) (hx : sizeN x.kind = 0) (ho : nodesOk vals [x]) : ReadsC vals S vv (.leaf x) := by
  intro rest R w v hS hSR r0 r1 rf hv hi
  rw [show (ETree.leaf x).flat ++ rest = x :: rest from rfl] at hv
  have hv0 := hv
  obtain ⟨b, o, cap, rfl, hcap, hby, ⟨sb, g0, _⟩, _, g1, _⟩ := hv.get (i := 0) (by simp)
  have HT := Lib.hid hv0.tail
  have hRb : R ≠ b := fun e => hSR (e ▸ sb)
  have hRl := lt_of_cell r0
  have hr := ho x (by simp)
  have hk : x.kind = 0 ∨ x.kind = 1 := by unfold sizeN at hx; split at hx <;> (try split at hx) <;> omega
  have HZ := Lib.hid (show (sizeN x.kind : Int) = 0 by omega)
  simp only [List.length_cons, Nat.zero_mul, Nat.add_zero, List.getElem_cons_zero] at g0 g1 hcap r0 ⊢
  clear hx hv hv0
  have RA := alloc_keep
  rcases hk with hk | hk
  · have HV : Hid (valT vals (.leaf x) = x.n) := by unfold Hid valT; rw [if_pos hk]
    rw [HV.out]
    have T0 : (x.kind == 0) = true := by simp [hk]
    clear hk hr ho hi
    by_cases hc1 : cap = 1
    all_goals (first | rw [if_neg hc1] at HT | (rw [if_pos hc1] at HT; subst hc1; obtain rfl : rest = [] := List.eq_nil_of_length_eq_zero (by omega)))
    all_goals
      go_enter Try.func66, Try.ntmps66
      go_wp2_with (first
        | (go_at_call 97; (with_reducible refine (exprSize_at _ _ HZ.out _).mono ?_); rintro e w1 ⟨rfl, rfl⟩))
      refine wp_loop_rounds 1 ?_
      rw [rounds_succ]
      go_wp2
      go_region
      go_wp2
      go_ret
      refine ⟨rfl, reads_post hSR HT.out ?_ ?_ ?_ ?_⟩
      · ((repeat (first | assumption | exact Chg.refl _ _ | refine Chg.alloc ?_ _ | refine Chg.drew ?_ | refine Chg.drewN ?_ _ | refine Chg.setCell ?_ (by first | exact .inl rfl | (right; simp; done) | (right; simp; omega)) _ | refine Chg.trans ?_ (by assumption) | refine Chg.trans ?_ (Chg.of_ext (by assumption)))); done)
      · go_simp
      · go_simp
      · go_simp
  · have hm : x.n ≤ vals.length - 1 := by have := hr.2.2.2; rw [mostN, if_neg (by omega), if_pos hk] at this; exact this
    obtain ⟨m, hm'⟩ := Int.eq_ofNat_of_zero_le hr.2.2.1
    have hml : m < vals.length := by omega
    have HV : Hid (valT vals (.leaf x) = vals[m]) := by
      unfold Hid valT
      rw [if_neg (by omega), if_pos hk, hm', List.getD_eq_getElem?_getD]
      simp [hml]
    obtain ⟨b2, o2, cap2, rfl, hcap2, hby2, s2, g2, _⟩ := hi.get hml
    have hRb2 : R ≠ b2 := fun e => hSR (e ▸ s2)
    simp only [Nat.mul_one] at g2
    rw [HV.out]
    have T0 : (x.kind == 0) = false := by simp [hk]
    have T1 : (x.kind == 1) = true := by simp [hk]
    rw [hm'] at g1
    have g3 : ∀ (u : Value) (o1 o2' : Obj), (((w.setCell ⟨R, 0, none⟩ u).alloc o1).alloc o2').cell? ⟨b2, o2 + m, none⟩ = some (.int .i64 vals[m]) := fun u o1 o2' =>
      Ext.cell (((Ext.refl _).alloc o1).alloc o2') (((Chg.refl (· = R) w).setCell (.inl rfl) u).cell (fun e => hRb2 e.symm) g2)
    clear hk hr ho hi hm hm' HV
    by_cases hc1 : cap = 1
    all_goals (first | rw [if_neg hc1] at HT | (rw [if_pos hc1] at HT; subst hc1; obtain rfl : rest = [] := List.eq_nil_of_length_eq_zero (by omega)))
    all_goals
      go_enter Try.func66, Try.ntmps66
      go_wp2_with (first
        | (go_at_call 97; (with_reducible refine (exprSize_at _ _ HZ.out _).mono ?_); rintro e w1 ⟨rfl, rfl⟩))
      refine wp_loop_rounds 1 ?_
      rw [rounds_succ]
      go_wp2
      go_region
      go_wp2
      go_region
      go_wp2
      go_ret
      refine ⟨rfl, reads_post hSR HT.out ?_ ?_ ?_ ?_⟩
      · ((repeat (first | assumption | exact Chg.refl _ _ | refine Chg.alloc ?_ _ | refine Chg.drew ?_ | refine Chg.drewN ?_ _ | refine Chg.setCell ?_ (by first | exact .inl rfl | (right; simp; done) | (right; simp; omega)) _ | refine Chg.trans ?_ (by assumption) | refine Chg.trans ?_ (Chg.of_ext (by assumption)))); done)
      · go_simp
      · go_simp
      · go_simp

theorem reads_two (vals : List Int) (S : Nat → Prop) (vv : Value) (x : GNode) (ta tb : ETree) (hx : 2 ≤ x.kind ∧ x.kind ≤ 6) (ha : ReadsC vals S vv ta) (hb : ReadsC vals S vv tb) : ReadsC vals S vv (.two x ta tb) := by
  intro rest R w v hS hSR r0 r1 rf hv hi
  rw [show (ETree.two x ta tb).flat ++ rest = x :: (ta.flat ++ (tb.flat ++ rest)) by simp [ETree.flat]] at hv
  have hv0 := hv
  obtain ⟨b, o, cap, rfl, hcap, hby, ⟨sb, g0, _⟩, _, g1, _⟩ := hv.get (i := 0) (by simp)
  have HT := Lib.hid hv0.tail
  have hc1 : ¬ cap = 1 := by have := ETree.flat_pos ta; simp at hcap; omega
  rw [if_neg hc1] at HT
  have hRb : R ≠ b := fun e => hSR (e ▸ sb)
  have hRl := lt_of_cell r0
  have HI := Lib.hid hi
  have HA := Lib.hid ha
  have HB := Lib.hid hb
  have HS := Lib.hid hS
  simp only [List.length_cons, Nat.zero_mul, Nat.add_zero, List.getElem_cons_zero] at g0 g1 hcap r0 ⊢
  clear hv hv0 hi ha hb hS
  have RA := alloc_keep
  obtain ⟨k, n⟩ := x
  have HZ : Hid ((sizeN k : Int) = 2) := by unfold Hid sizeN; simp only at hx; rw [if_neg (by omega), if_neg (by omega)]; rfl
  have hk : k = 2 ∨ k = 3 ∨ k = 4 ∨ k = 5 ∨ k = 6 := by simp only at hx; omega
  have HR : Hid (∃ z, z = valT vals (.two ⟨k, n⟩ ta tb) ∧ z = reckN k (valT vals ta) (valT vals tb)) := ⟨_, rfl, rfl⟩
  clear hx
  simp only at g0 g1
  go_enter Try.func66, Try.ntmps66
  go_wp2_with (first
    | (go_at_call 97; (with_reducible refine (exprSize_at _ _ HZ.out _).mono ?_); rintro e w1 ⟨rfl, rfl⟩))
  refine wp_loop_rounds 3 ?_
  rw [rounds_succ]
  go_wp2_with fail
  go_at_call 66
  with_reducible refine (reads_call HA.out HS.out hSR HI.out (reads_post hSR HT.out ?_ ?_ ?_ ?_)).mono ?_
  · ((repeat (first | assumption | exact Chg.refl _ _ | refine Chg.alloc ?_ _ | refine Chg.drew ?_ | refine Chg.drewN ?_ _ | refine Chg.setCell ?_ (by first | exact .inl rfl | (right; simp; done) | (right; simp; omega)) _ | refine Chg.trans ?_ (by assumption) | refine Chg.trans ?_ (Chg.of_ext (by assumption)))); done)
  · go_simp
  · go_simp
  · go_simp
  rintro e w1 ⟨rfl, hr1, hc1⟩
  have hRP : ¬ w.heap.size + 1 = R := by omega
  have hRX : ¬ w.heap.size = R := by omega
  have z1 : w.heap.size + 1 < w1.heap.size := by have := hc1.size; simp at this; omega
  have x1 := hc1.cell hRX (o := 0) (by go_simp; rfl)
  have y0 := hc1.cell hRP (o := 0) (by go_simp; rfl)
  have y1 := hc1.cell hRP (o := 1) (by go_simp; rfl)
  have yf := (hc1.frozen hRP (o := 0) (by simp)).trans (show _ = false by go_simp)
  have yg := (hc1.frozen hRP (o := 1) (by simp)).trans (show _ = false by go_simp)
  have hr2 := Lib.hid (reads_store HS.out hr1 (Nat.le_succ _) hRP 0 (.int .i64 (valT vals ta)))
  clear hr1 hc1
  go_wp2_with fail
  rw [rounds_succ]
  go_wp2_with fail
  go_at_call 66
  with_reducible refine (reads_call HB.out HS.out hSR HI.out hr2.out).mono ?_
  rintro e w2 ⟨rfl, hr3, hc2⟩
  have x2 := hc2.cell hRX (o := 0) (by go_simp; rfl)
  have z2 : w.heap.size + 1 < w2.heap.size := by have := hc2.size; simp at this; omega
  have u0 := hc2.cell hRP (o := 0) (by go_simp; rfl)
  have u1 := hc2.cell hRP (o := 1) (by go_simp; rfl)
  have uf := (hc2.frozen hRP (o := 1) (by simp; omega)).trans (show _ = false by go_simp)
  have hr4 := Lib.hid (reads_drew (reads_store HS.out hr3 (Nat.le_succ _) hRP 1 (.int .i64 (valT vals tb))))
  clear hr2 hr3 hc2 y0 y1 yf x1
  obtain ⟨z, hz, hz'⟩ := HR.out
  have HZZ := Lib.hid hz
  have HZ' := Lib.hid hz'
  clear hz hz' HR
  rcases hk with rfl | rfl | rfl | rfl | rfl
  all_goals
    go_wp2_with fail
    rw [rounds_succ]
    go_wp2_with fail
    go_region
    go_wp2_with (first
      | (go_at_call 98; (with_reducible refine (exprTruth_any _ _).mono ?_); rintro e w3 ⟨rfl, rfl⟩))
  all_goals
    go_ret
    refine ⟨?_, hr4.out⟩
    rw [← HZZ.out, HZ'.out]
    (first | (simp [reckN]; done) | (simp [reckN, *]; done))

theorem reads_three (vals : List Int) (S : Nat → Prop) (vv : Value) (x : GNode) (ta tb tc : ETree) (hx : x.kind = 7) (ha : ReadsC vals S vv ta) (hb : ReadsC vals S vv tb) (hc : ReadsC vals S vv tc) : ReadsC vals S vv (.three x ta tb tc) := by
  intro rest R w v hS hSR r0 r1 rf hv hi
  rw [show (ETree.three x ta tb tc).flat ++ rest = x :: (ta.flat ++ (tb.flat ++ (tc.flat ++ rest))) by simp [ETree.flat]] at hv
  have hv0 := hv
  obtain ⟨b, o, cap, rfl, hcap, hby, ⟨sb, g0, _⟩, _, g1, _⟩ := hv.get (i := 0) (by simp)
  have HT := Lib.hid hv0.tail
  have hc1 : ¬ cap = 1 := by have := ETree.flat_pos ta; simp at hcap; omega
  rw [if_neg hc1] at HT
  have hRb : R ≠ b := fun e => hSR (e ▸ sb)
  have hRl := lt_of_cell r0
  have HI := Lib.hid hi
  have HA := Lib.hid ha
  have HB := Lib.hid hb
  have HC := Lib.hid hc
  have HS := Lib.hid hS
  simp only [List.length_cons, Nat.zero_mul, Nat.add_zero, List.getElem_cons_zero] at g0 g1 hcap r0 ⊢
  clear hv hv0 hi ha hb hc hS
  have RA := alloc_keep
  obtain ⟨k, n⟩ := x
  simp only at hx
  subst hx
  have HZ : Hid ((sizeN 7 : Int) = 3) := rfl
  have HT7 : Hid (valT vals (.three ⟨7, n⟩ ta tb tc) = if valT vals ta = 0 then valT vals tc else valT vals tb) := rfl
  simp only at g0 g1
  rw [HT7.out]
  by_cases hz : valT vals ta = 0
  all_goals
    (first | rw [if_pos hz] | rw [if_neg hz])
    (first | (have TZ : (valT vals ta != 0) = false := by simp [hz]) | (have TZ : (valT vals ta != 0) = true := by simp [hz]))
    clear hz
    go_enter Try.func66, Try.ntmps66
    go_wp2_with (first
      | (go_at_call 97; (with_reducible refine (exprSize_at _ _ HZ.out _).mono ?_); rintro e w1 ⟨rfl, rfl⟩))
    refine wp_loop_rounds 4 ?_
    rw [rounds_succ]
    go_wp2_with fail
    go_at_call 66
    with_reducible refine (reads_call HA.out HS.out hSR HI.out (reads_post hSR HT.out ?_ ?_ ?_ ?_)).mono ?_
    · ((repeat (first | assumption | exact Chg.refl _ _ | refine Chg.alloc ?_ _ | refine Chg.drew ?_ | refine Chg.drewN ?_ _ | refine Chg.setCell ?_ (by first | exact .inl rfl | (right; simp; done) | (right; simp; omega)) _ | refine Chg.trans ?_ (by assumption) | refine Chg.trans ?_ (Chg.of_ext (by assumption)))); done)
    · go_simp
    · go_simp
    · go_simp
    rintro e w1 ⟨rfl, hr1, hc1⟩
    have hRP : ¬ w.heap.size + 1 = R := by omega
    have hRX : ¬ w.heap.size = R := by omega
    have z1 : w.heap.size + 1 < w1.heap.size := by have := hc1.size; simp at this; omega
    have x1 := hc1.cell hRX (o := 0) (by go_simp; rfl)
    have y0 := hc1.cell hRP (o := 0) (by go_simp; rfl)
    have y1 := hc1.cell hRP (o := 1) (by go_simp; rfl)
    have y2 := hc1.cell hRP (o := 2) (by go_simp; rfl)
    have f0 := (hc1.frozen hRP (o := 0) (by simp)).trans (show _ = false by go_simp)
    have f1 := (hc1.frozen hRP (o := 1) (by simp)).trans (show _ = false by go_simp)
    have f2 := (hc1.frozen hRP (o := 2) (by simp)).trans (show _ = false by go_simp)
    have hr2 := Lib.hid (reads_store HS.out hr1 (Nat.le_succ _) hRP 0 (.int .i64 (valT vals ta)))
    clear hr1 hc1
    go_wp2_with fail
    rw [rounds_succ]
    go_wp2_with fail
    go_at_call 66
    with_reducible refine (reads_call HB.out HS.out hSR HI.out hr2.out).mono ?_
    rintro e w2 ⟨rfl, hr3, hc2⟩
    have x2 := hc2.cell hRX (o := 0) (by go_simp; rfl)
    have z2 : w.heap.size + 1 < w2.heap.size := by have := hc2.size; simp at this; omega
    have u0 := hc2.cell hRP (o := 0) (by go_simp; rfl)
    have u1 := hc2.cell hRP (o := 1) (by go_simp; rfl)
    have u2 := hc2.cell hRP (o := 2) (by go_simp; rfl)
    have uf1 := (hc2.frozen hRP (o := 1) (by simp; omega)).trans (show _ = false by go_simp)
    have uf2 := (hc2.frozen hRP (o := 2) (by simp; omega)).trans (show _ = false by go_simp)
    have hr4 := Lib.hid (reads_store HS.out hr3 (Nat.le_succ _) hRP 1 (.int .i64 (valT vals tb)))
    clear hr2 hr3 hc2 y0 y1 y2 f0 f1 f2 x1
    go_wp2_with fail
    rw [rounds_succ]
    go_wp2_with fail
    go_at_call 66
    with_reducible refine (reads_call HC.out HS.out hSR HI.out hr4.out).mono ?_
    rintro e w3 ⟨rfl, hr5, hc3⟩
    have x3 := hc3.cell hRX (o := 0) (by go_simp; rfl)
    have z3 : w.heap.size + 1 < w3.heap.size := by have := hc3.size; simp at this; omega
    have v0 := hc3.cell hRP (o := 0) (by go_simp; rfl)
    have v1 := hc3.cell hRP (o := 1) (by go_simp; rfl)
    have v2 := hc3.cell hRP (o := 2) (by go_simp; rfl)
    have vf2 := (hc3.frozen hRP (o := 2) (by simp; omega)).trans (show _ = false by go_simp)
    have hr6 := Lib.hid (reads_drew (reads_store HS.out hr5 (Nat.le_succ _) hRP 2 (.int .i64 (valT vals tc))))
    clear hr4 hr5 hc3 u0 u1 u2 uf1 uf2 x2
    go_wp2_with fail
    rw [rounds_succ]
    go_wp2_with fail
    go_region
    go_wp2_with (first
      | (go_at_call 98; (with_reducible refine (exprTruth_any _ _).mono ?_); rintro e w4 ⟨rfl, rfl⟩))
    go_ret
    exact ⟨rfl, hr6.out⟩

theorem reads_any (vals : List Int) (S : Nat → Prop) (vv : Value) : ∀ t : ETree, t.fits → nodesOk vals t.flat → ReadsC vals S vv t
  | .leaf x, hf, ho => reads_leaf vals S vv x hf ho
  | .two x a b, hf, ho => by
    have hr := ho.root
    refine reads_two vals S vv x a b ?_ (reads_any vals S vv a hf.2.1 (ho.part a (by simp [ETree.parts]))) (reads_any vals S vv b hf.2.2 (ho.part b (by simp [ETree.parts])))
    have h1 := hf.1
    unfold sizeN at h1
    simp only [ETree.root] at hr
    split at h1
    · omega
    · split at h1 <;> omega
  | .three x a b c, hf, ho => by
    refine reads_three vals S vv x a b c ?_ (reads_any vals S vv a hf.2.1 (ho.part a (by simp [ETree.parts]))) (reads_any vals S vv b hf.2.2.1 (ho.part b (by simp [ETree.parts]))) (reads_any vals S vv c hf.2.2.2 (ho.part c (by simp [ETree.parts])))
    have h1 := hf.1
    unfold sizeN at h1
    split at h1
    · omega
    · split at h1 <;> omega

theorem exprValue_any (e : List GNode) (v : Value) (vals : List Int) (vv : Value) (w : World) (hp : Nodes w (fun _ => True) v e) (hv : Ints w (fun _ => True) vv vals) :
    Calls Try.prog 30 #[v, vv] w fun e' w' => e' = .returned (.tuple #[.int .i64 (valErr e vals), .int .i64 (exprErr e vals.length)]) ∧ Ext w w' := by
  have hI : I64 vals.length := by obtain ⟨a, cap, _, hcap, hby, _⟩ := id hv; unfold I64; omega
  have HC := Lib.hid (fun w' (h : Nodes w' (fun _ => True) v e) => exprCheck_any e v (fun _ => True) vals.length w' h hI)
  have hp' : Nodes w (· < w.heap.size) v e := Nodes.stays (S := fun _ => True) (fun b o u _ hc => ⟨hc, lt_of_cell hc⟩) hp
  have hv' : Ints w (· < w.heap.size) vv vals := Ints.stays (S := fun _ => True) (fun b o u _ hc => ⟨hc, lt_of_cell hc⟩) hv
  obtain ⟨a, cap, rfl, hcap, hby, _⟩ := id hv
  by_cases h0 : exprErr e vals.length = 0
  · obtain ⟨h4, h9, hok, hop⟩ := exprErr_zero h0
    obtain ⟨t, ht, rfl⟩ := (openOk_one e).1 hop
    have HE : Hid (valErr t.flat vals = valT vals t) := by unfold Hid valErr; rw [if_pos h0, valOf_flat vals t ht]
    rw [h0] at HC
    rw [HE.out, h0]
    have HR := Lib.hid (fun rest R W v => reads_any vals (· < w.heap.size) (.slice a vals.length cap) t ht hok rest R W v)
    obtain ⟨na, ncap, rfl, _⟩ := id hp
    have HP := Lib.hid hp
    have HP' := Lib.hid hp'
    have HV' := Lib.hid hv'
    clear h0 hok hop hp hv h9 hp' hv' hI
    go_enter Try.func30, Try.ntmps30
    go_wp2_with (first
      | (go_at_call 52; (with_reducible refine (HC.out _ HP.out).mono ?_); rintro e w1 ⟨rfl, hb1⟩))
    have hz := Ext.size hb1
    go_at_call 66
    have E1 : Ext w (w1.alloc (.cells #[.slice na t.flat.length ncap, .slice a vals.length cap] 118)) := hb1.alloc _
    with_reducible refine (HR.out [] w1.heap.size _ (.slice na t.flat.length ncap) ?_ ?_ ?_ ?_ ?_ ?_ ?_).mono ?_
    · intro b hb; have := Ext.size E1; omega
    · omega
    · simp
    · simp
    · simp
    · rw [List.append_nil]; exact Nodes.stays E1.stays HP'.out
    · exact Ints.stays E1.stays HV'.out
    rintro e w2 ⟨rfl, hr⟩
    go_wp2_with fail
    go_ret2
    exact ⟨rfl, Chg.ext_from E1 hr.1 (fun n hn => by omega)⟩
  · have HE : Hid (valErr e vals = 0) := by unfold Hid valErr; rw [if_neg h0]
    have TE : (exprErr e vals.length != 0) = true := bne_iff_ne.2 h0
    rw [HE.out]
    have HP := Lib.hid hp
    clear h0 hp hv hp' hv' hI
    go_enter Try.func30, Try.ntmps30
    go_wp2_with (first
      | (go_at_call 52; (with_reducible refine (HC.out _ HP.out).mono ?_); rintro e w1 ⟨rfl, hb1⟩))
    go_ret2
    exact ⟨rfl, hb1⟩
end Go.Proofs.Ytgahbngbpfilgaa
end
section
/- exprBegun of the laws. -/
set_option maxHeartbeats 1000000
set_option maxRecDepth 100000
namespace Go.Proofs.Ytgahbngbpfilgaa
open Go Go.RowKit

def nodesT : ETree := .three ⟨7, 0⟩ (.two ⟨5, 0⟩ (.leaf ⟨1, 0⟩) (.leaf ⟨0, 5⟩)) (.two ⟨4, 0⟩ (.leaf ⟨1, 0⟩) (.leaf ⟨1, 0⟩)) (.leaf ⟨0, 7⟩)
/-- The example expression. -/
def nodesL : List GNode := [⟨7, 0⟩, ⟨5, 0⟩, ⟨1, 0⟩, ⟨0, 5⟩, ⟨4, 0⟩, ⟨1, 0⟩, ⟨1, 0⟩, ⟨0, 7⟩]
theorem nodesT_flat : nodesT.flat = nodesL := rfl
theorem nodesT_fits : nodesT.fits := by simp [nodesT, ETree.fits, sizeN]

theorem valErr_flat {t : ETree} {vals : List Int} (ht : t.fits) (h : exprErr t.flat vals.length = 0) : valErr t.flat vals = valT vals t := by
  unfold valErr; rw [if_pos h, valOf_flat vals t ht]
def nodeCells : List GNode → List Value
  | [] => []
  | x :: l => .int .i64 x.kind :: .int .i64 x.n :: nodeCells l

theorem nodeCells_at : ∀ (l : List GNode) (i : Nat) (h : i < l.length), (nodeCells l)[i * 2]? = some (.int .i64 l[i].kind) ∧ (nodeCells l)[i * 2 + 1]? = some (.int .i64 l[i].n)
  | [], i, h => absurd h (by simp)
  | x :: l, 0, _ => ⟨rfl, rfl⟩
  | x :: l, i + 1, h => by
    have := nodeCells_at l i (by simpa using h)
    rw [show (i + 1) * 2 = i * 2 + 2 by omega]
    exact this

theorem nodes_of_block {w : World} {S : Nat → Prop} {c : Nat} {cs : Array Value} {t : TypeId} {fr : Nat × Nat} (l : List GNode) (hc : w.heap[c]? = some (.cells cs t fr)) (hl : cs.toList = nodeCells l)
    (hS : S c) (hI : ∀ x ∈ l, I64 x.kind ∧ I64 x.n) (hlen : l.length * 16 ≤ 140737488355328) : Nodes w S (.slice (some ⟨c, 0, none⟩) l.length l.length) l := by
  refine ⟨_, _, rfl, Nat.le_refl _, ⟨hlen, by omega⟩, fun i hi => ⟨c, 0, rfl, ?_⟩⟩
  obtain ⟨h0, h1⟩ := nodeCells_at l i hi
  have hx := hI _ (List.getElem_mem hi)
  refine ⟨⟨hS, ?_, hx.1⟩, hS, ?_, hx.2⟩
  · rw [cell_of_row w c _ cs t fr hc, ← Array.getElem?_toList, hl, Nat.zero_add]; exact h0
  · rw [cell_of_row w c _ cs t fr hc, ← Array.getElem?_toList, hl, Nat.zero_add]; exact h1

theorem nodes_small (l : List GNode) (h : ∀ x ∈ l, (-1000 ≤ x.kind ∧ x.kind ≤ 1000) ∧ -1000 ≤ x.n ∧ x.n ≤ 1000) : ∀ x ∈ l, I64 x.kind ∧ I64 x.n := fun x hx =>
  ⟨I64.small (by have := (h x hx).1.1; omega) (by have := (h x hx).1.2; omega), I64.small (by have := (h x hx).2.1; omega) (by have := (h x hx).2.2; omega)⟩

theorem Sl.take {α : Type} {E : Nat → Nat → α → Prop} {sz bytes n cap : Nat} {a : Option Addr} {l : List α} (h : Sl E sz bytes (.slice a n cap) l) {k : Nat} (hk : k ≤ n) : Sl E sz bytes (.slice a k cap) (l.take k) := by
  obtain ⟨a', cap', e, h1, h2, h3⟩ := h
  simp only [Value.slice.injEq] at e
  obtain ⟨rfl, rfl, rfl⟩ := e
  refine ⟨a, cap, by rw [List.length_take, Nat.min_eq_left hk], by rw [List.length_take]; omega, ⟨Nat.le_trans (Nat.mul_le_mul_right _ (by rw [List.length_take]; omega)) h2.1, h2.2⟩, fun i hi => ?_⟩
  rw [List.length_take] at hi
  obtain ⟨b, o, e, hE⟩ := h3 i (by omega)
  exact ⟨b, o, e, by rw [List.getElem_take]; exact hE⟩

theorem ints_lone (w : World) (a : Int) (ha : I64 a) (t : TypeId) : Ints (w.alloc (.cells #[.int .i64 a] t)) (fun _ => True) (.slice (some ⟨w.heap.size, 0, none⟩) 1 1) [a] := by
  refine ⟨_, _, rfl, Nat.le_refl _, by simp, fun i hi => ⟨_, 0, rfl, ?_⟩⟩
  match i, hi with
  | 0, _ => exact ⟨trivial, by simp, ha⟩

theorem nodes_any (w : World) :
    Calls Try.prog 59 #[] w fun e w' => (∃ g, e = .returned (.slice (some ⟨g, 0, none⟩) 8 8) ∧ Nodes w' (fun _ => True) (.slice (some ⟨g, 0, none⟩) 8 8) nodesL) ∧ Ext w w' := by
  go_enter Try.func59, Try.ntmps59
  go_wp2
  go_ret
  exact ⟨⟨_, rfl, nodes_of_block nodesL (heap_alloc_new _ _) rfl trivial (nodes_small _ (by decide)) (by decide)⟩, by ((repeat (first | assumption | exact Ext.refl _ | (exact And.left (by assumption)) | refine Ext.alloc ?_ _ | refine Ext.drew ?_ | refine Ext.drewN ?_ _ | refine Ext.setCell ?_ (by simp) _ | refine Ext.setCell ?_ (by simp; omega) _ | refine Ext.trans ?_ (by assumption))); done)⟩

theorem exprValue_val (e : List GNode) (v : Value) (vals : List Int) (vv : Value) (w : World) (hp : Nodes w (fun _ => True) v e) (hv : Ints w (fun _ => True) vv vals) (r x : Int) (hr : valErr e vals = r) (hx : exprErr e vals.length = x) :
    Calls Try.prog 30 #[v, vv] w fun e' w' => e' = .returned (.tuple #[.int .i64 r, .int .i64 x]) ∧ Ext w w' := by
  rw [← hr, ← hx]; exact exprValue_any e v vals vv w hp hv
theorem xe_1 : exprErr nodesL 1 = 0 := by decide
theorem i64_1 : I64 1 := by unfold I64; omega
end Go.Proofs.Ytgahbngbpfilgaa
end
