/- Merged texts: contracts and plain facts, one part behind another; each part begins with what it says. -/
import Derived.Test.YtgahbngbpfilgaaGreatGHAD
import Derived.Test.YtgahbngbpfilgaaGreatGHAK
import Derived.Test.YtgahbngbpfilgaaGreatGHAM
import Derived.Test.YtgahbngbpfilgaaGreatGHBI
section
set_option maxHeartbeats 4000000
set_option maxRecDepth 100000
namespace Go.Proofs.YtgahbngbpfilgaaGreat
open Go Go.RowKit
theorem ownProg_any (p : List GFunc) (v : Value) (S : Nat → Prop) (w : World) (hp : Funcs w S v p) (hl : p.length ≤ 1000) (hc : ∀ F ∈ p, F.code.length ≤ 1000) :
  Calls Tryz.prog 8 #[v] w fun e w' => (∃ x, e = .returned x ∧ Funcs w' (w.heap.size ≤ ·) x p) ∧ Ext w w' := by
 have HP := Lib.hid hp
 have HC := Lib.hid hc
 obtain ⟨a, cap, rfl, _, _, _⟩ := hp
 have RA := alloc_keep
 obtain ⟨o0, ho0, hoz0, hoz1, hoz2⟩ := info_parts infoF
 obtain ⟨i0, hi0, hz0, hz1, hz2⟩ := info_parts infoO
 clear hc
 go_enter Tryz.func8, Tryz.ntmps8
 go_wp2_with fail
 go_loopw [3, 4] (fun q3 q wr => ∃ k : Nat, k ≤ p.length ∧ q = .int .i64 k ∧ Ext w wr ∧ ∃ fs, fs.map Prod.fst = p.take k ∧ FRow wr w.heap.size q3 fs) (fun _ q _ => p.length - (intOf q).toNat)
 case atStart => exact ⟨0, Nat.zero_le _, rfl, Ext.refl _, [], by simp, FRow.nil _ _⟩
 case round =>
  obtain ⟨k, hk, rfl, hb, fs, hfs, hrow⟩ := hrel
  have HB := Lib.hid hb
  have HROW := Lib.hid hrow
  have HFS := Lib.hid hfs
  have hfl : fs.length ≤ k := by have := congrArg List.length hfs; simp at this; omega
  obtain ⟨ar, capr, rfl, _, _⟩ := hrow.row.shape
  clear hb hrow hfs
  by_cases hlt : k < p.length
  ·have HTK : Hid (p.take (k + 1) = p.take k ++ [p[k]]) := List.take_succ_eq_append_getElem hlt
   have hgo := HP.out.get hlt
   have hcl := HC.out _ (List.getElem_mem hlt)
   generalize p[k] = G at *
   obtain ⟨pb, po, cap', e, hcap, hby, ⟨_, c0, j0⟩, ⟨_, c1, j1⟩, x, c2, hops⟩ := hgo
   simp only [Value.slice.injEq] at e
   obtain ⟨rfl, -, rfl⟩ := e
   have hpb := lt_of_cell c0
   replace c0 := Ext.cell HB.out c0
   replace c1 := Ext.cell HB.out c1
   replace c2 := Ext.cell HB.out c2
   replace hops := Ops.stays (Ext.stays HB.out) hops
   have HOPS := Lib.hid hops
   obtain ⟨ca, cc, rfl, hcc, hcb, _⟩ := hops
   have HS := Lib.hid (show ∀ W, Ext wr W → W.cell? ⟨pb, po + k * 3, none⟩ = some (.int .i64 G.args) ∧ W.cell? ⟨pb, po + k * 3 + 1, none⟩ = some (.int .i64 G.locals) ∧ W.cell? ⟨pb, po + k * 3 + 2, none⟩ = some (.slice ca G.code.length cc) from fun W h => ⟨Ext.cell h c0, Ext.cell h c1, Ext.cell h c2⟩)
   clear c0 c1 c2
   rename World => wr
   go_upto_region 5 with fail
   refine wp_region_rt (fun W => W.cell? ⟨pb, po + k * 3, none⟩ = some (.int .i64 G.args) ∧ W.cell? ⟨pb, po + k * 3 + 1, none⟩ = some (.int .i64 G.locals) ∧ W.cell? ⟨pb, po + k * 3 + 2, none⟩ = some (.slice ca G.code.length cc)) 21 [0, 1, 2, 3, 4, 5, 6, 7, 8, 9, 10, 12, 13, 14, 15, 16] [11, 17, 18, 19, 20, 21] (by kernel_rfl) (by kernel_rfl) (fun _ _ _ _ _ h => h) (by exact HS.out _ (by ((repeat (first | assumption | exact Ext.refl _ | (exact And.left (by assumption)) | refine Ext.alloc ?_ _ | refine Ext.drew ?_ | refine Ext.drewN ?_ _ | refine Ext.setCell ?_ (by simp) _ | refine Ext.setCell ?_ (by simp; omega) _ | refine Ext.trans ?_ (by assumption))); done))) ?_
   (try simp only [pickOps, List.filterMap_cons, List.filterMap_nil, List.getElem?_cons_zero, List.getElem?_cons_succ])
   repeat (
    refine readsQ_do (by rfl) ?_
    apply Exists.intro
    refine ⟨fun w' hw' => ?_, ?_⟩
    focus
     (try dsimp only at hw')
     go_split_ands
     go_simp
     (try with_reducible rfl)
    (try dsimp only [Act.put])
    (try simp only [List.setIfInBounds_toArray, List.set_cons_succ, List.set_cons_zero]))
   refine readsQ_nil ?_
   refine tailW_step ?_
   go_wp2_with fail
   refine nextW_go (by exact HS.out _ (by ((repeat (first | assumption | exact Ext.refl _ | (exact And.left (by assumption)) | refine Ext.alloc ?_ _ | refine Ext.drew ?_ | refine Ext.drewN ?_ _ | refine Ext.setCell ?_ (by simp) _ | refine Ext.setCell ?_ (by simp; omega) _ | refine Ext.trans ?_ (by assumption))); done))) ?_
   refine tailW_step ?_
   refine wpList_append_row rfl _ _ 61 rfl w.heap.size 59 i0 (.agg #[.int .i64 0, .int .i64 0]) 2 16 Tryz.underlying61 hi0 hz0 hz1 hz2 rfl (by decide) _ _ _ rfl (RowAt.nil _ _ _ _) G.code.length (G.code.flatMap opF) ((Ops.stays (Ext.stays (by ((repeat (first | assumption | exact Ext.refl _ | (exact And.left (by assumption)) | refine Ext.alloc ?_ _ | refine Ext.drew ?_ | refine Ext.drewN ?_ _ | refine Ext.setCell ?_ (by simp) _ | refine Ext.setCell ?_ (by simp; omega) _ | refine Ext.trans ?_ (by assumption))); done))) HOPS.out).src) (by unfold maxLen; omega) (by omega) (by exact Ext.size (HB.out.trans (by ((repeat (first | assumption | exact Ext.refl _ | (exact And.left (by assumption)) | refine Ext.alloc ?_ _ | refine Ext.drew ?_ | refine Ext.drewN ?_ _ | refine Ext.setCell ?_ (by simp) _ | refine Ext.setCell ?_ (by simp; omega) _ | refine Ext.trans ?_ (by assumption))); done)))) ?_
   intro v1 Wv1 rv1
   rw [Nat.zero_add, List.nil_append] at rv1
   have RV := Lib.hid rv1
   have hx1 : Ext wr Wv1 := Ext.trans (by ((repeat (first | assumption | exact Ext.refl _ | (exact And.left (by assumption)) | refine Ext.alloc ?_ _ | refine Ext.drew ?_ | refine Ext.drewN ?_ _ | refine Ext.setCell ?_ (by simp) _ | refine Ext.setCell ?_ (by simp; omega) _ | refine Ext.trans ?_ (by assumption))); done)) (rv_ext rv1)
   have HN1 := Lib.hid (fresh_row (W0 := wr) rv1 (by ((repeat (first | assumption | exact Ext.refl _ | (exact And.left (by assumption)) | refine Ext.alloc ?_ _ | refine Ext.drew ?_ | refine Ext.drewN ?_ _ | refine Ext.setCell ?_ (by simp) _ | refine Ext.setCell ?_ (by simp; omega) _ | refine Ext.trans ?_ (by assumption))); done)))
   obtain ⟨a1, cap1, rfl, _, _⟩ := rv1.1.shape
   have HX1 := Lib.hid hx1
   clear rv1 hx1
   go_wp2_with fail
   refine nextW_go (by exact HS.out _ HX1.out) ?_
   refine tailW_step ?_
   go_wp2_with fail
   refine nextW_go (by exact HS.out _ HX1.out) ?_
   refine tailW_step ?_
   go_wp2_with fail
   refine nextW_go (by exact HS.out _ (HX1.out.trans (by ((repeat (first | assumption | exact Ext.refl _ | (exact And.left (by assumption)) | refine Ext.alloc ?_ _ | refine Ext.drew ?_ | refine Ext.drewN ?_ _ | refine Ext.setCell ?_ (by simp) _ | refine Ext.setCell ?_ (by simp; omega) _ | refine Ext.trans ?_ (by assumption))); done)))) ?_
   refine tailW_step ?_
   have hsz2 : (Wv1.alloc (.cells #[.int .i64 G.args, .int .i64 G.locals, .slice a1 G.code.length cap1] 63)).heap.size = Wv1.heap.size + 1 := Array.size_push _
   have hx2 : Ext wr (Wv1.alloc (.cells #[.int .i64 G.args, .int .i64 G.locals, .slice a1 G.code.length cap1] 63)) := HX1.out.alloc _
   refine wpList_append_row rfl _ _ 22 rfl w.heap.size 63 o0 (.agg #[.int .i64 0, .int .i64 0, .slice none 0 0]) 3 40 Tryz.underlying22 ho0 hoz0 hoz1 hoz2 rfl (by decide) _ _ _ rfl (HROW.out.row.ext hx2 (by decide)) 1 (funcF (G, .slice a1 G.code.length cap1)) (src_func _ _ _ _ _ _) (by unfold maxLen; omega) (by omega) (by rw [hsz2]; exact Nat.le_succ_of_le (Nat.le_trans HB.out.size HX1.out.size)) ?_
   intro v2 Wv2 rv2
   have RV2 := Lib.hid rv2
   obtain ⟨a2, cap2, rfl, _, _⟩ := rv2.1.shape
   clear rv2
   go_wp2_with fail
   have hx4 : Ext w Wv2 := Chg.ext_from (HB.out.trans hx2) RV2.out.2.1 (fun g e => (HROW.out.row.le g e))
   have hS2 := HS.out _ hx2
   have hno : ¬ rowBlock (.slice ar fs.length capr) = some pb := fun e => by have := HROW.out.row.le pb e; omega
   have hS4 := (⟨RV2.out.2.1.cell hno hS2.1, RV2.out.2.1.cell hno hS2.2.1, RV2.out.2.1.cell hno hS2.2.2⟩ : _ ∧ _ ∧ _)
   have hops2 : Ops Wv1 (wr.heap.size ≤ ·) (.slice a1 G.code.length cap1) G.code := Ops.of_row RV.out.1 (by omega) HOPS.out.i64 _ (fun b hb hr => HN1.out b hr)
   have hfr := (HROW.out.ext hx2).grow (y := (G, .slice a1 G.code.length cap1)) RV2.out ⟨j0, j1, Ops.stays (fun b o u hS hu => ⟨Ext.cell ((Ext.refl _).alloc _) hu, Nat.le_trans HB.out.size hS, fun e => by have h1 := HROW.out.row.lt (by decide) b e; have h2 : wr.heap.size ≤ b := hS; omega⟩) hops2⟩
   refine nextW_go (by exact hS4) ?_
   clear hS4 hS2 hno
   refine tailW_step ?_
   go_wp2_with fail
   refine nextW_end ?_
   go_wp2_with fail
   go_roundw
   case rel => exact ⟨k + 1, by omega, by go_num, hx4, fs ++ [(G, .slice a1 G.code.length cap1)], by rw [List.map_append, HFS.out, HTK.out]; rfl, hfr⟩
   case measure => simp [intOf]; omega
  ·obtain rfl : k = p.length := by omega
   clear hlt
   go_wp2_with fail
   go_ret
   refine ⟨⟨_, rfl, ?_⟩, HB.out⟩
   have := HROW.out.funcs (by omega)
   rwa [HFS.out, List.take_length] at this
end Go.Proofs.YtgahbngbpfilgaaGreat
end
section
set_option maxHeartbeats 2000000
set_option maxRecDepth 100000
namespace Go.Proofs.YtgahbngbpfilgaaGreat
open Go Go.RowKit
theorem take_succ_same {α : Type} {a b : List α} {k : Nat} (h1 : k < a.length) (h2 : k < b.length) (ht : a.take k = b.take k) (h : a[k] = b[k]) : a.take (k + 1) = b.take (k + 1) := by
 rw [List.take_succ_eq_append_getElem h1, List.take_succ_eq_append_getElem h2, ht, h]
theorem take_all_same {α : Type} {a b : List α} (hl : a.length = b.length) (ht : a.take a.length = b.take a.length) : a = b := by
 rw [List.take_length, hl, List.take_length] at ht; exact ht
theorem sameFuncs_any (a b : GFunc) (va vb : Value) (S T : Nat → Prop) (w : World) (ha : FuncV w S va a) (hb : FuncV w T vb b) :
  Calls Tryz.prog 37 #[va, vb] w fun e w' => e = .returned (.bool (decide (a = b))) ∧ Ext w w' := by
 obtain ⟨sa, rfl, _, _, ha⟩ := ha
 obtain ⟨sb, rfl, _, _, hb⟩ := hb
 have RA := alloc_keep
 have HA := Lib.hid ha
 have HB := Lib.hid hb
 obtain ⟨pa, ca, rfl, hca, hba, _⟩ := ha
 obtain ⟨pb, cb, rfl, hcb, hbb, _⟩ := hb
 obtain ⟨t, ht⟩ : ∃ t, decide (a = b) = t := ⟨_, rfl⟩
 rw [ht]
 have HT := Lib.hid ht
 clear ht
 obtain ⟨aa, al, ac⟩ := a
 obtain ⟨ba, bl, bc⟩ := b
 simp only at *
 go_enter Tryz.func37, Tryz.ntmps37
 by_cases h1 : aa = ba
 ·subst h1
  have T1 : (aa != aa) = false := by rw [bne_eq_false_iff_eq]
  by_cases h2 : al = bl
  ·subst h2
   have T2 : (al != al) = false := by rw [bne_eq_false_iff_eq]
   by_cases hl : ac.length = bc.length
   ·have TL : ((ac.length : Int) != (bc.length : Int)) = false := by rw [bne_eq_false_iff_eq]; omega
    go_wp2_with fail
    generalize hW : (w.alloc _).alloc _ = W2
    have hE : Ext w W2 := by rw [← hW]; exact ((Ext.refl w).alloc _).alloc _
    have ca2 : W2.cell? ⟨w.heap.size, 2, none⟩ = some (.slice pa bc.length ca) := by rw [← hW]; rw [alloc_keep _ _ _ (by simp)]; simp
    have cb2 : W2.cell? ⟨w.heap.size + 1, 2, none⟩ = some (.slice pb bc.length cb) := by rw [← hW]; simp
    clear hW
    go_loopw [5] (fun q wr => ∃ k : Nat, k ≤ bc.length ∧ q = .int .i64 k ∧ Ext W2 wr ∧ ac.take k = bc.take k) (fun q _ => bc.length - (intOf q).toNat)
    case atStart => exact ⟨0, Nat.zero_le _, rfl, Ext.refl _, rfl⟩
    case round =>
     obtain ⟨k, hk, rfl, hb3, htk⟩ := hrel
     have HB3 := Lib.hid hb3
     have HTK := Lib.hid htk
     have HE := Lib.hid hE
     clear hb3 htk hE
     have da2 := Ext.cell HB3.out ca2
     have db2 := Ext.cell HB3.out cb2
     by_cases hlt : k < bc.length
     ·have hlt' : k < ac.length := by omega
      obtain ⟨ba, oa, _, e1, _, _, ⟨_, x0, _⟩, ⟨_, x1, _⟩⟩ := HA.out.get hlt'
      obtain ⟨bb, ob, _, e2, _, _, ⟨_, y0, _⟩, ⟨_, y1, _⟩⟩ := HB.out.get hlt
      simp only [Value.slice.injEq] at e1 e2
      obtain ⟨rfl, -, rfl⟩ := e1
      obtain ⟨rfl, -, rfl⟩ := e2
      have hE2 := HE.out.trans HB3.out
      have x0' := Ext.cell hE2 x0
      have x1' := Ext.cell hE2 x1
      have y0' := Ext.cell hE2 y0
      have y1' := Ext.cell hE2 y1
      have HSE := Lib.hid (fun h => take_succ_same hlt' hlt HTK.out h)
      have HNE : Hid (ac[k] ≠ bc[k] → t = false) := by
       unfold Hid
       intro h
       rw [← HT.out]
       exact decide_eq_false (fun e => h (by simp only [GFunc.mk.injEq] at e; simp [e.2.2]))
      clear x0 x1 y0 y1 ca2 cb2 hE2
      generalize ac[k] = x at *
      generalize bc[k] = y at *
      obtain ⟨xk, xa⟩ := x
      obtain ⟨yk, ya⟩ := y
      simp only at *
      clear HT
      by_cases hxk : xk = yk
      ·subst hxk
       have T3 : (xk == xk) = true := by simp
       by_cases hxa : xa = ya
       ·subst hxa
        have T4 : (xa == xa) = true := by simp
        have HS := Lib.hid (HSE.out rfl)
        clear HSE HNE
        go_wp2_with fail
        go_big_quiet (fail)
        go_wp2_with fail
        go_roundw
        case rel => exact ⟨k + 1, by omega, by go_num, HB3.out.drewN _, HS.out⟩
        case measure => simp [intOf]; omega
       ·have T4 : (xa == ya) = false := by simpa using hxa
        have HF : Hid (t = false) := HNE.out (by simpa using hxa)
        clear hxa HSE HNE
        go_wp2_with fail
        go_big_quiet (fail)
        go_wp2_with fail
        go_ret
        exact ⟨by rw [HF.out]; rfl, HE.out.trans (HB3.out.drewN _)⟩
      ·have T3 : (xk == yk) = false := by simpa using hxk
       have HF : Hid (t = false) := HNE.out (by intro e; simp at e; exact hxk e.1)
       clear hxk HSE HNE
       go_wp2_with fail
       go_big_quiet (fail)
       go_wp2_with fail
       go_ret
       exact ⟨by rw [HF.out]; rfl, HE.out.trans (HB3.out.drewN _)⟩
     ·obtain rfl : k = bc.length := by omega
      have HF : Hid (t = true) := by
       unfold Hid
       rw [← HT.out]
       have := take_all_same hl (by rw [hl]; exact HTK.out)
       rw [this]
       exact decide_eq_true rfl
      clear hlt
      go_wp2_with fail
      go_ret
      exact ⟨by rw [HF.out]; rfl, HE.out.trans HB3.out⟩
   ·have TL : ((ac.length : Int) != (bc.length : Int)) = true := bne_iff_ne.2 (by omega)
    have HF : Hid (t = false) := by
     unfold Hid
     rw [← HT.out]
     exact decide_eq_false (fun e => hl (by simp only [GFunc.mk.injEq] at e; rw [e.2.2]))
    clear hl
    go_wp2_with fail
    go_ret
    exact ⟨by rw [HF.out]; rfl, ((Ext.refl w).alloc _).alloc _⟩
  ·have T2 : (al != bl) = true := bne_iff_ne.2 h2
   have HF : Hid (t = false) := by
    unfold Hid
    rw [← HT.out]
    exact decide_eq_false (fun e => h2 (by simp only [GFunc.mk.injEq] at e; exact e.2.1))
   clear h2
   go_wp2_with fail
   go_ret
   exact ⟨by rw [HF.out]; rfl, ((Ext.refl w).alloc _).alloc _⟩
 ·have T1 : (aa != ba) = true := bne_iff_ne.2 h1
  have HF : Hid (t = false) := by
   unfold Hid
   rw [← HT.out]
   exact decide_eq_false (fun e => h1 (by simp only [GFunc.mk.injEq] at e; exact e.1))
  clear h1
  go_wp2_with fail
  go_ret
  exact ⟨by rw [HF.out]; rfl, ((Ext.refl w).alloc _).alloc _⟩
theorem FuncC.toV {w : World} {S : Nat → Prop} {b o : Nat} {f : GFunc} (h : FuncC w S b o f) : ∃ v, FuncV w S (.agg #[.int .i64 f.args, .int .i64 f.locals, v]) f ∧ w.cell? ⟨b, o + 2, none⟩ = some v := by
 obtain ⟨⟨_, _, a⟩, ⟨_, _, l⟩, v, hv, hc⟩ := h
 exact ⟨v, ⟨v, rfl, a, l, hc⟩, hv⟩
end Go.Proofs.YtgahbngbpfilgaaGreat
end
section
set_option maxHeartbeats 2000000
set_option maxRecDepth 100000
namespace Go.Proofs.YtgahbngbpfilgaaGreat
open Go Go.RowKit
theorem sameProgs_any (a b : List GFunc) (va vb : Value) (S T : Nat → Prop) (w : World) (ha : Funcs w S va a) (hb : Funcs w T vb b) :
    Calls Tryz.prog 16 #[va, vb] w fun e w' => e = .returned (.bool (decide (a = b))) ∧ Ext w w' := by
  have HA := Lib.hid ha
  have HB := Lib.hid hb
  obtain ⟨pa, ca, rfl, hca, hba, _⟩ := ha
  obtain ⟨pb, cb, rfl, hcb, hbb, _⟩ := hb
  obtain ⟨t, ht⟩ : ∃ t, decide (a = b) = t := ⟨_, rfl⟩
  rw [ht]
  have HT := Lib.hid ht
  clear ht
  go_enter Tryz.func16, Tryz.ntmps16
  by_cases hl : a.length = b.length
  · have TL : ((a.length : Int) != (b.length : Int)) = false := by rw [bne_eq_false_iff_eq]; omega
    go_wp2_with fail
    go_loopw [5] (fun q wr => ∃ k : Nat, k ≤ b.length ∧ q = .int .i64 k ∧ Ext w wr ∧ a.take k = b.take k) (fun q _ => b.length - (intOf q).toNat)
    case atStart => exact ⟨0, Nat.zero_le _, rfl, Ext.refl _, rfl⟩
    case round =>
      obtain ⟨k, hk, rfl, hb3, htk⟩ := hrel
      have HB3 := Lib.hid hb3
      have HTK := Lib.hid htk
      clear hb3 htk
      by_cases hlt : k < b.length
      · have hlt' : k < a.length := by omega
        obtain ⟨bba, oa, _, e1, _, _, x0⟩ := HA.out.get hlt'
        obtain ⟨bb, ob, _, e2, _, _, y0⟩ := HB.out.get hlt
        simp only [Value.slice.injEq] at e1 e2
        obtain ⟨rfl, -, rfl⟩ := e1
        obtain ⟨rfl, -, rfl⟩ := e2
        have X := FuncC.stays HB3.out.stays x0
        have Y := FuncC.stays HB3.out.stays y0
        have HSE := Lib.hid (fun h => take_succ_same hlt' hlt HTK.out h)
        have HNE : Hid (a[k] ≠ b[k] → t = false) := by
          unfold Hid
          intro h
          rw [← HT.out]
          exact decide_eq_false (fun e => h (by simp [e]))
        clear x0 y0 HT
        generalize a[k] = x at *
        generalize b[k] = y at *
        obtain ⟨vx, hx, x2⟩ := X.toV
        obtain ⟨vy, hy, y2⟩ := Y.toV
        obtain ⟨⟨_, x0, _⟩, ⟨_, x1, _⟩, _⟩ := X
        obtain ⟨⟨_, y0, _⟩, ⟨_, y1, _⟩, _⟩ := Y
        have HX := Lib.hid hx
        have HY := Lib.hid hy
        clear hx hy
        cases hd : decide (x = y) with
        | true =>
          have HS := Lib.hid (HSE.out (of_decide_eq_true hd))
          have HD := Lib.hid hd
          clear HSE HNE hd
          go_wp2_with fail
          refine wp_region_ext (by kernel_rfl) (by kernel_rfl) ?_
          repeat (first
            | go_big_quiet_skip
            | (go_big_quiet_want
               unfold Oper.quiet
               apply Exists.intro
               refine ⟨fun w' hw' => ?_, ?_⟩
               focus
                 have hcq := Ext.keep hw'
                 go_simp
                 first
                   | with_reducible rfl
                   | (go_at_call 37; refine (sameFuncs_any x y _ _ S T _ (FuncV.stays (Ext.stays hw') HX.out) (FuncV.stays (Ext.stays hw') HY.out)).mono ?_; rintro e w2 ⟨rfl, hx2⟩; rw [HD.out]; exact ⟨rfl, hw'.trans hx2⟩)
               (try dsimp only [Act.put])
               (try simp only [List.setIfInBounds_toArray, List.set_cons_succ, List.set_cons_zero])
               go_big_quiet_on))
          refine wpQuiet_nil ?_
          intro wq hq
          go_wp2_with fail
          go_roundw
          case rel => exact ⟨k + 1, by omega, by go_num, HB3.out.trans hq, HS.out⟩
          case measure => simp [intOf]; omega
        | false =>
          have HF := Lib.hid (HNE.out (of_decide_eq_false hd))
          have HD := Lib.hid hd
          clear HSE HNE hd
          go_wp2_with fail
          refine wp_region_ext (by kernel_rfl) (by kernel_rfl) ?_
          repeat (first
            | go_big_quiet_skip
            | (go_big_quiet_want
               unfold Oper.quiet
               apply Exists.intro
               refine ⟨fun w' hw' => ?_, ?_⟩
               focus
                 have hcq := Ext.keep hw'
                 go_simp
                 first
                   | with_reducible rfl
                   | (go_at_call 37; refine (sameFuncs_any x y _ _ S T _ (FuncV.stays (Ext.stays hw') HX.out) (FuncV.stays (Ext.stays hw') HY.out)).mono ?_; rintro e w2 ⟨rfl, hx2⟩; rw [HD.out]; exact ⟨rfl, hw'.trans hx2⟩)
               (try dsimp only [Act.put])
               (try simp only [List.setIfInBounds_toArray, List.set_cons_succ, List.set_cons_zero])
               go_big_quiet_on))
          refine wpQuiet_nil ?_
          intro wq hq
          go_wp2_with fail
          go_ret
          exact ⟨by rw [HF.out]; rfl, HB3.out.trans hq⟩
      · obtain rfl : k = b.length := by omega
        have HF : Hid (t = true) := by
          unfold Hid
          rw [← HT.out]
          exact decide_eq_true (take_all_same hl (by rw [hl]; exact HTK.out))
        clear hlt
        go_wp2_with fail
        go_ret
        exact ⟨by rw [HF.out]; rfl, HB3.out⟩
  · have TL : ((a.length : Int) != (b.length : Int)) = true := bne_iff_ne.2 (by omega)
    have HF : Hid (t = false) := by
      unfold Hid
      rw [← HT.out]
      exact decide_eq_false (fun e => hl (by rw [e]))
    clear hl
    go_wp2_with fail
    go_ret
    exact ⟨by rw [HF.out]; rfl, Ext.refl _⟩
end Go.Proofs.YtgahbngbpfilgaaGreat
end
