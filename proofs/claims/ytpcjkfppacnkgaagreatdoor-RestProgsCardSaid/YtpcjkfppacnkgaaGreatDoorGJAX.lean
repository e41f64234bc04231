/- Merged texts: contracts and plain facts, one part behind another; each part begins with what it says. -/
import Derived.Test.YtpcjkfppacnkgaaGreatDoorGJAD
import Derived.Test.YtpcjkfppacnkgaaGreatDoorGJAN
import Derived.Test.YtpcjkfppacnkgaaGreatDoorGJAR
import Derived.Test.YtpcjkfppacnkgaaGreatDoorGJAU
import Derived.Test.YtpcjkfppacnkgaaGreatDoorGJAW
section
/- Contract of the document's laid for nodes of two parts (a region that draws its order, in each of its orders), and for all trees. Printed by wip/gen_forged.py. No condition but that there is room. -/
set_option maxHeartbeats 8000000
set_option maxRecDepth 100000
namespace Go.Proofs.YtpcjkfppacnkgaaGreatDoor
open Go Go.RowKit

/-- A block apart from the row that grows stays as it is. -/
theorem NewRow.keep12 {W W' : World} {B b n : Nat} {v v' : Value} {xs news : List Value} (hn : NewRow W W' B 2 v v' n xs) (hs : SrcSl W 2 (.slice (some ⟨b, 0, none⟩) 1 1) 1 news) (hb : b < W.heap.size) (hv : rowBlock v ≠ some b) :
    SrcSl W' 2 (.slice (some ⟨b, 0, none⟩) 1 1) 1 news ∧ b < W'.heap.size ∧ rowBlock v' ≠ some b := by
  obtain ⟨_, hch, hg⟩ := hn
  refine ⟨?_, by have := hch.size; omega, ?_⟩
  · obtain ⟨a, c, e, h1, h2, h3⟩ := hs
    simp only [Value.slice.injEq] at e
    obtain ⟨rfl, _, rfl⟩ := e
    refine ⟨_, _, rfl, h1, h2, h3.imp id fun ⟨ad, e, h⟩ => ⟨ad, e, fun j u hj => ?_⟩⟩
    have h0 := h j u hj
    simp only [Option.some.injEq] at e
    subst e
    have ea : (⟨b, 0, none⟩ : Addr).add j = ⟨b, 0 + j, none⟩ := Addr.add_lit _ _ _
    rw [ea] at h0 ⊢
    exact hch.cell hv h0
  · intro e
    rcases hg with h | h
    · exact hv (h ▸ e)
    · have := h b e; omega

theorem laid_two (x : GNode) (ta tb : ETree) (hx : 2 ≤ x.kind ∧ x.kind ≤ 6) (ha : LaidC ta) (hb : LaidC tb) : LaidC (.two x ta tb) := by
  intro S rest w v k hv hl
  have e0 : Ext w (w.alloc (.cells #[.int .i64 x.kind, .int .i64 x.n] 140)) := (Ext.refl w).alloc _
  rw [show (ETree.two x ta tb).flat ++ rest = x :: (ta.flat ++ (tb.flat ++ rest)) by simp [ETree.flat]] at hv
  obtain ⟨b, o, cap, rfl, hcap, hby, ⟨_, g0, _⟩, _, g1, _⟩ := hv.get (i := 0) (by simp)
  have HV := Lib.hid (Nodes.stays (T := S) e0.drew.stays hv.tail)
  have hc1 : ¬ cap = 1 := by have := ETree.flat_pos ta; simp at hcap; omega
  rw [if_neg hc1] at HV
  have RA := alloc_keep
  have hcost : (ETree.two x ta tb).cost = ta.cost + tb.cost + 1 := rfl
  rw [hcost] at hl
  have HA := Lib.hid ha
  have HB := Lib.hid hb
  have HL := Lib.hid hl
  have p1 := ta.cost_pos
  simp only [Nat.zero_mul, Nat.add_zero, List.getElem_cons_zero] at g0 g1 hcap
  simp only [List.length_append] at HV
  simp only [List.length_cons]
  obtain ⟨k1, hk1⟩ : ∃ k1, k + ta.cost = k1 := ⟨_, rfl⟩
  have W1 : IntKind.i64.wrap ((k : Int) + (ta.cost : Int)) = (k1 : Int) := by rw [IntWalk.i64_in _ (by omega)]; omega
  obtain ⟨n2, hn2⟩ : ∃ n, ta.cost + tb.cost = n := ⟨_, rfl⟩
  obtain ⟨n3, hn3⟩ : ∃ n, n2 + 1 = n := ⟨_, rfl⟩
  have hn5 : (ETree.two x ta tb).cost = n3 := by rw [hcost]; omega
  rw [hn5]
  have HNL := Lib.hid (show n2 ≤ 1000 ∧ n3 ≤ 1000 by omega)
  have HN := Lib.hid (⟨hn2, hn3⟩ : _ ∧ _)
  have HK := Lib.hid hk1
  have HLD : Hid ((ETree.two x ta tb).laid k = ta.laid k ++ (tb.laid k1 ++ [⟨x.kind + 2, 0⟩])) := by
    unfold Hid
    rw [ETree.laid, hk1]
  clear hv ha hb hl hcost hk1 hn2 hn3 hn5
  obtain ⟨o0, ho0, hoz0, hoz1, hoz2⟩ := info_parts infoO
  obtain ⟨xk, xn⟩ := x
  simp only at hx
  obtain ⟨j, hj5, hj⟩ : ∃ j : Nat, j < 5 ∧ xk = (j : Int) + 2 := ⟨(xk - 2).toNat, by omega, by omega⟩
  have T0 : (xk == 0) = false := beq_eq_false_iff_ne.2 (by omega)
  have T1 : (xk == 1) = false := beq_eq_false_iff_ne.2 (by omega)
  have T7 : (xk == 7) = false := beq_eq_false_iff_ne.2 (by omega)
  have WX : IntKind.i64.wrap (xk - 2) = (j : Int) := by rw [IntWalk.i64_in _ (by omega)]; omega
  have J1 : (j : Int) < 5 := by omega
  obtain ⟨xk2, hxk2⟩ : ∃ z : Int, xk + 2 = z := ⟨_, rfl⟩
  simp only at g0 g1 HV e0 HLD
  rw [hxk2] at HLD
  have HX2 : Hid (([.int .i64 4, .int .i64 5, .int .i64 6, .int .i64 7, .int .i64 8] : List Value)[j]? = some (.int .i64 xk2)) := by
    unfold Hid
    have : xk2 = (j : Int) + 4 := by omega
    rw [this]
    match j, hj5 with
    | 0, _ => rfl
    | 1, _ => rfl
    | 2, _ => rfl
    | 3, _ => rfl
    | 4, _ => rfl
  clear hx hj hj5 hxk2
  go_enter Tryz.func104, Tryz.ntmps104
  go_wp2
  go_region
  have x0 := ((Cx.new w [.int .i64 xk, .int .i64 xn] 140 (j := 0) rfl).ext (Ext.refl _).drew).1
  have hE1 : Ext w (w.alloc (.cells #[.int .i64 xk, .int .i64 xn] 140)).drew := e0.drew
  obtain ⟨X, hX⟩ : ∃ X, w.heap.size = X := ⟨_, rfl⟩
  rw [hX] at x0 ⊢
  generalize (w.alloc (.cells #[.int .i64 xk, .int .i64 xn] 140)).drew = w1 at *
  go_upto_region 7 with (first
    | (go_at_call 104; (with_reducible refine (LaidC.call HA.out k HV.out (by have := HL.out; omega)).mono ?_); rintro e w2 ⟨⟨va, v2, rfl, hra, hv2⟩, hb2⟩; obtain ⟨aa, ca, rfl, _, _⟩ := hra.shape; replace x0 := Ext.cell hb2 x0))
  go_upto_region 15 with (first
    | (go_at_call 104; (with_reducible refine (LaidC.call HB.out k1 hv2 (by have := HL.out; have := HK.out; omega)).mono ?_); rintro e w3 ⟨⟨vb, v3, rfl, hrb, hv3⟩, hb3⟩; obtain ⟨ab, cb, rfl, _, _⟩ := hrb.shape; replace x0 := Ext.cell hb3 x0))
  go_upto_region 16 with fail
  have tj := (Cx.new w3 [.int .i64 4, .int .i64 5, .int .i64 6, .int .i64 7, .int .i64 8] 3 (j := j) HX2.out).1
  have hq0 : Ext w3 (w3.alloc (.cells #[.int .i64 4, .int .i64 5, .int .i64 6, .int .i64 7, .int .i64 8] 3)) := (Ext.refl _).alloc _
  obtain ⟨T, hT⟩ : ∃ T, w3.heap.size = T := ⟨_, rfl⟩
  rw [hT] at tj ⊢
  generalize w3.alloc (.cells #[.int .i64 4, .int .i64 5, .int .i64 6, .int .i64 7, .int .i64 8] 3) = W0 at *
  replace x0 := Ext.cell hq0 x0
  have hra0 := hra.ext (hb3.trans hq0) (by decide)
  have hrb0 := hrb.ext hq0 (by decide)
  have hv0 := Nodes.stays hq0.stays hv3
  have hb0 := hE1.trans (hb2.trans (hb3.trans hq0))
  have HBW := Lib.hid hb0
  have HEND : Hid (∀ (W : World) (a : Option Addr) (c : Nat), RowAt W W0.heap.size 2 (.slice a n3 c) n3 (((ta.laid k).flatMap opF ++ (tb.laid k1).flatMap opF) ++ opF ⟨xk2, 0⟩) → Ext W0 W →
      (∃ v1 v2, Ending.returned (.tuple #[.slice a n3 c, v3]) = Ending.returned (.tuple #[v1, v2]) ∧ RowAt W w.heap.size 2 v1 n3 (((ETree.two ⟨xk, xn⟩ ta tb).laid k).flatMap opF) ∧ Nodes W S v2 rest) ∧ Ext w W) := by
    intro W a c hr hE
    refine ⟨⟨_, _, rfl, ?_, Nodes.stays hE.stays hv0⟩, HBW.out.trans hE⟩
    rw [HLD.out]
    have e : (ta.laid k ++ (tb.laid k1 ++ [(⟨xk2, 0⟩ : GOp)])).flatMap opF = ((ta.laid k).flatMap opF ++ (tb.laid k1).flatMap opF) ++ opF ⟨xk2, 0⟩ := by
      simp [List.flatMap_append, List.flatMap_cons, List.append_assoc]
    rw [e]
    exact hr.mono HBW.out.size
  have S2 : Hid (∀ W, Ext W0 W → W.cell? ⟨X, 0, none⟩ = some (.int .i64 xk) ∧ W.cell? ⟨T, j, none⟩ = some (.int .i64 xk2)) := fun W h => ⟨Ext.cell h x0, Ext.cell h tj⟩
  clear hra hrb hv2 hv3 hb2 hb3 hq0 hE1 e0 hT hX hv0 hb0 g0 g1 HV hcap hby p1
  refine wp_region_rw (fun W => W.cell? ⟨X, 0, none⟩ = some (.int .i64 xk) ∧ W.cell? ⟨T, j, none⟩ = some (.int .i64 xk2)) 16 [1, 3, 5, 6, 7, 8, 9, 10, 11, 14] 7 (by kernel_rfl) (by kernel_rfl) (fun _ _ _ _ _ h => h) (S2.out _ (by ((repeat (first | assumption | exact Ext.refl _ | (exact And.left (by assumption)) | refine Ext.alloc ?_ _ | refine Ext.drew ?_ | refine Ext.drewN ?_ _ | refine Ext.setCell ?_ (by simp) _ | refine Ext.setCell ?_ (by simp; omega) _ | refine Ext.trans ?_ (by assumption))); done))) ?_
  (try simp only [pickOps, List.filterMap_cons, List.filterMap_nil, List.getElem?_cons_zero, List.getElem?_cons_succ])
  repeat (
    refine readsQ_do (by rfl) ?_
    apply Exists.intro
    refine ⟨fun w' hw' => ?_, ?_⟩
    focus
      (try dsimp only at hw')
      go_split_ands
      go_simp
      (try with_reducible rfl)
    (try dsimp only [Act.put])
    (try simp only [List.setIfInBounds_toArray, List.set_cons_succ, List.set_cons_zero]))
  refine readsQ_nil ?_
  refine wpAnyW_two 0 12 (by kernel_rfl) rfl rfl ?_ ?_
  · go_wp2_with fail
    refine nextA_go (S2.out _ (by ((repeat (first | assumption | exact Ext.refl _ | (exact And.left (by assumption)) | refine Ext.alloc ?_ _ | refine Ext.drew ?_ | refine Ext.drewN ?_ _ | refine Ext.setCell ?_ (by simp) _ | refine Ext.setCell ?_ (by simp; omega) _ | refine Ext.trans ?_ (by assumption))); done))) ?_
    refine wpAnyW_two 2 12 (by kernel_rfl) rfl rfl ?_ ?_
    · change wpList _ _ _ [Oper.mk _ _ _ _ _ _] _ _
      go_wp2_with (first
        | (at_builtin; refine wpList_append_row rfl _ _ 47 rfl W0.heap.size 51 o0 (.agg #[.int .i64 0, .int .i64 0]) 2 16 Tryz.underlying47 ho0 hoz0 hoz1 hoz2 rfl (by decide) _ _ _ rfl (by exact RowAt.nil _ _ _ _) ta.cost ((ta.laid k).flatMap opF) (by exact (hra0.srcO.upE (by ((repeat (first | assumption | exact Ext.refl _ | (exact And.left (by assumption)) | refine Ext.alloc ?_ _ | refine Ext.drew ?_ | refine Ext.drewN ?_ _ | refine Ext.setCell ?_ (by simp) _ | refine Ext.setCell ?_ (by simp; omega) _ | refine Ext.trans ?_ (by assumption))); done)))) (by have := HL.out; have := HNL.out; unfold maxLen; omega) (by have := HL.out; have := HNL.out; omega) (by exact Ext.size (show Ext W0 _ from (by ((repeat (first | assumption | exact Ext.refl _ | (exact And.left (by assumption)) | refine Ext.alloc ?_ _ | refine Ext.drew ?_ | refine Ext.drewN ?_ _ | refine Ext.setCell ?_ (by simp) _ | refine Ext.setCell ?_ (by simp; omega) _ | refine Ext.trans ?_ (by assumption))); done)))) ?_; intro v5 W5w rv5; rw [Nat.zero_add, List.nil_append] at rv5; have h5 := Lib.hid (NewRow.on (W0 := W0) (by ((repeat (first | assumption | exact Ext.refl _ | (exact And.left (by assumption)) | refine Ext.alloc ?_ _ | refine Ext.drew ?_ | refine Ext.drewN ?_ _ | refine Ext.setCell ?_ (by simp) _ | refine Ext.setCell ?_ (by simp; omega) _ | refine Ext.trans ?_ (by assumption))); done)) (RowAt.nil _ _ _ _) rv5); obtain ⟨a5, c5, rfl, _, _⟩ := rv5.1.shape; clear rv5))
      refine nextA_go (S2.out _ h5.out.2) ?_
      refine wpAnyW_two 4 12 (by kernel_rfl) rfl rfl ?_ ?_
      · change wpList _ _ _ [Oper.mk _ _ _ _ _ _] _ _
        go_wp2_with (first
          | (at_builtin; refine wpList_append_row rfl _ _ 47 rfl W0.heap.size 51 o0 (.agg #[.int .i64 0, .int .i64 0]) 2 16 Tryz.underlying47 ho0 hoz0 hoz1 hoz2 rfl (by decide) _ _ _ rfl (by exact h5.out.1) tb.cost ((tb.laid k1).flatMap opF) (by exact (hrb0.srcO.upE h5.out.2)) (by have := HL.out; have := HNL.out; unfold maxLen; omega) (by have := HL.out; have := HNL.out; omega) (by exact Ext.size (show Ext W0 _ from h5.out.2)) ?_; intro v6 W6w rv6; rw [HN.out.1] at rv6; have h6 := Lib.hid (NewRow.on (W0 := W0) h5.out.2 (h5.out.1) rv6); obtain ⟨a6, c6, rfl, _, _⟩ := rv6.1.shape; clear rv6))
        refine nextA_go (S2.out _ h6.out.2) ?_
        refine wpAnyW_one 12 (by kernel_rfl) rfl ?_
        go_wp2_with fail
        refine nextA_go (S2.out _ (h6.out.2.alloc _)) ?_
        refine wpAnyW_one 13 (by kernel_rfl) rfl ?_
        change wpList _ _ _ [Oper.mk _ _ _ _ _ _] _ _
        go_wp2_with (first
          | (at_builtin; refine wpList_append_row rfl _ _ 47 rfl W0.heap.size 51 o0 (.agg #[.int .i64 0, .int .i64 0]) 2 16 Tryz.underlying47 ho0 hoz0 hoz1 hoz2 rfl (by decide) _ _ _ rfl (by exact h6.out.1.ext ((Ext.refl _).alloc _) (by decide)) 1 (opF ⟨xk2, 0⟩) (by exact src_op _ ⟨xk2, 0⟩ _) (by have := HL.out; have := HNL.out; unfold maxLen; omega) (by have := HL.out; have := HNL.out; omega) (by exact Ext.size (show Ext W0 _ from (h6.out.2.alloc _))) ?_; intro v7 W7w rv7; rw [HN.out.2] at rv7; have h7 := Lib.hid (NewRow.on (W0 := W0) (h6.out.2.alloc _) (h6.out.1.ext ((Ext.refl _).alloc _) (by decide)) rv7); obtain ⟨a7, c7, rfl, _, _⟩ := rv7.1.shape; clear rv7))
        refine nextA_go (S2.out _ h7.out.2) ?_
        refine wpAnyW_one 15 (by kernel_rfl) rfl ?_
        go_wp2_with fail
        refine nextA_go (S2.out _ h7.out.2) ?_
        refine wpAnyW_one 16 (by kernel_rfl) rfl ?_
        go_wp2_with fail
        refine nextA_end rfl (by kernel_rfl) ?_
        go_wp2_with fail
        go_ret2
        exact HEND.out _ _ _ h7.out.1 h7.out.2
      · go_wp2_with fail
        refine nextA_go (S2.out _ (h5.out.2.alloc _)) ?_
        refine wpAnyW_one 4 (by kernel_rfl) rfl ?_
        change wpList _ _ _ [Oper.mk _ _ _ _ _ _] _ _
        go_wp2_with (first
          | (at_builtin; refine wpList_append_row rfl _ _ 47 rfl W0.heap.size 51 o0 (.agg #[.int .i64 0, .int .i64 0]) 2 16 Tryz.underlying47 ho0 hoz0 hoz1 hoz2 rfl (by decide) _ _ _ rfl (by exact h5.out.1.ext ((Ext.refl _).alloc _) (by decide)) tb.cost ((tb.laid k1).flatMap opF) (by exact (hrb0.srcO.upE (h5.out.2.alloc _))) (by have := HL.out; have := HNL.out; unfold maxLen; omega) (by have := HL.out; have := HNL.out; omega) (by exact Ext.size (show Ext W0 _ from (h5.out.2.alloc _))) ?_; intro v6 W6w rv6; rw [HN.out.1] at rv6; have h6 := Lib.hid (NewRow.on (W0 := W0) (h5.out.2.alloc _) (h5.out.1.ext ((Ext.refl _).alloc _) (by decide)) rv6); have k6 := Lib.hid (rv6.keep12 (src_op _ ⟨xk2, 0⟩ _) (by simp) (fun q => by have := h5.out.1.lt2 (by decide) _ q; omega)); obtain ⟨a6, c6, rfl, _, _⟩ := rv6.1.shape; clear rv6))
        refine nextA_go (S2.out _ h6.out.2) ?_
        refine wpAnyW_one 13 (by kernel_rfl) rfl ?_
        change wpList _ _ _ [Oper.mk _ _ _ _ _ _] _ _
        go_wp2_with (first
          | (at_builtin; refine wpList_append_row rfl _ _ 47 rfl W0.heap.size 51 o0 (.agg #[.int .i64 0, .int .i64 0]) 2 16 Tryz.underlying47 ho0 hoz0 hoz1 hoz2 rfl (by decide) _ _ _ rfl (by exact h6.out.1) 1 (opF ⟨xk2, 0⟩) (by exact k6.out.1) (by have := HL.out; have := HNL.out; unfold maxLen; omega) (by have := HL.out; have := HNL.out; omega) (by exact Ext.size (show Ext W0 _ from h6.out.2)) ?_; intro v7 W7w rv7; rw [HN.out.2] at rv7; have h7 := Lib.hid (NewRow.on (W0 := W0) h6.out.2 (h6.out.1) rv7); obtain ⟨a7, c7, rfl, _, _⟩ := rv7.1.shape; clear rv7))
        refine nextA_go (S2.out _ h7.out.2) ?_
        refine wpAnyW_one 15 (by kernel_rfl) rfl ?_
        go_wp2_with fail
        refine nextA_go (S2.out _ h7.out.2) ?_
        refine wpAnyW_one 16 (by kernel_rfl) rfl ?_
        go_wp2_with fail
        refine nextA_end rfl (by kernel_rfl) ?_
        go_wp2_with fail
        go_ret2
        exact HEND.out _ _ _ h7.out.1 h7.out.2
    · go_wp2_with fail
      refine nextA_go (S2.out _ (by ((repeat (first | assumption | exact Ext.refl _ | (exact And.left (by assumption)) | refine Ext.alloc ?_ _ | refine Ext.drew ?_ | refine Ext.drewN ?_ _ | refine Ext.setCell ?_ (by simp) _ | refine Ext.setCell ?_ (by simp; omega) _ | refine Ext.trans ?_ (by assumption))); done))) ?_
      refine wpAnyW_one 2 (by kernel_rfl) rfl ?_
      change wpList _ _ _ [Oper.mk _ _ _ _ _ _] _ _
      go_wp2_with (first
        | (at_builtin; refine wpList_append_row rfl _ _ 47 rfl W0.heap.size 51 o0 (.agg #[.int .i64 0, .int .i64 0]) 2 16 Tryz.underlying47 ho0 hoz0 hoz1 hoz2 rfl (by decide) _ _ _ rfl (by exact RowAt.nil _ _ _ _) ta.cost ((ta.laid k).flatMap opF) (by exact (hra0.srcO.upE (by ((repeat (first | assumption | exact Ext.refl _ | (exact And.left (by assumption)) | refine Ext.alloc ?_ _ | refine Ext.drew ?_ | refine Ext.drewN ?_ _ | refine Ext.setCell ?_ (by simp) _ | refine Ext.setCell ?_ (by simp; omega) _ | refine Ext.trans ?_ (by assumption))); done)))) (by have := HL.out; have := HNL.out; unfold maxLen; omega) (by have := HL.out; have := HNL.out; omega) (by exact Ext.size (show Ext W0 _ from (by ((repeat (first | assumption | exact Ext.refl _ | (exact And.left (by assumption)) | refine Ext.alloc ?_ _ | refine Ext.drew ?_ | refine Ext.drewN ?_ _ | refine Ext.setCell ?_ (by simp) _ | refine Ext.setCell ?_ (by simp; omega) _ | refine Ext.trans ?_ (by assumption))); done)))) ?_; intro v5 W5w rv5; rw [Nat.zero_add, List.nil_append] at rv5; have h5 := Lib.hid (NewRow.on (W0 := W0) (by ((repeat (first | assumption | exact Ext.refl _ | (exact And.left (by assumption)) | refine Ext.alloc ?_ _ | refine Ext.drew ?_ | refine Ext.drewN ?_ _ | refine Ext.setCell ?_ (by simp) _ | refine Ext.setCell ?_ (by simp; omega) _ | refine Ext.trans ?_ (by assumption))); done)) (RowAt.nil _ _ _ _) rv5); have q5 := rv5.keep12 (src_op _ ⟨xk2, 0⟩ _) (by simp) (by show rowBlock (.slice (some ⟨_, 0, none⟩) 0 0) ≠ _; simp [rowBlock]); rw [show (W0.alloc (.cells #[] 51)).heap.size = W0.heap.size + 1 from Array.size_push _] at q5; have k5 := Lib.hid q5; clear q5; obtain ⟨a5, c5, rfl, _, _⟩ := rv5.1.shape; clear rv5))
      refine nextA_go (S2.out _ h5.out.2) ?_
      refine wpAnyW_one 4 (by kernel_rfl) rfl ?_
      change wpList _ _ _ [Oper.mk _ _ _ _ _ _] _ _
      go_wp2_with (first
        | (at_builtin; refine wpList_append_row rfl _ _ 47 rfl W0.heap.size 51 o0 (.agg #[.int .i64 0, .int .i64 0]) 2 16 Tryz.underlying47 ho0 hoz0 hoz1 hoz2 rfl (by decide) _ _ _ rfl (by exact h5.out.1) tb.cost ((tb.laid k1).flatMap opF) (by exact (hrb0.srcO.upE h5.out.2)) (by have := HL.out; have := HNL.out; unfold maxLen; omega) (by have := HL.out; have := HNL.out; omega) (by exact Ext.size (show Ext W0 _ from h5.out.2)) ?_; intro v6 W6w rv6; rw [HN.out.1] at rv6; have h6 := Lib.hid (NewRow.on (W0 := W0) h5.out.2 (h5.out.1) rv6); have k6 := Lib.hid (rv6.keep12 k5.out.1 k5.out.2.1 k5.out.2.2); obtain ⟨a6, c6, rfl, _, _⟩ := rv6.1.shape; clear rv6))
      refine nextA_go (S2.out _ h6.out.2) ?_
      refine wpAnyW_one 13 (by kernel_rfl) rfl ?_
      change wpList _ _ _ [Oper.mk _ _ _ _ _ _] _ _
      go_wp2_with (first
        | (at_builtin; refine wpList_append_row rfl _ _ 47 rfl W0.heap.size 51 o0 (.agg #[.int .i64 0, .int .i64 0]) 2 16 Tryz.underlying47 ho0 hoz0 hoz1 hoz2 rfl (by decide) _ _ _ rfl (by exact h6.out.1) 1 (opF ⟨xk2, 0⟩) (by exact k6.out.1) (by have := HL.out; have := HNL.out; unfold maxLen; omega) (by have := HL.out; have := HNL.out; omega) (by exact Ext.size (show Ext W0 _ from h6.out.2)) ?_; intro v7 W7w rv7; rw [HN.out.2] at rv7; have h7 := Lib.hid (NewRow.on (W0 := W0) h6.out.2 (h6.out.1) rv7); obtain ⟨a7, c7, rfl, _, _⟩ := rv7.1.shape; clear rv7))
      refine nextA_go (S2.out _ h7.out.2) ?_
      refine wpAnyW_one 15 (by kernel_rfl) rfl ?_
      go_wp2_with fail
      refine nextA_go (S2.out _ h7.out.2) ?_
      refine wpAnyW_one 16 (by kernel_rfl) rfl ?_
      go_wp2_with fail
      refine nextA_end rfl (by kernel_rfl) ?_
      go_wp2_with fail
      go_ret2
      exact HEND.out _ _ _ h7.out.1 h7.out.2
  · go_wp2_with fail
    refine nextA_go (S2.out _ (by ((repeat (first | assumption | exact Ext.refl _ | (exact And.left (by assumption)) | refine Ext.alloc ?_ _ | refine Ext.drew ?_ | refine Ext.drewN ?_ _ | refine Ext.setCell ?_ (by simp) _ | refine Ext.setCell ?_ (by simp; omega) _ | refine Ext.trans ?_ (by assumption))); done))) ?_
    refine wpAnyW_one 0 (by kernel_rfl) rfl ?_
    go_wp2_with fail
    refine nextA_go (S2.out _ (by ((repeat (first | assumption | exact Ext.refl _ | (exact And.left (by assumption)) | refine Ext.alloc ?_ _ | refine Ext.drew ?_ | refine Ext.drewN ?_ _ | refine Ext.setCell ?_ (by simp) _ | refine Ext.setCell ?_ (by simp; omega) _ | refine Ext.trans ?_ (by assumption))); done))) ?_
    refine wpAnyW_one 2 (by kernel_rfl) rfl ?_
    change wpList _ _ _ [Oper.mk _ _ _ _ _ _] _ _
    go_wp2_with (first
      | (at_builtin; refine wpList_append_row rfl _ _ 47 rfl W0.heap.size 51 o0 (.agg #[.int .i64 0, .int .i64 0]) 2 16 Tryz.underlying47 ho0 hoz0 hoz1 hoz2 rfl (by decide) _ _ _ rfl (by exact RowAt.nil _ _ _ _) ta.cost ((ta.laid k).flatMap opF) (by exact (hra0.srcO.upE (by ((repeat (first | assumption | exact Ext.refl _ | (exact And.left (by assumption)) | refine Ext.alloc ?_ _ | refine Ext.drew ?_ | refine Ext.drewN ?_ _ | refine Ext.setCell ?_ (by simp) _ | refine Ext.setCell ?_ (by simp; omega) _ | refine Ext.trans ?_ (by assumption))); done)))) (by have := HL.out; have := HNL.out; unfold maxLen; omega) (by have := HL.out; have := HNL.out; omega) (by exact Ext.size (show Ext W0 _ from (by ((repeat (first | assumption | exact Ext.refl _ | (exact And.left (by assumption)) | refine Ext.alloc ?_ _ | refine Ext.drew ?_ | refine Ext.drewN ?_ _ | refine Ext.setCell ?_ (by simp) _ | refine Ext.setCell ?_ (by simp; omega) _ | refine Ext.trans ?_ (by assumption))); done)))) ?_; intro v5 W5w rv5; rw [Nat.zero_add, List.nil_append] at rv5; have h5 := Lib.hid (NewRow.on (W0 := W0) (by ((repeat (first | assumption | exact Ext.refl _ | (exact And.left (by assumption)) | refine Ext.alloc ?_ _ | refine Ext.drew ?_ | refine Ext.drewN ?_ _ | refine Ext.setCell ?_ (by simp) _ | refine Ext.setCell ?_ (by simp; omega) _ | refine Ext.trans ?_ (by assumption))); done)) (RowAt.nil _ _ _ _) rv5); have k5 := Lib.hid (rv5.keep12 ((src_op W0 ⟨xk2, 0⟩ _).upE (((Ext.refl _).alloc _).drew)) (by simp; omega) (by show rowBlock (.slice (some ⟨_, 0, none⟩) 0 0) ≠ _; simp [rowBlock])); obtain ⟨a5, c5, rfl, _, _⟩ := rv5.1.shape; clear rv5))
    refine nextA_go (S2.out _ h5.out.2) ?_
    refine wpAnyW_one 4 (by kernel_rfl) rfl ?_
    change wpList _ _ _ [Oper.mk _ _ _ _ _ _] _ _
    go_wp2_with (first
      | (at_builtin; refine wpList_append_row rfl _ _ 47 rfl W0.heap.size 51 o0 (.agg #[.int .i64 0, .int .i64 0]) 2 16 Tryz.underlying47 ho0 hoz0 hoz1 hoz2 rfl (by decide) _ _ _ rfl (by exact h5.out.1) tb.cost ((tb.laid k1).flatMap opF) (by exact (hrb0.srcO.upE h5.out.2)) (by have := HL.out; have := HNL.out; unfold maxLen; omega) (by have := HL.out; have := HNL.out; omega) (by exact Ext.size (show Ext W0 _ from h5.out.2)) ?_; intro v6 W6w rv6; rw [HN.out.1] at rv6; have h6 := Lib.hid (NewRow.on (W0 := W0) h5.out.2 (h5.out.1) rv6); have k6 := Lib.hid (rv6.keep12 k5.out.1 k5.out.2.1 k5.out.2.2); obtain ⟨a6, c6, rfl, _, _⟩ := rv6.1.shape; clear rv6))
    refine nextA_go (S2.out _ h6.out.2) ?_
    refine wpAnyW_one 13 (by kernel_rfl) rfl ?_
    change wpList _ _ _ [Oper.mk _ _ _ _ _ _] _ _
    go_wp2_with (first
      | (at_builtin; refine wpList_append_row rfl _ _ 47 rfl W0.heap.size 51 o0 (.agg #[.int .i64 0, .int .i64 0]) 2 16 Tryz.underlying47 ho0 hoz0 hoz1 hoz2 rfl (by decide) _ _ _ rfl (by exact h6.out.1) 1 (opF ⟨xk2, 0⟩) (by exact k6.out.1) (by have := HL.out; have := HNL.out; unfold maxLen; omega) (by have := HL.out; have := HNL.out; omega) (by exact Ext.size (show Ext W0 _ from h6.out.2)) ?_; intro v7 W7w rv7; rw [HN.out.2] at rv7; have h7 := Lib.hid (NewRow.on (W0 := W0) h6.out.2 (h6.out.1) rv7); obtain ⟨a7, c7, rfl, _, _⟩ := rv7.1.shape; clear rv7))
    refine nextA_go (S2.out _ h7.out.2) ?_
    refine wpAnyW_one 15 (by kernel_rfl) rfl ?_
    go_wp2_with fail
    refine nextA_go (S2.out _ h7.out.2) ?_
    refine wpAnyW_one 16 (by kernel_rfl) rfl ?_
    go_wp2_with fail
    refine nextA_end rfl (by kernel_rfl) ?_
    go_wp2_with fail
    go_ret2
    exact HEND.out _ _ _ h7.out.1 h7.out.2

theorem laid_any (n : Nat) : ∀ t : ETree, t.fits → t.nodes n → LaidC t
  | .leaf x, hf, ho => laid_leaf n x hf ho
  | .two x a b, hf, ho => by
    have hk : 2 ≤ x.kind ∧ x.kind ≤ 6 := by
      have h := ho x (by simp [ETree.flat])
      rcases ETree.fits_two hf with h2 | h2 <;> omega
    exact laid_two x a b hk (laid_any n a hf.2.1 ho.two.1) (laid_any n b hf.2.2 ho.two.2)
  | .three x a b c, hf, ho => by
    have h1 := hf.1
    have hk : x.kind = 7 := by
      unfold sizeN at h1
      split at h1
      · omega
      · split at h1 <;> omega
    exact laid_three x a b c hk (laid_any n a hf.2.1 ho.three.1) (laid_any n b hf.2.2.1 ho.three.2.1) (laid_any n c hf.2.2.2 ho.three.2.2)
end Go.Proofs.YtpcjkfppacnkgaaGreatDoor
end
section
/- Contracts of the document's forged, ForgeFunc and ForgeProg. No condition. -/
set_option maxHeartbeats 4000000
set_option maxRecDepth 100000
namespace Go.Proofs.YtpcjkfppacnkgaaGreatDoor
open Go Go.RowKit

theorem forged_any (t : ETree) (n : Nat) (ht : t.fits) (ho : t.nodes n) (h9 : t.flat.length ≤ 9) (hn : n ≤ 4) (v : Value) (S : Nat → Prop) (w : World) (hp : Nodes w S v t.flat) :
    Calls Tryz.prog 63 #[v, .int .i64 n] w fun e w' => (∃ x, e = .returned x ∧ FuncV w' (w.heap.size ≤ ·) x (t.func n)) ∧ Ext w w' := by
  have HI := Lib.hid (func_i64 t ht ho h9 hn)
  have hc := t.cost_le
  have HCL := Lib.hid (show t.cost ≤ 12 by omega)
  have hlaid := laid_any n t ht ho
  have HLA : Hid (∀ w1, Ext w w1 → Calls Tryz.prog 104 #[v, .int .i64 0] w1 fun e w' => (∃ v1 v2, e = .returned (.tuple #[v1, v2]) ∧ RowAt w' w1.heap.size 2 v1 t.cost ((t.laid 0).flatMap opF) ∧ Nodes w' S v2 []) ∧ Ext w1 w') := fun w1 h =>
    LaidC.call hlaid (rest := []) 0 (by rw [List.append_nil]; exact Nodes.stays h.stays hp) (by omega)
  obtain ⟨a, cap, rfl, _, _, _⟩ := hp
  have RA := alloc_keep
  obtain ⟨o0, ho0, hoz0, hoz1, hoz2⟩ := info_parts infoO
  have hE1 : Ext w (w.alloc (.cells #[.int .i64 0, .int .i64 0, .slice none 0 0] 49)) := (Ext.refl w).alloc _
  have hs1 : (w.alloc (.cells #[.int .i64 0, .int .i64 0, .slice none 0 0] 49)).heap.size = w.heap.size + 1 := Array.size_push _
  have r0 := Cx.new w [.int .i64 0, .int .i64 0, .slice none 0 0] 49 (j := 0) rfl
  have r1 := Cx.new w [.int .i64 0, .int .i64 0, .slice none 0 0] 49 (j := 1) rfl
  have r2 := Cx.new w [.int .i64 0, .int .i64 0, .slice none 0 0] 49 (j := 2) rfl
  have HR := Lib.hid (⟨r0, r1, r2⟩ : _ ∧ _ ∧ _)
  have HE1 := Lib.hid hE1
  have HS1 := Lib.hid hs1
  clear hc hlaid hE1 hs1 r0 r1 r2 ht ho h9
  go_enter Tryz.func63, Tryz.ntmps63
  go_upto_region 2 with (first
    | (go_at_call 104; (with_reducible refine (HLA.out _ HE1.out).mono ?_); rintro e w2 ⟨⟨v1, v2, rfl, hrow, hv2⟩, hb2⟩))
  rw [HS1.out] at hrow
  obtain ⟨a1, c1, rfl, hc1, _⟩ := hrow.shape
  obtain ⟨b2, c2, rfl, _, _, _⟩ := hv2
  have HROW := Lib.hid hrow
  have HB2 := Lib.hid hb2
  have hsz2 : w.heap.size + 1 ≤ w2.heap.size := by have := hb2.size; have := HS1.out; omega
  obtain ⟨L, hL⟩ : ∃ L, t.cost + 1 = L := ⟨_, rfl⟩
  have HLL := Lib.hid hL
  clear hrow hb2 hL
  obtain ⟨d0, d0'⟩ := (HR.out.1).ext HB2.out
  obtain ⟨d1, d1'⟩ := (HR.out.2.1).ext HB2.out
  obtain ⟨d2, d2'⟩ := (HR.out.2.2).ext HB2.out
  go_wp2_with (first
    | (at_builtin; refine wpList_append_row rfl _ _ 47 rfl (w.heap.size + 1) 51 o0 (.agg #[.int .i64 0, .int .i64 0]) 2 16 Tryz.underlying47 ho0 hoz0 hoz1 hoz2 rfl (by decide) _ _ _ rfl (by exact HROW.out.ext ((Ext.refl _).alloc _) (by decide)) 1 (opF ⟨12, 0⟩) (src_op _ ⟨12, 0⟩ _) (by have := HCL.out; unfold maxLen; omega) (by have := HCL.out; omega) (by simp; omega) ?_; intro v3 W3w rv3; rw [HLL.out] at rv3; obtain ⟨a3, c3, rfl, _, _⟩ := rv3.1.shape; have rv4 : NewRow (w2.alloc (.cells #[.int .i64 12, .int .i64 0] 51)) W3w (w.heap.size + 1) 2 (.slice a1 t.cost c1) (.slice a3 L c3) L ((t.laid 0).flatMap opF ++ opF ⟨12, 0⟩) := rv3; have hM : ∀ q, rowBlock (.slice a1 t.cost c1) = some q → w.heap.size + 1 ≤ q := HROW.out.le; have hq3 : Ext w2 (w2.alloc (.cells #[.int .i64 12, .int .i64 0] 51)) := (Ext.refl w2).alloc _; obtain ⟨f0, f0'⟩ := (Cx.ext ⟨d0, d0'⟩ hq3).chg rv4.2.1 (fun e => by have := hM _ e; omega); obtain ⟨f1, f1'⟩ := (Cx.ext ⟨d1, d1'⟩ hq3).chg rv4.2.1 (fun e => by have := hM _ e; omega); obtain ⟨f2, f2'⟩ := (Cx.ext ⟨d2, d2'⟩ hq3).chg rv4.2.1 (fun e => by have := hM _ e; omega); have HE3 := Lib.hid (Chg.ext_from (w := w) ((HE1.out.trans HB2.out).trans hq3) rv4.2.1 (fun q e => by have := hM _ e; omega)); have RV := Lib.hid rv4.1; clear rv3 rv4 hM hq3))
  refine bodyPost_ret (results_cell_mid rfl _ _ w.heap.size 0 _ _ rfl (box3 ⟨f0, f0'⟩ ⟨f1, f1'⟩ ⟨f2, f2'⟩ _ _ _) rfl rfl (by kernel_rfl)) rfl ?_
  refine ⟨⟨_, rfl, _, rfl, I64.small (by show (-1000000 : Int) ≤ n; omega) (by show (n : Int) ≤ 1000000; omega), I64.small (by show (-1000000 : Int) ≤ n; omega) (by show (n : Int) ≤ 1000000; omega), ?_⟩, ext3 HE3.out _ _ _⟩
  have hcl : (t.func n).code.length = L := by unfold ETree.func; simp only [List.length_append, t.laid_len, List.length_singleton]; exact HLL.out
  have hcf : (t.func n).code.flatMap opF = (t.laid 0).flatMap opF ++ opF ⟨12, 0⟩ := by unfold ETree.func; rw [List.flatMap_append, List.flatMap_singleton]
  have hrw : RowAt W3w (w.heap.size + 1) 2 (.slice a3 L c3) (t.func n).code.length ((t.func n).code.flatMap opF) := by rw [hcl, hcf]; exact RV.out
  refine Ops.of_row (l := (t.func n).code) (RowAt.chg (M := (· = w.heap.size)) hrw (chg3 _ _ _ _ _) (fun g e hg => ?_) (by decide)) (by have := HCL.out; have := HLL.out; omega) HI.out _ (fun b hb _ => ?_)
  · have h1 := hrw.le _ e
    omega
  · show w.heap.size ≤ b
    omega

theorem NewRow.cast {w w' : World} {b s n n' : Nat} {v v' : Value} {xs xs' : List Value} (h : NewRow w w' b s v v' n xs) (hn : n' = n) (hx : xs' = xs) : NewRow w w' b s v v' n' xs' := by
  subst hn hx
  exact h
/-- Two ops in a new block. -/
theorem src_ops (w : World) (y z : GOp) (t : TypeId) : SrcSl (w.alloc (.cells #[.int .i64 y.kind, .int .i64 y.a, .int .i64 z.kind, .int .i64 z.a] t)) 2 (.slice (some ⟨w.heap.size, 0, none⟩) 2 2) 2 (opF y ++ opF z) := by
  refine ⟨_, 2, rfl, rfl, by simp [opF, Value.oneCell'], .inr ⟨_, rfl, fun j u hj => ?_⟩⟩
  match j, hj with
  | 0, hj => cases hj; rw [Addr.add_zero']; exact World.cell?_alloc_new w _ _ 0
  | 1, hj => cases hj; exact World.cell?_alloc_new w _ _ 1
  | 2, hj => cases hj; exact World.cell?_alloc_new w _ _ 2
  | 3, hj => cases hj; exact World.cell?_alloc_new w _ _ 3

/-- The first function, its ops one by one. -/
structure MainS (w : World) (b : Nat) (c : List GOp) (v : Value) : Prop where
  c0 : Cx w b 0 (.int .i64 0)
  c1 : Cx w b 1 (.int .i64 0)
  c2 : Cx w b 2 v
  row : RowAt w (b + 1) 2 v c.length (c.flatMap opF)
theorem MainS.ext {w w' : World} {b : Nat} {c : List GOp} {v : Value} (h : MainS w b c v) (he : Ext w w') : MainS w' b c v := ⟨h.c0.ext he, h.c1.ext he, h.c2.ext he, h.row.ext he (by decide)⟩
theorem MainS.grow {w W7 W8 : World} {b n : Nat} {c c' : List GOp} {v v1 : Value} (h : MainS w b c v) (he : Ext w W7) (hn : NewRow W7 W8 (b + 1) 2 v v1 c'.length (c'.flatMap opF)) (hb : n ≤ b) :
    MainS (W8.setCell ⟨b, 2, none⟩ v1) b c' v1 ∧ Cx W8 b 2 v ∧ ∀ w0, w0.heap.size = n → Ext w0 w → Ext w0 (W8.setCell ⟨b, 2, none⟩ v1) := by
  have hM := h.row.le
  obtain ⟨n1, hch, _⟩ := hn
  have k0 := (h.c0.ext he).chg hch (fun e => by have := hM _ e; omega)
  have k1 := (h.c1.ext he).chg hch (fun e => by have := hM _ e; omega)
  have k2 := (h.c2.ext he).chg hch (fun e => by have := hM _ e; omega)
  refine ⟨⟨k0.other (.inr (by decide)) _, k1.other (.inr (by decide)) _, k2.set _, n1.chg (chg_one W8 b 2 v1) (fun q e hq => by have := n1.le _ e; omega) (by decide)⟩, k2, fun w0 h0 h1 => ?_⟩
  exact (Chg.ext_from (h1.trans he) hch (fun q e => by have := hM _ e; omega)).setCell (p := ⟨b, 2, none⟩) (by show w0.heap.size ≤ b; omega) _

theorem forgeProgOf_any (es : List GNode) (vals : List Int) (v vv : Value) (S : Nat → Prop) (w : World) (hp : Nodes w S v es) (hv : Ints w S vv vals) :
    Calls Tryz.prog 24 #[v, vv] w fun e w' => (∃ x, e = .returned (.tuple #[x, .int .i64 (forgeErr es vals)]) ∧ Funcs w' (w.heap.size ≤ ·) x (forgePr es vals)) ∧ Ext w w' := by
  have HP := Lib.hid hp
  have HV := Lib.hid hv
  obtain ⟨a, cap, rfl, _, _, _⟩ := hp
  obtain ⟨va, vcap, rfl, _, _, _⟩ := hv
  have RA := alloc_keep
  obtain ⟨o0, ho0, hoz0, hoz1, hoz2⟩ := info_parts infoO
  by_cases h0 : exprErr es vals.length = 0
  · have H0 := Lib.hid h0
    obtain ⟨t, ht, he, htr, h9, hl0, hl4, ho⟩ := exprErr_tree h0
    rw [Int.toNat_natCast] at ho
    have hv4 : vals.length ≤ 4 := by omega
    have HOF := Lib.hid (fun (w' : World) (h : Ext w w') => forged_any t vals.length ht ho h9 (by omega) (.slice a es.length cap) S w' (by rw [← he]; exact Nodes.stays h.stays HP.out))
    have HF3 : Hid ((∃ v ∈ vals, ¬ (0 ≤ v ∧ v ≤ 999)) → forgeErr es vals = 3 ∧ forgePr es vals = []) := fun hex => by
      have e : forgeErr es vals = 3 := by unfold forgeErr; rw [if_neg (fun h => h h0), if_pos hex]
      refine ⟨e, ?_⟩
      unfold forgePr
      rw [e, if_neg (by decide)]
    have HF0 : Hid ((∀ v ∈ vals, 0 ≤ v ∧ v ≤ 999) → forgeErr es vals = 0 ∧ forgePr es vals = [mainF vals, t.func vals.length]) := fun hall => by
      have e : forgeErr es vals = 0 := by unfold forgeErr; rw [if_neg (fun h => h h0), if_neg (fun ⟨v, hv, h⟩ => h (hall v hv))]
      refine ⟨e, ?_⟩
      unfold forgePr
      rw [e, if_pos rfl, htr]
    clear h0 he htr ho h9 ht hl0 hl4
    go_enter Tryz.func24, Tryz.ntmps24
    go_upto_region 5 with (first
      | (go_at_call 61; (with_reducible refine (exprError_any es _ S vals.length _ HP.out).mono ?_); rintro e w2 ⟨rfl, rfl⟩; rw [H0.out]))
    have hm0 : MainS (w.alloc (.cells #[.int .i64 0, .int .i64 0, .slice none 0 0] 49)) w.heap.size ((vals.take 0).map pushO) (.slice none 0 0) :=
      ⟨Cx.new w [.int .i64 0, .int .i64 0, .slice none 0 0] 49 (j := 0) rfl, Cx.new w [.int .i64 0, .int .i64 0, .slice none 0 0] 49 (j := 1) rfl, Cx.new w [.int .i64 0, .int .i64 0, .slice none 0 0] 49 (j := 2) rfl, RowAt.nil _ _ _ _⟩
    have hE1 : Ext w (w.alloc (.cells #[.int .i64 0, .int .i64 0, .slice none 0 0] 49)) := (Ext.refl w).alloc _
    obtain ⟨R, hR⟩ : ∃ R, w.heap.size = R := ⟨_, rfl⟩
    rw [hR] at hm0 ⊢
    generalize w.alloc (.cells #[.int .i64 0, .int .i64 0, .slice none 0 0] 49) = w1 at *
    have HM0 := Lib.hid hm0
    have HE1 := Lib.hid hE1
    have HRR := Lib.hid hR
    clear hm0 hE1 hR
    go_wp2_with fail
    go_loopw [8] (fun q wr => ∃ k : Nat, k ≤ vals.length ∧ q = .int .i64 k ∧ (∀ i, i < k → 0 ≤ vals.getD i 0 ∧ vals.getD i 0 ≤ 999) ∧ Ext w wr ∧ ∃ vr, MainS wr R ((vals.take k).map pushO) vr) (fun q _ => vals.length - (intOf q).toNat)
    case atStart => exact ⟨0, Nat.zero_le _, rfl, fun i hi => absurd hi (Nat.not_lt_zero _), HE1.out, _, HM0.out⟩
    case round =>
      obtain ⟨k, hk, rfl, hall, hE, vr, hm⟩ := hrel
      have HALL := Lib.hid hall
      have HE := Lib.hid hE
      have KI : IntKind.i64.wrap ((k : Int) + 1) = (k : Int) + 1 := IntWalk.i64_in _ (by omega)
      obtain ⟨ar, cr, rfl, _, _⟩ := hm.row.shape
      have hlen : ((vals.take k).map pushO).length = k := by rw [List.length_map, List.length_take]; omega
      rw [hlen] at hm
      have HM := Lib.hid hm
      obtain ⟨m0, m0'⟩ := hm.c0
      obtain ⟨m1, m1'⟩ := hm.c1
      obtain ⟨m2, m2'⟩ := hm.c2
      have hRl := hm.c0.lt
      have hrow : RowAt wr (R + 1) 2 (.slice ar k cr) k (((vals.take k).map pushO).flatMap opF) := by have h := hm.row; rw [hlen] at h; exact h
      have HROW := Lib.hid hrow
      clear hall hE hm hlen hrow HM0 HE1
      by_cases hlt : k < vals.length
      · obtain ⟨bw, ow, e2, y00⟩ := Ints.placeOf HV.out hlt
        subst e2
        have hbw : bw < R := by have := lt_of_cell y00; have := HRR.out; omega
        have y0 := Ext.cell HE.out y00
        clear y00
        have HTK := Lib.hid (take_push vals hlt)
        have HMEM : Hid (vals.getD k 0 ∈ vals) := by
          unfold Hid
          rw [show vals.getD k 0 = vals[k] by simp [List.getD, List.getElem?_eq_getElem hlt]]
          exact List.getElem_mem _
        obtain ⟨u, hu⟩ : ∃ u, vals.getD k 0 = u := ⟨_, rfl⟩
        rw [hu] at y0 HTK HMEM
        have HU := Lib.hid hu
        clear hu
        by_cases hin : 0 ≤ u ∧ u ≤ 999
        · have TW : Hid (decide (0 ≤ u ∧ u ≤ 999) = true) := decide_eq_true hin
          have HC1 : Hid (((vals.take (k + 1)).map pushO).length = k + 1) := by unfold Hid; rw [List.length_map, List.length_take]; omega
          have HC2 : Hid (((vals.take (k + 1)).map pushO).flatMap opF = ((vals.take k).map pushO).flatMap opF ++ opF ⟨0, u⟩) := by unfold Hid; rw [HTK.out, List.flatMap_append, List.flatMap_singleton]
          have HALL2 : Hid (∀ i, i < k + 1 → 0 ≤ vals.getD i 0 ∧ vals.getD i 0 ≤ 999) := fun i hi => by
            by_cases e : i = k
            · rw [e, HU.out]; exact hin
            · exact HALL.out i (by omega)
          clear hin
          go_upto_region 10 with (first
            | (go_at_call 62; (with_reducible refine (within_any _ _ _ _).mono ?_); rintro e w2 ⟨rfl, rfl⟩; rw [TW.out]))
          refine wp_region_rt (fun w' => w'.cell? ⟨R, 2, none⟩ = some (.slice ar k cr) ∧ w'.cell? ⟨bw, ow + k, none⟩ = some (.int .i64 u)) 10 [0, 1, 2, 3, 4, 5, 6] [7, 8, 9, 10] (by kernel_rfl) (by kernel_rfl) (fun _ _ _ _ _ h => h) (by refine ⟨?_, ?_⟩ <;> simpa) ?_
          (try simp only [pickOps, List.filterMap_cons, List.filterMap_nil, List.getElem?_cons_zero, List.getElem?_cons_succ])
          repeat (
            refine readsQ_do (by rfl) ?_
            apply Exists.intro
            refine ⟨fun w' hw' => ?_, ?_⟩
            focus
              (try dsimp only at hw')
              go_split_ands
              go_simp
              (try with_reducible rfl)
            (try dsimp only [Act.put])
            (try simp only [List.setIfInBounds_toArray, List.set_cons_succ, List.set_cons_zero]))
          refine readsQ_nil ?_
          refine tailW_step ?_
          go_wp2_with fail
          refine nextW_go (by constructor <;> simp [*]) ?_
          refine tailW_step ?_
          go_wp2_with (first
            | (at_builtin; refine wpList_append_row rfl _ _ 47 rfl (R + 1) 51 o0 (.agg #[.int .i64 0, .int .i64 0]) 2 16 Tryz.underlying47 ho0 hoz0 hoz1 hoz2 rfl (by decide) _ _ _ rfl (by exact HROW.out.ext (by ((repeat (first | assumption | exact Ext.refl _ | (exact And.left (by assumption)) | refine Ext.alloc ?_ _ | refine Ext.drew ?_ | refine Ext.drewN ?_ _ | refine Ext.setCell ?_ (by simp) _ | refine Ext.setCell ?_ (by simp; omega) _ | refine Ext.trans ?_ (by assumption))); done)) (by decide)) 1 (opF ⟨0, u⟩) (src_op _ ⟨0, u⟩ _) (by unfold maxLen; omega) (by omega) (by exact Nat.le_trans hRl (Ext.size (show Ext wr _ by ((repeat (first | assumption | exact Ext.refl _ | (exact And.left (by assumption)) | refine Ext.alloc ?_ _ | refine Ext.drew ?_ | refine Ext.drewN ?_ _ | refine Ext.setCell ?_ (by simp) _ | refine Ext.setCell ?_ (by simp; omega) _ | refine Ext.trans ?_ (by assumption))); done)))) ?_; intro v1 Wv1 rv1; have RV := Lib.hid rv1; obtain ⟨a9, cap9, rfl, _, _⟩ := rv1.1.shape; clear rv1))
          have hq7 : Ext wr (wr.alloc (.cells #[.int .i64 0, .int .i64 u] 51)).drew := ((Ext.refl _).alloc _).drew
          have RV2 : NewRow (wr.alloc (.cells #[.int .i64 0, .int .i64 u] 51)).drew Wv1 (R + 1) 2 (.slice ar k cr) (.slice a9 (k + 1) cap9) ((vals.take (k + 1)).map pushO).length (((vals.take (k + 1)).map pushO).flatMap opF) := by rw [HC1.out, HC2.out]; exact RV.out
          have HG := Lib.hid (MainS.grow (n := w.heap.size) HM.out hq7 RV2 (by have := HRR.out; omega))
          obtain ⟨k2, k2'⟩ := HG.out.2.1
          have y1 := Chg.cell RV2.2.1 (fun e => by have := HROW.out.le _ e; omega) (Ext.cell hq7 y0)
          clear RV RV2 hq7
          refine nextW_go (by exact ⟨k2, y1⟩) ?_
          refine tailW_step ?_
          go_wp2_with fail
          refine nextW_go (by exact ⟨k2, y1⟩) ?_
          refine tailW_step ?_
          go_wp2_with fail
          refine nextW_end ?_
          go_wp2_with fail
          go_roundw
          case rel => exact ⟨k + 1, by omega, by go_num, HALL2.out, HG.out.2.2 w rfl HE.out, _, HG.out.1⟩
          case measure => simp [intOf]; omega
        · have TW : Hid (decide (0 ≤ u ∧ u ≤ 999) = false) := decide_eq_false hin
          have HF := Lib.hid (HF3.out ⟨u, HMEM.out, hin⟩)
          clear hin
          go_wp2_with (first
            | (go_at_call 62; (with_reducible refine (within_any _ _ _ _).mono ?_); rintro e w2 ⟨rfl, rfl⟩; rw [TW.out]))
          go_ret2
          rw [HF.out.1, HF.out.2]
          exact ⟨⟨_, rfl, Sl.nil _ _ _⟩, HE.out⟩
      · obtain rfl : k = vals.length := by omega
        have hallv : ∀ v ∈ vals, 0 ≤ v ∧ v ≤ 999 := fun v hv => by
          obtain ⟨i, hi, e⟩ := List.getElem_of_mem hv
          have := HALL.out i hi
          rw [show vals.getD i 0 = vals[i] by simp [List.getD, List.getElem?_eq_getElem hi], e] at this
          exact this
        have HFF := Lib.hid (HF0.out hallv)
        have HMI := Lib.hid (main_i64 hallv)
        have HC1 : Hid ((mainF vals).code.length = vals.length + 2) := by unfold Hid mainF; simp
        have HC2 : Hid ((mainF vals).code.flatMap opF = ((vals.take vals.length).map pushO).flatMap opF ++ (opF ⟨11, 1⟩ ++ opF ⟨12, 0⟩)) := by
          unfold Hid mainF
          rw [List.take_length, List.flatMap_append]
          rfl
        clear hallv hlt
        go_upto_region 12 with (first
          | (at_builtin; refine wpList_append_row rfl _ _ 47 rfl (R + 1) 51 o0 (.agg #[.int .i64 0, .int .i64 0]) 2 16 Tryz.underlying47 ho0 hoz0 hoz1 hoz2 rfl (by decide) _ _ _ rfl (by exact HROW.out.ext ((Ext.refl _).alloc _) (by decide)) 2 (opF ⟨11, 1⟩ ++ opF ⟨12, 0⟩) (src_ops _ ⟨11, 1⟩ ⟨12, 0⟩ _) (by unfold maxLen; omega) (by omega) (by exact Nat.le_trans hRl (Ext.size (show Ext wr _ by ((repeat (first | assumption | exact Ext.refl _ | (exact And.left (by assumption)) | refine Ext.alloc ?_ _ | refine Ext.drew ?_ | refine Ext.drewN ?_ _ | refine Ext.setCell ?_ (by simp) _ | refine Ext.setCell ?_ (by simp; omega) _ | refine Ext.trans ?_ (by assumption))); done)))) ?_; intro v1 Wv1 rv1; obtain ⟨a9, cap9, rfl, _, _⟩ := rv1.1.shape; have RV2 : NewRow (wr.alloc (.cells #[.int .i64 11, .int .i64 1, .int .i64 12, .int .i64 0] 51)) Wv1 (R + 1) 2 (.slice ar vals.length cr) (.slice a9 (vals.length + 2) cap9) (mainF vals).code.length ((mainF vals).code.flatMap opF) := NewRow.cast rv1 HC1.out HC2.out; have HG := Lib.hid (MainS.grow (n := w.heap.size) HM.out ((Ext.refl _).alloc _) RV2 (by have := HRR.out; omega)); obtain ⟨k2, k2'⟩ := HG.out.2.1; clear rv1 RV2))
        have HE7 := Lib.hid (HG.out.2.2 w rfl HE.out)
        obtain ⟨L, hL⟩ : ∃ L, vals.length + 2 = L := ⟨_, rfl⟩
        rw [hL] at HG HE7 ⊢
        have HLL := Lib.hid hL
        have HM7 := Lib.hid HG.out.1
        generalize Wv1.setCell ⟨R, 2, none⟩ (.slice a9 L cap9) = w7 at *
        obtain ⟨x0, x0'⟩ := HM7.out.c0
        obtain ⟨x1, x1'⟩ := HM7.out.c1
        obtain ⟨x2, x2'⟩ := HM7.out.c2
        have hops : Ops w7 (w.heap.size ≤ ·) (.slice a9 L cap9) (mainF vals).code := Ops.of_row HM7.out.row (by rw [HC1.out]; omega) HMI.out _ (fun b hb _ => by show w.heap.size ≤ b; have := HRR.out; omega)
        have HOP := Lib.hid hops
        clear hops hL HG k2 k2' HM HROW HALL HMI HC2 m0 m0' m1 m1' m2 m2'
        refine wp_region_rt (fun w' => w'.cell? ⟨R, 0, none⟩ = some (.int .i64 0) ∧ w'.cell? ⟨R, 1, none⟩ = some (.int .i64 0) ∧ w'.cell? ⟨R, 2, none⟩ = some (.slice a9 L cap9)) 7 [0, 1, 2, 3] [4, 5, 6, 7] (by kernel_rfl) (by kernel_rfl) (fun _ _ _ _ _ h => h) (by refine ⟨?_, ?_, ?_⟩ <;> simpa) ?_
        (try simp only [pickOps, List.filterMap_cons, List.filterMap_nil, List.getElem?_cons_zero, List.getElem?_cons_succ])
        repeat (
          refine readsQ_do (by rfl) ?_
          apply Exists.intro
          refine ⟨fun w' hw' => ?_, ?_⟩
          focus
            (try dsimp only at hw')
            go_split_ands
            go_simp
            (try with_reducible rfl)
          (try dsimp only [Act.put])
          (try simp only [List.setIfInBounds_toArray, List.set_cons_succ, List.set_cons_zero]))
        refine readsQ_nil ?_
        refine tailW_step ?_
        go_wp2_with (first
          | (go_at_call 63; (with_reducible refine (HOF.out _ (HE7.out.trans (Ext.refl _).drew)).mono ?_); rintro e w8 ⟨⟨x, rfl, hx⟩, hb8⟩; have HX := Lib.hid hx; obtain ⟨s, rfl, ix, iy, hops⟩ := hx; obtain ⟨sa, cs, rfl, _, _, _⟩ := (⟨hops, trivial⟩ : _ ∧ True).1))
        have hE78 : Ext w7 w8 := ((Ext.refl w7).drew).trans hb8
        refine nextW_go (by exact ⟨Ext.cell hE78 x0, Ext.cell hE78 x1, Ext.cell hE78 x2⟩) ?_
        refine tailW_step ?_
        go_wp2_with fail
        have hgl := hb8.size
        have hw7 := HE7.out.size
        have hg8 : w.heap.size ≤ w8.heap.size := by have : w7.drew.heap.size = w7.heap.size := rfl; omega
        have hq9 : Ext w8 (w8.alloc (.cells #[.int .i64 0, .int .i64 0, .slice a9 L cap9, .int .i64 (t.func vals.length).args, .int .i64 (t.func vals.length).locals, .slice sa (t.func vals.length).code.length cs] 49)) := (Ext.refl _).alloc _
        have n0 := (Cx.new w8 [.int .i64 0, .int .i64 0, .slice a9 L cap9, .int .i64 (t.func vals.length).args, .int .i64 (t.func vals.length).locals, .slice sa (t.func vals.length).code.length cs] 49 (j := 0) rfl).1
        have n1 := (Cx.new w8 [.int .i64 0, .int .i64 0, .slice a9 L cap9, .int .i64 (t.func vals.length).args, .int .i64 (t.func vals.length).locals, .slice sa (t.func vals.length).code.length cs] 49 (j := 1) rfl).1
        have n2 := (Cx.new w8 [.int .i64 0, .int .i64 0, .slice a9 L cap9, .int .i64 (t.func vals.length).args, .int .i64 (t.func vals.length).locals, .slice sa (t.func vals.length).code.length cs] 49 (j := 2) rfl).1
        have n3 := (Cx.new w8 [.int .i64 0, .int .i64 0, .slice a9 L cap9, .int .i64 (t.func vals.length).args, .int .i64 (t.func vals.length).locals, .slice sa (t.func vals.length).code.length cs] 49 (j := 3) rfl).1
        have n4 := (Cx.new w8 [.int .i64 0, .int .i64 0, .slice a9 L cap9, .int .i64 (t.func vals.length).args, .int .i64 (t.func vals.length).locals, .slice sa (t.func vals.length).code.length cs] 49 (j := 4) rfl).1
        have n5 := (Cx.new w8 [.int .i64 0, .int .i64 0, .slice a9 L cap9, .int .i64 (t.func vals.length).args, .int .i64 (t.func vals.length).locals, .slice sa (t.func vals.length).code.length cs] 49 (j := 5) rfl).1
        generalize (w8.alloc (.cells #[.int .i64 0, .int .i64 0, .slice a9 L cap9, .int .i64 (t.func vals.length).args, .int .i64 (t.func vals.length).locals, .slice sa (t.func vals.length).code.length cs] 49)) = w9 at *
        have hE79 : Ext w7 w9 := hE78.trans hq9
        have hS9 : w9.cell? ⟨R, 0, none⟩ = some (.int .i64 0) ∧ w9.cell? ⟨R, 1, none⟩ = some (.int .i64 0) ∧ w9.cell? ⟨R, 2, none⟩ = some (.slice a9 L cap9) := ⟨Ext.cell hE79 x0, Ext.cell hE79 x1, Ext.cell hE79 x2⟩
        have hF := funcs_two (w := w9) (S := (w.heap.size ≤ ·)) (F := mainF vals) (G := t.func vals.length) hg8 n0 n1 n2 n3 n4 n5 ⟨I64.small (show (-1000000 : Int) ≤ 0 by decide) (show (0 : Int) ≤ 1000000 by decide), I64.small (show (-1000000 : Int) ≤ 0 by decide) (show (0 : Int) ≤ 1000000 by decide)⟩ ⟨ix, iy⟩ (Ops.stays hE79.stays HOP.out)
          (Ops.stays (fun b o v hb hc => ⟨Ext.cell hq9 hc, by show w.heap.size ≤ b; have : w7.drew.heap.size ≤ b := hb; have : w7.drew.heap.size = w7.heap.size := rfl; omega⟩) hops)
        have HF9 := Lib.hid hF
        have HE79 := Lib.hid hE79
        have HS9 := Lib.hid hS9
        clear n0 n1 n2 n3 n4 n5 hF hE79 hops hS9
        refine nextW_go (by exact HS9.out) ?_
        refine tailW_step ?_
        go_wp2_with fail
        refine nextW_go (by exact HS9.out) ?_
        refine tailW_step ?_
        go_wp2_with fail
        refine nextW_end ?_
        go_wp2_with fail
        go_ret2
        rw [HFF.out.1, HFF.out.2]
        exact ⟨⟨_, rfl, HF9.out⟩, HE7.out.trans HE79.out⟩
  · have HF : Hid (forgeErr es vals = exprErr es vals.length ∧ forgePr es vals = []) := by
      have e : forgeErr es vals = exprErr es vals.length := by unfold forgeErr; rw [if_pos h0]
      refine ⟨e, ?_⟩
      unfold forgePr
      rw [e, if_neg h0]
    rw [HF.out.1, HF.out.2]
    obtain ⟨r, hr⟩ : ∃ r, exprErr es vals.length = r := ⟨_, rfl⟩
    rw [hr] at h0 ⊢
    have HR := Lib.hid hr
    have TB : (r != 0) = true := bne_iff_ne.2 h0
    clear h0 hr HF
    go_enter Tryz.func24, Tryz.ntmps24
    go_wp2_with (first
      | (go_at_call 61; (with_reducible refine (exprError_any es _ S vals.length _ HP.out).mono ?_); rintro e w2 ⟨rfl, rfl⟩; rw [HR.out]))
    go_ret2
    exact ⟨⟨_, rfl, Sl.nil _ _ _⟩, Ext.refl _⟩
end Go.Proofs.YtpcjkfppacnkgaaGreatDoor
end
section
/- Contracts of SameInts and next. -/
set_option maxHeartbeats 2000000
set_option maxRecDepth 100000
namespace Go.Proofs.YtpcjkfppacnkgaaGreatDoor
open Go Go.RowKit

end Go.Proofs.YtpcjkfppacnkgaaGreatDoor
end
section
/- Programs and rows of numbers in new memory. -/
set_option maxHeartbeats 4000000
set_option maxRecDepth 100000
namespace Go.Proofs.YtpcjkfppacnkgaaGreatDoor
open Go Go.RowKit

theorem prog_ops (w : World) (l : List GOp) (n : Nat) (hn : l.length = n) (cs : Array Value) (hcs : cs.toList = opCells l) (hI : ∀ x ∈ l, I64 x.kind ∧ I64 x.a) (hl : l.length ≤ 1000) (t u : TypeId) :
    Funcs ((w.alloc (.cells cs t)).alloc (.cells #[.int .i64 0, .int .i64 0, .slice (some ⟨w.heap.size, 0, none⟩) n n] u)) (fun _ => True) (.slice (some ⟨w.heap.size + 1, 0, none⟩) 1 1) [⟨0, 0, l⟩] := by
  subst hn
  have hg := heap_alloc2_new w (.cells cs t) (.cells #[.int .i64 0, .int .i64 0, .slice (some ⟨w.heap.size, 0, none⟩) l.length l.length] u)
  have h0 := heap_alloc2_old w (.cells cs t) (.cells #[.int .i64 0, .int .i64 0, .slice (some ⟨w.heap.size, 0, none⟩) l.length l.length] u)
  have f0 := ops_of_block (S := fun _ => True) l h0 hcs trivial hI (by omega)
  have cell := fun j => cell_of_row _ _ j _ _ _ hg
  refine ⟨_, _, rfl, Nat.le_refl _, by simp, fun i hi => ⟨_, 0, rfl, ?_⟩⟩
  match i, hi with
  | 0, _ => exact ⟨⟨trivial, cell _, I64.small (by simp) (by simp)⟩, ⟨trivial, cell _, I64.small (by simp) (by simp)⟩, _, cell _, f0⟩

theorem small_ops {l : List GOp} (h : ∀ x ∈ l, -1000000 ≤ x.kind ∧ x.kind ≤ 1000000 ∧ -1000000 ≤ x.a ∧ x.a ≤ 1000000) : ∀ x ∈ l, I64 x.kind ∧ I64 x.a := fun x hx => ⟨I64.small (h x hx).1 (h x hx).2.1, I64.small (h x hx).2.2.1 (h x hx).2.2.2⟩
end Go.Proofs.YtpcjkfppacnkgaaGreatDoor
end
