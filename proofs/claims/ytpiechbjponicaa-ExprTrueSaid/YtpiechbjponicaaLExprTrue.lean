/- ExprTrue: for every input Value of an expression put together out of two is what the two are, reckoned. No condition. -/
import Derived.Test.YtpiechbjponicaaLaw
import Derived.Test.YtpiechbjponicaaExprU
import Derived.Test.YtpiechbjponicaaRow
set_option maxHeartbeats 2000000
set_option maxRecDepth 100000
namespace Go.Proofs.Ytpiechbjponicaa.exprTrue
open Go Go.RowKit Go.ChangeShapes Go.WideShapes Go.ChangeAt

theorem infoN : (Try.prog.info? 44).map (fun i => (i.zero, i.size, i.bytes)) = some (some (.agg #[.int .i64 0, .int .i64 0]), 2, 16) := by kernel_rfl

theorem nodes_both {W : World} {v : Value} {l : List GNode} {base : Nat} (h : RowAt W base 2 v l.length (l.flatMap nodeF)) (hl : l.length ≤ 1000) (hI : ∀ x ∈ l, I64 x.kind ∧ I64 x.n) : Nodes W (fun _ => True) v l :=
  Nodes.of_row h (by omega) hI _ (fun _ _ _ => trivial)

theorem i64_lit (l m : List GNode) (h : ∀ x ∈ m, I64 x.kind ∧ I64 x.n) (k : ∀ x ∈ l, (-1000 ≤ x.kind ∧ x.kind ≤ 1000) ∧ -1000 ≤ x.n ∧ x.n ≤ 1000) : ∀ x ∈ l ++ m, I64 x.kind ∧ I64 x.n := fun x hx => by
  rcases List.mem_append.1 hx with h' | h'
  · exact nodes_small l k x h'
  · exact h x h'

theorem walk_ok (w : World) (a : List GNode) (va : Value) (HPA : Hid (Nodes w (fun _ => True) va a)) (b : List GNode) (vb : Value) (HPB : Hid (Nodes w (fun _ => True) vb b)) (vals : List Int) (vv : Value) (HV : Hid (Ints w (fun _ => True) vv vals))
    (h9 : a.length ≤ 9) (k9 : b.length ≤ 9) (u v s l y n X2 X3 : Int) (HA : Hid (valErr a vals = u ∧ exprErr a vals.length = 0)) (HB : Hid (valErr b vals = v ∧ exprErr b vals.length = 0))
    (H2 : Hid (exprErr ([⟨2, 0⟩] ++ (a ++ b)) vals.length = X2 ∧ valErr ([⟨2, 0⟩] ++ (a ++ b)) vals = s)) (H5 : Hid (exprErr ([⟨5, 0⟩] ++ (a ++ b)) vals.length = X2 ∧ valErr ([⟨5, 0⟩] ++ (a ++ b)) vals = l))
    (H7 : Hid (exprErr ([⟨7, 0⟩, ⟨0, 1⟩] ++ (a ++ b)) vals.length = X3 ∧ valErr ([⟨7, 0⟩, ⟨0, 1⟩] ++ (a ++ b)) vals = y)) (H8 : Hid (exprErr ([⟨7, 0⟩, ⟨0, 0⟩] ++ (a ++ b)) vals.length = X3 ∧ valErr ([⟨7, 0⟩, ⟨0, 0⟩] ++ (a ++ b)) vals = n))
    (HC : Hid ((X2 = 0 ∧ X3 = 0 ∧ s = wrap64 (u + v) ∧ y = u ∧ n = v ∧ ((u < v ∧ l = 1) ∨ (v ≤ u ∧ l = 0))) ∨ (X2 = 0 ∧ X3 = 2 ∧ s = wrap64 (u + v) ∧ ((u < v ∧ l = 1) ∨ (v ≤ u ∧ l = 0))) ∨ (X2 = 2 ∧ X3 = 2))) :
    Calls Try.prog 7 #[va, vb, vv] w fun e' w' => e' = .returned (.bool true) ∧ Ext w w' := by
  obtain ⟨i0, hi0, hz0, hz1, hz2⟩ := info_parts infoN
  have IA : Hid (∀ x ∈ a ++ b, I64 x.kind ∧ I64 x.n) := fun x hx => by
    rcases List.mem_append.1 hx with h | h
    · exact HPA.out.i64 x h
    · exact HPB.out.i64 x h
  go_enter Try.func7, Try.ntmps7
  go_upto_region 5 with (first
    | (go_at_call 19; (with_reducible refine (exprValue_val a _ vals _ _ HPA.out HV.out u 0 HA.out.1 HA.out.2).mono ?_); rintro e w1 ⟨rfl, hb1⟩)
    | (go_at_call 19; (with_reducible refine (exprValue_val b _ vals _ _ (Nodes.stays hb1.stays HPB.out) (Ints.stays hb1.stays HV.out) v 0 HB.out.1 HB.out.2).mono ?_); rintro e w2 ⟨rfl, hb2⟩))
  have hE := hb1.trans hb2
  clear hb1 hb2
  go_upto_region 6 with (first
    | (at_builtin; refine wpList_append_row rfl _ _ 37 rfl w.heap.size 44 i0 _ 2 16 Try.underlying37 hi0 hz0 hz1 hz2 rfl (by decide) _ _ _ rfl (hr3.1) _ _ (Nodes.src (Nodes.stays E3.stays HPB.out)) (by simp only [maxLen]; omega) (by omega) (by have := Ext.size E3; simp; omega) ?_; intro v4 w4 hr4; have E4 := ext_row (E3) (hr3.1) (Nat.le_refl _) hr4)
    | (at_builtin; refine wpList_append_row rfl _ _ 37 rfl w.heap.size 44 i0 _ 2 16 Try.underlying37 hi0 hz0 hz1 hz2 rfl (by decide) _ _ _ rfl (RowAt.made _ #[] 44 2 0 w.heap.size (by have := Ext.size hE; simpa using this) (by simp [maxLen]) rfl) _ _ (Nodes.src (Nodes.stays (hE.alloc _).stays HPA.out)) (by simp only [maxLen]; omega) (by omega) (by have := Ext.size hE; simp; omega) ?_; intro v3 w3 hr3; have E3 := ext_row (hE.alloc _) (RowAt.made _ #[] 44 2 0 w.heap.size (by have := Ext.size hE; simpa using this) (by simp [maxLen]) rfl) (Nat.le_refl _) hr3))
  have hB := nodes_both (l := a ++ b) (by have h := hr4.1; rw [List.length_append, List.flatMap_append]; simpa using h) (by simp; omega) IA.out
  have hW := E4
  clear hr3 hr4 E3 E4
  go_upto_region 7 with (first
    | (go_at_call 19; (with_reducible refine (exprValue_val ([⟨2, 0⟩] ++ (a ++ b)) _ vals _ _ hn16 (Ints.stays (hW.trans E16).stays HV.out) _ _ H2.out.2 H2.out.1).mono ?_); rintro e w26 ⟨rfl, hb26⟩)
    | (at_builtin; refine wpList_append_row rfl _ _ 37 rfl w4.heap.size 44 i0 _ 2 16 Try.underlying37 hi0 hz0 hz1 hz2 rfl (by decide) _ _ _ rfl (RowAt.made _ #[.int .i64 2, .int .i64 0] 44 2 1 w4.heap.size (Nat.le_refl _) (by simp [maxLen]) rfl) _ _ (Nodes.src (Nodes.stays ((Ext.refl _).alloc _).stays hB)) (by simp only [maxLen, List.length_append]; omega) (by simp only [List.length_append]; omega) (by simp) ?_; intro v16 w16 hr16; have E16 := ext_row ((Ext.refl w4).alloc _) (RowAt.made _ #[.int .i64 2, .int .i64 0] 44 2 1 w4.heap.size (Nat.le_refl _) (by simp [maxLen]) rfl) (Nat.le_refl _) hr16; have hn16 := nodes_both (l := [⟨2, 0⟩] ++ (a ++ b)) (by rw [List.length_append, List.flatMap_append]; exact hr16.1) (by simp; omega) (i64_lit _ _ IA.out (by decide))))
  replace hB := Nodes.stays (E16.trans hb26).stays hB
  replace hW := (hW.trans E16).trans hb26
  clear hr16 E16 hn16 hb26
  go_upto_region 8 with (first
    | (go_at_call 19; (with_reducible refine (exprValue_val ([⟨5, 0⟩] ++ (a ++ b)) _ vals _ _ hn17 (Ints.stays (hW.trans E17).stays HV.out) _ _ H5.out.2 H5.out.1).mono ?_); rintro e w27 ⟨rfl, hb27⟩)
    | (at_builtin; refine wpList_append_row rfl _ _ 37 rfl w26.heap.size 44 i0 _ 2 16 Try.underlying37 hi0 hz0 hz1 hz2 rfl (by decide) _ _ _ rfl (RowAt.made _ #[.int .i64 5, .int .i64 0] 44 2 1 w26.heap.size (Nat.le_refl _) (by simp [maxLen]) rfl) _ _ (Nodes.src (Nodes.stays ((Ext.refl _).alloc _).stays hB)) (by simp only [maxLen, List.length_append]; omega) (by simp only [List.length_append]; omega) (by simp) ?_; intro v17 w17 hr17; have E17 := ext_row ((Ext.refl w26).alloc _) (RowAt.made _ #[.int .i64 5, .int .i64 0] 44 2 1 w26.heap.size (Nat.le_refl _) (by simp [maxLen]) rfl) (Nat.le_refl _) hr17; have hn17 := nodes_both (l := [⟨5, 0⟩] ++ (a ++ b)) (by rw [List.length_append, List.flatMap_append]; exact hr17.1) (by simp; omega) (i64_lit _ _ IA.out (by decide))))
  replace hB := Nodes.stays (E17.trans hb27).stays hB
  replace hW := (hW.trans E17).trans hb27
  clear hr17 E17 hn17 hb27
  go_upto_region 9 with (first
    | (go_at_call 19; (with_reducible refine (exprValue_val ([⟨7, 0⟩, ⟨0, 1⟩] ++ (a ++ b)) _ vals _ _ hn18 (Ints.stays (hW.trans E18).stays HV.out) _ _ H7.out.2 H7.out.1).mono ?_); rintro e w28 ⟨rfl, hb28⟩)
    | (at_builtin; refine wpList_append_row rfl _ _ 37 rfl w27.heap.size 44 i0 _ 2 16 Try.underlying37 hi0 hz0 hz1 hz2 rfl (by decide) _ _ _ rfl (RowAt.made _ #[.int .i64 7, .int .i64 0, .int .i64 0, .int .i64 1] 44 2 2 w27.heap.size (Nat.le_refl _) (by simp [maxLen]) rfl) _ _ (Nodes.src (Nodes.stays ((Ext.refl _).alloc _).stays hB)) (by simp only [maxLen, List.length_append]; omega) (by simp only [List.length_append]; omega) (by simp) ?_; intro v18 w18 hr18; have E18 := ext_row ((Ext.refl w27).alloc _) (RowAt.made _ #[.int .i64 7, .int .i64 0, .int .i64 0, .int .i64 1] 44 2 2 w27.heap.size (Nat.le_refl _) (by simp [maxLen]) rfl) (Nat.le_refl _) hr18; have hn18 := nodes_both (l := [⟨7, 0⟩, ⟨0, 1⟩] ++ (a ++ b)) (by rw [List.length_append, List.flatMap_append]; exact hr18.1) (by simp; omega) (i64_lit _ _ IA.out (by decide))))
  replace hB := Nodes.stays (E18.trans hb28).stays hB
  replace hW := (hW.trans E18).trans hb28
  clear hr18 E18 hn18 hb28
  go_upto_region 10 with (first
    | (go_at_call 19; (with_reducible refine (exprValue_val ([⟨7, 0⟩, ⟨0, 0⟩] ++ (a ++ b)) _ vals _ _ hn19 (Ints.stays (hW.trans E19).stays HV.out) _ _ H8.out.2 H8.out.1).mono ?_); rintro e w29 ⟨rfl, hb29⟩)
    | (at_builtin; refine wpList_append_row rfl _ _ 37 rfl w28.heap.size 44 i0 _ 2 16 Try.underlying37 hi0 hz0 hz1 hz2 rfl (by decide) _ _ _ rfl (RowAt.made _ #[.int .i64 7, .int .i64 0, .int .i64 0, .int .i64 0] 44 2 2 w28.heap.size (Nat.le_refl _) (by simp [maxLen]) rfl) _ _ (Nodes.src (Nodes.stays ((Ext.refl _).alloc _).stays hB)) (by simp only [maxLen, List.length_append]; omega) (by simp only [List.length_append]; omega) (by simp) ?_; intro v19 w19 hr19; have E19 := ext_row ((Ext.refl w28).alloc _) (RowAt.made _ #[.int .i64 7, .int .i64 0, .int .i64 0, .int .i64 0] 44 2 2 w28.heap.size (Nat.le_refl _) (by simp [maxLen]) rfl) (Nat.le_refl _) hr19; have hn19 := nodes_both (l := [⟨7, 0⟩, ⟨0, 0⟩] ++ (a ++ b)) (by rw [List.length_append, List.flatMap_append]; exact hr19.1) (by simp; omega) (i64_lit _ _ IA.out (by decide))))
  replace hB := Nodes.stays (E19.trans hb29).stays hB
  replace hW := (hW.trans E19).trans hb29
  clear hr19 E19 hn19 hb29
  clear H2 H5 H7 H8 HA HB HPA HPB IA hB h9 k9
  have hc := HC.out
  clear HC
  rcases hc with ⟨rfl, rfl, rfl, rfl, rfl, ⟨hlt, rfl⟩ | ⟨hge, rfl⟩⟩ | ⟨rfl, rfl, rfl, ⟨hlt, rfl⟩ | ⟨hge, rfl⟩⟩ | ⟨rfl, rfl⟩
  all_goals
    go_wp2_with (first
      | (go_at_call 21; (with_reducible refine (exprBegun_any _).mono ?_); rintro e w9 ⟨rfl, hb9⟩))
    go_ret
    exact ⟨rfl, hW.trans hb9⟩

theorem walk (w : World) (a : List GNode) (va : Value) (ha : Nodes w (fun _ => True) va a) (b : List GNode) (vb : Value) (hb : Nodes w (fun _ => True) vb b) (vals : List Int) (vv : Value) (hv : Ints w (fun _ => True) vv vals) :
    Calls Try.prog 7 #[va, vb, vv] w fun e' w' => e' = .returned (.bool true) ∧ Ext w w' := by
  have HPA := Lib.hid ha
  have HPB := Lib.hid hb
  have HV := Lib.hid hv
  clear ha hb hv
  by_cases h0 : exprErr a vals.length = 0
  · by_cases k0 : exprErr b vals.length = 0
    · obtain ⟨h4, h9, -, -⟩ := exprErr_zero h0
      obtain ⟨-, k9, -, -⟩ := exprErr_zero k0
      obtain ⟨p2, q2⟩ := put_two h0 k0 2 (by omega)
      obtain ⟨p5, q5⟩ := put_two h0 k0 5 (by omega)
      obtain ⟨p7, q7⟩ := put_if h0 k0 1 (by omega)
      obtain ⟨p8, q8⟩ := put_if h0 k0 0 (by omega)
      refine walk_ok w a va HPA b vb HPB vals vv HV h9 k9 _ _ _ _ _ _ _ _ ⟨rfl, h0⟩ ⟨rfl, k0⟩ ⟨p2, q2⟩ ⟨p5, q5⟩ ⟨p7, q7⟩ ⟨p8, q8⟩ ?_
      by_cases c1 : 9 < 1 + a.length + b.length
      · right; right
        rw [if_pos c1, if_pos (by omega)]
        exact ⟨rfl, rfl⟩
      · by_cases c2 : 9 < 2 + a.length + b.length
        · right; left
          refine ⟨if_neg c1, if_pos c2, by rw [if_neg c1]; simp [reckN], ?_⟩
          rw [if_neg c1]
          by_cases hl : valErr a vals < valErr b vals
          · left; exact ⟨hl, by simp [reckN, hl]⟩
          · right; exact ⟨by omega, by simp [reckN, hl]⟩
        · left
          refine ⟨if_neg c1, if_neg c2, by rw [if_neg c1]; simp [reckN], by rw [if_neg c2]; simp, by rw [if_neg c2]; simp, ?_⟩
          rw [if_neg c1]
          by_cases hl : valErr a vals < valErr b vals
          · left; exact ⟨hl, by simp [reckN, hl]⟩
          · right; exact ⟨by omega, by simp [reckN, hl]⟩
    · have T1 : (exprErr b vals.length != 0) = true := by simpa using k0
      obtain ⟨u, hu⟩ : ∃ u, valErr a vals = u := ⟨_, rfl⟩
      clear k0
      go_enter Try.func7, Try.ntmps7
      go_wp2_with (first
        | (go_at_call 19; (with_reducible refine (exprValue_val a _ vals _ _ HPA.out HV.out _ 0 rfl h0).mono ?_); rintro e w1 ⟨rfl, hb1⟩)
        | (go_at_call 19; (with_reducible refine (exprValue_any b _ vals _ _ (Nodes.stays hb1.stays HPB.out) (Ints.stays hb1.stays HV.out)).mono ?_); rintro e w2 ⟨rfl, hb2⟩)
        | (go_at_call 21; (with_reducible refine (exprBegun_any _).mono ?_); rintro e w3 ⟨rfl, hb3⟩))
      go_ret
      exact ⟨rfl, by ((repeat (first | assumption | exact Ext.refl _ | (exact And.left (by assumption)) | refine Ext.alloc ?_ _ | refine Ext.drew ?_ | refine Ext.drewN ?_ _ | refine Ext.setCell ?_ (by simp) _ | refine Ext.setCell ?_ (by simp; omega) _ | refine Ext.trans ?_ (by assumption))); done)⟩
  · have T0 : (exprErr a vals.length != 0) = true := by simpa using h0
    clear h0
    go_enter Try.func7, Try.ntmps7
    go_wp2_with (first
      | (go_at_call 19; (with_reducible refine (exprValue_any a _ vals _ _ HPA.out HV.out).mono ?_); rintro e w1 ⟨rfl, hb1⟩)
      | (go_at_call 19; (with_reducible refine (exprValue_any b _ vals _ _ (Nodes.stays hb1.stays HPB.out) (Ints.stays hb1.stays HV.out)).mono ?_); rintro e w2 ⟨rfl, hb2⟩)
      | (go_at_call 21; (with_reducible refine (exprBegun_any _).mono ?_); rintro e w3 ⟨rfl, hb3⟩))
    go_ret
    exact ⟨rfl, by ((repeat (first | assumption | exact Ext.refl _ | (exact And.left (by assumption)) | refine Ext.alloc ?_ _ | refine Ext.drew ?_ | refine Ext.drewN ?_ _ | refine Ext.setCell ?_ (by simp) _ | refine Ext.setCell ?_ (by simp; omega) _ | refine Ext.trans ?_ (by assumption))); done)⟩

theorem contract (H : Type) (enc : TypeId × Value → H) (W : World) (base : Nat) (args : Array Value) (ds gs : List (DataW H)) (before : List MemPlace)
    (hval : ∀ (j : Nat) t v, Try.f7.params[j]? = some t → args[j]? = some v → Value.okWide Try.prog W .any base t v)
    (hW : DataW.Whole enc Try.prog Try.f7.params.toList Rows.exprTrueSpec.vars false W args.toList ds gs before)
    (hsz : (DataW.weightsEach Try.prog (Try.f7.params.toList ++ Rows.exprTrueSpec.plain.varTypes Try.prog) (ds ++ gs)).all (· ≤ reachBytes) = true) :
    Calls Try.prog 7 args W fun e W' => ∃ v, e = .returned v ∧ Rows.exprTrueSpec.post enc Try.prog Try.f7 false true false false W args v W' := by
  have hW' := hW
  obtain ⟨p, q, hA, hV, rfl, hfz, hnd⟩ := hW
  rw [Try.params7] at hA hval
  obtain ⟨v0, vs0, d0, ds0, q0, t0, hargs, rfl, rfl, h0, r0⟩ := trodAll_cons hA
  obtain ⟨v1, vs1, d1, ds1, q1, t1, rfl, rfl, rfl, h1, r1⟩ := trodAll_cons r0
  obtain ⟨v2, vs2, d2, ds2, q2, t2, rfl, rfl, rfl, h2, r2⟩ := trodAll_cons r1
  obtain ⟨rfl, rfl, rfl⟩ := trodAll_nil r2
  obtain rfl : args = #[v0, v1, v2] := by cases args; simp_all
  obtain ⟨rfl, rfl⟩ := trodVars_none hV
  obtain ⟨a0, l0, c0, rfl⟩ := okWide_slice Try.underlying37 (hval 0 37 v0 rfl rfl)
  obtain ⟨fuel0, h0⟩ := h0
  obtain ⟨x0, h0⟩ := nodes_of_trod h0 (fun n hn => by
    have := List.all_eq_true.1 hsz n (DataW.weights_mem_each (j := 0) rfl rfl n hn)
    simpa using this)
  obtain ⟨a1, l1, c1, rfl⟩ := okWide_slice Try.underlying37 (hval 1 37 v1 rfl rfl)
  obtain ⟨fuel1, h1⟩ := h1
  obtain ⟨x1, h1⟩ := nodes_of_trod h1 (fun n hn => by
    have := List.all_eq_true.1 hsz n (DataW.weights_mem_each (j := 1) rfl rfl n hn)
    simpa using this)
  obtain ⟨a2, l2, c2, rfl⟩ := okWide_slice Try.underlying38 (hval 2 38 v2 rfl rfl)
  obtain ⟨fuel2, h2⟩ := h2
  obtain ⟨x2, h2⟩ := intl_of_trod h2 (fun n hn => by
    have := List.all_eq_true.1 hsz n (DataW.weights_mem_each (j := 2) rfl rfl n hn)
    simpa using this)
  refine (walk W x0 _ h0 x1 _ h1 x2 _ h2).mono fun e W' ⟨he, hE⟩ => ⟨_, he, law_post laidOut ?_ rfl Try.underlying4 rfl hW' ?_ hE⟩
  · rw [Try.params7]
    intro t ht
    simp at ht
    (try rcases ht with rfl | rfl) <;> exact ⟨by kernel_rfl, of_decide_eq_true (by kernel_rfl)⟩
  · intro ds hds
    match ds, hds with
    | [d0, d1, d2], _ => exact ⟨rfl, rfl, rfl⟩

theorem lifted (os : Os) (started : os.Started) (H : Type) (enc : TypeId × Value → H) :
    ReturnsInHanded {} Try.checked os 7 .any (Rows.exprTrueSpec.pre6 enc Try.prog Try.f7 Rows.exprTrueRow.domain false) (Rows.exprTrueSpec.post enc Try.prog Try.f7 false true false false) := by
  refine returnsInHanded_of_change_sized (C := Try.checked) own started (by kernel_rfl) Try.func7
    (ChangeSpec.witness6 (enc := enc) (C := Try.checked) false ⟨#[], #[.slice none 0 0, .slice none 0 0, .slice none 0 0], []⟩ 8 (by kernel_rfl) (by kernel_rfl) (by kernel_rfl) (by kernel_rfl)) ?_
  intro W base args ds gs before hval hW _ hsz _
  exact contract H enc W base args ds gs before hval hW hsz

theorem proved : Rows.ExprTrueSaid :=
  OpenClaim.holds_of_wide 7 Try.f7 rfl rfl rfl rfl rfl rfl rfl ⟨rfl, rfl, rfl, rfl, rfl⟩ rfl rfl rfl rfl rfl (by as_aux_lemma => kernel_rfl) Try.func7 (by as_aux_lemma => kernel_rfl)
    (of_decide_eq_true (by as_aux_lemma => kernel_rfl)) (by unfold Func.isWrapper; rw [if_neg (of_decide_eq_false (by as_aux_lemma => kernel_rfl))]; exact ⟨rfl, rfl⟩)
    (fun os started H enc _ => lifted os started H enc)
end Go.Proofs.Ytpiechbjponicaa.exprTrue

