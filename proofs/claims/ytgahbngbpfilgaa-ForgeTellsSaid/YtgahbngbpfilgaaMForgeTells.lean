/- ForgeTells: for every input Func and Prog of package forge answer what the document's ForgeFunc and ForgeProg say, errors too. No condition. -/
import Derived.Test.YtgahbngbpfilgaaGFAA
import Derived.Test.YtgahbngbpfilgaaGFBF
set_option maxHeartbeats 4000000
set_option maxRecDepth 100000
namespace Go.Proofs.Ytgahbngbpfilgaa.forgeTells
open Go Go.RowKit Go.ChangeShapes Go.WideShapes Go.ChangeAt

theorem walk (w : World) (es : List GNode) (v : Value) (hp : Nodes w (fun _ => True) v es) (f : Int) (hI : I64 f) (vals : List Int) (vv : Value) (hv : Ints w (fun _ => True) vv vals) :
    Calls Try.prog 5 #[v, .int .i64 f, vv] w fun e w' => e = .returned (.bool true) ∧ Ext w w' := by
  have HP := Lib.hid hp
  have HV := Lib.hid hv
  obtain ⟨a0, cap, rfl, _, _, _⟩ := hp
  obtain ⟨a9, vcap, rfl, _, _, _⟩ := hv
  obtain ⟨r, hr⟩ : ∃ r, exprErr es f = r := ⟨_, rfl⟩
  obtain ⟨s, hs⟩ : ∃ s, forgeErr es vals = s := ⟨_, rfl⟩
  obtain ⟨F, hF⟩ : ∃ F, forgeFn es f = F := ⟨_, rfl⟩
  obtain ⟨q, hq⟩ : ∃ q, forgePr es vals = q := ⟨_, rfl⟩
  have HR := Lib.hid hr
  have HS := Lib.hid hs
  have HF := Lib.hid hF
  have HQ := Lib.hid hq
  clear hr hs hF hq
  go_enter Try.func5, Try.ntmps5
  go_upto_region 2 with (first
    | (go_at_call 18; (with_reducible refine (forgeFunc_at es _ f _ HP.out hI HR.out HF.out rfl).mono ?_); rintro e w2 ⟨⟨A1, L1, a1, c1, rfl, hl1⟩, hb2⟩))
  have e2 : Ext w (w2.alloc (.cells #[.int .i64 A1, .int .i64 L1, .slice a1 F.code.length c1] 43)) := by ((repeat (first | assumption | exact Ext.refl _ | (exact And.left (by assumption)) | refine Ext.alloc ?_ _ | refine Ext.drew ?_ | refine Ext.drewN ?_ _ | refine Ext.setCell ?_ (by simp) _ | refine Ext.setCell ?_ (by simp; omega) _ | refine Ext.trans ?_ (by assumption))); done)
  have x0 := Cx.new w2 [.int .i64 A1, .int .i64 L1, .slice a1 F.code.length c1] 43 (j := 0) rfl
  have x1 := Cx.new w2 [.int .i64 A1, .int .i64 L1, .slice a1 F.code.length c1] 43 (j := 1) rfl
  have x2 := Cx.new w2 [.int .i64 A1, .int .i64 L1, .slice a1 F.code.length c1] 43 (j := 2) rfl
  have hl2 := FuncV.stays (Ext.stays ((Ext.refl w2).alloc (.cells #[.int .i64 A1, .int .i64 L1, .slice a1 F.code.length c1] 43))) hl1
  generalize w2.heap.size = bx1 at *
  generalize w2.alloc (.cells #[.int .i64 A1, .int .i64 L1, .slice a1 F.code.length c1] 43) = w3 at *
  have E2 := Lib.hid e2
  have X := Lib.hid (⟨x0, x1, x2⟩ : _ ∧ _ ∧ _)
  have HL2 := Lib.hid hl2
  clear hb2 e2 hl1 hl2 x0 x1 x2
  rename World => w3
  go_upto_region 4 with (first
    | (go_at_call 19; (with_reducible refine (forgeProg_at es vals _ _ _ (Nodes.stays (Ext.stays E2.out) HP.out) (Ints.stays (Ext.stays E2.out) HV.out) HS.out HQ.out rfl).mono ?_); rintro e w4 ⟨⟨a2, c2, rfl, hl3⟩, hb4⟩; have E4 := Lib.hid (E2.out.trans hb4); have HL3 := Lib.hid hl3; have HB4 := Lib.hid hb4; clear hb4 hl3)
    | (go_at_call 20; (with_reducible refine (forgeFuncOf_at es _ f _ (Nodes.stays (Ext.stays E4.out) HP.out) HR.out HF.out rfl).mono ?_); rintro e w5 ⟨⟨A3, L3, a3, c3, rfl, hl4⟩, hb5⟩))
  have e6 : Ext w4 (w5.alloc (.cells #[.int .i64 A3, .int .i64 L3, .slice a3 F.code.length c3] 43)) := by ((repeat (first | assumption | exact Ext.refl _ | (exact And.left (by assumption)) | refine Ext.alloc ?_ _ | refine Ext.drew ?_ | refine Ext.drewN ?_ _ | refine Ext.setCell ?_ (by simp) _ | refine Ext.setCell ?_ (by simp; omega) _ | refine Ext.trans ?_ (by assumption))); done)
  have y0 := Cx.new w5 [.int .i64 A3, .int .i64 L3, .slice a3 F.code.length c3] 43 (j := 0) rfl
  have y1 := Cx.new w5 [.int .i64 A3, .int .i64 L3, .slice a3 F.code.length c3] 43 (j := 1) rfl
  have y2 := Cx.new w5 [.int .i64 A3, .int .i64 L3, .slice a3 F.code.length c3] 43 (j := 2) rfl
  have hl5 := FuncV.stays (Ext.stays ((Ext.refl w5).alloc (.cells #[.int .i64 A3, .int .i64 L3, .slice a3 F.code.length c3] 43))) hl4
  generalize w5.heap.size = bx2 at *
  generalize w5.alloc (.cells #[.int .i64 A3, .int .i64 L3, .slice a3 F.code.length c3] 43) = w6 at *
  have E6 := Lib.hid (E4.out.trans e6)
  have Y := Lib.hid (⟨y0, y1, y2⟩ : _ ∧ _ ∧ _)
  have HL5 := Lib.hid hl5
  have HL6 := Lib.hid (FuncV.stays (Ext.stays (HB4.out.trans e6)) HL2.out)
  have HL7 := Lib.hid (Funcs.stays (Ext.stays e6) HL3.out)
  have X6 := Lib.hid (⟨X.out.1.ext (HB4.out.trans e6), X.out.2.1.ext (HB4.out.trans e6), X.out.2.2.ext (HB4.out.trans e6)⟩ : _ ∧ _ ∧ _)
  clear hb5 e6 hl4 hl5 y0 y1 y2 E2 E4 HB4 HL2 HL3 X
  rename World => w6
  go_upto_region 5 with (first
    | (go_at_call 21; (with_reducible refine (forgeProgOf_at es vals _ _ _ (Nodes.stays (Ext.stays E6.out) HP.out) (Ints.stays (Ext.stays E6.out) HV.out) HS.out HQ.out rfl).mono ?_); rintro e w7 ⟨⟨a4, c4, rfl, hl8⟩, hb7⟩))
  have HL8 := Lib.hid hl8
  have HB7 := Lib.hid hb7
  clear hl8 hb7
  go_wp2_with (first
    | (go_at_call 22; (with_reducible refine (forgeBegun_any _).mono ?_); rintro e w8 ⟨rfl, hb8⟩; have HB8 := Lib.hid (HB7.out.trans hb8); have HX8 := Lib.hid hb8; obtain ⟨⟨g0, -⟩, ⟨g1, -⟩, ⟨g2, -⟩⟩ := (⟨X6.out.1.ext HB8.out, X6.out.2.1.ext HB8.out, X6.out.2.2.ext HB8.out⟩ : _ ∧ _ ∧ _); obtain ⟨⟨k0, -⟩, ⟨k1, -⟩, ⟨k2, -⟩⟩ := (⟨Y.out.1.ext HB8.out, Y.out.2.1.ext HB8.out, Y.out.2.2.ext HB8.out⟩ : _ ∧ _ ∧ _); clear hb8)
    | (go_at_call 23; (with_reducible refine (sameFuncs_any F F _ _ (fun _ => True) (fun _ => True) _ (FuncV.stays (Ext.stays HB8.out) HL6.out) (FuncV.stays (Ext.stays HB8.out) HL5.out)).mono ?_); rintro e w9 ⟨rfl, hb9⟩)
    | (go_at_call 24; (with_reducible refine (sameProgs_any q q _ _ (fun _ => True) (fun _ => True) _ (Funcs.stays (Ext.stays (HB8.out.trans hb9)) HL7.out) (Funcs.stays (Ext.stays (HX8.out.trans hb9)) HL8.out)).mono ?_); rintro e w10 ⟨rfl, hb10⟩))
  go_ret
  exact ⟨rfl, (E6.out.trans HB8.out).trans (hb9.trans hb10)⟩

theorem contract (H : Type) (enc : TypeId × Value → H) (W : World) (base : Nat) (args : Array Value) (ds gs : List (DataW H)) (before : List MemPlace)
    (hval : ∀ (j : Nat) t v, Try.f5.params[j]? = some t → args[j]? = some v → Value.okWide Try.prog W .any base t v)
    (hW : DataW.Whole enc Try.prog Try.f5.params.toList Rows.forgeTellsSpec.vars false W args.toList ds gs before)
    (hsz : (DataW.weightsEach Try.prog (Try.f5.params.toList ++ Rows.forgeTellsSpec.plain.varTypes Try.prog) (ds ++ gs)).all (· ≤ reachBytes) = true) :
    Calls Try.prog 5 args W fun e W' => ∃ v, e = .returned v ∧ Rows.forgeTellsSpec.post enc Try.prog Try.f5 false true false false W args v W' := by
  have hW' := hW
  obtain ⟨p, q, hA, hV, rfl, hfz, hnd⟩ := hW
  rw [Try.params5] at hA hval
  obtain ⟨v0, vs0, d0, ds0, q0, t0, hargs, rfl, rfl, h0, r0⟩ := trodAll_cons hA
  obtain ⟨v1, vs1, d1, ds1, q1, t1, rfl, rfl, rfl, h1, r1⟩ := trodAll_cons r0
  obtain ⟨v2, vs2, d2, ds2, q2, t2, rfl, rfl, rfl, h2, r2⟩ := trodAll_cons r1
  obtain ⟨rfl, rfl, rfl⟩ := trodAll_nil r2
  obtain rfl : args = #[v0, v1, v2] := by cases args; simp_all
  obtain ⟨rfl, rfl⟩ := trodVars_none hV
  obtain ⟨a0, l0, c0, rfl⟩ := okWide_slice Try.underlying40 (hval 0 40 v0 rfl rfl)
  obtain ⟨fuel0, h0⟩ := h0
  obtain ⟨x0, h0⟩ := nodes_of_trod h0 (fun n hn => by
    have := List.all_eq_true.1 hsz n (DataW.weights_mem_each (j := 0) rfl rfl n hn)
    simpa using this)
  obtain ⟨x1, rfl, rfl, rfl, wf1⟩ := open_int Try.underlying3 (hval 1 3 v1 rfl rfl) h1
  obtain ⟨a2, l2, c2, rfl⟩ := okWide_slice Try.underlying24 (hval 2 24 v2 rfl rfl)
  obtain ⟨fuel2, h2⟩ := h2
  obtain ⟨x2, h2⟩ := intl_of_trod h2 (fun n hn => by
    have := List.all_eq_true.1 hsz n (DataW.weights_mem_each (j := 2) rfl rfl n hn)
    simpa using this)
  refine (walk W x0 _ h0 x1 (i64_of_wf wf1) x2 _ h2).mono fun e W' ⟨he, hE⟩ => ⟨_, he, law_post laidOut ?_ rfl Try.underlying4 rfl hW' ?_ hE⟩
  · rw [Try.params5]
    intro t ht
    simp at ht
    (try rcases ht with rfl | rfl | rfl) <;> exact ⟨by kernel_rfl, of_decide_eq_true (by kernel_rfl)⟩
  · intro ds hds
    match ds, hds with
    | [d0, d1, d2], _ => exact ⟨rfl, rfl, rfl⟩

theorem lifted (os : Os) (started : os.Started) (H : Type) (enc : TypeId × Value → H) :
    ReturnsInHanded {} Try.checked os 5 .any (Rows.forgeTellsSpec.pre6 enc Try.prog Try.f5 Rows.forgeTellsRow.domain false) (Rows.forgeTellsSpec.post enc Try.prog Try.f5 false true false false) := by
  refine returnsInHanded_of_change_sized (C := Try.checked) own started (by kernel_rfl) Try.func5
    (ChangeSpec.witness6 (enc := enc) (C := Try.checked) false ⟨#[], #[.slice none 0 0, .int .i64 0, .slice none 0 0], []⟩ 8 (by kernel_rfl) (by kernel_rfl) (by kernel_rfl) (by kernel_rfl)) ?_
  intro W base args ds gs before hval hW _ hsz _
  exact contract H enc W base args ds gs before hval hW hsz

theorem proved : Rows.ForgeTellsSaid :=
  OpenClaim.holds_of_wide 5 Try.f5 rfl rfl rfl rfl rfl rfl rfl ⟨rfl, rfl, rfl, rfl, rfl⟩ rfl rfl rfl rfl rfl (by as_aux_lemma => kernel_rfl) Try.func5 (by as_aux_lemma => kernel_rfl)
    (of_decide_eq_true (by as_aux_lemma => kernel_rfl)) (by unfold Func.isWrapper; rw [if_neg (of_decide_eq_false (by as_aux_lemma => kernel_rfl))]; exact ⟨rfl, rfl⟩)
    (fun os started H enc _ => lifted os started H enc)
end Go.Proofs.Ytgahbngbpfilgaa.forgeTells

