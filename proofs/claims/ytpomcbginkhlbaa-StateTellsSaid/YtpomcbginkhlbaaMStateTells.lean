/- StateTells: for every input Begin and Check of package state answer what the document's ProgError, BeginOf and StateError say. No condition. -/
import Derived.Test.YtpomcbginkhlbaaGSAB
import Derived.Test.YtpomcbginkhlbaaGSAV
set_option maxHeartbeats 4000000
set_option maxRecDepth 100000
namespace Go.Proofs.Ytpomcbginkhlbaa.stateTells
open Go Go.RowKit Go.ChangeShapes Go.WideShapes Go.ChangeAt

theorem few_begin {p : List GFunc} {w : World} {S : Nat → Prop} {v : Value} (h : StateV w S v (beginG p)) : ∃ a c b d, v = .agg #[.slice a 1 c, .int .i64 0, .slice b 0 d] := h.few
theorem few_none {w : World} {S : Nat → Prop} {v : Value} (h : StateV w S v ⟨[], 0, []⟩) : ∃ a c b d, v = .agg #[.slice a 0 c, .int .i64 0, .slice b 0 d] := h.few
theorem BoxT.store {w : World} {B b n m : Nat} {k : Int} {a d : Option Addr} {c e : Nat} {u0 u1 u2 : Value} {s : GState} (h0 : Cx w b 0 u0) (h1 : Cx w b 1 u1) (h2 : Cx w b 2 u2) (h : StateV w (B ≤ ·) (.agg #[.slice a n c, .int .i64 k, .slice d m e]) s) (hb : b < B) :
    BoxT (((w.setCell ⟨b, 0, none⟩ (.slice a n c)).setCell ⟨b, 1, none⟩ (.int .i64 k)).setCell ⟨b, 2, none⟩ (.slice d m e)) b n m k s :=
  ⟨a, c, d, e, ((h0.set _).other (.inr (by decide)) _).other (.inr (by decide)) _, ((h1.other (.inr (by decide)) _).set _).other (.inr (by decide)) _, ((h2.other (.inr (by decide)) _).other (.inr (by decide)) _).set _, StateV.stays (Stays.widen (fun _ _ => trivial)) (StateV.stays ((chg3 w b _ _ _).stays (fun k hk e => by have : B ≤ k := hk; have : k = b := e; omega)) h)⟩

theorem walk (w : World) (p : List GFunc) (v : Value) (hp : Funcs w (fun _ => True) v p) (s : GState) (vs : Value) (hs : StateV w (fun _ => True) vs s) :
    Calls Try.prog 5 #[v, vs] w fun e w' => e = .returned (.bool true) ∧ Ext w w' := by
  have HP := Lib.hid hp
  have HS := Lib.hid hs
  obtain ⟨a0, cap, rfl, _, _, _⟩ := hp
  obtain ⟨sa, sc, sb, sd, rfl⟩ := hs.few
  have RA := alloc_keep
  obtain ⟨se, hse⟩ : ∃ se, stateErr p s = se := ⟨_, rfl⟩
  have HSE := Lib.hid hse
  obtain ⟨c, hc⟩ : ∃ c, progErr p = c := ⟨_, rfl⟩
  have HC := Lib.hid hc
  clear hse
  by_cases hz : c = 0
  · subst hz
    have hbs : beginS p = beginG p := by unfold beginS; rw [if_pos hc]
    have HBS := Lib.hid hbs
    clear hc hbs
    go_enter Try.func5, Try.ntmps5

    go_upto_region 6 with (first
      | (go_at_call 20; (with_reducible refine (begin_any p _ _ _ (Funcs.stays (Ext.stays (by ((repeat (first | assumption | exact Ext.refl _ | (exact And.left (by assumption)) | refine Ext.alloc ?_ _ | refine Ext.drew ?_ | refine Ext.drewN ?_ _ | refine Ext.setCell ?_ (by simp) _ | refine Ext.setCell ?_ (by simp; omega) _ | refine Ext.trans ?_ (by assumption))); done))) HP.out)).mono ?_); rintro e w1 ⟨⟨x, rfl, hx⟩, hb1⟩; rw [HC.out]; rw [HBS.out] at hx; have HX1 := Lib.hid (StateV.stays (T := fun _ => True) (Stays.widen (fun _ _ => trivial)) hx); obtain ⟨a1, c1, d1, e1, rfl⟩ := few_begin hx; clear hx)
      | (go_at_call 21; (with_reducible refine (progError_any p _ _ _ (Funcs.stays (Ext.stays (by ((repeat (first | assumption | exact Ext.refl _ | (exact And.left (by assumption)) | refine Ext.alloc ?_ _ | refine Ext.drew ?_ | refine Ext.drewN ?_ _ | refine Ext.setCell ?_ (by simp) _ | refine Ext.setCell ?_ (by simp; omega) _ | refine Ext.trans ?_ (by assumption))); done))) HP.out)).mono ?_); rintro e w2 ⟨rfl, hb2⟩; rw [HC.out])
      | (go_at_call 22; (with_reducible refine (beginOf_any p _ _ _ (Funcs.stays (Ext.stays (by ((repeat (first | assumption | exact Ext.refl _ | (exact And.left (by assumption)) | refine Ext.alloc ?_ _ | refine Ext.drew ?_ | refine Ext.drewN ?_ _ | refine Ext.setCell ?_ (by simp) _ | refine Ext.setCell ?_ (by simp; omega) _ | refine Ext.trans ?_ (by assumption))); done))) HP.out) HC.out).mono ?_); rintro e w3 ⟨⟨x, rfl, hx⟩, hb3⟩; have HX3 := Lib.hid hx; obtain ⟨a3, c3, d3, e3, rfl⟩ := few_begin hx; obtain ⟨q0, q0'⟩ := (Cx.new w2 [.slice none 0 0, .int .i64 0, .slice none 0 0] 43 (j := 0) rfl).ext hb3; obtain ⟨q1, q1'⟩ := (Cx.new w2 [.slice none 0 0, .int .i64 0, .slice none 0 0] 43 (j := 1) rfl).ext hb3; obtain ⟨q2, q2'⟩ := (Cx.new w2 [.slice none 0 0, .int .i64 0, .slice none 0 0] 43 (j := 2) rfl).ext hb3; clear hx))
    have hs2 : (w2.alloc (.cells #[.slice none 0 0, .int .i64 0, .slice none 0 0] 43)).heap.size = w2.heap.size + 1 := Array.size_push _
    have hX8 := BoxT.store ⟨q0, q0'⟩ ⟨q1, q1'⟩ ⟨q2, q2'⟩ HX3.out (by rw [hs2]; exact Nat.lt_succ_self _)
    obtain ⟨W4, hW4⟩ : ∃ W4, W4 = ((w3.setCell ⟨w2.heap.size, 0, none⟩ (.slice a3 1 c3)).setCell ⟨w2.heap.size, 1, none⟩ (.int .i64 0)).setCell ⟨w2.heap.size, 2, none⟩ (.slice d3 0 e3) := ⟨_, rfl⟩
    have e24 : Ext w2 W4 := by rw [hW4]; exact ext3 ((((Ext.refl w2).alloc _).trans hb3)) _ _ _
    have e14 : Ext (w1.alloc (.cells #[.slice a1 1 c1, .int .i64 0, .slice d1 0 e1] 43)) W4 := hb2.trans e24
    have e04 : Ext (w.alloc (.cells #[.slice sa s.fibers.length sc, .int .i64 s.now, .slice sb s.out.length sd] 43)) W4 := hb1.trans (((Ext.refl _).alloc _).trans e14)
    rw [← hW4] at hX8 ⊢
    have X1 := (BoxT.new HX1.out 43).ext e14
    have E4 : Hid (Ext w W4) := ((Ext.refl w).alloc _).trans e04
    obtain ⟨ax1, cx1, dx1, ex1, ⟨x10, -⟩, ⟨x11, -⟩, ⟨x12, -⟩, v1⟩ := X1.ex
    obtain ⟨ax8, cx8, dx8, ex8, ⟨x80, -⟩, ⟨x81, -⟩, ⟨x82, -⟩, v8⟩ := hX8.ex
    have XSc := (⟨(Cx.new w [.slice sa s.fibers.length sc, .int .i64 s.now, .slice sb s.out.length sd] 43 (j := 0) rfl).ext e04, (Cx.new w [.slice sa s.fibers.length sc, .int .i64 s.now, .slice sb s.out.length sd] 43 (j := 1) rfl).ext e04, (Cx.new w [.slice sa s.fibers.length sc, .int .i64 s.now, .slice sb s.out.length sd] 43 (j := 2) rfl).ext e04⟩ : _ ∧ _ ∧ _)
    obtain ⟨⟨xs0, -⟩, ⟨xs1, -⟩, ⟨xs2, -⟩⟩ := XSc
    have HV1 := Lib.hid v1
    have HV8 := Lib.hid v8
    clear hW4 hX8 X1 v1 v8 e24 e14 e04 hb1 hb2 hb3 HX1 HX3 q0 q0' q1 q1' q2 q2' hs2
    generalize w2.heap.size = b8 at *
    generalize w1.heap.size = b1 at *
    rename World => W4
    refine wp_region_ext (by kernel_rfl) (by kernel_rfl) ?_
    repeat (first
      | go_big_quiet_skip
      | (go_big_quiet_want
         unfold Oper.quiet
         apply Exists.intro
         refine ⟨fun w' hw' => ?_, ?_⟩
         focus
           have hcq := Ext.keep hw'
           go_simp
           first
             | with_reducible rfl
             | ((go_at_call 23; refine (stateBegun_any _).mono ?_; rintro e w9 ⟨rfl, hb9⟩; exact ⟨rfl, hw'.trans hb9⟩)) | ((go_at_call 24; refine (sameStates_any (beginG p) (beginG p) _ _ _ _ _ (StateV.stays (Ext.stays hw') HV1.out) (StateV.stays (Ext.stays hw') HV8.out)).mono ?_; rintro e w9 ⟨rfl, hb9⟩; rw [show decide ((beginG p) = (beginG p)) = true from decide_eq_true rfl]; exact ⟨rfl, hw'.trans hb9⟩)) | ((go_at_call 25; refine (stateCheck_any p _ _ _ s _ _ (Funcs.stays (Ext.stays (E4.out.trans hw')) HP.out) (StateV.stays (Ext.stays (E4.out.trans hw')) HS.out)).mono ?_; rintro e w9 ⟨rfl, hb9⟩; rw [HSE.out]; exact ⟨rfl, hw'.trans hb9⟩)) | ((go_at_call 26; refine (stateError_any p _ _ _ s _ _ (Funcs.stays (Ext.stays (E4.out.trans hw')) HP.out) (StateV.stays (Ext.stays (E4.out.trans hw')) HS.out)).mono ?_; rintro e w9 ⟨rfl, hb9⟩; rw [HSE.out]; exact ⟨rfl, hw'.trans hb9⟩))
         (try dsimp only [Act.put])
         (try simp only [List.setIfInBounds_toArray, List.set_cons_succ, List.set_cons_zero])
         go_big_quiet_on))
    refine wpQuiet_nil ?_
    intro wq hq
    go_wp2_with fail
    go_ret
    exact ⟨rfl, E4.out.trans hq⟩
  · have TB : (c == 0) = false := beq_eq_false_iff_ne.2 hz
    have hbs : beginS p = ⟨[], 0, []⟩ := by unfold beginS; rw [if_neg (by rw [hc]; exact hz)]
    have HBS := Lib.hid hbs
    clear hc hbs hz

    go_enter Try.func5, Try.ntmps5
    go_upto_region 6 with (first
      | (go_at_call 20; (with_reducible refine (begin_any p _ _ _ (Funcs.stays (Ext.stays (by ((repeat (first | assumption | exact Ext.refl _ | (exact And.left (by assumption)) | refine Ext.alloc ?_ _ | refine Ext.drew ?_ | refine Ext.drewN ?_ _ | refine Ext.setCell ?_ (by simp) _ | refine Ext.setCell ?_ (by simp; omega) _ | refine Ext.trans ?_ (by assumption))); done))) HP.out)).mono ?_); rintro e w1 ⟨⟨x, rfl, hx⟩, hb1⟩; rw [HC.out]; rw [HBS.out] at hx; have HX1 := Lib.hid (StateV.stays (T := fun _ => True) (Stays.widen (fun _ _ => trivial)) hx); obtain ⟨a1, c1, d1, e1, rfl⟩ := few_none hx; clear hx)
      | (go_at_call 21; (with_reducible refine (progError_any p _ _ _ (Funcs.stays (Ext.stays (by ((repeat (first | assumption | exact Ext.refl _ | (exact And.left (by assumption)) | refine Ext.alloc ?_ _ | refine Ext.drew ?_ | refine Ext.drewN ?_ _ | refine Ext.setCell ?_ (by simp) _ | refine Ext.setCell ?_ (by simp; omega) _ | refine Ext.trans ?_ (by assumption))); done))) HP.out)).mono ?_); rintro e w2 ⟨rfl, hb2⟩; rw [HC.out]))
    obtain ⟨W4, hW4⟩ : ∃ W4, W4 = w2.alloc (.cells #[.slice none 0 0, .int .i64 0, .slice none 0 0] 43) := ⟨_, rfl⟩
    have e24 : Ext w2 W4 := by rw [hW4]; exact (Ext.refl w2).alloc _
    have e14 : Ext (w1.alloc (.cells #[.slice a1 0 c1, .int .i64 0, .slice d1 0 e1] 43)) W4 := hb2.trans e24
    have e04 : Ext (w.alloc (.cells #[.slice sa s.fibers.length sc, .int .i64 s.now, .slice sb s.out.length sd] 43)) W4 := hb1.trans (((Ext.refl _).alloc _).trans e14)
    have hX8 : BoxT W4 w2.heap.size 0 0 0 ⟨[], 0, []⟩ := by rw [hW4]; exact BoxT.new (stateV_nil w2 _) 43
    rw [← hW4]
    have X1 := (BoxT.new HX1.out 43).ext e14
    have E4 : Hid (Ext w W4) := ((Ext.refl w).alloc _).trans e04
    obtain ⟨ax1, cx1, dx1, ex1, ⟨x10, -⟩, ⟨x11, -⟩, ⟨x12, -⟩, v1⟩ := X1.ex
    obtain ⟨ax8, cx8, dx8, ex8, ⟨x80, -⟩, ⟨x81, -⟩, ⟨x82, -⟩, v8⟩ := hX8.ex
    have XSc := (⟨(Cx.new w [.slice sa s.fibers.length sc, .int .i64 s.now, .slice sb s.out.length sd] 43 (j := 0) rfl).ext e04, (Cx.new w [.slice sa s.fibers.length sc, .int .i64 s.now, .slice sb s.out.length sd] 43 (j := 1) rfl).ext e04, (Cx.new w [.slice sa s.fibers.length sc, .int .i64 s.now, .slice sb s.out.length sd] 43 (j := 2) rfl).ext e04⟩ : _ ∧ _ ∧ _)
    obtain ⟨⟨xs0, -⟩, ⟨xs1, -⟩, ⟨xs2, -⟩⟩ := XSc
    have HV1 := Lib.hid v1
    have HV8 := Lib.hid v8
    clear hW4 hX8 X1 v1 v8 e24 e14 e04 hb1 hb2 HX1
    generalize w2.heap.size = b8 at *
    generalize w1.heap.size = b1 at *
    rename World => W4
    refine wp_region_ext (by kernel_rfl) (by kernel_rfl) ?_
    repeat (first
      | go_big_quiet_skip
      | (go_big_quiet_want
         unfold Oper.quiet
         apply Exists.intro
         refine ⟨fun w' hw' => ?_, ?_⟩
         focus
           have hcq := Ext.keep hw'
           go_simp
           first
             | with_reducible rfl
             | ((go_at_call 23; refine (stateBegun_any _).mono ?_; rintro e w9 ⟨rfl, hb9⟩; exact ⟨rfl, hw'.trans hb9⟩)) | ((go_at_call 24; refine (sameStates_any (⟨[], 0, []⟩ : GState) (⟨[], 0, []⟩ : GState) _ _ _ _ _ (StateV.stays (Ext.stays hw') HV1.out) (StateV.stays (Ext.stays hw') HV8.out)).mono ?_; rintro e w9 ⟨rfl, hb9⟩; rw [show decide ((⟨[], 0, []⟩ : GState) = (⟨[], 0, []⟩ : GState)) = true from decide_eq_true rfl]; exact ⟨rfl, hw'.trans hb9⟩)) | ((go_at_call 25; refine (stateCheck_any p _ _ _ s _ _ (Funcs.stays (Ext.stays (E4.out.trans hw')) HP.out) (StateV.stays (Ext.stays (E4.out.trans hw')) HS.out)).mono ?_; rintro e w9 ⟨rfl, hb9⟩; rw [HSE.out]; exact ⟨rfl, hw'.trans hb9⟩)) | ((go_at_call 26; refine (stateError_any p _ _ _ s _ _ (Funcs.stays (Ext.stays (E4.out.trans hw')) HP.out) (StateV.stays (Ext.stays (E4.out.trans hw')) HS.out)).mono ?_; rintro e w9 ⟨rfl, hb9⟩; rw [HSE.out]; exact ⟨rfl, hw'.trans hb9⟩))
         (try dsimp only [Act.put])
         (try simp only [List.setIfInBounds_toArray, List.set_cons_succ, List.set_cons_zero])
         go_big_quiet_on))
    refine wpQuiet_nil ?_
    intro wq hq
    go_wp2_with fail
    go_ret
    exact ⟨rfl, E4.out.trans hq⟩

theorem contract (H : Type) (enc : TypeId × Value → H) (W : World) (base : Nat) (args : Array Value) (ds gs : List (DataW H)) (before : List MemPlace)
    (hval : ∀ (j : Nat) t v, Try.f5.params[j]? = some t → args[j]? = some v → Value.okWide Try.prog W .any base t v)
    (hW : DataW.Whole enc Try.prog Try.f5.params.toList Rows.stateTellsSpec.vars false W args.toList ds gs before)
    (hsz : (DataW.weightsEach Try.prog (Try.f5.params.toList ++ Rows.stateTellsSpec.plain.varTypes Try.prog) (ds ++ gs)).all (· ≤ reachBytes) = true) :
    Calls Try.prog 5 args W fun e W' => ∃ v, e = .returned v ∧ Rows.stateTellsSpec.post enc Try.prog Try.f5 false true false false W args v W' := by
  have hW' := hW
  obtain ⟨p, q, hA, hV, rfl, hfz, hnd⟩ := hW
  rw [Try.params5] at hA hval
  obtain ⟨v0, vs0, d0, ds0, q0, t0, hargs, rfl, rfl, h0, r0⟩ := trodAll_cons hA
  obtain ⟨v1, vs1, d1, ds1, q1, t1, rfl, rfl, rfl, h1, r1⟩ := trodAll_cons r0
  obtain ⟨rfl, rfl, rfl⟩ := trodAll_nil r1
  obtain rfl : args = #[v0, v1] := by cases args; simp_all
  obtain ⟨rfl, rfl⟩ := trodVars_none hV
  obtain ⟨a0, l0, c0, rfl⟩ := okWide_slice Try.underlying22 (hval 0 22 v0 rfl rfl)
  obtain ⟨fuel0, h0⟩ := h0
  obtain ⟨x0, h0⟩ := funcs_of_trod h0 (fun n hn => by
    have := List.all_eq_true.1 hsz n (DataW.weights_mem_each (j := 0) rfl rfl n hn)
    simpa using this)
  obtain ⟨x1, h1⟩ := state_of_trod (hval 1 43 v1 rfl rfl) h1 (fun n hn => by
    have := List.all_eq_true.1 hsz n (DataW.weights_mem_each (j := 1) rfl rfl n hn)
    simpa using this)
  refine (walk W x0 _ h0 x1 _ h1).mono fun e W' ⟨he, hE⟩ => ⟨_, he, law_post laidOut ?_ rfl Try.underlying4 rfl hW' ?_ hE⟩
  · rw [Try.params5]
    intro t ht
    simp at ht
    (try rcases ht with rfl | rfl) <;> exact ⟨by kernel_rfl, of_decide_eq_true (by kernel_rfl)⟩
  · intro ds hds
    match ds, hds with
    | [d0, d1], _ => exact ⟨rfl, rfl, rfl⟩

theorem lifted (os : Os) (started : os.Started) (H : Type) (enc : TypeId × Value → H) :
    ReturnsInHanded {} Try.checked os 5 .any (Rows.stateTellsSpec.pre6 enc Try.prog Try.f5 Rows.stateTellsRow.domain false) (Rows.stateTellsSpec.post enc Try.prog Try.f5 false true false false) := by
  refine returnsInHanded_of_change_sized (C := Try.checked) own started (by kernel_rfl) Try.func5
    (ChangeSpec.witness6 (enc := enc) (C := Try.checked) false ⟨#[], #[.slice none 0 0, .agg #[.slice none 0 0, .int .i64 0, .slice none 0 0]], []⟩ 8 (by kernel_rfl) (by kernel_rfl) (by kernel_rfl) (by kernel_rfl)) ?_
  intro W base args ds gs before hval hW _ hsz _
  exact contract H enc W base args ds gs before hval hW hsz

theorem proved : Rows.StateTellsSaid :=
  OpenClaim.holds_of_wide 5 Try.f5 rfl rfl rfl rfl rfl rfl rfl ⟨rfl, rfl, rfl, rfl, rfl⟩ rfl rfl rfl rfl rfl (by as_aux_lemma => kernel_rfl) Try.func5 (by as_aux_lemma => kernel_rfl)
    (of_decide_eq_true (by as_aux_lemma => kernel_rfl)) (by unfold Func.isWrapper; rw [if_neg (of_decide_eq_false (by as_aux_lemma => kernel_rfl))]; exact ⟨rfl, rfl⟩)
    (fun os started H enc _ => lifted os started H enc)
end Go.Proofs.Ytpomcbginkhlbaa.stateTells

