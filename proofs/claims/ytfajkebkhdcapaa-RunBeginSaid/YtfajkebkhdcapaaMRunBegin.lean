/- RunBegin: all of a program is run from Begin; with no fuel nothing is done. No condition. -/
import Derived.Test.YtfajkebkhdcapaaGSAA
import Derived.Test.YtfajkebkhdcapaaGSAC
import Derived.Test.YtfajkebkhdcapaaGSAQ
import Derived.Test.YtfajkebkhdcapaaGSAZ
namespace Go.Proofs.Ytfajkebkhdcapaa.runBegin
set_option maxHeartbeats 4000000
set_option maxRecDepth 100000
open Go Go.RowKit Go.ChangeShapes Go.WideShapes Go.ChangeAt

theorem walk (w : World) (p : List GFunc) (v : Value) (hp : Funcs w (fun _ => True) v p) (c : Int) (hc : I64 c) :
    Calls Try.prog 11 #[v, .int .i64 c] w fun e w' => e = .returned (.bool true) ∧ Ext w w' := by
  have HP := Lib.hid hp
  have HC := Lib.hid hc
  obtain ⟨a0, cap, rfl, _, _, _⟩ := hp
  have RA := alloc_keep
  obtain ⟨m, hm⟩ : ∃ m, chooseOf c 501 = m := ⟨_, rfl⟩
  have hml := chooseOf_lt c 501 (by omega)
  rw [hm] at hml
  have HM := Lib.hid hm
  clear hc hm
  by_cases hz : progErr p = 0
  · have hb : beginS p = beginG p := by unfold beginS; rw [if_pos hz]
    have hok := (begin_ok hz).err
    obtain ⟨⟨t, n, re⟩, hr⟩ : ∃ r, runOfG p (beginG p) m = r := ⟨_, rfl⟩
    have hall : allG p m = (t.out, n, re) := by
      have := runOf_eq hok hml.1 (show m ≤ 500 by omega)
      rw [hr] at this
      unfold allG
      rw [if_neg (fun k => k ⟨hml.1, by omega⟩), if_neg (fun k => k hz), ← this]
    have hr0 : runOfG p (beginG p) 0 = (beginG p, 0, 0) := by rw [runOf_eq hok (by omega) (by omega)]; exact runG0 p _
    obtain ⟨g, hg⟩ : ∃ g, beginG p = g := ⟨_, rfl⟩
    rw [hg] at hb hr hr0
    have HB := Lib.hid hb
    have HR := Lib.hid hr
    have HR0 := Lib.hid hr0
    have HALL := Lib.hid hall
    have HZ := Lib.hid hz
    clear hb hok hr hr0 hall hz hml hg
    go_enter Try.func11, Try.ntmps11
    go_wp2_with (first
      | (go_at_call 15; (with_reducible refine (choose_any c 501 _ HC.out (by omega) (by omega)).mono ?_); rintro e w1 ⟨rfl, rfl⟩; rw [HM.out])
      | (go_at_call 25; (with_reducible refine (begin_any p _ _ _ HP.out).mono ?_); rintro e w2 ⟨⟨x, rfl, hx⟩, hb2⟩; rw [HB.out] at hx; rw [HZ.out]; obtain ⟨ga, gc, gb, gd, rfl⟩ := hx.few; have E2 := Lib.hid (hb2.alloc (.cells #[.slice ga g.fibers.length gc, .int .i64 g.now, .slice gb g.out.length gd] 35)); have HG := Lib.hid (StateV.stays (T := fun _ => True) (fun b o v _ hc => ⟨Ext.cell ((Ext.refl w2).alloc (.cells #[.slice ga g.fibers.length gc, .int .i64 g.now, .slice gb g.out.length gd] 35)) hc, trivial⟩) hx); have x0 := (Cx.new w2 [.slice ga g.fibers.length gc, .int .i64 g.now, .slice gb g.out.length gd] 35 (j := 0) rfl).1; have x1 := (Cx.new w2 [.slice ga g.fibers.length gc, .int .i64 g.now, .slice gb g.out.length gd] 35 (j := 1) rfl).1; have x2 := (Cx.new w2 [.slice ga g.fibers.length gc, .int .i64 g.now, .slice gb g.out.length gd] 35 (j := 2) rfl).1; clear hx hb2)
      | (go_at_call 14; (with_reducible refine (runAll_any p _ _ m _ (Funcs.stays (Ext.stays E2.out) HP.out)).mono ?_); rintro e w3 ⟨⟨y, rfl, h3⟩, hb3⟩; rw [HALL.out] at h3; rw [HALL.out]; have HL := Lib.hid h3; have E3 := Lib.hid (E2.out.trans hb3); have HG := Lib.hid (StateV.stays (Ext.stays hb3) HG.out); have x0 := Ext.cell hb3 x0; have x1 := Ext.cell hb3 x1; have x2 := Ext.cell hb3 x2; clear h3 hb3)
      | (go_at_call 23; have _z := HL.out; (with_reducible refine (runRun_any p _ _ _ g _ m _ (Funcs.stays (Ext.stays E3.out) HP.out) HG.out).mono ?_); rintro e w4 ⟨⟨z, rfl, hx⟩, hb4⟩; rw [HR.out] at hx; rw [HR.out]; obtain ⟨ta, tc, tb, td, rfl⟩ := hx.few; have hbq := hb4.alloc (.cells #[.slice ta t.fibers.length tc, .int .i64 t.now, .slice tb t.out.length td] 35); have HT := Lib.hid (hx.ext ((Ext.refl w4).alloc (.cells #[.slice ta t.fibers.length tc, .int .i64 t.now, .slice tb t.out.length td] 35))).state; have E4 := Lib.hid (E3.out.trans hbq); have HG := Lib.hid (StateV.stays (Ext.stays hbq) HG.out); have HL4 := Lib.hid (Ints.stays (Ext.stays hbq) HL.out); have x0 := Ext.cell hbq x0; have x1 := Ext.cell hbq x1; have x2 := Ext.cell hbq x2; have y2 := (Cx.new w4 [.slice ta t.fibers.length tc, .int .i64 t.now, .slice tb t.out.length td] 35 (j := 2) rfl).1; clear hx hb4 hbq _z HL)
      | (go_at_call 23; (with_reducible refine (runRun_any p _ _ _ g _ 0 _ (Funcs.stays (Ext.stays E4.out) HP.out) HG.out).mono ?_); rintro e w5 ⟨⟨z, rfl, hx⟩, hb5⟩; rw [HR0.out] at hx; rw [HR0.out]; obtain ⟨ua, uc, ub, ud, rfl⟩ := hx.few; have hbq := hb5.alloc (.cells #[.slice ua g.fibers.length uc, .int .i64 g.now, .slice ub g.out.length ud] 35); have HU := Lib.hid (hx.ext ((Ext.refl w5).alloc (.cells #[.slice ua g.fibers.length uc, .int .i64 g.now, .slice ub g.out.length ud] 35))).state; have E5 := Lib.hid (E4.out.trans hbq); have HG := Lib.hid (StateV.stays (Ext.stays hbq) HG.out); have HT := Lib.hid (StateV.stays (Ext.stays hbq) HT.out); have HL5 := Lib.hid (Ints.stays (Ext.stays hbq) HL4.out); have x0 := Ext.cell hbq x0; have x1 := Ext.cell hbq x1; have x2 := Ext.cell hbq x2; have y2 := Ext.cell hbq y2; have z0 := (Cx.new w5 [.slice ua g.fibers.length uc, .int .i64 g.now, .slice ub g.out.length ud] 35 (j := 0) rfl).1; have z1 := (Cx.new w5 [.slice ua g.fibers.length uc, .int .i64 g.now, .slice ub g.out.length ud] 35 (j := 1) rfl).1; have z2 := (Cx.new w5 [.slice ua g.fibers.length uc, .int .i64 g.now, .slice ub g.out.length ud] 35 (j := 2) rfl).1; clear hx hb5 hbq)
      | (go_at_call 22; (with_reducible refine (runBegun_any _).mono ?_); rintro e w6 ⟨rfl, hb6⟩; have E6 := Lib.hid (E5.out.trans hb6); have HG := Lib.hid (StateV.stays (Ext.stays hb6) HG.out); have HT := Lib.hid (StateV.stays (Ext.stays hb6) HT.out); have HU := Lib.hid (StateV.stays (Ext.stays hb6) HU.out); have HL6 := Lib.hid (Ints.stays (Ext.stays hb6) HL5.out); have x0 := Ext.cell hb6 x0; have x1 := Ext.cell hb6 x1; have x2 := Ext.cell hb6 x2; have y2 := Ext.cell hb6 y2; have z0 := Ext.cell hb6 z0; have z1 := Ext.cell hb6 z1; have z2 := Ext.cell hb6 z2; clear hb6)
      | (go_at_call 16; (with_reducible refine (sameInts_any t.out t.out _ _ _ _ _ HL6.out (out_of HT.out)).mono ?_); rintro e w7 ⟨rfl, hb7⟩; rw [show decide (t.out = t.out) = true from decide_eq_true rfl]; have E7 := Lib.hid (E6.out.trans hb7); have HG := Lib.hid (StateV.stays (Ext.stays hb7) HG.out); have HU := Lib.hid (StateV.stays (Ext.stays hb7) HU.out); have x0 := Ext.cell hb7 x0; have x1 := Ext.cell hb7 x1; have x2 := Ext.cell hb7 x2; have z0 := Ext.cell hb7 z0; have z1 := Ext.cell hb7 z1; have z2 := Ext.cell hb7 z2; clear hb7)
      | (go_at_call 20; (with_reducible refine (sameStates_any g g _ _ _ _ _ HU.out HG.out).mono ?_); rintro e w8 ⟨rfl, hb8⟩; rw [show decide (g = g) = true from decide_eq_true rfl]))
    go_ret
    exact ⟨rfl, E7.out.trans hb8⟩
  · have TB : (progErr p != 0) = true := bne_iff_ne.2 hz
    have hb : beginS p = ⟨[], 0, []⟩ := by unfold beginS; rw [if_neg hz]
    have hall : allG p m = ([], 0, progErr p) := by unfold allG; rw [if_neg (fun k => k ⟨hml.1, by omega⟩), if_pos hz]
    obtain ⟨re, hre⟩ : ∃ re, progErr p = re := ⟨_, rfl⟩
    rw [hre] at TB hall
    have HB := Lib.hid hb
    have HALL := Lib.hid hall
    have HZ := Lib.hid hre
    clear hz hre hb hall hml
    go_enter Try.func11, Try.ntmps11
    go_wp2_with (first
      | (go_at_call 15; (with_reducible refine (choose_any c 501 _ HC.out (by omega) (by omega)).mono ?_); rintro e w1 ⟨rfl, rfl⟩; rw [HM.out])
      | (go_at_call 25; (with_reducible refine (begin_any p _ _ _ HP.out).mono ?_); rintro e w2 ⟨⟨x, rfl, hx⟩, hb2⟩; rw [HB.out] at hx; rw [HZ.out]; obtain ⟨ga, gc, gb, gd, rfl⟩ := few0V hx; have E2 := Lib.hid (hb2.alloc (.cells #[.slice ga 0 gc, .int .i64 0, .slice gb 0 gd] 35)); clear hx hb2)
      | (go_at_call 14; (with_reducible refine (runAll_any p _ _ m _ (Funcs.stays (Ext.stays E2.out) HP.out)).mono ?_); rintro e w3 ⟨⟨y, rfl, h3⟩, hb3⟩; rw [HALL.out] at h3; rw [HALL.out]; obtain ⟨ya, yc, rfl⟩ := ints0 h3; have E3 := Lib.hid (E2.out.trans hb3); clear h3 hb3)
      | (go_at_call 22; (with_reducible refine (runBegun_any _).mono ?_); rintro e w6 ⟨rfl, hb6⟩))
    go_ret
    exact ⟨rfl, E3.out.trans hb6⟩

theorem contract (H : Type) (enc : TypeId × Value → H) (W : World) (base : Nat) (args : Array Value) (ds gs : List (DataW H)) (before : List MemPlace)
    (hval : ∀ (j : Nat) t v, Try.f11.params[j]? = some t → args[j]? = some v → Value.okWide Try.prog W .any base t v)
    (hW : DataW.Whole enc Try.prog Try.f11.params.toList Rows.runBeginSpec.vars false W args.toList ds gs before)
    (hsz : (DataW.weightsEach Try.prog (Try.f11.params.toList ++ Rows.runBeginSpec.plain.varTypes Try.prog) (ds ++ gs)).all (· ≤ reachBytes) = true) :
    Calls Try.prog 11 args W fun e W' => ∃ v, e = .returned v ∧ Rows.runBeginSpec.post enc Try.prog Try.f11 false true false false W args v W' := by
  have hW' := hW
  obtain ⟨p, q, hA, hV, rfl, hfz, hnd⟩ := hW
  rw [Try.params11] at hA hval
  obtain ⟨v0, vs0, d0, ds0, q0, t0, hargs, rfl, rfl, h0, r0⟩ := trodAll_cons hA
  obtain ⟨v1, vs1, d1, ds1, q1, t1, rfl, rfl, rfl, h1, r1⟩ := trodAll_cons r0
  obtain ⟨rfl, rfl, rfl⟩ := trodAll_nil r1
  obtain rfl : args = #[v0, v1] := by cases args; simp_all
  obtain ⟨rfl, rfl⟩ := trodVars_none hV
  obtain ⟨a0, l0, c0, rfl⟩ := okWide_slice Try.underlying22 (hval 0 22 v0 rfl rfl)
  obtain ⟨fuel0, h0⟩ := h0
  obtain ⟨x0, h0⟩ := funcs_of_trod h0 (fun n hn => by
    have := List.all_eq_true.1 hsz n (DataW.weights_mem_each (j := 0) rfl rfl n hn)
    simpa using this)
  obtain ⟨x1, rfl, rfl, rfl, wf1⟩ := open_int Try.underlying3 (hval 1 3 v1 rfl rfl) h1
  refine (walk W x0 _ h0 x1 (i64_of_wf wf1)).mono fun e W' ⟨he, hE⟩ => ⟨_, he, law_post laidOut ?_ rfl Try.underlying4 rfl hW' ?_ hE⟩
  · rw [Try.params11]
    intro t ht
    simp at ht
    (try rcases ht with rfl | rfl) <;> exact ⟨by kernel_rfl, of_decide_eq_true (by kernel_rfl)⟩
  · intro ds hds
    match ds, hds with
    | [d0, d1], _ => exact ⟨rfl, rfl, rfl⟩

theorem lifted (os : Os) (started : os.Started) (H : Type) (enc : TypeId × Value → H) :
    ReturnsInHanded {} Try.checked os 11 .any (Rows.runBeginSpec.pre6 enc Try.prog Try.f11 Rows.runBeginRow.domain false) (Rows.runBeginSpec.post enc Try.prog Try.f11 false true false false) := by
  refine returnsInHanded_of_change_sized (C := Try.checked) own started (by kernel_rfl) Try.func11
    (ChangeSpec.witness6 (enc := enc) (C := Try.checked) false ⟨#[], #[.slice none 0 0, .int .i64 0], []⟩ 8 (by kernel_rfl) (by kernel_rfl) (by kernel_rfl) (by kernel_rfl)) ?_
  intro W base args ds gs before hval hW _ hsz _
  exact contract H enc W base args ds gs before hval hW hsz

theorem proved : Rows.RunBeginSaid :=
  OpenClaim.holds_of_wide 11 Try.f11 rfl rfl rfl rfl rfl rfl rfl ⟨rfl, rfl, rfl, rfl, rfl⟩ rfl rfl rfl rfl rfl (by as_aux_lemma => kernel_rfl) Try.func11 (by as_aux_lemma => kernel_rfl)
    (of_decide_eq_true (by as_aux_lemma => kernel_rfl)) (by unfold Func.isWrapper; rw [if_neg (of_decide_eq_false (by as_aux_lemma => kernel_rfl))]; exact ⟨rfl, rfl⟩)
    (fun os started H enc _ => lifted os started H enc)
end Go.Proofs.Ytfajkebkhdcapaa.runBegin

