/- RunSplit: it does not matter whether one runs on in two goes: the same state, as many steps, the same error. No condition. -/
import Derived.Test.YtfajkebkhdcapaaGSAA
import Derived.Test.YtfajkebkhdcapaaGSAB
import Derived.Test.YtfajkebkhdcapaaGSAC
import Derived.Test.YtfajkebkhdcapaaGSAQ
import Derived.Test.YtfajkebkhdcapaaGSAZ
namespace Go.Proofs.Ytfajkebkhdcapaa.runSplit
set_option maxHeartbeats 4000000
set_option maxRecDepth 100000
open Go Go.RowKit Go.ChangeShapes Go.WideShapes Go.ChangeAt

theorem walk (w : World) (p : List GFunc) (v : Value) (hp : Funcs w (fun _ => True) v p) (s : GState) (vs : Value) (hs : StateV w (fun _ => True) vs s) (a : Int) (ha : I64 a) (b : Int) (hb : I64 b) :
    Calls Try.prog 8 #[v, vs, .int .i64 a, .int .i64 b] w fun e w' => e = .returned (.bool true) ∧ Ext w w' := by
  have HP := Lib.hid hp
  have HS := Lib.hid hs
  have HA := Lib.hid ha
  have HB := Lib.hid hb
  obtain ⟨a0, cap, rfl, _, _, _⟩ := hp
  obtain ⟨sa, sc, sb, sd, rfl⟩ := hs.few
  have RA := alloc_keep
  have b0 := (Cx.new w [.slice sa s.fibers.length sc, .int .i64 s.now, .slice sb s.out.length sd] 35 (j := 0) rfl).1
  have b1 := (Cx.new w [.slice sa s.fibers.length sc, .int .i64 s.now, .slice sb s.out.length sd] 35 (j := 1) rfl).1
  have b2 := (Cx.new w [.slice sa s.fibers.length sc, .int .i64 s.now, .slice sb s.out.length sd] 35 (j := 2) rfl).1
  have E0 : Hid (Ext w (w.alloc (.cells #[.slice sa s.fibers.length sc, .int .i64 s.now, .slice sb s.out.length sd] 35))) := (Ext.refl w).alloc _
  obtain ⟨m, hm⟩ : ∃ m, chooseOf a 250 = m := ⟨_, rfl⟩
  have hml := chooseOf_lt a 250 (by omega)
  obtain ⟨n, hn⟩ : ∃ m, chooseOf b 250 = m := ⟨_, rfl⟩
  have hnl := chooseOf_lt b 250 (by omega)
  rw [hm] at hml
  rw [hn] at hnl
  have HM := Lib.hid hm
  have HN := Lib.hid hn
  have M0 := hml.1
  have M1 : m ≤ 249 := by omega
  have N0 := hnl.1
  have N1 : n ≤ 249 := by omega
  clear ha hb hm hn hml hnl
  by_cases hz : stateErr p s = 0
  · have hf := splitF hz M0 M1 N0 N1
    obtain ⟨⟨t, i, e⟩, hr⟩ : ∃ r, runOfG p s m = r := ⟨_, rfl⟩
    rw [hr] at hf
    obtain ⟨⟨u, j, f⟩, hq⟩ : ∃ r, runOfG p t n = r := ⟨_, rfl⟩
    rw [hq] at hf
    obtain ⟨I0, I1, J0, J1, hbad, hfine⟩ := hf
    dsimp only at I0 I1 J0 J1 hbad hfine
    have HR := Lib.hid hr
    have HZ := Lib.hid hz
    clear hr hz
    by_cases he : e = 0
    · subst he
      obtain ⟨f1, f2, f3⟩ := hfine rfl
      have HQ := Lib.hid hq
      have HALL := Lib.hid f1
      have HT := Lib.hid f2
      have T1 : decide (i ≤ m) = true := decide_eq_true I1
      have f3 : (i == m) = true ∨ ((i == m) = false ∧ (t.now == -1) = true) := by
        by_cases k : i = m
        · exact .inl (beq_iff_eq.2 k)
        · exact .inr ⟨beq_eq_false_iff_ne.2 k, beq_iff_eq.2 (f3.resolve_left k)⟩
      have I2 : i ≤ 249 := by omega
      have J2 : j ≤ 249 := by omega
      clear f1 f2 hbad hfine hq I1 J1
      rcases f3 with T2 | ⟨T2, T3⟩
      all_goals
        go_enter Try.func8, Try.ntmps8
        go_wp2_with (first
          | (go_at_call 15; (with_reducible refine (choose_any a 250 _ HA.out (by omega) (by omega)).mono ?_); rintro e w1 ⟨rfl, rfl⟩; rw [HM.out])
          | (go_at_call 15; (with_reducible refine (choose_any b 250 _ HB.out (by omega) (by omega)).mono ?_); rintro e w1 ⟨rfl, rfl⟩; rw [HN.out])
          | (go_at_call 23; have _z := E0.out; (with_reducible refine (runRun_any p _ _ _ s _ m _ (Funcs.stays (Ext.stays E0.out) HP.out) (StateV.stays (Ext.stays E0.out) HS.out)).mono ?_); rintro e w2 ⟨⟨x, rfl, hx⟩, hb2⟩; rw [HR.out] at hx; rw [HR.out]; obtain ⟨ta, tc, tb, td, rfl⟩ := hx.few; have hq := (hb2.alloc (.cells #[.slice ta t.fibers.length tc, .int .i64 t.now, .slice tb t.out.length td] 35)); have HX := Lib.hid (hx.ext ((Ext.refl w2).alloc (.cells #[.slice ta t.fibers.length tc, .int .i64 t.now, .slice tb t.out.length td] 35))).state; have b0 := Ext.cell hq b0; have b1 := Ext.cell hq b1; have b2 := Ext.cell hq b2; have E2 := Lib.hid (E0.out.trans hq); have x0 := (Cx.new w2 [.slice ta t.fibers.length tc, .int .i64 t.now, .slice tb t.out.length td] 35 (j := 0) rfl).1; have x1 := (Cx.new w2 [.slice ta t.fibers.length tc, .int .i64 t.now, .slice tb t.out.length td] 35 (j := 1) rfl).1; have x2 := (Cx.new w2 [.slice ta t.fibers.length tc, .int .i64 t.now, .slice tb t.out.length td] 35 (j := 2) rfl).1; clear hx hq hb2 _z E0)
          | (go_at_call 17; have _z := E2.out; (with_reducible refine (stateCheck_any p _ _ _ s _ _ (Funcs.stays (Ext.stays E2.out) HP.out) (StateV.stays (Ext.stays E2.out) HS.out)).mono ?_); rintro e w3 ⟨rfl, hb3⟩; rw [HZ.out]; have b0 := Ext.cell hb3 b0; have b1 := Ext.cell hb3 b1; have b2 := Ext.cell hb3 b2; have x0 := Ext.cell hb3 x0; have x1 := Ext.cell hb3 x1; have x2 := Ext.cell hb3 x2; have E3 := Lib.hid (E2.out.trans hb3); have HX := Lib.hid (StateV.stays (Ext.stays hb3) HX.out); clear _z E2 hb3)
          | (go_at_call 23; have _z := E3.out; (with_reducible refine (runRun_any p _ _ _ t _ n _ (Funcs.stays (Ext.stays E3.out) HP.out) HX.out).mono ?_); rintro e w4 ⟨⟨x, rfl, hx⟩, hb4⟩; rw [HQ.out] at hx; rw [HQ.out]; obtain ⟨ua, uc, ub, ud, rfl⟩ := hx.few; have hq := (hb4.alloc (.cells #[.slice ua u.fibers.length uc, .int .i64 u.now, .slice ub u.out.length ud] 35)); have HU := Lib.hid (hx.ext ((Ext.refl w4).alloc (.cells #[.slice ua u.fibers.length uc, .int .i64 u.now, .slice ub u.out.length ud] 35))).state; have b0 := Ext.cell hq b0; have b1 := Ext.cell hq b1; have b2 := Ext.cell hq b2; have x0 := Ext.cell hq x0; have x1 := Ext.cell hq x1; have x2 := Ext.cell hq x2; have E4 := Lib.hid (E3.out.trans hq); have HX := Lib.hid (StateV.stays (Ext.stays hq) HX.out); have u0 := (Cx.new w4 [.slice ua u.fibers.length uc, .int .i64 u.now, .slice ub u.out.length ud] 35 (j := 0) rfl).1; have u1 := (Cx.new w4 [.slice ua u.fibers.length uc, .int .i64 u.now, .slice ub u.out.length ud] 35 (j := 1) rfl).1; have u2 := (Cx.new w4 [.slice ua u.fibers.length uc, .int .i64 u.now, .slice ub u.out.length ud] 35 (j := 2) rfl).1; clear hx hq hb4 _z E3)
          | (go_at_call 23; (with_reducible refine (runRun_any p _ _ _ s _ (m + n) _ (Funcs.stays (Ext.stays E4.out) HP.out) (StateV.stays (Ext.stays E4.out) HS.out)).mono ?_); rintro e w5 ⟨⟨x, rfl, hx⟩, hb5⟩; rw [HALL.out] at hx; rw [HALL.out]; obtain ⟨va, vc, vb, vd, rfl⟩ := hx.few; have hq := (hb5.alloc (.cells #[.slice va u.fibers.length vc, .int .i64 u.now, .slice vb u.out.length vd] 35)); have HV := Lib.hid (hx.ext ((Ext.refl w5).alloc (.cells #[.slice va u.fibers.length vc, .int .i64 u.now, .slice vb u.out.length vd] 35))).state; have x0 := Ext.cell hq x0; have x1 := Ext.cell hq x1; have x2 := Ext.cell hq x2; have u0 := Ext.cell hq u0; have u1 := Ext.cell hq u1; have u2 := Ext.cell hq u2; have E5 := Lib.hid (E4.out.trans hq); have HU := Lib.hid (StateV.stays (Ext.stays hq) HU.out); have v0 := (Cx.new w5 [.slice va u.fibers.length vc, .int .i64 u.now, .slice vb u.out.length vd] 35 (j := 0) rfl).1; have v1 := (Cx.new w5 [.slice va u.fibers.length vc, .int .i64 u.now, .slice vb u.out.length vd] 35 (j := 1) rfl).1; have v2 := (Cx.new w5 [.slice va u.fibers.length vc, .int .i64 u.now, .slice vb u.out.length vd] 35 (j := 2) rfl).1; clear hx hq hb5)
          | (go_at_call 22; (with_reducible refine (runBegun_any _).mono ?_); rintro e w6 ⟨rfl, hb6⟩; have x1 := Ext.cell hb6 x1; have u0 := Ext.cell hb6 u0; have u1 := Ext.cell hb6 u1; have u2 := Ext.cell hb6 u2; have v0 := Ext.cell hb6 v0; have v1 := Ext.cell hb6 v1; have v2 := Ext.cell hb6 v2; have E6 := Lib.hid (E5.out.trans hb6); have HU := Lib.hid (StateV.stays (Ext.stays hb6) HU.out); have HV := Lib.hid (StateV.stays (Ext.stays hb6) HV.out); clear hb6)
          | (go_at_call 20; (with_reducible refine (sameStates_any u u _ _ _ _ _ HU.out HV.out).mono ?_); rintro e w7 ⟨rfl, hb7⟩; rw [show decide (u = u) = true from decide_eq_true rfl]; have x1 := Ext.cell hb7 x1; have u0 := Ext.cell hb7 u0; have u1 := Ext.cell hb7 u1; have u2 := Ext.cell hb7 u2; have E7 := Lib.hid (E6.out.trans hb7); have HU := Lib.hid (StateV.stays (Ext.stays hb7) HU.out); clear hb7)
          | (go_at_call 17; (with_reducible refine (stateCheck_any p _ _ _ u _ _ (Funcs.stays (Ext.stays E7.out) HP.out) HU.out).mono ?_); rintro e w8 ⟨rfl, hb8⟩; rw [HT.out]; have x1 := Ext.cell hb8 x1))
        go_ret
        exact ⟨rfl, E7.out.trans hb8⟩
    · obtain ⟨f1, f2, f3, f4⟩ := hbad he
      subst f2 f3
      have HQ := Lib.hid hq
      have HALL := Lib.hid f1
      have TB : (e != 0) = true := bne_iff_ne.2 he
      have f4 : ((n == 0) = true ∧ f = 0) ∨ ((n == 0) = false ∧ decide (0 < n) = true ∧ f = e) := by
        rcases f4 with ⟨k, h⟩ | ⟨k, h⟩
        · exact .inl ⟨beq_iff_eq.2 k, h⟩
        · exact .inr ⟨beq_eq_false_iff_ne.2 (by omega), decide_eq_true k, h⟩
      clear f1 hbad hfine hq I1 J1 J0 he
      rcases f4 with ⟨T1, rfl⟩ | ⟨T1, T2, rfl⟩
      all_goals
        go_enter Try.func8, Try.ntmps8
        go_wp2_with (first
          | (go_at_call 15; (with_reducible refine (choose_any a 250 _ HA.out (by omega) (by omega)).mono ?_); rintro e w1 ⟨rfl, rfl⟩; rw [HM.out])
          | (go_at_call 15; (with_reducible refine (choose_any b 250 _ HB.out (by omega) (by omega)).mono ?_); rintro e w1 ⟨rfl, rfl⟩; rw [HN.out])
          | (go_at_call 23; have _z := E0.out; (with_reducible refine (runRun_any p _ _ _ s _ m _ (Funcs.stays (Ext.stays E0.out) HP.out) (StateV.stays (Ext.stays E0.out) HS.out)).mono ?_); rintro e w2 ⟨⟨x, rfl, hx⟩, hb2⟩; rw [HR.out] at hx; rw [HR.out]; obtain ⟨ta, tc, tb, td, rfl⟩ := hx.few; have hq := (hb2.alloc (.cells #[.slice ta u.fibers.length tc, .int .i64 u.now, .slice tb u.out.length td] 35)); have HX := Lib.hid (hx.ext ((Ext.refl w2).alloc (.cells #[.slice ta u.fibers.length tc, .int .i64 u.now, .slice tb u.out.length td] 35))).state; have b0 := Ext.cell hq b0; have b1 := Ext.cell hq b1; have b2 := Ext.cell hq b2; have E2 := Lib.hid (E0.out.trans hq); have x0 := (Cx.new w2 [.slice ta u.fibers.length tc, .int .i64 u.now, .slice tb u.out.length td] 35 (j := 0) rfl).1; have x1 := (Cx.new w2 [.slice ta u.fibers.length tc, .int .i64 u.now, .slice tb u.out.length td] 35 (j := 1) rfl).1; have x2 := (Cx.new w2 [.slice ta u.fibers.length tc, .int .i64 u.now, .slice tb u.out.length td] 35 (j := 2) rfl).1; clear hx hq hb2 _z E0)
          | (go_at_call 17; have _z := E2.out; (with_reducible refine (stateCheck_any p _ _ _ s _ _ (Funcs.stays (Ext.stays E2.out) HP.out) (StateV.stays (Ext.stays E2.out) HS.out)).mono ?_); rintro e w3 ⟨rfl, hb3⟩; rw [HZ.out]; have b0 := Ext.cell hb3 b0; have b1 := Ext.cell hb3 b1; have b2 := Ext.cell hb3 b2; have x0 := Ext.cell hb3 x0; have x1 := Ext.cell hb3 x1; have x2 := Ext.cell hb3 x2; have E3 := Lib.hid (E2.out.trans hb3); have HX := Lib.hid (StateV.stays (Ext.stays hb3) HX.out); clear _z E2 hb3)
          | (go_at_call 23; have _z := E3.out; (with_reducible refine (runRun_any p _ _ _ u _ n _ (Funcs.stays (Ext.stays E3.out) HP.out) HX.out).mono ?_); rintro e w4 ⟨⟨x, rfl, hx⟩, hb4⟩; rw [HQ.out] at hx; rw [HQ.out]; obtain ⟨ua, uc, ub, ud, rfl⟩ := hx.few; have hq := (hb4.alloc (.cells #[.slice ua u.fibers.length uc, .int .i64 u.now, .slice ub u.out.length ud] 35)); have b0 := Ext.cell hq b0; have b1 := Ext.cell hq b1; have b2 := Ext.cell hq b2; have x0 := Ext.cell hq x0; have x1 := Ext.cell hq x1; have x2 := Ext.cell hq x2; have E4 := Lib.hid (E3.out.trans hq); have HX := Lib.hid (StateV.stays (Ext.stays hq) HX.out); clear hx hq hb4 _z E3)
          | (go_at_call 23; (with_reducible refine (runRun_any p _ _ _ s _ (m + n) _ (Funcs.stays (Ext.stays E4.out) HP.out) (StateV.stays (Ext.stays E4.out) HS.out)).mono ?_); rintro e w5 ⟨⟨x, rfl, hx⟩, hb5⟩; rw [HALL.out] at hx; rw [HALL.out]; obtain ⟨va, vc, vb, vd, rfl⟩ := hx.few; have hq := (hb5.alloc (.cells #[.slice va u.fibers.length vc, .int .i64 u.now, .slice vb u.out.length vd] 35)); have HV := Lib.hid (hx.ext ((Ext.refl w5).alloc (.cells #[.slice va u.fibers.length vc, .int .i64 u.now, .slice vb u.out.length vd] 35))).state; have x0 := Ext.cell hq x0; have x1 := Ext.cell hq x1; have x2 := Ext.cell hq x2; have E5 := Lib.hid (E4.out.trans hq); have HX := Lib.hid (StateV.stays (Ext.stays hq) HX.out); have v0 := (Cx.new w5 [.slice va u.fibers.length vc, .int .i64 u.now, .slice vb u.out.length vd] 35 (j := 0) rfl).1; have v1 := (Cx.new w5 [.slice va u.fibers.length vc, .int .i64 u.now, .slice vb u.out.length vd] 35 (j := 1) rfl).1; have v2 := (Cx.new w5 [.slice va u.fibers.length vc, .int .i64 u.now, .slice vb u.out.length vd] 35 (j := 2) rfl).1; clear hx hq hb5)
          | (go_at_call 22; (with_reducible refine (runBegun_any _).mono ?_); rintro e w6 ⟨rfl, hb6⟩; have x0 := Ext.cell hb6 x0; have x1 := Ext.cell hb6 x1; have x2 := Ext.cell hb6 x2; have v0 := Ext.cell hb6 v0; have v1 := Ext.cell hb6 v1; have v2 := Ext.cell hb6 v2; have E6 := Lib.hid (E5.out.trans hb6); have HX := Lib.hid (StateV.stays (Ext.stays hb6) HX.out); have HV := Lib.hid (StateV.stays (Ext.stays hb6) HV.out); clear hb6)
          | (go_at_call 20; (with_reducible refine (sameStates_any u u _ _ _ _ _ HV.out HX.out).mono ?_); rintro e w7 ⟨rfl, hb7⟩; rw [show decide (u = u) = true from decide_eq_true rfl]))
        go_ret
        exact ⟨rfl, E6.out.trans hb7⟩
  · have TB : (stateErr p s != 0) = true := bne_iff_ne.2 hz
    have hr := runOf_bad hz M0 (show m ≤ 500 by omega)
    obtain ⟨se, hse⟩ : ∃ se, stateErr p s = se := ⟨_, rfl⟩
    rw [hse] at TB hr
    have HZ := Lib.hid hse
    have HR := Lib.hid hr
    clear hz hse hr
    go_enter Try.func8, Try.ntmps8
    go_wp2_with (first
      | (go_at_call 15; (with_reducible refine (choose_any a 250 _ HA.out (by omega) (by omega)).mono ?_); rintro e w1 ⟨rfl, rfl⟩; rw [HM.out])
      | (go_at_call 15; (with_reducible refine (choose_any b 250 _ HB.out (by omega) (by omega)).mono ?_); rintro e w1 ⟨rfl, rfl⟩; rw [HN.out])
      | (go_at_call 23; (with_reducible refine (runRun_any p _ _ _ s _ m _ (Funcs.stays (Ext.stays E0.out) HP.out) (StateV.stays (Ext.stays E0.out) HS.out)).mono ?_); rintro e w2 ⟨⟨x, rfl, hx⟩, hb2⟩; rw [HR.out] at hx; rw [HR.out]; obtain ⟨ta, tc, tb, td, rfl⟩ := hx.few0; have b0 := Ext.cell hb2 b0; have b1 := Ext.cell hb2 b1; have b2 := Ext.cell hb2 b2; have E2 := Lib.hid ((E0.out.trans hb2).alloc (.cells #[.slice ta 0 tc, .int .i64 0, .slice tb 0 td] 35)); clear hx)
      | (go_at_call 17; (with_reducible refine (stateCheck_any p _ _ _ s _ _ (Funcs.stays (Ext.stays E2.out) HP.out) (StateV.stays (Ext.stays E2.out) HS.out)).mono ?_); rintro e w3 ⟨rfl, hb3⟩; rw [HZ.out]; have E3 := Lib.hid (E2.out.trans hb3); clear hb3)
      | (go_at_call 22; (with_reducible refine (runBegun_any _).mono ?_); rintro e w8 ⟨rfl, hb8⟩))
    go_ret
    exact ⟨rfl, E3.out.trans hb8⟩

theorem contract (H : Type) (enc : TypeId × Value → H) (W : World) (base : Nat) (args : Array Value) (ds gs : List (DataW H)) (before : List MemPlace)
    (hval : ∀ (j : Nat) t v, Try.f8.params[j]? = some t → args[j]? = some v → Value.okWide Try.prog W .any base t v)
    (hW : DataW.Whole enc Try.prog Try.f8.params.toList Rows.runSplitSpec.vars false W args.toList ds gs before)
    (hsz : (DataW.weightsEach Try.prog (Try.f8.params.toList ++ Rows.runSplitSpec.plain.varTypes Try.prog) (ds ++ gs)).all (· ≤ reachBytes) = true) :
    Calls Try.prog 8 args W fun e W' => ∃ v, e = .returned v ∧ Rows.runSplitSpec.post enc Try.prog Try.f8 false true false false W args v W' := by
  have hW' := hW
  obtain ⟨p, q, hA, hV, rfl, hfz, hnd⟩ := hW
  rw [Try.params8] at hA hval
  obtain ⟨v0, vs0, d0, ds0, q0, t0, hargs, rfl, rfl, h0, r0⟩ := trodAll_cons hA
  obtain ⟨v1, vs1, d1, ds1, q1, t1, rfl, rfl, rfl, h1, r1⟩ := trodAll_cons r0
  obtain ⟨v2, vs2, d2, ds2, q2, t2, rfl, rfl, rfl, h2, r2⟩ := trodAll_cons r1
  obtain ⟨v3, vs3, d3, ds3, q3, t3, rfl, rfl, rfl, h3, r3⟩ := trodAll_cons r2
  obtain ⟨rfl, rfl, rfl⟩ := trodAll_nil r3
  obtain rfl : args = #[v0, v1, v2, v3] := by cases args; simp_all
  obtain ⟨rfl, rfl⟩ := trodVars_none hV
  obtain ⟨a0, l0, c0, rfl⟩ := okWide_slice Try.underlying22 (hval 0 22 v0 rfl rfl)
  obtain ⟨fuel0, h0⟩ := h0
  obtain ⟨x0, h0⟩ := funcs_of_trod h0 (fun n hn => by
    have := List.all_eq_true.1 hsz n (DataW.weights_mem_each (j := 0) rfl rfl n hn)
    simpa using this)
  obtain ⟨x1, h1⟩ := state_of_trod (hval 1 35 v1 rfl rfl) h1 (fun n hn => by
    have := List.all_eq_true.1 hsz n (DataW.weights_mem_each (j := 1) rfl rfl n hn)
    simpa using this)
  obtain ⟨x2, rfl, rfl, rfl, wf2⟩ := open_int Try.underlying3 (hval 2 3 v2 rfl rfl) h2
  obtain ⟨x3, rfl, rfl, rfl, wf3⟩ := open_int Try.underlying3 (hval 3 3 v3 rfl rfl) h3
  refine (walk W x0 _ h0 x1 _ h1 x2 (i64_of_wf wf2) x3 (i64_of_wf wf3)).mono fun e W' ⟨he, hE⟩ => ⟨_, he, law_post laidOut ?_ rfl Try.underlying4 rfl hW' ?_ hE⟩
  · rw [Try.params8]
    intro t ht
    simp at ht
    (try rcases ht with rfl | rfl | rfl) <;> exact ⟨by kernel_rfl, of_decide_eq_true (by kernel_rfl)⟩
  · intro ds hds
    match ds, hds with
    | [d0, d1, d2, d3], _ => exact ⟨rfl, rfl, rfl⟩

theorem lifted (os : Os) (started : os.Started) (H : Type) (enc : TypeId × Value → H) :
    ReturnsInHanded {} Try.checked os 8 .any (Rows.runSplitSpec.pre6 enc Try.prog Try.f8 Rows.runSplitRow.domain false) (Rows.runSplitSpec.post enc Try.prog Try.f8 false true false false) := by
  refine returnsInHanded_of_change_sized (C := Try.checked) own started (by kernel_rfl) Try.func8
    (ChangeSpec.witness6 (enc := enc) (C := Try.checked) false ⟨#[], #[.slice none 0 0, .agg #[.slice none 0 0, .int .i64 0, .slice none 0 0], .int .i64 0, .int .i64 0], []⟩ 8 (by kernel_rfl) (by kernel_rfl) (by kernel_rfl) (by kernel_rfl)) ?_
  intro W base args ds gs before hval hW _ hsz _
  exact contract H enc W base args ds gs before hval hW hsz

theorem proved : Rows.RunSplitSaid :=
  OpenClaim.holds_of_wide 8 Try.f8 rfl rfl rfl rfl rfl rfl rfl ⟨rfl, rfl, rfl, rfl, rfl⟩ rfl rfl rfl rfl rfl (by as_aux_lemma => kernel_rfl) Try.func8 (by as_aux_lemma => kernel_rfl)
    (of_decide_eq_true (by as_aux_lemma => kernel_rfl)) (by unfold Func.isWrapper; rw [if_neg (of_decide_eq_false (by as_aux_lemma => kernel_rfl))]; exact ⟨rfl, rfl⟩)
    (fun os started H enc _ => lifted os started H enc)
end Go.Proofs.Ytfajkebkhdcapaa.runSplit

