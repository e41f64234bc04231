/- StepSure: an op that stays in its frame can be done, and turns its stack by what it takes and leaves; the frame goes on to an op that may come next. No condition. -/
import Derived.Test.YtfajkebkhdcapaaGreatGVAA
import Derived.Test.YtfajkebkhdcapaaGreatGVAB
import Derived.Test.YtfajkebkhdcapaaGreatGVAZ
import Derived.Test.YtfajkebkhdcapaaGreatGVBA
import Derived.Test.YtfajkebkhdcapaaGreatGVBB
namespace Go.Proofs.YtfajkebkhdcapaaGreat.stepSure
set_option maxHeartbeats 4000000
set_option maxRecDepth 100000
open Go Go.RowKit Go.ChangeShapes Go.WideShapes Go.ChangeAt

/-- One of the first ways is this one. -/
def amongB (l : List Nat) (i : Nat) (a : Int) : Bool := (l.take i).any fun j => decide ((j : Int) = a)
theorem among_succ {l : List Nat} {i : Nat} (h : i < l.length) (a : Int) : amongB l (i + 1) a = (amongB l i a || decide ((l[i] : Int) = a)) := by
  unfold amongB
  rw [List.take_add_one, List.any_append, List.getElem?_eq_getElem h]
  simp
theorem among_all {l : List Nat} {a : Int} (h : ∃ i ∈ l, a = (i : Nat)) : amongB l l.length a = true := by
  obtain ⟨i, hi, e⟩ := h
  unfold amongB
  rw [List.take_length, List.any_eq_true]
  exact ⟨i, hi, decide_eq_true e.symm⟩

-- leans on: next_val nats_len effect_any stepDo_any stepBegun_any stateCheck_any few3 fewO fibers_of last cells bd stays cell nextL_eq wp_region_rw wp_region_rt wpAnyW_one wpAnyW_two wpAnyW_take nextA_go nextA_end tailW_step nextW_go nextW_end OpF effect sureS SureF progErr_zero right_hf RightF funcErr_zero two_boxes hfacts nx_len get front i64 wp_region_rtt
theorem walk (w : World) (p : List GFunc) (v : Value) (hp : Funcs w (fun _ => True) v p) (s : GState) (vs : Value) (hs : StateV w (fun _ => True) vs s) :
    Calls Tryz.prog 4 #[v, vs] w fun e w' => e = .returned (.bool true) ∧ Ext w w' := by
  have HP := Lib.hid hp
  obtain ⟨sf, sn, so⟩ := s
  have HS := Lib.hid hs
  obtain ⟨a0, cap, rfl, _, _, _⟩ := hp
  obtain ⟨sa, sc, sb, sd, rfl⟩ := few3 hs
  have RA := alloc_keep
  have b0 := (Cx.new w [.slice sa sf.length sc, .int .i64 sn, .slice sb so.length sd] 26 (j := 0) rfl).1
  have b1 := (Cx.new w [.slice sa sf.length sc, .int .i64 sn, .slice sb so.length sd] 26 (j := 1) rfl).1
  have b2 := (Cx.new w [.slice sa sf.length sc, .int .i64 sn, .slice sb so.length sd] 26 (j := 2) rfl).1
  have E0 : Hid (Ext w (w.alloc (.cells #[.slice sa sf.length sc, .int .i64 sn, .slice sb so.length sd] 26))) := (Ext.refl w).alloc _
  by_cases hz : stateErr p ⟨sf, sn, so⟩ = 0
  · by_cases hn0 : sn < 0
    · have TL : decide (sn < 0) = true := decide_eq_true hn0
      have HZ := Lib.hid hz
      clear hz hn0
      go_enter Tryz.func4, Tryz.ntmps4
      go_wp2_with (first
        | (go_at_call 10; (with_reducible refine (stateCheck_any p _ _ _ ⟨sf, sn, so⟩ _ _ (Funcs.stays (Ext.stays E0.out) HP.out) (StateV.stays (Ext.stays E0.out) HS.out)).mono ?_); rintro e w1 ⟨rfl, hb1⟩; rw [HZ.out]; replace b0 := Ext.cell hb1 b0; replace b1 := Ext.cell hb1 b1; replace b2 := Ext.cell hb1 b2; have E1 := Lib.hid (E0.out.trans hb1); clear hb1 E0)
        | (go_at_call 8; (with_reducible refine (stepBegun_any _).mono ?_); rintro e w8 ⟨rfl, hb8⟩))
      go_ret
      exact ⟨rfl, E1.out.trans hb8⟩
    · obtain ⟨k, fs, x, hk, hkl, hfr, hs5, hf5, ho30, h24, hF, hS⟩ := sureS hz (by show 0 ≤ sn; omega)
      have hk : sn = (k : Nat) := hk
      have hkl : k < sf.length := hkl
      have hfr : (sf.getD k default).frames = fs ++ [x] := hfr
      have hs5 : sf.length ≤ 5 := hs5
      have ho30 : so.length ≤ 30 := ho30
      subst hk
      have hEff := hF.effect
      obtain ⟨⟨hfn0, hfn1⟩, hFl, ⟨hat0, hat1⟩, hFo, hFk, hFa, hFc, hFone, hFt, hF8, hFr, hFg⟩ := hF
      obtain ⟨m, hm⟩ : ∃ m : Nat, x.func = m := ⟨x.func.toNat, by omega⟩
      obtain ⟨t, ht⟩ : ∃ t : Nat, x.at_ = t := ⟨x.at_.toNat, by omega⟩
      have hmp : m < p.length := by omega
      have hFP : funcOf p x.func = p[m] := by rw [hm]; unfold funcOf; simp [List.getD, List.getElem?_eq_getElem hmp]
      rw [hFP] at hat1 hFo h24
      have htc : t < p[m].code.length := by omega
      have hop : p[m].code[t] = opAt p x := by rw [← hFo, ht]; simp [List.getD, List.getElem?_eq_getElem htc]
      obtain ⟨fb, fo, fcap, fe, -, -, -, -, vc, y2, hcode⟩ := (HP.out).get hmp
      obtain ⟨ca, ccap, rfl, _, _, hops⟩ := hcode
      simp only [Value.slice.injEq] at fe
      obtain ⟨rfl, -, rfl⟩ := fe
      obtain ⟨cb, co, rfl, ⟨-, o0, -⟩, -, o1, hoa⟩ := hops t htc
      rw [hop] at o0 o1 hoa
      obtain ⟨J, hJ⟩ : ∃ J, fs.length = J := ⟨_, rfl⟩
      obtain ⟨N, hN⟩ : ∃ N, J + 1 = N := ⟨_, rfl⟩
      have hFS := fibers_of (HS.out)
      obtain ⟨kg, ko, rfl, ⟨vf, mf, hfr2⟩, _⟩ := hFS.cells hkl
      have hfr' : (sf.getD k default).frames = fs ++ [x] := hfr
      rw [hfr'] at hfr2
      obtain ⟨fg, fo2, fc, rfl, f1, f2, f3, f4, ⟨la, lc, f5⟩, ya, yc, f6, fy⟩ := hfr2.last hJ hN
      have hst := fy.bd
      rw [hm] at f3
      rw [ht] at f4
      have HC := Lib.hid (fun W (h : Ext w W) => (⟨Ext.cell h mf, Ext.cell h f3, Ext.cell h f4, Ext.cell h f5, Ext.cell h f6, Ext.cell h y2, Ext.cell h o0, Ext.cell h o1⟩ : _ ∧ _ ∧ _ ∧ _ ∧ _ ∧ _ ∧ _ ∧ _))
      have HZ := Lib.hid hz
      have D1 : decide ((k : Int) < 0) = false := decide_eq_false (by omega)
      have D2 : decide ((sf.length : Int) ≤ (k : Int)) = false := decide_eq_false (by omega)
      have D2' : decide (sf.length ≤ k) = false := decide_eq_false (by omega)
      have K1 : (k : Int) < (sf.length : Int) := by omega
      have N1 : ((N : Int) == 0) = false := beq_eq_false_iff_ne.2 (by omega)
      have N2 : (N == 0) = false := beq_eq_false_iff_ne.2 (by omega)
      have T1 : decide ((m : Int) < 0) = false := decide_eq_false (by omega)
      have T2 : decide ((p.length : Int) ≤ (m : Int)) = false := decide_eq_false (by omega)
      have T2' : decide (p.length ≤ m) = false := decide_eq_false (by omega)
      have T3 : decide ((t : Int) < 0) = false := decide_eq_false (by omega)
      rw [hFP] at hFl
      generalize hF0 : p[m] = F at *
      have T4 : decide ((F.code.length : Int) ≤ (t : Int)) = false := decide_eq_false (by omega)
      have T4' : decide (F.code.length ≤ t) = false := decide_eq_false (by omega)
      have M1 : (m : Int) < (p.length : Int) := by omega
      have M2 : (t : Int) < (F.code.length : Int) := by omega
      have KK : IntKind.i64.wrap ((N : Int) - 1) = (J : Int) := by rw [IntWalk.i64_in _ (by omega)]; omega
      have JN : (J : Int) < (N : Int) := by omega
      generalize hO : opAt p x = o at *
      have HJ := Lib.hid hJ
      have HN := Lib.hid hN
      have HS5 := Lib.hid hs5
      have HO30 := Lib.hid ho30
      have HO := Lib.hid hO
      have HJ5 := Lib.hid (show J ≤ 5 by omega)
      have HKL := Lib.hid hkl
      have HST := Lib.hid hst
      have HT24 : Hid (t ≤ 24) := by unfold Hid; omega
      have HSu := Lib.hid hS
      have HM := Lib.hid hm
      have HTT := Lib.hid ht
      have HFt := Lib.hid hFt
      have HEf := Lib.hid hEff
      have HFa := Lib.hid hFa
      have HOa := Lib.hid hoa
      clear hEff h24 hz hn0 hfr hfr' hfr2 hS hJ hs5 ho30 hf5 hkl hN hFS mf f1 f2 f3 f4 f5 f6 fy y2 o0 o1 hops hoa hop hFo hF0 hFP hm ht hfn0 hfn1 hFl hat0 hat1 hFk hFa hFc hFone hFt hF8 hFr hFg hmp htc hst
      go_enter Tryz.func4, Tryz.ntmps4
      go_upto_region 5 with (first
        | (go_at_call 10; (with_reducible refine (stateCheck_any p _ _ _ ⟨sf, (k : Int), so⟩ _ _ (Funcs.stays (Ext.stays E0.out) HP.out) (StateV.stays (Ext.stays E0.out) HS.out)).mono ?_); rintro e w1 ⟨rfl, hb1⟩; rw [HZ.out]; replace b0 := Ext.cell hb1 b0; replace b1 := Ext.cell hb1 b1; replace b2 := Ext.cell hb1 b2; have E1 := Lib.hid (E0.out.trans hb1); clear hb1 E0; obtain ⟨mf, f3, f4, f5, f6, y2, o0, o1⟩ := HC.out _ E1.out))
      have t0 := (Cx.new w1 [.int .i64 m, .int .i64 t, .slice la x.locals.length lc, .slice ya x.stack.length yc] 38 (j := 0) rfl).1
      have t1 := (Cx.new w1 [.int .i64 m, .int .i64 t, .slice la x.locals.length lc, .slice ya x.stack.length yc] 38 (j := 1) rfl).1
      have t3 := (Cx.new w1 [.int .i64 m, .int .i64 t, .slice la x.locals.length lc, .slice ya x.stack.length yc] 38 (j := 3) rfl).1
      have hq4 : Ext w1 (w1.alloc (.cells #[.int .i64 m, .int .i64 t, .slice la x.locals.length lc, .slice ya x.stack.length yc] 38)) := (Ext.refl _).alloc _
      have hbt : w1.heap.size < (w1.alloc (.cells #[.int .i64 m, .int .i64 t, .slice la x.locals.length lc, .slice ya x.stack.length yc] 38)).heap.size := lt_of_cell t0
      obtain ⟨tb, htb⟩ : ∃ tb, w1.heap.size = tb := ⟨_, rfl⟩
      rw [htb] at t0 t1 t3 hbt ⊢
      generalize w1.alloc (.cells #[.int .i64 m, .int .i64 t, .slice la x.locals.length lc, .slice ya x.stack.length yc] 38) = W4 at *
      replace b0 := Ext.cell hq4 b0
      replace b1 := Ext.cell hq4 b1
      replace b2 := Ext.cell hq4 b2
      have E4 := Lib.hid (E1.out.trans hq4)
      clear mf f3 f4 f5 f6 y2 o0 o1 hq4 htb
      obtain ⟨mf, f3, f4, f5, f6, y2, o0, o1⟩ := HC.out _ E4.out
      refine wp_region_ext (by kernel_rfl) (by kernel_rfl) ?_
      repeat (first
        | go_big_quiet_skip
        | (go_big_quiet_want
           unfold Oper.quiet
           apply Exists.intro
           refine ⟨fun w' hw' => ?_, ?_⟩
           focus
             have hcq := Ext.keep hw'
             go_simp
             first
               | with_reducible rfl
               
           (try dsimp only [Act.put])
           (try simp only [List.setIfInBounds_toArray, List.set_cons_succ, List.set_cons_zero])
           go_big_quiet_on))
      refine wpQuiet_nil ?_
      intro wq hq
      replace b0 := Ext.cell hq b0
      replace b1 := Ext.cell hq b1
      replace b2 := Ext.cell hq b2
      replace t0 := Ext.cell hq t0
      replace t1 := Ext.cell hq t1
      replace t3 := Ext.cell hq t3
      have E5 := Lib.hid (E4.out.trans hq)
      clear mf f3 f4 f5 f6 y2 o0 o1 hq hbt
      obtain ⟨mf, f3, f4, f5, f6, y2, o0, o1⟩ := HC.out _ E5.out
      rename World => W5
      go_upto_region 7 with fail
      go_region
      have hq6 : Ext W5 ((W5.alloc (.cells #[.int .i64 o.kind, .int .i64 o.a] 43)).drew) := ((Ext.refl _).alloc _).drew
      have p0 := ((Cx.new W5 [.int .i64 o.kind, .int .i64 o.a] 43 (j := 0) rfl).ext ((Ext.refl _).drew)).1
      have p1 := ((Cx.new W5 [.int .i64 o.kind, .int .i64 o.a] 43 (j := 1) rfl).ext ((Ext.refl _).drew)).1
      obtain ⟨ob, hob⟩ : ∃ ob, W5.heap.size = ob := ⟨_, rfl⟩
      rw [hob] at p0 p1 ⊢
      generalize (W5.alloc (.cells #[.int .i64 o.kind, .int .i64 o.a] 43)).drew = W6 at *
      replace b0 := Ext.cell hq6 b0
      replace b1 := Ext.cell hq6 b1
      replace b2 := Ext.cell hq6 b2
      replace t0 := Ext.cell hq6 t0
      replace t1 := Ext.cell hq6 t1
      replace t3 := Ext.cell hq6 t3
      have E6 := Lib.hid (E5.out.trans hq6)
      clear mf f3 f4 f5 f6 y2 o0 o1 hq6 hob
      by_cases hk10 : 10 < o.kind
      · have TK : decide (10 < o.kind) = true := decide_eq_true hk10
        clear hk10
        go_wp2_with (first
          | (go_at_call 8; (with_reducible refine (stepBegun_any _).mono ?_); rintro e w8 ⟨rfl, hb8⟩))
        go_ret
        exact ⟨rfl, E6.out.trans hb8⟩
      · have TK : decide (10 < o.kind) = false := decide_eq_false hk10
        obtain ⟨⟨tf, tn, to_⟩, x', hSF⟩ := HSu.out (by omega)
        obtain ⟨q1, q2, q3, q4, q5, q6, q7, q8⟩ := hSF
        have q2 : tn = (k : Nat) := q2
        have q3 : tf.length = sf.length := q3
        have q4 : (tf.getD k default).frames = fs ++ [x'] := q4
        have q8 : to_.length = so.length := q8
        subst q2
        obtain ⟨g1, g2, g3⟩ := HEf.out (by omega)
        rw [HO.out] at q6 q7
        have hkt : k < tf.length := by have := HKL.out; omega
        have HTL := Lib.hid q3
        have HTO := Lib.hid q8
        have HD := Lib.hid q1
        have HG1 := Lib.hid g1
        have HG2 := Lib.hid g2
        have HG3 := Lib.hid g3
        have HQ4 := Lib.hid q4
        have HQ5 : Hid (x'.func = (m : Int)) := by unfold Hid; rw [q5]; exact HM.out
        have HQ6 : Hid (∃ i ∈ nx o t, x'.at_ = (i : Nat)) := by rw [HTT.out, Int.toNat_natCast] at q6; exact q6
        have hlv := leaves01 o
        have hst := HST.out
        have hft := HFt.out
        have hn0 : nOf p o x.stack.length = (x.stack.length : Int) - takesOf p o + leavesOf o := rfl
        have htk : 0 ≤ takesOf p o := by
          unfold takesOf
          have : o.kind ≠ 11 := by omega
          rw [if_neg this]
          split
          · omega
          · split <;> omega
        have KW1 : IntKind.i64.wrap ((x.stack.length : Int) - takesOf p o) = (x.stack.length : Int) - takesOf p o := IntWalk.i64_in _ (by omega)
        have KW2 : IntKind.i64.wrap ((x.stack.length : Int) - takesOf p o + leavesOf o) = (x'.stack.length : Int) := by rw [IntWalk.i64_in _ (by omega), q7, hn0]
        have HKT := Lib.hid hkt
        clear hk10 q1 q3 q4 q5 q6 q7 q8 g1 g2 g3 hkt hlv hst hft hn0 htk
        go_upto_region 12 with (first
          | (go_at_call 6; (with_reducible refine (stepDo_any p _ _ _ ⟨sf, (k : Int), so⟩ _ _ (Funcs.stays (Ext.stays E6.out) HP.out) (StateV.stays (Ext.stays E6.out) HS.out)).mono ?_); rintro e w2 ⟨⟨xv, rfl, hx⟩, hb2⟩; rw [HD.out] at hx; rw [HD.out]; obtain ⟨ta, tc, tb2, td, rfl⟩ := fewO hx; rw [HTL.out, HTO.out] at hx; rw [HTL.out, HTO.out]; have hq := (hb2.alloc (.cells #[.slice ta sf.length tc, .int .i64 (k : Int), .slice tb2 so.length td] 26)); have HX := Lib.hid (hx.ext ((Ext.refl w2).alloc (.cells #[.slice ta sf.length tc, .int .i64 (k : Int), .slice tb2 so.length td] 26))).state; replace b0 := Ext.cell hq b0; replace b1 := Ext.cell hq b1; replace b2 := Ext.cell hq b2; replace t0 := Ext.cell hq t0; replace t1 := Ext.cell hq t1; replace t3 := Ext.cell hq t3; replace p0 := Ext.cell hq p0; replace p1 := Ext.cell hq p1; have E7 := Lib.hid (E6.out.trans hq); have x0 := (Cx.new w2 [.slice ta sf.length tc, .int .i64 (k : Int), .slice tb2 so.length td] 26 (j := 0) rfl).1; have x1 := (Cx.new w2 [.slice ta sf.length tc, .int .i64 (k : Int), .slice tb2 so.length td] 26 (j := 1) rfl).1; have x2 := (Cx.new w2 [.slice ta sf.length tc, .int .i64 (k : Int), .slice tb2 so.length td] 26 (j := 2) rfl).1; clear hx hq hb2)
          | (go_at_call 11; (with_reducible refine (effect_any p _ (fun _ => True) o _ (Funcs.stays (Ext.stays E7.out) HP.out)).mono ?_); rintro e w3 ⟨rfl, hb3⟩; rw [HG1.out, HG2.out, HG3.out]; replace b0 := Ext.cell hb3 b0; replace b1 := Ext.cell hb3 b1; replace b2 := Ext.cell hb3 b2; replace t0 := Ext.cell hb3 t0; replace t1 := Ext.cell hb3 t1; replace t3 := Ext.cell hb3 t3; replace p0 := Ext.cell hb3 p0; replace p1 := Ext.cell hb3 p1; replace x0 := Ext.cell hb3 x0; replace x1 := Ext.cell hb3 x1; replace x2 := Ext.cell hb3 x2; have E8 := Lib.hid (E7.out.trans hb3); have HX := Lib.hid (StateV.stays (Ext.stays hb3) HX.out); clear hb3))
        rename World => w3
        have hFT := fibers_of HX.out
        obtain ⟨g2, o2, rfl, ⟨vf2, tmf, hfr2⟩, -⟩ := hFT.cells HKT.out
        have hfr3 := hfr2
        rw [show ((⟨tf, (k : Int), to_⟩ : GState).fibers.getD k default).frames = fs ++ [x'] from HQ4.out] at hfr3
        obtain ⟨hg, ho, hc, rfl, -, -, h3, h4, ⟨lb, ld, h5⟩, za, zc, h6, -⟩ := hfr3.last HJ.out HN.out
        rw [HQ5.out] at h3
        clear hFT hfr2 hfr3
        go_upto_region 15 with fail
        have n0 := (Cx.new w3 [.int .i64 m, .int .i64 x'.at_, .slice lb x'.locals.length ld, .slice za x'.stack.length zc] 38 (j := 0) rfl).1
        have n1 := (Cx.new w3 [.int .i64 m, .int .i64 x'.at_, .slice lb x'.locals.length ld, .slice za x'.stack.length zc] 38 (j := 1) rfl).1
        have n3 := (Cx.new w3 [.int .i64 m, .int .i64 x'.at_, .slice lb x'.locals.length ld, .slice za x'.stack.length zc] 38 (j := 3) rfl).1
        have hq9 : Ext w3 (w3.alloc (.cells #[.int .i64 m, .int .i64 x'.at_, .slice lb x'.locals.length ld, .slice za x'.stack.length zc] 38)) := (Ext.refl _).alloc _
        obtain ⟨nb, hnb⟩ : ∃ nb, w3.heap.size = nb := ⟨_, rfl⟩
        rw [hnb] at n0 n1 n3 ⊢
        generalize w3.alloc (.cells #[.int .i64 m, .int .i64 x'.at_, .slice lb x'.locals.length ld, .slice za x'.stack.length zc] 38) = W9 at *
        replace t0 := Ext.cell hq9 t0
        replace t1 := Ext.cell hq9 t1
        replace t3 := Ext.cell hq9 t3
        replace p0 := Ext.cell hq9 p0
        replace p1 := Ext.cell hq9 p1
        have E9 := Lib.hid (E8.out.trans hq9)
        clear b0 b1 b2 x0 x1 x2 h3 h4 h5 h6 tmf hq9 hnb
        have hoa0 := HFa.out.1
        have hoai := HOa.out
        have ht24 := HT24.out
        go_upto_region 16 with (first
          | (go_at_call 12; (with_reducible refine (next_val o t _ ht24 hoa0 hoai).mono ?_); rintro e w10 ⟨⟨a14, c14, rfl, hl14⟩, hb10⟩; replace t0 := Ext.cell hb10 t0; replace t1 := Ext.cell hb10 t1; replace t3 := Ext.cell hb10 t3; replace n0 := Ext.cell hb10 n0; replace n1 := Ext.cell hb10 n1; replace n3 := Ext.cell hb10 n3; have E10 := Lib.hid (E9.out.trans hb10); clear hb10))
        rename World => w10
        have HL14 := Lib.hid hl14
        clear hl14 p0 p1 hoa0 hoai ht24
        go_wp2_with fail
        go_loopw [15, 16] (fun q15 q16 wr => ∃ i : Nat, i ≤ (nx o t).length ∧ q15 = .bool (amongB (nx o t) i x'.at_) ∧ q16 = .int .i64 i ∧ Ext w10 wr) (fun _ q _ => (nx o t).length - (intOf q).toNat)
        case atStart => exact ⟨0, Nat.zero_le _, rfl, rfl, Ext.refl _⟩
        case round =>
          obtain ⟨i, hi, rfl, rfl, hbr⟩ := hrel
          have HBR := Lib.hid hbr
          have hL2 := nx_len o t
          replace t0 := Ext.cell hbr t0
          replace t3 := Ext.cell hbr t3
          replace n0 := Ext.cell hbr n0
          replace n1 := Ext.cell hbr n1
          replace n3 := Ext.cell hbr n3
          clear hbr t1
          rename World => wr
          by_cases hlt : i < (nx o t).length
          · obtain ⟨bw, ow, _, e3, _, _, _, d0, _⟩ := HL14.out.get (i := i) (by rw [nats_len]; exact hlt)
            simp only [Value.slice.injEq] at e3
            obtain ⟨rfl, -, rfl⟩ := e3
            rw [Nat.mul_one, show (nats (nx o t))[i]'(by rw [nats_len]; exact hlt) = ((nx o t)[i] : Int) by simp [nats]] at d0
            replace d0 := Ext.cell HBR.out d0
            have HAS := Lib.hid (among_succ hlt x'.at_)
            generalize (nx o t)[i] = jj at *
            obtain ⟨am, ham⟩ : ∃ am, amongB (nx o t) i x'.at_ = am := ⟨_, rfl⟩
            rw [ham]
            have HAM := Lib.hid ham
            clear ham
            by_cases hje : (jj : Int) = x'.at_
            · have TJ : ((jj : Int) == x'.at_) = true := beq_iff_eq.2 hje
              have HNX : Hid (amongB (nx o t) (i + 1) x'.at_ = true) := by unfold Hid; rw [HAS.out, decide_eq_true hje, Bool.or_true]
              clear hje HAS
              cases am
              all_goals
                go_upto_region 20 with fail
                refine wp_region_ext (by kernel_rfl) (by kernel_rfl) ?_
                repeat (first
                  | go_big_quiet_skip
                  | (go_big_quiet_want
                     unfold Oper.quiet
                     apply Exists.intro
                     refine ⟨fun w' hw' => ?_, ?_⟩
                     focus
                       have hcq := Ext.keep hw'
                       go_simp
                       first
                         | with_reducible rfl
                         
                     (try dsimp only [Act.put])
                     (try simp only [List.setIfInBounds_toArray, List.set_cons_succ, List.set_cons_zero])
                     go_big_quiet_on))
                refine wpQuiet_nil ?_
                intro wq hq
                go_wp2_with fail
                go_roundw
                case rel => exact ⟨i + 1, by omega, by rw [HNX.out], by go_num, HBR.out.trans hq⟩
                case measure => simp [intOf]; omega
            · have TJ : ((jj : Int) == x'.at_) = false := beq_eq_false_iff_ne.2 hje
              have HNX : Hid (amongB (nx o t) (i + 1) x'.at_ = am) := by unfold Hid; rw [HAS.out, decide_eq_false hje, Bool.or_false, HAM.out]
              clear hje HAS
              cases am
              all_goals
                go_upto_region 20 with fail
                refine wp_region_ext (by kernel_rfl) (by kernel_rfl) ?_
                repeat (first
                  | go_big_quiet_skip
                  | (go_big_quiet_want
                     unfold Oper.quiet
                     apply Exists.intro
                     refine ⟨fun w' hw' => ?_, ?_⟩
                     focus
                       have hcq := Ext.keep hw'
                       go_simp
                       first
                         | with_reducible rfl
                         
                     (try dsimp only [Act.put])
                     (try simp only [List.setIfInBounds_toArray, List.set_cons_succ, List.set_cons_zero])
                     go_big_quiet_on))
                refine wpQuiet_nil ?_
                intro wq hq
                go_wp2_with fail
                go_roundw
                case rel => exact ⟨i + 1, by omega, by rw [HNX.out], by go_num, HBR.out.trans hq⟩
                case measure => simp [intOf]; omega
          · obtain rfl : i = (nx o t).length := by omega
            rw [among_all HQ6.out]
            clear hlt hi
            go_wp2_with (first
              | (go_at_call 8; (with_reducible refine (stepBegun_any _).mono ?_); rintro e w8 ⟨rfl, hb8⟩; replace t0 := Ext.cell hb8 t0; replace t3 := Ext.cell hb8 t3; replace n0 := Ext.cell hb8 n0; replace n3 := Ext.cell hb8 n3))
            go_ret
            exact ⟨rfl, E10.out.trans (HBR.out.trans hb8)⟩
  · have TB : (stateErr p ⟨sf, sn, so⟩ != 0) = true := bne_iff_ne.2 hz
    obtain ⟨se, hse⟩ : ∃ se, stateErr p ⟨sf, sn, so⟩ = se := ⟨_, rfl⟩
    rw [hse] at TB
    have HZ := Lib.hid hse
    clear hz hse
    go_enter Tryz.func4, Tryz.ntmps4
    go_wp2_with (first
      | (go_at_call 10; (with_reducible refine (stateCheck_any p _ _ _ ⟨sf, sn, so⟩ _ _ (Funcs.stays (Ext.stays E0.out) HP.out) (StateV.stays (Ext.stays E0.out) HS.out)).mono ?_); rintro e w1 ⟨rfl, hb1⟩; rw [HZ.out]; replace b0 := Ext.cell hb1 b0; replace b1 := Ext.cell hb1 b1; replace b2 := Ext.cell hb1 b2; have E1 := Lib.hid (E0.out.trans hb1); clear hb1 E0)
      | (go_at_call 8; (with_reducible refine (stepBegun_any _).mono ?_); rintro e w8 ⟨rfl, hb8⟩))
    go_ret
    exact ⟨rfl, E1.out.trans hb8⟩

theorem contract (H : Type) (enc : TypeId × Value → H) (W : World) (base : Nat) (args : Array Value) (ds gs : List (DataW H)) (before : List MemPlace)
    (hval : ∀ (j : Nat) t v, Tryz.f4.params[j]? = some t → args[j]? = some v → Value.okWide Tryz.prog W .any base t v)
    (hW : DataW.Whole enc Tryz.prog Tryz.f4.params.toList Rows.stepSureSpec.vars false W args.toList ds gs before)
    (hsz : (DataW.weightsEach Tryz.prog (Tryz.f4.params.toList ++ Rows.stepSureSpec.plain.varTypes Tryz.prog) (ds ++ gs)).all (· ≤ reachBytes) = true) :
    Calls Tryz.prog 4 args W fun e W' => ∃ v, e = .returned v ∧ Rows.stepSureSpec.post enc Tryz.prog Tryz.f4 false true false false W args v W' := by
  have hW' := hW
  obtain ⟨p, q, hA, hV, rfl, hfz, hnd⟩ := hW
  rw [Tryz.params4] at hA hval
  obtain ⟨v0, vs0, d0, ds0, q0, t0, hargs, rfl, rfl, h0, r0⟩ := trodAll_cons hA
  obtain ⟨v1, vs1, d1, ds1, q1, t1, rfl, rfl, rfl, h1, r1⟩ := trodAll_cons r0
  obtain ⟨rfl, rfl, rfl⟩ := trodAll_nil r1
  obtain rfl : args = #[v0, v1] := by cases args; simp_all
  obtain ⟨rfl, rfl⟩ := trodVars_none hV
  obtain ⟨a0, l0, c0, rfl⟩ := okWide_slice Tryz.underlying22 (hval 0 22 v0 rfl rfl)
  obtain ⟨fuel0, h0⟩ := h0
  obtain ⟨x0, h0⟩ := funcs_of_trod h0 (fun n hn => by
    have := List.all_eq_true.1 hsz n (DataW.weights_mem_each (j := 0) rfl rfl n hn)
    simpa using this)
  obtain ⟨x1, h1⟩ := state_of_trod (hval 1 26 v1 rfl rfl) h1 (fun n hn => by
    have := List.all_eq_true.1 hsz n (DataW.weights_mem_each (j := 1) rfl rfl n hn)
    simpa using this)
  refine (walk W x0 _ h0 x1 _ h1).mono fun e W' ⟨he, hE⟩ => ⟨_, he, law_post laidOut ?_ rfl Tryz.underlying4 rfl hW' ?_ hE⟩
  · rw [Tryz.params4]
    intro t ht
    simp at ht
    (try rcases ht with rfl | rfl) <;> exact ⟨by kernel_rfl, of_decide_eq_true (by kernel_rfl)⟩
  · intro ds hds
    match ds, hds with
    | [d0, d1], _ => exact ⟨rfl, rfl, rfl⟩

theorem lifted (os : Os) (started : os.Started) (H : Type) (enc : TypeId × Value → H) :
    ReturnsInHanded {} Tryz.checked os 4 .any (Rows.stepSureSpec.pre6 enc Tryz.prog Tryz.f4 Rows.stepSureRow.domain false) (Rows.stepSureSpec.post enc Tryz.prog Tryz.f4 false true false false) := by
  refine returnsInHanded_of_change_sized (C := Tryz.checked) own started (by kernel_rfl) Tryz.func4
    (ChangeSpec.witness6 (enc := enc) (C := Tryz.checked) false ⟨#[], #[.slice none 0 0, .agg #[.slice none 0 0, .int .i64 0, .slice none 0 0]], []⟩ 8 (by kernel_rfl) (by kernel_rfl) (by kernel_rfl) (by kernel_rfl)) ?_
  intro W base args ds gs before hval hW _ hsz _
  exact contract H enc W base args ds gs before hval hW hsz

theorem proved : Rows.StepSureSaid :=
  OpenClaim.holds_of_wide 4 Tryz.f4 rfl rfl rfl rfl rfl rfl rfl ⟨rfl, rfl, rfl, rfl, rfl⟩ rfl rfl rfl rfl rfl (by as_aux_lemma => kernel_rfl) Tryz.func4 (by as_aux_lemma => kernel_rfl)
    (of_decide_eq_true (by as_aux_lemma => kernel_rfl)) (by unfold Func.isWrapper; rw [if_neg (of_decide_eq_false (by as_aux_lemma => kernel_rfl))]; exact ⟨rfl, rfl⟩)
    (fun os started H enc _ => lifted os started H enc)
end Go.Proofs.YtfajkebkhdcapaaGreat.stepSure

