/- StepBack: who is resumed and yields or is done at once gives a value to who has resumed him. No condition. -/
import Derived.Test.YtfajkebkhdcapaaGSAA
import Derived.Test.YtfajkebkhdcapaaGSAB
import Derived.Test.YtfajkebkhdcapaaGSAK
import Derived.Test.YtfajkebkhdcapaaGSAZ
namespace Go.Proofs.Ytfajkebkhdcapaa.stepBack
set_option maxHeartbeats 4000000
set_option maxRecDepth 100000
open Go Go.RowKit Go.ChangeShapes Go.WideShapes Go.ChangeAt

theorem walk (w : World) (p : List GFunc) (v : Value) (hp : Funcs w (fun _ => True) v p) (s : GState) (vs : Value) (hs : StateV w (fun _ => True) vs s) :
    Calls Try.prog 6 #[v, vs] w fun e w' => e = .returned (.bool true) ∧ Ext w w' := by
  have HP := Lib.hid hp
  obtain ⟨sf, sn, so⟩ := s
  have HS := Lib.hid hs
  obtain ⟨a0, cap, rfl, _, _, _⟩ := hp
  obtain ⟨sa, sc, sb, sd, rfl⟩ := few3 hs
  have RA := alloc_keep
  have b0 := (Cx.new w [.slice sa sf.length sc, .int .i64 sn, .slice sb so.length sd] 35 (j := 0) rfl).1
  have b1 := (Cx.new w [.slice sa sf.length sc, .int .i64 sn, .slice sb so.length sd] 35 (j := 1) rfl).1
  have b2 := (Cx.new w [.slice sa sf.length sc, .int .i64 sn, .slice sb so.length sd] 35 (j := 2) rfl).1
  have E0 : Hid (Ext w (w.alloc (.cells #[.slice sa sf.length sc, .int .i64 sn, .slice sb so.length sd] 35))) := (Ext.refl w).alloc _
  obtain ⟨⟨de, tf, tn, to_⟩, hd⟩ : ∃ r, doS p ⟨sf, sn, so⟩ = r := ⟨_, rfl⟩
  by_cases he : de = 0
  · subst he
    by_cases hne : tn = sn
    · have TN : (tn == sn) = true := beq_iff_eq.2 hne
      have HD := Lib.hid hd
      clear hd hne
      go_enter Try.func6, Try.ntmps6
      go_wp2_with (first
        | (go_at_call 19; (with_reducible refine (stepDo_any p _ _ _ ⟨sf, sn, so⟩ _ _ (Funcs.stays (Ext.stays E0.out) HP.out) (StateV.stays (Ext.stays E0.out) HS.out)).mono ?_); rintro e w2 ⟨⟨x, rfl, hx⟩, hb2⟩; rw [HD.out] at hx; rw [HD.out]; obtain ⟨ta, tc, tb, td, rfl⟩ := fewO hx; have hq := (hb2.alloc (.cells #[.slice ta tf.length tc, .int .i64 tn, .slice tb to_.length td] 35)); have HX := Lib.hid (hx.ext ((Ext.refl w2).alloc (.cells #[.slice ta tf.length tc, .int .i64 tn, .slice tb to_.length td] 35))).state; replace b0 := Ext.cell hq b0; replace b1 := Ext.cell hq b1; replace b2 := Ext.cell hq b2; have E2 := Lib.hid (E0.out.trans hq); have x0 := (Cx.new w2 [.slice ta tf.length tc, .int .i64 tn, .slice tb to_.length td] 35 (j := 0) rfl).1; have x1 := (Cx.new w2 [.slice ta tf.length tc, .int .i64 tn, .slice tb to_.length td] 35 (j := 1) rfl).1; have x2 := (Cx.new w2 [.slice ta tf.length tc, .int .i64 tn, .slice tb to_.length td] 35 (j := 2) rfl).1; clear hx hq hb2 E0)
        | (go_at_call 18; (with_reducible refine (stepBegun_any _).mono ?_); rintro e w8 ⟨rfl, hb8⟩))
      go_ret
      exact ⟨rfl, E2.out.trans hb8⟩
    · by_cases hn0 : tn < 0
      · have TN : (tn == sn) = false := beq_eq_false_iff_ne.2 hne
        have TL : decide (tn < 0) = true := decide_eq_true hn0
        have HD := Lib.hid hd
        clear hd hne hn0
        go_enter Try.func6, Try.ntmps6
        go_wp2_with (first
          | (go_at_call 19; (with_reducible refine (stepDo_any p _ _ _ ⟨sf, sn, so⟩ _ _ (Funcs.stays (Ext.stays E0.out) HP.out) (StateV.stays (Ext.stays E0.out) HS.out)).mono ?_); rintro e w2 ⟨⟨x, rfl, hx⟩, hb2⟩; rw [HD.out] at hx; rw [HD.out]; obtain ⟨ta, tc, tb, td, rfl⟩ := fewO hx; have hq := (hb2.alloc (.cells #[.slice ta tf.length tc, .int .i64 tn, .slice tb to_.length td] 35)); have HX := Lib.hid (hx.ext ((Ext.refl w2).alloc (.cells #[.slice ta tf.length tc, .int .i64 tn, .slice tb to_.length td] 35))).state; replace b0 := Ext.cell hq b0; replace b1 := Ext.cell hq b1; replace b2 := Ext.cell hq b2; have E2 := Lib.hid (E0.out.trans hq); have x0 := (Cx.new w2 [.slice ta tf.length tc, .int .i64 tn, .slice tb to_.length td] 35 (j := 0) rfl).1; have x1 := (Cx.new w2 [.slice ta tf.length tc, .int .i64 tn, .slice tb to_.length td] 35 (j := 1) rfl).1; have x2 := (Cx.new w2 [.slice ta tf.length tc, .int .i64 tn, .slice tb to_.length td] 35 (j := 2) rfl).1; clear hx hq hb2 E0)
          | (go_at_call 18; (with_reducible refine (stepBegun_any _).mono ?_); rintro e w8 ⟨rfl, hb8⟩))
        go_ret
        exact ⟨rfl, E2.out.trans hb8⟩
      · obtain ⟨k, m, rfl, rfl, hk, hm, hlen, hcase⟩ := backS hd hne (by omega)
        have HD := Lib.hid hd
        have TN : ((m : Int) == (k : Int)) = false := beq_eq_false_iff_ne.2 hne
        have TN' : (m == k) = false := beq_eq_false_iff_ne.2 (fun h => hne (by rw [h]))
        have hmt : m < tf.length := by omega
        have hkt : k < tf.length := by omega
        have D1 : decide ((tf.length : Int) ≤ (m : Int)) = false := decide_eq_false (by omega)
        have D2 : decide ((sf.length : Int) ≤ (k : Int)) = false := decide_eq_false (by omega)
        have D3 : decide ((sf.length : Int) ≤ (m : Int)) = false := decide_eq_false (by omega)
        have D1' : decide (tf.length ≤ m) = false := decide_eq_false (by omega)
        have D2' : decide (sf.length ≤ k) = false := decide_eq_false (by omega)
        have D3' : decide (sf.length ≤ m) = false := decide_eq_false (by omega)
        clear hd hne hn0 hlen
        go_enter Try.func6, Try.ntmps6
        go_upto_region 4 with (first
          | (go_at_call 19; (with_reducible refine (stepDo_any p _ _ _ ⟨sf, (k : Int), so⟩ _ _ (Funcs.stays (Ext.stays E0.out) HP.out) (StateV.stays (Ext.stays E0.out) HS.out)).mono ?_); rintro e w2 ⟨⟨x, rfl, hx⟩, hb2⟩; rw [HD.out] at hx; rw [HD.out]; obtain ⟨ta, tc, tb, td, rfl⟩ := fewO hx; have hq := (hb2.alloc (.cells #[.slice ta tf.length tc, .int .i64 (m : Int), .slice tb to_.length td] 35)); have HX := Lib.hid (hx.ext ((Ext.refl w2).alloc (.cells #[.slice ta tf.length tc, .int .i64 (m : Int), .slice tb to_.length td] 35))).state; replace b0 := Ext.cell hq b0; replace b1 := Ext.cell hq b1; replace b2 := Ext.cell hq b2; have E2 := Lib.hid (E0.out.trans hq); have x0 := (Cx.new w2 [.slice ta tf.length tc, .int .i64 (m : Int), .slice tb to_.length td] 35 (j := 0) rfl).1; have x1 := (Cx.new w2 [.slice ta tf.length tc, .int .i64 (m : Int), .slice tb to_.length td] 35 (j := 1) rfl).1; have x2 := (Cx.new w2 [.slice ta tf.length tc, .int .i64 (m : Int), .slice tb to_.length td] 35 (j := 2) rfl).1; clear hx hq hb2 E0))
        generalize w2.heap.size = tbx at *
        generalize w2.alloc (.cells #[.slice ta tf.length tc, .int .i64 (m : Int), .slice tb to_.length td] 35) = w3 at *
        rename World => w3
        have hFS := fibers_of (StateV.stays (Ext.stays E2.out) HS.out)
        have hFT := fibers_of HX.out
        obtain ⟨g1, o1, rfl, -, kc⟩ := hFS.cells hk
        obtain ⟨g1', o1', e1, ⟨vf, mf, hfr⟩, mc⟩ := hFS.cells hm
        simp only [Option.some.injEq, Addr.mk.injEq, and_true] at e1
        obtain ⟨rfl, rfl⟩ := e1
        obtain ⟨g2, o2, rfl, -, tkc⟩ := hFT.cells hkt
        obtain ⟨g2', o2', e2, ⟨vf2, tmf, hfr2⟩, tmc⟩ := hFT.cells hmt
        simp only [Option.some.injEq, Addr.mk.injEq, and_true] at e2
        obtain ⟨rfl, rfl⟩ := e2
        clear hFS hFT
        go_upto_region 6 with fail
        clear D1 D2 D3 D1' D2' D3'
        have K1 : (k : Int) < (sf.length : Int) := by omega
        have K2 : (m : Int) < (sf.length : Int) := by omega
        have K3 : (k : Int) < (tf.length : Int) := by omega
        have K4 : (m : Int) < (tf.length : Int) := by omega
        rcases hcase with ⟨gs, y, v, c1, c2, c3, c4⟩ | ⟨c1, c2, c3⟩
        · rw [c1] at kc
          rw [c2] at hfr
          rw [c3] at hfr2
          rw [c4] at tkc
          refine wp_region_ext (by kernel_rfl) (by kernel_rfl) ?_
          repeat (first
            | go_big_quiet_skip
            | (go_big_quiet_want
               unfold Oper.quiet
               apply Exists.intro
               refine ⟨fun w' hw' => ?_, ?_⟩
               focus
                 have hcq := Ext.keep hw'
                 go_simp
                 first
                   | with_reducible rfl
                   | fail
               (try dsimp only [Act.put])
               (try simp only [List.setIfInBounds_toArray, List.set_cons_succ, List.set_cons_zero])
               go_big_quiet_on))
          refine wpQuiet_nil ?_
          intro wq hq
          replace b0 := Ext.cell hq b0
          replace b1 := Ext.cell hq b1
          replace x0 := Ext.cell hq x0
          replace x1 := Ext.cell hq x1
          replace mf := Ext.cell hq mf
          replace tmf := Ext.cell hq tmf
          replace tkc := Ext.cell hq tkc
          have E3 := Lib.hid (E2.out.trans hq)
          obtain ⟨J, hJ⟩ : ∃ J, gs.length = J := ⟨_, rfl⟩
          obtain ⟨N, hN⟩ : ∃ N, J + 1 = N := ⟨_, rfl⟩
          obtain ⟨fg, fo, fc, rfl, f1, f2, f3, f4, ⟨la, lc, f5⟩, ya, yc, f6, fy⟩ := (Frames.stays (Ext.stays hq) hfr).last hJ hN
          obtain ⟨hg, ho, hc, rfl, h1, h2, h3, h4, ⟨lb, ld, h5⟩, za, zc, h6, fz⟩ := (Frames.stays (Ext.stays hq) hfr2).last hJ hN
          dsimp only at h3 h4 h5 h6 fz
          obtain ⟨A, hA⟩ : ∃ A, y.stack.length = A := ⟨_, rfl⟩
          obtain ⟨B, hB⟩ : ∃ B, A + 1 = B := ⟨_, rfl⟩
          have hB2 : (y.stack ++ [v]).length = B := by rw [List.length_append, hA]; simpa using hB
          rw [hB2] at h6 fz
          rw [hA] at f6 fy
          have HTK : Hid ((y.stack ++ [v]).take A = y.stack) := by unfold Hid; rw [← hA]; exact List.take_left
          obtain ⟨z1, z2⟩ := fz.bd
          have HFY := Lib.hid fy
          have HFZ := Lib.hid fz
          have HL1 := Lib.hid hJ
          clear fy fz hfr hfr2 c1 c2 c3 c4 hq kc mc tmc b2 x2 hJ hA hB2
          rename World => w4
          go_upto_region 7 with fail
          refine wp_region_ext (by kernel_rfl) (by kernel_rfl) ?_
          repeat (first
            | go_big_quiet_skip
            | (go_big_quiet_want
               unfold Oper.quiet
               apply Exists.intro
               refine ⟨fun w' hw' => ?_, ?_⟩
               focus
                 have hcq := Ext.keep hw'
                 go_simp
                 first
                   | with_reducible rfl
                   | fail
               (try dsimp only [Act.put])
               (try simp only [List.setIfInBounds_toArray, List.set_cons_succ, List.set_cons_zero])
               go_big_quiet_on))
          refine wpQuiet_nil ?_
          intro wq hq
          replace b0 := Ext.cell hq b0
          replace b1 := Ext.cell hq b1
          replace x0 := Ext.cell hq x0
          replace x1 := Ext.cell hq x1
          replace tkc := Ext.cell hq tkc
          replace f3 := Ext.cell hq f3
          replace f4 := Ext.cell hq f4
          replace f5 := Ext.cell hq f5
          replace f6 := Ext.cell hq f6
          replace h3 := Ext.cell hq h3
          replace h4 := Ext.cell hq h4
          replace h5 := Ext.cell hq h5
          replace h6 := Ext.cell hq h6
          have E4 := Lib.hid (E3.out.trans hq)
          have HFY := Lib.hid (Ints.stays (Ext.stays hq) HFY.out)
          have HFZ := Lib.hid (Ints.stays (Ext.stays hq) HFZ.out)
          have N1 : ((N : Int) == 0) = false := beq_eq_false_iff_ne.2 (by omega)
          have N2 : (N == 0) = false := beq_eq_false_iff_ne.2 (by omega)
          clear hq mf tmf
          rename World => w5
          go_upto_region 10 with fail
          have KK : IntKind.i64.wrap ((N : Int) - 1) = (J : Int) := by rw [IntWalk.i64_in _ (by omega)]; omega
          have JN : (J : Int) < (N : Int) := by omega
          go_cut [9, 10] (fun q9 q10 wr => ∃ i j, q9 = .pointer (some ⟨i, 0, none⟩) ∧ q10 = .pointer (some ⟨j, 0, none⟩) ∧ Ext w5 wr ∧ wr.cell? ⟨i, 1, none⟩ = some (.int .i64 y.at_) ∧ wr.cell? ⟨i, 3, none⟩ = some (.slice ya A yc) ∧ wr.cell? ⟨j, 1, none⟩ = some (.int .i64 y.at_) ∧ wr.cell? ⟨j, 3, none⟩ = some (.slice za B zc))
          case first =>
            have S2 : ∀ W, Ext w5 W → (W.cell? ⟨fg, fo + J * 4, none⟩ = some (.int .i64 y.func) ∧ W.cell? ⟨fg, fo + J * 4 + 1, none⟩ = some (.int .i64 y.at_) ∧ W.cell? ⟨fg, fo + J * 4 + 2, none⟩ = some (.slice la y.locals.length lc) ∧ W.cell? ⟨fg, fo + J * 4 + 3, none⟩ = some (.slice ya A yc)) ∧ (W.cell? ⟨hg, ho + J * 4, none⟩ = some (.int .i64 y.func) ∧ W.cell? ⟨hg, ho + J * 4 + 1, none⟩ = some (.int .i64 y.at_) ∧ W.cell? ⟨hg, ho + J * 4 + 2, none⟩ = some (.slice lb y.locals.length ld) ∧ W.cell? ⟨hg, ho + J * 4 + 3, none⟩ = some (.slice za B zc)) := fun W h => ⟨⟨Ext.cell h f3, Ext.cell h f4, Ext.cell h f5, Ext.cell h f6⟩, Ext.cell h h3, Ext.cell h h4, Ext.cell h h5, Ext.cell h h6⟩
            refine wp_region_rw (fun W => (W.cell? ⟨fg, fo + J * 4, none⟩ = some (.int .i64 y.func) ∧ W.cell? ⟨fg, fo + J * 4 + 1, none⟩ = some (.int .i64 y.at_) ∧ W.cell? ⟨fg, fo + J * 4 + 2, none⟩ = some (.slice la y.locals.length lc) ∧ W.cell? ⟨fg, fo + J * 4 + 3, none⟩ = some (.slice ya A yc)) ∧ (W.cell? ⟨hg, ho + J * 4, none⟩ = some (.int .i64 y.func) ∧ W.cell? ⟨hg, ho + J * 4 + 1, none⟩ = some (.int .i64 y.at_) ∧ W.cell? ⟨hg, ho + J * 4 + 2, none⟩ = some (.slice lb y.locals.length ld) ∧ W.cell? ⟨hg, ho + J * 4 + 3, none⟩ = some (.slice za B zc))) 15 [0, 1, 2, 3, 4, 5, 6, 7, 8, 9, 10, 11] 4 (by kernel_rfl) (by kernel_rfl) (fun _ _ _ _ _ h => h) (S2 _ (by ((repeat (first | assumption | exact Ext.refl _ | (exact And.left (by assumption)) | refine Ext.alloc ?_ _ | refine Ext.drew ?_ | refine Ext.drewN ?_ _ | refine Ext.setCell ?_ (by simp) _ | refine Ext.setCell ?_ (by simp; omega) _ | refine Ext.trans ?_ (by assumption))); done))) ?_
            (try simp only [pickOps, List.filterMap_cons, List.filterMap_nil, List.getElem?_cons_zero, List.getElem?_cons_succ])
            repeat (
              refine readsQ_do (by rfl) ?_
              apply Exists.intro
              refine ⟨fun w' hw' => ?_, ?_⟩
              focus
                (try dsimp only at hw')
                go_split_ands
                go_simp
                (try with_reducible rfl)
              (try dsimp only [Act.put])
              (try simp only [List.setIfInBounds_toArray, List.set_cons_succ, List.set_cons_zero]))
            refine readsQ_nil ?_
            refine wpAnyW_two 12 13 (by kernel_rfl) rfl rfl ?_ ?_
            · go_wp2_with fail
              refine nextA_go (S2 _ (by ((repeat (first | assumption | exact Ext.refl _ | (exact And.left (by assumption)) | refine Ext.alloc ?_ _ | refine Ext.drew ?_ | refine Ext.drewN ?_ _ | refine Ext.setCell ?_ (by simp) _ | refine Ext.setCell ?_ (by simp; omega) _ | refine Ext.trans ?_ (by assumption))); done))) ?_
              refine wpAnyW_one 13 (by kernel_rfl) rfl ?_
              go_wp2_with fail
              refine nextA_go (S2 _ (by ((repeat (first | assumption | exact Ext.refl _ | (exact And.left (by assumption)) | refine Ext.alloc ?_ _ | refine Ext.drew ?_ | refine Ext.drewN ?_ _ | refine Ext.setCell ?_ (by simp) _ | refine Ext.setCell ?_ (by simp; omega) _ | refine Ext.trans ?_ (by assumption))); done))) ?_
              refine wpAnyW_one 14 (by kernel_rfl) rfl ?_
              go_wp2_with fail
              refine nextA_go (S2 _ (by ((repeat (first | assumption | exact Ext.refl _ | (exact And.left (by assumption)) | refine Ext.alloc ?_ _ | refine Ext.drew ?_ | refine Ext.drewN ?_ _ | refine Ext.setCell ?_ (by simp) _ | refine Ext.setCell ?_ (by simp; omega) _ | refine Ext.trans ?_ (by assumption))); done))) ?_
              refine wpAnyW_one 15 (by kernel_rfl) rfl ?_
              go_wp2_with fail
              refine nextA_end rfl (by kernel_rfl) ?_
              go_wp2_with fail
              go_meet
              obtain ⟨q1, q2, q3, q4⟩ := two_boxes w5 [.int .i64 y.func, .int .i64 y.at_, .slice la y.locals.length lc, .slice ya A yc] [.int .i64 y.func, .int .i64 y.at_, .slice lb y.locals.length ld, .slice za B zc] 45 rfl rfl rfl rfl
              exact ⟨_, _, rfl, rfl, by ((repeat (first | assumption | exact Ext.refl _ | (exact And.left (by assumption)) | refine Ext.alloc ?_ _ | refine Ext.drew ?_ | refine Ext.drewN ?_ _ | refine Ext.setCell ?_ (by simp) _ | refine Ext.setCell ?_ (by simp; omega) _ | refine Ext.trans ?_ (by assumption))); done), q1, q2, q3, q4⟩
            · go_wp2_with fail
              refine nextA_go (S2 _ (by ((repeat (first | assumption | exact Ext.refl _ | (exact And.left (by assumption)) | refine Ext.alloc ?_ _ | refine Ext.drew ?_ | refine Ext.drewN ?_ _ | refine Ext.setCell ?_ (by simp) _ | refine Ext.setCell ?_ (by simp; omega) _ | refine Ext.trans ?_ (by assumption))); done))) ?_
              refine wpAnyW_one 12 (by kernel_rfl) rfl ?_
              go_wp2_with fail
              refine nextA_go (S2 _ (by ((repeat (first | assumption | exact Ext.refl _ | (exact And.left (by assumption)) | refine Ext.alloc ?_ _ | refine Ext.drew ?_ | refine Ext.drewN ?_ _ | refine Ext.setCell ?_ (by simp) _ | refine Ext.setCell ?_ (by simp; omega) _ | refine Ext.trans ?_ (by assumption))); done))) ?_
              refine wpAnyW_one 14 (by kernel_rfl) rfl ?_
              go_wp2_with fail
              refine nextA_go (S2 _ (by ((repeat (first | assumption | exact Ext.refl _ | (exact And.left (by assumption)) | refine Ext.alloc ?_ _ | refine Ext.drew ?_ | refine Ext.drewN ?_ _ | refine Ext.setCell ?_ (by simp) _ | refine Ext.setCell ?_ (by simp; omega) _ | refine Ext.trans ?_ (by assumption))); done))) ?_
              refine wpAnyW_one 15 (by kernel_rfl) rfl ?_
              go_wp2_with fail
              refine nextA_end rfl (by kernel_rfl) ?_
              go_wp2_with fail
              go_meet
              obtain ⟨q1, q2, q3, q4⟩ := two_boxes w5 [.int .i64 y.func, .int .i64 y.at_, .slice lb y.locals.length ld, .slice za B zc] [.int .i64 y.func, .int .i64 y.at_, .slice la y.locals.length lc, .slice ya A yc] 45 rfl rfl rfl rfl
              exact ⟨_, _, rfl, rfl, by ((repeat (first | assumption | exact Ext.refl _ | (exact And.left (by assumption)) | refine Ext.alloc ?_ _ | refine Ext.drew ?_ | refine Ext.drewN ?_ _ | refine Ext.setCell ?_ (by simp) _ | refine Ext.setCell ?_ (by simp; omega) _ | refine Ext.trans ?_ (by assumption))); done), q3, q4, q1, q2⟩
          case rest =>
            obtain ⟨i, j, rfl, rfl, hE, q1, q2, q3, q4⟩ := hcut
            replace b0 := Ext.cell hE b0
            replace b1 := Ext.cell hE b1
            replace x0 := Ext.cell hE x0
            replace x1 := Ext.cell hE x1
            replace tkc := Ext.cell hE tkc
            have E5 := Lib.hid (E4.out.trans hE)
            have AB : A ≤ B := by omega
            have HFY := Lib.hid (Ints.stays (Ext.stays hE) HFY.out)
            have HFZ := Lib.hid (Ints.front (Ints.stays (Ext.stays hE) HFZ.out) AB HTK.out)
            have WB : IntKind.i64.wrap ((A : Int) + 1) = (B : Int) := by rw [IntWalk.i64_in _ (by omega)]; omega
            have CA : A ≤ zc := by omega
            clear hE f3 f4 f5 f6 h3 h4 h5 h6 AB hB
            rename World => w6
            go_upto_region 11 with fail
            refine wp_region_ext (by kernel_rfl) (by kernel_rfl) ?_
            repeat (first
              | go_big_quiet_skip
              | (go_big_quiet_want
                 unfold Oper.quiet
                 apply Exists.intro
                 refine ⟨fun w' hw' => ?_, ?_⟩
                 focus
                   have hcq := Ext.keep hw'
                   go_simp
                   first
                     | with_reducible rfl
                     | ((go_at_call 18; (with_reducible refine (stepBegun_any _).mono ?_); rintro e w8 ⟨rfl, hb8⟩; exact ⟨rfl, hw'.trans hb8⟩)) | ((go_at_call 16; refine (sameInts_any y.stack y.stack _ _ _ _ _ (Ints.stays (Ext.stays hw') HFZ.out) (Ints.stays (Ext.stays hw') HFY.out)).mono ?_; rintro e w9 ⟨rfl, hb9⟩; rw [show decide (y.stack = y.stack) = true from decide_eq_true rfl]; exact ⟨rfl, hw'.trans hb9⟩))
                 (try dsimp only [Act.put])
                 (try simp only [List.setIfInBounds_toArray, List.set_cons_succ, List.set_cons_zero])
                 go_big_quiet_on))
            refine wpQuiet_nil ?_
            intro wq hq
            go_wp2_with fail
            go_ret
            exact ⟨rfl, E5.out.trans hq⟩
        · rw [c2] at tmc
          rw [c3] at mc
          have TC : ((sf.getD k default).caller == (m : Int)) = false := beq_eq_false_iff_ne.2 c1
          generalize (sf.getD k default).caller = ck at *
          clear c1 c2 c3 hfr hfr2 mf tmf tkc
          refine wp_region_ext (by kernel_rfl) (by kernel_rfl) ?_
          repeat (first
            | go_big_quiet_skip
            | (go_big_quiet_want
               unfold Oper.quiet
               apply Exists.intro
               refine ⟨fun w' hw' => ?_, ?_⟩
               focus
                 have hcq := Ext.keep hw'
                 go_simp
                 first
                   | with_reducible rfl
                   | fail
               (try dsimp only [Act.put])
               (try simp only [List.setIfInBounds_toArray, List.set_cons_succ, List.set_cons_zero])
               go_big_quiet_on))
          refine wpQuiet_nil ?_
          intro wq hq
          have b0 := Ext.cell hq b0
          have b1 := Ext.cell hq b1
          have x0 := Ext.cell hq x0
          have x1 := Ext.cell hq x1
          have mc := Ext.cell hq mc
          have tmc := Ext.cell hq tmc
          have E3 := Lib.hid (E2.out.trans hq)
          clear b2 x2 kc hq
          rename World => w4
          go_upto_region 12 with fail
          refine wp_region_ext (by kernel_rfl) (by kernel_rfl) ?_
          repeat (first
            | go_big_quiet_skip
            | (go_big_quiet_want
               unfold Oper.quiet
               apply Exists.intro
               refine ⟨fun w' hw' => ?_, ?_⟩
               focus
                 have hcq := Ext.keep hw'
                 go_simp
                 first
                   | with_reducible rfl
                   | ((go_at_call 18; (with_reducible refine (stepBegun_any _).mono ?_); rintro e w8 ⟨rfl, hb8⟩; exact ⟨rfl, hw'.trans hb8⟩))
               (try dsimp only [Act.put])
               (try simp only [List.setIfInBounds_toArray, List.set_cons_succ, List.set_cons_zero])
               go_big_quiet_on))
          refine wpQuiet_nil ?_
          intro wq hq
          go_wp2_with fail
          go_ret
          exact ⟨rfl, E3.out.trans hq⟩
  · have TB : (de != 0) = true := bne_iff_ne.2 he
    have HD := Lib.hid hd
    clear hd he
    go_enter Try.func6, Try.ntmps6
    go_wp2_with (first
      | (go_at_call 19; (with_reducible refine (stepDo_any p _ _ _ ⟨sf, sn, so⟩ _ _ (Funcs.stays (Ext.stays E0.out) HP.out) (StateV.stays (Ext.stays E0.out) HS.out)).mono ?_); rintro e w2 ⟨⟨x, rfl, hx⟩, hb2⟩; rw [HD.out] at hx; rw [HD.out]; obtain ⟨ta, tc, tb, td, rfl⟩ := fewO hx; have hq := (hb2.alloc (.cells #[.slice ta tf.length tc, .int .i64 tn, .slice tb to_.length td] 35)); have HX := Lib.hid (hx.ext ((Ext.refl w2).alloc (.cells #[.slice ta tf.length tc, .int .i64 tn, .slice tb to_.length td] 35))).state; replace b0 := Ext.cell hq b0; replace b1 := Ext.cell hq b1; replace b2 := Ext.cell hq b2; have E2 := Lib.hid (E0.out.trans hq); have x0 := (Cx.new w2 [.slice ta tf.length tc, .int .i64 tn, .slice tb to_.length td] 35 (j := 0) rfl).1; have x1 := (Cx.new w2 [.slice ta tf.length tc, .int .i64 tn, .slice tb to_.length td] 35 (j := 1) rfl).1; have x2 := (Cx.new w2 [.slice ta tf.length tc, .int .i64 tn, .slice tb to_.length td] 35 (j := 2) rfl).1; clear hx hq hb2 E0)
      | (go_at_call 18; (with_reducible refine (stepBegun_any _).mono ?_); rintro e w8 ⟨rfl, hb8⟩))
    go_ret
    exact ⟨rfl, E2.out.trans hb8⟩

theorem contract (H : Type) (enc : TypeId × Value → H) (W : World) (base : Nat) (args : Array Value) (ds gs : List (DataW H)) (before : List MemPlace)
    (hval : ∀ (j : Nat) t v, Try.f6.params[j]? = some t → args[j]? = some v → Value.okWide Try.prog W .any base t v)
    (hW : DataW.Whole enc Try.prog Try.f6.params.toList Rows.stepBackSpec.vars false W args.toList ds gs before)
    (hsz : (DataW.weightsEach Try.prog (Try.f6.params.toList ++ Rows.stepBackSpec.plain.varTypes Try.prog) (ds ++ gs)).all (· ≤ reachBytes) = true) :
    Calls Try.prog 6 args W fun e W' => ∃ v, e = .returned v ∧ Rows.stepBackSpec.post enc Try.prog Try.f6 false true false false W args v W' := by
  have hW' := hW
  obtain ⟨p, q, hA, hV, rfl, hfz, hnd⟩ := hW
  rw [Try.params6] at hA hval
  obtain ⟨v0, vs0, d0, ds0, q0, t0, hargs, rfl, rfl, h0, r0⟩ := trodAll_cons hA
  obtain ⟨v1, vs1, d1, ds1, q1, t1, rfl, rfl, rfl, h1, r1⟩ := trodAll_cons r0
  obtain ⟨rfl, rfl, rfl⟩ := trodAll_nil r1
  obtain rfl : args = #[v0, v1] := by cases args; simp_all
  obtain ⟨rfl, rfl⟩ := trodVars_none hV
  obtain ⟨a0, l0, c0, rfl⟩ := okWide_slice Try.underlying22 (hval 0 22 v0 rfl rfl)
  obtain ⟨fuel0, h0⟩ := h0
  obtain ⟨x0, h0⟩ := funcs_of_trod h0 (fun n hn => by
    have := List.all_eq_true.1 hsz n (DataW.weights_mem_each (j := 0) rfl rfl n hn)
    simpa using this)
  obtain ⟨x1, h1⟩ := state_of_trod (hval 1 35 v1 rfl rfl) h1 (fun n hn => by
    have := List.all_eq_true.1 hsz n (DataW.weights_mem_each (j := 1) rfl rfl n hn)
    simpa using this)
  refine (walk W x0 _ h0 x1 _ h1).mono fun e W' ⟨he, hE⟩ => ⟨_, he, law_post laidOut ?_ rfl Try.underlying4 rfl hW' ?_ hE⟩
  · rw [Try.params6]
    intro t ht
    simp at ht
    (try rcases ht with rfl | rfl) <;> exact ⟨by kernel_rfl, of_decide_eq_true (by kernel_rfl)⟩
  · intro ds hds
    match ds, hds with
    | [d0, d1], _ => exact ⟨rfl, rfl, rfl⟩

theorem lifted (os : Os) (started : os.Started) (H : Type) (enc : TypeId × Value → H) :
    ReturnsInHanded {} Try.checked os 6 .any (Rows.stepBackSpec.pre6 enc Try.prog Try.f6 Rows.stepBackRow.domain false) (Rows.stepBackSpec.post enc Try.prog Try.f6 false true false false) := by
  refine returnsInHanded_of_change_sized (C := Try.checked) own started (by kernel_rfl) Try.func6
    (ChangeSpec.witness6 (enc := enc) (C := Try.checked) false ⟨#[], #[.slice none 0 0, .agg #[.slice none 0 0, .int .i64 0, .slice none 0 0]], []⟩ 8 (by kernel_rfl) (by kernel_rfl) (by kernel_rfl) (by kernel_rfl)) ?_
  intro W base args ds gs before hval hW _ hsz _
  exact contract H enc W base args ds gs before hval hW hsz

theorem proved : Rows.StepBackSaid :=
  OpenClaim.holds_of_wide 6 Try.f6 rfl rfl rfl rfl rfl rfl rfl ⟨rfl, rfl, rfl, rfl, rfl⟩ rfl rfl rfl rfl rfl (by as_aux_lemma => kernel_rfl) Try.func6 (by as_aux_lemma => kernel_rfl)
    (of_decide_eq_true (by as_aux_lemma => kernel_rfl)) (by unfold Func.isWrapper; rw [if_neg (of_decide_eq_false (by as_aux_lemma => kernel_rfl))]; exact ⟨rfl, rfl⟩)
    (fun os started H enc _ => lifted os started H enc)
end Go.Proofs.Ytfajkebkhdcapaa.stepBack

