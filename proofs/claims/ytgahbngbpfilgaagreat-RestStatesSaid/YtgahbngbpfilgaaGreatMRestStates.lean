/- RestStates: what came, and was changed, changes nothing that was handed in, nor what comes next. No condition. -/
import Derived.Test.YtgahbngbpfilgaaGreatGHAA
import Derived.Test.YtgahbngbpfilgaaGreatGHAB
import Derived.Test.YtgahbngbpfilgaaGreatGHAC
import Derived.Test.YtgahbngbpfilgaaGreatGHAZ
import Derived.Test.YtgahbngbpfilgaaGreatGHBA
import Derived.Test.YtgahbngbpfilgaaGreatGHBH
import Derived.Test.YtgahbngbpfilgaaGreatGHBI
import Derived.Test.YtgahbngbpfilgaaGreatGHBJ
namespace Go.Proofs.YtgahbngbpfilgaaGreat.restStates
set_option maxHeartbeats 4000000
set_option maxRecDepth 100000
open Go Go.RowKit Go.ChangeShapes Go.WideShapes Go.ChangeAt
theorem walk (w : World) (p : List GFunc) (v : Value) (hp : Funcs w (fun _ => True) v p) (s : GState) (vs : Value) (hs : StateV w (fun _ => True) vs s) (c : Int) (hc : I64 c) :
  Calls Tryz.prog 3 #[v, vs, .int .i64 c] w fun e w' => e = .returned (.bool true) ∧ Ext w w' := by
 have HP := Lib.hid hp
 have HC := Lib.hid hc
 obtain ⟨ap, capp, rfl, _, _, _⟩ := hp
 obtain ⟨sf, sn, so⟩ := s
 have HS := Lib.hid hs
 obtain ⟨sa, sc, sb, sd, rfl⟩ := few3 hs
 have RA := alloc_keep
 have b0 := (Cx.new w [.slice sa sf.length sc, .int .i64 sn, .slice sb so.length sd] 26 (j := 0) rfl).1
 have b1 := (Cx.new w [.slice sa sf.length sc, .int .i64 sn, .slice sb so.length sd] 26 (j := 1) rfl).1
 have b2 := (Cx.new w [.slice sa sf.length sc, .int .i64 sn, .slice sb so.length sd] 26 (j := 2) rfl).1
 have E0 : Hid (Ext w (w.alloc (.cells #[.slice sa sf.length sc, .int .i64 sn, .slice sb so.length sd] 26))) := (Ext.refl w).alloc _
 obtain ⟨W0, hW0⟩ : ∃ W0, W0 = w.alloc (.cells #[.slice sa sf.length sc, .int .i64 sn, .slice sb so.length sd] 26) := ⟨_, rfl⟩
 rw [← hW0] at b0 b1 b2 E0
 have HS0 := Lib.hid (StateV.stays (Ext.stays E0.out) HS.out)
 have HP0 := Lib.hid (Funcs.stays (Ext.stays E0.out) HP.out)
 by_cases hz : stateErr p ⟨sf, sn, so⟩ = 0
 ·obtain ⟨ll, hok⟩ := ok_of_err hz
  obtain ⟨l3, hl3⟩ := stateErr_zero hz
  have HZP := Lib.hid hl3.prog
  have hRP := progErr_zero hl3.prog
  have HFW := Lib.hid hok.fewS
  have HFIT : Hid (∀ m : Int, 0 ≤ m → m ≤ 500 → stateErr p ⟨sf, sn, so⟩ = 0 → RunFit p m.toNat ⟨sf, sn, so⟩) := fun m _ _ _ => run_fit m.toNat hok
  have HPL : Hid (p.length ≤ 1000 ∧ ∀ F ∈ p, F.code.length ≤ 1000) := ⟨by have := hRP.most; omega, fun F hF => by
   obtain ⟨k, hk, rfl⟩ := List.getElem_of_mem hF
   have h := (funcErr_zero (hRP.func k hk)).2.2 (by simpa using hk)
   have := h.len
   simp only [Int.toNat_natCast] at this
   omega⟩
  obtain ⟨m, hm⟩ : ∃ m, chooseOf c 40 = m := ⟨_, rfl⟩
  have HM := Lib.hid hm
  obtain ⟨⟨de, U⟩, hu⟩ : ∃ z, doS p ⟨sf, sn, so⟩ = z := ⟨_, rfl⟩
  obtain ⟨⟨V, rn, rg⟩, hv⟩ : ∃ z, runOfG p ⟨sf, sn, so⟩ m = z := ⟨_, rfl⟩
  obtain ⟨N, hN⟩ : ∃ N, U.fibers.length = N := ⟨_, rfl⟩
  obtain ⟨M, hM⟩ : ∃ M, U.out.length = M := ⟨_, rfl⟩
  obtain ⟨J, hJ⟩ : ∃ J, U.now = J := ⟨_, rfl⟩
  obtain ⟨N2, hN2⟩ : ∃ N, V.fibers.length = N := ⟨_, rfl⟩
  obtain ⟨M2, hM2⟩ : ∃ M, V.out.length = M := ⟨_, rfl⟩
  obtain ⟨J2, hJ2⟩ : ∃ J, V.now = J := ⟨_, rfl⟩
  have HU := Lib.hid (show doS p ⟨sf, sn, so⟩ = (de, U) ∧ U.fibers.length = N ∧ U.out.length = M ∧ U.now = J from ⟨hu, hN, hM, hJ⟩)
  have HV := Lib.hid (show runOfG p ⟨sf, sn, so⟩ m = (V, rn, rg) ∧ V.fibers.length = N2 ∧ V.out.length = M2 ∧ V.now = J2 from ⟨hv, hN2, hM2, hJ2⟩)
  have HZ := Lib.hid hz
  clear hs hz hok hl3 hRP hm hu hv hN hM hJ hN2 hM2 hJ2
  go_enter Tryz.func3, Tryz.ntmps3
  go_upto_region 1 with fail
  rw [← hW0]
  clear hW0
  generalize w.heap.size = sx at *
  go_upto_region 3 with (first
   | (go_at_call 5; (with_reducible refine (stateError_any p _ _ _ ⟨sf, sn, so⟩ _ _ HP0.out HS0.out).mono ?_); rintro e w1 ⟨rfl, hb1⟩; rw [HZ.out]))
  replace b0 := Ext.cell hb1 b0
  replace b1 := Ext.cell hb1 b1
  replace b2 := Ext.cell hb1 b2
  have E1 := Lib.hid (E0.out.trans hb1)
  clear hb1 E0 HS0 HP0
  rename World => u1
  go_upto_region 4 with (first
   | (go_at_call 7; (with_reducible refine (ownState_any ⟨sf, sn, so⟩ _ _ _ (StateV.stays (Ext.stays E1.out) HS.out) HFW.out).mono ?_); rintro e w2 ⟨⟨P, rfl, hO, hg⟩, hb2⟩; have hso : StateO w2 u1.heap.size (.agg #[P.vfs, .int .i64 P.now, P.vo]) ⟨sf, sn, so⟩ := ⟨P, rfl, hO, hg⟩; obtain ⟨oa, oc, ob, od, hoe⟩ := few3 hso.state; rw [hoe] at hso; rw [hoe]; have HSO := Lib.hid hso; have HB2 := Lib.hid hb2; clear hso hO hg hoe hb2)
   | (go_at_call 8; (with_reducible refine (ownProg_any p _ _ _ (Funcs.stays (Ext.stays (E1.out.trans HB2.out)) HP.out) HPL.out.1 HPL.out.2).mono ?_); rintro e w3 ⟨⟨xp, rfl, hxp⟩, hb3⟩; have HXP := Lib.hid hxp; have HB3 := Lib.hid hb3; obtain ⟨xpa, xpc, rfl, _, _, _⟩ := hxp; clear hb3))
  have e3 : Ext w3 (w3.alloc (.cells #[.slice oa sf.length oc, .int .i64 sn, .slice ob so.length od] 26)) := (Ext.refl _).alloc _
  have HBO := Lib.hid ((HSO.out.ext HB3.out).box_new 26)
  have HPM := Lib.hid (Funcs.stays (T := fun _ => True) (Stays.widen (fun _ _ => trivial)) (Funcs.stays (Ext.stays e3) HXP.out))
  have e13 := (HB2.out.trans HB3.out).trans e3
  replace b0 := Ext.cell e13 b0
  replace b1 := Ext.cell e13 b1
  replace b2 := Ext.cell e13 b2
  have E3 := Lib.hid (E1.out.trans e13)
  clear e3 e13 HSO HB2 HB3 HXP E1
  generalize w3.heap.size = ox at *
  generalize w3.alloc (.cells #[.slice oa sf.length oc, .int .i64 sn, .slice ob so.length od] 26) = W5 at *
  rename World => W5
  have HBW := Lib.hid (⟨b0, b1, b2⟩ : _ ∧ _ ∧ _)
  go_upto_region 5 with (first
   | (go_at_call 9; (with_reducible refine (choose_any c 40 _ HC.out (by omega) (by omega)).mono ?_); rintro e w4 ⟨rfl, rfl⟩; rw [HM.out]))
  go_upto_region 6 with (first
   | (go_at_call 10; (with_reducible refine (stepDo_val p _ _ _ ⟨sf, sn, so⟩ _ _ (Funcs.stays (Ext.stays E3.out) HP.out) (StateV.stays (Ext.stays E3.out) HS.out) HU.out.1 HU.out.2.1 HU.out.2.2.1 HU.out.2.2.2).mono ?_); rintro e w9 ⟨⟨da, dc, db, dd, rfl, h9⟩, hb9⟩))
  have e9 : Ext w9 (w9.alloc (.cells #[.slice da N dc, .int .i64 J, .slice db M dd] 26)) := (Ext.refl _).alloc _
  have HOd := Lib.hid (h9.ext e9)
  have HXd := Lib.hid (hb9.trans e9)
  have d0 := (Cx.new w9 [.slice da N dc, .int .i64 J, .slice db M dd] 26 (j := 0) rfl).1
  have d1 := (Cx.new w9 [.slice da N dc, .int .i64 J, .slice db M dd] 26 (j := 1) rfl).1
  have d2 := (Cx.new w9 [.slice da N dc, .int .i64 J, .slice db M dd] 26 (j := 2) rfl).1
  replace b0 := Ext.cell HXd.out b0
  replace b1 := Ext.cell HXd.out b1
  replace b2 := Ext.cell HXd.out b2
  have E5 := Lib.hid (E3.out.trans HXd.out)
  clear h9 hb9 e9
  generalize w9.heap.size = dx at *
  generalize w9.alloc (.cells #[.slice da N dc, .int .i64 J, .slice db M dd] 26) = u5 at *
  rename World => u5
  go_upto_region 7 with (first
   | (go_at_call 11; (with_reducible refine (runRun_val p _ _ _ ⟨sf, sn, so⟩ _ m _ (Funcs.stays (Ext.stays E5.out) HP.out) (StateV.stays (Ext.stays E5.out) HS.out) HV.out.1 HV.out.2.1 HV.out.2.2.1 HV.out.2.2.2).mono ?_); rintro e w9 ⟨⟨ra, rc, rb, rd, rfl, h9⟩, hb9⟩))
  have e9 : Ext w9 (w9.alloc (.cells #[.slice ra N2 rc, .int .i64 J2, .slice rb M2 rd] 26)) := (Ext.refl _).alloc _
  have HOr := Lib.hid (h9.ext e9)
  have HXr := Lib.hid (hb9.trans e9)
  have r0 := (Cx.new w9 [.slice ra N2 rc, .int .i64 J2, .slice rb M2 rd] 26 (j := 0) rfl).1
  have r1 := (Cx.new w9 [.slice ra N2 rc, .int .i64 J2, .slice rb M2 rd] 26 (j := 1) rfl).1
  have r2 := (Cx.new w9 [.slice ra N2 rc, .int .i64 J2, .slice rb M2 rd] 26 (j := 2) rfl).1
  replace b0 := Ext.cell HXr.out b0
  replace b1 := Ext.cell HXr.out b1
  replace b2 := Ext.cell HXr.out b2
  replace d0 := Ext.cell HXr.out d0
  replace d1 := Ext.cell HXr.out d1
  replace d2 := Ext.cell HXr.out d2
  have E6 := Lib.hid (E5.out.trans HXr.out)
  clear h9 hb9 e9
  generalize w9.heap.size = rx at *
  generalize w9.alloc (.cells #[.slice ra N2 rc, .int .i64 J2, .slice rb M2 rd] 26) = u6 at *
  rename World => u6
  go_upto_region 8 with (first
   | (go_at_call 12; (with_reducible refine (begin_owned p _ _ _ (Funcs.stays (Ext.stays E6.out) HP.out) HZP.out begin_own).mono ?_); rintro e w9 ⟨⟨ga, gc, gb, gd, rfl, h9⟩, hb9⟩))
  have e9 : Ext w9 (w9.alloc (.cells #[.slice ga 1 gc, .int .i64 0, .slice gb 0 gd] 26)) := (Ext.refl _).alloc _
  have HOg := Lib.hid (h9.ext e9)
  have HXg := Lib.hid (hb9.trans e9)
  have g0 := (Cx.new w9 [.slice ga 1 gc, .int .i64 0, .slice gb 0 gd] 26 (j := 0) rfl).1
  have g1 := (Cx.new w9 [.slice ga 1 gc, .int .i64 0, .slice gb 0 gd] 26 (j := 1) rfl).1
  have g2 := (Cx.new w9 [.slice ga 1 gc, .int .i64 0, .slice gb 0 gd] 26 (j := 2) rfl).1
  replace b0 := Ext.cell HXg.out b0
  replace b1 := Ext.cell HXg.out b1
  replace b2 := Ext.cell HXg.out b2
  replace d0 := Ext.cell HXg.out d0
  replace d1 := Ext.cell HXg.out d1
  replace d2 := Ext.cell HXg.out d2
  replace r0 := Ext.cell HXg.out r0
  replace r1 := Ext.cell HXg.out r1
  replace r2 := Ext.cell HXg.out r2
  have E7 := Lib.hid (E6.out.trans HXg.out)
  clear h9 hb9 e9
  generalize w9.heap.size = gx at *
  generalize w9.alloc (.cells #[.slice ga 1 gc, .int .i64 0, .slice gb 0 gd] 26) = u7 at *
  rename World => u7
  go_upto_region 9 with fail
  obtain ⟨K, hI⟩ := rest_start HXd.out HXr.out HXg.out (Ext.refl _) HOd.out HOr.out HOg.out 26
  have hx8 : Ext u7 (u7.alloc (.cells #[.slice da N dc, .int .i64 J, .slice db M dd, .slice ra N2 rc, .int .i64 J2, .slice rb M2 rd, .slice ga 1 gc, .int .i64 0, .slice gb 0 gd] 26)) := (Ext.refl _).alloc _
  have HI := Lib.hid hI
  clear hI hx8 HOd HOr HOg d0 d1 d2 r0 r1 r2 g0 g1 g2 b0 b1 b2 HXd HXr HXg E5 E6 E7
  generalize u7.alloc _ = u8 at *
  generalize u7.heap.size = bl at *
  clear u5 u6 u7
  go_wp2_with fail
  go_loopw [18] (fun q wr => ∃ i : Nat, i ≤ 3 ∧ q = .int .i64 i ∧ RestI K W5 bl (bl + 1) wr) (fun q _ => 3 - (intOf q).toNat)
  case atStart => exact ⟨0, by decide, rfl, HI.out⟩
  case round =>
   obtain ⟨i, hi, rfl, hI⟩ := hrel
   clear HI
   by_cases hi3 : i < 3
   ·obtain ⟨fa, fn, fc, oa, on, oc, c0, c2, -, -, hfn, -⟩ := hI.at hi3
    have HI := Lib.hid hI
    have hi3' : (i : Int) < 3 := by omega
    clear hI c2
    rename World => wi
    go_wp2_with fail
    go_loopw [19] (fun q wr => ∃ k : Nat, k ≤ fn ∧ q = .int .i64 k ∧ RestI K W5 bl (bl + 1) wr ∧ wr.cell? ⟨bl, i * 3, none⟩ = some (.slice fa fn fc)) (fun q _ => fn - (intOf q).toNat)
    case atStart => exact ⟨0, Nat.zero_le _, rfl, HI.out, c0⟩
    case round =>
     clear c0 HI
     obtain ⟨k, hk, rfl, hI, c0⟩ := hrel
     by_cases hkn : k < fn
     ·obtain ⟨gB, oB, xa, xn, xc, yB, rfl, hK3, ⟨x0, -⟩, -, hX⟩ := (hI.vf hi3 c0).at hkn
      have hxn := hX.le
      have HI := Lib.hid hI
      have HK3 := Lib.hid hK3
      clear hI hX hK3
      rename World => wk
      go_wp2_with fail
      go_loopw [20] (fun q wr => ∃ j : Nat, j ≤ xn ∧ q = .int .i64 j ∧ RestI K W5 bl (bl + 1) wr ∧ wr.cell? ⟨bl, i * 3, none⟩ = some (.slice (some ⟨gB, oB, none⟩) fn fc) ∧ wr.cell? ⟨gB, oB + k * 2, none⟩ = some (.slice xa xn xc)) (fun q _ => xn - (intOf q).toNat)
      case atStart => exact ⟨0, Nat.zero_le _, rfl, HI.out, c0, x0⟩
      case round =>
       clear c0 x0 HI
       obtain ⟨j, hj, rfl, hI, c0, x0⟩ := hrel
       by_cases hjn : j < xn
       ·obtain ⟨gX, oX, xx, yy, la, ln, lc, sa, sn2, sc2, rfl, hK2, ⟨f0, -⟩, ⟨f1, -⟩, ⟨f2, -⟩, ⟨f3, -⟩, hL, hS⟩ := ((hI.vf hi3 c0).x hkn x0).1.at hjn
        have HK2 := Lib.hid hK2
        have hln := hL.le
        have hsl := hS.le
        have hbx := hI.size
        have ea : Ext wr (wr.alloc (.cells #[.int .i64 xx, .int .i64 yy, .slice la ln lc, .slice sa sn2 sc2] 43)) := (Ext.refl _).alloc _
        have z2 := (Cx.new wr [.int .i64 xx, .int .i64 yy, .slice la ln lc, .slice sa sn2 sc2] 43 (j := 2) rfl).1
        have z3 := (Cx.new wr [.int .i64 xx, .int .i64 yy, .slice la ln lc, .slice sa sn2 sc2] 43 (j := 3) rfl).1
        obtain ⟨wb, hwb⟩ : ∃ wb, wb = wr.alloc (.cells #[.int .i64 xx, .int .i64 yy, .slice la ln lc, .slice sa sn2 sc2] 43) := ⟨_, rfl⟩
        have d0 := Ext.cell ea c0
        have y0 := Ext.cell ea x0
        have hI2 := hI.more ea
        have hL2 := hL.pres (Pres.ext ea)
        have hS2 := hS.pres (Pres.ext ea)
        rw [← hwb] at d0 y0 hI2 hL2 hS2 z2 z3
        have HIN := Lib.hid hI2
        have HLN := Lib.hid hL2
        have HSN := Lib.hid hS2
        have HQN := Lib.hid d0
        have HRN := Lib.hid y0
        have HZN := Lib.hid z2
        have HYN := Lib.hid z3
        clear hI hL hS z2 z3 ea hK2 hI2 hL2 hS2 d0 y0
        rename World => wb
        go_wp2_with fail
        rw [← hwb]
        clear c0 x0 f0 f1 f2 f3 hwb
        generalize wr.heap.size = xb at *
        go_loopw [22] (fun q wr => ∃ m : Nat, m ≤ ln ∧ q = .int .i64 m ∧ RestI K W5 bl (bl + 1) wr ∧ (wr.cell? ⟨bl, i * 3, none⟩ = some (.slice (some ⟨gB, oB, none⟩) fn fc) ∧ wr.cell? ⟨gB, oB + k * 2, none⟩ = some (.slice (some ⟨gX, oX, none⟩) xn xc) ∧ wr.cell? ⟨xb, 2, none⟩ = some (.slice la ln lc) ∧ wr.cell? ⟨xb, 3, none⟩ = some (.slice sa sn2 sc2)) ∧ GI K wr (.slice la ln lc) ∧ GI K wr (.slice sa sn2 sc2)) (fun q _ => ln - (intOf q).toNat)
        case atStart => exact ⟨0, Nat.zero_le _, rfl, HIN.out, ⟨HQN.out, HRN.out, HZN.out, HYN.out⟩, HLN.out, HSN.out⟩
        case round =>
         clear HIN HQN HRN HZN HYN HLN HSN
         obtain ⟨m', hm', rfl, hI, ⟨c0, x0, z2, z3⟩, hL, hS⟩ := hrel
         by_cases hmn : m' < ln
         ·have HIM := Lib.hid (⟨hI, hL, hS⟩ : _ ∧ _ ∧ _)
          obtain ⟨gI, oI, u, rfl, hk1, ⟨i0, i0'⟩⟩ := hL.at hmn
          have HK1 := Lib.hid hk1
          clear hI hL hS hk1
          rename World => wm
          go_wp2_with fail
          go_roundw
          case rel => exact ⟨m' + 1, by omega, by go_num, HIM.out.1.int HK1.out _ _, ⟨pin_int HK1.out (HIM.out.1.nbl 1) c0, pin_int HK1.out (HIM.out.1.nkind HK3.out (by decide)) x0, pin_int HK1.out (HIM.out.1.nfar hbx 1) z2, pin_int HK1.out (HIM.out.1.nfar hbx 1) z3⟩, HIM.out.2.1.pres (Pres.int HIM.out.1.kf HK1.out _ _), HIM.out.2.2.pres (Pres.int HIM.out.1.kf HK1.out _ _)⟩
          case measure => simp [intOf]; omega
         ·obtain rfl : m' = ln := by omega
          have HIM := Lib.hid (⟨hI, hS⟩ : _ ∧ _)
          clear hI hL hS
          rename World => wm
          go_wp2_with fail
          go_loopw [23] (fun q wr => ∃ m : Nat, m ≤ sn2 ∧ q = .int .i64 m ∧ RestI K W5 bl (bl + 1) wr ∧ (wr.cell? ⟨bl, i * 3, none⟩ = some (.slice (some ⟨gB, oB, none⟩) fn fc) ∧ wr.cell? ⟨gB, oB + k * 2, none⟩ = some (.slice (some ⟨gX, oX, none⟩) xn xc) ∧ wr.cell? ⟨xb, 3, none⟩ = some (.slice sa sn2 sc2)) ∧ GI K wr (.slice sa sn2 sc2)) (fun q _ => sn2 - (intOf q).toNat)
          case atStart => exact ⟨0, Nat.zero_le _, rfl, HIM.out.1, ⟨c0, x0, z3⟩, HIM.out.2⟩
          case round =>
           clear HIM c0 x0 z2 z3
           obtain ⟨m2, hm2, rfl, hI, ⟨c0, x0, z3⟩, hS⟩ := hrel
           by_cases hmn : m2 < sn2
           ·have HIM := Lib.hid (⟨hI, hS⟩ : _ ∧ _)
            obtain ⟨gI, oI, u, rfl, hk1, ⟨i0, i0'⟩⟩ := hS.at hmn
            have HK1 := Lib.hid hk1
            clear hI hS hk1
            rename World => wn
            go_wp2_with fail
            go_roundw
            case rel => exact ⟨m2 + 1, by omega, by go_num, HIM.out.1.int HK1.out _ _, ⟨pin_int HK1.out (HIM.out.1.nbl 1) c0, pin_int HK1.out (HIM.out.1.nkind HK3.out (by decide)) x0, pin_int HK1.out (HIM.out.1.nfar hbx 1) z3⟩, HIM.out.2.pres (Pres.int HIM.out.1.kf HK1.out _ _)⟩
            case measure => simp [intOf]; omega
           ·obtain rfl : m2 = sn2 := by omega
            obtain ⟨gX', oX', xx', yy', la', ln', lc', sa', sn', sc', e, -, ⟨f0, f0'⟩, ⟨f1, f1'⟩, ⟨f2, f2'⟩, ⟨f3, f3'⟩, -, -⟩ := ((hI.vf hi3 c0).x hkn x0).1.at hjn
            simp only [Option.some.injEq, Addr.mk.injEq] at e
            obtain ⟨rfl, rfl, -⟩ := e
            have HIM := Lib.hid hI
            clear hI hS
            rename World => wn
            go_wp2_with fail
            go_roundw
            case rel => exact ⟨j + 1, by omega, by go_num, HIM.out.frame HK2.out j 0 (-1), pin_frame HK2.out (HIM.out.nbl 2) c0, pin_frame HK2.out (HIM.out.nkind HK3.out (by decide)) x0⟩
            case measure => simp [intOf]; omega
       ·obtain rfl : j = xn := by omega
        obtain ⟨gB', oB', xa', xn', xc', yB', e, -, ⟨q0, q0'⟩, ⟨q1, q1'⟩, -⟩ := (hI.vf hi3 c0).at hkn
        simp only [Option.some.injEq, Addr.mk.injEq] at e
        obtain ⟨rfl, rfl, -⟩ := e
        have HIM := Lib.hid hI
        clear hI q0
        rename World => wn
        go_wp2_with fail
        go_roundw
        case rel => exact ⟨k + 1, by omega, by go_num, HIM.out.fiber HK3.out k 0, pin_fiber HK3.out (HIM.out.nbl 3) c0⟩
        case measure => simp [intOf]; omega
     ·obtain rfl : k = fn := by omega
      obtain ⟨-, -, -, oa, on, oc, -, c2, -, -, -, hon⟩ := hI.at hi3
      have HI := Lib.hid hI
      clear hI
      rename World => wk
      go_wp2_with fail
      go_loopw [24] (fun q wr => ∃ m : Nat, m ≤ on ∧ q = .int .i64 m ∧ RestI K W5 bl (bl + 1) wr ∧ wr.cell? ⟨bl, i * 3 + 2, none⟩ = some (.slice oa on oc)) (fun q _ => on - (intOf q).toNat)
      case atStart => exact ⟨0, Nat.zero_le _, rfl, HI.out, c2⟩
      case round =>
       clear HI c2 c0
       obtain ⟨m', hm', rfl, hI, c2⟩ := hrel
       by_cases hmn : m' < on
       ·obtain ⟨gI, oI, u, rfl, hk1, ⟨i0, i0'⟩⟩ := (hI.vo hi3 c2).at hmn
        have HIM := Lib.hid hI
        have HK1 := Lib.hid hk1
        clear hI hk1
        rename World => wm
        go_wp2_with fail
        go_roundw
        case rel => exact ⟨m' + 1, by omega, by go_num, HIM.out.int HK1.out _ _, pin_int HK1.out (HIM.out.nbl 1) c2⟩
        case measure => simp [intOf]; omega
       ·obtain rfl : m' = on := by omega
        have HIM := Lib.hid hI
        clear hI
        rename World => wm
        go_wp2_with fail
        go_roundw
        case rel => exact ⟨i + 1, by omega, by go_num, HIM.out⟩
        case measure => simp [intOf]; omega
   ·obtain rfl : i = 3 := by omega
    have e9 := hI.ext
    obtain ⟨b0, b1, b2⟩ := HBW.out
    replace b0 := Ext.cell e9 b0
    replace b1 := Ext.cell e9 b1
    replace b2 := Ext.cell e9 b2
    replace HBO := Lib.hid (HBO.out.ext e9)
    replace HPM := Lib.hid (Funcs.stays (Ext.stays e9) HPM.out)
    have E9 := Lib.hid (E3.out.trans e9)
    clear hI e9 HBW E3 hi3
    rename World => u9
    go_upto_region 34 with (first
     | (go_at_call 10; (with_reducible refine (stepDo_val p _ _ _ ⟨sf, sn, so⟩ _ _ (Funcs.stays (Ext.stays E9.out) HP.out) (StateV.stays (Ext.stays E9.out) HS.out) HU.out.1 HU.out.2.1 HU.out.2.2.1 HU.out.2.2.2).mono ?_); rintro e w9 ⟨⟨aa, ac, ab, ad, rfl, h9⟩, hb9⟩))
    have e9 : Ext w9 (w9.alloc (.cells #[.slice aa N ac, .int .i64 J, .slice ab M ad] 26)) := (Ext.refl _).alloc _
    have HOa := Lib.hid (h9.ext e9)
    have HXa := Lib.hid (hb9.trans e9)
    have HBa := Lib.hid (h9.box_new 26)
    clear HOa
    replace b0 := Ext.cell HXa.out b0
    replace b1 := Ext.cell HXa.out b1
    replace b2 := Ext.cell HXa.out b2
    replace HBO := Lib.hid (HBO.out.ext HXa.out)
    have E10 := Lib.hid (E9.out.trans HXa.out)
    replace HPM := Lib.hid (Funcs.stays (Ext.stays HXa.out) HPM.out)
    clear h9 hb9 e9
    generalize w9.heap.size = ax at *
    generalize w9.alloc (.cells #[.slice aa N ac, .int .i64 J, .slice ab M ad] 26) = u10 at *
    rename World => u10
    go_upto_region 35 with (first
     | (go_at_call 11; (with_reducible refine (runRun_val p _ _ _ ⟨sf, sn, so⟩ _ m _ (Funcs.stays (Ext.stays E10.out) HP.out) (StateV.stays (Ext.stays E10.out) HS.out) HV.out.1 HV.out.2.1 HV.out.2.2.1 HV.out.2.2.2).mono ?_); rintro e w9 ⟨⟨ea, ec, eb, ed, rfl, h9⟩, hb9⟩))
    have e9 : Ext w9 (w9.alloc (.cells #[.slice ea N2 ec, .int .i64 J2, .slice eb M2 ed] 26)) := (Ext.refl _).alloc _
    have HOe := Lib.hid (h9.ext e9)
    have HXe := Lib.hid (hb9.trans e9)
    have HBe := Lib.hid (h9.box_new 26)
    clear HOe
    replace b0 := Ext.cell HXe.out b0
    replace b1 := Ext.cell HXe.out b1
    replace b2 := Ext.cell HXe.out b2
    replace HBO := Lib.hid (HBO.out.ext HXe.out)
    replace HBa := Lib.hid (HBa.out.ext HXe.out)
    have E11 := Lib.hid (E10.out.trans HXe.out)
    replace HPM := Lib.hid (Funcs.stays (Ext.stays HXe.out) HPM.out)
    clear h9 hb9 e9
    generalize w9.heap.size = ex at *
    generalize w9.alloc (.cells #[.slice ea N2 ec, .int .i64 J2, .slice eb M2 ed] 26) = u11 at *
    rename World => u11
    go_upto_region 36 with (first
     | (go_at_call 13; (with_reducible refine (stepOf_val p _ _ _ ⟨sf, sn, so⟩ _ _ (Funcs.stays (Ext.stays E11.out) HP.out) (StateV.stays (Ext.stays E11.out) HS.out) HU.out.1 HU.out.2.1 HU.out.2.2.1 HU.out.2.2.2).mono ?_); rintro e w9 ⟨⟨fa, fc, fb, fd, rfl, h9⟩, hb9⟩))
    have e9 : Ext w9 (w9.alloc (.cells #[.slice fa N fc, .int .i64 J, .slice fb M fd] 26)) := (Ext.refl _).alloc _
    have HOf := Lib.hid (h9.ext e9)
    have HXf := Lib.hid (hb9.trans e9)
    have HBf := Lib.hid (h9.box_new 26)
    clear HOf
    replace b0 := Ext.cell HXf.out b0
    replace b1 := Ext.cell HXf.out b1
    replace b2 := Ext.cell HXf.out b2
    replace HBO := Lib.hid (HBO.out.ext HXf.out)
    replace HBa := Lib.hid (HBa.out.ext HXf.out)
    replace HBe := Lib.hid (HBe.out.ext HXf.out)
    have E12 := Lib.hid (E11.out.trans HXf.out)
    replace HPM := Lib.hid (Funcs.stays (Ext.stays HXf.out) HPM.out)
    clear h9 hb9 e9
    generalize w9.heap.size = fx at *
    generalize w9.alloc (.cells #[.slice fa N fc, .int .i64 J, .slice fb M fd] 26) = u12 at *
    rename World => u12
    go_upto_region 37 with (first
     | (go_at_call 14; (with_reducible refine (runOf_val p _ _ _ ⟨sf, sn, so⟩ _ m _ (Funcs.stays (Ext.stays E12.out) HP.out) (StateV.stays (Ext.stays E12.out) HS.out) (HFIT.out m) HV.out.1 HV.out.2.1 HV.out.2.2.1 HV.out.2.2.2).mono ?_); rintro e w9 ⟨⟨ha, hc, hb, hd, rfl, h9⟩, hb9⟩))
    have e9 : Ext w9 (w9.alloc (.cells #[.slice ha N2 hc, .int .i64 J2, .slice hb M2 hd] 26)) := (Ext.refl _).alloc _
    have HOh := Lib.hid (h9.ext e9)
    have HXh := Lib.hid (hb9.trans e9)
    have HBh := Lib.hid (h9.box_new 26)
    clear HOh
    replace b0 := Ext.cell HXh.out b0
    replace b1 := Ext.cell HXh.out b1
    replace b2 := Ext.cell HXh.out b2
    replace HBO := Lib.hid (HBO.out.ext HXh.out)
    replace HBa := Lib.hid (HBa.out.ext HXh.out)
    replace HBe := Lib.hid (HBe.out.ext HXh.out)
    replace HBf := Lib.hid (HBf.out.ext HXh.out)
    have E13 := Lib.hid (E12.out.trans HXh.out)
    replace HPM := Lib.hid (Funcs.stays (Ext.stays HXh.out) HPM.out)
    clear h9 hb9 e9
    generalize w9.heap.size = hx at *
    generalize w9.alloc (.cells #[.slice ha N2 hc, .int .i64 J2, .slice hb M2 hd] 26) = u13 at *
    rename World => u13
    have tok1 : True := trivial
    have tok2 : True := trivial
    go_wp2_with (first
     | (go_at_call 6; (with_reducible refine (stepBegun_any _).mono ?_); rintro e v1 ⟨rfl, g1⟩; have s0 := Ext.cell g1 b0; have s1 := Ext.cell g1 b1; have s2 := Ext.cell g1 b2; obtain ⟨oa1, oc1, ob1, od1, ⟨o0, -⟩, ⟨o1, -⟩, ⟨o2, -⟩, ho⟩ := (HBO.out.ext g1).ex; have HO1 := Lib.hid ho; clear ho)
     | (go_at_call 15; have _t := tok1; (with_reducible refine (same_val ⟨sf, sn, so⟩ _ _ _ _ _ (StateV.stays (Ext.stays (E13.out.trans g1)) HS.out) HO1.out).mono ?_); rintro e v2 ⟨rfl, g2⟩; clear tok1 _t)
     | (go_at_call 16; (with_reducible refine (sameProgs_any p p _ _ _ _ _ (Funcs.stays (Ext.stays ((E13.out.trans g1).trans g2)) HP.out) (Funcs.stays (Ext.stays (g1.trans g2)) HPM.out)).mono ?_); rintro e v3 ⟨rfl, g3⟩; rw [show decide (p = p) = true from decide_eq_true rfl]; obtain ⟨ka, kc, kb, kd, ⟨k0, -⟩, ⟨k1, -⟩, ⟨k2, -⟩, hk⟩ := (HBa.out.ext ((g1.trans g2).trans g3)).ex; have HK := Lib.hid hk; clear hk; obtain ⟨ja, jc, jb, jd, ⟨j0, -⟩, ⟨j1, -⟩, ⟨j2, -⟩, hj⟩ := (HBf.out.ext ((g1.trans g2).trans g3)).ex; have HJ := Lib.hid hj; clear hj)
     | (go_at_call 15; have _t := tok2; (with_reducible refine (same_val U _ _ _ _ _ HK.out HJ.out).mono ?_); rintro e v4 ⟨rfl, g4⟩; clear tok2 _t; obtain ⟨la, lc, lb, ld, ⟨l0, -⟩, ⟨l1, -⟩, ⟨l2, -⟩, hl⟩ := (HBe.out.ext (((g1.trans g2).trans g3).trans g4)).ex; have HL := Lib.hid hl; clear hl; obtain ⟨ma, mc, mb, md, ⟨m0, -⟩, ⟨m1, -⟩, ⟨m2, -⟩, hm⟩ := (HBh.out.ext (((g1.trans g2).trans g3).trans g4)).ex; have HMM := Lib.hid hm; clear hm)
     | (go_at_call 15; (with_reducible refine (same_val V _ _ _ _ _ HL.out HMM.out).mono ?_); rintro e v5 ⟨rfl, g5⟩))
    go_ret
    exact ⟨rfl, ((((E13.out.trans g1).trans g2).trans g3).trans g4).trans g5⟩
 ·obtain ⟨r, hr⟩ : ∃ r, stateErr p ⟨sf, sn, so⟩ = r := ⟨_, rfl⟩
  rw [hr] at hz
  have HR := Lib.hid hr
  have TR : (r != 0) = true := bne_iff_ne.2 hz
  clear hz hr hs
  go_enter Tryz.func3, Tryz.ntmps3
  go_upto_region 1 with fail
  rw [← hW0]
  clear hW0
  generalize w.heap.size = sx at *
  go_wp2_with (first
   | (go_at_call 5; (with_reducible refine (stateError_any p _ _ _ ⟨sf, sn, so⟩ _ _ HP0.out HS0.out).mono ?_); rintro e w1 ⟨rfl, hb1⟩; rw [HR.out])
   | (go_at_call 6; (with_reducible refine (stepBegun_any _).mono ?_); rintro e w2 ⟨rfl, hb2⟩))
  go_ret
  exact ⟨rfl, (E0.out.trans hb1).trans hb2⟩
theorem contract (H : Type) (enc : TypeId × Value → H) (W : World) (base : Nat) (args : Array Value) (ds gs : List (DataW H)) (before : List MemPlace)
  (hval : ∀ (j : Nat) t v, Tryz.f3.params[j]? = some t → args[j]? = some v → Value.okWide Tryz.prog W .any base t v)
  (hW : DataW.Whole enc Tryz.prog Tryz.f3.params.toList Rows.restStatesSpec.vars false W args.toList ds gs before)
  (hsz : (DataW.weightsEach Tryz.prog (Tryz.f3.params.toList ++ Rows.restStatesSpec.plain.varTypes Tryz.prog) (ds ++ gs)).all (· ≤ reachBytes) = true) :
  Calls Tryz.prog 3 args W fun e W' => ∃ v, e = .returned v ∧ Rows.restStatesSpec.post enc Tryz.prog Tryz.f3 false true false false W args v W' := by
 have hW' := hW
 obtain ⟨p, q, hA, hV, rfl, hfz, hnd⟩ := hW
 rw [Tryz.params3] at hA hval
 obtain ⟨v0, vs0, d0, ds0, q0, t0, hargs, rfl, rfl, h0, r0⟩ := trodAll_cons hA
 obtain ⟨v1, vs1, d1, ds1, q1, t1, rfl, rfl, rfl, h1, r1⟩ := trodAll_cons r0
 obtain ⟨v2, vs2, d2, ds2, q2, t2, rfl, rfl, rfl, h2, r2⟩ := trodAll_cons r1
 obtain ⟨rfl, rfl, rfl⟩ := trodAll_nil r2
 obtain rfl : args = #[v0, v1, v2] := by cases args; simp_all
 obtain ⟨rfl, rfl⟩ := trodVars_none hV
 obtain ⟨a0, l0, c0, rfl⟩ := okWide_slice Tryz.underlying22 (hval 0 22 v0 rfl rfl)
 obtain ⟨fuel0, h0⟩ := h0
 obtain ⟨x0, h0⟩ := funcs_of_trod h0 (fun n hn => by
  have := List.all_eq_true.1 hsz n (DataW.weights_mem_each (j := 0) rfl rfl n hn)
  simpa using this)
 obtain ⟨x1, h1⟩ := state_of_trod (hval 1 26 v1 rfl rfl) h1 (fun n hn => by
  have := List.all_eq_true.1 hsz n (DataW.weights_mem_each (j := 1) rfl rfl n hn)
  simpa using this)
 obtain ⟨x2, rfl, rfl, rfl, wf2⟩ := open_int Tryz.underlying3 (hval 2 3 v2 rfl rfl) h2
 refine (walk W x0 _ h0 x1 _ h1 x2 (i64_of_wf wf2)).mono fun e W' ⟨he, hE⟩ => ⟨_, he, law_post laidOut ?_ rfl Tryz.underlying4 rfl hW' ?_ hE⟩
 ·rw [Tryz.params3]
  intro t ht
  simp at ht
  (try rcases ht with rfl | rfl | rfl) <;> exact ⟨by kernel_rfl, of_decide_eq_true (by kernel_rfl)⟩
 ·intro ds hds
  match ds, hds with
  | [d0, d1, d2], _ => exact ⟨rfl, rfl, rfl⟩
theorem lifted (os : Os) (started : os.Started) (H : Type) (enc : TypeId × Value → H) :
  ReturnsInHanded {} Tryz.checked os 3 .any (Rows.restStatesSpec.pre6 enc Tryz.prog Tryz.f3 Rows.restStatesRow.domain false) (Rows.restStatesSpec.post enc Tryz.prog Tryz.f3 false true false false) := by
 refine returnsInHanded_of_change_sized (C := Tryz.checked) own started (by kernel_rfl) Tryz.func3
  (ChangeSpec.witness6 (enc := enc) (C := Tryz.checked) false ⟨#[], #[.slice none 0 0, .agg #[.slice none 0 0, .int .i64 0, .slice none 0 0], .int .i64 0], []⟩ 8 (by kernel_rfl) (by kernel_rfl) (by kernel_rfl) (by kernel_rfl)) ?_
 intro W base args ds gs before hval hW _ hsz _
 exact contract H enc W base args ds gs before hval hW hsz
theorem proved : Rows.RestStatesSaid :=
 OpenClaim.holds_of_wide 3 Tryz.f3 rfl rfl rfl rfl rfl rfl rfl ⟨rfl, rfl, rfl, rfl, rfl⟩ rfl rfl rfl rfl rfl (by as_aux_lemma => kernel_rfl) Tryz.func3 (by as_aux_lemma => kernel_rfl)
  (of_decide_eq_true (by as_aux_lemma => kernel_rfl)) (by unfold Func.isWrapper; rw [if_neg (of_decide_eq_false (by as_aux_lemma => kernel_rfl))]; exact ⟨rfl, rfl⟩)
  (fun os started H enc _ => lifted os started H enc)
end Go.Proofs.YtgahbngbpfilgaaGreat.restStates
