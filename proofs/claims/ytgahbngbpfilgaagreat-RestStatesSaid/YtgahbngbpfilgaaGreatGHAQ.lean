/- Merged texts: contracts and plain facts, one part behind another; each part begins with what it says. -/
import Derived.Test.YtgahbngbpfilgaaGreatGHAG
import Derived.Test.YtgahbngbpfilgaaGreatGHAH
import Derived.Test.YtgahbngbpfilgaaGreatGHAL
import Derived.Test.YtgahbngbpfilgaaGreatGHAN
import Derived.Test.YtgahbngbpfilgaaGreatGHAP
section
set_option maxHeartbeats 4000000
set_option maxRecDepth 100000
namespace Go.Proofs.YtgahbngbpfilgaaGreat
open Go Go.RowKit
theorem frame_ne {x y : GFrame} (h : x.func ≠ y.func ∨ x.at_ ≠ y.at_ ∨ x.locals ≠ y.locals ∨ x.stack ≠ y.stack) : x ≠ y := by
 rintro rfl
 rcases h with h | h | h | h <;> exact h rfl
theorem frame_eq {x y : GFrame} (h1 : x.func = y.func) (h2 : x.at_ = y.at_) (h3 : x.locals = y.locals) (h4 : x.stack = y.stack) : x = y := by
 cases x; cases y; simp_all
theorem list_ext {α : Type} {a b : List α} {d : α} (hl : a.length = b.length) (h : ∀ i, i < a.length → a.getD i d = b.getD i d) : a = b := by
 refine List.ext_getElem hl fun i h1 h2 => ?_
 have := h i h1
 simpa [List.getD, List.getElem?_eq_getElem h1, List.getElem?_eq_getElem h2] using this
theorem list_ne {α : Type} {a b : List α} {d : α} {i : Nat} (h : a.getD i d ≠ b.getD i d) : a ≠ b := fun e => h (by rw [e])
theorem two_box (wr : World) (cs ds : List Value) (t t' : TypeId) : Ext wr ((wr.alloc (.cells cs.toArray t)).alloc (.cells ds.toArray t')).drew ∧ (∀ j u, cs[j]? = some u → ((wr.alloc (.cells cs.toArray t)).alloc (.cells ds.toArray t')).drew.cell? ⟨wr.heap.size, j, none⟩ = some u) ∧
  (∀ j u, ds[j]? = some u → ((wr.alloc (.cells cs.toArray t)).alloc (.cells ds.toArray t')).drew.cell? ⟨wr.heap.size + 1, j, none⟩ = some u) := by
 refine ⟨(((Ext.refl wr).alloc _).alloc _).drew, fun j u h => ?_, fun j u h => ?_⟩
 ·exact ((Cx.new wr cs t h).ext ((Ext.refl _).alloc (.cells ds.toArray t')).drew).1
 ·have hs : (wr.alloc (.cells cs.toArray t)).heap.size = wr.heap.size + 1 := Array.size_push _
  have := ((Cx.new (wr.alloc (.cells cs.toArray t)) ds t' h).ext (Ext.refl _).drew).1
  rwa [hs] at this
theorem sameStates_any (a b : GState) (va vb : Value) (S T : Nat → Prop) (w : World) (ha : StateV w S va a) (hb : StateV w T vb b) :
  Calls Tryz.prog 15 #[va, vb] w fun e w' => e = .returned (.bool (decide (a = b))) ∧ Ext w w' := by
 obtain ⟨fa, na, oa⟩ := a
 obtain ⟨fb, nb, ob⟩ := b
 obtain ⟨xa, ya, rfl, hfa, _, hoa⟩ := ha
 obtain ⟨xb, yb, rfl, hfb, _, hob⟩ := hb
 have HFA := Lib.hid hfa
 have HFB := Lib.hid hfb
 have HOA := Lib.hid hoa
 have HOB := Lib.hid hob
 obtain ⟨aa, ca, rfl, _, _, _⟩ := hfa
 obtain ⟨ab, cb, rfl, _, _, _⟩ := hfb
 obtain ⟨ao, co, rfl, _, _, _⟩ := hoa
 obtain ⟨ap, cp, rfl, _, _, _⟩ := hob
 simp only at *
 have RA := alloc_keep
 obtain ⟨t, ht⟩ : ∃ t, decide ((⟨fa, na, oa⟩ : GState) = ⟨fb, nb, ob⟩) = t := ⟨_, rfl⟩
 rw [ht]
 have HT := Lib.hid ht
 clear ht
 have hs1 : (w.alloc (.cells #[.slice aa fa.length ca, .int .i64 na, .slice ao oa.length co] 26)).heap.size = w.heap.size + 1 := Array.size_push _
 have q0 := Cx.new w [.slice aa fa.length ca, .int .i64 na, .slice ao oa.length co] 26 (j := 0) rfl
 have q1 := Cx.new w [.slice aa fa.length ca, .int .i64 na, .slice ao oa.length co] 26 (j := 1) rfl
 have q2 := Cx.new w [.slice aa fa.length ca, .int .i64 na, .slice ao oa.length co] 26 (j := 2) rfl
 have r0 := Cx.new (w.alloc (.cells #[.slice aa fa.length ca, .int .i64 na, .slice ao oa.length co] 26)) [.slice ab fb.length cb, .int .i64 nb, .slice ap ob.length cp] 26 (j := 0) rfl
 have r1 := Cx.new (w.alloc (.cells #[.slice aa fa.length ca, .int .i64 na, .slice ao oa.length co] 26)) [.slice ab fb.length cb, .int .i64 nb, .slice ap ob.length cp] 26 (j := 1) rfl
 have r2 := Cx.new (w.alloc (.cells #[.slice aa fa.length ca, .int .i64 na, .slice ao oa.length co] 26)) [.slice ab fb.length cb, .int .i64 nb, .slice ap ob.length cp] 26 (j := 2) rfl
 rw [hs1] at r0 r1 r2
 have hX : Ext (w.alloc (.cells #[.slice aa fa.length ca, .int .i64 na, .slice ao oa.length co] 26)) ((w.alloc (.cells #[.slice aa fa.length ca, .int .i64 na, .slice ao oa.length co] 26)).alloc (.cells #[.slice ab fb.length cb, .int .i64 nb, .slice ap ob.length cp] 26)) := (Ext.refl _).alloc _
 have Q := Lib.hid (⟨q0.ext hX, q1.ext hX, q2.ext hX, r0, r1, r2⟩ : _ ∧ _ ∧ _ ∧ _ ∧ _ ∧ _)
 have HE1 := Lib.hid (((Ext.refl w).alloc (.cells #[.slice aa fa.length ca, .int .i64 na, .slice ao oa.length co] 26)).trans hX)
 clear hs1 q0 q1 q2 r0 r1 r2 hX
 go_enter Tryz.func15, Tryz.ntmps15
 go_upto_region 1 with fail
 generalize (w.alloc (.cells #[.slice aa fa.length ca, .int .i64 na, .slice ao oa.length co] 26)).alloc (.cells #[.slice ab fb.length cb, .int .i64 nb, .slice ap ob.length cp] 26) = w1 at *
 obtain ⟨⟨b0, -⟩, ⟨b1, -⟩, ⟨b2, -⟩, ⟨d0, -⟩, ⟨d1, -⟩, ⟨d2, -⟩⟩ := Q.out
 by_cases h1 : na = nb
 ·have T1 : (na != nb) = false := by rw [bne_eq_false_iff_eq]; exact h1
  by_cases h2 : fa.length = fb.length
  ·have T2 : ((fa.length : Int) != (fb.length : Int)) = false := by rw [bne_eq_false_iff_eq]; omega
   by_cases h3 : oa = ob
   ·have HO3 : Hid (decide (oa = ob) = true) := decide_eq_true h3
    have HRR : Hid (t = decide (fa = fb)) := by unfold Hid; rw [← HT.out]; simp [h1, h3]
    have HLE := Lib.hid h2
    have hle1 := Nat.le_of_eq h2
    have hle2 := Nat.le_of_eq h2.symm
    clear h1 h2 h3 HT
    go_upto_region 3 with (first
     | (go_at_call 28; (with_reducible refine (sameInts_any oa ob _ _ _ _ _ (Ints.stays (Ext.stays HE1.out) HOA.out) (Ints.stays (Ext.stays HE1.out) HOB.out)).mono ?_); rintro e w2 ⟨rfl, hx2⟩; rw [HO3.out]))
    have HE2 := Lib.hid (HE1.out.trans hx2)
    have Q2 := Lib.hid (⟨Q.out.1.ext hx2, Q.out.2.2.2.1.ext hx2⟩ : _ ∧ _)
    clear hx2 b0 b1 b2 d0 d1 d2 HE1 Q T1
    rename World => w2
    go_wp2_with fail
    go_loopw [5] (fun q wr => ∃ k : Nat, k ≤ fa.length ∧ q = .int .i64 k ∧ Ext w2 wr ∧ ∀ i, i < k → fa.getD i default = fb.getD i default) (fun q _ => fa.length - (intOf q).toNat)
    case atStart => exact ⟨0, Nat.zero_le _, rfl, Ext.refl _, fun i hi => absurd hi (Nat.not_lt_zero _)⟩
    case round =>
     obtain ⟨k, hk, rfl, hb, hall⟩ := hrel
     have HB := Lib.hid hb
     have HALL := Lib.hid hall
     obtain ⟨⟨b0, -⟩, ⟨d0, -⟩⟩ := (⟨Q2.out.1.ext hb, Q2.out.2.ext hb⟩ : _ ∧ _)
     clear hb hall
     by_cases hlt : k < fa.length
     ·obtain ⟨bx, ox, ax, cx, rfl, x0, x1, hvx⟩ := (Fibers.stays (Ext.stays (HE2.out.trans HB.out)) HFA.out).at' hlt
      obtain ⟨by_, oy, ay, cy, rfl, y0, y1, hvy⟩ := (Fibers.stays (Ext.stays (HE2.out.trans HB.out)) HFB.out).at' (k := k) (by omega)
      have HNE : Hid (fa.getD k default ≠ fb.getD k default → t = false) := fun h => by rw [HRR.out]; exact decide_eq_false (list_ne h)
      obtain ⟨x, hxe⟩ : ∃ x, fa.getD k default = x := ⟨_, rfl⟩
      obtain ⟨y, hye⟩ : ∃ y, fb.getD k default = y := ⟨_, rfl⟩
      rw [hxe] at x0 x1 hvx HNE
      rw [hye] at y0 y1 hvy HNE
      have HXE := Lib.hid hxe
      have HYE := Lib.hid hye
      have HVX := Lib.hid hvx
      have HVY := Lib.hid hvy
      have hklb : k < fb.length := by omega
      clear hxe hye hvx hvy
      obtain ⟨fx, clx⟩ := x
      obtain ⟨fy, cly⟩ := y
      simp only at *
      go_upto_region 6 with fail
      rename World => wr
      go_cut [6, 7] (fun v6 v7 wx => ∃ b6 b7, v6 = .pointer (some ⟨b6, 0, none⟩) ∧ v7 = .pointer (some ⟨b7, 0, none⟩) ∧ Ext wr wx ∧ wx.cell? ⟨b6, 0, none⟩ = some (.slice ax fx.length cx) ∧ wx.cell? ⟨b6, 1, none⟩ = some (.int .i64 clx) ∧ wx.cell? ⟨b7, 0, none⟩ = some (.slice ay fy.length cy) ∧ wx.cell? ⟨b7, 1, none⟩ = some (.int .i64 cly))
      case first =>
       go_region
       all_goals go_wp2_with fail
       all_goals go_meet
       ·obtain ⟨e, c1, c2⟩ := two_box wr [.slice ax fx.length cx, .int .i64 clx] [.slice ay fy.length cy, .int .i64 cly] 41 41
        exact ⟨_, _, rfl, rfl, e, c1 0 _ rfl, c1 1 _ rfl, c2 0 _ rfl, c2 1 _ rfl⟩
       ·obtain ⟨e, c1, c2⟩ := two_box wr [.slice ay fy.length cy, .int .i64 cly] [.slice ax fx.length cx, .int .i64 clx] 41 41
        exact ⟨_, _, rfl, rfl, e, c2 0 _ rfl, c2 1 _ rfl, c1 0 _ rfl, c1 1 _ rfl⟩
      case rest =>
       obtain ⟨b6, b7, rfl, rfl, hx3, z0, z1, v0, v1⟩ := hcut
       have HE3 := Lib.hid ((HE2.out.trans HB.out).trans hx3)
       have HX3 := Lib.hid hx3
       have Z := Lib.hid (⟨z0, v0⟩ : _ ∧ _)
       clear hx3 b0 d0 x0 x1 y0 y1
       rename World => w3
       have HFX : Hid (Frames w3 S (.slice ax fx.length cx) fx) := by
        obtain ⟨_, e, h, _⟩ := FiberV.stays (Ext.stays HX3.out) HVX.out
        simp only [Value.agg.injEq] at e
        simp at e
        rw [← e] at h
        exact h
       have hfxb : fx.length * 64 ≤ 140737488355328 := by obtain ⟨_, _, _, _, h, _⟩ := HFX.out; exact h.1
       have HFY : Hid (Frames w3 T (.slice ay fy.length cy) fy) := by
        obtain ⟨_, e, h, _⟩ := FiberV.stays (Ext.stays HX3.out) HVY.out
        simp only [Value.agg.injEq] at e
        simp at e
        rw [← e] at h
        exact h
       by_cases h4 : clx = cly
       ·have T4 : (clx != cly) = false := by rw [bne_eq_false_iff_eq]; exact h4
        by_cases h5 : fx.length = fy.length
        ·have T5 : ((fx.length : Int) != (fy.length : Int)) = false := by rw [bne_eq_false_iff_eq]; omega
         have HL5 := Lib.hid h5
         have hf1 := Nat.le_of_eq h5
         have hf2 := Nat.le_of_eq h5.symm
         have HEQ : Hid (fx = fy → fa.getD k default = fb.getD k default) := fun h => by rw [HXE.out, HYE.out, h, h4]
         have HNE2 : Hid (fx ≠ fy → t = false) := fun h => HNE.out (fun e => h (by injection e))
         clear h4 h5
         go_wp2_with fail
         go_loopw [8] (fun q wx => ∃ i : Nat, i ≤ fx.length ∧ q = .int .i64 i ∧ Ext w3 wx ∧ ∀ j, j < i → fx.getD j default = fy.getD j default) (fun q _ => fx.length - (intOf q).toNat)
         case atStart => exact ⟨0, Nat.zero_le _, rfl, Ext.refl _, fun i hi => absurd hi (Nat.not_lt_zero _)⟩
         case round =>
          obtain ⟨i, hi, rfl, hb2, hall2⟩ := hrel
          have HB2 := Lib.hid hb2
          have HALL2 := Lib.hid hall2
          have z0' := Ext.cell hb2 Z.out.1
          have v0' := Ext.cell hb2 Z.out.2
          clear hb2 hall2 z0 z1 v0 v1
          by_cases hlt2 : i < fx.length
          ·obtain ⟨bu, ou, a1, c1, a2, c2, rfl, hfu, hvu⟩ := (Frames.stays (Ext.stays HB2.out) HFX.out).at' hlt2
           obtain ⟨bv, ov, a3, c3, a4, c4, rfl, hfv, hvv⟩ := (Frames.stays (Ext.stays HB2.out) HFY.out).at' (k := i) (by omega)
           have hily : i < fy.length := by omega
           have HNE3 : Hid (fx.getD i default ≠ fy.getD i default → t = false) := fun h => HNE2.out (list_ne h)
           obtain ⟨x, hxe⟩ : ∃ x, fx.getD i default = x := ⟨_, rfl⟩
           obtain ⟨y, hye⟩ : ∃ y, fy.getD i default = y := ⟨_, rfl⟩
           rw [hxe] at hfu hvu HNE3
           rw [hye] at hfv hvv HNE3
           have HXE2 := Lib.hid hxe
           have HYE2 := Lib.hid hye
           clear hxe hye
           obtain ⟨u0, u1, u2, u3⟩ := hfu
           obtain ⟨e0, e1, e2, e3⟩ := hfv
           obtain ⟨xf, xa, xl, xs⟩ := x
           obtain ⟨yf, ya, yl, ys⟩ := y
           simp only at *
           obtain ⟨_, _, eq1, _, _, hil, his⟩ := hvu
           simp only [Value.agg.injEq] at eq1
           simp at eq1
           obtain ⟨rfl, rfl⟩ := eq1
           obtain ⟨_, _, eq1, _, _, hjl, hjs⟩ := hvv
           simp only [Value.agg.injEq] at eq1
           simp at eq1
           obtain ⟨rfl, rfl⟩ := eq1
           have HI := Lib.hid (⟨hil, his, hjl, hjs⟩ : _ ∧ _ ∧ _ ∧ _)
           clear hil his hjl hjs
           go_upto_region 12 with fail
           rename World => wx
           go_cut [9, 10] (fun v9 v10 wz => ∃ b9 b10, v9 = .pointer (some ⟨b9, 0, none⟩) ∧ v10 = .pointer (some ⟨b10, 0, none⟩) ∧ Ext wx wz ∧ wz.cell? ⟨b9, 0, none⟩ = some (.int .i64 xf) ∧ wz.cell? ⟨b9, 1, none⟩ = some (.int .i64 xa) ∧ wz.cell? ⟨b9, 2, none⟩ = some (.slice a1 xl.length c1) ∧ wz.cell? ⟨b9, 3, none⟩ = some (.slice a2 xs.length c2) ∧ wz.cell? ⟨b10, 0, none⟩ = some (.int .i64 yf) ∧ wz.cell? ⟨b10, 1, none⟩ = some (.int .i64 ya) ∧ wz.cell? ⟨b10, 2, none⟩ = some (.slice a3 yl.length c3) ∧ wz.cell? ⟨b10, 3, none⟩ = some (.slice a4 ys.length c4))
           case first =>
            go_region
            all_goals go_wp2_with fail
            all_goals go_meet
            ·obtain ⟨e, c1', c2'⟩ := two_box wx [.int .i64 xf, .int .i64 xa, .slice a1 xl.length c1, .slice a2 xs.length c2] [.int .i64 yf, .int .i64 ya, .slice a3 yl.length c3, .slice a4 ys.length c4] 43 43
             exact ⟨_, _, rfl, rfl, e, c1' 0 _ rfl, c1' 1 _ rfl, c1' 2 _ rfl, c1' 3 _ rfl, c2' 0 _ rfl, c2' 1 _ rfl, c2' 2 _ rfl, c2' 3 _ rfl⟩
            ·obtain ⟨e, c1', c2'⟩ := two_box wx [.int .i64 yf, .int .i64 ya, .slice a3 yl.length c3, .slice a4 ys.length c4] [.int .i64 xf, .int .i64 xa, .slice a1 xl.length c1, .slice a2 xs.length c2] 43 43
             exact ⟨_, _, rfl, rfl, e, c2' 0 _ rfl, c2' 1 _ rfl, c2' 2 _ rfl, c2' 3 _ rfl, c1' 0 _ rfl, c1' 1 _ rfl, c1' 2 _ rfl, c1' 3 _ rfl⟩
           case rest =>
            obtain ⟨b9, b10, rfl, rfl, hx5, g0, g1, g2, g3, h0, h1, h2, h3⟩ := hcut
            have HX5 := Lib.hid hx5
            have HE5 := Lib.hid ((HE3.out.trans HB2.out).trans hx5)
            clear hx5 u0 u1 u2 u3 e0 e1 e2 e3 z0' v0'
            by_cases k1 : xf = yf
            ·have S1 : (xf != yf) = false := by rw [bne_eq_false_iff_eq]; exact k1
             by_cases k2 : xa = ya
             ·have S2 : (xa != ya) = false := by rw [bne_eq_false_iff_eq]; exact k2
              by_cases k3 : xl = yl
              ·have HLO : Hid (decide (xl = yl) = true) := decide_eq_true k3
               by_cases k4 : xs = ys
               ·have HST : Hid (decide (xs = ys) = true) := decide_eq_true k4
                have HKK : Hid (fx.getD i default = fy.getD i default) := by unfold Hid; rw [HXE2.out, HYE2.out]; exact frame_eq k1 k2 k3 k4
                clear k1 k2 k3 k4
                go_wp2_with (first
                 | (go_at_call 28; (with_reducible refine (sameInts_any xl yl _ _ _ _ _ (Ints.stays (Ext.stays HX5.out) HI.out.1) (Ints.stays (Ext.stays HX5.out) HI.out.2.2.1)).mono ?_); rintro e w6 ⟨rfl, hx6⟩; rw [HLO.out]; have g3' := Ext.cell hx6 g3; have h3' := Ext.cell hx6 h3)
                 | (go_at_call 28; (with_reducible refine (sameInts_any xs ys _ _ _ _ _ (Ints.stays (Ext.stays (HX5.out.trans hx6)) HI.out.2.1) (Ints.stays (Ext.stays (HX5.out.trans hx6)) HI.out.2.2.2)).mono ?_); rintro e w7 ⟨rfl, hx7⟩; rw [HST.out]))
                go_roundw
                case rel => exact ⟨i + 1, by omega, by go_num, (HB2.out.trans HX5.out).trans (hx6.trans hx7), fun j hj => by
                 by_cases e : j = i
                 ·rw [e]; exact HKK.out
                 ·exact HALL2.out j (by omega)⟩
                case measure => simp [intOf]; omega
               ·have HST : Hid (decide (xs = ys) = false) := decide_eq_false k4
                have HR4 : Hid (t = false) := HNE3.out (frame_ne (.inr (.inr (.inr k4))))
                clear k1 k2 k3 k4
                go_wp2_with (first
                 | (go_at_call 28; (with_reducible refine (sameInts_any xl yl _ _ _ _ _ (Ints.stays (Ext.stays HX5.out) HI.out.1) (Ints.stays (Ext.stays HX5.out) HI.out.2.2.1)).mono ?_); rintro e w6 ⟨rfl, hx6⟩; rw [HLO.out]; have g3' := Ext.cell hx6 g3; have h3' := Ext.cell hx6 h3)
                 | (go_at_call 28; (with_reducible refine (sameInts_any xs ys _ _ _ _ _ (Ints.stays (Ext.stays (HX5.out.trans hx6)) HI.out.2.1) (Ints.stays (Ext.stays (HX5.out.trans hx6)) HI.out.2.2.2)).mono ?_); rintro e w7 ⟨rfl, hx7⟩; rw [HST.out]))
                go_ret
                exact ⟨by rw [HR4.out]; rfl, HE5.out.trans (hx6.trans hx7)⟩
              ·have HLO : Hid (decide (xl = yl) = false) := decide_eq_false k3
               have HR4 : Hid (t = false) := HNE3.out (frame_ne (.inr (.inr (.inl k3))))
               clear k1 k2 k3
               go_wp2_with (first
                | (go_at_call 28; (with_reducible refine (sameInts_any xl yl _ _ _ _ _ (Ints.stays (Ext.stays HX5.out) HI.out.1) (Ints.stays (Ext.stays HX5.out) HI.out.2.2.1)).mono ?_); rintro e w6 ⟨rfl, hx6⟩; rw [HLO.out]))
               go_ret
               exact ⟨by rw [HR4.out]; rfl, HE5.out.trans hx6⟩
             ·have S2 : (xa != ya) = true := bne_iff_ne.2 k2
              have HR4 : Hid (t = false) := HNE3.out (frame_ne (.inr (.inl k2)))
              clear k1 k2
              go_wp2_with fail
              go_ret
              exact ⟨by rw [HR4.out]; rfl, HE5.out⟩
            ·have S1 : (xf != yf) = true := bne_iff_ne.2 k1
             have HR4 : Hid (t = false) := HNE3.out (frame_ne (.inl k1))
             clear k1
             go_wp2_with fail
             go_ret
             exact ⟨by rw [HR4.out]; rfl, HE5.out⟩
          ·obtain rfl : i = fx.length := by omega
           have HKK : Hid (fa.getD k default = fb.getD k default) := HEQ.out (list_ext HL5.out HALL2.out)
           clear hlt2
           go_wp2_with fail
           go_roundw
           case rel => exact ⟨k + 1, by omega, by go_num, (HB.out.trans HX3.out).trans HB2.out, fun j hj => by
            by_cases e : j = k
            ·rw [e]; exact HKK.out
            ·exact HALL.out j (by omega)⟩
           case measure => simp [intOf]; omega
        ·have T5 : ((fx.length : Int) != (fy.length : Int)) = true := bne_iff_ne.2 (by omega)
         have HR4 : Hid (t = false) := HNE.out (fun e => h5 (by injection e with e _; rw [e]))
         clear h4 h5
         go_wp2_with fail
         go_ret
         exact ⟨by rw [HR4.out]; rfl, HE3.out⟩
       ·have T4 : (clx != cly) = true := bne_iff_ne.2 h4
        have HR4 : Hid (t = false) := HNE.out (fun e => h4 (by injection e))
        clear h4
        go_wp2_with fail
        go_ret
        exact ⟨by rw [HR4.out]; rfl, HE3.out⟩
     ·obtain rfl : k = fa.length := by omega
      have HRR2 : Hid (t = true) := by unfold Hid; rw [HRR.out]; exact decide_eq_true (list_ext HLE.out HALL.out)
      clear hlt
      go_wp2_with fail
      go_ret
      exact ⟨by rw [HRR2.out]; rfl, HE2.out.trans HB.out⟩
   ·have HO3 : Hid (decide (oa = ob) = false) := decide_eq_false h3
    have HRR : Hid (t = false) := by unfold Hid; rw [← HT.out]; simp [h3]
    clear h1 h2 h3 HT
    go_wp2_with (first
     | (go_at_call 28; (with_reducible refine (sameInts_any oa ob _ _ _ _ _ (Ints.stays (Ext.stays HE1.out) HOA.out) (Ints.stays (Ext.stays HE1.out) HOB.out)).mono ?_); rintro e w2 ⟨rfl, hx2⟩; rw [HO3.out]))
    go_ret
    exact ⟨by rw [HRR.out]; rfl, HE1.out.trans hx2⟩
  ·have T2 : ((fa.length : Int) != (fb.length : Int)) = true := bne_iff_ne.2 (by omega)
   have HRR : Hid (t = false) := by
    unfold Hid
    rw [← HT.out]
    refine decide_eq_false fun h => h2 ?_
    injection h with h _ _
    rw [h]
   clear h1 h2 HT
   go_wp2_with fail
   go_ret
   exact ⟨by rw [HRR.out]; rfl, HE1.out⟩
 ·have T1 : (na != nb) = true := bne_iff_ne.2 h1
  have HRR : Hid (t = false) := by unfold Hid; rw [← HT.out]; simp [h1]
  clear h1 HT
  go_wp2_with fail
  go_ret
  exact ⟨by rw [HRR.out]; rfl, HE1.out⟩
end Go.Proofs.YtgahbngbpfilgaaGreat
end
section
set_option maxHeartbeats 4000000
set_option maxRecDepth 100000
namespace Go.Proofs.YtgahbngbpfilgaaGreat
open Go Go.RowKit
def A6 : GState := ⟨[⟨[⟨0, 5, [1], []⟩], -1⟩, ⟨[⟨1, 1, [7], [7]⟩], 0⟩], 1, []⟩
def A7 : GState := ⟨[⟨[⟨0, 5, [1], [7]⟩], -1⟩, ⟨[⟨1, 2, [7], []⟩], -1⟩], 0, []⟩
theorem after6 : afterG 6 = A6 := by decide
theorem after_val (v : Value) (S : Nat → Prop) (n : Int) (w : World) (s : GState) (hv : Funcs w S v countP) (hn : RunFit countP n.toNat (beginG countP)) (hs : afterG n = s) :
  Calls Tryz.prog 26 #[v, .int .i64 n] w fun e w' => (∃ x, e = .returned x ∧ StateO w' w.heap.size x s) ∧ Ext w w' := by
 refine (after_any v S n w hv hn count_right).mono fun e w' h => ?_
 rw [hs] at h
 exact h
structure BoxT (w : World) (b n m : Nat) (k : Int) (s : GState) : Prop where
 ex : ∃ a c d e, Cx w b 0 (.slice a n c) ∧ Cx w b 1 (.int .i64 k) ∧ Cx w b 2 (.slice d m e) ∧ StateV w (fun _ => True) (.agg #[.slice a n c, .int .i64 k, .slice d m e]) s
theorem BoxT.ext {w w' : World} {b n m : Nat} {k : Int} {s : GState} (h : BoxT w b n m k s) (he : Ext w w') : BoxT w' b n m k s := by
 obtain ⟨a, c, d, e, h1, h2, h3, h4⟩ := h.ex
 exact ⟨a, c, d, e, h1.ext he, h2.ext he, h3.ext he, StateV.stays (Ext.stays he) h4⟩
theorem BoxT.new {w : World} {a b : Option Addr} {n c m d : Nat} {k : Int} {s : GState} (h : StateV w (fun _ => True) (.agg #[.slice a n c, .int .i64 k, .slice b m d]) s) (t : TypeId) : BoxT (w.alloc (.cells #[.slice a n c, .int .i64 k, .slice b m d] t)) w.heap.size n m k s :=
 ⟨a, c, b, d, Cx.new w [.slice a n c, .int .i64 k, .slice b m d] _ (j := 0) rfl, Cx.new w [.slice a n c, .int .i64 k, .slice b m d] _ (j := 1) rfl, Cx.new w [.slice a n c, .int .i64 k, .slice b m d] _ (j := 2) rfl, StateV.stays (Ext.stays ((Ext.refl _).alloc _)) h⟩
theorem after_6 (v : Value) (S : Nat → Prop) (w : World) (hv : Funcs w S v countP) : Calls Tryz.prog 26 #[v, .int .i64 6] w fun e w' => (∃ x, e = .returned x ∧ StateO w' w.heap.size x A6) ∧ Ext w w' := after_val v S 6 w A6 hv fit_6 after6
theorem ints_box (w : World) (l : List Int) (n : Nat) (hn : l.length = n) (hI : ∀ x ∈ l, I64 x) (hl : n ≤ 1000) (t : TypeId) (cs : Array Value) (hcs : cs.toList = ints l) : Ints (w.alloc (.cells cs t)) (fun _ => True) (.slice (some ⟨w.heap.size, 0, none⟩) n n) l := by
 subst hn
 have h := RowAt.made w cs t 1 l.length 0 (Nat.zero_le _) (by unfold maxLen; omega) (by have := congrArg List.length hcs; rw [ints_len] at this; simpa using this)
 rw [hcs] at h
 exact Ints.of_row (by rw [flatMap_intF]; exact h) (by omega) hI _ (fun _ _ _ => trivial)
end Go.Proofs.YtgahbngbpfilgaaGreat
end
section
set_option maxHeartbeats 4000000
set_option maxRecDepth 100000
namespace Go.Proofs.YtgahbngbpfilgaaGreat
open Go Go.RowKit
structure RightS (p : List GFunc) (s : GState) (l : List Int) : Prop where
 prog : progErr p = 0
 few : s.fibers.length ≤ 5
 out : s.out.length ≤ 30
 frames : ∀ k, k < s.fibers.length → (s.fibers.getD k default).frames.length ≤ 6
 pos : 0 < s.fibers.length
 callers : Callers s
 line : lineS s = some l
 ends : lineEnd l = true
 done : ¬ (s.now = -1 ∧ 0 < (s.fibers.getD 0 default).frames.length)
 fib : ∀ k, k < s.fibers.length → fibK p s l k = true
theorem stateErr_zero {p : List GFunc} {s : GState} (h : stateErr p s = 0) : ∃ l, RightS p s l := by
 unfold stateErr at h
 by_cases h0 : progErr p = 0
 ·rw [if_neg (fun k => k h0)] at h
  by_cases h1 : 5 < s.fibers.length ∨ 30 < s.out.length
  ·rw [if_pos h1] at h; cases h
  ·rw [if_neg h1] at h
   cases h2 : allK s.fibers.length (framesFew s) with
   | false => rw [h2, if_pos rfl] at h; cases h
   | true =>
    rw [h2, if_neg (by decide)] at h
    by_cases h3 : s.fibers.length = 0
    ·rw [if_pos h3] at h; cases h
    ·rw [if_neg h3] at h
     by_cases h4 : -1 ≤ s.now ∧ s.now ≤ (s.fibers.length : Int) - 1
     ·rw [if_neg (fun k => k h4)] at h
      cases h5 : allK s.fibers.length (callersB s) with
      | false => rw [h5, if_pos rfl] at h; cases h
      | true =>
       rw [h5, if_neg (by decide)] at h
       unfold lineErr at h
       cases h6 : lineS s with
       | none => rw [h6] at h; cases h
       | some l =>
        rw [h6] at h
        simp only at h
        cases h7 : lineEnd l with
        | false => rw [h7, if_pos rfl] at h; cases h
        | true =>
         rw [h7, if_neg (by decide)] at h
         by_cases h8 : s.now = -1 ∧ 0 < (s.fibers.getD 0 default).frames.length
         ·rw [if_pos h8] at h; cases h
         ·rw [if_neg h8] at h
          cases h9 : allK s.fibers.length (fibK p s l) with
          | false => rw [h9, if_pos rfl] at h; cases h
          | true => exact ⟨l, h0, by omega, by omega, fun k hk => of_decide_eq_true (allK_of h2 k hk), by omega, ⟨h4, fun k hk => of_decide_eq_true (allK_of h5 k hk), by omega⟩, h6, h7, h8, allK_of h9⟩
     ·rw [if_pos h4] at h; cases h
 ·rw [if_pos h0] at h; exact absurd h h0
theorem fibK_frames {p : List GFunc} {s : GState} {l : List Int} {k : Nat} (h : fibK p s l k = true) : ∀ hk : 0 < (s.fibers.getD k default).frames.length, 0 ≤ ((s.fibers.getD k default).frames[0]).func ∧ ((s.fibers.getD k default).frames[0]).func < p.length := by
 intro hk
 unfold fibK at h
 rw [Bool.and_eq_true] at h
 have h1 := h.1
 unfold fiberB at h1
 rw [if_neg (by omega), Bool.and_eq_true] at h1
 have h2 := allK_of h1.1 0 hk
 unfold onB at h2
 rw [Bool.and_eq_true] at h2
 have h3 := h2.1
 unfold frameB at h3
 simp only [Bool.and_eq_true, decide_eq_true_eq] at h3
 have e : ∀ (L : List GFrame) (h : 0 < L.length), L.getD 0 default = L[0] := fun L h => by simp [List.getD, List.getElem?_eq_getElem h]
 rw [e _ hk] at h3
 exact h3.1.1.1
structure LineF (s : GState) (l : List Int) : Prop where
 nodup : l.Nodup
 range : ∀ x ∈ l, 0 ≤ x ∧ x < s.fibers.length
 link : ∀ i, i + 1 < l.length → (s.fibers.getD (l.getD i 0).toNat default).caller = l.getD (i + 1) 0
 head : 0 ≤ s.now → 0 < l.length ∧ l.getD 0 0 = s.now
 none : s.now < 0 → l = []
end Go.Proofs.YtgahbngbpfilgaaGreat
end
section
set_option maxHeartbeats 1000000
namespace Go.Proofs.YtgahbngbpfilgaaGreat
open Go Go.RowKit
structure HFacts (p : List GFunc) (C : List GOp) (l : List Int) : Prop where
 len : l.length = C.length
 pos : 0 < C.length
 zero : l.getD 0 0 = 0
 low : ∀ k, k < C.length → l.getD k 0 < 0 → l.getD k 0 = -1
 hi : ∀ k, k < C.length → l.getD k 0 ≤ 8
 thru : ∀ k, (hk : k < C.length) → 0 ≤ l.getD k 0 → takesOf p C[k] ≤ l.getD k 0 ∧ nOf p C[k] (l.getD k 0) ≤ 8 ∧ (C[k].kind = 12 → l.getD k 0 = 1) ∧ ∀ i ∈ nx C[k] k, i < C.length ∧ l.getD i 0 = nOf p C[k] (l.getD k 0)
 from_ : ∀ k, k < C.length → 0 ≤ l.getD k 0 → k ≠ 0 → ∃ j, ∃ hj : j < C.length, 0 ≤ l.getD j 0 ∧ k ∈ nx C[j] j
theorem hfacts {p : List GFunc} {F : GFunc} (hR : RightF p F) {l : List Int} (h : hts p F.code = some l) : HFacts p F.code l := by
 have hF := hts_full hR.jumps h
 refine ⟨hF.len, hF.zero.1, hF.zero.2, fun k hk h0 => by have := hF.low k hk; omega, fun k hk => ?_, fun k hk h0 => ?_, fun k hk h0 hne => ?_⟩
 ·by_cases h0 : 0 ≤ l.getD k 0
  ·rcases (hF.come k hk h0).from with ⟨_, h2⟩ | ⟨j, hh, hc, hj, hin, he⟩
   ·omega
   ·obtain ⟨_, e, h0'⟩ := hF.come_eq hc
    have := (badB_low (hF.thru j hj (by omega)).1).2.1
    rw [he, ← e]
    exact this
  ·omega
 ·obtain ⟨t1, t2⟩ := hF.thru k hk h0
  rw [getD_eq hk] at t1 t2
  obtain ⟨a1, a2, a3⟩ := badB_low t1
  refine ⟨a1, a2, fun h12 => ?_, t2⟩
  have h3 := a3 h12
  have ht : takesOf p F.code[k] = 1 := by unfold takesOf; rw [if_neg (by omega), if_pos (by omega)]
  have hl : leavesOf F.code[k] = 0 := by unfold leavesOf; rw [if_pos (by omega)]
  unfold nOf at h3
  omega
 ·rcases (hF.come k hk h0).from with ⟨h1, _⟩ | ⟨j, hh, hc, hj, hin, _⟩
  ·exact absurd h1 hne
  ·obtain ⟨_, e, h0'⟩ := hF.come_eq hc
   rw [getD_eq hj] at hin
   exact ⟨j, hj, by rw [e]; exact h0', hin⟩
theorem goT {p q : List GFunc} (ht : ∀ x, takesOf p x = takesOf q x) (x : GOp) (h : Int) : nOf p x h = nOf q x h ∧ badB p x h = badB q x h := by
 have : nOf p x h = nOf q x h := by unfold nOf; rw [ht]
 exact ⟨this, by unfold badB; rw [ht, this]⟩
theorem wl_same {p q : List GFunc} (ht : ∀ x, takesOf p x = takesOf q x) (code : List GOp) : ∀ (f : Nat) (out : List Int) (work : List Nat), wl p code f out work = wl q code f out work
 | 0, _, _ => rfl
 | _ + 1, _, [] => rfl
 | f + 1, out, k :: work => by
  unfold wl
  rw [(goT ht _ _).2, (goT ht _ _).1]
  split
  ·rfl
  ·split
   ·rfl
   ·exact wl_same ht code f _ _
theorem hts_same {p q : List GFunc} (ht : ∀ x, takesOf p x = takesOf q x) (code : List GOp) : hts p code = hts q code := by
 unfold hts; rw [wl_same ht]
structure Sim (p q : List GFunc) : Prop where
 len : q.length = p.length
 same : ∀ k, (hp : k < p.length) → (hq : k < q.length) → q[k].args = p[k].args ∧ q[k].locals = p[k].locals
theorem Sim.getD {p q : List GFunc} (h : Sim p q) (k : Nat) : (q.getD k default).args = (p.getD k default).args ∧ (q.getD k default).locals = (p.getD k default).locals := by
 by_cases hk : k < p.length
 ·have hq : k < q.length := by rw [h.len]; exact hk
  simp only [List.getD, List.getElem?_eq_getElem hk, List.getElem?_eq_getElem hq, Option.getD_some]
  exact h.same k hk hq
 ·have hq : ¬ k < q.length := by rw [h.len]; exact hk
  simp [List.getD, List.getElem?_eq_none (by omega : p.length ≤ k), List.getElem?_eq_none (by omega : q.length ≤ k)]
theorem Sim.takes {p q : List GFunc} (h : Sim p q) (x : GOp) : takesOf q x = takesOf p x := by unfold takesOf; rw [(h.getD _).1]
theorem Sim.sized {p q : List GFunc} (h : Sim p q) (k : Nat) : sizedB (q.getD k default) = sizedB (p.getD k default) := by unfold sizedB; rw [(h.getD _).1, (h.getD _).2]
theorem Sim.opsErr {p q : List GFunc} (h : Sim p q) {F G : GFunc} (hl : F.locals = G.locals) (hc : F.code = G.code) : ∀ l : List GOp, opsErr q F l = opsErr p G l
 | [] => rfl
 | x :: l => by
  have : opErr q F x = opErr p G x := by unfold opErr mostOf; rw [hl, hc, h.len, h.sized, (h.getD _).1]
  unfold Proofs.YtgahbngbpfilgaaGreat.opsErr
  rw [this, Sim.opsErr h hl hc l]
theorem Sim.funcErr {p q : List GFunc} (h : Sim p q) {f : Int} (hc : (q.getD f.toNat default).code = (p.getD f.toNat default).code) : funcErr q f = funcErr p f := by
 unfold Proofs.YtgahbngbpfilgaaGreat.funcErr
 rw [h.len, hc, h.sized, h.opsErr (h.getD f.toNat).2 hc]
theorem Sim.heights {p q : List GFunc} (h : Sim p q) {f : Int} (hc : (q.getD f.toNat default).code = (p.getD f.toNat default).code) : hErr q f = hErr p f ∧ hList q f = hList p f := by
 unfold hErr hList
 rw [h.funcErr hc, hc, hts_same (fun x => h.takes x)]
 exact ⟨rfl, rfl⟩
end Go.Proofs.YtgahbngbpfilgaaGreat
end
