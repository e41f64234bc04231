/- Merged texts: contracts and plain facts, one part behind another; each part begins with what it says. -/
import Derived.Test.YtgahbngbpfilgaaGreatGEAD
import Derived.Test.YtgahbngbpfilgaaGreatGEAJ
import Derived.Test.YtgahbngbpfilgaaGreatGEAT
import Derived.Test.YtgahbngbpfilgaaGreatGEAX
import Derived.Test.YtgahbngbpfilgaaGreatGEBE
section
set_option maxHeartbeats 2000000
set_option maxRecDepth 100000
namespace Go.Proofs.YtgahbngbpfilgaaGreat
open Go Go.RowKit
theorem take_eq_of_ne {a b : List Int} {k : Nat} (_ : k < a.length) (_ : k < b.length) (h : a.getD k 0 ≠ b.getD k 0) : a ≠ b := fun e => h (by rw [e])
theorem take_succ_eq {a b : List Int} {k : Nat} (h1 : k < a.length) (h2 : k < b.length) (ht : a.take k = b.take k) (h : a.getD k 0 = b.getD k 0) : a.take (k + 1) = b.take (k + 1) := by
 simp only [List.getD, List.getElem?_eq_getElem h1, List.getElem?_eq_getElem h2, Option.getD_some] at h
 rw [List.take_succ_eq_append_getElem h1, List.take_succ_eq_append_getElem h2, ht, h]
theorem sameInts_any (a b : List Int) (va vb : Value) (S T : Nat → Prop) (w : World) (ha : Ints w S va a) (hb : Ints w T vb b) :
  Calls Tryz.prog 28 #[va, vb] w fun e w' => e = .returned (.bool (decide (a = b))) ∧ Ext w w' := by
 have HA := Lib.hid ha
 have HB := Lib.hid hb
 obtain ⟨pa, ca, rfl, hca, hba, _⟩ := ha
 obtain ⟨pb, cb, rfl, hcb, hbb, _⟩ := hb
 obtain ⟨t, ht⟩ : ∃ t, decide (a = b) = t := ⟨_, rfl⟩
 rw [ht]
 have HT := Lib.hid ht
 clear ht
 go_enter Tryz.func28, Tryz.ntmps28
 by_cases hl : a.length = b.length
 ·have TL : ((a.length : Int) != (b.length : Int)) = false := by rw [bne_eq_false_iff_eq]; omega
  go_wp2_with fail
  go_loopw [5] (fun q wr => ∃ k : Nat, k ≤ a.length ∧ q = .int .i64 k ∧ Ext w wr ∧ a.take k = b.take k) (fun q _ => a.length - (intOf q).toNat)
  case atStart => exact ⟨0, Nat.zero_le _, rfl, Ext.refl _, rfl⟩
  case round =>
   obtain ⟨k, hk, rfl, hb3, htk⟩ := hrel
   have HB3 := Lib.hid hb3
   have HTK := Lib.hid htk
   clear hb3 htk
   by_cases hlt : k < a.length
   ·have hlt' : k < b.length := by omega
    obtain ⟨ba, oa, _, e1, _, _, _, x0, _⟩ := HA.out.get hlt
    obtain ⟨bb, ob, _, e2, _, _, _, y0, _⟩ := HB.out.get hlt'
    simp only [Value.slice.injEq] at e1 e2
    obtain ⟨rfl, -, rfl⟩ := e1
    obtain ⟨rfl, -, rfl⟩ := e2
    rw [Nat.mul_one] at x0 y0
    have x1 := Ext.cell HB3.out x0
    have y1 := Ext.cell HB3.out y0
    have ea : a[k] = a.getD k 0 := by simp [List.getD, List.getElem?_eq_getElem hlt]
    have eb : b[k] = b.getD k 0 := by simp [List.getD, List.getElem?_eq_getElem hlt']
    rw [ea] at x1
    rw [eb] at y1
    clear x0 y0 ea eb
    obtain ⟨u, hu⟩ : ∃ u, a.getD k 0 = u := ⟨_, rfl⟩
    obtain ⟨z, hz⟩ : ∃ z, b.getD k 0 = z := ⟨_, rfl⟩
    rw [hu] at x1
    rw [hz] at y1
    have HU := Lib.hid hu
    have HZ := Lib.hid hz
    clear hu hz
    by_cases hne : u = z
    ·have TN : (u != z) = false := by rw [bne_eq_false_iff_eq]; exact hne
     have HTK2 := Lib.hid (take_succ_eq hlt hlt' HTK.out (by rw [HU.out, HZ.out, hne]))
     clear hne
     go_wp2_with fail
     go_big_quiet (fail)
     go_wp2_with fail
     go_roundw
     case rel => exact ⟨k + 1, by omega, by go_num, HB3.out.drewN _, HTK2.out⟩
     case measure => simp [intOf]; omega
    ·have TN : (u != z) = true := bne_iff_ne.2 hne
     have HF : Hid (t = false) := by
      unfold Hid
      rw [← HT.out]
      exact decide_eq_false (take_eq_of_ne hlt hlt' (by rw [HU.out, HZ.out]; exact hne))
     clear hne
     go_wp2_with fail
     go_big_quiet (fail)
     go_wp2_with fail
     go_ret
     exact ⟨by rw [HF.out]; rfl, HB3.out.drewN _⟩
   ·obtain rfl : k = a.length := by omega
    have HF : Hid (t = true) := by
     unfold Hid
     rw [← HT.out]
     have := HTK.out
     rw [List.take_length, hl, List.take_length] at this
     exact decide_eq_true this
    clear hlt
    go_wp2_with fail
    go_ret
    exact ⟨by rw [HF.out]; rfl, HB3.out⟩
 ·have TL : ((a.length : Int) != (b.length : Int)) = true := bne_iff_ne.2 (by omega)
  have HF : Hid (t = false) := by
   unfold Hid
   rw [← HT.out]
   exact decide_eq_false (fun e => hl (by rw [e]))
  clear hl
  go_wp2_with fail
  go_ret
  exact ⟨by rw [HF.out]; rfl, Ext.refl _⟩
end Go.Proofs.YtgahbngbpfilgaaGreat
end
section
set_option maxHeartbeats 4000000
set_option maxRecDepth 100000
namespace Go.Proofs.YtgahbngbpfilgaaGreat
open Go Go.RowKit
theorem frame_ne {x y : GFrame} (h : x.func ≠ y.func ∨ x.at_ ≠ y.at_ ∨ x.locals ≠ y.locals ∨ x.stack ≠ y.stack) : x ≠ y := by
 rintro rfl
 rcases h with h | h | h | h <;> exact h rfl
theorem frame_eq {x y : GFrame} (h1 : x.func = y.func) (h2 : x.at_ = y.at_) (h3 : x.locals = y.locals) (h4 : x.stack = y.stack) : x = y := by
 cases x; cases y; simp_all
theorem list_ext {α : Type} {a b : List α} {d : α} (hl : a.length = b.length) (h : ∀ i, i < a.length → a.getD i d = b.getD i d) : a = b := by
 refine List.ext_getElem hl fun i h1 h2 => ?_
 have := h i h1
 simpa [List.getD, List.getElem?_eq_getElem h1, List.getElem?_eq_getElem h2] using this
theorem list_ne {α : Type} {a b : List α} {d : α} {i : Nat} (h : a.getD i d ≠ b.getD i d) : a ≠ b := fun e => h (by rw [e])
theorem two_box (wr : World) (cs ds : List Value) (t t' : TypeId) : Ext wr ((wr.alloc (.cells cs.toArray t)).alloc (.cells ds.toArray t')).drew ∧ (∀ j u, cs[j]? = some u → ((wr.alloc (.cells cs.toArray t)).alloc (.cells ds.toArray t')).drew.cell? ⟨wr.heap.size, j, none⟩ = some u) ∧
  (∀ j u, ds[j]? = some u → ((wr.alloc (.cells cs.toArray t)).alloc (.cells ds.toArray t')).drew.cell? ⟨wr.heap.size + 1, j, none⟩ = some u) := by
 refine ⟨(((Ext.refl wr).alloc _).alloc _).drew, fun j u h => ?_, fun j u h => ?_⟩
 ·exact ((Cx.new wr cs t h).ext ((Ext.refl _).alloc (.cells ds.toArray t')).drew).1
 ·have hs : (wr.alloc (.cells cs.toArray t)).heap.size = wr.heap.size + 1 := Array.size_push _
  have := ((Cx.new (wr.alloc (.cells cs.toArray t)) ds t' h).ext (Ext.refl _).drew).1
  rwa [hs] at this
theorem sameStates_any (a b : GState) (va vb : Value) (S T : Nat → Prop) (w : World) (ha : StateV w S va a) (hb : StateV w T vb b) :
  Calls Tryz.prog 15 #[va, vb] w fun e w' => e = .returned (.bool (decide (a = b))) ∧ Ext w w' := by
 obtain ⟨fa, na, oa⟩ := a
 obtain ⟨fb, nb, ob⟩ := b
 obtain ⟨xa, ya, rfl, hfa, _, hoa⟩ := ha
 obtain ⟨xb, yb, rfl, hfb, _, hob⟩ := hb
 have HFA := Lib.hid hfa
 have HFB := Lib.hid hfb
 have HOA := Lib.hid hoa
 have HOB := Lib.hid hob
 obtain ⟨aa, ca, rfl, _, _, _⟩ := hfa
 obtain ⟨ab, cb, rfl, _, _, _⟩ := hfb
 obtain ⟨ao, co, rfl, _, _, _⟩ := hoa
 obtain ⟨ap, cp, rfl, _, _, _⟩ := hob
 simp only at *
 have RA := alloc_keep
 obtain ⟨t, ht⟩ : ∃ t, decide ((⟨fa, na, oa⟩ : GState) = ⟨fb, nb, ob⟩) = t := ⟨_, rfl⟩
 rw [ht]
 have HT := Lib.hid ht
 clear ht
 have hs1 : (w.alloc (.cells #[.slice aa fa.length ca, .int .i64 na, .slice ao oa.length co] 26)).heap.size = w.heap.size + 1 := Array.size_push _
 have q0 := Cx.new w [.slice aa fa.length ca, .int .i64 na, .slice ao oa.length co] 26 (j := 0) rfl
 have q1 := Cx.new w [.slice aa fa.length ca, .int .i64 na, .slice ao oa.length co] 26 (j := 1) rfl
 have q2 := Cx.new w [.slice aa fa.length ca, .int .i64 na, .slice ao oa.length co] 26 (j := 2) rfl
 have r0 := Cx.new (w.alloc (.cells #[.slice aa fa.length ca, .int .i64 na, .slice ao oa.length co] 26)) [.slice ab fb.length cb, .int .i64 nb, .slice ap ob.length cp] 26 (j := 0) rfl
 have r1 := Cx.new (w.alloc (.cells #[.slice aa fa.length ca, .int .i64 na, .slice ao oa.length co] 26)) [.slice ab fb.length cb, .int .i64 nb, .slice ap ob.length cp] 26 (j := 1) rfl
 have r2 := Cx.new (w.alloc (.cells #[.slice aa fa.length ca, .int .i64 na, .slice ao oa.length co] 26)) [.slice ab fb.length cb, .int .i64 nb, .slice ap ob.length cp] 26 (j := 2) rfl
 rw [hs1] at r0 r1 r2
 have hX : Ext (w.alloc (.cells #[.slice aa fa.length ca, .int .i64 na, .slice ao oa.length co] 26)) ((w.alloc (.cells #[.slice aa fa.length ca, .int .i64 na, .slice ao oa.length co] 26)).alloc (.cells #[.slice ab fb.length cb, .int .i64 nb, .slice ap ob.length cp] 26)) := (Ext.refl _).alloc _
 have Q := Lib.hid (⟨q0.ext hX, q1.ext hX, q2.ext hX, r0, r1, r2⟩ : _ ∧ _ ∧ _ ∧ _ ∧ _ ∧ _)
 have HE1 := Lib.hid (((Ext.refl w).alloc (.cells #[.slice aa fa.length ca, .int .i64 na, .slice ao oa.length co] 26)).trans hX)
 clear hs1 q0 q1 q2 r0 r1 r2 hX
 go_enter Tryz.func15, Tryz.ntmps15
 go_upto_region 1 with fail
 generalize (w.alloc (.cells #[.slice aa fa.length ca, .int .i64 na, .slice ao oa.length co] 26)).alloc (.cells #[.slice ab fb.length cb, .int .i64 nb, .slice ap ob.length cp] 26) = w1 at *
 obtain ⟨⟨b0, -⟩, ⟨b1, -⟩, ⟨b2, -⟩, ⟨d0, -⟩, ⟨d1, -⟩, ⟨d2, -⟩⟩ := Q.out
 by_cases h1 : na = nb
 ·have T1 : (na != nb) = false := by rw [bne_eq_false_iff_eq]; exact h1
  by_cases h2 : fa.length = fb.length
  ·have T2 : ((fa.length : Int) != (fb.length : Int)) = false := by rw [bne_eq_false_iff_eq]; omega
   by_cases h3 : oa = ob
   ·have HO3 : Hid (decide (oa = ob) = true) := decide_eq_true h3
    have HRR : Hid (t = decide (fa = fb)) := by unfold Hid; rw [← HT.out]; simp [h1, h3]
    have HLE := Lib.hid h2
    have hle1 := Nat.le_of_eq h2
    have hle2 := Nat.le_of_eq h2.symm
    clear h1 h2 h3 HT
    go_upto_region 3 with (first
     | (go_at_call 28; (with_reducible refine (sameInts_any oa ob _ _ _ _ _ (Ints.stays (Ext.stays HE1.out) HOA.out) (Ints.stays (Ext.stays HE1.out) HOB.out)).mono ?_); rintro e w2 ⟨rfl, hx2⟩; rw [HO3.out]))
    have HE2 := Lib.hid (HE1.out.trans hx2)
    have Q2 := Lib.hid (⟨Q.out.1.ext hx2, Q.out.2.2.2.1.ext hx2⟩ : _ ∧ _)
    clear hx2 b0 b1 b2 d0 d1 d2 HE1 Q T1
    rename World => w2
    go_wp2_with fail
    go_loopw [5] (fun q wr => ∃ k : Nat, k ≤ fa.length ∧ q = .int .i64 k ∧ Ext w2 wr ∧ ∀ i, i < k → fa.getD i default = fb.getD i default) (fun q _ => fa.length - (intOf q).toNat)
    case atStart => exact ⟨0, Nat.zero_le _, rfl, Ext.refl _, fun i hi => absurd hi (Nat.not_lt_zero _)⟩
    case round =>
     obtain ⟨k, hk, rfl, hb, hall⟩ := hrel
     have HB := Lib.hid hb
     have HALL := Lib.hid hall
     obtain ⟨⟨b0, -⟩, ⟨d0, -⟩⟩ := (⟨Q2.out.1.ext hb, Q2.out.2.ext hb⟩ : _ ∧ _)
     clear hb hall
     by_cases hlt : k < fa.length
     ·obtain ⟨bx, ox, ax, cx, rfl, x0, x1, hvx⟩ := (Fibers.stays (Ext.stays (HE2.out.trans HB.out)) HFA.out).at' hlt
      obtain ⟨by_, oy, ay, cy, rfl, y0, y1, hvy⟩ := (Fibers.stays (Ext.stays (HE2.out.trans HB.out)) HFB.out).at' (k := k) (by omega)
      have HNE : Hid (fa.getD k default ≠ fb.getD k default → t = false) := fun h => by rw [HRR.out]; exact decide_eq_false (list_ne h)
      obtain ⟨x, hxe⟩ : ∃ x, fa.getD k default = x := ⟨_, rfl⟩
      obtain ⟨y, hye⟩ : ∃ y, fb.getD k default = y := ⟨_, rfl⟩
      rw [hxe] at x0 x1 hvx HNE
      rw [hye] at y0 y1 hvy HNE
      have HXE := Lib.hid hxe
      have HYE := Lib.hid hye
      have HVX := Lib.hid hvx
      have HVY := Lib.hid hvy
      have hklb : k < fb.length := by omega
      clear hxe hye hvx hvy
      obtain ⟨fx, clx⟩ := x
      obtain ⟨fy, cly⟩ := y
      simp only at *
      go_upto_region 6 with fail
      rename World => wr
      go_cut [6, 7] (fun v6 v7 wx => ∃ b6 b7, v6 = .pointer (some ⟨b6, 0, none⟩) ∧ v7 = .pointer (some ⟨b7, 0, none⟩) ∧ Ext wr wx ∧ wx.cell? ⟨b6, 0, none⟩ = some (.slice ax fx.length cx) ∧ wx.cell? ⟨b6, 1, none⟩ = some (.int .i64 clx) ∧ wx.cell? ⟨b7, 0, none⟩ = some (.slice ay fy.length cy) ∧ wx.cell? ⟨b7, 1, none⟩ = some (.int .i64 cly))
      case first =>
       go_region
       all_goals go_wp2_with fail
       all_goals go_meet
       ·obtain ⟨e, c1, c2⟩ := two_box wr [.slice ax fx.length cx, .int .i64 clx] [.slice ay fy.length cy, .int .i64 cly] 41 41
        exact ⟨_, _, rfl, rfl, e, c1 0 _ rfl, c1 1 _ rfl, c2 0 _ rfl, c2 1 _ rfl⟩
       ·obtain ⟨e, c1, c2⟩ := two_box wr [.slice ay fy.length cy, .int .i64 cly] [.slice ax fx.length cx, .int .i64 clx] 41 41
        exact ⟨_, _, rfl, rfl, e, c2 0 _ rfl, c2 1 _ rfl, c1 0 _ rfl, c1 1 _ rfl⟩
      case rest =>
       obtain ⟨b6, b7, rfl, rfl, hx3, z0, z1, v0, v1⟩ := hcut
       have HE3 := Lib.hid ((HE2.out.trans HB.out).trans hx3)
       have HX3 := Lib.hid hx3
       have Z := Lib.hid (⟨z0, v0⟩ : _ ∧ _)
       clear hx3 b0 d0 x0 x1 y0 y1
       rename World => w3
       have HFX : Hid (Frames w3 S (.slice ax fx.length cx) fx) := by
        obtain ⟨_, e, h, _⟩ := FiberV.stays (Ext.stays HX3.out) HVX.out
        simp only [Value.agg.injEq] at e
        simp at e
        rw [← e] at h
        exact h
       have hfxb : fx.length * 64 ≤ 140737488355328 := by obtain ⟨_, _, _, _, h, _⟩ := HFX.out; exact h.1
       have HFY : Hid (Frames w3 T (.slice ay fy.length cy) fy) := by
        obtain ⟨_, e, h, _⟩ := FiberV.stays (Ext.stays HX3.out) HVY.out
        simp only [Value.agg.injEq] at e
        simp at e
        rw [← e] at h
        exact h
       by_cases h4 : clx = cly
       ·have T4 : (clx != cly) = false := by rw [bne_eq_false_iff_eq]; exact h4
        by_cases h5 : fx.length = fy.length
        ·have T5 : ((fx.length : Int) != (fy.length : Int)) = false := by rw [bne_eq_false_iff_eq]; omega
         have HL5 := Lib.hid h5
         have hf1 := Nat.le_of_eq h5
         have hf2 := Nat.le_of_eq h5.symm
         have HEQ : Hid (fx = fy → fa.getD k default = fb.getD k default) := fun h => by rw [HXE.out, HYE.out, h, h4]
         have HNE2 : Hid (fx ≠ fy → t = false) := fun h => HNE.out (fun e => h (by injection e))
         clear h4 h5
         go_wp2_with fail
         go_loopw [8] (fun q wx => ∃ i : Nat, i ≤ fx.length ∧ q = .int .i64 i ∧ Ext w3 wx ∧ ∀ j, j < i → fx.getD j default = fy.getD j default) (fun q _ => fx.length - (intOf q).toNat)
         case atStart => exact ⟨0, Nat.zero_le _, rfl, Ext.refl _, fun i hi => absurd hi (Nat.not_lt_zero _)⟩
         case round =>
          obtain ⟨i, hi, rfl, hb2, hall2⟩ := hrel
          have HB2 := Lib.hid hb2
          have HALL2 := Lib.hid hall2
          have z0' := Ext.cell hb2 Z.out.1
          have v0' := Ext.cell hb2 Z.out.2
          clear hb2 hall2 z0 z1 v0 v1
          by_cases hlt2 : i < fx.length
          ·obtain ⟨bu, ou, a1, c1, a2, c2, rfl, hfu, hvu⟩ := (Frames.stays (Ext.stays HB2.out) HFX.out).at' hlt2
           obtain ⟨bv, ov, a3, c3, a4, c4, rfl, hfv, hvv⟩ := (Frames.stays (Ext.stays HB2.out) HFY.out).at' (k := i) (by omega)
           have hily : i < fy.length := by omega
           have HNE3 : Hid (fx.getD i default ≠ fy.getD i default → t = false) := fun h => HNE2.out (list_ne h)
           obtain ⟨x, hxe⟩ : ∃ x, fx.getD i default = x := ⟨_, rfl⟩
           obtain ⟨y, hye⟩ : ∃ y, fy.getD i default = y := ⟨_, rfl⟩
           rw [hxe] at hfu hvu HNE3
           rw [hye] at hfv hvv HNE3
           have HXE2 := Lib.hid hxe
           have HYE2 := Lib.hid hye
           clear hxe hye
           obtain ⟨u0, u1, u2, u3⟩ := hfu
           obtain ⟨e0, e1, e2, e3⟩ := hfv
           obtain ⟨xf, xa, xl, xs⟩ := x
           obtain ⟨yf, ya, yl, ys⟩ := y
           simp only at *
           obtain ⟨_, _, eq1, _, _, hil, his⟩ := hvu
           simp only [Value.agg.injEq] at eq1
           simp at eq1
           obtain ⟨rfl, rfl⟩ := eq1
           obtain ⟨_, _, eq1, _, _, hjl, hjs⟩ := hvv
           simp only [Value.agg.injEq] at eq1
           simp at eq1
           obtain ⟨rfl, rfl⟩ := eq1
           have HI := Lib.hid (⟨hil, his, hjl, hjs⟩ : _ ∧ _ ∧ _ ∧ _)
           clear hil his hjl hjs
           go_upto_region 12 with fail
           rename World => wx
           go_cut [9, 10] (fun v9 v10 wz => ∃ b9 b10, v9 = .pointer (some ⟨b9, 0, none⟩) ∧ v10 = .pointer (some ⟨b10, 0, none⟩) ∧ Ext wx wz ∧ wz.cell? ⟨b9, 0, none⟩ = some (.int .i64 xf) ∧ wz.cell? ⟨b9, 1, none⟩ = some (.int .i64 xa) ∧ wz.cell? ⟨b9, 2, none⟩ = some (.slice a1 xl.length c1) ∧ wz.cell? ⟨b9, 3, none⟩ = some (.slice a2 xs.length c2) ∧ wz.cell? ⟨b10, 0, none⟩ = some (.int .i64 yf) ∧ wz.cell? ⟨b10, 1, none⟩ = some (.int .i64 ya) ∧ wz.cell? ⟨b10, 2, none⟩ = some (.slice a3 yl.length c3) ∧ wz.cell? ⟨b10, 3, none⟩ = some (.slice a4 ys.length c4))
           case first =>
            go_region
            all_goals go_wp2_with fail
            all_goals go_meet
            ·obtain ⟨e, c1', c2'⟩ := two_box wx [.int .i64 xf, .int .i64 xa, .slice a1 xl.length c1, .slice a2 xs.length c2] [.int .i64 yf, .int .i64 ya, .slice a3 yl.length c3, .slice a4 ys.length c4] 43 43
             exact ⟨_, _, rfl, rfl, e, c1' 0 _ rfl, c1' 1 _ rfl, c1' 2 _ rfl, c1' 3 _ rfl, c2' 0 _ rfl, c2' 1 _ rfl, c2' 2 _ rfl, c2' 3 _ rfl⟩
            ·obtain ⟨e, c1', c2'⟩ := two_box wx [.int .i64 yf, .int .i64 ya, .slice a3 yl.length c3, .slice a4 ys.length c4] [.int .i64 xf, .int .i64 xa, .slice a1 xl.length c1, .slice a2 xs.length c2] 43 43
             exact ⟨_, _, rfl, rfl, e, c2' 0 _ rfl, c2' 1 _ rfl, c2' 2 _ rfl, c2' 3 _ rfl, c1' 0 _ rfl, c1' 1 _ rfl, c1' 2 _ rfl, c1' 3 _ rfl⟩
           case rest =>
            obtain ⟨b9, b10, rfl, rfl, hx5, g0, g1, g2, g3, h0, h1, h2, h3⟩ := hcut
            have HX5 := Lib.hid hx5
            have HE5 := Lib.hid ((HE3.out.trans HB2.out).trans hx5)
            clear hx5 u0 u1 u2 u3 e0 e1 e2 e3 z0' v0'
            by_cases k1 : xf = yf
            ·have S1 : (xf != yf) = false := by rw [bne_eq_false_iff_eq]; exact k1
             by_cases k2 : xa = ya
             ·have S2 : (xa != ya) = false := by rw [bne_eq_false_iff_eq]; exact k2
              by_cases k3 : xl = yl
              ·have HLO : Hid (decide (xl = yl) = true) := decide_eq_true k3
               by_cases k4 : xs = ys
               ·have HST : Hid (decide (xs = ys) = true) := decide_eq_true k4
                have HKK : Hid (fx.getD i default = fy.getD i default) := by unfold Hid; rw [HXE2.out, HYE2.out]; exact frame_eq k1 k2 k3 k4
                clear k1 k2 k3 k4
                go_wp2_with (first
                 | (go_at_call 28; (with_reducible refine (sameInts_any xl yl _ _ _ _ _ (Ints.stays (Ext.stays HX5.out) HI.out.1) (Ints.stays (Ext.stays HX5.out) HI.out.2.2.1)).mono ?_); rintro e w6 ⟨rfl, hx6⟩; rw [HLO.out]; have g3' := Ext.cell hx6 g3; have h3' := Ext.cell hx6 h3)
                 | (go_at_call 28; (with_reducible refine (sameInts_any xs ys _ _ _ _ _ (Ints.stays (Ext.stays (HX5.out.trans hx6)) HI.out.2.1) (Ints.stays (Ext.stays (HX5.out.trans hx6)) HI.out.2.2.2)).mono ?_); rintro e w7 ⟨rfl, hx7⟩; rw [HST.out]))
                go_roundw
                case rel => exact ⟨i + 1, by omega, by go_num, (HB2.out.trans HX5.out).trans (hx6.trans hx7), fun j hj => by
                 by_cases e : j = i
                 ·rw [e]; exact HKK.out
                 ·exact HALL2.out j (by omega)⟩
                case measure => simp [intOf]; omega
               ·have HST : Hid (decide (xs = ys) = false) := decide_eq_false k4
                have HR4 : Hid (t = false) := HNE3.out (frame_ne (.inr (.inr (.inr k4))))
                clear k1 k2 k3 k4
                go_wp2_with (first
                 | (go_at_call 28; (with_reducible refine (sameInts_any xl yl _ _ _ _ _ (Ints.stays (Ext.stays HX5.out) HI.out.1) (Ints.stays (Ext.stays HX5.out) HI.out.2.2.1)).mono ?_); rintro e w6 ⟨rfl, hx6⟩; rw [HLO.out]; have g3' := Ext.cell hx6 g3; have h3' := Ext.cell hx6 h3)
                 | (go_at_call 28; (with_reducible refine (sameInts_any xs ys _ _ _ _ _ (Ints.stays (Ext.stays (HX5.out.trans hx6)) HI.out.2.1) (Ints.stays (Ext.stays (HX5.out.trans hx6)) HI.out.2.2.2)).mono ?_); rintro e w7 ⟨rfl, hx7⟩; rw [HST.out]))
                go_ret
                exact ⟨by rw [HR4.out]; rfl, HE5.out.trans (hx6.trans hx7)⟩
              ·have HLO : Hid (decide (xl = yl) = false) := decide_eq_false k3
               have HR4 : Hid (t = false) := HNE3.out (frame_ne (.inr (.inr (.inl k3))))
               clear k1 k2 k3
               go_wp2_with (first
                | (go_at_call 28; (with_reducible refine (sameInts_any xl yl _ _ _ _ _ (Ints.stays (Ext.stays HX5.out) HI.out.1) (Ints.stays (Ext.stays HX5.out) HI.out.2.2.1)).mono ?_); rintro e w6 ⟨rfl, hx6⟩; rw [HLO.out]))
               go_ret
               exact ⟨by rw [HR4.out]; rfl, HE5.out.trans hx6⟩
             ·have S2 : (xa != ya) = true := bne_iff_ne.2 k2
              have HR4 : Hid (t = false) := HNE3.out (frame_ne (.inr (.inl k2)))
              clear k1 k2
              go_wp2_with fail
              go_ret
              exact ⟨by rw [HR4.out]; rfl, HE5.out⟩
            ·have S1 : (xf != yf) = true := bne_iff_ne.2 k1
             have HR4 : Hid (t = false) := HNE3.out (frame_ne (.inl k1))
             clear k1
             go_wp2_with fail
             go_ret
             exact ⟨by rw [HR4.out]; rfl, HE5.out⟩
          ·obtain rfl : i = fx.length := by omega
           have HKK : Hid (fa.getD k default = fb.getD k default) := HEQ.out (list_ext HL5.out HALL2.out)
           clear hlt2
           go_wp2_with fail
           go_roundw
           case rel => exact ⟨k + 1, by omega, by go_num, (HB.out.trans HX3.out).trans HB2.out, fun j hj => by
            by_cases e : j = k
            ·rw [e]; exact HKK.out
            ·exact HALL.out j (by omega)⟩
           case measure => simp [intOf]; omega
        ·have T5 : ((fx.length : Int) != (fy.length : Int)) = true := bne_iff_ne.2 (by omega)
         have HR4 : Hid (t = false) := HNE.out (fun e => h5 (by injection e with e _; rw [e]))
         clear h4 h5
         go_wp2_with fail
         go_ret
         exact ⟨by rw [HR4.out]; rfl, HE3.out⟩
       ·have T4 : (clx != cly) = true := bne_iff_ne.2 h4
        have HR4 : Hid (t = false) := HNE.out (fun e => h4 (by injection e))
        clear h4
        go_wp2_with fail
        go_ret
        exact ⟨by rw [HR4.out]; rfl, HE3.out⟩
     ·obtain rfl : k = fa.length := by omega
      have HRR2 : Hid (t = true) := by unfold Hid; rw [HRR.out]; exact decide_eq_true (list_ext HLE.out HALL.out)
      clear hlt
      go_wp2_with fail
      go_ret
      exact ⟨by rw [HRR2.out]; rfl, HE2.out.trans HB.out⟩
   ·have HO3 : Hid (decide (oa = ob) = false) := decide_eq_false h3
    have HRR : Hid (t = false) := by unfold Hid; rw [← HT.out]; simp [h3]
    clear h1 h2 h3 HT
    go_wp2_with (first
     | (go_at_call 28; (with_reducible refine (sameInts_any oa ob _ _ _ _ _ (Ints.stays (Ext.stays HE1.out) HOA.out) (Ints.stays (Ext.stays HE1.out) HOB.out)).mono ?_); rintro e w2 ⟨rfl, hx2⟩; rw [HO3.out]))
    go_ret
    exact ⟨by rw [HRR.out]; rfl, HE1.out.trans hx2⟩
  ·have T2 : ((fa.length : Int) != (fb.length : Int)) = true := bne_iff_ne.2 (by omega)
   have HRR : Hid (t = false) := by
    unfold Hid
    rw [← HT.out]
    refine decide_eq_false fun h => h2 ?_
    injection h with h _ _
    rw [h]
   clear h1 h2 HT
   go_wp2_with fail
   go_ret
   exact ⟨by rw [HRR.out]; rfl, HE1.out⟩
 ·have T1 : (na != nb) = true := bne_iff_ne.2 h1
  have HRR : Hid (t = false) := by unfold Hid; rw [← HT.out]; simp [h1]
  clear h1 HT
  go_wp2_with fail
  go_ret
  exact ⟨by rw [HRR.out]; rfl, HE1.out⟩
end Go.Proofs.YtgahbngbpfilgaaGreat
end
section
set_option maxHeartbeats 4000000
set_option maxRecDepth 100000
namespace Go.Proofs.YtgahbngbpfilgaaGreat
open Go Go.RowKit
def A6 : GState := ⟨[⟨[⟨0, 5, [1], []⟩], -1⟩, ⟨[⟨1, 1, [7], [7]⟩], 0⟩], 1, []⟩
theorem after6 : afterG 6 = A6 := by decide
theorem err6 : stateErr countP A6 = 0 := by decide
theorem errN : stateErr countP ⟨[], 0, []⟩ = 5 := by decide
theorem after_val (v : Value) (S : Nat → Prop) (n : Int) (w : World) (s : GState) (hv : Funcs w S v countP) (hn : RunFit countP n.toNat (beginG countP)) (hs : afterG n = s) :
  Calls Tryz.prog 26 #[v, .int .i64 n] w fun e w' => (∃ x, e = .returned x ∧ StateO w' w.heap.size x s) ∧ Ext w w' := by
 refine (after_any v S n w hv hn count_right).mono fun e w' h => ?_
 rw [hs] at h
 exact h
structure BoxT (w : World) (b n m : Nat) (k : Int) (s : GState) : Prop where
 ex : ∃ a c d e, Cx w b 0 (.slice a n c) ∧ Cx w b 1 (.int .i64 k) ∧ Cx w b 2 (.slice d m e) ∧ StateV w (fun _ => True) (.agg #[.slice a n c, .int .i64 k, .slice d m e]) s
theorem BoxT.ext {w w' : World} {b n m : Nat} {k : Int} {s : GState} (h : BoxT w b n m k s) (he : Ext w w') : BoxT w' b n m k s := by
 obtain ⟨a, c, d, e, h1, h2, h3, h4⟩ := h.ex
 exact ⟨a, c, d, e, h1.ext he, h2.ext he, h3.ext he, StateV.stays (Ext.stays he) h4⟩
theorem BoxT.new {w : World} {a b : Option Addr} {n c m d : Nat} {k : Int} {s : GState} (h : StateV w (fun _ => True) (.agg #[.slice a n c, .int .i64 k, .slice b m d]) s) (t : TypeId) : BoxT (w.alloc (.cells #[.slice a n c, .int .i64 k, .slice b m d] t)) w.heap.size n m k s :=
 ⟨a, c, b, d, Cx.new w [.slice a n c, .int .i64 k, .slice b m d] _ (j := 0) rfl, Cx.new w [.slice a n c, .int .i64 k, .slice b m d] _ (j := 1) rfl, Cx.new w [.slice a n c, .int .i64 k, .slice b m d] _ (j := 2) rfl, StateV.stays (Ext.stays ((Ext.refl _).alloc _)) h⟩
theorem after_6 (v : Value) (S : Nat → Prop) (w : World) (hv : Funcs w S v countP) : Calls Tryz.prog 26 #[v, .int .i64 6] w fun e w' => (∃ x, e = .returned x ∧ StateO w' w.heap.size x A6) ∧ Ext w w' := after_val v S 6 w A6 hv fit_6 after6
end Go.Proofs.YtgahbngbpfilgaaGreat
end
section
set_option maxHeartbeats 4000000
set_option maxRecDepth 100000
namespace Go.Proofs.YtgahbngbpfilgaaGreat
open Go Go.RowKit
theorem write_val (p : List GFunc) (v : Value) (S T : Nat → Prop) (s : GState) (vs : Value) (w : World) (hp : Funcs w S v p) (hs : StateV w T vs s) {bs : List UInt8} {r : Int} (hb : writeS p s = bs) (hr : stateErr p s = r) :
  Calls Tryz.prog 17 #[v, vs] w fun e w' => e = .returned (.tuple #[.string ⟨bs.toArray⟩, .int .i64 r]) ∧ Ext w w' := by
 have h := saveWrite_any p v S T s vs w hp hs mini_of
 rw [hb, hr] at h
 exact h
theorem read_val (p : List GFunc) (v : Value) (S : Nat → Prop) (b : List UInt8) (w : World) (hp : Funcs w S v p) {r k : Int} {n m : Nat} {s : GState} (hr : readS p b = (r, s)) (hn : s.fibers.length = n) (hm : s.out.length = m) (hk : s.now = k) :
  Calls Tryz.prog 19 #[v, .string ⟨b.toArray⟩] w fun e w' => (∃ a c b d, e = .returned (.tuple #[.agg #[.slice a n c, .int .i64 k, .slice b m d], .int .i64 r]) ∧ StateV w' (w.heap.size ≤ ·) (.agg #[.slice a n c, .int .i64 k, .slice b m d]) s) ∧ Ext w w' := by
 refine (saveRead_any p v S b w hp).mono fun e w' ⟨⟨x, he, hx⟩, hb⟩ => ⟨?_, hb⟩
 rw [hr] at he hx
 obtain ⟨a, c, b, d, rfl⟩ := hx.few
 subst hn hm hk
 exact ⟨a, c, b, d, he, hx⟩
theorem readS_more {p : List GFunc} {s : GState} {c : UInt8} {r : List UInt8} (h : stateErr p s = 0) (hI : I64S s) (hb : (stateL s ++ c :: r).length ≤ 8192) : readS p (stateL s ++ c :: r) = (1, ⟨[], 0, []⟩) := by
 obtain ⟨l, hl⟩ := stateErr_zero h
 unfold readS
 rw [if_neg (fun k => k hl.prog), if_neg (by omega), back_more h hI (c :: r)]
 simp only
 exact if_neg (fun h => by cases h.1)
theorem i64A6 : I64S A6 := by
 have i64 : ∀ n : Int, -5 ≤ n → n ≤ 10 → I64 n := fun n a b => I64.small (by omega) (by omega)
 refine ⟨i64 1 (by decide) (by decide), by simp [A6], fun f hf x hx => ?_⟩
 simp [A6] at hf
 rcases hf with rfl | rfl <;> simp at hx <;> subst hx <;> simp <;> exact i64 _ (by decide) (by decide)
theorem len39 : (stateL A6).length = 39 := by decide
theorem writeA6 : writeS countP A6 = stateL A6 := by unfold writeS; rw [if_pos err6]
theorem writeN : writeS countP ⟨[], 0, []⟩ = [] := by unfold writeS; rw [if_neg (by rw [errN]; decide)]
theorem same_val (s : GState) (x y : Value) (S T : Nat → Prop) (w : World) (hx : StateV w S x s) (hy : StateV w T y s) : Calls Tryz.prog 15 #[x, y] w fun e w' => e = .returned (.bool true) ∧ Ext w w' := by
 refine (sameStates_any s s x y S T w hx hy).mono ?_
 rintro e w' ⟨rfl, hb⟩
 rw [show decide (s = s) = true by simp]
 exact ⟨rfl, hb⟩
theorem saveBegun_any (w : World) : Calls Tryz.prog 18 #[] w fun e w' => e = .returned (.bool true) ∧ Ext w w' := by
 obtain ⟨bs, hbs⟩ : ∃ bs, stateL A6 = bs := ⟨_, rfl⟩
 have l39 := len39
 have W6 := Lib.hid writeA6
 have R6 := Lib.hid (readS_back err6 i64A6 (by rw [len39]; decide))
 have R7 := Lib.hid (readS_more (c := 120) (r := []) err6 i64A6 (by rw [List.length_append, len39]; decide))
 rw [hbs] at l39 W6 R6 R7
 have L39 : (bs.length : Int) = 39 := by omega
 clear hbs
 go_enter Tryz.func18, Tryz.ntmps18
 go_upto_region 2 with (first
  | (go_at_call 25; have _z := hfA.out; refine (count_any _).mono ?_; rintro e w2 ⟨⟨v2, rfl, hv2⟩, hb2⟩; have hfB := hv2.funcs)
  | (go_at_call 25; refine (count_any _).mono ?_; rintro e w1 ⟨⟨v1, rfl, hv1⟩, hb1⟩; have hfA := Lib.hid hv1.funcs)
  | (go_at_call 26; (with_reducible refine (after_6 _ _ _ hfB).mono ?_); rintro e w3 ⟨⟨x, rfl, hx⟩, hb3⟩; have hxs := hx.state)
  | (go_at_call 17; (with_reducible refine (write_val countP _ _ _ A6 _ _ (Funcs.stays (Ext.stays (hb2.trans hb3)) hfA.out) hxs W6.out err6).mono ?_); rintro e w4 ⟨rfl, hb4⟩))
 have e1 : Ext w w4 := ((hb1.trans hb2).trans hb3).trans hb4
 have E := Lib.hid e1
 clear hfA hfB hv1 hv2 hb1 hb2 hb3 hb4 hx hxs e1
 rename World => u0
 go_upto_region 3 with (first
  | (go_at_call 25; refine (count_any _).mono ?_; rintro e w1 ⟨⟨v1, rfl, hv1⟩, hb1⟩; have hfA := Lib.hid hv1.funcs)
  | (go_at_call 19; (with_reducible refine (read_val countP _ _ bs _ hfA.out R6.out (n := 2) (m := 0) (k := 1) rfl rfl rfl).mono ?_); rintro e w2 ⟨⟨aA, cA, bA, dA, rfl, hA⟩, hb2⟩))
 have e1 : Ext u0 (w2.alloc (.cells #[.slice aA 2 cA, .int .i64 1, .slice bA 0 dA] 26)) := (hb1.trans hb2).alloc _
 have BX := Lib.hid (BoxT.new (StateV.stays (T := fun _ => True) (Stays.widen (fun _ _ => trivial)) hA) 26)
 have E := Lib.hid (E.out.trans e1)
 clear hfA hv1 hb1 hb2 hA e1
 generalize w2.heap.size = sx at *
 generalize w2.alloc (.cells #[.slice aA 2 cA, .int .i64 1, .slice bA 0 dA] 26) = u1 at *
 rename World => u1
 have hcat : (⟨bs.toArray⟩ : ByteArray) ++ (⟨#[120]⟩ : ByteArray) = ⟨(bs ++ [120]).toArray⟩ := by
  apply ByteArray.ext
  simp [ByteArray.data_append]
 go_upto_region 4 with (first
  | (go_at_call 25; refine (count_any _).mono ?_; rintro e w1 ⟨⟨v1, rfl, hv1⟩, hb1⟩; have hfA := Lib.hid hv1.funcs)
  | (go_at_call 19; go_loud ((with_reducible refine (read_val countP _ _ (bs ++ [120]) _ hfA.out R7.out (n := 0) (m := 0) (k := 0) rfl rfl rfl).mono ?_); rintro e w2 ⟨⟨aB, cB, bB, dB, rfl, hB⟩, hb2⟩)))
 have e1 : Ext u1 (w2.alloc (.cells #[.slice aB 0 cB, .int .i64 0, .slice bB 0 dB] 26)) := (hb1.trans hb2).alloc _
 have BX := Lib.hid (BX.out.ext e1)
 have E := Lib.hid (E.out.trans e1)
 clear hfA hv1 hb1 hb2 hB e1
 generalize w2.heap.size = sx2 at *
 generalize w2.alloc (.cells #[.slice aB 0 cB, .int .i64 0, .slice bB 0 dB] 26) = u2 at *
 rename World => u2
 go_upto_region 5 with (first
  | (go_at_call 25; refine (count_any _).mono ?_; rintro e w1 ⟨⟨v1, rfl, hv1⟩, hb1⟩; have hfA := Lib.hid hv1.funcs)
  | (go_at_call 17; (with_reducible refine (write_val countP _ _ (fun _ => True) ⟨[], 0, []⟩ _ _ hfA.out (stateV_zero _ _) writeN errN).mono ?_); rintro e w2 ⟨rfl, hb2⟩))
 have e1 : Ext u2 w2 := hb1.trans hb2
 have E := Lib.hid (E.out.trans e1)
 obtain ⟨a, c, d, e, ⟨x0, x0'⟩, ⟨x1, x1'⟩, ⟨x2, x2'⟩, hxx⟩ := (BX.out.ext e1).ex
 have HXX := Lib.hid hxx
 clear hfA hv1 hb1 hb2 e1 hxx BX
 rename World => u3
 refine wp_region_rt (fun w' => w'.cell? ⟨sx, 0, none⟩ = some (.slice a 2 c) ∧ w'.cell? ⟨sx, 1, none⟩ = some (.int .i64 1) ∧ w'.cell? ⟨sx, 2, none⟩ = some (.slice d 0 e)) 25 [0, 1, 2, 3, 4, 5, 6, 7, 8, 9, 10, 11, 12, 13, 14, 15, 16, 17, 18, 19, 20] [21, 22, 23, 24, 25] (by kernel_rfl) (by kernel_rfl) (fun _ _ _ _ _ h => h) (by exact ⟨x0, x1, x2⟩) ?_
 (try simp only [pickOps, List.filterMap_cons, List.filterMap_nil, List.getElem?_cons_zero, List.getElem?_cons_succ])
 repeat (
  refine readsQ_do (by rfl) ?_
  apply Exists.intro
  refine ⟨fun w' hw' => ?_, ?_⟩
  focus
   (try dsimp only at hw')
   go_split_ands
   go_simp
   (try with_reducible rfl)
  (try dsimp only [Act.put])
  (try simp only [List.setIfInBounds_toArray, List.set_cons_succ, List.set_cons_zero]))
 refine readsQ_nil ?_
 have hS : ∀ W, Ext u3 W → W.cell? ⟨sx, 0, none⟩ = some (.slice a 2 c) ∧ W.cell? ⟨sx, 1, none⟩ = some (.int .i64 1) ∧ W.cell? ⟨sx, 2, none⟩ = some (.slice d 0 e) := fun W h => ⟨Ext.cell h x0, Ext.cell h x1, Ext.cell h x2⟩
 have HSS := Lib.hid hS
 clear hS
 refine tailW_step ?_
 go_wp2_with (first
  | (go_at_call 25; refine (count_any _).mono ?_; rintro e w1 ⟨⟨v1, rfl, hv1⟩, hb1⟩; have hfA := Lib.hid hv1.funcs))
 refine nextW_go (by exact HSS.out _ (by ((repeat (first | assumption | exact Ext.refl _ | (exact And.left (by assumption)) | refine Ext.alloc ?_ _ | refine Ext.drew ?_ | refine Ext.drewN ?_ _ | refine Ext.setCell ?_ (by simp) _ | refine Ext.setCell ?_ (by simp; omega) _ | refine Ext.trans ?_ (by assumption))); done))) ?_
 refine tailW_step ?_
 go_wp2_with (first
  | (go_at_call 26; (with_reducible refine (after_6 _ _ _ hfA.out).mono ?_); rintro e w3 ⟨⟨x, rfl, hx⟩, hb3⟩; have hxs := hx.state))
 refine nextW_go (by exact HSS.out _ (by ((repeat (first | assumption | exact Ext.refl _ | (exact And.left (by assumption)) | refine Ext.alloc ?_ _ | refine Ext.drew ?_ | refine Ext.drewN ?_ _ | refine Ext.setCell ?_ (by simp) _ | refine Ext.setCell ?_ (by simp; omega) _ | refine Ext.trans ?_ (by assumption))); done))) ?_
 refine tailW_step ?_
 go_wp2_with (first
  | (go_at_call 15; (with_reducible refine (same_val A6 _ _ _ _ _ (StateV.stays (Ext.stays (by ((repeat (first | assumption | exact Ext.refl _ | (exact And.left (by assumption)) | refine Ext.alloc ?_ _ | refine Ext.drew ?_ | refine Ext.drewN ?_ _ | refine Ext.setCell ?_ (by simp) _ | refine Ext.setCell ?_ (by simp; omega) _ | refine Ext.trans ?_ (by assumption))); done))) HXX.out) hxs).mono ?_); rintro e w4 ⟨rfl, hb4⟩))
 refine nextW_go (by exact HSS.out _ (by ((repeat (first | assumption | exact Ext.refl _ | (exact And.left (by assumption)) | refine Ext.alloc ?_ _ | refine Ext.drew ?_ | refine Ext.drewN ?_ _ | refine Ext.setCell ?_ (by simp) _ | refine Ext.setCell ?_ (by simp; omega) _ | refine Ext.trans ?_ (by assumption))); done))) ?_
 refine tailW_step ?_
 go_wp2_with fail
 refine nextW_go (by exact HSS.out _ (by ((repeat (first | assumption | exact Ext.refl _ | (exact And.left (by assumption)) | refine Ext.alloc ?_ _ | refine Ext.drew ?_ | refine Ext.drewN ?_ _ | refine Ext.setCell ?_ (by simp) _ | refine Ext.setCell ?_ (by simp; omega) _ | refine Ext.trans ?_ (by assumption))); done))) ?_
 refine tailW_step ?_
 go_wp2_with fail
 refine nextW_end ?_
 go_wp2_with fail
 go_ret
 exact ⟨rfl, E.out.trans (by ((repeat (first | assumption | exact Ext.refl _ | (exact And.left (by assumption)) | refine Ext.alloc ?_ _ | refine Ext.drew ?_ | refine Ext.drewN ?_ _ | refine Ext.setCell ?_ (by simp) _ | refine Ext.setCell ?_ (by simp; omega) _ | refine Ext.trans ?_ (by assumption))); done))⟩
end Go.Proofs.YtgahbngbpfilgaaGreat
end
