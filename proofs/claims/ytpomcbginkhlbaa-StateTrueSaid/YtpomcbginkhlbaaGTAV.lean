/- Merged texts: contracts and plain facts, one part behind another; each part begins with what it says. -/
import Derived.Test.YtpomcbginkhlbaaGTAF
import Derived.Test.YtpomcbginkhlbaaGTAP
import Derived.Test.YtpomcbginkhlbaaGTAR
import Derived.Test.YtpomcbginkhlbaaGTAU
section
/- Contracts of SameInts and next. -/
set_option maxHeartbeats 2000000
set_option maxRecDepth 100000
namespace Go.Proofs.Ytpomcbginkhlbaa
open Go Go.RowKit

theorem take_eq_of_ne {a b : List Int} {k : Nat} (_ : k < a.length) (_ : k < b.length) (h : a.getD k 0 ≠ b.getD k 0) : a ≠ b := fun e => h (by rw [e])
theorem take_succ_eq {a b : List Int} {k : Nat} (h1 : k < a.length) (h2 : k < b.length) (ht : a.take k = b.take k) (h : a.getD k 0 = b.getD k 0) : a.take (k + 1) = b.take (k + 1) := by
  simp only [List.getD, List.getElem?_eq_getElem h1, List.getElem?_eq_getElem h2, Option.getD_some] at h
  rw [List.take_succ_eq_append_getElem h1, List.take_succ_eq_append_getElem h2, ht, h]

theorem sameInts_any (a b : List Int) (va vb : Value) (S T : Nat → Prop) (w : World) (ha : Ints w S va a) (hb : Ints w T vb b) :
    Calls Try.prog 19 #[va, vb] w fun e w' => e = .returned (.bool (decide (a = b))) ∧ Ext w w' := by
  have HA := Lib.hid ha
  have HB := Lib.hid hb
  obtain ⟨pa, ca, rfl, hca, hba, _⟩ := ha
  obtain ⟨pb, cb, rfl, hcb, hbb, _⟩ := hb
  obtain ⟨t, ht⟩ : ∃ t, decide (a = b) = t := ⟨_, rfl⟩
  rw [ht]
  have HT := Lib.hid ht
  clear ht
  go_enter Try.func19, Try.ntmps19
  by_cases hl : a.length = b.length
  · have TL : ((a.length : Int) != (b.length : Int)) = false := by rw [bne_eq_false_iff_eq]; omega
    go_wp2_with fail
    go_loopw [5] (fun q wr => ∃ k : Nat, k ≤ a.length ∧ q = .int .i64 k ∧ Ext w wr ∧ a.take k = b.take k) (fun q _ => a.length - (intOf q).toNat)
    case atStart => exact ⟨0, Nat.zero_le _, rfl, Ext.refl _, rfl⟩
    case round =>
      obtain ⟨k, hk, rfl, hb3, htk⟩ := hrel
      have HB3 := Lib.hid hb3
      have HTK := Lib.hid htk
      clear hb3 htk
      by_cases hlt : k < a.length
      · have hlt' : k < b.length := by omega
        obtain ⟨ba, oa, _, e1, _, _, _, x0, _⟩ := HA.out.get hlt
        obtain ⟨bb, ob, _, e2, _, _, _, y0, _⟩ := HB.out.get hlt'
        simp only [Value.slice.injEq] at e1 e2
        obtain ⟨rfl, -, rfl⟩ := e1
        obtain ⟨rfl, -, rfl⟩ := e2
        rw [Nat.mul_one] at x0 y0
        have x1 := Ext.cell HB3.out x0
        have y1 := Ext.cell HB3.out y0
        have ea : a[k] = a.getD k 0 := by simp [List.getD, List.getElem?_eq_getElem hlt]
        have eb : b[k] = b.getD k 0 := by simp [List.getD, List.getElem?_eq_getElem hlt']
        rw [ea] at x1
        rw [eb] at y1
        clear x0 y0 ea eb
        obtain ⟨u, hu⟩ : ∃ u, a.getD k 0 = u := ⟨_, rfl⟩
        obtain ⟨z, hz⟩ : ∃ z, b.getD k 0 = z := ⟨_, rfl⟩
        rw [hu] at x1
        rw [hz] at y1
        have HU := Lib.hid hu
        have HZ := Lib.hid hz
        clear hu hz
        by_cases hne : u = z
        · have TN : (u != z) = false := by rw [bne_eq_false_iff_eq]; exact hne
          have HTK2 := Lib.hid (take_succ_eq hlt hlt' HTK.out (by rw [HU.out, HZ.out, hne]))
          clear hne
          go_wp2_with fail
          go_big_quiet (fail)
          go_wp2_with fail
          go_roundw
          case rel => exact ⟨k + 1, by omega, by go_num, HB3.out.drewN _, HTK2.out⟩
          case measure => simp [intOf]; omega
        · have TN : (u != z) = true := bne_iff_ne.2 hne
          have HF : Hid (t = false) := by
            unfold Hid
            rw [← HT.out]
            exact decide_eq_false (take_eq_of_ne hlt hlt' (by rw [HU.out, HZ.out]; exact hne))
          clear hne
          go_wp2_with fail
          go_big_quiet (fail)
          go_wp2_with fail
          go_ret
          exact ⟨by rw [HF.out]; rfl, HB3.out.drewN _⟩
      · obtain rfl : k = a.length := by omega
        have HF : Hid (t = true) := by
          unfold Hid
          rw [← HT.out]
          have := HTK.out
          rw [List.take_length, hl, List.take_length] at this
          exact decide_eq_true this
        clear hlt
        go_wp2_with fail
        go_ret
        exact ⟨by rw [HF.out]; rfl, HB3.out⟩
  · have TL : ((a.length : Int) != (b.length : Int)) = true := bne_iff_ne.2 (by omega)
    have HF : Hid (t = false) := by
      unfold Hid
      rw [← HT.out]
      exact decide_eq_false (fun e => hl (by rw [e]))
    clear hl
    go_wp2_with fail
    go_ret
    exact ⟨by rw [HF.out]; rfl, Ext.refl _⟩

theorem ints_block {w : World} {g : Nat} {t : TypeId} (l : List Int) (h : w.heap[g]? = some (.cells (ints l).toArray t (0, 0))) (S : Nat → Prop) (hS : S g) (hI : ∀ x ∈ l, I64 x) (hl : l.length ≤ 1000) : Ints w S (.slice (some ⟨g, 0, none⟩) l.length l.length) l := by
  refine ⟨_, _, rfl, Nat.le_refl _, by omega, fun i hi => ⟨g, 0, rfl, hS, ?_, hI _ (List.getElem_mem hi)⟩⟩
  rw [cell_of_row w g _ _ t (0, 0) h]
  simp [ints, hi]

end Go.Proofs.Ytpomcbginkhlbaa
end
section
/- Contract of SameStates. -/
set_option maxHeartbeats 4000000
set_option maxRecDepth 100000
namespace Go.Proofs.Ytpomcbginkhlbaa
open Go Go.RowKit

def frameEq (x y : GFrame) : Bool := decide (x = y)
theorem frame_ne {x y : GFrame} (h : x.func ≠ y.func ∨ x.at_ ≠ y.at_ ∨ x.locals ≠ y.locals ∨ x.stack ≠ y.stack) : x ≠ y := by
  rintro rfl
  rcases h with h | h | h | h <;> exact h rfl
theorem frame_eq {x y : GFrame} (h1 : x.func = y.func) (h2 : x.at_ = y.at_) (h3 : x.locals = y.locals) (h4 : x.stack = y.stack) : x = y := by
  cases x; cases y; simp_all
theorem list_ext {α : Type} {a b : List α} {d : α} (hl : a.length = b.length) (h : ∀ i, i < a.length → a.getD i d = b.getD i d) : a = b := by
  refine List.ext_getElem hl fun i h1 h2 => ?_
  have := h i h1
  simpa [List.getD, List.getElem?_eq_getElem h1, List.getElem?_eq_getElem h2] using this
theorem list_ne {α : Type} {a b : List α} {d : α} {i : Nat} (h : a.getD i d ≠ b.getD i d) : a ≠ b := fun e => h (by rw [e])

theorem two_box (wr : World) (cs ds : List Value) (t t' : TypeId) : Ext wr ((wr.alloc (.cells cs.toArray t)).alloc (.cells ds.toArray t')).drew ∧ (∀ j u, cs[j]? = some u → ((wr.alloc (.cells cs.toArray t)).alloc (.cells ds.toArray t')).drew.cell? ⟨wr.heap.size, j, none⟩ = some u) ∧
    (∀ j u, ds[j]? = some u → ((wr.alloc (.cells cs.toArray t)).alloc (.cells ds.toArray t')).drew.cell? ⟨wr.heap.size + 1, j, none⟩ = some u) := by
  refine ⟨(((Ext.refl wr).alloc _).alloc _).drew, fun j u h => ?_, fun j u h => ?_⟩
  · exact ((Cx.new wr cs t h).ext ((Ext.refl _).alloc (.cells ds.toArray t')).drew).1
  · have hs : (wr.alloc (.cells cs.toArray t)).heap.size = wr.heap.size + 1 := Array.size_push _
    have := ((Cx.new (wr.alloc (.cells cs.toArray t)) ds t' h).ext (Ext.refl _).drew).1
    rwa [hs] at this

theorem sameStates_any (a b : GState) (va vb : Value) (S T : Nat → Prop) (w : World) (ha : StateV w S va a) (hb : StateV w T vb b) :
    Calls Try.prog 24 #[va, vb] w fun e w' => e = .returned (.bool (decide (a = b))) ∧ Ext w w' := by
  obtain ⟨fa, na, oa⟩ := a
  obtain ⟨fb, nb, ob⟩ := b
  obtain ⟨xa, ya, rfl, hfa, _, hoa⟩ := ha
  obtain ⟨xb, yb, rfl, hfb, _, hob⟩ := hb
  have HFA := Lib.hid hfa
  have HFB := Lib.hid hfb
  have HOA := Lib.hid hoa
  have HOB := Lib.hid hob
  obtain ⟨aa, ca, rfl, _, _, _⟩ := hfa
  obtain ⟨ab, cb, rfl, _, _, _⟩ := hfb
  obtain ⟨ao, co, rfl, _, _, _⟩ := hoa
  obtain ⟨ap, cp, rfl, _, _, _⟩ := hob
  simp only at *
  have RA := alloc_keep
  obtain ⟨t, ht⟩ : ∃ t, decide ((⟨fa, na, oa⟩ : GState) = ⟨fb, nb, ob⟩) = t := ⟨_, rfl⟩
  rw [ht]
  have HT := Lib.hid ht
  clear ht
  have hs1 : (w.alloc (.cells #[.slice aa fa.length ca, .int .i64 na, .slice ao oa.length co] 43)).heap.size = w.heap.size + 1 := Array.size_push _
  have q0 := Cx.new w [.slice aa fa.length ca, .int .i64 na, .slice ao oa.length co] 43 (j := 0) rfl
  have q1 := Cx.new w [.slice aa fa.length ca, .int .i64 na, .slice ao oa.length co] 43 (j := 1) rfl
  have q2 := Cx.new w [.slice aa fa.length ca, .int .i64 na, .slice ao oa.length co] 43 (j := 2) rfl
  have r0 := Cx.new (w.alloc (.cells #[.slice aa fa.length ca, .int .i64 na, .slice ao oa.length co] 43)) [.slice ab fb.length cb, .int .i64 nb, .slice ap ob.length cp] 43 (j := 0) rfl
  have r1 := Cx.new (w.alloc (.cells #[.slice aa fa.length ca, .int .i64 na, .slice ao oa.length co] 43)) [.slice ab fb.length cb, .int .i64 nb, .slice ap ob.length cp] 43 (j := 1) rfl
  have r2 := Cx.new (w.alloc (.cells #[.slice aa fa.length ca, .int .i64 na, .slice ao oa.length co] 43)) [.slice ab fb.length cb, .int .i64 nb, .slice ap ob.length cp] 43 (j := 2) rfl
  rw [hs1] at r0 r1 r2
  have hX : Ext (w.alloc (.cells #[.slice aa fa.length ca, .int .i64 na, .slice ao oa.length co] 43)) ((w.alloc (.cells #[.slice aa fa.length ca, .int .i64 na, .slice ao oa.length co] 43)).alloc (.cells #[.slice ab fb.length cb, .int .i64 nb, .slice ap ob.length cp] 43)) := (Ext.refl _).alloc _
  have Q := Lib.hid (⟨q0.ext hX, q1.ext hX, q2.ext hX, r0, r1, r2⟩ : _ ∧ _ ∧ _ ∧ _ ∧ _ ∧ _)
  have HE1 := Lib.hid (((Ext.refl w).alloc (.cells #[.slice aa fa.length ca, .int .i64 na, .slice ao oa.length co] 43)).trans hX)
  clear hs1 q0 q1 q2 r0 r1 r2 hX
  go_enter Try.func24, Try.ntmps24
  go_upto_region 1 with fail
  generalize (w.alloc (.cells #[.slice aa fa.length ca, .int .i64 na, .slice ao oa.length co] 43)).alloc (.cells #[.slice ab fb.length cb, .int .i64 nb, .slice ap ob.length cp] 43) = w1 at *
  obtain ⟨⟨b0, -⟩, ⟨b1, -⟩, ⟨b2, -⟩, ⟨d0, -⟩, ⟨d1, -⟩, ⟨d2, -⟩⟩ := Q.out
  by_cases h1 : na = nb
  · have T1 : (na != nb) = false := by rw [bne_eq_false_iff_eq]; exact h1
    by_cases h2 : fa.length = fb.length
    · have T2 : ((fa.length : Int) != (fb.length : Int)) = false := by rw [bne_eq_false_iff_eq]; omega
      by_cases h3 : oa = ob
      · have HO3 : Hid (decide (oa = ob) = true) := decide_eq_true h3
        have HRR : Hid (t = decide (fa = fb)) := by unfold Hid; rw [← HT.out]; simp [h1, h3]
        have HLE := Lib.hid h2
        have hle1 := Nat.le_of_eq h2
        have hle2 := Nat.le_of_eq h2.symm
        clear h1 h2 h3 HT
        go_upto_region 3 with (first
          | (go_at_call 19; (with_reducible refine (sameInts_any oa ob _ _ _ _ _ (Ints.stays (Ext.stays HE1.out) HOA.out) (Ints.stays (Ext.stays HE1.out) HOB.out)).mono ?_); rintro e w2 ⟨rfl, hx2⟩; rw [HO3.out]))
        have HE2 := Lib.hid (HE1.out.trans hx2)
        have Q2 := Lib.hid (⟨Q.out.1.ext hx2, Q.out.2.2.2.1.ext hx2⟩ : _ ∧ _)
        clear hx2 b0 b1 b2 d0 d1 d2 HE1 Q T1
        rename World => w2
        go_wp2_with fail
        go_loopw [5] (fun q wr => ∃ k : Nat, k ≤ fa.length ∧ q = .int .i64 k ∧ Ext w2 wr ∧ ∀ i, i < k → fa.getD i default = fb.getD i default) (fun q _ => fa.length - (intOf q).toNat)
        case atStart => exact ⟨0, Nat.zero_le _, rfl, Ext.refl _, fun i hi => absurd hi (Nat.not_lt_zero _)⟩
        case round =>
          obtain ⟨k, hk, rfl, hb, hall⟩ := hrel
          have HB := Lib.hid hb
          have HALL := Lib.hid hall
          obtain ⟨⟨b0, -⟩, ⟨d0, -⟩⟩ := (⟨Q2.out.1.ext hb, Q2.out.2.ext hb⟩ : _ ∧ _)
          clear hb hall
          by_cases hlt : k < fa.length
          · obtain ⟨bx, ox, ax, cx, rfl, x0, x1, hvx⟩ := (Fibers.stays (Ext.stays (HE2.out.trans HB.out)) HFA.out).at' hlt
            obtain ⟨by_, oy, ay, cy, rfl, y0, y1, hvy⟩ := (Fibers.stays (Ext.stays (HE2.out.trans HB.out)) HFB.out).at' (k := k) (by omega)
            have HNE : Hid (fa.getD k default ≠ fb.getD k default → t = false) := fun h => by rw [HRR.out]; exact decide_eq_false (list_ne h)
            obtain ⟨x, hxe⟩ : ∃ x, fa.getD k default = x := ⟨_, rfl⟩
            obtain ⟨y, hye⟩ : ∃ y, fb.getD k default = y := ⟨_, rfl⟩
            rw [hxe] at x0 x1 hvx HNE
            rw [hye] at y0 y1 hvy HNE
            have HXE := Lib.hid hxe
            have HYE := Lib.hid hye
            have HVX := Lib.hid hvx
            have HVY := Lib.hid hvy
            have hklb : k < fb.length := by omega
            clear hxe hye hvx hvy
            obtain ⟨fx, clx⟩ := x
            obtain ⟨fy, cly⟩ := y
            simp only at *
            go_upto_region 6 with fail
            rename World => wr
            go_cut [6, 7] (fun v6 v7 wx => ∃ b6 b7, v6 = .pointer (some ⟨b6, 0, none⟩) ∧ v7 = .pointer (some ⟨b7, 0, none⟩) ∧ Ext wr wx ∧ wx.cell? ⟨b6, 0, none⟩ = some (.slice ax fx.length cx) ∧ wx.cell? ⟨b6, 1, none⟩ = some (.int .i64 clx) ∧ wx.cell? ⟨b7, 0, none⟩ = some (.slice ay fy.length cy) ∧ wx.cell? ⟨b7, 1, none⟩ = some (.int .i64 cly))
            case first =>
              go_region
              all_goals go_wp2_with fail
              all_goals go_meet
              · obtain ⟨e, c1, c2⟩ := two_box wr [.slice ax fx.length cx, .int .i64 clx] [.slice ay fy.length cy, .int .i64 cly] 52 52
                exact ⟨_, _, rfl, rfl, e, c1 0 _ rfl, c1 1 _ rfl, c2 0 _ rfl, c2 1 _ rfl⟩
              · obtain ⟨e, c1, c2⟩ := two_box wr [.slice ay fy.length cy, .int .i64 cly] [.slice ax fx.length cx, .int .i64 clx] 52 52
                exact ⟨_, _, rfl, rfl, e, c2 0 _ rfl, c2 1 _ rfl, c1 0 _ rfl, c1 1 _ rfl⟩
            case rest =>
              obtain ⟨b6, b7, rfl, rfl, hx3, z0, z1, v0, v1⟩ := hcut
              have HE3 := Lib.hid ((HE2.out.trans HB.out).trans hx3)
              have HX3 := Lib.hid hx3
              have Z := Lib.hid (⟨z0, v0⟩ : _ ∧ _)
              clear hx3 b0 d0 x0 x1 y0 y1
              rename World => w3
              have HFX : Hid (Frames w3 S (.slice ax fx.length cx) fx) := by
                obtain ⟨_, e, h, _⟩ := FiberV.stays (Ext.stays HX3.out) HVX.out
                simp only [Value.agg.injEq] at e
                simp at e
                rw [← e] at h
                exact h
              have hfxb : fx.length * 64 ≤ 140737488355328 := by obtain ⟨_, _, _, _, h, _⟩ := HFX.out; exact h.1
              have HFY : Hid (Frames w3 T (.slice ay fy.length cy) fy) := by
                obtain ⟨_, e, h, _⟩ := FiberV.stays (Ext.stays HX3.out) HVY.out
                simp only [Value.agg.injEq] at e
                simp at e
                rw [← e] at h
                exact h
              by_cases h4 : clx = cly
              · have T4 : (clx != cly) = false := by rw [bne_eq_false_iff_eq]; exact h4
                by_cases h5 : fx.length = fy.length
                · have T5 : ((fx.length : Int) != (fy.length : Int)) = false := by rw [bne_eq_false_iff_eq]; omega
                  have HL5 := Lib.hid h5
                  have hf1 := Nat.le_of_eq h5
                  have hf2 := Nat.le_of_eq h5.symm
                  have HEQ : Hid (fx = fy → fa.getD k default = fb.getD k default) := fun h => by rw [HXE.out, HYE.out, h, h4]
                  have HNE2 : Hid (fx ≠ fy → t = false) := fun h => HNE.out (fun e => h (by injection e))
                  clear h4 h5
                  go_wp2_with fail
                  go_loopw [8] (fun q wx => ∃ i : Nat, i ≤ fx.length ∧ q = .int .i64 i ∧ Ext w3 wx ∧ ∀ j, j < i → fx.getD j default = fy.getD j default) (fun q _ => fx.length - (intOf q).toNat)
                  case atStart => exact ⟨0, Nat.zero_le _, rfl, Ext.refl _, fun i hi => absurd hi (Nat.not_lt_zero _)⟩
                  case round =>
                    obtain ⟨i, hi, rfl, hb2, hall2⟩ := hrel
                    have HB2 := Lib.hid hb2
                    have HALL2 := Lib.hid hall2
                    have z0' := Ext.cell hb2 Z.out.1
                    have v0' := Ext.cell hb2 Z.out.2
                    clear hb2 hall2 z0 z1 v0 v1
                    by_cases hlt2 : i < fx.length
                    · obtain ⟨bu, ou, a1, c1, a2, c2, rfl, hfu, hvu⟩ := (Frames.stays (Ext.stays HB2.out) HFX.out).at' hlt2
                      obtain ⟨bv, ov, a3, c3, a4, c4, rfl, hfv, hvv⟩ := (Frames.stays (Ext.stays HB2.out) HFY.out).at' (k := i) (by omega)
                      have hily : i < fy.length := by omega
                      have HNE3 : Hid (fx.getD i default ≠ fy.getD i default → t = false) := fun h => HNE2.out (list_ne h)
                      obtain ⟨x, hxe⟩ : ∃ x, fx.getD i default = x := ⟨_, rfl⟩
                      obtain ⟨y, hye⟩ : ∃ y, fy.getD i default = y := ⟨_, rfl⟩
                      rw [hxe] at hfu hvu HNE3
                      rw [hye] at hfv hvv HNE3
                      have HXE2 := Lib.hid hxe
                      have HYE2 := Lib.hid hye
                      clear hxe hye
                      obtain ⟨u0, u1, u2, u3⟩ := hfu
                      obtain ⟨e0, e1, e2, e3⟩ := hfv
                      obtain ⟨xf, xa, xl, xs⟩ := x
                      obtain ⟨yf, ya, yl, ys⟩ := y
                      simp only at *
                      obtain ⟨_, _, eq1, _, _, hil, his⟩ := hvu
                      simp only [Value.agg.injEq] at eq1
                      simp at eq1
                      obtain ⟨rfl, rfl⟩ := eq1
                      obtain ⟨_, _, eq1, _, _, hjl, hjs⟩ := hvv
                      simp only [Value.agg.injEq] at eq1
                      simp at eq1
                      obtain ⟨rfl, rfl⟩ := eq1
                      have HI := Lib.hid (⟨hil, his, hjl, hjs⟩ : _ ∧ _ ∧ _ ∧ _)
                      clear hil his hjl hjs
                      go_upto_region 12 with fail
                      rename World => wx
                      go_cut [9, 10] (fun v9 v10 wz => ∃ b9 b10, v9 = .pointer (some ⟨b9, 0, none⟩) ∧ v10 = .pointer (some ⟨b10, 0, none⟩) ∧ Ext wx wz ∧ wz.cell? ⟨b9, 0, none⟩ = some (.int .i64 xf) ∧ wz.cell? ⟨b9, 1, none⟩ = some (.int .i64 xa) ∧ wz.cell? ⟨b9, 2, none⟩ = some (.slice a1 xl.length c1) ∧ wz.cell? ⟨b9, 3, none⟩ = some (.slice a2 xs.length c2) ∧ wz.cell? ⟨b10, 0, none⟩ = some (.int .i64 yf) ∧ wz.cell? ⟨b10, 1, none⟩ = some (.int .i64 ya) ∧ wz.cell? ⟨b10, 2, none⟩ = some (.slice a3 yl.length c3) ∧ wz.cell? ⟨b10, 3, none⟩ = some (.slice a4 ys.length c4))
                      case first =>
                        go_region
                        all_goals go_wp2_with fail
                        all_goals go_meet
                        · obtain ⟨e, c1', c2'⟩ := two_box wx [.int .i64 xf, .int .i64 xa, .slice a1 xl.length c1, .slice a2 xs.length c2] [.int .i64 yf, .int .i64 ya, .slice a3 yl.length c3, .slice a4 ys.length c4] 54 54
                          exact ⟨_, _, rfl, rfl, e, c1' 0 _ rfl, c1' 1 _ rfl, c1' 2 _ rfl, c1' 3 _ rfl, c2' 0 _ rfl, c2' 1 _ rfl, c2' 2 _ rfl, c2' 3 _ rfl⟩
                        · obtain ⟨e, c1', c2'⟩ := two_box wx [.int .i64 yf, .int .i64 ya, .slice a3 yl.length c3, .slice a4 ys.length c4] [.int .i64 xf, .int .i64 xa, .slice a1 xl.length c1, .slice a2 xs.length c2] 54 54
                          exact ⟨_, _, rfl, rfl, e, c2' 0 _ rfl, c2' 1 _ rfl, c2' 2 _ rfl, c2' 3 _ rfl, c1' 0 _ rfl, c1' 1 _ rfl, c1' 2 _ rfl, c1' 3 _ rfl⟩
                      case rest =>
                        obtain ⟨b9, b10, rfl, rfl, hx5, g0, g1, g2, g3, h0, h1, h2, h3⟩ := hcut
                        have HX5 := Lib.hid hx5
                        have HE5 := Lib.hid ((HE3.out.trans HB2.out).trans hx5)
                        clear hx5 u0 u1 u2 u3 e0 e1 e2 e3 z0' v0'
                        by_cases k1 : xf = yf
                        · have S1 : (xf != yf) = false := by rw [bne_eq_false_iff_eq]; exact k1
                          by_cases k2 : xa = ya
                          · have S2 : (xa != ya) = false := by rw [bne_eq_false_iff_eq]; exact k2
                            by_cases k3 : xl = yl
                            · have HLO : Hid (decide (xl = yl) = true) := decide_eq_true k3
                              by_cases k4 : xs = ys
                              · have HST : Hid (decide (xs = ys) = true) := decide_eq_true k4
                                have HKK : Hid (fx.getD i default = fy.getD i default) := by unfold Hid; rw [HXE2.out, HYE2.out]; exact frame_eq k1 k2 k3 k4
                                clear k1 k2 k3 k4
                                go_wp2_with (first
                                  | (go_at_call 19; (with_reducible refine (sameInts_any xl yl _ _ _ _ _ (Ints.stays (Ext.stays HX5.out) HI.out.1) (Ints.stays (Ext.stays HX5.out) HI.out.2.2.1)).mono ?_); rintro e w6 ⟨rfl, hx6⟩; rw [HLO.out]; have g3' := Ext.cell hx6 g3; have h3' := Ext.cell hx6 h3)
                                  | (go_at_call 19; (with_reducible refine (sameInts_any xs ys _ _ _ _ _ (Ints.stays (Ext.stays (HX5.out.trans hx6)) HI.out.2.1) (Ints.stays (Ext.stays (HX5.out.trans hx6)) HI.out.2.2.2)).mono ?_); rintro e w7 ⟨rfl, hx7⟩; rw [HST.out]))
                                go_roundw
                                case rel => exact ⟨i + 1, by omega, by go_num, (HB2.out.trans HX5.out).trans (hx6.trans hx7), fun j hj => by
                                  by_cases e : j = i
                                  · rw [e]; exact HKK.out
                                  · exact HALL2.out j (by omega)⟩
                                case measure => simp [intOf]; omega
                              · have HST : Hid (decide (xs = ys) = false) := decide_eq_false k4
                                have HR4 : Hid (t = false) := HNE3.out (frame_ne (.inr (.inr (.inr k4))))
                                clear k1 k2 k3 k4
                                go_wp2_with (first
                                  | (go_at_call 19; (with_reducible refine (sameInts_any xl yl _ _ _ _ _ (Ints.stays (Ext.stays HX5.out) HI.out.1) (Ints.stays (Ext.stays HX5.out) HI.out.2.2.1)).mono ?_); rintro e w6 ⟨rfl, hx6⟩; rw [HLO.out]; have g3' := Ext.cell hx6 g3; have h3' := Ext.cell hx6 h3)
                                  | (go_at_call 19; (with_reducible refine (sameInts_any xs ys _ _ _ _ _ (Ints.stays (Ext.stays (HX5.out.trans hx6)) HI.out.2.1) (Ints.stays (Ext.stays (HX5.out.trans hx6)) HI.out.2.2.2)).mono ?_); rintro e w7 ⟨rfl, hx7⟩; rw [HST.out]))
                                go_ret
                                exact ⟨by rw [HR4.out]; rfl, HE5.out.trans (hx6.trans hx7)⟩
                            · have HLO : Hid (decide (xl = yl) = false) := decide_eq_false k3
                              have HR4 : Hid (t = false) := HNE3.out (frame_ne (.inr (.inr (.inl k3))))
                              clear k1 k2 k3
                              go_wp2_with (first
                                | (go_at_call 19; (with_reducible refine (sameInts_any xl yl _ _ _ _ _ (Ints.stays (Ext.stays HX5.out) HI.out.1) (Ints.stays (Ext.stays HX5.out) HI.out.2.2.1)).mono ?_); rintro e w6 ⟨rfl, hx6⟩; rw [HLO.out]))
                              go_ret
                              exact ⟨by rw [HR4.out]; rfl, HE5.out.trans hx6⟩
                          · have S2 : (xa != ya) = true := bne_iff_ne.2 k2
                            have HR4 : Hid (t = false) := HNE3.out (frame_ne (.inr (.inl k2)))
                            clear k1 k2
                            go_wp2_with fail
                            go_ret
                            exact ⟨by rw [HR4.out]; rfl, HE5.out⟩
                        · have S1 : (xf != yf) = true := bne_iff_ne.2 k1
                          have HR4 : Hid (t = false) := HNE3.out (frame_ne (.inl k1))
                          clear k1
                          go_wp2_with fail
                          go_ret
                          exact ⟨by rw [HR4.out]; rfl, HE5.out⟩
                    · obtain rfl : i = fx.length := by omega
                      have HKK : Hid (fa.getD k default = fb.getD k default) := HEQ.out (list_ext HL5.out HALL2.out)
                      clear hlt2
                      go_wp2_with fail
                      go_roundw
                      case rel => exact ⟨k + 1, by omega, by go_num, (HB.out.trans HX3.out).trans HB2.out, fun j hj => by
                        by_cases e : j = k
                        · rw [e]; exact HKK.out
                        · exact HALL.out j (by omega)⟩
                      case measure => simp [intOf]; omega
                · have T5 : ((fx.length : Int) != (fy.length : Int)) = true := bne_iff_ne.2 (by omega)
                  have HR4 : Hid (t = false) := HNE.out (fun e => h5 (by injection e with e _; rw [e]))
                  clear h4 h5
                  go_wp2_with fail
                  go_ret
                  exact ⟨by rw [HR4.out]; rfl, HE3.out⟩
              · have T4 : (clx != cly) = true := bne_iff_ne.2 h4
                have HR4 : Hid (t = false) := HNE.out (fun e => h4 (by injection e))
                clear h4
                go_wp2_with fail
                go_ret
                exact ⟨by rw [HR4.out]; rfl, HE3.out⟩
          · obtain rfl : k = fa.length := by omega
            have HRR2 : Hid (t = true) := by unfold Hid; rw [HRR.out]; exact decide_eq_true (list_ext HLE.out HALL.out)
            clear hlt
            go_wp2_with fail
            go_ret
            exact ⟨by rw [HRR2.out]; rfl, HE2.out.trans HB.out⟩
      · have HO3 : Hid (decide (oa = ob) = false) := decide_eq_false h3
        have HRR : Hid (t = false) := by unfold Hid; rw [← HT.out]; simp [h3]
        clear h1 h2 h3 HT
        go_wp2_with (first
          | (go_at_call 19; (with_reducible refine (sameInts_any oa ob _ _ _ _ _ (Ints.stays (Ext.stays HE1.out) HOA.out) (Ints.stays (Ext.stays HE1.out) HOB.out)).mono ?_); rintro e w2 ⟨rfl, hx2⟩; rw [HO3.out]))
        go_ret
        exact ⟨by rw [HRR.out]; rfl, HE1.out.trans hx2⟩
    · have T2 : ((fa.length : Int) != (fb.length : Int)) = true := bne_iff_ne.2 (by omega)
      have HRR : Hid (t = false) := by
        unfold Hid
        rw [← HT.out]
        refine decide_eq_false fun h => h2 ?_
        injection h with h _ _
        rw [h]
      clear h1 h2 HT
      go_wp2_with fail
      go_ret
      exact ⟨by rw [HRR.out]; rfl, HE1.out⟩
  · have T1 : (na != nb) = true := bne_iff_ne.2 h1
    have HRR : Hid (t = false) := by unfold Hid; rw [← HT.out]; simp [h1]
    clear h1 HT
    go_wp2_with fail
    go_ret
    exact ⟨by rw [HRR.out]; rfl, HE1.out⟩
end Go.Proofs.Ytpomcbginkhlbaa
end
section
/- Contract of stateBegun: states that come of count(), some of them changed by hand. -/
set_option maxHeartbeats 4000000
set_option maxRecDepth 100000
namespace Go.Proofs.Ytpomcbginkhlbaa
open Go Go.RowKit

def A1 : GState := ⟨[⟨[⟨0, 1, [0], [1]⟩], -1⟩, ⟨[⟨1, 0, [0], []⟩], -1⟩], 0, []⟩
def A6 : GState := ⟨[⟨[⟨0, 5, [1], []⟩], -1⟩, ⟨[⟨1, 1, [7], [7]⟩], 0⟩], 1, []⟩
def A7 : GState := ⟨[⟨[⟨0, 5, [1], [7]⟩], -1⟩, ⟨[⟨1, 2, [7], []⟩], -1⟩], 0, []⟩
def AY : GState := ⟨[⟨[⟨0, 5, [1], []⟩], -1⟩, ⟨[⟨1, 1, [7], [7]⟩], 0⟩], 0, []⟩
def AZ : GState := ⟨[⟨[⟨0, 5, [1], [7]⟩], -1⟩, ⟨[⟨1, 2, [7], [1]⟩], -1⟩], 0, []⟩
def AU : GState := ⟨[⟨[⟨0, 1, [0], [1]⟩], -1⟩, ⟨[⟨1, 0, [1], []⟩], -1⟩], 0, []⟩
def AV : GState := ⟨[⟨[⟨0, 5, [1], [7]⟩], -1⟩, ⟨[⟨1, 2, [1], []⟩], -1⟩], 0, []⟩
theorem after1 : afterG 1 = A1 := by decide
theorem after6 : afterG 6 = A6 := by decide
theorem after7 : afterG 7 = A7 := by decide
theorem beginC : beginS countP = ⟨[⟨[⟨0, 0, [0], []⟩], -1⟩], 0, []⟩ := by decide
theorem beginC' : beginG countP = ⟨[⟨[⟨0, 0, [0], []⟩], -1⟩], 0, []⟩ := by decide
theorem errB : stateErr countP ⟨[⟨[⟨0, 0, [0], []⟩], -1⟩], 0, []⟩ = 0 := by decide
theorem err6 : stateErr countP A6 = 0 := by decide
theorem errY : stateErr countP AY = 1 := by decide
theorem errZ : stateErr countP AZ = 1 := by decide
theorem errU : stateErr countP AU = 1 := by decide
theorem errV : stateErr countP AV = 0 := by decide
theorem errN : stateErr countP ⟨[], 0, []⟩ = 5 := by decide

theorem after_val (v : Value) (S : Nat → Prop) (n : Int) (w : World) (s : GState) (hv : Funcs w S v countP) (hn : RunFit countP n.toNat (beginG countP)) (hs : afterG n = s) :
    Calls Try.prog 43 #[v, .int .i64 n] w fun e w' => (∃ x, e = .returned x ∧ StateO w' w.heap.size x s) ∧ Ext w w' := by
  refine (after_any v S n w hv hn count_right).mono fun e w' h => ?_
  rw [hs] at h
  exact h
theorem begin_val (v : Value) (S : Nat → Prop) (w : World) (hv : Funcs w S v countP) :
    Calls Try.prog 20 #[v] w fun e w' => (∃ a c b d, e = .returned (.tuple #[.agg #[.slice a 1 c, .int .i64 0, .slice b 0 d], .int .i64 0]) ∧ StateV w' (fun _ => True) (.agg #[.slice a 1 c, .int .i64 0, .slice b 0 d]) ⟨[⟨[⟨0, 0, [0], []⟩], -1⟩], 0, []⟩) ∧ Ext w w' := by
  refine (begin_any countP v S w hv).mono fun e w' ⟨⟨x, he, hx⟩, hb⟩ => ⟨?_, hb⟩
  rw [beginC] at hx
  rw [count_right] at he
  obtain ⟨a, c, b, d, rfl⟩ := hx.few
  exact ⟨a, c, b, d, he, StateV.stays (Stays.widen (fun _ _ => trivial)) hx⟩
theorem beginOf_val (v : Value) (S : Nat → Prop) (w : World) (hv : Funcs w S v countP) :
    Calls Try.prog 22 #[v] w fun e w' => (∃ x, e = .returned x ∧ StateV w' (fun _ => True) x ⟨[⟨[⟨0, 0, [0], []⟩], -1⟩], 0, []⟩) ∧ Ext w w' := by
  refine (beginOf_any countP v S w hv count_right).mono fun e w' ⟨⟨x, he, hx⟩, hb⟩ => ⟨⟨x, he, ?_⟩, hb⟩
  rw [beginC'] at hx
  exact StateV.stays (Stays.widen (fun _ _ => trivial)) hx

/-- A state that was handed back is boxed. -/
theorem StateO.boxed {w : World} {B n m : Nat} {k : Int} {x : Value} {s : GState} (h : StateO w B x s) (hn : s.fibers.length = n) (hm : s.out.length = m) (hk : s.now = k) (hB : B ≤ w.heap.size) (t : TypeId) :
    ∃ P a c b d, x = .agg #[.slice a n c, .int .i64 k, .slice b m d] ∧ OwnS (w.alloc (.cells #[.slice a n c, .int .i64 k, .slice b m d] t)) B w.heap.size P ∧ P.g = s ∧ P.vfs = .slice a n c := by
  obtain ⟨P, rfl, hO, hg⟩ := h
  obtain ⟨a, c, e1, _, _⟩ := hO.row.shape
  obtain ⟨b, d, e2, _, _⟩ := hO.out.shape
  have h1 : P.fs.length = n := by rw [← hn, ← hg]; unfold PState.g; simp
  have h2 : P.out.length = m := by rw [← hm, ← hg]; rfl
  have h3 : P.now = k := by rw [← hk, ← hg]; rfl
  rw [h1] at e1
  rw [h2] at e2
  refine ⟨P, a, c, b, d, by rw [e1, e2, h3], (hO.ext ((Ext.refl _).alloc _)).box (by rw [e1]; exact Cx.new w [.slice a n c, .int .i64 k, .slice b m d] _ (j := 0) rfl) (by rw [h3]; exact Cx.new w [.slice a n c, .int .i64 k, .slice b m d] _ (j := 1) rfl) (by rw [e2]; exact Cx.new w [.slice a n c, .int .i64 k, .slice b m d] _ (j := 2) rfl) hB (fun hm => by have := hO.lt _ hm; omega), hg, e1⟩
/-- A state in its box, for reading. -/
structure BoxT (w : World) (b n m : Nat) (k : Int) (s : GState) : Prop where
  ex : ∃ a c d e, Cx w b 0 (.slice a n c) ∧ Cx w b 1 (.int .i64 k) ∧ Cx w b 2 (.slice d m e) ∧ StateV w (fun _ => True) (.agg #[.slice a n c, .int .i64 k, .slice d m e]) s
theorem BoxT.ext {w w' : World} {b n m : Nat} {k : Int} {s : GState} (h : BoxT w b n m k s) (he : Ext w w') : BoxT w' b n m k s := by
  obtain ⟨a, c, d, e, h1, h2, h3, h4⟩ := h.ex
  exact ⟨a, c, d, e, h1.ext he, h2.ext he, h3.ext he, StateV.stays (Ext.stays he) h4⟩
theorem OwnS.boxT {w : World} {B b n m : Nat} {k : Int} {P : PState} {s : GState} (h : OwnS w B b P) (hg : P.g = s) (hn : s.fibers.length = n) (hm : s.out.length = m) (hk : s.now = k) : BoxT w b n m k s := by
  obtain ⟨a, c, e1, _, _⟩ := h.row.shape
  obtain ⟨d, e, e2, _, _⟩ := h.out.shape
  have h1 : P.fs.length = n := by rw [← hn, ← hg]; unfold PState.g; simp
  have h2 : P.out.length = m := by rw [← hm, ← hg]; rfl
  have h3 : P.now = k := by rw [← hk, ← hg]; rfl
  rw [h1] at e1
  rw [h2] at e2
  have c0 := h.c0
  have c1 := h.c1
  have c2 := h.c2
  have hst := h.state (fun _ => True) (fun _ _ => trivial)
  rw [e1, e2, h3, hg] at hst
  rw [e1] at c0
  rw [h3] at c1
  rw [e2] at c2
  exact ⟨a, c, d, e, c0, c1, c2, hst⟩
theorem BoxT.new {w : World} {a b : Option Addr} {n c m d : Nat} {k : Int} {s : GState} (h : StateV w (fun _ => True) (.agg #[.slice a n c, .int .i64 k, .slice b m d]) s) (t : TypeId) : BoxT (w.alloc (.cells #[.slice a n c, .int .i64 k, .slice b m d] t)) w.heap.size n m k s :=
  ⟨a, c, b, d, Cx.new w [.slice a n c, .int .i64 k, .slice b m d] _ (j := 0) rfl, Cx.new w [.slice a n c, .int .i64 k, .slice b m d] _ (j := 1) rfl, Cx.new w [.slice a n c, .int .i64 k, .slice b m d] _ (j := 2) rfl, StateV.stays (Ext.stays ((Ext.refl _).alloc _)) h⟩

/-- Two fibers of one frame each. -/
theorem two_fibers {P : PState} {f1 f2 : GFrame} {c1 c2 n : Int} {out : List Int} (h : P.g = ⟨[⟨[f1], c1⟩, ⟨[f2], c2⟩], n, out⟩) : ∃ y1 y2 x1 x2, Spot P [y1] y2 [] [] x2 ∧ y1.fr = [x1] ∧ x1.f = f1 ∧ x2.f = f2 ∧ y1.caller = c1 ∧ y2.caller = c2 ∧ P.now = n ∧ P.out = out := by
  unfold PState.g at h
  simp only [GState.mk.injEq] at h
  obtain ⟨h1, h2, h3⟩ := h
  have hl : P.fs.length = 2 := by have := congrArg List.length h1; simpa using this
  obtain ⟨y1, y2, hf⟩ : ∃ y1 y2, P.fs = [y1, y2] := by
    match hf : P.fs, hl with
    | [y1, y2], _ => exact ⟨y1, y2, rfl⟩
  rw [hf] at h1
  simp only [List.map_cons, List.map_nil, List.cons.injEq, and_true] at h1
  obtain ⟨e1, e2⟩ := h1
  unfold PFiber.g at e1 e2
  simp only [GFiber.mk.injEq] at e1 e2
  have hl1 : y1.fr.length = 1 := by have := congrArg List.length e1.1; simpa using this
  have hl2 : y2.fr.length = 1 := by have := congrArg List.length e2.1; simpa using this
  obtain ⟨x1, hx1⟩ := List.length_eq_one_iff.1 hl1
  obtain ⟨x2, hx2⟩ := List.length_eq_one_iff.1 hl2
  rw [hx1] at e1
  rw [hx2] at e2
  simp only [List.map_cons, List.map_nil, List.cons.injEq, and_true] at e1 e2
  exact ⟨y1, y2, x1, x2, ⟨hf, hx2⟩, hx1, e1.1, e2.1, e1.2, e2.2, h2, h3⟩

theorem PState.g_now {P : PState} {s : GState} (h : P.g = s) (n : Int) : PState.g { P with now := n } = { s with now := n } := by subst h; rfl
theorem g_two {P : PState} {y1 y2 : PFiber} {x1 x2 x' : PFrame} {f1 f2 : GFrame} {c1 c2 n : Int} {out : List Int} (h : y1.fr = [x1] ∧ x1.f = f1 ∧ x2.f = f2 ∧ y1.caller = c1 ∧ y2.caller = c2 ∧ P.now = n ∧ P.out = out) : (replTop P [y1] y2 [] [] x').g = ⟨[⟨[f1], c1⟩, ⟨[x'.f], c2⟩], n, out⟩ := by
  obtain ⟨h1, h2, h3, h4, h5, h6, h7⟩ := h
  subst h2 h4 h5 h6 h7
  unfold replTop PState.g PFiber.g
  simp [h1]
theorem ints_one (w : World) (n : Int) (B : Nat) (hb : B ≤ w.heap.size) (t : TypeId) : RowAt (w.alloc (.cells #[.int .i64 n] t)) B 1 (.slice (some ⟨w.heap.size, 0, none⟩) 1 1) [n].length (ints [n]) := RowAt.made w #[.int .i64 n] t 1 1 B hb (by unfold maxLen; omega) rfl
theorem after_1 (v : Value) (S : Nat → Prop) (w : World) (hv : Funcs w S v countP) : Calls Try.prog 43 #[v, .int .i64 1] w fun e w' => (∃ x, e = .returned x ∧ StateO w' w.heap.size x A1) ∧ Ext w w' := after_val v S 1 w A1 hv fit_1 after1
theorem after_6 (v : Value) (S : Nat → Prop) (w : World) (hv : Funcs w S v countP) : Calls Try.prog 43 #[v, .int .i64 6] w fun e w' => (∃ x, e = .returned x ∧ StateO w' w.heap.size x A6) ∧ Ext w w' := after_val v S 6 w A6 hv fit_6 after6
theorem after_7 (v : Value) (S : Nat → Prop) (w : World) (hv : Funcs w S v countP) : Calls Try.prog 43 #[v, .int .i64 7] w fun e w' => (∃ x, e = .returned x ∧ StateO w' w.heap.size x A7) ∧ Ext w w' := after_val v S 7 w A7 hv fit_7 after7

theorem stateBegun_any (w : World) : Calls Try.prog 23 #[] w fun e w' => e = .returned (.bool true) ∧ Ext w w' := by
  have RA := alloc_keep
  go_enter Try.func23, Try.ntmps23
  go_upto_region 2 with (first
    | (go_at_call 36; refine (count_any _).mono ?_; rintro e w1 ⟨⟨v, rfl, hv⟩, hb1⟩; have hf := hv.funcs)
    | (go_at_call 20; (with_reducible refine (begin_val _ _ _ hf).mono ?_); rintro e w2 ⟨⟨a1, c1, d1, e1, rfl, hs1⟩, hb2⟩))
  have X1 := Lib.hid (BoxT.new hs1 43)
  have E1 : Hid (Ext w (w2.alloc (.cells #[.slice a1 1 c1, .int .i64 0, .slice d1 0 e1] 43))) := by unfold Hid; ((repeat (first | assumption | exact Ext.refl _ | (exact And.left (by assumption)) | refine Ext.alloc ?_ _ | refine Ext.drew ?_ | refine Ext.drewN ?_ _ | refine Ext.setCell ?_ (by simp) _ | refine Ext.setCell ?_ (by simp; omega) _ | refine Ext.trans ?_ (by assumption))); done)
  clear hf hv hb1 hb2 hs1
  generalize w2.heap.size = b1 at *
  generalize w2.alloc (.cells #[.slice a1 1 c1, .int .i64 0, .slice d1 0 e1] 43) = w3 at *
  rename World => w3
  go_upto_region 3 with (first
    | (go_at_call 36; refine (count_any _).mono ?_; rintro e w1 ⟨⟨v, rfl, hv⟩, hb1⟩; have hf := hv.funcs)
    | (go_at_call 43; (with_reducible refine (after_6 _ _ _ hf).mono ?_); rintro e w4 ⟨⟨x, rfl, hx⟩, hb2⟩; obtain ⟨P2, a2, c2, d2, e2, rfl, ho2, hg2, hv2⟩ := hx.boxed (n := 2) (m := 0) (k := 1) rfl rfl rfl hb2.size 43))
  have hE2 : Ext w3 (w4.alloc (.cells #[.slice a2 2 c2, .int .i64 1, .slice d2 0 e2] 43)) := by ((repeat (first | assumption | exact Ext.refl _ | (exact And.left (by assumption)) | refine Ext.alloc ?_ _ | refine Ext.drew ?_ | refine Ext.drewN ?_ _ | refine Ext.setCell ?_ (by simp) _ | refine Ext.setCell ?_ (by simp; omega) _ | refine Ext.trans ?_ (by assumption))); done)
  have hw1 : w3.heap.size ≤ w1.heap.size := hb1.size
  have HO2 := Lib.hid ho2
  have HG2 := Lib.hid hg2
  have HV2 := Lib.hid hv2
  clear hf hv hb1 hb2 ho2 hg2 hv2 hx
  generalize hbx : w4.heap.size = b2 at *
  generalize w4.alloc (.cells #[.slice a2 2 c2, .int .i64 1, .slice d2 0 e2] 43) = W4 at *
  clear hbx
  rename World => W4
  have hwb : w1.heap.size ≤ b2 := HO2.out.le
  have X2 := Lib.hid (HO2.out.boxT HG2.out (n := 2) (m := 0) (k := 1) rfl rfl rfl)
  have X1 := Lib.hid (X1.out.ext hE2)
  have E2 := Lib.hid (E1.out.trans hE2)
  clear HO2 HG2 HV2 hE2 hw1 hwb E1
  go_upto_region 4 with (first
    | (go_at_call 36; refine (count_any _).mono ?_; rintro e w1 ⟨⟨v, rfl, hv⟩, hb1⟩; have hf := hv.funcs)
    | (go_at_call 43; (with_reducible refine (after_6 _ _ _ hf).mono ?_); rintro e w4 ⟨⟨x, rfl, hx⟩, hb2⟩; obtain ⟨P2, a2, c2, d2, e2, rfl, ho2, hg2, hv2⟩ := hx.boxed (n := 2) (m := 0) (k := 1) rfl rfl rfl hb2.size 43))
  have hE3 : Ext W4 (w4.alloc (.cells #[.slice a2 2 c2, .int .i64 1, .slice d2 0 e2] 43)) := by ((repeat (first | assumption | exact Ext.refl _ | (exact And.left (by assumption)) | refine Ext.alloc ?_ _ | refine Ext.drew ?_ | refine Ext.drewN ?_ _ | refine Ext.setCell ?_ (by simp) _ | refine Ext.setCell ?_ (by simp; omega) _ | refine Ext.trans ?_ (by assumption))); done)
  have hw1 : W4.heap.size ≤ w1.heap.size := hb1.size
  have HO2 := Lib.hid ho2
  have HG2 := Lib.hid hg2
  have HV2 := Lib.hid hv2
  clear hf hv hb1 hb2 ho2 hg2 hv2 hx
  generalize hbx : w4.heap.size = b3 at *
  generalize w4.alloc (.cells #[.slice a2 2 c2, .int .i64 1, .slice d2 0 e2] 43) = W5 at *
  clear hbx
  rename World => W5
  have hwb : w1.heap.size ≤ b3 := HO2.out.le
  have hbb : W4.heap.size ≤ b3 := Nat.le_trans hw1 hwb
  obtain ⟨k1, k1'⟩ := (HO2.out).c1
  have k1 : W5.cell? ⟨b3, 1, none⟩ = some (.int .i64 1) := by
    have h : P2.now = 1 := by have := congrArg GState.now HG2.out; exact this
    rw [← h]; exact k1
  go_upto_region 5 with fail
  have hown : OwnS (W5.setCell ⟨b3, 1, none⟩ (.int .i64 0)) w1.heap.size b3 _ := (HO2.out).setNow 0 I64.zero
  have hEn : Ext W4 (W5.setCell ⟨b3, 1, none⟩ (.int .i64 0)) := hE3.setCell (p := ⟨b3, 1, none⟩) hbb _
  have X3 := Lib.hid (hown.boxT (s := AY) ((PState.g_now HG2.out 0).trans rfl) (n := 2) (m := 0) (k := 0) rfl rfl rfl)
  have X1 := Lib.hid (X1.out.ext hEn)
  have X2 := Lib.hid (X2.out.ext hEn)
  have E2 := Lib.hid (E2.out.trans hEn)
  generalize W5.setCell ⟨b3, 1, none⟩ (.int .i64 0) = W6 at *
  clear HO2 HG2 HV2 hE3 hw1 hwb hbb k1 k1' hown hEn
  rename World => W6
  go_upto_region 6 with (first
    | (go_at_call 36; refine (count_any _).mono ?_; rintro e w1 ⟨⟨v, rfl, hv⟩, hb1⟩; have hf := hv.funcs)
    | (go_at_call 43; (with_reducible refine (after_7 _ _ _ hf).mono ?_); rintro e w4 ⟨⟨x, rfl, hx⟩, hb2⟩; obtain ⟨P2, a2, c2, d2, e2, rfl, ho2, hg2, hv2⟩ := hx.boxed (n := 2) (m := 0) (k := 0) rfl rfl rfl hb2.size 43))
  have hE4 : Ext W6 (w4.alloc (.cells #[.slice a2 2 c2, .int .i64 0, .slice d2 0 e2] 43)) := by ((repeat (first | assumption | exact Ext.refl _ | (exact And.left (by assumption)) | refine Ext.alloc ?_ _ | refine Ext.drew ?_ | refine Ext.drewN ?_ _ | refine Ext.setCell ?_ (by simp) _ | refine Ext.setCell ?_ (by simp; omega) _ | refine Ext.trans ?_ (by assumption))); done)
  have hw1 : W6.heap.size ≤ w1.heap.size := hb1.size
  have HO2 := Lib.hid ho2
  have HG2 := Lib.hid hg2
  have HV2 := Lib.hid hv2
  clear hf hv hb1 hb2 ho2 hg2 hv2 hx
  generalize hbx : w4.heap.size = b4 at *
  generalize w4.alloc (.cells #[.slice a2 2 c2, .int .i64 0, .slice d2 0 e2] 43) = W8 at *
  clear hbx
  rename World => W8
  have hwb : w1.heap.size ≤ b4 := HO2.out.le
  have hbb : W6.heap.size ≤ b4 := Nat.le_trans hw1 hwb
  obtain ⟨y1, y2, x1, x2, hsp, hx1, hf1, hf2, hc1, hc2, hnw, hou⟩ := two_fibers HG2.out
  obtain ⟨g, o, cap, hvf, _, d0, _, _⟩ := (HO2.out).place hsp.fs
  obtain ⟨gf, of, cf, hyf, _, _, _, _, q2, q3, hblf⟩ := (HO2.out).spot hsp
  have hvf2 := HV2.out
  rw [hvf] at hvf2
  simp only [Value.slice.injEq] at hvf2
  obtain ⟨rfl, -, rfl⟩ := hvf2
  rw [hyf] at d0
  obtain ⟨k0, k0'⟩ := (HO2.out).c0
  rw [HV2.out] at k0
  have HSP := Lib.hid hsp
  have HYF := Lib.hid hyf
  have HX := Lib.hid (⟨hx1, hf1, hf2, hc1, hc2, hnw, hou⟩ : _ ∧ _ ∧ _ ∧ _ ∧ _ ∧ _ ∧ _)
  have q3w := q3.ext ((Ext.refl W8).alloc (.cells #[.int .i64 1] 3))
  obtain ⟨d0, d0'⟩ := (show Cx W8 g (o + 2) (.slice (some ⟨gf, of, none⟩) 1 cf) from d0)
  obtain ⟨q3, q3'⟩ := (show Cx W8 gf (of + 3) x2.vs from q3)
  obtain ⟨q3w, q3w'⟩ := (show Cx _ gf (of + 3) x2.vs from q3w)
  go_upto_region 7 with fail
  have hgf : W6.heap.size ≤ gf := Nat.le_trans hw1 ((HO2.out).ge gf (List.mem_cons_of_mem _ (hsp.bl (.inl hblf))))
  have hown : OwnS ((W8.alloc (.cells #[.int .i64 1] 3)).setCell ⟨gf, of + 3, none⟩ (.slice (some ⟨W8.heap.size, 0, none⟩) 1 1)) w1.heap.size b4 _ := ((HO2.out).stack HSP.out HYF.out (W1 := W8.alloc (.cells #[.int .i64 1] 3)) (st := [1]) (v1 := .slice (some ⟨W8.heap.size, 0, none⟩) 1 1) (Chg.of_ext ((Ext.refl _).alloc _)) (ints_one W8 1 _ (Nat.le_trans (HO2.out).le (Nat.le_of_lt (HO2.out).c0.lt)) _) (fun k hk => by rw [List.mem_singleton.1 hk]; exact I64.small (by decide) (by decide)) (by show 1 ≤ 1000; omega) (.inr (fun k hk => by rw [rowBlock_some _ _ _ _ (by decide)] at hk; cases hk; exact Nat.le_refl _))).1
  have hEn : Ext W6 ((W8.alloc (.cells #[.int .i64 1] 3)).setCell ⟨gf, of + 3, none⟩ (.slice (some ⟨W8.heap.size, 0, none⟩) 1 1)) := (hE4.alloc _).setCell (p := ⟨gf, of + 3, none⟩) hgf _
  have X4 := Lib.hid (hown.boxT (s := AZ) ((g_two HX.out).trans (by rw [hf2]; rfl)) (n := 2) (m := 0) (k := 0) rfl rfl rfl)
  have X1 := Lib.hid (X1.out.ext hEn)
  have X2 := Lib.hid (X2.out.ext hEn)
  have X3 := Lib.hid (X3.out.ext hEn)
  have E2 := Lib.hid (E2.out.trans hEn)
  generalize (W8.alloc (.cells #[.int .i64 1] 3)).setCell ⟨gf, of + 3, none⟩ (.slice (some ⟨W8.heap.size, 0, none⟩) 1 1) = W9 at *
  clear HO2 HG2 HV2 hE4 hw1 hwb hbb hown hEn HSP HYF HX hsp hx1 hf1 hf2 hc1 hc2 hnw hou hyf hvf d0 d0' q2 q3 q3' q3w q3w' k0 k0' hblf hgf
  rename World => W9
  go_upto_region 8 with (first
    | (go_at_call 36; refine (count_any _).mono ?_; rintro e w1 ⟨⟨v, rfl, hv⟩, hb1⟩; have hf := hv.funcs)
    | (go_at_call 43; (with_reducible refine (after_1 _ _ _ hf).mono ?_); rintro e w4 ⟨⟨x, rfl, hx⟩, hb2⟩; obtain ⟨P2, a2, c2, d2, e2, rfl, ho2, hg2, hv2⟩ := hx.boxed (n := 2) (m := 0) (k := 0) rfl rfl rfl hb2.size 43))
  have hE5 : Ext W9 (w4.alloc (.cells #[.slice a2 2 c2, .int .i64 0, .slice d2 0 e2] 43)) := by ((repeat (first | assumption | exact Ext.refl _ | (exact And.left (by assumption)) | refine Ext.alloc ?_ _ | refine Ext.drew ?_ | refine Ext.drewN ?_ _ | refine Ext.setCell ?_ (by simp) _ | refine Ext.setCell ?_ (by simp; omega) _ | refine Ext.trans ?_ (by assumption))); done)
  have hw1 : W9.heap.size ≤ w1.heap.size := hb1.size
  have HO2 := Lib.hid ho2
  have HG2 := Lib.hid hg2
  have HV2 := Lib.hid hv2
  clear hf hv hb1 hb2 ho2 hg2 hv2 hx
  generalize hbx : w4.heap.size = b5 at *
  generalize w4.alloc (.cells #[.slice a2 2 c2, .int .i64 0, .slice d2 0 e2] 43) = Wl5 at *
  clear hbx
  rename World => Wl5
  have hwb : w1.heap.size ≤ b5 := HO2.out.le
  have hbb : W9.heap.size ≤ b5 := Nat.le_trans hw1 hwb
  obtain ⟨y1, y2, x1, x2, hsp, hx1, hf1, hf2, hc1, hc2, hnw, hou⟩ := two_fibers HG2.out
  obtain ⟨g, o, cap, hvf, _, d0, _, _⟩ := (HO2.out).place hsp.fs
  obtain ⟨gf, of, cf, hyf, _, _, _, _, q2, q3, hblf⟩ := (HO2.out).spot hsp
  have hvf2 := HV2.out
  rw [hvf] at hvf2
  simp only [Value.slice.injEq] at hvf2
  obtain ⟨rfl, -, rfl⟩ := hvf2
  rw [hyf] at d0
  obtain ⟨k0, k0'⟩ := (HO2.out).c0
  rw [HV2.out] at k0
  have HSP := Lib.hid hsp
  have HYF := Lib.hid hyf
  have HX := Lib.hid (⟨hx1, hf1, hf2, hc1, hc2, hnw, hou⟩ : _ ∧ _ ∧ _ ∧ _ ∧ _ ∧ _ ∧ _)
  have hxO := ((HO2.out).fs y2 (by rw [hsp.fs]; simp)).fr x2 (by rw [hsp.fr]; simp)
  obtain ⟨al9, cl9, ex, _, _⟩ := hxO.l.shape
  have hl1 : x2.f.locals.length = 1 := by rw [hf2]; rfl
  rw [hl1] at ex
  have hlr := hxO.l
  rw [ex, hl1] at hlr
  obtain ⟨gl, ol, rfl, hgB, hcells⟩ := hlr.cell (by omega)
  obtain ⟨q0, q0'⟩ := hcells 0 (by omega)
  rw [ints_get _ _ (by omega)] at q0
  rw [ex] at q2
  have HEX := Lib.hid ex
  have hgl : W9.heap.size ≤ gl := Nat.le_trans hw1 hgB
  obtain ⟨d0, d0'⟩ := (show Cx Wl5 g (o + 2) (.slice (some ⟨gf, of, none⟩) 1 cf) from d0)
  obtain ⟨q2, q2'⟩ := (show Cx Wl5 gf (of + 2) (.slice (some ⟨gl, ol, none⟩) 1 cl9) from q2)
  have q0 : Wl5.cell? ⟨gl, ol, none⟩ = some (.int .i64 (x2.f.locals.getD 0 0)) := q0
  have q0' : Wl5.frozen? ⟨gl, ol, none⟩ = false := q0'
  clear hcells hlr hxO ex
  go_upto_region 9 with fail
  have hown : OwnS (Wl5.setCell ⟨gl, ol, none⟩ (.int .i64 1)) w1.heap.size b5 _ := ((HO2.out).setLocal HSP.out HEX.out 0 (by omega) 1 (I64.small (by decide) (by decide))).1
  have hEn : Ext W9 (Wl5.setCell ⟨gl, ol, none⟩ (.int .i64 1)) := hE5.setCell (p := ⟨gl, ol, none⟩) hgl _
  have X5 := Lib.hid (hown.boxT (s := AU) ((g_two HX.out).trans (by rw [hf2]; rfl)) (n := 2) (m := 0) (k := 0) rfl rfl rfl)
  have X1 := Lib.hid (X1.out.ext hEn)
  have X2 := Lib.hid (X2.out.ext hEn)
  have X3 := Lib.hid (X3.out.ext hEn)
  have X4 := Lib.hid (X4.out.ext hEn)
  have E2 := Lib.hid (E2.out.trans hEn)
  generalize Wl5.setCell ⟨gl, ol, none⟩ (.int .i64 1) = Wm5 at *
  clear HO2 HG2 HV2 hE5 hw1 hwb hbb hown hEn HSP HYF HX HEX hsp hx1 hf1 hf2 hc1 hc2 hnw hou hyf hvf d0 d0' q2 q2' q3 q0 q0' k0 k0' hblf hgl hgB hl1
  rename World => Wm5
  go_upto_region 10 with (first
    | (go_at_call 36; refine (count_any _).mono ?_; rintro e w1 ⟨⟨v, rfl, hv⟩, hb1⟩; have hf := hv.funcs)
    | (go_at_call 43; (with_reducible refine (after_7 _ _ _ hf).mono ?_); rintro e w4 ⟨⟨x, rfl, hx⟩, hb2⟩; obtain ⟨P2, a2, c2, d2, e2, rfl, ho2, hg2, hv2⟩ := hx.boxed (n := 2) (m := 0) (k := 0) rfl rfl rfl hb2.size 43))
  have hE6 : Ext Wm5 (w4.alloc (.cells #[.slice a2 2 c2, .int .i64 0, .slice d2 0 e2] 43)) := by ((repeat (first | assumption | exact Ext.refl _ | (exact And.left (by assumption)) | refine Ext.alloc ?_ _ | refine Ext.drew ?_ | refine Ext.drewN ?_ _ | refine Ext.setCell ?_ (by simp) _ | refine Ext.setCell ?_ (by simp; omega) _ | refine Ext.trans ?_ (by assumption))); done)
  have hw1 : Wm5.heap.size ≤ w1.heap.size := hb1.size
  have HO2 := Lib.hid ho2
  have HG2 := Lib.hid hg2
  have HV2 := Lib.hid hv2
  clear hf hv hb1 hb2 ho2 hg2 hv2 hx
  generalize hbx : w4.heap.size = b6 at *
  generalize w4.alloc (.cells #[.slice a2 2 c2, .int .i64 0, .slice d2 0 e2] 43) = Wl6 at *
  clear hbx
  rename World => Wl6
  have hwb : w1.heap.size ≤ b6 := HO2.out.le
  have hbb : Wm5.heap.size ≤ b6 := Nat.le_trans hw1 hwb
  obtain ⟨y1, y2, x1, x2, hsp, hx1, hf1, hf2, hc1, hc2, hnw, hou⟩ := two_fibers HG2.out
  obtain ⟨g, o, cap, hvf, _, d0, _, _⟩ := (HO2.out).place hsp.fs
  obtain ⟨gf, of, cf, hyf, _, _, _, _, q2, q3, hblf⟩ := (HO2.out).spot hsp
  have hvf2 := HV2.out
  rw [hvf] at hvf2
  simp only [Value.slice.injEq] at hvf2
  obtain ⟨rfl, -, rfl⟩ := hvf2
  rw [hyf] at d0
  obtain ⟨k0, k0'⟩ := (HO2.out).c0
  rw [HV2.out] at k0
  have HSP := Lib.hid hsp
  have HYF := Lib.hid hyf
  have HX := Lib.hid (⟨hx1, hf1, hf2, hc1, hc2, hnw, hou⟩ : _ ∧ _ ∧ _ ∧ _ ∧ _ ∧ _ ∧ _)
  have hxO := ((HO2.out).fs y2 (by rw [hsp.fs]; simp)).fr x2 (by rw [hsp.fr]; simp)
  obtain ⟨al9, cl9, ex, _, _⟩ := hxO.l.shape
  have hl1 : x2.f.locals.length = 1 := by rw [hf2]; rfl
  rw [hl1] at ex
  have hlr := hxO.l
  rw [ex, hl1] at hlr
  obtain ⟨gl, ol, rfl, hgB, hcells⟩ := hlr.cell (by omega)
  obtain ⟨q0, q0'⟩ := hcells 0 (by omega)
  rw [ints_get _ _ (by omega)] at q0
  rw [ex] at q2
  have HEX := Lib.hid ex
  have hgl : Wm5.heap.size ≤ gl := Nat.le_trans hw1 hgB
  obtain ⟨d0, d0'⟩ := (show Cx Wl6 g (o + 2) (.slice (some ⟨gf, of, none⟩) 1 cf) from d0)
  obtain ⟨q2, q2'⟩ := (show Cx Wl6 gf (of + 2) (.slice (some ⟨gl, ol, none⟩) 1 cl9) from q2)
  have q0 : Wl6.cell? ⟨gl, ol, none⟩ = some (.int .i64 (x2.f.locals.getD 0 0)) := q0
  have q0' : Wl6.frozen? ⟨gl, ol, none⟩ = false := q0'
  clear hcells hlr hxO ex
  go_upto_region 11 with fail
  have hown : OwnS (Wl6.setCell ⟨gl, ol, none⟩ (.int .i64 1)) w1.heap.size b6 _ := ((HO2.out).setLocal HSP.out HEX.out 0 (by omega) 1 (I64.small (by decide) (by decide))).1
  have hEn : Ext Wm5 (Wl6.setCell ⟨gl, ol, none⟩ (.int .i64 1)) := hE6.setCell (p := ⟨gl, ol, none⟩) hgl _
  have X6 := Lib.hid (hown.boxT (s := AV) ((g_two HX.out).trans (by rw [hf2]; rfl)) (n := 2) (m := 0) (k := 0) rfl rfl rfl)
  have X1 := Lib.hid (X1.out.ext hEn)
  have X2 := Lib.hid (X2.out.ext hEn)
  have X3 := Lib.hid (X3.out.ext hEn)
  have X4 := Lib.hid (X4.out.ext hEn)
  have X5 := Lib.hid (X5.out.ext hEn)
  have E2 := Lib.hid (E2.out.trans hEn)
  generalize Wl6.setCell ⟨gl, ol, none⟩ (.int .i64 1) = Wm6 at *
  clear HO2 HG2 HV2 hE6 hw1 hwb hbb hown hEn HSP HYF HX HEX hsp hx1 hf1 hf2 hc1 hc2 hnw hou hyf hvf d0 d0' q2 q2' q3 q0 q0' k0 k0' hblf hgl hgB hl1
  rename World => Wm6
  obtain ⟨ax1, cx1, dx1, ex1, ⟨x10, -⟩, ⟨x11, -⟩, ⟨x12, -⟩, hs1⟩ := (X1.out).ex
  have HS1 := Lib.hid hs1
  clear hs1
  obtain ⟨ax2, cx2, dx2, ex2, ⟨x20, -⟩, ⟨x21, -⟩, ⟨x22, -⟩, hs2⟩ := (X2.out).ex
  have HS2 := Lib.hid hs2
  clear hs2
  obtain ⟨ax3, cx3, dx3, ex3, ⟨x30, -⟩, ⟨x31, -⟩, ⟨x32, -⟩, hs3⟩ := (X3.out).ex
  have HS3 := Lib.hid hs3
  clear hs3
  obtain ⟨ax4, cx4, dx4, ex4, ⟨x40, -⟩, ⟨x41, -⟩, ⟨x42, -⟩, hs4⟩ := (X4.out).ex
  have HS4 := Lib.hid hs4
  clear hs4
  obtain ⟨ax5, cx5, dx5, ex5, ⟨x50, -⟩, ⟨x51, -⟩, ⟨x52, -⟩, hs5⟩ := (X5.out).ex
  have HS5 := Lib.hid hs5
  clear hs5
  obtain ⟨ax6, cx6, dx6, ex6, ⟨x60, -⟩, ⟨x61, -⟩, ⟨x62, -⟩, hs6⟩ := (X6.out).ex
  have HS6 := Lib.hid hs6
  clear hs6
  go_region_held3 (fun w' => Ext Wm6 w' ∧ ∀ a, (Wm6.cell? a).isSome = true → w'.cell? a = Wm6.cell? a)
    ((refine ext_both ?_; ((repeat (first | assumption | exact Ext.refl _ | (exact And.left (by assumption)) | refine Ext.alloc ?_ _ | refine Ext.drew ?_ | refine Ext.drewN ?_ _ | refine Ext.setCell ?_ (by simp) _ | refine Ext.setCell ?_ (by simp; omega) _ | refine Ext.trans ?_ (by assumption))); done)))
    ((first
      | (go_at_call 36; refine (count_any _).mono ?_; rintro e w1 ⟨⟨v, rfl, hv⟩, hb1⟩; have hf := hv.funcs)
      | (go_at_call 22; (with_reducible refine (beginOf_val _ _ _ hf).mono ?_); rintro e w2 ⟨⟨x, rfl, hx⟩, hb2⟩)
      | (go_at_call 24; (with_reducible refine (sameStates_any _ _ _ _ _ _ _ (StateV.stays (Ext.stays (by ((repeat (first | assumption | exact Ext.refl _ | (exact And.left (by assumption)) | refine Ext.alloc ?_ _ | refine Ext.drew ?_ | refine Ext.drewN ?_ _ | refine Ext.setCell ?_ (by simp) _ | refine Ext.setCell ?_ (by simp; omega) _ | refine Ext.trans ?_ (by assumption))); done))) HS1.out) hx).mono ?_); rintro e w3 ⟨rfl, hb3⟩; rw [show decide ((⟨[⟨[⟨0, 0, [0], []⟩], -1⟩], 0, []⟩ : GState) = ⟨[⟨[⟨0, 0, [0], []⟩], -1⟩], 0, []⟩) = true by decide])
      | (go_at_call 25; (with_reducible refine (stateCheck_any countP _ _ _ _ _ _ hf (StateV.stays (Ext.stays (by ((repeat (first | assumption | exact Ext.refl _ | (exact And.left (by assumption)) | refine Ext.alloc ?_ _ | refine Ext.drew ?_ | refine Ext.drewN ?_ _ | refine Ext.setCell ?_ (by simp) _ | refine Ext.setCell ?_ (by simp; omega) _ | refine Ext.trans ?_ (by assumption))); done))) HS1.out)).mono ?_); rintro e w5 ⟨rfl, hb5⟩; rw [errB])
      | (go_at_call 25; (with_reducible refine (stateCheck_any countP _ _ _ _ _ _ hf (StateV.stays (Ext.stays (by ((repeat (first | assumption | exact Ext.refl _ | (exact And.left (by assumption)) | refine Ext.alloc ?_ _ | refine Ext.drew ?_ | refine Ext.drewN ?_ _ | refine Ext.setCell ?_ (by simp) _ | refine Ext.setCell ?_ (by simp; omega) _ | refine Ext.trans ?_ (by assumption))); done))) HS2.out)).mono ?_); rintro e w5 ⟨rfl, hb5⟩; rw [err6])
      | (go_at_call 25; (with_reducible refine (stateCheck_any countP _ _ _ _ _ _ hf (StateV.stays (Ext.stays (by ((repeat (first | assumption | exact Ext.refl _ | (exact And.left (by assumption)) | refine Ext.alloc ?_ _ | refine Ext.drew ?_ | refine Ext.drewN ?_ _ | refine Ext.setCell ?_ (by simp) _ | refine Ext.setCell ?_ (by simp; omega) _ | refine Ext.trans ?_ (by assumption))); done))) HS3.out)).mono ?_); rintro e w5 ⟨rfl, hb5⟩; rw [errY])
      | (go_at_call 25; (with_reducible refine (stateCheck_any countP _ _ _ _ _ _ hf (StateV.stays (Ext.stays (by ((repeat (first | assumption | exact Ext.refl _ | (exact And.left (by assumption)) | refine Ext.alloc ?_ _ | refine Ext.drew ?_ | refine Ext.drewN ?_ _ | refine Ext.setCell ?_ (by simp) _ | refine Ext.setCell ?_ (by simp; omega) _ | refine Ext.trans ?_ (by assumption))); done))) HS4.out)).mono ?_); rintro e w5 ⟨rfl, hb5⟩; rw [errZ])
      | (go_at_call 25; (with_reducible refine (stateCheck_any countP _ _ _ _ _ _ hf (StateV.stays (Ext.stays (by ((repeat (first | assumption | exact Ext.refl _ | (exact And.left (by assumption)) | refine Ext.alloc ?_ _ | refine Ext.drew ?_ | refine Ext.drewN ?_ _ | refine Ext.setCell ?_ (by simp) _ | refine Ext.setCell ?_ (by simp; omega) _ | refine Ext.trans ?_ (by assumption))); done))) HS5.out)).mono ?_); rintro e w5 ⟨rfl, hb5⟩; rw [errU])
      | (go_at_call 25; (with_reducible refine (stateCheck_any countP _ _ _ _ _ _ hf (StateV.stays (Ext.stays (by ((repeat (first | assumption | exact Ext.refl _ | (exact And.left (by assumption)) | refine Ext.alloc ?_ _ | refine Ext.drew ?_ | refine Ext.drewN ?_ _ | refine Ext.setCell ?_ (by simp) _ | refine Ext.setCell ?_ (by simp; omega) _ | refine Ext.trans ?_ (by assumption))); done))) HS6.out)).mono ?_); rintro e w5 ⟨rfl, hb5⟩; rw [errV])
      | (go_at_call 25; (with_reducible refine (stateCheck_any countP _ _ _ _ _ _ hf (stateV_nil _ (fun _ => True))).mono ?_); rintro e w5 ⟨rfl, hb5⟩; rw [errN])))
  all_goals
    go_wp2_with fail
    go_ret
    exact ⟨rfl, E2.out.trans (by ((repeat (first | assumption | exact Ext.refl _ | (exact And.left (by assumption)) | refine Ext.alloc ?_ _ | refine Ext.drew ?_ | refine Ext.drewN ?_ _ | refine Ext.setCell ?_ (by simp) _ | refine Ext.setCell ?_ (by simp; omega) _ | refine Ext.trans ?_ (by assumption))); done))⟩
end Go.Proofs.Ytpomcbginkhlbaa
end
