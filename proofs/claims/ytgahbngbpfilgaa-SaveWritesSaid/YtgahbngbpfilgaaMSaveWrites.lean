/- SaveWrites: Write and Read answer just what the document says. No condition. Printed by wip/gen_savewrites.py. -/
import Derived.Test.YtgahbngbpfilgaaGBAA
import Derived.Test.YtgahbngbpfilgaaGBAB
import Derived.Test.YtgahbngbpfilgaaGBBG
namespace Go.Proofs.Ytgahbngbpfilgaa.saveWrites
set_option maxHeartbeats 4000000
set_option maxRecDepth 100000
open Go Go.RowKit Go.ChangeShapes Go.WideShapes Go.ChangeAt

theorem walk (w : World) (p : List GFunc) (v : Value) (hp : Funcs w (fun _ => True) v p) (s : GState) (vs : Value) (hs : StateV w (fun _ => True) vs s) (bb : ByteArray) (_ : bb.size ≤ maxLen) :
    Calls Try.prog 3 #[v, vs, .string bb] w fun e w' => e = .returned (.bool true) ∧ Ext w w' := by
  obtain ⟨b, rfl⟩ : ∃ b : List UInt8, bb = ⟨b.toArray⟩ := ⟨bb.data.toList, by cases bb; simp⟩
  have HP := Lib.hid hp
  obtain ⟨ap, capp, rfl, _, _, _⟩ := hp
  obtain ⟨sf, sn, so⟩ := s
  have HS := Lib.hid hs
  obtain ⟨sa, sc, sb, sd, rfl⟩ := few3 hs
  have RA := alloc_keep
  have b0 := (Cx.new w [.slice sa sf.length sc, .int .i64 sn, .slice sb so.length sd] 26 (j := 0) rfl).1
  have b1 := (Cx.new w [.slice sa sf.length sc, .int .i64 sn, .slice sb so.length sd] 26 (j := 1) rfl).1
  have b2 := (Cx.new w [.slice sa sf.length sc, .int .i64 sn, .slice sb so.length sd] 26 (j := 2) rfl).1
  have E0 : Hid (Ext w (w.alloc (.cells #[.slice sa sf.length sc, .int .i64 sn, .slice sb so.length sd] 26))) := (Ext.refl w).alloc _
  obtain ⟨r, hr⟩ : ∃ r, stateErr p ⟨sf, sn, so⟩ = r := ⟨_, rfl⟩
  obtain ⟨t, ht⟩ : ∃ t, writeS p ⟨sf, sn, so⟩ = t := ⟨_, rfl⟩
  have HR := Lib.hid hr
  have HT := Lib.hid ht
  clear hs
  obtain ⟨W0, hW0⟩ : ∃ W0, W0 = w.alloc (.cells #[.slice sa sf.length sc, .int .i64 sn, .slice sb so.length sd] 26) := ⟨_, rfl⟩
  rw [← hW0] at b0 b1 b2 E0
  have HS0 := Lib.hid (StateV.stays (Ext.stays E0.out) HS.out)
  have HP0 := Lib.hid (Funcs.stays (Ext.stays E0.out) HP.out)
  clear hr ht
  go_enter Try.func3, Try.ntmps3
  go_upto_region 1 with fail
  rw [← hW0]
  clear hW0
  generalize w.heap.size = sx at *
  go_upto_region 2 with (first
    | (go_at_call 9; (with_reducible refine (write_val p _ _ _ ⟨sf, sn, so⟩ _ _ HP0.out HS0.out HT.out HR.out).mono ?_); rintro e w1 ⟨rfl, hb1⟩))
  have E1 := Lib.hid (E0.out.trans hb1)
  replace b0 := Ext.cell hb1 b0
  replace b1 := Ext.cell hb1 b1
  replace b2 := Ext.cell hb1 b2
  clear hb1 E0 HS0 HP0
  rename World => u1
  go_upto_region 3 with (first
    | (go_at_call 10; (with_reducible refine (stateError_any p _ _ _ ⟨sf, sn, so⟩ _ _ (Funcs.stays (Ext.stays E1.out) HP.out) (StateV.stays (Ext.stays E1.out) HS.out)).mono ?_); rintro e w2 ⟨rfl, hb2⟩; rw [HR.out]))
  have E1 := Lib.hid (E1.out.trans hb2)
  replace b0 := Ext.cell hb2 b0
  replace b1 := Ext.cell hb2 b1
  replace b2 := Ext.cell hb2 b2
  clear hb2
  rename World => u2
  obtain ⟨s0, rr, htd, hcase⟩ := read_cases p b
  have HTD := Lib.hid htd
  have HCASE := Lib.hid hcase
  clear htd hcase
  by_cases hz : r = 0
  · subst hz
    have HTL : Hid (stateL ⟨sf, sn, so⟩ = t) := by unfold Hid; rw [← HT.out]; unfold writeS; rw [if_pos HR.out]
    have HMI := Lib.hid (mini_of HR.out)
    go_upto_region 6 with (first
      | (go_at_call 11; (with_reducible refine (stateBytes_any ⟨sf, sn, so⟩ _ _ _ (StateV.stays (Ext.stays E1.out) HS.out) HMI.out).mono ?_); rintro e w3 ⟨rfl, hb3⟩; rw [HTL.out]))
    have E2 := Lib.hid (E1.out.trans hb3)
    clear b0 b1 b2 hb3 E1
    have TR : ((0 : Int) == 0) = true := rfl
    rename World => u3
    rcases HCASE.out with hc | hc | hc | hc
    · obtain ⟨z1, z2, z3, z4⟩ := hc
      obtain ⟨sf0, sn0, so0⟩ := s0
      have HZ := Lib.hid z1
      have HF := Lib.hid z3
      have HY := Lib.hid z4
      have TL : decide (8192 < (b.length : Int)) = false := decide_eq_false (by omega)
      have TL' : decide (8192 < b.length) = false := decide_eq_false (by omega)
      clear z1 z2 z3 z4
      go_upto_region 7 with (first
        | (go_at_call 12; (with_reducible refine (read_val p _ _ b _ (Funcs.stays (Ext.stays E2.out) HP.out) HY.out (n := sf0.length) (m := so0.length) (k := sn0) rfl rfl rfl).mono ?_); rintro e w4 ⟨⟨xa, xc, xb, xd, rfl, hxv⟩, hb4⟩))
      have X5 := Lib.hid (Cx3.new w4 (.slice xa sf0.length xc) (.int .i64 sn0) (.slice xb so0.length xd) 26)
      have e5 : Ext w4 (w4.alloc (.cells #[.slice xa sf0.length xc, .int .i64 sn0, .slice xb so0.length xd] 26)) := (Ext.refl _).alloc _
      have HXV := Lib.hid (StateV.stays (Ext.stays e5) hxv)
      have E5 := Lib.hid ((E2.out.trans hb4).trans e5)
      clear hb4 e5 hxv E2
      obtain ⟨xx, hxx⟩ : ∃ xx, w4.heap.size = xx := ⟨_, rfl⟩
      rw [hxx] at X5 ⊢
      clear hxx
      generalize w4.alloc (.cells #[.slice xa sf0.length xc, .int .i64 sn0, .slice xb so0.length xd] 26) = u5 at *
      rename World => u5
      go_upto_region 8 with (first
        | (go_at_call 13; (with_reducible refine (progError_any p _ _ _ (Funcs.stays (Ext.stays E5.out) HP.out)).mono ?_); rintro e w6 ⟨rfl, hb6⟩; rw [HZ.out]))
      have X6 := Lib.hid (X5.out.ext hb6)
      have HXV := Lib.hid (StateV.stays (Ext.stays hb6) HXV.out)
      have E6 := Lib.hid (E5.out.trans hb6)
      clear hb6 X5 E5
      rename World => u6
      go_upto_region 9 with fail
      have Y7 := Lib.hid (Cx3.new u6 (.slice none 0 0) (.int .i64 0) (.slice none 0 0) 26)
      have e7 : Ext u6 (u6.alloc (.cells #[.slice none 0 0, .int .i64 0, .slice none 0 0] 26)) := (Ext.refl _).alloc _
      have X7 := Lib.hid (X6.out.ext e7)
      have HXV := Lib.hid (StateV.stays (stays_lt (B := u6.heap.size) e7 (Nat.le_refl _)) HXV.out)
      have HYX := Lib.hid (show w.heap.size ≤ u6.heap.size from E6.out.size)
      have hxy : xx < u6.heap.size := X6.out.c0.lt
      have E7 := Lib.hid (E6.out.trans e7)
      clear e7 X6 E6
      obtain ⟨yy, hyy⟩ : ∃ yy, u6.heap.size = yy := ⟨_, rfl⟩
      obtain ⟨u7, hu7⟩ : ∃ u7, u7 = u6.alloc (.cells #[.slice none 0 0, .int .i64 0, .slice none 0 0] 26) := ⟨_, rfl⟩
      rw [← hu7] at Y7 X7 HXV E7 ⊢
      rw [hyy] at Y7 hxy HXV HYX ⊢
      clear hyy hu7
      go_upto_region 14 with (first
        | (go_at_call 14; (with_reducible refine (from_val p _ _ b rr ⟨sf0, sn0, so0⟩ ⟨sf0, sn0, so0⟩ true _ (Funcs.stays (Ext.stays E7.out) HP.out) HTD.out HF.out (n := sf0.length) (m := so0.length) (k := sn0) rfl rfl rfl).mono ?_); rintro e w8 ⟨⟨ya, yc, yb, yd, rfl, hyv⟩, hb8⟩; obtain ⟨⟨y0, y0'⟩, ⟨y1, y1'⟩, ⟨y2, y2'⟩⟩ := Y7.out.ext hb8))
      have Y9 := Lib.hid ((Y7.out.ext hb8).all (.slice ya sf0.length yc) (.int .i64 sn0) (.slice yb so0.length yd))
      have hck := chg3 w8 yy (.slice ya sf0.length yc) (.int .i64 sn0) (.slice yb so0.length yd)
      have X9 := Lib.hid ((X7.out.ext hb8).chg hck (fun e => by have e2 : xx = yy := e; omega))
      have hyl : yy < u7.heap.size := Y7.out.c0.lt
      have HYV9 := Lib.hid (StateV.stays (hck.stays (fun b hb e => by have e2 : b = yy := e; have hb2 : u7.heap.size ≤ b := hb; omega)) hyv)
      have E9 := Lib.hid (Chg.ext_from (E7.out.trans hb8) hck (fun q e => by have e2 : q = yy := e; have := HYX.out; omega))
      have HXV9 := Lib.hid (StateV.stays (hck.stays (fun b hb e => by have e2 : b = yy := e; have hb2 : b < yy := hb; omega)) (StateV.stays (Ext.stays hb8) HXV.out))
      clear y0 y0' y1 y1' y2 y2' hck hyv hb8 X7 Y7 E7 HXV
      generalize ((w8.setCell ⟨yy, 0, none⟩ (.slice ya sf0.length yc)).setCell ⟨yy, 1, none⟩ (.int .i64 sn0)).setCell ⟨yy, 2, none⟩ (.slice yb so0.length yd) = u9 at *
      rename World => u9
      obtain ⟨⟨x0, -⟩, ⟨x1, -⟩, ⟨x2, -⟩⟩ := X9.out
      obtain ⟨⟨y0, -⟩, ⟨y1, -⟩, ⟨y2, -⟩⟩ := Y9.out
      go_wp2_with (first
        | (go_at_call 15; (with_reducible refine (saveBegun_any _).mono ?_); rintro e w10 ⟨rfl, hb10⟩; have p0 := Ext.cell hb10 x0; have p1 := Ext.cell hb10 x1; have p2 := Ext.cell hb10 x2; have q0 := Ext.cell hb10 y0; have q1 := Ext.cell hb10 y1; have q2 := Ext.cell hb10 y2)
        | (go_at_call 16; (with_reducible refine (same_val ⟨sf0, sn0, so0⟩ _ _ _ _ _ (StateV.stays (Ext.stays hb10) HXV9.out) (StateV.stays (Ext.stays hb10) HYV9.out)).mono ?_); rintro e w11 ⟨rfl, hb11⟩))
      go_ret
      exact ⟨rfl, (E9.out.trans hb10).trans hb11⟩
    · obtain ⟨z1, z2, z3, z4⟩ := hc
      have HZ := Lib.hid z1
      have HF := Lib.hid z3
      have HY := Lib.hid z4
      have TL : decide (8192 < (b.length : Int)) = false := decide_eq_false (by omega)
      have TL' : decide (8192 < b.length) = false := decide_eq_false (by omega)
      clear z1 z2 z3 z4
      go_upto_region 7 with (first
        | (go_at_call 12; (with_reducible refine (read_val p _ _ b _ (Funcs.stays (Ext.stays E2.out) HP.out) HY.out (n := 0) (m := 0) (k := 0) rfl rfl rfl).mono ?_); rintro e w4 ⟨⟨xa, xc, xb, xd, rfl, hxv⟩, hb4⟩))
      have X5 := Lib.hid (Cx3.new w4 (.slice xa 0 xc) (.int .i64 0) (.slice xb 0 xd) 26)
      have e5 : Ext w4 (w4.alloc (.cells #[.slice xa 0 xc, .int .i64 0, .slice xb 0 xd] 26)) := (Ext.refl _).alloc _
      have HXV := Lib.hid (StateV.stays (Ext.stays e5) hxv)
      have E5 := Lib.hid ((E2.out.trans hb4).trans e5)
      clear hb4 e5 hxv E2
      obtain ⟨xx, hxx⟩ : ∃ xx, w4.heap.size = xx := ⟨_, rfl⟩
      rw [hxx] at X5 ⊢
      clear hxx
      generalize w4.alloc (.cells #[.slice xa 0 xc, .int .i64 0, .slice xb 0 xd] 26) = u5 at *
      rename World => u5
      go_upto_region 8 with (first
        | (go_at_call 13; (with_reducible refine (progError_any p _ _ _ (Funcs.stays (Ext.stays E5.out) HP.out)).mono ?_); rintro e w6 ⟨rfl, hb6⟩; rw [HZ.out]))
      have X6 := Lib.hid (X5.out.ext hb6)
      have HXV := Lib.hid (StateV.stays (Ext.stays hb6) HXV.out)
      have E6 := Lib.hid (E5.out.trans hb6)
      clear hb6 X5 E5
      rename World => u6
      go_upto_region 9 with fail
      have Y7 := Lib.hid (Cx3.new u6 (.slice none 0 0) (.int .i64 0) (.slice none 0 0) 26)
      have e7 : Ext u6 (u6.alloc (.cells #[.slice none 0 0, .int .i64 0, .slice none 0 0] 26)) := (Ext.refl _).alloc _
      have X7 := Lib.hid (X6.out.ext e7)
      have HXV := Lib.hid (StateV.stays (stays_lt (B := u6.heap.size) e7 (Nat.le_refl _)) HXV.out)
      have HYX := Lib.hid (show w.heap.size ≤ u6.heap.size from E6.out.size)
      have hxy : xx < u6.heap.size := X6.out.c0.lt
      have E7 := Lib.hid (E6.out.trans e7)
      clear e7 X6 E6
      obtain ⟨yy, hyy⟩ : ∃ yy, u6.heap.size = yy := ⟨_, rfl⟩
      obtain ⟨u7, hu7⟩ : ∃ u7, u7 = u6.alloc (.cells #[.slice none 0 0, .int .i64 0, .slice none 0 0] 26) := ⟨_, rfl⟩
      rw [← hu7] at Y7 X7 HXV E7 ⊢
      rw [hyy] at Y7 hxy HXV HYX ⊢
      clear hyy hu7
      go_upto_region 14 with (first
        | (go_at_call 14; (with_reducible refine (from_val p _ _ b rr s0 (⟨[], 0, []⟩ : GState) false _ (Funcs.stays (Ext.stays E7.out) HP.out) HTD.out HF.out (n := 0) (m := 0) (k := 0) rfl rfl rfl).mono ?_); rintro e w8 ⟨⟨ya, yc, yb, yd, rfl, hyv⟩, hb8⟩; obtain ⟨⟨y0, y0'⟩, ⟨y1, y1'⟩, ⟨y2, y2'⟩⟩ := Y7.out.ext hb8))
      have Y9 := Lib.hid ((Y7.out.ext hb8).all (.slice ya 0 yc) (.int .i64 0) (.slice yb 0 yd))
      have hck := chg3 w8 yy (.slice ya 0 yc) (.int .i64 0) (.slice yb 0 yd)
      have X9 := Lib.hid ((X7.out.ext hb8).chg hck (fun e => by have e2 : xx = yy := e; omega))
      have hyl : yy < u7.heap.size := Y7.out.c0.lt
      have HYV9 := Lib.hid (StateV.stays (hck.stays (fun b hb e => by have e2 : b = yy := e; have hb2 : u7.heap.size ≤ b := hb; omega)) hyv)
      have E9 := Lib.hid (Chg.ext_from (E7.out.trans hb8) hck (fun q e => by have e2 : q = yy := e; have := HYX.out; omega))
      have HXV9 := Lib.hid (StateV.stays (hck.stays (fun b hb e => by have e2 : b = yy := e; have hb2 : b < yy := hb; omega)) (StateV.stays (Ext.stays hb8) HXV.out))
      clear y0 y0' y1 y1' y2 y2' hck hyv hb8 X7 Y7 E7 HXV
      generalize ((w8.setCell ⟨yy, 0, none⟩ (.slice ya 0 yc)).setCell ⟨yy, 1, none⟩ (.int .i64 0)).setCell ⟨yy, 2, none⟩ (.slice yb 0 yd) = u9 at *
      rename World => u9
      obtain ⟨⟨x0, -⟩, ⟨x1, -⟩, ⟨x2, -⟩⟩ := X9.out
      obtain ⟨⟨y0, -⟩, ⟨y1, -⟩, ⟨y2, -⟩⟩ := Y9.out
      go_wp2_with (first
        | (go_at_call 15; (with_reducible refine (saveBegun_any _).mono ?_); rintro e w10 ⟨rfl, hb10⟩; have p0 := Ext.cell hb10 x0; have p1 := Ext.cell hb10 x1; have p2 := Ext.cell hb10 x2; have q0 := Ext.cell hb10 y0; have q1 := Ext.cell hb10 y1; have q2 := Ext.cell hb10 y2)
        | (go_at_call 16; (with_reducible refine (same_val (⟨[], 0, []⟩ : GState) _ _ _ _ _ (StateV.stays (Ext.stays hb10) HXV9.out) (StateV.stays (Ext.stays hb10) HYV9.out)).mono ?_); rintro e w11 ⟨rfl, hb11⟩))
      go_ret
      exact ⟨rfl, (E9.out.trans hb10).trans hb11⟩
    · obtain ⟨z1, z2, z4⟩ := hc
      have HZ := Lib.hid z1
      have HY := Lib.hid z4
      have TL : decide (8192 < (b.length : Int)) = true := decide_eq_true (by omega)
      have TL' : decide (8192 < b.length) = true := decide_eq_true (by omega)
      clear z1 z2 z4
      go_upto_region 7 with (first
        | (go_at_call 12; (with_reducible refine (read_val p _ _ b _ (Funcs.stays (Ext.stays E2.out) HP.out) HY.out (n := 0) (m := 0) (k := 0) rfl rfl rfl).mono ?_); rintro e w4 ⟨⟨xa, xc, xb, xd, rfl, hxv⟩, hb4⟩))
      have X5 := Lib.hid (Cx3.new w4 (.slice xa 0 xc) (.int .i64 0) (.slice xb 0 xd) 26)
      have e5 : Ext w4 (w4.alloc (.cells #[.slice xa 0 xc, .int .i64 0, .slice xb 0 xd] 26)) := (Ext.refl _).alloc _
      have HXV := Lib.hid (StateV.stays (Ext.stays e5) hxv)
      have E5 := Lib.hid ((E2.out.trans hb4).trans e5)
      clear hb4 e5 hxv E2
      obtain ⟨xx, hxx⟩ : ∃ xx, w4.heap.size = xx := ⟨_, rfl⟩
      rw [hxx] at X5 ⊢
      clear hxx
      generalize w4.alloc (.cells #[.slice xa 0 xc, .int .i64 0, .slice xb 0 xd] 26) = u5 at *
      rename World => u5
      go_upto_region 8 with (first
        | (go_at_call 13; (with_reducible refine (progError_any p _ _ _ (Funcs.stays (Ext.stays E5.out) HP.out)).mono ?_); rintro e w6 ⟨rfl, hb6⟩; rw [HZ.out]))
      have X6 := Lib.hid (X5.out.ext hb6)
      have HXV := Lib.hid (StateV.stays (Ext.stays hb6) HXV.out)
      have E6 := Lib.hid (E5.out.trans hb6)
      clear hb6 X5 E5
      rename World => u6
      go_upto_region 9 with fail
      have Y7 := Lib.hid (Cx3.new u6 (.slice none 0 0) (.int .i64 0) (.slice none 0 0) 26)
      have e7 : Ext u6 (u6.alloc (.cells #[.slice none 0 0, .int .i64 0, .slice none 0 0] 26)) := (Ext.refl _).alloc _
      have X7 := Lib.hid (X6.out.ext e7)
      have HXV := Lib.hid (StateV.stays (stays_lt (B := u6.heap.size) e7 (Nat.le_refl _)) HXV.out)
      have HYX := Lib.hid (show w.heap.size ≤ u6.heap.size from E6.out.size)
      have hxy : xx < u6.heap.size := X6.out.c0.lt
      have E7 := Lib.hid (E6.out.trans e7)
      clear e7 X6 E6
      obtain ⟨yy, hyy⟩ : ∃ yy, u6.heap.size = yy := ⟨_, rfl⟩
      obtain ⟨u7, hu7⟩ : ∃ u7, u7 = u6.alloc (.cells #[.slice none 0 0, .int .i64 0, .slice none 0 0] 26) := ⟨_, rfl⟩
      rw [← hu7] at Y7 X7 HXV E7 ⊢
      rw [hyy] at Y7 hxy HXV HYX ⊢
      clear hyy hu7
      have X9 := Lib.hid X7.out
      have Y9 := Lib.hid Y7.out
      have HYV9 := Lib.hid (stateV_zero u7 (fun _ => True))
      have HXV9 := Lib.hid HXV.out
      have E9 := Lib.hid E7.out
      clear X7 Y7 E7 HXV
      obtain ⟨⟨x0, -⟩, ⟨x1, -⟩, ⟨x2, -⟩⟩ := X9.out
      obtain ⟨⟨y0, -⟩, ⟨y1, -⟩, ⟨y2, -⟩⟩ := Y9.out
      go_wp2_with (first
        | (go_at_call 15; (with_reducible refine (saveBegun_any _).mono ?_); rintro e w10 ⟨rfl, hb10⟩; have p0 := Ext.cell hb10 x0; have p1 := Ext.cell hb10 x1; have p2 := Ext.cell hb10 x2; have q0 := Ext.cell hb10 y0; have q1 := Ext.cell hb10 y1; have q2 := Ext.cell hb10 y2)
        | (go_at_call 16; (with_reducible refine (same_val (⟨[], 0, []⟩ : GState) _ _ _ _ _ (StateV.stays (Ext.stays hb10) HXV9.out) (StateV.stays (Ext.stays hb10) HYV9.out)).mono ?_); rintro e w11 ⟨rfl, hb11⟩))
      go_ret
      exact ⟨rfl, (E9.out.trans hb10).trans hb11⟩
    · obtain ⟨z1, z4⟩ := hc
      have HY := Lib.hid z4
      have TZ : (progErr p == 0) = false := beq_eq_false_iff_ne.2 z1
      clear z1 z4
      go_upto_region 7 with (first
        | (go_at_call 12; (with_reducible refine (read_val p _ _ b _ (Funcs.stays (Ext.stays E2.out) HP.out) HY.out (n := 0) (m := 0) (k := 0) rfl rfl rfl).mono ?_); rintro e w4 ⟨⟨xa, xc, xb, xd, rfl, hxv⟩, hb4⟩))
      have X5 := Lib.hid (Cx3.new w4 (.slice xa 0 xc) (.int .i64 0) (.slice xb 0 xd) 26)
      have e5 : Ext w4 (w4.alloc (.cells #[.slice xa 0 xc, .int .i64 0, .slice xb 0 xd] 26)) := (Ext.refl _).alloc _
      have HXV := Lib.hid (StateV.stays (Ext.stays e5) hxv)
      have E5 := Lib.hid ((E2.out.trans hb4).trans e5)
      clear hb4 e5 hxv E2
      obtain ⟨xx, hxx⟩ : ∃ xx, w4.heap.size = xx := ⟨_, rfl⟩
      rw [hxx] at X5 ⊢
      clear hxx
      generalize w4.alloc (.cells #[.slice xa 0 xc, .int .i64 0, .slice xb 0 xd] 26) = u5 at *
      rename World => u5
      go_upto_region 8 with (first
        | (go_at_call 13; (with_reducible refine (progError_any p _ _ _ (Funcs.stays (Ext.stays E5.out) HP.out)).mono ?_); rintro e w6 ⟨rfl, hb6⟩))
      have X6 := Lib.hid (X5.out.ext hb6)
      have HXV := Lib.hid (StateV.stays (Ext.stays hb6) HXV.out)
      have E6 := Lib.hid (E5.out.trans hb6)
      clear hb6 X5 E5
      rename World => u6
      go_upto_region 9 with fail
      have Y7 := Lib.hid (Cx3.new u6 (.slice none 0 0) (.int .i64 0) (.slice none 0 0) 26)
      have e7 : Ext u6 (u6.alloc (.cells #[.slice none 0 0, .int .i64 0, .slice none 0 0] 26)) := (Ext.refl _).alloc _
      have X7 := Lib.hid (X6.out.ext e7)
      have HXV := Lib.hid (StateV.stays (stays_lt (B := u6.heap.size) e7 (Nat.le_refl _)) HXV.out)
      have HYX := Lib.hid (show w.heap.size ≤ u6.heap.size from E6.out.size)
      have hxy : xx < u6.heap.size := X6.out.c0.lt
      have E7 := Lib.hid (E6.out.trans e7)
      clear e7 X6 E6
      obtain ⟨yy, hyy⟩ : ∃ yy, u6.heap.size = yy := ⟨_, rfl⟩
      obtain ⟨u7, hu7⟩ : ∃ u7, u7 = u6.alloc (.cells #[.slice none 0 0, .int .i64 0, .slice none 0 0] 26) := ⟨_, rfl⟩
      rw [← hu7] at Y7 X7 HXV E7 ⊢
      rw [hyy] at Y7 hxy HXV HYX ⊢
      clear hyy hu7
      have X9 := Lib.hid X7.out
      have Y9 := Lib.hid Y7.out
      have HYV9 := Lib.hid (stateV_zero u7 (fun _ => True))
      have HXV9 := Lib.hid HXV.out
      have E9 := Lib.hid E7.out
      clear X7 Y7 E7 HXV
      obtain ⟨⟨x0, -⟩, ⟨x1, -⟩, ⟨x2, -⟩⟩ := X9.out
      obtain ⟨⟨y0, -⟩, ⟨y1, -⟩, ⟨y2, -⟩⟩ := Y9.out
      go_wp2_with (first
        | (go_at_call 15; (with_reducible refine (saveBegun_any _).mono ?_); rintro e w10 ⟨rfl, hb10⟩; have p0 := Ext.cell hb10 x0; have p1 := Ext.cell hb10 x1; have p2 := Ext.cell hb10 x2; have q0 := Ext.cell hb10 y0; have q1 := Ext.cell hb10 y1; have q2 := Ext.cell hb10 y2)
        | (go_at_call 16; (with_reducible refine (same_val (⟨[], 0, []⟩ : GState) _ _ _ _ _ (StateV.stays (Ext.stays hb10) HXV9.out) (StateV.stays (Ext.stays hb10) HYV9.out)).mono ?_); rintro e w11 ⟨rfl, hb11⟩))
      go_ret
      exact ⟨rfl, (E9.out.trans hb10).trans hb11⟩
  · have TR0 : (r == 0) = false := beq_eq_false_iff_ne.2 hz
    have TR : (r == r) = true := beq_self_eq_true r
    obtain rfl : t = [] := by rw [← HT.out]; unfold writeS; rw [if_neg (fun h => hz (HR.out.symm.trans h))]
    clear hz
    go_upto_region 6 with fail
    have E2 := Lib.hid E1.out
    clear b0 b1 b2 E1
    rename World => u3
    rcases HCASE.out with hc | hc | hc | hc
    · obtain ⟨z1, z2, z3, z4⟩ := hc
      obtain ⟨sf0, sn0, so0⟩ := s0
      have HZ := Lib.hid z1
      have HF := Lib.hid z3
      have HY := Lib.hid z4
      have TL : decide (8192 < (b.length : Int)) = false := decide_eq_false (by omega)
      have TL' : decide (8192 < b.length) = false := decide_eq_false (by omega)
      clear z1 z2 z3 z4
      go_upto_region 7 with (first
        | (go_at_call 12; (with_reducible refine (read_val p _ _ b _ (Funcs.stays (Ext.stays E2.out) HP.out) HY.out (n := sf0.length) (m := so0.length) (k := sn0) rfl rfl rfl).mono ?_); rintro e w4 ⟨⟨xa, xc, xb, xd, rfl, hxv⟩, hb4⟩))
      have X5 := Lib.hid (Cx3.new w4 (.slice xa sf0.length xc) (.int .i64 sn0) (.slice xb so0.length xd) 26)
      have e5 : Ext w4 (w4.alloc (.cells #[.slice xa sf0.length xc, .int .i64 sn0, .slice xb so0.length xd] 26)) := (Ext.refl _).alloc _
      have HXV := Lib.hid (StateV.stays (Ext.stays e5) hxv)
      have E5 := Lib.hid ((E2.out.trans hb4).trans e5)
      clear hb4 e5 hxv E2
      obtain ⟨xx, hxx⟩ : ∃ xx, w4.heap.size = xx := ⟨_, rfl⟩
      rw [hxx] at X5 ⊢
      clear hxx
      generalize w4.alloc (.cells #[.slice xa sf0.length xc, .int .i64 sn0, .slice xb so0.length xd] 26) = u5 at *
      rename World => u5
      go_upto_region 8 with (first
        | (go_at_call 13; (with_reducible refine (progError_any p _ _ _ (Funcs.stays (Ext.stays E5.out) HP.out)).mono ?_); rintro e w6 ⟨rfl, hb6⟩; rw [HZ.out]))
      have X6 := Lib.hid (X5.out.ext hb6)
      have HXV := Lib.hid (StateV.stays (Ext.stays hb6) HXV.out)
      have E6 := Lib.hid (E5.out.trans hb6)
      clear hb6 X5 E5
      rename World => u6
      go_upto_region 9 with fail
      have Y7 := Lib.hid (Cx3.new u6 (.slice none 0 0) (.int .i64 0) (.slice none 0 0) 26)
      have e7 : Ext u6 (u6.alloc (.cells #[.slice none 0 0, .int .i64 0, .slice none 0 0] 26)) := (Ext.refl _).alloc _
      have X7 := Lib.hid (X6.out.ext e7)
      have HXV := Lib.hid (StateV.stays (stays_lt (B := u6.heap.size) e7 (Nat.le_refl _)) HXV.out)
      have HYX := Lib.hid (show w.heap.size ≤ u6.heap.size from E6.out.size)
      have hxy : xx < u6.heap.size := X6.out.c0.lt
      have E7 := Lib.hid (E6.out.trans e7)
      clear e7 X6 E6
      obtain ⟨yy, hyy⟩ : ∃ yy, u6.heap.size = yy := ⟨_, rfl⟩
      obtain ⟨u7, hu7⟩ : ∃ u7, u7 = u6.alloc (.cells #[.slice none 0 0, .int .i64 0, .slice none 0 0] 26) := ⟨_, rfl⟩
      rw [← hu7] at Y7 X7 HXV E7 ⊢
      rw [hyy] at Y7 hxy HXV HYX ⊢
      clear hyy hu7
      go_upto_region 14 with (first
        | (go_at_call 14; (with_reducible refine (from_val p _ _ b rr ⟨sf0, sn0, so0⟩ ⟨sf0, sn0, so0⟩ true _ (Funcs.stays (Ext.stays E7.out) HP.out) HTD.out HF.out (n := sf0.length) (m := so0.length) (k := sn0) rfl rfl rfl).mono ?_); rintro e w8 ⟨⟨ya, yc, yb, yd, rfl, hyv⟩, hb8⟩; obtain ⟨⟨y0, y0'⟩, ⟨y1, y1'⟩, ⟨y2, y2'⟩⟩ := Y7.out.ext hb8))
      have Y9 := Lib.hid ((Y7.out.ext hb8).all (.slice ya sf0.length yc) (.int .i64 sn0) (.slice yb so0.length yd))
      have hck := chg3 w8 yy (.slice ya sf0.length yc) (.int .i64 sn0) (.slice yb so0.length yd)
      have X9 := Lib.hid ((X7.out.ext hb8).chg hck (fun e => by have e2 : xx = yy := e; omega))
      have hyl : yy < u7.heap.size := Y7.out.c0.lt
      have HYV9 := Lib.hid (StateV.stays (hck.stays (fun b hb e => by have e2 : b = yy := e; have hb2 : u7.heap.size ≤ b := hb; omega)) hyv)
      have E9 := Lib.hid (Chg.ext_from (E7.out.trans hb8) hck (fun q e => by have e2 : q = yy := e; have := HYX.out; omega))
      have HXV9 := Lib.hid (StateV.stays (hck.stays (fun b hb e => by have e2 : b = yy := e; have hb2 : b < yy := hb; omega)) (StateV.stays (Ext.stays hb8) HXV.out))
      clear y0 y0' y1 y1' y2 y2' hck hyv hb8 X7 Y7 E7 HXV
      generalize ((w8.setCell ⟨yy, 0, none⟩ (.slice ya sf0.length yc)).setCell ⟨yy, 1, none⟩ (.int .i64 sn0)).setCell ⟨yy, 2, none⟩ (.slice yb so0.length yd) = u9 at *
      rename World => u9
      obtain ⟨⟨x0, -⟩, ⟨x1, -⟩, ⟨x2, -⟩⟩ := X9.out
      obtain ⟨⟨y0, -⟩, ⟨y1, -⟩, ⟨y2, -⟩⟩ := Y9.out
      go_wp2_with (first
        | (go_at_call 15; (with_reducible refine (saveBegun_any _).mono ?_); rintro e w10 ⟨rfl, hb10⟩; have p0 := Ext.cell hb10 x0; have p1 := Ext.cell hb10 x1; have p2 := Ext.cell hb10 x2; have q0 := Ext.cell hb10 y0; have q1 := Ext.cell hb10 y1; have q2 := Ext.cell hb10 y2)
        | (go_at_call 16; (with_reducible refine (same_val ⟨sf0, sn0, so0⟩ _ _ _ _ _ (StateV.stays (Ext.stays hb10) HXV9.out) (StateV.stays (Ext.stays hb10) HYV9.out)).mono ?_); rintro e w11 ⟨rfl, hb11⟩))
      go_ret
      exact ⟨rfl, (E9.out.trans hb10).trans hb11⟩
    · obtain ⟨z1, z2, z3, z4⟩ := hc
      have HZ := Lib.hid z1
      have HF := Lib.hid z3
      have HY := Lib.hid z4
      have TL : decide (8192 < (b.length : Int)) = false := decide_eq_false (by omega)
      have TL' : decide (8192 < b.length) = false := decide_eq_false (by omega)
      clear z1 z2 z3 z4
      go_upto_region 7 with (first
        | (go_at_call 12; (with_reducible refine (read_val p _ _ b _ (Funcs.stays (Ext.stays E2.out) HP.out) HY.out (n := 0) (m := 0) (k := 0) rfl rfl rfl).mono ?_); rintro e w4 ⟨⟨xa, xc, xb, xd, rfl, hxv⟩, hb4⟩))
      have X5 := Lib.hid (Cx3.new w4 (.slice xa 0 xc) (.int .i64 0) (.slice xb 0 xd) 26)
      have e5 : Ext w4 (w4.alloc (.cells #[.slice xa 0 xc, .int .i64 0, .slice xb 0 xd] 26)) := (Ext.refl _).alloc _
      have HXV := Lib.hid (StateV.stays (Ext.stays e5) hxv)
      have E5 := Lib.hid ((E2.out.trans hb4).trans e5)
      clear hb4 e5 hxv E2
      obtain ⟨xx, hxx⟩ : ∃ xx, w4.heap.size = xx := ⟨_, rfl⟩
      rw [hxx] at X5 ⊢
      clear hxx
      generalize w4.alloc (.cells #[.slice xa 0 xc, .int .i64 0, .slice xb 0 xd] 26) = u5 at *
      rename World => u5
      go_upto_region 8 with (first
        | (go_at_call 13; (with_reducible refine (progError_any p _ _ _ (Funcs.stays (Ext.stays E5.out) HP.out)).mono ?_); rintro e w6 ⟨rfl, hb6⟩; rw [HZ.out]))
      have X6 := Lib.hid (X5.out.ext hb6)
      have HXV := Lib.hid (StateV.stays (Ext.stays hb6) HXV.out)
      have E6 := Lib.hid (E5.out.trans hb6)
      clear hb6 X5 E5
      rename World => u6
      go_upto_region 9 with fail
      have Y7 := Lib.hid (Cx3.new u6 (.slice none 0 0) (.int .i64 0) (.slice none 0 0) 26)
      have e7 : Ext u6 (u6.alloc (.cells #[.slice none 0 0, .int .i64 0, .slice none 0 0] 26)) := (Ext.refl _).alloc _
      have X7 := Lib.hid (X6.out.ext e7)
      have HXV := Lib.hid (StateV.stays (stays_lt (B := u6.heap.size) e7 (Nat.le_refl _)) HXV.out)
      have HYX := Lib.hid (show w.heap.size ≤ u6.heap.size from E6.out.size)
      have hxy : xx < u6.heap.size := X6.out.c0.lt
      have E7 := Lib.hid (E6.out.trans e7)
      clear e7 X6 E6
      obtain ⟨yy, hyy⟩ : ∃ yy, u6.heap.size = yy := ⟨_, rfl⟩
      obtain ⟨u7, hu7⟩ : ∃ u7, u7 = u6.alloc (.cells #[.slice none 0 0, .int .i64 0, .slice none 0 0] 26) := ⟨_, rfl⟩
      rw [← hu7] at Y7 X7 HXV E7 ⊢
      rw [hyy] at Y7 hxy HXV HYX ⊢
      clear hyy hu7
      go_upto_region 14 with (first
        | (go_at_call 14; (with_reducible refine (from_val p _ _ b rr s0 (⟨[], 0, []⟩ : GState) false _ (Funcs.stays (Ext.stays E7.out) HP.out) HTD.out HF.out (n := 0) (m := 0) (k := 0) rfl rfl rfl).mono ?_); rintro e w8 ⟨⟨ya, yc, yb, yd, rfl, hyv⟩, hb8⟩; obtain ⟨⟨y0, y0'⟩, ⟨y1, y1'⟩, ⟨y2, y2'⟩⟩ := Y7.out.ext hb8))
      have Y9 := Lib.hid ((Y7.out.ext hb8).all (.slice ya 0 yc) (.int .i64 0) (.slice yb 0 yd))
      have hck := chg3 w8 yy (.slice ya 0 yc) (.int .i64 0) (.slice yb 0 yd)
      have X9 := Lib.hid ((X7.out.ext hb8).chg hck (fun e => by have e2 : xx = yy := e; omega))
      have hyl : yy < u7.heap.size := Y7.out.c0.lt
      have HYV9 := Lib.hid (StateV.stays (hck.stays (fun b hb e => by have e2 : b = yy := e; have hb2 : u7.heap.size ≤ b := hb; omega)) hyv)
      have E9 := Lib.hid (Chg.ext_from (E7.out.trans hb8) hck (fun q e => by have e2 : q = yy := e; have := HYX.out; omega))
      have HXV9 := Lib.hid (StateV.stays (hck.stays (fun b hb e => by have e2 : b = yy := e; have hb2 : b < yy := hb; omega)) (StateV.stays (Ext.stays hb8) HXV.out))
      clear y0 y0' y1 y1' y2 y2' hck hyv hb8 X7 Y7 E7 HXV
      generalize ((w8.setCell ⟨yy, 0, none⟩ (.slice ya 0 yc)).setCell ⟨yy, 1, none⟩ (.int .i64 0)).setCell ⟨yy, 2, none⟩ (.slice yb 0 yd) = u9 at *
      rename World => u9
      obtain ⟨⟨x0, -⟩, ⟨x1, -⟩, ⟨x2, -⟩⟩ := X9.out
      obtain ⟨⟨y0, -⟩, ⟨y1, -⟩, ⟨y2, -⟩⟩ := Y9.out
      go_wp2_with (first
        | (go_at_call 15; (with_reducible refine (saveBegun_any _).mono ?_); rintro e w10 ⟨rfl, hb10⟩; have p0 := Ext.cell hb10 x0; have p1 := Ext.cell hb10 x1; have p2 := Ext.cell hb10 x2; have q0 := Ext.cell hb10 y0; have q1 := Ext.cell hb10 y1; have q2 := Ext.cell hb10 y2)
        | (go_at_call 16; (with_reducible refine (same_val (⟨[], 0, []⟩ : GState) _ _ _ _ _ (StateV.stays (Ext.stays hb10) HXV9.out) (StateV.stays (Ext.stays hb10) HYV9.out)).mono ?_); rintro e w11 ⟨rfl, hb11⟩))
      go_ret
      exact ⟨rfl, (E9.out.trans hb10).trans hb11⟩
    · obtain ⟨z1, z2, z4⟩ := hc
      have HZ := Lib.hid z1
      have HY := Lib.hid z4
      have TL : decide (8192 < (b.length : Int)) = true := decide_eq_true (by omega)
      have TL' : decide (8192 < b.length) = true := decide_eq_true (by omega)
      clear z1 z2 z4
      go_upto_region 7 with (first
        | (go_at_call 12; (with_reducible refine (read_val p _ _ b _ (Funcs.stays (Ext.stays E2.out) HP.out) HY.out (n := 0) (m := 0) (k := 0) rfl rfl rfl).mono ?_); rintro e w4 ⟨⟨xa, xc, xb, xd, rfl, hxv⟩, hb4⟩))
      have X5 := Lib.hid (Cx3.new w4 (.slice xa 0 xc) (.int .i64 0) (.slice xb 0 xd) 26)
      have e5 : Ext w4 (w4.alloc (.cells #[.slice xa 0 xc, .int .i64 0, .slice xb 0 xd] 26)) := (Ext.refl _).alloc _
      have HXV := Lib.hid (StateV.stays (Ext.stays e5) hxv)
      have E5 := Lib.hid ((E2.out.trans hb4).trans e5)
      clear hb4 e5 hxv E2
      obtain ⟨xx, hxx⟩ : ∃ xx, w4.heap.size = xx := ⟨_, rfl⟩
      rw [hxx] at X5 ⊢
      clear hxx
      generalize w4.alloc (.cells #[.slice xa 0 xc, .int .i64 0, .slice xb 0 xd] 26) = u5 at *
      rename World => u5
      go_upto_region 8 with (first
        | (go_at_call 13; (with_reducible refine (progError_any p _ _ _ (Funcs.stays (Ext.stays E5.out) HP.out)).mono ?_); rintro e w6 ⟨rfl, hb6⟩; rw [HZ.out]))
      have X6 := Lib.hid (X5.out.ext hb6)
      have HXV := Lib.hid (StateV.stays (Ext.stays hb6) HXV.out)
      have E6 := Lib.hid (E5.out.trans hb6)
      clear hb6 X5 E5
      rename World => u6
      go_upto_region 9 with fail
      have Y7 := Lib.hid (Cx3.new u6 (.slice none 0 0) (.int .i64 0) (.slice none 0 0) 26)
      have e7 : Ext u6 (u6.alloc (.cells #[.slice none 0 0, .int .i64 0, .slice none 0 0] 26)) := (Ext.refl _).alloc _
      have X7 := Lib.hid (X6.out.ext e7)
      have HXV := Lib.hid (StateV.stays (stays_lt (B := u6.heap.size) e7 (Nat.le_refl _)) HXV.out)
      have HYX := Lib.hid (show w.heap.size ≤ u6.heap.size from E6.out.size)
      have hxy : xx < u6.heap.size := X6.out.c0.lt
      have E7 := Lib.hid (E6.out.trans e7)
      clear e7 X6 E6
      obtain ⟨yy, hyy⟩ : ∃ yy, u6.heap.size = yy := ⟨_, rfl⟩
      obtain ⟨u7, hu7⟩ : ∃ u7, u7 = u6.alloc (.cells #[.slice none 0 0, .int .i64 0, .slice none 0 0] 26) := ⟨_, rfl⟩
      rw [← hu7] at Y7 X7 HXV E7 ⊢
      rw [hyy] at Y7 hxy HXV HYX ⊢
      clear hyy hu7
      have X9 := Lib.hid X7.out
      have Y9 := Lib.hid Y7.out
      have HYV9 := Lib.hid (stateV_zero u7 (fun _ => True))
      have HXV9 := Lib.hid HXV.out
      have E9 := Lib.hid E7.out
      clear X7 Y7 E7 HXV
      obtain ⟨⟨x0, -⟩, ⟨x1, -⟩, ⟨x2, -⟩⟩ := X9.out
      obtain ⟨⟨y0, -⟩, ⟨y1, -⟩, ⟨y2, -⟩⟩ := Y9.out
      go_wp2_with (first
        | (go_at_call 15; (with_reducible refine (saveBegun_any _).mono ?_); rintro e w10 ⟨rfl, hb10⟩; have p0 := Ext.cell hb10 x0; have p1 := Ext.cell hb10 x1; have p2 := Ext.cell hb10 x2; have q0 := Ext.cell hb10 y0; have q1 := Ext.cell hb10 y1; have q2 := Ext.cell hb10 y2)
        | (go_at_call 16; (with_reducible refine (same_val (⟨[], 0, []⟩ : GState) _ _ _ _ _ (StateV.stays (Ext.stays hb10) HXV9.out) (StateV.stays (Ext.stays hb10) HYV9.out)).mono ?_); rintro e w11 ⟨rfl, hb11⟩))
      go_ret
      exact ⟨rfl, (E9.out.trans hb10).trans hb11⟩
    · obtain ⟨z1, z4⟩ := hc
      have HY := Lib.hid z4
      have TZ : (progErr p == 0) = false := beq_eq_false_iff_ne.2 z1
      clear z1 z4
      go_upto_region 7 with (first
        | (go_at_call 12; (with_reducible refine (read_val p _ _ b _ (Funcs.stays (Ext.stays E2.out) HP.out) HY.out (n := 0) (m := 0) (k := 0) rfl rfl rfl).mono ?_); rintro e w4 ⟨⟨xa, xc, xb, xd, rfl, hxv⟩, hb4⟩))
      have X5 := Lib.hid (Cx3.new w4 (.slice xa 0 xc) (.int .i64 0) (.slice xb 0 xd) 26)
      have e5 : Ext w4 (w4.alloc (.cells #[.slice xa 0 xc, .int .i64 0, .slice xb 0 xd] 26)) := (Ext.refl _).alloc _
      have HXV := Lib.hid (StateV.stays (Ext.stays e5) hxv)
      have E5 := Lib.hid ((E2.out.trans hb4).trans e5)
      clear hb4 e5 hxv E2
      obtain ⟨xx, hxx⟩ : ∃ xx, w4.heap.size = xx := ⟨_, rfl⟩
      rw [hxx] at X5 ⊢
      clear hxx
      generalize w4.alloc (.cells #[.slice xa 0 xc, .int .i64 0, .slice xb 0 xd] 26) = u5 at *
      rename World => u5
      go_upto_region 8 with (first
        | (go_at_call 13; (with_reducible refine (progError_any p _ _ _ (Funcs.stays (Ext.stays E5.out) HP.out)).mono ?_); rintro e w6 ⟨rfl, hb6⟩))
      have X6 := Lib.hid (X5.out.ext hb6)
      have HXV := Lib.hid (StateV.stays (Ext.stays hb6) HXV.out)
      have E6 := Lib.hid (E5.out.trans hb6)
      clear hb6 X5 E5
      rename World => u6
      go_upto_region 9 with fail
      have Y7 := Lib.hid (Cx3.new u6 (.slice none 0 0) (.int .i64 0) (.slice none 0 0) 26)
      have e7 : Ext u6 (u6.alloc (.cells #[.slice none 0 0, .int .i64 0, .slice none 0 0] 26)) := (Ext.refl _).alloc _
      have X7 := Lib.hid (X6.out.ext e7)
      have HXV := Lib.hid (StateV.stays (stays_lt (B := u6.heap.size) e7 (Nat.le_refl _)) HXV.out)
      have HYX := Lib.hid (show w.heap.size ≤ u6.heap.size from E6.out.size)
      have hxy : xx < u6.heap.size := X6.out.c0.lt
      have E7 := Lib.hid (E6.out.trans e7)
      clear e7 X6 E6
      obtain ⟨yy, hyy⟩ : ∃ yy, u6.heap.size = yy := ⟨_, rfl⟩
      obtain ⟨u7, hu7⟩ : ∃ u7, u7 = u6.alloc (.cells #[.slice none 0 0, .int .i64 0, .slice none 0 0] 26) := ⟨_, rfl⟩
      rw [← hu7] at Y7 X7 HXV E7 ⊢
      rw [hyy] at Y7 hxy HXV HYX ⊢
      clear hyy hu7
      have X9 := Lib.hid X7.out
      have Y9 := Lib.hid Y7.out
      have HYV9 := Lib.hid (stateV_zero u7 (fun _ => True))
      have HXV9 := Lib.hid HXV.out
      have E9 := Lib.hid E7.out
      clear X7 Y7 E7 HXV
      obtain ⟨⟨x0, -⟩, ⟨x1, -⟩, ⟨x2, -⟩⟩ := X9.out
      obtain ⟨⟨y0, -⟩, ⟨y1, -⟩, ⟨y2, -⟩⟩ := Y9.out
      go_wp2_with (first
        | (go_at_call 15; (with_reducible refine (saveBegun_any _).mono ?_); rintro e w10 ⟨rfl, hb10⟩; have p0 := Ext.cell hb10 x0; have p1 := Ext.cell hb10 x1; have p2 := Ext.cell hb10 x2; have q0 := Ext.cell hb10 y0; have q1 := Ext.cell hb10 y1; have q2 := Ext.cell hb10 y2)
        | (go_at_call 16; (with_reducible refine (same_val (⟨[], 0, []⟩ : GState) _ _ _ _ _ (StateV.stays (Ext.stays hb10) HXV9.out) (StateV.stays (Ext.stays hb10) HYV9.out)).mono ?_); rintro e w11 ⟨rfl, hb11⟩))
      go_ret
      exact ⟨rfl, (E9.out.trans hb10).trans hb11⟩

theorem contract (H : Type) (enc : TypeId × Value → H) (W : World) (base : Nat) (args : Array Value) (ds gs : List (DataW H)) (before : List MemPlace)
    (hval : ∀ (j : Nat) t v, Try.f3.params[j]? = some t → args[j]? = some v → Value.okWide Try.prog W .any base t v)
    (hW : DataW.Whole enc Try.prog Try.f3.params.toList Rows.saveWritesSpec.vars false W args.toList ds gs before)
    (hsz : (DataW.weightsEach Try.prog (Try.f3.params.toList ++ Rows.saveWritesSpec.plain.varTypes Try.prog) (ds ++ gs)).all (· ≤ reachBytes) = true) :
    Calls Try.prog 3 args W fun e W' => ∃ v, e = .returned v ∧ Rows.saveWritesSpec.post enc Try.prog Try.f3 false true false false W args v W' := by
  have hW' := hW
  obtain ⟨p, q, hA, hV, rfl, hfz, hnd⟩ := hW
  rw [Try.params3] at hA hval
  obtain ⟨v0, vs0, d0, ds0, q0, t0, hargs, rfl, rfl, h0, r0⟩ := trodAll_cons hA
  obtain ⟨v1, vs1, d1, ds1, q1, t1, rfl, rfl, rfl, h1, r1⟩ := trodAll_cons r0
  obtain ⟨v2, vs2, d2, ds2, q2, t2, rfl, rfl, rfl, h2, r2⟩ := trodAll_cons r1
  obtain ⟨rfl, rfl, rfl⟩ := trodAll_nil r2
  obtain rfl : args = #[v0, v1, v2] := by cases args; simp_all
  obtain ⟨rfl, rfl⟩ := trodVars_none hV
  obtain ⟨a0, l0, c0, rfl⟩ := okWide_slice Try.underlying22 (hval 0 22 v0 rfl rfl)
  obtain ⟨fuel0, h0⟩ := h0
  obtain ⟨x0, h0⟩ := funcs_of_trod h0 (fun n hn => by
    have := List.all_eq_true.1 hsz n (DataW.weights_mem_each (j := 0) rfl rfl n hn)
    simpa using this)
  obtain ⟨x1, h1⟩ := state_of_trod (hval 1 26 v1 rfl rfl) h1 (fun n hn => by
    have := List.all_eq_true.1 hsz n (DataW.weights_mem_each (j := 1) rfl rfl n hn)
    simpa using this)
  obtain ⟨x2, rfl, rfl, rfl, hs2⟩ := Go.ChangeMaps.open_string Try.underlying9 (hval 2 9 v2 rfl rfl) h2
  refine (walk W x0 _ h0 x1 _ h1 x2 hs2).mono fun e W' ⟨he, hE⟩ => ⟨_, he, law_post laidOut ?_ rfl Try.underlying4 rfl hW' ?_ hE⟩
  · rw [Try.params3]
    intro t ht
    simp at ht
    (try rcases ht with rfl | rfl | rfl) <;> exact ⟨by kernel_rfl, of_decide_eq_true (by kernel_rfl)⟩
  · intro ds hds
    match ds, hds with
    | [d0, d1, d2], _ => exact ⟨rfl, rfl, rfl⟩

theorem lifted (os : Os) (started : os.Started) (H : Type) (enc : TypeId × Value → H) :
    ReturnsInHanded {} Try.checked os 3 .any (Rows.saveWritesSpec.pre6 enc Try.prog Try.f3 Rows.saveWritesRow.domain false) (Rows.saveWritesSpec.post enc Try.prog Try.f3 false true false false) := by
  refine returnsInHanded_of_change_sized (C := Try.checked) own started (by kernel_rfl) Try.func3
    (ChangeSpec.witness6 (enc := enc) (C := Try.checked) false ⟨#[], #[.slice none 0 0, .agg #[.slice none 0 0, .int .i64 0, .slice none 0 0], .string ByteArray.empty], []⟩ 8 (by kernel_rfl) (by kernel_rfl) (by kernel_rfl) (by kernel_rfl)) ?_
  intro W base args ds gs before hval hW _ hsz _
  exact contract H enc W base args ds gs before hval hW hsz

theorem proved : Rows.SaveWritesSaid :=
  OpenClaim.holds_of_wide 3 Try.f3 rfl rfl rfl rfl rfl rfl rfl ⟨rfl, rfl, rfl, rfl, rfl⟩ rfl rfl rfl rfl rfl (by as_aux_lemma => kernel_rfl) Try.func3 (by as_aux_lemma => kernel_rfl)
    (of_decide_eq_true (by as_aux_lemma => kernel_rfl)) (by unfold Func.isWrapper; rw [if_neg (of_decide_eq_false (by as_aux_lemma => kernel_rfl))]; exact ⟨rfl, rfl⟩)
    (fun os started H enc _ => lifted os started H enc)
end Go.Proofs.Ytgahbngbpfilgaa.saveWrites

