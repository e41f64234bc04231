/- Merged texts: contracts and plain facts, one part behind another; each part begins with what it says. -/
import Derived.Test.YtgahbngbpfilgaaGreatGEAN
import Derived.Test.YtgahbngbpfilgaaGreatGEBD
import Derived.Recover
import Derived.Tactics2
section
set_option maxHeartbeats 4000000
set_option maxRecDepth 100000
namespace Go.Proofs.YtgahbngbpfilgaaGreat
open Go Go.RowKit
theorem listFrame_any {G : Nat} {b : List UInt8} {w : World} (h : Cx w G 0 (strV b)) :
  Calls Tryz.prog 61 #[.pointer (some ⟨G, 0, none⟩), .func (.func 62) #[.pointer (some ⟨G, 0, none⟩)] #[]] w fun e w' => RdE w G (fun w' v l => Frames w' (w.heap.size ≤ ·) v l) (rdL rdF b) e w' := by
 have H := Lib.hid h
 have hGl := h.lt
 have RA := alloc_keep
 obtain ⟨i0, hi0, hz0, hz1, hz2⟩ := info_parts infoFr
 clear h
 cases b with
 | nil =>
  go_enter Tryz.func61, Tryz.ntmps61
  go_wp2_with (first
   | (go_at_call 41; (with_reducible refine (glassSmall_any H.out).mono ?_); rintro e w2 ⟨hch2, r2, hc2, he⟩; have he' : e = .panicked [{ v := shortV, recovered := false }] := he; subst he'))
  exact ⟨rfl, hch2, r2, hc2, rfl⟩
 | cons c b =>
  have hcl := c.toNat_lt
  generalize hn : c.toNat = n at *
  have hrl : rdL rdF (c :: b) = rdN rdF n b := by rw [rdL_cons, hn]
  have HRL := Lib.hid hrl
  have HN := Lib.hid hn
  clear hrl hn
  go_enter Tryz.func61, Tryz.ntmps61
  go_upto_region 2 with fail
  go_wp2_with (first
   | (go_at_call 41; (with_reducible refine (glassSmall_any H.out).mono ?_); rintro e w2 ⟨hch2, r2, hc2, he⟩; obtain ⟨rfl, v, rfl, rfl⟩ : r2 = b ∧ ∃ v, e = .returned v ∧ v = .int .i64 (c.toNat : Int) := he; rw [HN.out]))
  have HL0 := Lib.hid (ListS.start kFrame Prod.fst rdF n hc2 hch2)
  clear hch2 hc2 H
  go_loopw [5, 8] (fun q5 q wr => ∃ i : Nat, i ≤ n ∧ q = .int .i64 (i : Int) ∧ ∃ ys r, ListS kFrame Prod.fst rdF w wr G r2 n i q5 ys r) (fun _ q _ => n - (intOf q).toNat)
  case atStart => exact ⟨0, Nat.zero_le _, rfl, _, _, HL0.out⟩
  case round =>
   obtain ⟨i, hi, rfl, ys, r, hl⟩ := hrel
   clear HL0
   have HL := Lib.hid hl
   have KI : IntKind.i64.wrap ((i : Int) + 1) = (i : Int) + 1 := IntWalk.i64_in _ (by omega)
   have hlen := hl.len
   have hrow := hl.row.row
   rw [hlen] at hrow
   have HROW : Hid (RowAt wr w.heap.size 4 _ i (ys.flatMap frameFv)) := hrow
   obtain ⟨ac, cc, rfl, _, _⟩ := hrow.shape
   clear hrow
   have HNE : Hid (∀ q, rowBlock (.slice ac i cc) = some q → ¬ q = G) := by
    intro q e e2
    have := HROW.out.le q e
    omega
   have HCX := Lib.hid hl.cx
   have HSZ := Lib.hid (show w.heap.size ≤ wr.heap.size from hl.chg.size)
   clear hl
   rename World => wk
   by_cases hlt : i < n
   ·cases h1 : rdF r with
    | none =>
     have HB := Lib.hid (HL.out.bad hlt h1)
     have HR1 := Lib.hid h1
     go_wp2_with (first
      | (go_at_call 62; go_loud ((with_reducible refine (glassFrame_any HCX.out).mono ?_); rintro e w3 ⟨hch3, r3, hc3, he⟩; rw [HR1.out] at he; have he' : e = .panicked [{ v := shortV, recovered := false }] := he; subst he'))
      )
     refine ⟨rfl, HL.out.chg.trans hch3, r3, hc3, ?_⟩
     rw [HRL.out, HB.out]
    | some xr =>
     obtain ⟨x, r1⟩ := xr
     have HR1 := Lib.hid h1
     clear h1
     go_wp2_with (first
      | (go_at_call 62; go_loud ((with_reducible refine (glassFrame_any HCX.out).mono ?_); rintro e w3 ⟨hch3, r3, hc3, he⟩; rw [HR1.out] at he; obtain ⟨rfl, v, rfl, fa, fn, fc, ga, gn, gc, rfl, hx⟩ : r3 = r1 ∧ ∃ v, e = .returned v ∧ FrameN w3 wk.heap.size v x := he))
      | (at_builtin; go_loud (refine wpList_append_row rfl _ _ 39 rfl w.heap.size 43 i0 (.agg #[.int .i64 0, .int .i64 0, .slice none 0 0, .slice none 0 0]) 4 64 Tryz.underlying39 hi0 hz0 hz1 hz2 rfl (by decide) _ _ _ rfl (by exact (HROW.out.chg hch3 HNE.out (by decide)).ext ((Ext.refl _).alloc _) (by decide)) 1 (frameFv (x, .slice fa fn fc, .slice ga gn gc)) (by exact src_frame _ x fa ga fn fc gn gc _) (by unfold maxLen; omega) (by omega) (by exact Nat.le_trans HSZ.out (Nat.le_trans hch3.size (Ext.size (show Ext w3 _ by ((repeat (first | assumption | exact Ext.refl _ | (exact And.left (by assumption)) | refine Ext.alloc ?_ _ | refine Ext.drew ?_ | refine Ext.drewN ?_ _ | refine Ext.setCell ?_ (by simp) _ | refine Ext.setCell ?_ (by simp; omega) _ | refine Ext.trans ?_ (by assumption))); done))))) ?_; intro v5 W5w rv5; have h5 := Lib.hid (HL.out.step hGl hlt HR1.out hch3 hc3 hx ((Ext.refl _).alloc _) rv5 (by rw [hlen])); obtain ⟨a5, c5, rfl, _, _⟩ := rv5.1.shape; clear rv5)))
     go_roundw
     case rel => exact ⟨i + 1, by omega, by go_num, _, _, h5.out⟩
     case measure => simp [intOf]; omega
   ·obtain rfl : i = n := by omega
    go_wp2_with fail
    go_ret
    refine ⟨HL.out.chg, r, HL.out.cx, ?_⟩
    rw [HRL.out, HL.out.done]
    exact ⟨rfl, _, rfl, HL.out.row.frames (by omega)⟩
end Go.Proofs.YtgahbngbpfilgaaGreat
end
section
set_option maxHeartbeats 4000000
set_option maxRecDepth 100000
namespace Go.Proofs.YtgahbngbpfilgaaGreat
open Go Go.RowKit
def FiberN (w : World) (base : Nat) (v : Value) (x : GFiber) : Prop := ∃ a n c, v = .agg #[.slice a n c, .int .i64 x.caller] ∧ kFiber.E w (base ≤ ·) (x, .slice a n c)
theorem box2 {W : World} {b : Nat} {u0 u1 : Value} (h0 : Cx W b 0 u0) (h1 : Cx W b 1 u1) (x y : Value) : ((W.setCell ⟨b, 0, none⟩ x).setCell ⟨b, 1, none⟩ y).rangeAt b 0 [x, y] := by
 intro j v hj
 rw [Nat.zero_add]
 match j, hj with
 | 0, hj => cases hj; exact ((h0.set x).other (.inr (by decide)) y).1
 | 1, hj => cases hj; exact ((h1.other (.inr (by decide)) x).set y).1
theorem glassFiber_any {G : Nat} {b : List UInt8} {w : World} (h : Cx w G 0 (strV b)) :
  Calls Tryz.prog 43 #[.pointer (some ⟨G, 0, none⟩)] w fun e w' => RdE w G (fun w' v x => FiberN w' w.heap.size v x) (rdB b) e w' := by
 have hGl := h.lt
 have RA := alloc_keep
 have hmf : ∀ (fn : Fn) (first cap : Array Value) (w : World), (Instr.makeFunc fn first cap).run Tryz.prog w = .ok (.func fn first cap) w := fun _ _ _ _ => rfl
 have q1 : Ext w (w.alloc (.cells #[.slice none 0 0, .int .i64 0] 41)) := (Ext.refl _).alloc _
 have d0 := Cx.new w [.slice none 0 0, .int .i64 0] 41 (j := 0) rfl
 have d1 := Cx.new w [.slice none 0 0, .int .i64 0] 41 (j := 1) rfl
 have H1 := Lib.hid (h.ext q1)
 have HW1 := Lib.hid q1
 have D1 := Lib.hid (⟨d0, d1⟩ : _ ∧ _)
 obtain ⟨rb, hrb⟩ : ∃ rb, w.heap.size = rb := ⟨_, rfl⟩
 have hne : rb ≠ G := by omega
 clear d0 d1 q1 h
 rw [hrb] at D1
 go_enter Tryz.func43, Tryz.ntmps43
 go_upto_region 1 with fail
 generalize w.alloc (.cells #[.slice none 0 0, .int .i64 0] 41) = w1 at *
 cases h1 : rd1 b with
 | none =>
  have h0 : rdB b = none := by unfold rdB; rw [h1]
  have H0 := Lib.hid h0
  have HR := Lib.hid h1
  clear h0 h1
  go_wp2_with (first
   | (go_at_call 41; (with_reducible refine (glassSmall_any H1.out).mono ?_); rintro e w2 ⟨hch2, r2, hc2, he⟩; rw [HR.out] at he; have he' : e = .panicked [{ v := shortV, recovered := false }] := he; subst he'))
  refine ⟨rfl, (Chg.of_ext HW1.out).trans hch2, r2, hc2, ?_⟩
  rw [H0.out]
 | some xr =>
  obtain ⟨n1, r1⟩ := xr
  have HR1 := Lib.hid h1
  have hi1 := rd1_i64 h1
  have KW : IntKind.i64.wrap (n1 - 1) = n1 - 1 := IntWalk.i64_in _ (by omega)
  have KW2 : wrap64 (n1 - 1) = n1 - 1 := by unfold wrap64; omega
  have I1 : Hid (I64 (n1 - 1)) := I64.small (by omega) (by omega)
  clear h1
  go_upto_region 2 with (first
   | (go_at_call 41; (with_reducible refine (glassSmall_any H1.out).mono ?_); rintro e w3 ⟨hch3, r3, hc3, he⟩; rw [HR1.out] at he; obtain ⟨rfl, v, rfl, rfl⟩ : r3 = r1 ∧ ∃ v, e = .returned v ∧ v = .int .i64 n1 := he))
  have q4 : Ext w3 (w3.alloc (.cells #[.slice none 0 0, .int .i64 (n1 - 1)] 41)) := (Ext.refl _).alloc _
  have y0 := Cx.new w3 [.slice none 0 0, .int .i64 (n1 - 1)] 41 (j := 0) rfl
  have y1 := Cx.new w3 [.slice none 0 0, .int .i64 (n1 - 1)] 41 (j := 1) rfl
  have hch4 := hch3.trans (Chg.of_ext q4)
  have hrb3 : rb < w3.heap.size := (D1.out.1.chg hch3 hne).lt
  have hs1 : w1.heap.size ≤ w3.heap.size := hch3.size
  have hG3 : G < w3.heap.size := hc3.lt
  have H4 := Lib.hid (hc3.ext q4)
  have Y4 := Lib.hid (⟨y0, y1⟩ : _ ∧ _)
  have C4 := Lib.hid hch4
  clear hch3 hc3 q4 y0 y1 hch4
  obtain ⟨xb, hxb⟩ : ∃ xb, w3.heap.size = xb := ⟨_, rfl⟩
  have hsz4 : (w3.alloc (.cells #[.slice none 0 0, .int .i64 (n1 - 1)] 41)).heap.size = xb + 1 := by rw [← hxb]; exact Array.size_push _
  rw [hxb] at Y4 hrb3 hG3 hs1 ⊢
  have hnx : xb ≠ G := by omega
  have hxr : rb ≠ xb := by omega
  obtain ⟨w4, hw4⟩ : ∃ w4, w4 = w3.alloc (.cells #[.slice none 0 0, .int .i64 (n1 - 1)] 41) := ⟨_, rfl⟩
  change Hid (Cx (w3.alloc (.cells #[.slice none 0 0, .int .i64 (n1 - 1)] 41)) xb 0 _ ∧ Cx (w3.alloc (.cells #[.slice none 0 0, .int .i64 (n1 - 1)] 41)) xb 1 _) at Y4
  rw [← hw4] at H4 Y4 C4 hsz4 ⊢
  clear hw4 hxb
  cases h3 : rdL rdF r3 with
  | none =>
   have h0 : rdB b = none := by unfold rdB; rw [HR1.out]; simp only; rw [h3]
   have H0 := Lib.hid h0
   have HR3 := Lib.hid h3
   clear h0 h3
   go_wp2_with (first
    | (go_at_call 61; (with_reducible refine (listFrame_any H4.out).mono ?_); rintro e w5 ⟨hch5, r5, hc5, he⟩; rw [HR3.out] at he; have he' : e = .panicked [{ v := shortV, recovered := false }] := he; subst he'))
   refine ⟨rfl, (Chg.of_ext HW1.out).trans (C4.out.trans hch5), r5, hc5, ?_⟩
   rw [H0.out]
  | some xr =>
   obtain ⟨t, r4⟩ := xr
   have h0 : rdB b = some (⟨t, n1 - 1⟩, r4) := by unfold rdB; rw [HR1.out]; simp only; rw [h3]
   have H0 := Lib.hid h0
   have HR4 := Lib.hid h3
   clear h0 h3
   go_upto_region 3 with (first
    | (go_at_call 61; (with_reducible refine (listFrame_any H4.out).mono ?_); rintro e w7 ⟨hch7, r7, hc7, he⟩; rw [HR4.out] at he; obtain ⟨rfl, v, rfl, hl7⟩ : r7 = r4 ∧ ∃ v, e = .returned v ∧ Frames w7 (w4.heap.size ≤ ·) v t := he; have HL7 := Lib.hid hl7; obtain ⟨a7, c7, rfl, _, _, _⟩ := hl7; have hz := Y4.out.1.chg hch7 hnx; obtain ⟨z3, z3'⟩ := hz))
   have hGx : G ≠ xb := fun e => hnx e.symm
   have k0 := (Y4.out.1.chg hch7 hnx).set (.slice a7 t.length c7)
   have k1 := (Y4.out.2.chg hch7 hnx).other (b' := xb) (j' := 0) (.inr (by decide)) (.slice a7 t.length c7)
   have H8 := Lib.hid (hc7.other (b' := xb) (j' := 0) (.inl hGx) (.slice a7 t.length c7))
   have T9 := Lib.hid (Frames.stays ((chg_one w7 xb 0 (.slice a7 t.length c7)).stays (fun b hb e => by have e2 : b = xb := e; have hb2 : w4.heap.size ≤ b := hb; omega)) HL7.out)
   have C8 := Lib.hid ((C4.out.trans hch7).setCell (p := ⟨xb, 0, none⟩) (.inr hs1) (.slice a7 t.length c7))
   have hf0 := D1.out.1.chg C8.out hne
   have hf1 := D1.out.2.chg C8.out hne
   clear z3 z3' hch7 hc7 HL7
   generalize w7.setCell ⟨xb, 0, none⟩ (.slice a7 t.length c7) = w8 at *
   obtain ⟨k0, k0'⟩ := k0
   obtain ⟨k1, k1'⟩ := k1
   obtain ⟨f0, f0'⟩ := hf0
   obtain ⟨f1, f1'⟩ := hf1
   have CR : Chg (· = rb) w8 ((w8.setCell ⟨rb, 0, none⟩ (.slice a7 t.length c7)).setCell ⟨rb, 1, none⟩ (.int .i64 (n1 - 1))) :=
    ((Chg.refl (· = rb) w8).setCell (p := ⟨rb, 0, none⟩) (.inl rfl) _).setCell (p := ⟨rb, 1, none⟩) (.inl rfl) _
   have TA := Frames.stays (Stays.widen (T := (rb ≤ ·)) fun b hb => by have hb2 : w4.heap.size ≤ b := hb; show rb ≤ b; omega) (Frames.stays (CR.stays (fun b hb e => by have e2 : b = rb := e; have hb2 : w4.heap.size ≤ b := hb; omega)) T9.out)
   have hGr : G ≠ rb := fun e => hne e.symm
   have CG := H8.out.chg CR hGr
   have CF := ((Chg.of_ext HW1.out).trans C8.out).trans' CR (fun n hn e => by have e2 : n = rb := e; omega)
   have FN : FiberN _ rb _ ⟨t, n1 - 1⟩ := ⟨a7, t.length, c7, rfl, I1.out, TA⟩
   have FIN := Lib.hid (⟨CG, CF, FN⟩ : _ ∧ _ ∧ _)
   have B2 := box2 ⟨f0, f0'⟩ ⟨f1, f1'⟩ (.slice a7 t.length c7) (.int .i64 (n1 - 1))
   have HB2 := Lib.hid B2
   clear CR TA CG CF FN B2
   go_wp2_with fail
   refine bodyPost_ret (results_cell_mid rfl _ _ rb 0 _ _ rfl HB2.out rfl rfl (by kernel_rfl)) rfl ?_
   refine ⟨FIN.out.2.1, r7, FIN.out.1, ?_⟩
   rw [H0.out]
   exact ⟨rfl, _, rfl, FIN.out.2.2⟩
theorem listFiber_any {G : Nat} {b : List UInt8} {w : World} (h : Cx w G 0 (strV b)) :
  Calls Tryz.prog 42 #[.pointer (some ⟨G, 0, none⟩), .func (.func 43) #[.pointer (some ⟨G, 0, none⟩)] #[]] w fun e w' => RdE w G (fun w' v l => Fibers w' (w.heap.size ≤ ·) v l) (rdL rdB b) e w' := by
 have H := Lib.hid h
 have hGl := h.lt
 have RA := alloc_keep
 obtain ⟨i0, hi0, hz0, hz1, hz2⟩ := info_parts infoFb
 clear h
 cases b with
 | nil =>
  go_enter Tryz.func42, Tryz.ntmps42
  go_wp2_with (first
   | (go_at_call 41; (with_reducible refine (glassSmall_any H.out).mono ?_); rintro e w2 ⟨hch2, r2, hc2, he⟩; have he' : e = .panicked [{ v := shortV, recovered := false }] := he; subst he'))
  exact ⟨rfl, hch2, r2, hc2, rfl⟩
 | cons c b =>
  have hcl := c.toNat_lt
  generalize hn : c.toNat = n at *
  have hrl : rdL rdB (c :: b) = rdN rdB n b := by rw [rdL_cons, hn]
  have HRL := Lib.hid hrl
  have HN := Lib.hid hn
  clear hrl hn
  go_enter Tryz.func42, Tryz.ntmps42
  go_upto_region 2 with fail
  go_wp2_with (first
   | (go_at_call 41; (with_reducible refine (glassSmall_any H.out).mono ?_); rintro e w2 ⟨hch2, r2, hc2, he⟩; obtain ⟨rfl, v, rfl, rfl⟩ : r2 = b ∧ ∃ v, e = .returned v ∧ v = .int .i64 (c.toNat : Int) := he; rw [HN.out]))
  have HL0 := Lib.hid (ListS.start kFiber Prod.fst rdB n hc2 hch2)
  clear hch2 hc2 H
  go_loopw [5, 8] (fun q5 q wr => ∃ i : Nat, i ≤ n ∧ q = .int .i64 (i : Int) ∧ ∃ ys r, ListS kFiber Prod.fst rdB w wr G r2 n i q5 ys r) (fun _ q _ => n - (intOf q).toNat)
  case atStart => exact ⟨0, Nat.zero_le _, rfl, _, _, HL0.out⟩
  case round =>
   obtain ⟨i, hi, rfl, ys, r, hl⟩ := hrel
   clear HL0
   have HL := Lib.hid hl
   have KI : IntKind.i64.wrap ((i : Int) + 1) = (i : Int) + 1 := IntWalk.i64_in _ (by omega)
   have hlen := hl.len
   have hrow := hl.row.row
   rw [hlen] at hrow
   have HROW : Hid (RowAt wr w.heap.size 2 _ i (ys.flatMap fiberFv)) := hrow
   obtain ⟨ac, cc, rfl, _, _⟩ := hrow.shape
   clear hrow
   have HNE : Hid (∀ q, rowBlock (.slice ac i cc) = some q → ¬ q = G) := by
    intro q e e2
    have := HROW.out.le q e
    omega
   have HCX := Lib.hid hl.cx
   have HSZ := Lib.hid (show w.heap.size ≤ wr.heap.size from hl.chg.size)
   clear hl
   rename World => wk
   by_cases hlt : i < n
   ·cases h1 : rdB r with
    | none =>
     have HB := Lib.hid (HL.out.bad hlt h1)
     have HR1 := Lib.hid h1
     go_wp2_with (first
      | (go_at_call 43; go_loud ((with_reducible refine (glassFiber_any HCX.out).mono ?_); rintro e w3 ⟨hch3, r3, hc3, he⟩; rw [HR1.out] at he; have he' : e = .panicked [{ v := shortV, recovered := false }] := he; subst he'))
      )
     refine ⟨rfl, HL.out.chg.trans hch3, r3, hc3, ?_⟩
     rw [HRL.out, HB.out]
    | some xr =>
     obtain ⟨x, r1⟩ := xr
     have HR1 := Lib.hid h1
     clear h1
     go_wp2_with (first
      | (go_at_call 43; go_loud ((with_reducible refine (glassFiber_any HCX.out).mono ?_); rintro e w3 ⟨hch3, r3, hc3, he⟩; rw [HR1.out] at he; obtain ⟨rfl, v, rfl, fa, fn, fc, rfl, hx⟩ : r3 = r1 ∧ ∃ v, e = .returned v ∧ FiberN w3 wk.heap.size v x := he))
      | (at_builtin; go_loud (refine wpList_append_row rfl _ _ 23 rfl w.heap.size 41 i0 (.agg #[.slice none 0 0, .int .i64 0]) 2 32 Tryz.underlying23 hi0 hz0 hz1 hz2 rfl (by decide) _ _ _ rfl (by exact (HROW.out.chg hch3 HNE.out (by decide)).ext ((Ext.refl _).alloc _) (by decide)) 1 (fiberFv (x, .slice fa fn fc)) (by exact src_fiber _ x fa fn fc _) (by unfold maxLen; omega) (by omega) (by exact Nat.le_trans HSZ.out (Nat.le_trans hch3.size (Ext.size (show Ext w3 _ by ((repeat (first | assumption | exact Ext.refl _ | (exact And.left (by assumption)) | refine Ext.alloc ?_ _ | refine Ext.drew ?_ | refine Ext.drewN ?_ _ | refine Ext.setCell ?_ (by simp) _ | refine Ext.setCell ?_ (by simp; omega) _ | refine Ext.trans ?_ (by assumption))); done))))) ?_; intro v5 W5w rv5; have h5 := Lib.hid (HL.out.step hGl hlt HR1.out hch3 hc3 hx ((Ext.refl _).alloc _) rv5 (by rw [hlen])); obtain ⟨a5, c5, rfl, _, _⟩ := rv5.1.shape; clear rv5)))
     go_roundw
     case rel => exact ⟨i + 1, by omega, by go_num, _, _, h5.out⟩
     case measure => simp [intOf]; omega
   ·obtain rfl : i = n := by omega
    go_wp2_with fail
    go_ret
    refine ⟨HL.out.chg, r, HL.out.cx, ?_⟩
    rw [HRL.out, HL.out.done]
    exact ⟨rfl, _, rfl, HL.out.row.fibers (by omega)⟩
end Go.Proofs.YtgahbngbpfilgaaGreat
end
section
set_option maxHeartbeats 4000000
set_option maxRecDepth 100000
set_option linter.unusedSimpArgs false
namespace Go.Proofs.YtgahbngbpfilgaaGreat
open Go Go.RowKit
theorem catchR_panicking (b b2 : Nat) (x : Int) (u0 u1 u2 : Value) (older : List PanicEntry) (w : World) (h0 : Cx w b 0 u0) (h1 : Cx w b 1 u1) (h2 : Cx w b 2 u2) (hc : Cx w b2 0 (.int .i64 x)) (hne : b ≠ b2) :
  CallsD Tryz.prog 40 #[.pointer (some ⟨b, 0, none⟩), .pointer (some ⟨b2, 0, none⟩)] (.panicking ({ v := shortV, recovered := false } :: older)) w fun e u' w' =>
   e = .returned (.tuple #[]) ∧ u' = .panicking ({ v := shortV, recovered := true } :: older) ∧ (Cx w' b 0 (.slice none 0 0) ∧ Cx w' b 1 (.int .i64 0) ∧ Cx w' b 2 (.slice none 0 0) ∧ Cx w' b2 0 (.int .i64 1)) ∧ Chg (fun k => k = b ∨ k = b2) w w' := by
 refine callsD_of_wpS Tryz.func40 rfl fun c₀ cs hu => ?_
 apply wpS_seq
 apply wpS_region
 simp [wpOpsS, go_sem, recoverD, hu, Tryz.ntmps40, Exit.thenS, shortV]
 refine wpS_of_wp ?_
 simp only [Array.replicate, List.reduceReplicate, List.setIfInBounds_toArray, List.set_cons_succ, List.set_cons_zero, List.append_toArray, List.cons_append, List.nil_append]
 have RA := alloc_keep
 have H := Lib.hid (⟨h0, h1, h2, hc⟩ : _ ∧ _ ∧ _ ∧ _)
 obtain ⟨h0, h0'⟩ := h0
 obtain ⟨h1, h1'⟩ := h1
 obtain ⟨h2, h2'⟩ := h2
 have HS := Lib.hid (((hc.other (b' := b) (j' := 0) (.inl (Ne.symm hne)) (.slice none 0 0)).other (b' := b) (j' := 1) (.inl (Ne.symm hne)) (.int .i64 0)).other (b' := b) (j' := 2) (.inl (Ne.symm hne)) (.slice none 0 0))
 obtain ⟨e3, e3'⟩ := HS.out
 clear hc
 go_wp2_with fail
 have q := H.out
 refine ⟨rfl, _, rfl, _, results_none rfl _ _ _, rfl, rfl, ⟨?_, ?_, ?_, ?_⟩, ?_⟩
 ·exact (((q.1.set _).other (.inr (by decide)) _).other (.inr (by decide)) _).other (.inl hne) _
 ·exact (((q.2.1.other (.inr (by decide)) _).set _).other (.inr (by decide)) _).other (.inl hne) _
 ·exact (((q.2.2.1.other (.inr (by decide)) _).other (.inr (by decide)) _).set _).other (.inl hne) _
 ·exact (((q.2.2.2.other (.inl (Ne.symm hne)) _).other (.inl (Ne.symm hne)) _).other (.inl (Ne.symm hne)) _).set _
 ·exact ((chg3 w b _ _ _).mono (fun k _ h => .inl h)).trans ((chg_one _ b2 0 _).mono (fun k _ h => .inr h))
theorem catchR_idle (b b2 : Nat) (w : World) :
  CallsD Tryz.prog 40 #[.pointer (some ⟨b, 0, none⟩), .pointer (some ⟨b2, 0, none⟩)] .returning w fun e u' w' => e = .returned (.tuple #[]) ∧ u' = .returning ∧ Ext w w' := by
 refine callsD_of_wpS Tryz.func40 rfl fun c₀ cs hu => ?_
 apply wpS_seq
 apply wpS_region
 simp [wpOpsS, go_sem, recoverD, hu, Tryz.ntmps40, Exit.thenS]
 refine wpS_of_wp ?_
 simp only [Array.replicate, List.reduceReplicate, List.setIfInBounds_toArray, List.set_cons_succ, List.set_cons_zero, List.append_toArray, List.cons_append, List.nil_append]
 go_wp2_with fail
 refine ⟨rfl, .returning, ?_, _, results_none rfl _ _ _, rfl, rfl, Ext.refl w⟩
 cases c₀
 cases hu
 rfl
theorem resultR (tmps : Array Value) (w : World) (b b2 : Nat) (x y z : Value) (r : Int) (hp : tmps.getD 4 undef = .pointer (some ⟨b, 0, none⟩)) (hp2 : tmps.getD 5 undef = .pointer (some ⟨b2, 0, none⟩)) (hc : Cx w b 0 x ∧ Cx w b 1 y ∧ Cx w b 2 z) (hr : Cx w b2 0 (.int .i64 r)) :
  (results Tryz.f19 tmps).run Tryz.prog w = .ok (.tuple #[.agg #[x, y, z], .int .i64 r]) w := by
 have hp' : tmps[4]?.getD undef = .pointer (some ⟨b, 0, none⟩) := by simpa using hp
 have hp2' : tmps[5]?.getD undef = .pointer (some ⟨b2, 0, none⟩) := by simpa using hp2
 simp [results, Tryz.results19, go_sem, hp', hp2', hc.1.1, hc.2.1.1, hc.2.2.1, hr.1]
def readS (p : List GFunc) (b : List UInt8) : Int × GState :=
 if progErr p ≠ 0 then (progErr p, ⟨[], 0, []⟩)
 else if 8192 < b.length then (2, ⟨[], 0, []⟩)
 else match rdS b with
  | none => (1, ⟨[], 0, []⟩)
  | some (s, r) => if r = [] ∧ stateErr p s = 0 then (0, s) else (1, ⟨[], 0, []⟩)
theorem stateV_zero (w : World) (S : Nat → Prop) : StateV w S (.agg #[.slice none 0 0, .int .i64 0, .slice none 0 0]) ⟨[], 0, []⟩ := ⟨_, _, rfl, Sl.nil _ _ _, I64.zero, Sl.nil _ _ _⟩
structure RdBox (w0 w : World) (sb : Nat) (u0 u1 u2 : Value) (x : Int) : Prop where
 ext : Ext w0 w
 le : w0.heap.size ≤ sb
 c0 : Cx w sb 0 u0
 c1 : Cx w sb 1 u1
 c2 : Cx w sb 2 u2
 ce : Cx w (sb + 1) 0 (.int .i64 x)
theorem RdBox.step {w0 w w' : World} {sb G : Nat} {u0 u1 u2 : Value} {x : Int} (h : RdBox w0 w sb u0 u1 u2 x) (hc : Chg (· = G) w w') (hG : sb + 1 < G) : RdBox w0 w' sb u0 u1 u2 x :=
 ⟨Chg.ext_from h.ext hc (fun n e => by have e2 : n = G := e; have := h.le; omega), h.le, h.c0.chg hc (fun e => by have e2 : sb = G := e; omega), h.c1.chg hc (fun e => by have e2 : sb = G := e; omega), h.c2.chg hc (fun e => by have e2 : sb = G := e; omega), h.ce.chg hc (fun e => by have e2 : sb + 1 = G := e; omega)⟩
theorem RdBox.put0 {w0 w : World} {sb : Nat} {u0 u1 u2 : Value} {x : Int} (h : RdBox w0 w sb u0 u1 u2 x) (u : Value) : RdBox w0 (w.setCell ⟨sb, 0, none⟩ u) sb u u1 u2 x :=
 ⟨h.ext.setCell (p := ⟨sb, 0, none⟩) h.le _, h.le, h.c0.set _, h.c1.other (.inr (by decide)) _, h.c2.other (.inr (by decide)) _, h.ce.other (.inl (by omega)) _⟩
theorem RdBox.put1 {w0 w : World} {sb : Nat} {u0 u1 u2 : Value} {x : Int} (h : RdBox w0 w sb u0 u1 u2 x) (u : Value) : RdBox w0 (w.setCell ⟨sb, 1, none⟩ u) sb u0 u u2 x :=
 ⟨h.ext.setCell (p := ⟨sb, 1, none⟩) h.le _, h.le, h.c0.other (.inr (by decide)) _, h.c1.set _, h.c2.other (.inr (by decide)) _, h.ce.other (.inl (by omega)) _⟩
theorem RdBox.put2 {w0 w : World} {sb : Nat} {u0 u1 u2 : Value} {x : Int} (h : RdBox w0 w sb u0 u1 u2 x) (u : Value) : RdBox w0 (w.setCell ⟨sb, 2, none⟩ u) sb u0 u1 u x :=
 ⟨h.ext.setCell (p := ⟨sb, 2, none⟩) h.le _, h.le, h.c0.other (.inr (by decide)) _, h.c1.other (.inr (by decide)) _, h.c2.set _, h.ce.other (.inl (by omega)) _⟩
theorem RdBox.putE {w0 w : World} {sb : Nat} {u0 u1 u2 : Value} {x : Int} (h : RdBox w0 w sb u0 u1 u2 x) (y : Int) : RdBox w0 (w.setCell ⟨sb + 1, 0, none⟩ (.int .i64 y)) sb u0 u1 u2 y :=
 ⟨h.ext.setCell (p := ⟨sb + 1, 0, none⟩) (Nat.le_succ_of_le h.le) _, h.le, h.c0.other (.inl (by omega)) _, h.c1.other (.inl (by omega)) _, h.c2.other (.inl (by omega)) _, h.ce.set _⟩
theorem RdBox.exts {w0 w w' : World} {sb : Nat} {u0 u1 u2 : Value} {x : Int} (h : RdBox w0 w sb u0 u1 u2 x) (he : Ext w w') : RdBox w0 w' sb u0 u1 u2 x := ⟨h.ext.trans he, h.le, h.c0.ext he, h.c1.ext he, h.c2.ext he, h.ce.ext he⟩
theorem RdBox.new (w : World) : RdBox w ((w.alloc (.cells #[.slice none 0 0, .int .i64 0, .slice none 0 0] 26)).alloc (.cells #[.int .i64 0] 27)) w.heap.size (.slice none 0 0) (.int .i64 0) (.slice none 0 0) 0 := by
 have hz : (w.alloc (.cells #[.slice none 0 0, .int .i64 0, .slice none 0 0] 26)).heap.size = w.heap.size + 1 := Array.size_push _
 have hx : Ext (w.alloc (.cells #[.slice none 0 0, .int .i64 0, .slice none 0 0] 26)) ((w.alloc (.cells #[.slice none 0 0, .int .i64 0, .slice none 0 0] 26)).alloc (.cells #[.int .i64 0] 27)) := (Ext.refl _).alloc _
 refine ⟨((Ext.refl w).alloc _).alloc _, Nat.le_refl _, (Cx.new w [.slice none 0 0, .int .i64 0, .slice none 0 0] _ (j := 0) rfl).ext hx, (Cx.new w [.slice none 0 0, .int .i64 0, .slice none 0 0] _ (j := 1) rfl).ext hx, (Cx.new w [.slice none 0 0, .int .i64 0, .slice none 0 0] _ (j := 2) rfl).ext hx, ?_⟩
 rw [← hz]
 exact Cx.new _ [.int .i64 0] _ (j := 0) rfl
theorem read_caught {p : List GFunc} {b : List UInt8} {w w5 : World} {sb : Nat} {u0 u1 u2 : Value} {x : Int} (tmps : Array Value) (h : RdBox w w5 sb u0 u1 u2 x) (hr : readS p b = (1, ⟨[], 0, []⟩)) (h4 : tmps.getD 4 undef = .pointer (some ⟨sb, 0, none⟩)) (h5 : tmps.getD 5 undef = .pointer (some ⟨sb + 1, 0, none⟩)) :
  bodyPostD Tryz.prog Tryz.f19 (fun e w' => (∃ x, e = .returned (.tuple #[x, .int .i64 (readS p b).1]) ∧ StateV w' (w.heap.size ≤ ·) x (readS p b).2) ∧ Ext w w') (Exit.panic [{ v := shortV, recovered := false }])
   { tmps := tmps, defers := [{ target := Target.fn (Fn.func 40) #[.pointer (some ⟨sb, 0, none⟩), .pointer (some ⟨sb + 1, 0, none⟩)], args := #[] }] } w5 := by
 refine leaves_cons (f := 40) (args := #[.pointer (some ⟨sb, 0, none⟩), .pointer (some ⟨sb + 1, 0, none⟩)]) (by simp) (by simp [go_sem]) ?_
 refine (catchR_panicking sb (sb + 1) x _ _ _ [] _ h.c0 h.c1 h.c2 h.ce (by omega)).mono ?_
 rintro e u' w6 ⟨rfl, rfl, ⟨k0, k1, k2, ke⟩, hch⟩
 have hset : settle (.panicking ({ v := shortV, recovered := true } :: ([] : List PanicEntry))) = .returning := by simp [settle]
 show Leaves _ _ _ _ [] (settle _) _
 rw [hset, hr]
 refine ⟨_, resultR _ _ sb (sb + 1) _ _ _ 1 h4 h5 ⟨k0, k1, k2⟩ ke, ⟨_, rfl, stateV_zero _ _⟩, ?_⟩
 exact Chg.ext_from h.ext hch (fun k e => by have := h.le; rcases e with e | e <;> omega)
theorem read_done {p : List GFunc} {b : List UInt8} {w w5 : World} {sb : Nat} {u0 u1 u2 : Value} {x : Int} {s : GState} (tmps : Array Value) (h : RdBox w w5 sb u0 u1 u2 x) (hr : readS p b = (x, s)) (hs : StateV w5 (w.heap.size ≤ ·) (.agg #[u0, u1, u2]) s) (h4 : tmps.getD 4 undef = .pointer (some ⟨sb, 0, none⟩)) (h5 : tmps.getD 5 undef = .pointer (some ⟨sb + 1, 0, none⟩)) :
  bodyPostD Tryz.prog Tryz.f19 (fun e w' => (∃ x, e = .returned (.tuple #[x, .int .i64 (readS p b).1]) ∧ StateV w' (w.heap.size ≤ ·) x (readS p b).2) ∧ Ext w w') Exit.ret
   { tmps := tmps, defers := [{ target := Target.fn (Fn.func 40) #[.pointer (some ⟨sb, 0, none⟩), .pointer (some ⟨sb + 1, 0, none⟩)], args := #[] }] } w5 := by
 refine leaves_cons (f := 40) (args := #[.pointer (some ⟨sb, 0, none⟩), .pointer (some ⟨sb + 1, 0, none⟩)]) (by simp) (by simp [go_sem]) ?_
 refine (catchR_idle sb (sb + 1) _).mono ?_
 rintro e u' w6 ⟨rfl, rfl, hx⟩
 rw [hr]
 have h6 := h.exts hx
 exact ⟨_, resultR _ _ sb (sb + 1) _ _ _ _ h4 h5 ⟨h6.c0, h6.c1, h6.c2⟩ h6.ce, ⟨_, rfl, StateV.stays hx.stays hs⟩, h6.ext⟩
theorem saveRead_any (p : List GFunc) (v : Value) (S : Nat → Prop) (b : List UInt8) (w : World) (hp : Funcs w S v p) :
  Calls Tryz.prog 19 #[v, strV b] w fun e w' => (∃ x, e = .returned (.tuple #[x, .int .i64 (readS p b).1]) ∧ StateV w' (w.heap.size ≤ ·) x (readS p b).2) ∧ Ext w w' := by
 have HP := Lib.hid hp
 obtain ⟨ap, capp, rfl, _, _, _⟩ := hp
 have RA := alloc_keep
 have hmf : ∀ (fn : Fn) (first cap : Array Value) (w : World), (Instr.makeFunc fn first cap).run Tryz.prog w = .ok (.func fn first cap) w := fun _ _ _ _ => rfl
 have hbx := RdBox.new w
 unfold strV
 have HB1 := Lib.hid hbx
 have HP1 := Lib.hid (Funcs.stays (Ext.stays hbx.ext) HP.out)
 have HSB : Hid (w.heap.size ≤ w.heap.size) := Nat.le_refl _
 clear hbx
 go_enter_defers Tryz.func19, Tryz.ntmps19
 go_upto_region 1 with fail
 obtain ⟨sb, hsb⟩ : ∃ sb, w.heap.size = sb := ⟨_, rfl⟩
 obtain ⟨W1, hW1⟩ : ∃ W1, W1 = (w.alloc (.cells #[.slice none 0 0, .int .i64 0, .slice none 0 0] 26)).alloc (.cells #[.int .i64 0] 27) := ⟨_, rfl⟩
 rw [← hW1] at HB1 HP1 ⊢
 rw [hsb] at HB1 ⊢
 clear hW1 HSB
 go_upto_region 2 with (first
  | (go_at_call 33; (with_reducible refine (progCheck_any p _ S _ HP1.out).mono ?_); rintro e w2 ⟨rfl, hx2⟩))
 have HB2 := Lib.hid (HB1.out.exts hx2)
 have HP2 := Lib.hid (Funcs.stays (Ext.stays hx2) HP1.out)
 clear HB1 HP1 hx2
 obtain ⟨⟨c0, c0'⟩, ⟨c1, c1'⟩, ⟨c2, c2'⟩, ⟨ce, ce'⟩⟩ : _ ∧ _ ∧ _ ∧ _ := ⟨HB2.out.c0, HB2.out.c1, HB2.out.c2, HB2.out.ce⟩
 by_cases hz : progErr p = 0
 ·rw [hz]
  by_cases hl : 8192 < b.length
  ·have hr : readS p b = (2, ⟨[], 0, []⟩) := by unfold readS; rw [if_neg (fun h => h hz), if_pos hl]
   have HR := Lib.hid hr
   have TL : decide (8192 < (b.length : Int)) = true := decide_eq_true (by omega)
   have HE := Lib.hid (((((HB2.out.put0 (.slice none 0 0)).put1 (.int .i64 0)).put2 (.slice none 0 0))).ce)
   obtain ⟨e0, e0'⟩ := HE.out
   clear hr hl
   go_wp2_with fail
   refine ⟨_, resultR _ _ sb (sb + 1) (.slice none 0 0) (.int .i64 0) (.slice none 0 0) 2 rfl rfl ?_ ?_, ⟨_, by rw [HR.out], ?_⟩, ?_⟩
   ·have q := (((HB2.out.put0 (.slice none 0 0)).put1 (.int .i64 0)).put2 (.slice none 0 0)).putE 2
    exact ⟨q.c0, q.c1, q.c2⟩
   ·exact ((((HB2.out.put0 (.slice none 0 0)).put1 (.int .i64 0)).put2 (.slice none 0 0)).putE 2).ce
   ·rw [HR.out]; exact stateV_zero _ _
   ·exact ((((HB2.out.put0 (.slice none 0 0)).put1 (.int .i64 0)).put2 (.slice none 0 0)).putE 2).ext
  ·have TL : decide (8192 < (b.length : Int)) = false := decide_eq_false (by omega)
   have hr : readS p b = match rdS b with
    | none => (1, ⟨[], 0, []⟩)
    | some (s, r) => if r = [] ∧ stateErr p s = 0 then (0, s) else (1, ⟨[], 0, []⟩) := by unfold readS; rw [if_neg (fun h => h hz), if_neg hl]
   have HR := Lib.hid hr
   have HZ := Lib.hid hz
   clear hr hl
   go_upto_region 8 with fail
   have q3 : Ext w2 (w2.alloc (.cells #[.string ⟨b.toArray⟩] 76)) := (Ext.refl _).alloc _
   have HB3 := Lib.hid (HB2.out.exts q3)
   have HP3 := Lib.hid (Funcs.stays (Ext.stays q3) HP2.out)
   have HG3 := Lib.hid (show Cx (w2.alloc (.cells #[.string ⟨b.toArray⟩] 76)) w2.heap.size 0 (strV b) from Cx.new w2 [strV b] _ (j := 0) rfl)
   have hsG : sb + 1 < w2.heap.size := HB2.out.ce.lt
   clear c0 c0' c1 c1' c2 c2' ce ce' q3 HP2 HB2
   obtain ⟨G, hGe⟩ : ∃ G, w2.heap.size = G := ⟨_, rfl⟩
   rw [hGe] at HG3 hsG ⊢
   generalize w2.alloc (.cells #[.string ⟨b.toArray⟩] 76) = w3 at *
   clear hGe
   have hsG1 : G ≠ sb := by omega
   cases h1 : rd1 b with
   | none =>
    have h0 : rdS b = none := by unfold rdS; rw [h1]
    have hrr := HR.out
    rw [h0] at hrr
    have HRR := Lib.hid hrr
    have H1 := Lib.hid h1
    clear h0 hrr h1 HR
    go_wp2_with (first
     | (go_at_call 41; (with_reducible refine (glassSmall_any HG3.out).mono ?_); rintro e w4 ⟨hch4, r4, hc4, he⟩; rw [H1.out] at he; have he' : e = .panicked [{ v := shortV, recovered := false }] := he; subst he'))
    exact read_caught _ (HB3.out.step hch4 hsG) HRR.out rfl rfl
   | some xr =>
    obtain ⟨c, r1⟩ := xr
    have H1 := Lib.hid h1
    have hi1 := rd1_i64 h1
    have KW2 : wrap64 (c - 1) = c - 1 := by unfold wrap64; omega
    have KW : IntKind.i64.wrap (c - 1) = c - 1 := IntWalk.i64_in _ (by omega)
    have HI1 : Hid (I64 (c - 1)) := I64.small (by omega) (by omega)
    clear h1
    go_upto_region 9 with (first
     | (go_at_call 41; (with_reducible refine (glassSmall_any HG3.out).mono ?_); rintro e w4 ⟨hch4, r4, hc4, he⟩; rw [H1.out] at he; obtain ⟨rfl, v, rfl, rfl⟩ : r4 = r1 ∧ ∃ v, e = .returned v ∧ v = .int .i64 c := he; have hb4 := HB3.out.step hch4 hsG; obtain ⟨k1, k1'⟩ := hb4.c1))
    have HB5 := Lib.hid (hb4.put1 (.int .i64 (c - 1)))
    have HG5 := Lib.hid (hc4.other (b' := sb) (j' := 1) (.inl hsG1) (.int .i64 (c - 1)))
    have HSZ5 : Hid (G < (w4.setCell ⟨sb, 1, none⟩ (.int .i64 (c - 1))).heap.size) := HG5.out.lt
    clear hch4 hc4 hb4 k1 k1' HG3 HB3 HP3
    generalize w4.setCell ⟨sb, 1, none⟩ (.int .i64 (c - 1)) = w5 at *
    cases h2 : rdL rdB r4 with
    | none =>
     have h0 : rdS b = none := by unfold rdS; rw [H1.out]; simp only; rw [h2]
     have hrr := HR.out
     rw [h0] at hrr
     have HRR := Lib.hid hrr
     have H2 := Lib.hid h2
     clear h0 hrr h2 HR
     go_wp2_with (first
      | (go_at_call 42; (with_reducible refine (listFiber_any HG5.out).mono ?_); rintro e w6 ⟨hch6, r6, hc6, he⟩; rw [H2.out] at he; have he' : e = .panicked [{ v := shortV, recovered := false }] := he; subst he'))
     exact read_caught _ (HB5.out.step hch6 hsG) HRR.out rfl rfl
    | some xr =>
     obtain ⟨l, r2⟩ := xr
     have H2 := Lib.hid h2
     clear h2
     go_upto_region 10 with (first
      | (go_at_call 42; (with_reducible refine (listFiber_any HG5.out).mono ?_); rintro e w6 ⟨hch6, r6, hc6, he⟩; rw [H2.out] at he; obtain ⟨rfl, v, rfl, hl6⟩ : r6 = r2 ∧ ∃ v, e = .returned v ∧ Fibers w6 (w5.heap.size ≤ ·) v l := he; have HL6 := Lib.hid hl6; obtain ⟨a6, c6, rfl, _, _, _⟩ := hl6; have hb6 := HB5.out.step hch6 hsG; obtain ⟨k0, k0'⟩ := hb6.c0))
     have HB7 := Lib.hid (hb6.put0 (.slice a6 l.length c6))
     have HG7 := Lib.hid (hc6.other (b' := sb) (j' := 0) (.inl hsG1) (.slice a6 l.length c6))
     have HL7 := Lib.hid (Fibers.stays ((chg_one w6 sb 0 (.slice a6 l.length c6)).stays (fun b hb e => by have e2 : b = sb := e; have hb2 : w5.heap.size ≤ b := hb; have := HSZ5.out; omega)) HL6.out)
     have HSZ7 : Hid (w5.heap.size ≤ (w6.setCell ⟨sb, 0, none⟩ (.slice a6 l.length c6)).heap.size) := Nat.le_trans hch6.size (chg_one w6 sb 0 (.slice a6 l.length c6)).size
     clear hch6 hc6 hb6 k0 k0' HL6 HG5 HB5
     generalize w6.setCell ⟨sb, 0, none⟩ (.slice a6 l.length c6) = w7 at *
     cases h3 : rdL rdW r6 with
     | none =>
      have h0 : rdS b = none := by unfold rdS; rw [H1.out]; simp only; rw [H2.out]; simp only; rw [h3]
      have hrr := HR.out
      rw [h0] at hrr
      have HRR := Lib.hid hrr
      have H3 := Lib.hid h3
      clear h0 hrr h3 HR
      go_wp2_with (first
       | (go_at_call 44; (with_reducible refine (listInt_any HG7.out).mono ?_); rintro e w8 ⟨hch8, r8, hc8, he⟩; rw [H3.out] at he; have he' : e = .panicked [{ v := shortV, recovered := false }] := he; subst he'))
      exact read_caught _ (HB7.out.step hch8 hsG) HRR.out rfl rfl
     | some xr =>
      obtain ⟨o, r3⟩ := xr
      have H3 := Lib.hid h3
      have h0 : rdS b = some (⟨l, c - 1, o⟩, r3) := by unfold rdS; rw [H1.out]; simp only; rw [H2.out]; simp only; rw [h3]
      have hrr := HR.out
      rw [h0] at hrr
      simp only at hrr
      have HRR := Lib.hid hrr
      clear h3 h0 hrr HR
      go_upto_region 11 with (first
       | (go_at_call 44; (with_reducible refine (listInt_any HG7.out).mono ?_); rintro e w8 ⟨hch8, r8, hc8, he⟩; rw [H3.out] at he; obtain ⟨rfl, v, rfl, hl8⟩ : r8 = r3 ∧ ∃ v, e = .returned v ∧ Ints w8 (w7.heap.size ≤ ·) v o := he; have HL8 := Lib.hid hl8; obtain ⟨a8, c8, rfl, _, _, _⟩ := hl8; have hb8 := HB7.out.step hch8 hsG; obtain ⟨k2, k2'⟩ := hb8.c2))
      have HB9 := Lib.hid (hb8.put2 (.slice a8 o.length c8))
      have HG9 := Lib.hid (hc8.other (b' := sb) (j' := 2) (.inl hsG1) (.slice a8 o.length c8))
      have hfar : ∀ b, w5.heap.size ≤ b → ¬ b = sb := fun b hb e => by have := HSZ5.out; omega
      have hfar2 : ∀ b, w5.heap.size ≤ b → ¬ b = G := fun b hb e => by have := HSZ5.out; omega
      have HL9 := Lib.hid (Fibers.stays ((chg_one w8 sb 2 (.slice a8 o.length c8)).stays hfar) (Fibers.stays (hch8.stays hfar2) HL7.out))
      have HO9 := Lib.hid (Ints.stays ((chg_one w8 sb 2 (.slice a8 o.length c8)).stays (fun b hb => hfar b (Nat.le_trans HSZ7.out hb))) HL8.out)
      have HW9 : Hid (w.heap.size ≤ w5.heap.size) := by have := HSZ5.out; unfold Hid; omega
      have HSV := Lib.hid (show StateV (w8.setCell ⟨sb, 2, none⟩ (.slice a8 o.length c8)) (w5.heap.size ≤ ·) (.agg #[.slice a6 l.length c6, .int .i64 (c - 1), .slice a8 o.length c8]) ⟨l, c - 1, o⟩ from
       ⟨_, _, rfl, HL9.out, HI1.out, Ints.stays (Stays.widen fun b hb => Nat.le_trans HSZ7.out hb) HO9.out⟩)
      clear hch8 hc8 hb8 k2 k2' HL7 HL8 HL9 HO9 HG7 HB7
      generalize w8.setCell ⟨sb, 2, none⟩ (.slice a8 o.length c8) = w9 at *
      obtain ⟨⟨c0, c0'⟩, ⟨c1, c1'⟩, ⟨c2, c2'⟩, ⟨ce, ce'⟩⟩ : _ ∧ _ ∧ _ ∧ _ := ⟨HB9.out.c0, HB9.out.c1, HB9.out.c2, HB9.out.ce⟩
      have HP9 := Lib.hid (Funcs.stays (Ext.stays HB9.out.ext) HP.out)
      have hg9 := HG9.out
      unfold strV at hg9
      obtain ⟨g0, g0'⟩ := hg9
      cases r8 with
      | cons cr rr =>
       have hno : readS p b = (1, ⟨[], 0, []⟩) := by rw [HRR.out, if_neg (fun h => by cases h.1)]
       have HNO := Lib.hid hno
       clear hno
       go_wp2_with fail
       exact read_caught _ HB9.out HNO.out rfl rfl
      | nil =>
       by_cases hse : stateErr p ⟨l, c - 1, o⟩ = 0
       ·have hno : readS p b = (0, ⟨l, c - 1, o⟩) := by rw [HRR.out, if_pos ⟨rfl, hse⟩]
        have HNO := Lib.hid hno
        have HSE := Lib.hid hse
        clear hno hse
        go_upto_region 13 with (first
         | (go_at_call 29; (with_reducible refine (stateCheck_any p _ S _ ⟨l, c - 1, o⟩ _ _ HP9.out HSV.out).mono ?_); rintro e w10 ⟨rfl, hx10⟩; rw [HSE.out]))
        have HB10 := Lib.hid (HB9.out.exts hx10)
        have HS10 := Lib.hid (StateV.stays hx10.stays HSV.out)
        clear c0 c0' c1 c1' c2 c2' ce ce' g0 g0' hx10
        obtain ⟨⟨c0, c0'⟩, ⟨c1, c1'⟩, ⟨c2, c2'⟩⟩ : _ ∧ _ ∧ _ := ⟨HB10.out.c0, HB10.out.c1, HB10.out.c2⟩
        have HB11 := Lib.hid (((HB10.out.put0 (.slice a6 l.length c6)).put1 (.int .i64 (c - 1))).put2 (.slice a8 o.length c8))
        obtain ⟨e0, e0'⟩ := HB11.out.ce
        have HC11 := Lib.hid ((chg3 w10 sb (.slice a6 l.length c6) (.int .i64 (c - 1)) (.slice a8 o.length c8)).mono (M' := fun k => k = sb ∨ k = sb + 1) (fun k _ h => .inl h))
        go_wp2_with fail
        refine read_done _ (HB11.out.putE 0) HNO.out ?_ rfl rfl
        have hch := HC11.out.trans ((chg_one _ (sb + 1) 0 (.int .i64 0)).mono (fun k _ h => .inr h))
        exact StateV.stays (Stays.widen fun b hb => Nat.le_trans HW9.out hb) (StateV.stays (hch.stays (fun b hb e => by have hb2 : w5.heap.size ≤ b := hb; have := HSZ5.out; rcases e with e | e <;> omega)) HS10.out)
       ·have hno : readS p b = (1, ⟨[], 0, []⟩) := by rw [HRR.out, if_neg (fun h => hse h.2)]
        have HNO := Lib.hid hno
        clear hno
        have TSE : (stateErr p ⟨l, c - 1, o⟩ == 0) = false := by simpa using hse
        clear hse
        go_wp2_with (first
         | (go_at_call 29; (with_reducible refine (stateCheck_any p _ S _ ⟨l, c - 1, o⟩ _ _ HP9.out HSV.out).mono ?_); rintro e w10 ⟨rfl, hx10⟩))
        exact read_caught _ (HB9.out.exts hx10) HNO.out rfl rfl
 ·have hr : readS p b = (progErr p, ⟨[], 0, []⟩) := by unfold readS; rw [if_pos hz]
  have HR := Lib.hid hr
  have TZ : (progErr p == 0) = false := by simpa using hz
  have HE := Lib.hid (((((HB2.out.put0 (.slice none 0 0)).put1 (.int .i64 0)).put2 (.slice none 0 0))).ce)
  obtain ⟨e0, e0'⟩ := HE.out
  clear hr hz
  go_wp2_with fail
  refine ⟨_, resultR _ _ sb (sb + 1) (.slice none 0 0) (.int .i64 0) (.slice none 0 0) (progErr p) rfl rfl ?_ ?_, ⟨_, by rw [HR.out], ?_⟩, ?_⟩
  ·have q := (((HB2.out.put0 (.slice none 0 0)).put1 (.int .i64 0)).put2 (.slice none 0 0)).putE (progErr p)
   exact ⟨q.c0, q.c1, q.c2⟩
  ·exact ((((HB2.out.put0 (.slice none 0 0)).put1 (.int .i64 0)).put2 (.slice none 0 0)).putE (progErr p)).ce
  ·rw [HR.out]; exact stateV_zero _ _
  ·exact ((((HB2.out.put0 (.slice none 0 0)).put1 (.int .i64 0)).put2 (.slice none 0 0)).putE (progErr p)).ext
end Go.Proofs.YtgahbngbpfilgaaGreat
end
section
set_option maxHeartbeats 1000000
namespace Go.Proofs.YtgahbngbpfilgaaGreat
open Go Go.RowKit
structure I64S (s : GState) : Prop where
 now : I64 s.now
 out : ∀ n ∈ s.out, I64 n
 frame : ∀ f ∈ s.fibers, ∀ x ∈ f.frames, (∀ n ∈ x.locals, I64 n) ∧ ∀ n ∈ x.stack, I64 n
theorem Sl.all {α : Type} {E : Nat → Nat → α → Prop} {sz bytes : Nat} {v : Value} {l : List α} (h : Sl E sz bytes v l) : ∀ x ∈ l, ∃ b o, E b o x := by
 intro x hx
 obtain ⟨i, hi, rfl⟩ := List.getElem_of_mem hx
 obtain ⟨b, o, _, _, _, _, he⟩ := h.get hi
 exact ⟨_, _, he⟩
theorem stateV_i64 {w : World} {S : Nat → Prop} {v : Value} {s : GState} (h : StateV w S v s) : I64S s := by
 obtain ⟨x, y, _, hf, hn, ho⟩ := h
 refine ⟨hn, ho.i64, fun f hf2 z hz => ?_⟩
 obtain ⟨_, _, ⟨vf, _, hfr⟩, _⟩ := Sl.all hf f hf2
 obtain ⟨_, _, _, _, ⟨vl, _, hl⟩, vs, _, hs⟩ := Sl.all hfr z hz
 exact ⟨hl.i64, hs.i64⟩
theorem mini_of {p : List GFunc} {s : GState} (h : stateErr p s = 0) : Mini s := by
 obtain ⟨l, hl⟩ := stateErr_zero h
 refine ⟨hl.few, hl.out, hl.frames, fun k j hk hj => ?_⟩
 have hF := hl.frameF hk hj
 have hr := (right_hf (progErr_zero hl.prog) hF.func.1 hF.func.2).1
 have h1 := hF.locals
 have h2 := hr.locals
 have h3 := hF.stack
 omega
theorem stateL_le {s : GState} (h : Mini s) : (stateL s).length ≤ 8192 := by
 rw [← accO_all, List.length_append, many_len]
 have := accO_le h s.fibers.length
 have := h.out
 omega
theorem back_more {p : List GFunc} {s : GState} (h : stateErr p s = 0) (hI : I64S s) : Back rdS stateL s := by
 obtain ⟨l, hl⟩ := stateErr_zero h
 have hP := progErr_zero hl.prog
 have hok := hl.ok
 have hm := mini_of h
 have hlp := hP.most
 refine rdS_back ?_ (by have := hm.fibers; omega) (fun f hf => ?_) (by have := hm.out; omega) hI.out
 ·have := hok.now
  have := hm.fibers
  omega
 ·obtain ⟨k, hk, rfl⟩ := mem_getD hf
  have hc := hok.callers k hk
  have hmf := hm.fibers
  refine rdB_back (by omega) (by have := hm.frames k hk; omega) fun x hx => ?_
  have hxi := hI.frame _ hf x hx
  obtain ⟨j, hj, rfl⟩ := mem_getD hx
  have hF := hl.frameF hk hj
  have hr := (right_hf hP hF.func.1 hF.func.2).1
  have h1 := hF.at_
  have h2 := hr.len
  have h3 := hF.func
  have h4 := hm.rows k j hk hj
  exact rdF_back (by omega) (by omega) (by omega) (by omega) hxi.1 hxi.2
theorem back_of {p : List GFunc} {s : GState} (h : stateErr p s = 0) (hI : I64S s) : rdS (stateL s) = some (s, []) := by
 have := back_more h hI []
 rwa [List.append_nil] at this
theorem readS_back {p : List GFunc} {s : GState} (h : stateErr p s = 0) (hI : I64S s) (hb : (stateL s).length ≤ 8192) : readS p (stateL s) = (0, s) := by
 obtain ⟨l, hl⟩ := stateErr_zero h
 unfold readS
 rw [if_neg (fun k => k hl.prog), if_neg (by omega), back_of h hI]
 show (if ([] : List UInt8) = [] ∧ stateErr p s = 0 then ((0 : Int), s) else (1, ⟨[], 0, []⟩)) = _
 rw [if_pos ⟨rfl, h⟩]
end Go.Proofs.YtgahbngbpfilgaaGreat
end
