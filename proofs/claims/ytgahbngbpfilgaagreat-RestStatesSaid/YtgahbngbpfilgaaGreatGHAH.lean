/- Merged texts: contracts and plain facts, one part behind another; each part begins with what it says. -/
import Derived.Test.YtgahbngbpfilgaaGreatGHAB
import Derived.Test.YtgahbngbpfilgaaGreatGHAC
import Derived.Test.YtgahbngbpfilgaaGreatGHAE
import Derived.Test.YtgahbngbpfilgaaGreatGHAF
import Derived.Test.YtgahbngbpfilgaaGreatGHAG
section
set_option maxHeartbeats 2000000
set_option maxRecDepth 100000
namespace Go.Proofs.YtgahbngbpfilgaaGreat
open Go Go.RowKit
theorem hts_at {p : List GFunc} {k : Nat} (h : funcErr p k = 0) (hk : k < p.length) : p.getD k default = p[k] ∧ RightF p p[k] := by
 obtain ⟨n, hn, e, hg, hR⟩ := hts_here h
 obtain rfl : k = n := by omega
 exact ⟨by simpa using hg, hR⟩
theorem progCheck_any (p : List GFunc) (v : Value) (S : Nat → Prop) (w : World) (hp : Funcs w S v p) :
  Calls Tryz.prog 33 #[v] w fun e w' => e = .returned (.int .i64 (progErr p)) ∧ Ext w w' := by
 have HP := Lib.hid hp
 obtain ⟨r, hr⟩ : ∃ r, progErr p = r := ⟨_, rfl⟩
 rw [hr]
 have HR := Lib.hid hr
 clear hr
 have hp0 := hp
 obtain ⟨a, cap, rfl, hcap, hby, _⟩ := hp
 by_cases h1 : 5 < p.length
 ·have hres : r = 2 := by rw [← HR.out]; unfold progErr; rw [if_pos h1]
  subst hres
  clear hp0
  go_enter Tryz.func33, Tryz.ntmps33
  go_wp2_with fail
  go_ret
  exact ⟨rfl, Ext.refl _⟩
 ·by_cases h2 : p.length = 0
  ·have hres : r = 5 := by rw [← HR.out]; unfold progErr; rw [if_neg h1, if_pos h2]
   subst hres
   have TZ : ((p.length : Int) == 0) = true := by simp [h2]
   clear hp0 h2
   go_enter Tryz.func33, Tryz.ntmps33
   go_wp2_with fail
   go_ret
   exact ⟨rfl, Ext.refl _⟩
  ·have hpos : 0 < p.length := by omega
   have TZ : ((p.length : Int) == 0) = false := beq_eq_false_iff_ne.2 (by omega)
   have h5 : p.length ≤ 5 := by omega
   obtain ⟨b, o, cap', e0, _, _, ⟨_, x0, _⟩, _, _⟩ := hp0.get hpos
   simp only [Value.slice.injEq] at e0
   obtain ⟨rfl, -, rfl⟩ := e0
   rw [Nat.zero_mul, Nat.add_zero] at x0
   have e1 : p.getD 0 default = p[0] := by simp [List.getD, List.getElem?_eq_getElem hpos]
   by_cases h3 : p[0].args ≠ 0
   ·have hres : r = 1 := by rw [← HR.out]; unfold progErr; rw [if_neg h1, if_neg h2, e1, if_pos h3]
    subst hres
    have T3 : (p[0].args != 0) = true := bne_iff_ne.2 h3
    clear hp0 h2 h3 e1 h1
    go_enter Tryz.func33, Tryz.ntmps33
    go_wp2_with fail
    go_ret
    exact ⟨rfl, Ext.refl _⟩
   ·have HRES : Hid (r = if firstFrom p 0 ≠ 0 then firstFrom p 0 else if allFrom p 0 = true then 0 else 1) := by
     unfold Hid
     rw [← HR.out, ← firstFrom_zero, ← allFrom_zero]
     unfold progErr
     rw [if_neg h1, if_neg h2, e1, if_neg h3]
    have T3 : (p[0].args != 0) = false := by rw [bne_eq_false_iff_eq]; exact Decidable.byContradiction h3
    clear hp0 h2 h3 e1 HR h1
    go_enter Tryz.func33, Tryz.ntmps33
    go_wp2_with fail
    go_loopw [24] (fun q wr => ∃ k : Nat, k ≤ p.length ∧ q = .int .i64 k ∧ Ext w wr ∧ firstFrom p k = firstFrom p 0) (fun q _ => p.length - (intOf q).toNat)
    case atStart => exact ⟨0, Nat.zero_le _, rfl, Ext.refl _, rfl⟩
    case round =>
     obtain ⟨k, hk, rfl, hb, hff⟩ := hrel
     have HB := Lib.hid hb
     have HFF := Lib.hid hff
     clear hb hff
     by_cases hlt : k < p.length
     ·obtain ⟨e, he⟩ : ∃ e, funcErr p k = e := ⟨_, rfl⟩
      have HE := Lib.hid he
      have HST := Lib.hid (firstFrom_step p hlt)
      clear he
      by_cases hz : e = 0
      ·subst hz
       go_wp2_with (first
        | (go_at_call 57; (with_reducible refine (check_any p _ S k _ (Funcs.stays (Ext.stays HB.out) HP.out)).mono ?_); rintro e w1 ⟨rfl, hb1⟩; rw [HE.out]))
       go_roundw
       case rel => exact ⟨k + 1, by omega, by go_num, HB.out.trans hb1, by rw [← HFF.out, HST.out, if_neg (fun h => h HE.out)]⟩
       case measure => simp [intOf]; omega
      ·have TE : (e != 0) = true := bne_iff_ne.2 hz
       have hres : r = e := by
        rw [HRES.out, ← HFF.out, HST.out, HE.out, if_pos hz, if_pos hz]
       subst hres
       clear hz
       go_wp2_with (first
        | (go_at_call 57; (with_reducible refine (check_any p _ S k _ (Funcs.stays (Ext.stays HB.out) HP.out)).mono ?_); rintro e w1 ⟨rfl, hb1⟩; rw [HE.out]))
       go_ret
       exact ⟨rfl, HB.out.trans hb1⟩
     ·obtain rfl : k = p.length := by omega
      have HZ : Hid (firstFrom p 0 = 0) := by
       unfold Hid
       rw [← HFF.out, firstFrom_end]
      clear hlt HFF
      rename World => wr1
      go_wp2_with fail
      go_loopw [36] (fun q wr => ∃ k : Nat, k ≤ p.length ∧ q = .int .i64 k ∧ Ext w wr ∧ allFrom p k = allFrom p 0) (fun q _ => p.length - (intOf q).toNat)
      case atStart => exact ⟨0, Nat.zero_le _, rfl, HB.out, rfl⟩
      case round =>
       obtain ⟨k, hk, rfl, hb, hff⟩ := hrel
       have HB2 := Lib.hid hb
       have HFF := Lib.hid hff
       clear hb hff HB
       by_cases hlt : k < p.length
       ·have hfe := firstFrom_nil _ 0 rfl HZ.out k (Nat.zero_le _) hlt
        obtain ⟨hg, hR⟩ := hts_at hfe hlt
        have HST := Lib.hid (allFrom_step p hlt)
        rw [hg] at HST
        clear hfe hg
        cases hh : hts p p[k].code with
        | none =>
         have HH := Lib.hid hh
         have hres : r = 1 := by
          rw [HRES.out, HZ.out, if_neg (fun h => h rfl), ← HFF.out, HST.out, hh]
          rfl
         subst hres
         clear hh
         go_wp2_with (first
          | (go_at_call 58; (with_reducible refine (flowOf_any p _ S k _ (Funcs.stays (Ext.stays HB2.out) HP.out) hlt hR).mono ?_); rintro e w2 ⟨hr, hb2⟩; rw [HH.out] at hr; obtain rfl := hr))
         go_ret
         exact ⟨rfl, HB2.out.trans hb2⟩
        | some l =>
         have HH := Lib.hid hh
         clear hh
         go_wp2_with (first
          | (go_at_call 58; (with_reducible refine (flowOf_any p _ S k _ (Funcs.stays (Ext.stays HB2.out) HP.out) hlt hR).mono ?_); rintro e w2 ⟨hr, hb2⟩; rw [HH.out] at hr; obtain ⟨vl, rfl, hl⟩ := hr; obtain ⟨al, cl, rfl, _, _, _⟩ := (⟨hl, trivial⟩ : _ ∧ True).1))
         go_roundw
         case rel => exact ⟨k + 1, by omega, by go_num, HB2.out.trans hb2, by rw [← HFF.out, HST.out, HH.out]; rfl⟩
         case measure => simp [intOf]; omega
       ·obtain rfl : k = p.length := by omega
        have hres : r = 0 := by
         rw [HRES.out, HZ.out, if_neg (fun h => h rfl), ← HFF.out, allFrom_end]
         rfl
        subst hres
        clear hlt HFF
        go_wp2_with fail
        go_ret
        exact ⟨rfl, HB2.out⟩
theorem progError_any (p : List GFunc) (v : Value) (S : Nat → Prop) (w : World) (hp : Funcs w S v p) :
  Calls Tryz.prog 20 #[v] w fun e w' => e = .returned (.int .i64 (progErr p)) ∧ Ext w w' := by
 have HP := Lib.hid hp
 obtain ⟨r, hr⟩ : ∃ r, progErr p = r := ⟨_, rfl⟩
 rw [hr]
 have HR := Lib.hid hr
 clear hr
 have hp0 := hp
 obtain ⟨a, cap, rfl, hcap, hby, _⟩ := hp
 by_cases h1 : 5 < p.length
 ·have hres : r = 2 := by rw [← HR.out]; unfold progErr; rw [if_pos h1]
  subst hres
  clear hp0
  go_enter Tryz.func20, Tryz.ntmps20
  go_wp2_with fail
  go_ret
  exact ⟨rfl, Ext.refl _⟩
 ·by_cases h2 : p.length = 0
  ·have hres : r = 5 := by rw [← HR.out]; unfold progErr; rw [if_neg h1, if_pos h2]
   subst hres
   have TZ : ((p.length : Int) == 0) = true := by simp [h2]
   clear hp0 h2
   go_enter Tryz.func20, Tryz.ntmps20
   go_wp2_with fail
   go_ret
   exact ⟨rfl, Ext.refl _⟩
  ·have hpos : 0 < p.length := by omega
   have TZ : ((p.length : Int) == 0) = false := beq_eq_false_iff_ne.2 (by omega)
   have h5 : p.length ≤ 5 := by omega
   obtain ⟨b, o, cap', e0, _, _, ⟨_, x0, _⟩, _, _⟩ := hp0.get hpos
   simp only [Value.slice.injEq] at e0
   obtain ⟨rfl, -, rfl⟩ := e0
   rw [Nat.zero_mul, Nat.add_zero] at x0
   have e1 : p.getD 0 default = p[0] := by simp [List.getD, List.getElem?_eq_getElem hpos]
   by_cases h3 : p[0].args ≠ 0
   ·have hres : r = 1 := by rw [← HR.out]; unfold progErr; rw [if_neg h1, if_neg h2, e1, if_pos h3]
    subst hres
    have T3 : (p[0].args != 0) = true := bne_iff_ne.2 h3
    clear hp0 h2 h3 e1 h1
    go_enter Tryz.func20, Tryz.ntmps20
    go_wp2_with fail
    go_ret
    exact ⟨rfl, Ext.refl _⟩
   ·have HRES : Hid (r = if firstFrom p 0 ≠ 0 then firstFrom p 0 else if allFrom p 0 = true then 0 else 1) := by
     unfold Hid
     rw [← HR.out, ← firstFrom_zero, ← allFrom_zero]
     unfold progErr
     rw [if_neg h1, if_neg h2, e1, if_neg h3]
    have T3 : (p[0].args != 0) = false := by rw [bne_eq_false_iff_eq]; exact Decidable.byContradiction h3
    clear hp0 h2 h3 e1 HR h1
    go_enter Tryz.func20, Tryz.ntmps20
    go_wp2_with fail
    go_loopw [3] (fun q wr => ∃ k : Nat, k ≤ p.length ∧ q = .int .i64 k ∧ Ext w wr ∧ firstFrom p k = firstFrom p 0) (fun q _ => p.length - (intOf q).toNat)
    case atStart => exact ⟨0, Nat.zero_le _, rfl, Ext.refl _, rfl⟩
    case round =>
     obtain ⟨k, hk, rfl, hb, hff⟩ := hrel
     have HB := Lib.hid hb
     have HFF := Lib.hid hff
     clear hb hff
     by_cases hlt : k < p.length
     ·obtain ⟨e, he⟩ : ∃ e, funcErr p k = e := ⟨_, rfl⟩
      have HE := Lib.hid he
      have HST := Lib.hid (firstFrom_step p hlt)
      clear he
      by_cases hz : e = 0
      ·subst hz
       go_wp2_with (first
        | (go_at_call 46; (with_reducible refine (funcError_any p _ S k _ (Funcs.stays (Ext.stays HB.out) HP.out)).mono ?_); rintro e w1 ⟨rfl, hb1⟩; rw [HE.out]))
       go_roundw
       case rel => exact ⟨k + 1, by omega, by go_num, HB.out.trans hb1, by rw [← HFF.out, HST.out, if_neg (fun h => h HE.out)]⟩
       case measure => simp [intOf]; omega
      ·have TE : (e != 0) = true := bne_iff_ne.2 hz
       have hres : r = e := by
        rw [HRES.out, ← HFF.out, HST.out, HE.out, if_pos hz, if_pos hz]
       subst hres
       clear hz
       go_wp2_with (first
        | (go_at_call 46; (with_reducible refine (funcError_any p _ S k _ (Funcs.stays (Ext.stays HB.out) HP.out)).mono ?_); rintro e w1 ⟨rfl, hb1⟩; rw [HE.out]))
       go_ret
       exact ⟨rfl, HB.out.trans hb1⟩
     ·obtain rfl : k = p.length := by omega
      have HZ : Hid (firstFrom p 0 = 0) := by
       unfold Hid
       rw [← HFF.out, firstFrom_end]
      clear hlt HFF
      rename World => wr1
      go_wp2_with fail
      go_loopw [5] (fun q wr => ∃ k : Nat, k ≤ p.length ∧ q = .int .i64 k ∧ Ext w wr ∧ allFrom p k = allFrom p 0) (fun q _ => p.length - (intOf q).toNat)
      case atStart => exact ⟨0, Nat.zero_le _, rfl, HB.out, rfl⟩
      case round =>
       obtain ⟨k, hk, rfl, hb, hff⟩ := hrel
       have HB2 := Lib.hid hb
       have HFF := Lib.hid hff
       clear hb hff HB
       by_cases hlt : k < p.length
       ·have hfe := firstFrom_nil _ 0 rfl HZ.out k (Nat.zero_le _) hlt
        obtain ⟨hg, hR⟩ := hts_at hfe hlt
        have HST := Lib.hid (allFrom_step p hlt)
        rw [hg] at HST
        clear hfe hg
        cases hh : hts p p[k].code with
        | none =>
         have HH := Lib.hid hh
         have hres : r = 1 := by
          rw [HRES.out, HZ.out, if_neg (fun h => h rfl), ← HFF.out, HST.out, hh]
          rfl
         subst hres
         clear hh
         go_wp2_with (first
          | (go_at_call 47; (with_reducible refine (heights_any p _ S k _ (Funcs.stays (Ext.stays HB2.out) HP.out) hlt hR).mono ?_); rintro e w2 ⟨hr, hb2⟩; rw [htsR_eq hR.jumps, HH.out] at hr; obtain rfl := hr))
         go_ret
         exact ⟨rfl, HB2.out.trans hb2⟩
        | some l =>
         have HH := Lib.hid hh
         clear hh
         go_wp2_with (first
          | (go_at_call 47; (with_reducible refine (heights_any p _ S k _ (Funcs.stays (Ext.stays HB2.out) HP.out) hlt hR).mono ?_); rintro e w2 ⟨hr, hb2⟩; rw [htsR_eq hR.jumps, HH.out] at hr; obtain ⟨vl, rfl, hl⟩ := hr; obtain ⟨al, cl, rfl, _, _, _⟩ := (⟨hl, trivial⟩ : _ ∧ True).1))
         go_roundw
         case rel => exact ⟨k + 1, by omega, by go_num, HB2.out.trans hb2, by rw [← HFF.out, HST.out, HH.out]; rfl⟩
         case measure => simp [intOf]; omega
       ·obtain rfl : k = p.length := by omega
        have hres : r = 0 := by
         rw [HRES.out, HZ.out, if_neg (fun h => h rfl), ← HFF.out, allFrom_end]
         rfl
        subst hres
        clear hlt HFF
        go_wp2_with fail
        go_ret
        exact ⟨rfl, HB2.out⟩
end Go.Proofs.YtgahbngbpfilgaaGreat
end
section
set_option maxHeartbeats 4000000
set_option maxRecDepth 100000
namespace Go.Proofs.YtgahbngbpfilgaaGreat
open Go Go.RowKit
def freshFrame (p : List GFunc) (f : Int) : GFrame := ⟨f, 0, List.replicate (funcOf p f).locals.toNat 0, []⟩
def beginG (p : List GFunc) : GState := ⟨[⟨[freshFrame p 0], -1⟩], 0, []⟩
theorem I64.zero : I64 0 := I64.small (by decide) (by decide)
theorem I64.neg1 : I64 (-1) := I64.small (by decide) (by decide)
theorem FrameV.cells {w : World} {S : Nat → Prop} {x : GFrame} {sl st : Value} {b o : Nat} (h : FrameV w S (.agg #[.int .i64 x.func, .int .i64 x.at_, sl, st]) x) (hb : S b)
  (h0 : w.cell? ⟨b, o, none⟩ = some (.int .i64 x.func)) (h1 : w.cell? ⟨b, o + 1, none⟩ = some (.int .i64 x.at_)) (h2 : w.cell? ⟨b, o + 2, none⟩ = some sl) (h3 : w.cell? ⟨b, o + 3, none⟩ = some st) : FrameC w S b o x := by
 obtain ⟨s, t, e, i0, i1, hl, hs⟩ := h
 simp only [Value.agg.injEq] at e
 simp at e
 obtain ⟨rfl, rfl⟩ := e
 exact ⟨⟨hb, h0, i0⟩, ⟨hb, h1, i1⟩, ⟨_, h2, hl⟩, _, h3, hs⟩
theorem begin_state {w3 : World} {B base bx : Nat} {x : GFrame} {sl st : Value} (t1 t2 : TypeId) (h : FrameV w3 (base ≤ ·) (.agg #[.int .i64 x.func, .int .i64 x.at_, sl, st]) x) (hB : B ≤ bx) (hb : bx < base) (hb3 : bx < w3.heap.size) (u v z : Value) :
  StateV (((((w3.alloc (.cells #[.int .i64 x.func, .int .i64 x.at_, sl, st] t1)).alloc (.cells #[.slice (some ⟨w3.heap.size, 0, none⟩) 1 1, .int .i64 (-1)] t2)).setCell ⟨bx, 0, none⟩ u).setCell ⟨bx, 1, none⟩ v).setCell ⟨bx, 2, none⟩ z) (B ≤ ·)
   (.agg #[.slice (some ⟨w3.heap.size + 1, 0, none⟩) 1 1, .int .i64 0, .slice none 0 0]) ⟨[⟨[x], -1⟩], 0, []⟩ := by
 have hs4 : (w3.alloc (.cells #[.int .i64 x.func, .int .i64 x.at_, sl, st] t1)).heap.size = w3.heap.size + 1 := Array.size_push _
 have hE4 : Ext w3 (w3.alloc (.cells #[.int .i64 x.func, .int .i64 x.at_, sl, st] t1)) := (Ext.refl _).alloc _
 have f0 := Cx.new w3 [.int .i64 x.func, .int .i64 x.at_, sl, st] t1 (j := 0) rfl
 have f1 := Cx.new w3 [.int .i64 x.func, .int .i64 x.at_, sl, st] t1 (j := 1) rfl
 have f2 := Cx.new w3 [.int .i64 x.func, .int .i64 x.at_, sl, st] t1 (j := 2) rfl
 have f3 := Cx.new w3 [.int .i64 x.func, .int .i64 x.at_, sl, st] t1 (j := 3) rfl
 generalize w3.alloc (.cells [.int .i64 x.func, .int .i64 x.at_, sl, st].toArray t1) = w4 at *
 have hE5 : Ext w4 (w4.alloc (.cells #[.slice (some ⟨w3.heap.size, 0, none⟩) 1 1, .int .i64 (-1)] t2)) := (Ext.refl _).alloc _
 have g0 := Cx.new w4 [.slice (some ⟨w3.heap.size, 0, none⟩) 1 1, .int .i64 (-1)] t2 (j := 0) rfl
 have g1 := Cx.new w4 [.slice (some ⟨w3.heap.size, 0, none⟩) 1 1, .int .i64 (-1)] t2 (j := 1) rfl
 rw [hs4] at g0 g1
 generalize w4.alloc (.cells [.slice (some ⟨w3.heap.size, 0, none⟩) 1 1, .int .i64 (-1)].toArray t2) = w5 at *
 have hch := chg3 w5 bx u v z
 generalize ((w5.setCell ⟨bx, 0, none⟩ u).setCell ⟨bx, 1, none⟩ v).setCell ⟨bx, 2, none⟩ z = w6 at *
 have hfr : FrameV w6 (B ≤ ·) (.agg #[.int .i64 x.func, .int .i64 x.at_, sl, st]) x := FrameV.stays (S := (base ≤ ·)) (fun b o u' hb' hc => ⟨hch.cell (by show ¬ b = bx; have : base ≤ b := hb'; omega) (Ext.cell (hE4.trans hE5) hc), by show B ≤ b; have : base ≤ b := hb'; omega⟩) h
 have k : ∀ j u', Cx w4 w3.heap.size j u' → w6.cell? ⟨w3.heap.size, j, none⟩ = some u' := fun j u' h => ((h.ext hE5).chg hch (by omega)).1
 have k' : ∀ j u', Cx w5 (w3.heap.size + 1) j u' → w6.cell? ⟨w3.heap.size + 1, j, none⟩ = some u' := fun j u' h => (h.chg hch (by omega)).1
 refine ⟨_, _, rfl, Sl.one ⟨⟨_, k' _ _ g0, Sl.one (FrameV.cells hfr (by show B ≤ w3.heap.size; omega) (k _ _ f0) (k _ _ f1) (k _ _ f2) (k _ _ f3)) (by decide)⟩, by show B ≤ w3.heap.size + 1; omega, k' _ _ g1, I64.neg1⟩ (by decide), I64.zero, Sl.nil _ _ _⟩
theorem beginOf_any (p : List GFunc) (v : Value) (S : Nat → Prop) (w : World) (hp : Funcs w S v p) (hz : progErr p = 0) :
  Calls Tryz.prog 51 #[v] w fun e w' => (∃ x, e = .returned x ∧ StateV w' (w.heap.size ≤ ·) x (beginG p)) ∧ Ext w w' := by
 have hRP := progErr_zero hz
 have hpos := hRP.pos
 obtain ⟨_, _, hR'⟩ := funcErr_zero (hRP.func 0 hpos)
 have hR : RightF p p[0] := by have := hR' (by simpa using hpos); simpa using this
 have hloc := hR.locals
 have hF : funcOf p 0 = p[0] := by unfold funcOf; simp [List.getD, List.getElem?_eq_getElem hpos]
 obtain ⟨b, o, cap, rfl, hcap, hby, _, ⟨_, hL, iL⟩, _⟩ := hp.get hpos
 rw [Nat.zero_mul, Nat.add_zero] at hL
 obtain ⟨N, hN⟩ : ∃ N : Nat, p[0].locals = N := ⟨p[0].locals.toNat, by omega⟩
 have HG : Hid (freshFrame p 0 = ⟨0, 0, List.replicate N 0, []⟩) := by unfold Hid freshFrame; rw [hF, hN]; rfl
 rw [hN] at hL hloc
 have hN4 : N ≤ 4 := by omega
 obtain ⟨i0, hi0, hz0, hz1, hz2⟩ := info_parts infoI
 have RA := alloc_keep
 have c0 := Lib.hid (Cx.new w [.slice none 0 0, .int .i64 0, .slice none 0 0] 26 (j := 0) rfl)
 have c1 := Lib.hid (Cx.new w [.slice none 0 0, .int .i64 0, .slice none 0 0] 26 (j := 1) rfl)
 have c2 := Lib.hid (Cx.new w [.slice none 0 0, .int .i64 0, .slice none 0 0] 26 (j := 2) rfl)
 clear hz hRP hR hF hp hN hR'
 go_enter Tryz.func51, Tryz.ntmps51
 go_wp2_with (first
  | (at_make; refine wpList_make_full _ rfl _ _ 24 rfl (w.heap.size + 1) 3 i0 (.int .i64 0) 1 Tryz.underlying24 hi0 hz0 hz1 .i64 .i64 _ _ N rfl rfl rfl rfl (by rw [hz2]; omega) (by unfold maxLen; omega) (by simp) ?_; intro w3 hown3 hgr3; have hE3 := ext_none hgr3; have hrow := IRow.made hown3; have HE4 := Lib.hid ((hE3.alloc (.cells #[.int .i64 0, .int .i64 0, .slice (some ⟨w.heap.size + 1, 0, none⟩) N N, .slice none 0 0] 43)).alloc (.cells #[.slice (some ⟨w3.heap.size, 0, none⟩) 1 1, .int .i64 (-1)] 41)); obtain ⟨⟨d0, d0'⟩, ⟨d1, d1'⟩, ⟨d2, d2'⟩⟩ := (⟨c0.out.ext HE4.out, c1.out.ext HE4.out, c2.out.ext HE4.out⟩ : _ ∧ _ ∧ _)))
 have hs1 : (w.alloc (.cells #[.slice none 0 0, .int .i64 0, .slice none 0 0] 26)).heap.size = w.heap.size + 1 := Array.size_push _
 rw [hs1] at hrow
 have hfr : FrameV w3 (w.heap.size + 1 ≤ ·) (.agg #[.int .i64 0, .int .i64 0, .slice (some ⟨w.heap.size + 1, 0, none⟩) N N, .slice none 0 0]) ⟨0, 0, List.replicate N 0, []⟩ := by
  refine ⟨_, _, rfl, I64.zero, I64.zero, ?_, Sl.nil _ _ _⟩
  show Ints w3 _ _ (List.replicate N 0)
  have := hrow.ints (by rw [List.length_replicate]; omega) (fun x hx => by rw [List.eq_of_mem_replicate hx]; exact I64.small (by decide) (by decide)) (w.heap.size + 1 ≤ ·) (fun _ h => h)
  rwa [List.length_replicate] at this
 have hsz := hE3.size
 have hs1 : (w.alloc (.cells #[.slice none 0 0, .int .i64 0, .slice none 0 0] 26)).heap.size = w.heap.size + 1 := Array.size_push _
 refine bodyPost_ret (results_cell_mid rfl _ _ w.heap.size 0 _ _ rfl (box3 ⟨d0, d0'⟩ ⟨d1, d1'⟩ ⟨d2, d2'⟩ _ _ _) rfl rfl (by kernel_rfl)) rfl ?_
 refine ⟨⟨_, rfl, ?_⟩, ext3 (((Ext.refl w).alloc _).trans HE4.out) _ _ _⟩
 unfold beginG
 rw [HG.out]
 exact begin_state (x := ⟨0, 0, List.replicate N 0, []⟩) 43 41 hfr (Nat.le_refl _) (Nat.lt_succ_self _) (by omega) _ _ _
theorem range4 {w : World} {b : Nat} {x y z u : Value} (h0 : w.cell? ⟨b, 0, none⟩ = some x) (h1 : w.cell? ⟨b, 1, none⟩ = some y) (h2 : w.cell? ⟨b, 2, none⟩ = some z) (h3 : w.cell? ⟨b, 3, none⟩ = some u) : w.rangeAt b 0 [x, y, z, u] := by
 intro j v hj
 rw [Nat.zero_add]
 match j, hj with
 | 0, hj => cases hj; exact h0
 | 1, hj => cases hj; exact h1
 | 2, hj => cases hj; exact h2
 | 3, hj => cases hj; exact h3
theorem box4 {W : World} {b : Nat} {u0 u1 u2 u3 : Value} (h0 : Cx W b 0 u0) (h1 : Cx W b 1 u1) (h2 : Cx W b 2 u2) (h3 : Cx W b 3 u3) (x y z u : Value) :
  ((((W.setCell ⟨b, 0, none⟩ x).setCell ⟨b, 1, none⟩ y).setCell ⟨b, 2, none⟩ z).setCell ⟨b, 3, none⟩ u).rangeAt b 0 [x, y, z, u] :=
 range4 ((((h0.set x).other (.inr (by decide)) y).other (.inr (by decide)) z).other (.inr (by decide)) u).1 ((((h1.other (.inr (by decide)) x).set y).other (.inr (by decide)) z).other (.inr (by decide)) u).1
  ((((h2.other (.inr (by decide)) x).other (.inr (by decide)) y).set z).other (.inr (by decide)) u).1 ((((h3.other (.inr (by decide)) x).other (.inr (by decide)) y).other (.inr (by decide)) z).set u).1
theorem chg4 (W : World) (b : Nat) (x y z u : Value) : Chg (· = b) W ((((W.setCell ⟨b, 0, none⟩ x).setCell ⟨b, 1, none⟩ y).setCell ⟨b, 2, none⟩ z).setCell ⟨b, 3, none⟩ u) := (chg3 W b x y z).trans (chg_one _ _ 3 _)
theorem ext4 {w W : World} (h : Ext w W) (x y z u : Value) : Ext w ((((W.setCell ⟨w.heap.size, 0, none⟩ x).setCell ⟨w.heap.size, 1, none⟩ y).setCell ⟨w.heap.size, 2, none⟩ z).setCell ⟨w.heap.size, 3, none⟩ u) :=
 (ext3 h x y z).setCell (p := ⟨w.heap.size, 3, none⟩) (Nat.le_refl _) _
end Go.Proofs.YtgahbngbpfilgaaGreat
end
section
set_option maxHeartbeats 4000000
set_option maxRecDepth 100000
namespace Go.Proofs.YtgahbngbpfilgaaGreat
open Go Go.RowKit
theorem rightAt {p : List GFunc} (h : progErr p = 0) {k : Nat} (hk : k < p.length) : RightF p p[k] ∧ ∃ l, hts p p[k].code = some l ∧ hgt p k = l ∧ l.length = p[k].code.length := by
 have hRP := progErr_zero h
 obtain ⟨_, _, hR'⟩ := funcErr_zero (hRP.func k hk)
 have hR : RightF p p[k] := by have := hR' (by simpa using hk); simpa using this
 have hs := hRP.hts k hk
 have e : p.getD k default = p[k] := by simp [List.getD, List.getElem?_eq_getElem hk]
 rw [e] at hs
 obtain ⟨l, hl⟩ := Option.isSome_iff_exists.1 hs
 refine ⟨hR, l, hl, ?_, (hts_full hR.jumps hl).len⟩
 unfold hgt
 rw [show (k : Int).toNat = k by omega, e, hl]
 rfl
theorem hgt_len {p : List GFunc} (h : progErr p = 0) {k : Nat} (hk : k < p.length) : (hgt p k).length = p[k].code.length := by
 obtain ⟨_, l, _, e, hl⟩ := rightAt h hk
 rw [e, hl]
theorem funcOf_nat {p : List GFunc} {k : Nat} (hk : k < p.length) : funcOf p k = p[k] := by
 unfold funcOf
 rw [show (k : Int).toNat = k by omega]
 simp [List.getD, List.getElem?_eq_getElem hk]
theorem Ints.at' {w : World} {S : Nat → Prop} {a : Option Addr} {l : List Int} {n c : Nat} (h : Ints w S (.slice a n c) l) {m : Nat} (hm : m < l.length) : ∃ b o, a = some ⟨b, o, none⟩ ∧ w.cell? ⟨b, o + m, none⟩ = some (.int .i64 (l.getD m 0)) := by
 obtain ⟨b, o, _, e1, _, _, _, x0, _⟩ := h.get hm
 simp only [Value.slice.injEq] at e1
 obtain ⟨rfl, -, rfl⟩ := e1
 rw [Nat.mul_one] at x0
 refine ⟨b, o, rfl, ?_⟩
 rw [x0]
 simp [List.getD, List.getElem?_eq_getElem hm]
theorem heights_right (p : List GFunc) (v : Value) (S : Nat → Prop) (n : Nat) (w : World) (hp : Funcs w S v p) (hz : progErr p = 0) (hn : n < p.length) :
  Calls Tryz.prog 47 #[v, .int .i64 n] w fun e w' => (∃ a c, e = .returned (.tuple #[.slice a (hgt p n).length c, .bool true]) ∧ Ints w' (w.heap.size ≤ ·) (.slice a (hgt p n).length c) (hgt p n)) ∧ Ext w w' := by
 obtain ⟨hR, l, hl, e, _⟩ := rightAt hz hn
 refine (heights_any p v S n w hp hn hR).mono fun e' w' ⟨h, hx⟩ => ⟨?_, hx⟩
 rw [htsR_eq hR.jumps, hl] at h
 obtain ⟨v2, he, hi⟩ := h
 have hi2 := hi
 obtain ⟨a, c, rfl, _, _, _⟩ := hi
 rw [e]
 exact ⟨a, c, he, hi2⟩
theorem flowOf_right (p : List GFunc) (v : Value) (S : Nat → Prop) (n : Nat) (w : World) (hp : Funcs w S v p) (hz : progErr p = 0) (hn : n < p.length) :
  Calls Tryz.prog 58 #[v, .int .i64 n] w fun e w' => (∃ a c, e = .returned (.tuple #[.slice a (hgt p n).length c, .bool true]) ∧ Ints w' (w.heap.size ≤ ·) (.slice a (hgt p n).length c) (hgt p n)) ∧ Ext w w' := by
 obtain ⟨hR, l, hl, e, _⟩ := rightAt hz hn
 refine (flowOf_any p v S n w hp hn hR).mono fun e' w' ⟨h, hx⟩ => ⟨?_, hx⟩
 rw [hl] at h
 obtain ⟨v2, he, hi⟩ := h
 have hi2 := hi
 obtain ⟨a, c, rfl, _, _, _⟩ := hi
 rw [e]
 exact ⟨a, c, he, hi2⟩
theorem has_any (l : List Int) (v : Value) (x : Int) (S : Nat → Prop) (w : World) (hl : Ints w S v l) :
  Calls Tryz.prog 24 #[v, .int .i64 x] w fun e w' => e = .returned (.bool (decide (x ∈ l))) ∧ Ext w w' := by
 have HL := Lib.hid hl
 obtain ⟨pa, ca, rfl, hca, hba, _⟩ := hl
 obtain ⟨t, ht⟩ : ∃ t, decide (x ∈ l) = t := ⟨_, rfl⟩
 rw [ht]
 have HT := Lib.hid ht
 clear ht
 go_enter Tryz.func24, Tryz.ntmps24
 go_wp2_with fail
 go_loopw [5] (fun q wr => ∃ k : Nat, k ≤ l.length ∧ q = .int .i64 k ∧ Ext w wr ∧ x ∉ l.take k) (fun q _ => l.length - (intOf q).toNat)
 case atStart => exact ⟨0, Nat.zero_le _, rfl, Ext.refl _, by simp⟩
 case round =>
  obtain ⟨k, hk, rfl, hb3, htk⟩ := hrel
  have HB3 := Lib.hid hb3
  have HTK := Lib.hid htk
  clear hb3 htk
  by_cases hlt : k < l.length
  ·obtain ⟨ba, oa, _, e1, _, _, _, x0, _⟩ := HL.out.get hlt
   simp only [Value.slice.injEq] at e1
   obtain ⟨rfl, -, rfl⟩ := e1
   rw [Nat.mul_one] at x0
   have x1 := Ext.cell HB3.out x0
   have HM : Hid (l[k] ∈ l) := List.getElem_mem hlt
   have HS : Hid (l.take (k + 1) = l.take k ++ [l[k]]) := List.take_succ_eq_append_getElem hlt
   clear x0
   generalize l[k] = u at *
   by_cases hu : u = x
   ·have TT : (u == x) = true := by simp [hu]
    have HX : Hid (t = true) := by unfold Hid; rw [← HT.out]; exact decide_eq_true (hu ▸ HM.out)
    clear hu
    go_wp2_with fail
    go_ret
    exact ⟨by rw [HX.out]; rfl, HB3.out⟩
   ·have TT : (u == x) = false := by simp [hu]
    have HX : Hid (x ∉ l.take (k + 1)) := by unfold Hid; rw [HS.out, List.mem_append, List.mem_singleton]; exact fun h => h.elim HTK.out (fun e => hu e.symm)
    clear hu
    go_wp2_with fail
    go_roundw
    case rel => exact ⟨k + 1, by omega, by go_num, HB3.out, HX.out⟩
    case measure => simp [intOf]; omega
  ·obtain rfl : k = l.length := by omega
   have HX : Hid (t = false) := by unfold Hid; rw [← HT.out]; exact decide_eq_false (by have := HTK.out; rwa [List.take_length] at this)
   go_wp2_with fail
   go_ret
   exact ⟨by rw [HX.out]; rfl, HB3.out⟩
theorem frameFine_any (p : List GFunc) (v : Value) (S T : Nat → Prop) (x : GFrame) (vx : Value) (w : World) (hp : Funcs w S v p) (hz : progErr p = 0) (hx : FrameV w T vx x) :
    Calls Tryz.prog 48 #[v, vx] w fun e w' => e = .returned (.bool (frameB p x)) ∧ Ext w w' := by
  have HP := Lib.hid hp
  have HZ := Lib.hid hz
  obtain ⟨fn, at_, ls, st⟩ := x
  obtain ⟨vs, vt, rfl, _, _, hls, hst⟩ := hx
  obtain ⟨a1, c1, rfl, _, _, _⟩ := hls
  obtain ⟨a2, c2, rfl, _, _, _⟩ := hst
  simp only at *
  have RA := alloc_keep
  have hlen5 := (progErr_zero hz).most
  have KK1 : IntKind.i64.wrap ((p.length : Int) - 1) = (p.length : Int) - 1 := IntWalk.i64_in _ (by omega)
  by_cases h1 : 0 ≤ fn ∧ fn < p.length
  · obtain ⟨n, rfl⟩ : ∃ n : Nat, fn = n := ⟨fn.toNat, by omega⟩
    have hn : n < p.length := by omega
    have W1 : Hid (decide (0 ≤ (n : Int) ∧ (n : Int) ≤ (p.length : Int) - 1) = true) := decide_eq_true (by omega)
    have hlm := hgt_len hz hn
    have hmax := (rightAt hz hn).1.len
    obtain ⟨b, o, cap, rfl, hcap, hby, ⟨_, hA, iA⟩, ⟨_, hL, iL⟩, vc, hC, hcode⟩ := hp.get hn
    obtain ⟨ca, ccap, rfl, hcc, hcby, _⟩ := hcode
    have hF := funcOf_nat hn
    have KK2 : IntKind.i64.wrap ((p[n].code.length : Int) - 1) = (p[n].code.length : Int) - 1 := IntWalk.i64_in _ (by omega)
    by_cases h2 : (ls.length : Int) = p[n].locals
    · have T2 : ((ls.length : Int) != p[n].locals) = false := by rw [bne_eq_false_iff_eq]; exact h2
      by_cases h3 : 0 ≤ at_ ∧ at_ < p[n].code.length
      · obtain ⟨m, rfl⟩ : ∃ m : Nat, at_ = m := ⟨at_.toNat, by omega⟩
        have hm : m < p[n].code.length := by omega
        have W3 : Hid (decide (0 ≤ (m : Int) ∧ (m : Int) ≤ (p[n].code.length : Int) - 1) = true) := decide_eq_true (by omega)
        have HR : Hid (frameB p ⟨n, m, ls, st⟩ = decide (0 ≤ (hgt p n).getD m 0)) := by
          unfold Hid frameB
          simp only [hF]
          rw [decide_eq_true h1, decide_eq_true h2, decide_eq_true h3]
          simp
        have HLM := Lib.hid hlm
        have hlm1 := Nat.le_of_eq hlm
        have hlm2 := Nat.le_of_eq hlm.symm
        clear hp hz h1 h2 h3 hF hlm
        obtain ⟨u, hu⟩ : ∃ u, (hgt p n).getD m 0 = u := ⟨_, rfl⟩
        have HU := Lib.hid hu
        rw [hu] at HR
        clear hu
        go_enter Tryz.func48, Tryz.ntmps48
        go_upto_region 1 with fail
        refine wp_region_ext (by kernel_rfl) (by kernel_rfl) ?_
        repeat (first
          | go_big_quiet_skip
          | (go_big_quiet_want
             unfold Oper.quiet
             apply Exists.intro
             refine ⟨fun w' hw' => ?_, ?_⟩
             focus
               have hcq := Ext.keep hw'
               go_simp
               first
                 | with_reducible rfl
                 | (go_at_call 21; refine (within_any _ _ _ _).mono ?_; rintro e w2 ⟨rfl, rfl⟩; first | (rw [W1.out]; exact ⟨rfl, hw'⟩) | (rw [W3.out]; exact ⟨rfl, hw'⟩))
             (try dsimp only [Act.put])
             (try simp only [List.setIfInBounds_toArray, List.set_cons_succ, List.set_cons_zero])
             go_big_quiet_on))
        refine wpQuiet_nil ?_
        intro wq hq
        have HQ := Lib.hid (((Ext.refl w).alloc _).trans hq)
        have hcq := Ext.keep hq
        go_wp2_with (first
          | (go_at_call 47; refine (heights_right p _ _ n _ (Funcs.stays (Ext.stays HQ.out) HP.out) HZ.out hn).mono ?_; rintro e w2 ⟨⟨a3, c3, rfl, hi⟩, hx2⟩; have hc2 := Ext.keep hx2; obtain ⟨bl, ol, rfl, x0⟩ := Ints.at' hi (m := m) (by omega); rw [HU.out] at x0))
        go_ret
        exact ⟨by rw [HR.out]; rfl, HQ.out.trans hx2⟩
      · have W3 : Hid (decide (0 ≤ at_ ∧ at_ ≤ (p[n].code.length : Int) - 1) = false) := decide_eq_false (by omega)
        have HR : Hid (frameB p ⟨n, at_, ls, st⟩ = false) := by
          unfold Hid frameB
          simp only [hF]
          rw [decide_eq_false h3]
          simp
        clear hp hz h1 h2 h3 hF hlm
        go_enter Tryz.func48, Tryz.ntmps48
        go_upto_region 1 with fail
        refine wp_region_ext (by kernel_rfl) (by kernel_rfl) ?_
        repeat (first
          | go_big_quiet_skip
          | (go_big_quiet_want
             unfold Oper.quiet
             apply Exists.intro
             refine ⟨fun w' hw' => ?_, ?_⟩
             focus
               have hcq := Ext.keep hw'
               go_simp
               first
                 | with_reducible rfl
                 | (go_at_call 21; refine (within_any _ _ _ _).mono ?_; rintro e w2 ⟨rfl, rfl⟩; first | (rw [W1.out]; exact ⟨rfl, hw'⟩) | (rw [W3.out]; exact ⟨rfl, hw'⟩))
             (try dsimp only [Act.put])
             (try simp only [List.setIfInBounds_toArray, List.set_cons_succ, List.set_cons_zero])
             go_big_quiet_on))
        refine wpQuiet_nil ?_
        intro wq hq
        go_wp2_with fail
        go_ret
        exact ⟨by rw [HR.out]; rfl, ((Ext.refl w).alloc _).trans hq⟩
    · have T2 : ((ls.length : Int) != p[n].locals) = true := bne_iff_ne.2 h2
      have HR : Hid (frameB p ⟨n, at_, ls, st⟩ = false) := by
        unfold Hid frameB
        simp only [hF]
        rw [decide_eq_false h2]
        simp
      clear hp hz h1 h2 hF hlm
      go_enter Tryz.func48, Tryz.ntmps48
      go_upto_region 1 with fail
      refine wp_region_ext (by kernel_rfl) (by kernel_rfl) ?_
      repeat (first
        | go_big_quiet_skip
        | (go_big_quiet_want
           unfold Oper.quiet
           apply Exists.intro
           refine ⟨fun w' hw' => ?_, ?_⟩
           focus
             have hcq := Ext.keep hw'
             go_simp
             first
               | with_reducible rfl
               | (go_at_call 21; refine (within_any _ _ _ _).mono ?_; rintro e w2 ⟨rfl, rfl⟩; rw [W1.out]; exact ⟨rfl, hw'⟩)
           (try dsimp only [Act.put])
           (try simp only [List.setIfInBounds_toArray, List.set_cons_succ, List.set_cons_zero])
           go_big_quiet_on))
      refine wpQuiet_nil ?_
      intro wq hq
      go_wp2_with fail
      go_ret
      exact ⟨by rw [HR.out]; rfl, ((Ext.refl w).alloc _).trans hq⟩
  · have W1 : Hid (decide (0 ≤ fn ∧ fn ≤ (p.length : Int) - 1) = false) := decide_eq_false (by omega)
    have HR : Hid (frameB p ⟨fn, at_, ls, st⟩ = false) := by
      unfold Hid frameB
      simp only
      rw [decide_eq_false h1]
      simp
    have hp0 := hp
    obtain ⟨a, cap, rfl, _, _, _⟩ := hp
    clear hz h1 hp0
    go_enter Tryz.func48, Tryz.ntmps48
    go_upto_region 1 with fail
    refine wp_region_ext (by kernel_rfl) (by kernel_rfl) ?_
    repeat (first
      | go_big_quiet_skip
      | (go_big_quiet_want
         unfold Oper.quiet
         apply Exists.intro
         refine ⟨fun w' hw' => ?_, ?_⟩
         focus
           have hcq := Ext.keep hw'
           go_simp
           first
             | with_reducible rfl
             | (go_at_call 21; refine (within_any _ _ _ _).mono ?_; rintro e w2 ⟨rfl, rfl⟩; rw [W1.out]; exact ⟨rfl, hw'⟩)
         (try dsimp only [Act.put])
         (try simp only [List.setIfInBounds_toArray, List.set_cons_succ, List.set_cons_zero])
         go_big_quiet_on))
    refine wpQuiet_nil ?_
    intro wq hq
    go_wp2_with fail
    go_ret
    exact ⟨by rw [HR.out]; rfl, ((Ext.refl w).alloc _).trans hq⟩
end Go.Proofs.YtgahbngbpfilgaaGreat
end
section
set_option maxHeartbeats 4000000
set_option maxRecDepth 100000
namespace Go.Proofs.YtgahbngbpfilgaaGreat
open Go Go.RowKit
def lenV : Value → Nat
 | .slice _ n _ => n
 | _ => 0
def LineRet (B : Nat) (s : GState) (e : Ending) (w' : World) : Prop :=
 match lineS s with
 | none => e = .returned (.tuple #[.slice none 0 0, .bool false])
 | some l => ∃ a c, e = .returned (.tuple #[.slice a l.length c, .bool (lineEnd l)]) ∧ Ints w' (B ≤ ·) (.slice a l.length c) l
theorem lineGo_neg {fs : List GFiber} {k : Nat} {n : Int} {out : List Int} (h : n < 0) : lineGo fs (k + 1) n out = some out := by unfold lineGo; rw [if_pos h]
theorem lineGo_mem {fs : List GFiber} {k : Nat} {n : Int} {out : List Int} (h : ¬ n < 0) (hm : n ∈ out) : lineGo fs (k + 1) n out = none := by unfold lineGo; rw [if_neg h, if_pos hm]
theorem lineGo_next {fs : List GFiber} {k : Nat} {n : Int} {out : List Int} (h : ¬ n < 0) (hm : n ∉ out) : lineGo fs (k + 1) n out = lineGo fs k (callerOf fs n) (out ++ [n]) := by rw [lineGo, if_neg h, if_neg hm]
structure Callers (s : GState) : Prop where
 now : -1 ≤ s.now ∧ s.now ≤ (s.fibers.length : Int) - 1
 all : ∀ k, k < s.fibers.length → -1 ≤ (s.fibers.getD k default).caller ∧ (s.fibers.getD k default).caller ≤ (s.fibers.length : Int) - 1
 few : s.fibers.length ≤ 1000
theorem lineOf_any (s : GState) (vs : Value) (T : Nat → Prop) (w : World) (hs : StateV w T vs s) (hc : Callers s) :
    Calls Tryz.prog 22 #[vs] w fun e w' => LineRet w.heap.size s e w' ∧ Ext w w' := by
  obtain ⟨fs, now, outs⟩ := s
  obtain ⟨x, y, rfl, hfs, _, hout⟩ := hs
  have HFS := Lib.hid hfs
  obtain ⟨af, cf, rfl, _, _, _⟩ := hfs
  obtain ⟨ao, co, rfl, _, _, _⟩ := hout
  simp only at *
  have RA := alloc_keep
  obtain ⟨i0, hi0, hz0, hz1, hz2⟩ := info_parts infoI
  have HC := Lib.hid hc
  have hfew := hc.few
  simp only at hfew
  clear hc
  obtain ⟨S, hS⟩ : ∃ S : GState, (⟨fs, now, outs⟩ : GState) = S := ⟨_, rfl⟩
  have hl0 : lineGo fs (fs.length + 2 - ([] : List Int).length) now [] = lineS S := by rw [← hS]; rfl
  have HS := Lib.hid hS
  have bx0 := Lib.hid (Cx.new w [.slice af fs.length cf, .int .i64 now, .slice ao outs.length co] 26 (j := 0) rfl)
  have bx1 := Lib.hid (Cx.new w [.slice af fs.length cf, .int .i64 now, .slice ao outs.length co] 26 (j := 1) rfl)
  have hE1 := (Ext.refl w).alloc (.cells #[.slice af fs.length cf, .int .i64 now, .slice ao outs.length co] 26)
  have hL0 : LineOn fs now [] := ⟨HC.out.now, List.nodup_nil, by simp⟩
  have HL0 := Lib.hid hl0
  have HLN := Lib.hid hL0
  have HE1 := Lib.hid hE1
  have HSZ1 : Hid ((w.alloc (.cells #[.slice af fs.length cf, .int .i64 now, .slice ao outs.length co] 26)).heap.size = w.heap.size + 1) := Array.size_push _
  rw [hS]
  clear hl0 hL0 hE1 hS
  go_enter Tryz.func22, Tryz.ntmps22
  go_wp2_with fail
  generalize w.alloc (.cells #[.slice af fs.length cf, .int .i64 now, .slice ao outs.length co] 26) = w1 at *
  have hsz1 := bx0.out.lt
  go_loopw [4, 5] (fun q4 q5 wr => ∃ n out, q5 = .int .i64 n ∧ LineOn fs n out ∧ lineGo fs (fs.length + 2 - out.length) n out = lineS S ∧ Ext w1 wr ∧ RowAt wr (w.heap.size + 1) 1 q4 out.length (ints out) ∧ lenV q4 = out.length) (fun q4 _ _ => fs.length + 1 - lenV q4)
  case atStart => exact ⟨now, [], rfl, HLN.out, HL0.out, Ext.refl _, RowAt.nil _ _ _ _, rfl⟩
  case round =>
    obtain ⟨n, out, rfl, hln, hlg, hb, hrow, _⟩ := hrel
    have HLN2 := Lib.hid hln
    have HLG := Lib.hid hlg
    have HB := Lib.hid hb
    have HROW := Lib.hid hrow
    have hol := hln.len
    obtain ⟨ar, capr, rfl, _, _⟩ := hrow.shape
    have hnow := hln.now
    obtain ⟨kf, hkf⟩ : ∃ kf, fs.length + 2 - out.length = kf + 1 := ⟨fs.length + 1 - out.length, by omega⟩
    rw [hkf] at HLG
    clear hln hlg hb hrow HLN HL0
    by_cases h0 : n < 0
    · have T0 : decide (0 ≤ n) = false := decide_eq_false (by omega)
      have HRES : Hid (lineS S = some out) := by unfold Hid; rw [← HLG.out, lineGo_neg h0]
      clear h0 HLG hkf
      have hfin : ∀ wq, Ext wr wq → Ints wq (w.heap.size ≤ ·) (.slice ar out.length capr) out := fun wq hq => by
        refine Ints.of_row (base := w.heap.size + 1) (by rw [flatMap_intF]; exact HROW.out.ext hq (by decide)) (by omega) (fun x hx => ?_) _ (fun b hb _ => by show w.heap.size ≤ b; omega)
        have := HLN2.out.range x hx
        exact ⟨by omega, by omega⟩
      have HFIN := Lib.hid hfin
      clear hfin
      by_cases h1 : out.length = 0
      · have T1 : ((out.length : Int) == 0) = true := by simp [h1]
        have HE : Hid (lineEnd out = true) := by unfold Hid lineEnd; rw [decide_eq_true h1]; rfl
        go_upto_region 11 with fail
        clear h1
        refine wp_region_ext (by kernel_rfl) (by kernel_rfl) ?_
        repeat (first
          | go_big_quiet_skip
          | (go_big_quiet_want
             unfold Oper.quiet
             apply Exists.intro
             refine ⟨fun w' hw' => ?_, ?_⟩
             focus
               have hcq := Ext.keep hw'
               go_simp
               first
                 | with_reducible rfl
                 | fail
             (try dsimp only [Act.put])
             (try simp only [List.setIfInBounds_toArray, List.set_cons_succ, List.set_cons_zero])
             go_big_quiet_on))
        refine wpQuiet_nil ?_
        intro wq hq
        go_wp2_with fail
        go_ret2
        refine ⟨?_, HE1.out.trans (HB.out.trans hq)⟩
        unfold LineRet
        rw [HRES.out]
        exact ⟨ar, capr, by rw [HE.out]; rfl, HFIN.out _ hq⟩
      · obtain ⟨j, hj⟩ : ∃ j, out.length = j + 1 := ⟨out.length - 1, by omega⟩
        have T1 : ((out.length : Int) == 0) = false := beq_eq_false_iff_ne.2 (by omega)
        have KK : IntKind.i64.wrap ((out.length : Int) - 1) = (j : Int) := by rw [IntWalk.i64_in _ (by omega)]; omega
        obtain ⟨g, o, rfl, _, l0⟩ := HROW.out.get_int (q := j) (by omega)
        obtain ⟨u, hu⟩ : ∃ u, out.getD j 0 = u := ⟨_, rfl⟩
        rw [hu] at l0
        have HE : Hid (lineEnd out = (u == 0)) := by
          unfold Hid lineEnd
          rw [decide_eq_false h1, show out.length - 1 = j by omega, hu, Bool.false_or, Bool.eq_iff_iff]
          simp
        have hjl : j < out.length := by omega
        go_upto_region 11 with fail
        clear h1 hj hu
        refine wp_region_ext (by kernel_rfl) (by kernel_rfl) ?_
        repeat (first
          | go_big_quiet_skip
          | (go_big_quiet_want
             unfold Oper.quiet
             apply Exists.intro
             refine ⟨fun w' hw' => ?_, ?_⟩
             focus
               have hcq := Ext.keep hw'
               go_simp
               first
                 | with_reducible rfl
                 | fail
             (try dsimp only [Act.put])
             (try simp only [List.setIfInBounds_toArray, List.set_cons_succ, List.set_cons_zero])
             go_big_quiet_on))
        refine wpQuiet_nil ?_
        intro wq hq
        go_wp2_with fail
        go_ret2
        refine ⟨?_, HE1.out.trans (HB.out.trans hq)⟩
        unfold LineRet
        rw [HRES.out]
        exact ⟨_, capr, by rw [HE.out]; rfl, HFIN.out _ hq⟩
    · have T0 : decide (0 ≤ n) = true := decide_eq_true (by omega)
      obtain ⟨m, rfl⟩ : ∃ m : Nat, n = m := ⟨n.toNat, by omega⟩
      have hml : m < fs.length := by omega
      clear hnow
      go_wp2_with fail
      go_loopw [6] (fun q wx => ∃ j : Nat, j ≤ out.length ∧ q = .int .i64 j ∧ wr = wx ∧ (m : Int) ∉ out.take j) (fun q _ => out.length - (intOf q).toNat)
      case atStart => exact ⟨0, Nat.zero_le _, rfl, rfl, by simp⟩
      case round =>
        obtain ⟨j, hj, rfl, rfl, hnm⟩ := hrel
        have HNM := Lib.hid hnm
        clear hnm
        by_cases hlt : j < out.length
        · obtain ⟨g, o, rfl, _, l0⟩ := HROW.out.get_int hlt
          have HM : Hid (out[j] ∈ out) := List.getElem_mem hlt
          have HSS : Hid (out.take (j + 1) = out.take j ++ [out[j]]) := List.take_succ_eq_append_getElem hlt
          have eg : out.getD j 0 = out[j] := by simp [List.getD, List.getElem?_eq_getElem hlt]
          rw [eg] at l0
          clear eg
          generalize out[j] = u at *
          by_cases hu : u = m
          · have TT : (u == (m : Int)) = true := by simp [hu]
            have HRES : Hid (lineS S = none) := by unfold Hid; rw [← HLG.out]; exact lineGo_mem (by omega) (hu ▸ HM.out)
            clear hu
            go_wp2_with fail
            go_ret2
            refine ⟨?_, HE1.out.trans HB.out⟩
            unfold LineRet
            rw [HRES.out]
            rfl
          · have TT : (u == (m : Int)) = false := beq_eq_false_iff_ne.2 hu
            have HX : Hid ((m : Int) ∉ out.take (j + 1)) := by unfold Hid; rw [HSS.out, List.mem_append, List.mem_singleton]; exact fun h => h.elim HNM.out (fun e => hu e.symm)
            clear hu
            go_wp2_with fail
            go_roundw
            case rel => exact ⟨j + 1, by omega, by go_num, trivial, HX.out⟩
            case measure => simp [intOf]; omega
        · obtain rfl : j = out.length := by omega
          have HNM2 : Hid ((m : Int) ∉ out) := by have := HNM.out; rwa [List.take_length] at this
          have HNX := Lib.hid (HLN2.out.next (by omega) HNM2.out HC.out.all)
          have HLG2 : Hid (lineGo fs kf (callerOf fs m) (out ++ [(m : Int)]) = lineS S) := by unfold Hid; rw [← lineGo_next (n := (m : Int)) (by omega) HNM2.out]; exact HLG.out
          obtain ⟨bf, of, _, ef, _, _, _, _, f1, _⟩ := HFS.out.get hml
          simp only [Value.slice.injEq] at ef
          obtain ⟨rfl, -, rfl⟩ := ef
          have HCL : Hid (fs[m].caller = callerOf fs m) := by unfold Hid callerOf; rw [show (m : Int).toNat = m by omega]; simp [List.getD, List.getElem?_eq_getElem hml]
          rw [HCL.out] at f1
          generalize callerOf fs m = cl at *
          clear hlt h0 HLG
          have HS7 : Hid ((wr.alloc (.cells #[.int .i64 (m : Int)] 3)).heap.size = wr.heap.size + 1) := Array.size_push _
          have HB1 : Hid (w.heap.size + 1 ≤ wr.heap.size) := by unfold Hid; rw [← HSZ1.out]; exact HB.out.size
          go_wp2_with (first
            | (at_builtin; refine wpList_append_row rfl _ _ 24 rfl (w.heap.size + 1) 3 i0 (.int .i64 0) 1 8 Tryz.underlying24 hi0 hz0 hz1 hz2 rfl (by decide) _ _ _ rfl (by exact HROW.out.ext ((Ext.refl _).alloc _) (by decide)) 1 (ints [(m : Int)]) (src_one _ _ _) (by unfold maxLen; omega) (by omega) (by rw [HS7.out]; exact Nat.le_succ_of_le HB1.out) ?_; intro v1 Wv1 rv1; have RV := Lib.hid rv1; obtain ⟨a9, cap9, rfl, _, _⟩ := rv1.1.shape; have HX9 := Lib.hid (Chg.ext_from (HB.out.alloc (.cells #[.int .i64 (m : Int)] 3)) RV.out.2.1 (fun g e => by rw [HSZ1.out]; exact HROW.out.le g e)); have k0 := (bx0.out.ext HX9.out).1; have k1 := Ext.cell (HE1.out.trans HX9.out) f1; clear rv1))
          go_roundw
          case rel => exact ⟨cl, out ++ [(m : Int)], rfl, HNX.out, by rw [← HLG2.out, List.length_append, List.length_singleton, show fs.length + 2 - (out.length + 1) = kf by omega], HX9.out, by rw [List.length_append, List.length_singleton, ints_app]; exact RV.out.1, by rw [List.length_append, List.length_singleton]; rfl⟩
          case measure => simp [lenV]; omega
end Go.Proofs.YtgahbngbpfilgaaGreat
end
