/- Merged texts: contracts and plain facts, one part behind another; each part begins with what it says. -/
import Derived.Test.YtgahbngbpfilgaaGreatGEAB
import Derived.Test.YtgahbngbpfilgaaGreatGEAC
import Derived.Test.YtgahbngbpfilgaaGreatGEAD
import Derived.Test.YtgahbngbpfilgaaGreatGEAE
import Derived.Deep.MidRow
section
set_option maxHeartbeats 400000
namespace Go.Proofs.YtgahbngbpfilgaaGreat
open Go Go.RowKit
def Cx (W : World) (b j : Nat) (v : Value) : Prop := W.cell? ⟨b, j, none⟩ = some v ∧ W.frozen? ⟨b, j, none⟩ = false
theorem Cx.lt {W : World} {b j : Nat} {v : Value} (h : Cx W b j v) : b < W.heap.size := lt_of_cell h.1
theorem Cx.new (W : World) (vs : List Value) (t : TypeId) {j : Nat} {v : Value} (hj : vs[j]? = some v) : Cx (W.alloc (.cells vs.toArray t)) W.heap.size j v := by
 refine ⟨?_, World.frozen?_alloc_new W vs.toArray t j⟩
 have := World.cell?_alloc_new W vs.toArray t j
 rw [this, List.getElem?_toArray, hj]
theorem Cx.ext {W W' : World} {b j : Nat} {v : Value} (h : Cx W b j v) (he : Ext W W') : Cx W' b j v :=
 ⟨Ext.cell he h.1, by rw [Ext.keepF he _ (by rw [h.1]; rfl)]; exact h.2⟩
theorem Cx.chg {M : Nat → Prop} {W W' : World} {b j : Nat} {v : Value} (h : Cx W b j v) (hc : Chg M W W') (hM : ¬ M b) : Cx W' b j v :=
 ⟨Chg.cell hc hM h.1, by rw [Chg.frozen hc hM h.lt]; exact h.2⟩
theorem Cx.set {W : World} {b j : Nat} {v : Value} (h : Cx W b j v) (u : Value) : Cx (W.setCell ⟨b, j, none⟩ u) b j u :=
 ⟨World.cell?_setCell_same' _ _ _ (by rw [h.1]; rfl), by rw [World.frozen?_setCell]; exact h.2⟩
theorem Cx.other {W : World} {b j b' j' : Nat} {v : Value} (h : Cx W b j v) (hne : b ≠ b' ∨ j ≠ j') (u : Value) : Cx (W.setCell ⟨b', j', none⟩ u) b j v :=
 ⟨by rw [World.cell?_setCell_other (a := ⟨b', j', none⟩) (b := ⟨b, j, none⟩) (h := by intro e; simp only [Addr.mk.injEq] at e; omega)]; exact h.1, by rw [World.frozen?_setCell]; exact h.2⟩
theorem results_cell_mid {P : Program} {fn : Func} {p : Tmp} {ty : TypeId} (h : fn.results = #[.cell p ty]) (tmps : Array Value) (w : World) (b o : Nat) (cs : List Value) (d : TypeDesc)
  (hp : tmps.getD p undef = .pointer (some ⟨b, o, none⟩)) (hc : w.rangeAt b o cs) (hu : P.underlying ty = some d) (hd : d.isRow = true) (hi : (P.info? ty).map (·.size) = some cs.length) :
  (results fn tmps).run P w = .ok (.agg cs.toArray) w := by
 have hp' : tmps[p]?.getD undef = .pointer (some ⟨b, o, none⟩) := by simpa using hp
 simp [results, h, hp', asAddr, run_loadVar_mid w b o ty cs d hc hu hd hi]
theorem range3 {w : World} {b : Nat} {x y z : Value} (h0 : w.cell? ⟨b, 0, none⟩ = some x) (h1 : w.cell? ⟨b, 1, none⟩ = some y) (h2 : w.cell? ⟨b, 2, none⟩ = some z) : w.rangeAt b 0 [x, y, z] := by
 intro j v hj
 rw [Nat.zero_add]
 match j, hj with
 | 0, hj => cases hj; exact h0
 | 1, hj => cases hj; exact h1
 | 2, hj => cases hj; exact h2
end Go.Proofs.YtgahbngbpfilgaaGreat
end
section
set_option maxHeartbeats 4000000
set_option maxRecDepth 100000
namespace Go.Proofs.YtgahbngbpfilgaaGreat
open Go Go.RowKit
theorem rightAt {p : List GFunc} (h : progErr p = 0) {k : Nat} (hk : k < p.length) : RightF p p[k] ∧ ∃ l, hts p p[k].code = some l ∧ hgt p k = l ∧ l.length = p[k].code.length := by
 have hRP := progErr_zero h
 obtain ⟨_, _, hR'⟩ := funcErr_zero (hRP.func k hk)
 have hR : RightF p p[k] := by have := hR' (by simpa using hk); simpa using this
 have hs := hRP.hts k hk
 have e : p.getD k default = p[k] := by simp [List.getD, List.getElem?_eq_getElem hk]
 rw [e] at hs
 obtain ⟨l, hl⟩ := Option.isSome_iff_exists.1 hs
 refine ⟨hR, l, hl, ?_, (hts_full hR.jumps hl).len⟩
 unfold hgt
 rw [show (k : Int).toNat = k by omega, e, hl]
 rfl
theorem hgt_len {p : List GFunc} (h : progErr p = 0) {k : Nat} (hk : k < p.length) : (hgt p k).length = p[k].code.length := by
 obtain ⟨_, l, _, e, hl⟩ := rightAt h hk
 rw [e, hl]
theorem funcOf_nat {p : List GFunc} {k : Nat} (hk : k < p.length) : funcOf p k = p[k] := by
 unfold funcOf
 rw [show (k : Int).toNat = k by omega]
 simp [List.getD, List.getElem?_eq_getElem hk]
theorem Ints.at' {w : World} {S : Nat → Prop} {a : Option Addr} {l : List Int} {n c : Nat} (h : Ints w S (.slice a n c) l) {m : Nat} (hm : m < l.length) : ∃ b o, a = some ⟨b, o, none⟩ ∧ w.cell? ⟨b, o + m, none⟩ = some (.int .i64 (l.getD m 0)) := by
 obtain ⟨b, o, _, e1, _, _, _, x0, _⟩ := h.get hm
 simp only [Value.slice.injEq] at e1
 obtain ⟨rfl, -, rfl⟩ := e1
 rw [Nat.mul_one] at x0
 refine ⟨b, o, rfl, ?_⟩
 rw [x0]
 simp [List.getD, List.getElem?_eq_getElem hm]
theorem heights_right (p : List GFunc) (v : Value) (S : Nat → Prop) (n : Nat) (w : World) (hp : Funcs w S v p) (hz : progErr p = 0) (hn : n < p.length) :
  Calls Tryz.prog 47 #[v, .int .i64 n] w fun e w' => (∃ a c, e = .returned (.tuple #[.slice a (hgt p n).length c, .bool true]) ∧ Ints w' (w.heap.size ≤ ·) (.slice a (hgt p n).length c) (hgt p n)) ∧ Ext w w' := by
 obtain ⟨hR, l, hl, e, _⟩ := rightAt hz hn
 refine (heights_any p v S n w hp hn hR).mono fun e' w' ⟨h, hx⟩ => ⟨?_, hx⟩
 rw [htsR_eq hR.jumps, hl] at h
 obtain ⟨v2, he, hi⟩ := h
 have hi2 := hi
 obtain ⟨a, c, rfl, _, _, _⟩ := hi
 rw [e]
 exact ⟨a, c, he, hi2⟩
theorem flowOf_right (p : List GFunc) (v : Value) (S : Nat → Prop) (n : Nat) (w : World) (hp : Funcs w S v p) (hz : progErr p = 0) (hn : n < p.length) :
  Calls Tryz.prog 58 #[v, .int .i64 n] w fun e w' => (∃ a c, e = .returned (.tuple #[.slice a (hgt p n).length c, .bool true]) ∧ Ints w' (w.heap.size ≤ ·) (.slice a (hgt p n).length c) (hgt p n)) ∧ Ext w w' := by
 obtain ⟨hR, l, hl, e, _⟩ := rightAt hz hn
 refine (flowOf_any p v S n w hp hn hR).mono fun e' w' ⟨h, hx⟩ => ⟨?_, hx⟩
 rw [hl] at h
 obtain ⟨v2, he, hi⟩ := h
 have hi2 := hi
 obtain ⟨a, c, rfl, _, _, _⟩ := hi
 rw [e]
 exact ⟨a, c, he, hi2⟩
theorem has_any (l : List Int) (v : Value) (x : Int) (S : Nat → Prop) (w : World) (hl : Ints w S v l) :
  Calls Tryz.prog 24 #[v, .int .i64 x] w fun e w' => e = .returned (.bool (decide (x ∈ l))) ∧ Ext w w' := by
 have HL := Lib.hid hl
 obtain ⟨pa, ca, rfl, hca, hba, _⟩ := hl
 obtain ⟨t, ht⟩ : ∃ t, decide (x ∈ l) = t := ⟨_, rfl⟩
 rw [ht]
 have HT := Lib.hid ht
 clear ht
 go_enter Tryz.func24, Tryz.ntmps24
 go_wp2_with fail
 go_loopw [5] (fun q wr => ∃ k : Nat, k ≤ l.length ∧ q = .int .i64 k ∧ Ext w wr ∧ x ∉ l.take k) (fun q _ => l.length - (intOf q).toNat)
 case atStart => exact ⟨0, Nat.zero_le _, rfl, Ext.refl _, by simp⟩
 case round =>
  obtain ⟨k, hk, rfl, hb3, htk⟩ := hrel
  have HB3 := Lib.hid hb3
  have HTK := Lib.hid htk
  clear hb3 htk
  by_cases hlt : k < l.length
  ·obtain ⟨ba, oa, _, e1, _, _, _, x0, _⟩ := HL.out.get hlt
   simp only [Value.slice.injEq] at e1
   obtain ⟨rfl, -, rfl⟩ := e1
   rw [Nat.mul_one] at x0
   have x1 := Ext.cell HB3.out x0
   have HM : Hid (l[k] ∈ l) := List.getElem_mem hlt
   have HS : Hid (l.take (k + 1) = l.take k ++ [l[k]]) := List.take_succ_eq_append_getElem hlt
   clear x0
   generalize l[k] = u at *
   by_cases hu : u = x
   ·have TT : (u == x) = true := by simp [hu]
    have HX : Hid (t = true) := by unfold Hid; rw [← HT.out]; exact decide_eq_true (hu ▸ HM.out)
    clear hu
    go_wp2_with fail
    go_ret
    exact ⟨by rw [HX.out]; rfl, HB3.out⟩
   ·have TT : (u == x) = false := by simp [hu]
    have HX : Hid (x ∉ l.take (k + 1)) := by unfold Hid; rw [HS.out, List.mem_append, List.mem_singleton]; exact fun h => h.elim HTK.out (fun e => hu e.symm)
    clear hu
    go_wp2_with fail
    go_roundw
    case rel => exact ⟨k + 1, by omega, by go_num, HB3.out, HX.out⟩
    case measure => simp [intOf]; omega
  ·obtain rfl : k = l.length := by omega
   have HX : Hid (t = false) := by unfold Hid; rw [← HT.out]; exact decide_eq_false (by have := HTK.out; rwa [List.take_length] at this)
   go_wp2_with fail
   go_ret
   exact ⟨by rw [HX.out]; rfl, HB3.out⟩
theorem frameFine_any (p : List GFunc) (v : Value) (S T : Nat → Prop) (x : GFrame) (vx : Value) (w : World) (hp : Funcs w S v p) (hz : progErr p = 0) (hx : FrameV w T vx x) :
    Calls Tryz.prog 48 #[v, vx] w fun e w' => e = .returned (.bool (frameB p x)) ∧ Ext w w' := by
  have HP := Lib.hid hp
  have HZ := Lib.hid hz
  obtain ⟨fn, at_, ls, st⟩ := x
  obtain ⟨vs, vt, rfl, _, _, hls, hst⟩ := hx
  obtain ⟨a1, c1, rfl, _, _, _⟩ := hls
  obtain ⟨a2, c2, rfl, _, _, _⟩ := hst
  simp only at *
  have RA := alloc_keep
  have hlen5 := (progErr_zero hz).most
  have KK1 : IntKind.i64.wrap ((p.length : Int) - 1) = (p.length : Int) - 1 := IntWalk.i64_in _ (by omega)
  by_cases h1 : 0 ≤ fn ∧ fn < p.length
  · obtain ⟨n, rfl⟩ : ∃ n : Nat, fn = n := ⟨fn.toNat, by omega⟩
    have hn : n < p.length := by omega
    have W1 : Hid (decide (0 ≤ (n : Int) ∧ (n : Int) ≤ (p.length : Int) - 1) = true) := decide_eq_true (by omega)
    have hlm := hgt_len hz hn
    have hmax := (rightAt hz hn).1.len
    obtain ⟨b, o, cap, rfl, hcap, hby, ⟨_, hA, iA⟩, ⟨_, hL, iL⟩, vc, hC, hcode⟩ := hp.get hn
    obtain ⟨ca, ccap, rfl, hcc, hcby, _⟩ := hcode
    have hF := funcOf_nat hn
    have KK2 : IntKind.i64.wrap ((p[n].code.length : Int) - 1) = (p[n].code.length : Int) - 1 := IntWalk.i64_in _ (by omega)
    by_cases h2 : (ls.length : Int) = p[n].locals
    · have T2 : ((ls.length : Int) != p[n].locals) = false := by rw [bne_eq_false_iff_eq]; exact h2
      by_cases h3 : 0 ≤ at_ ∧ at_ < p[n].code.length
      · obtain ⟨m, rfl⟩ : ∃ m : Nat, at_ = m := ⟨at_.toNat, by omega⟩
        have hm : m < p[n].code.length := by omega
        have W3 : Hid (decide (0 ≤ (m : Int) ∧ (m : Int) ≤ (p[n].code.length : Int) - 1) = true) := decide_eq_true (by omega)
        have HR : Hid (frameB p ⟨n, m, ls, st⟩ = decide (0 ≤ (hgt p n).getD m 0)) := by
          unfold Hid frameB
          simp only [hF]
          rw [decide_eq_true h1, decide_eq_true h2, decide_eq_true h3]
          simp
        have HLM := Lib.hid hlm
        have hlm1 := Nat.le_of_eq hlm
        have hlm2 := Nat.le_of_eq hlm.symm
        clear hp hz h1 h2 h3 hF hlm
        obtain ⟨u, hu⟩ : ∃ u, (hgt p n).getD m 0 = u := ⟨_, rfl⟩
        have HU := Lib.hid hu
        rw [hu] at HR
        clear hu
        go_enter Tryz.func48, Tryz.ntmps48
        go_upto_region 1 with fail
        refine wp_region_ext (by kernel_rfl) (by kernel_rfl) ?_
        repeat (first
          | go_big_quiet_skip
          | (go_big_quiet_want
             unfold Oper.quiet
             apply Exists.intro
             refine ⟨fun w' hw' => ?_, ?_⟩
             focus
               have hcq := Ext.keep hw'
               go_simp
               first
                 | with_reducible rfl
                 | (go_at_call 21; refine (within_any _ _ _ _).mono ?_; rintro e w2 ⟨rfl, rfl⟩; first | (rw [W1.out]; exact ⟨rfl, hw'⟩) | (rw [W3.out]; exact ⟨rfl, hw'⟩))
             (try dsimp only [Act.put])
             (try simp only [List.setIfInBounds_toArray, List.set_cons_succ, List.set_cons_zero])
             go_big_quiet_on))
        refine wpQuiet_nil ?_
        intro wq hq
        have HQ := Lib.hid (((Ext.refl w).alloc _).trans hq)
        have hcq := Ext.keep hq
        go_wp2_with (first
          | (go_at_call 47; refine (heights_right p _ _ n _ (Funcs.stays (Ext.stays HQ.out) HP.out) HZ.out hn).mono ?_; rintro e w2 ⟨⟨a3, c3, rfl, hi⟩, hx2⟩; have hc2 := Ext.keep hx2; obtain ⟨bl, ol, rfl, x0⟩ := Ints.at' hi (m := m) (by omega); rw [HU.out] at x0))
        go_ret
        exact ⟨by rw [HR.out]; rfl, HQ.out.trans hx2⟩
      · have W3 : Hid (decide (0 ≤ at_ ∧ at_ ≤ (p[n].code.length : Int) - 1) = false) := decide_eq_false (by omega)
        have HR : Hid (frameB p ⟨n, at_, ls, st⟩ = false) := by
          unfold Hid frameB
          simp only [hF]
          rw [decide_eq_false h3]
          simp
        clear hp hz h1 h2 h3 hF hlm
        go_enter Tryz.func48, Tryz.ntmps48
        go_upto_region 1 with fail
        refine wp_region_ext (by kernel_rfl) (by kernel_rfl) ?_
        repeat (first
          | go_big_quiet_skip
          | (go_big_quiet_want
             unfold Oper.quiet
             apply Exists.intro
             refine ⟨fun w' hw' => ?_, ?_⟩
             focus
               have hcq := Ext.keep hw'
               go_simp
               first
                 | with_reducible rfl
                 | (go_at_call 21; refine (within_any _ _ _ _).mono ?_; rintro e w2 ⟨rfl, rfl⟩; first | (rw [W1.out]; exact ⟨rfl, hw'⟩) | (rw [W3.out]; exact ⟨rfl, hw'⟩))
             (try dsimp only [Act.put])
             (try simp only [List.setIfInBounds_toArray, List.set_cons_succ, List.set_cons_zero])
             go_big_quiet_on))
        refine wpQuiet_nil ?_
        intro wq hq
        go_wp2_with fail
        go_ret
        exact ⟨by rw [HR.out]; rfl, ((Ext.refl w).alloc _).trans hq⟩
    · have T2 : ((ls.length : Int) != p[n].locals) = true := bne_iff_ne.2 h2
      have HR : Hid (frameB p ⟨n, at_, ls, st⟩ = false) := by
        unfold Hid frameB
        simp only [hF]
        rw [decide_eq_false h2]
        simp
      clear hp hz h1 h2 hF hlm
      go_enter Tryz.func48, Tryz.ntmps48
      go_upto_region 1 with fail
      refine wp_region_ext (by kernel_rfl) (by kernel_rfl) ?_
      repeat (first
        | go_big_quiet_skip
        | (go_big_quiet_want
           unfold Oper.quiet
           apply Exists.intro
           refine ⟨fun w' hw' => ?_, ?_⟩
           focus
             have hcq := Ext.keep hw'
             go_simp
             first
               | with_reducible rfl
               | (go_at_call 21; refine (within_any _ _ _ _).mono ?_; rintro e w2 ⟨rfl, rfl⟩; rw [W1.out]; exact ⟨rfl, hw'⟩)
           (try dsimp only [Act.put])
           (try simp only [List.setIfInBounds_toArray, List.set_cons_succ, List.set_cons_zero])
           go_big_quiet_on))
      refine wpQuiet_nil ?_
      intro wq hq
      go_wp2_with fail
      go_ret
      exact ⟨by rw [HR.out]; rfl, ((Ext.refl w).alloc _).trans hq⟩
  · have W1 : Hid (decide (0 ≤ fn ∧ fn ≤ (p.length : Int) - 1) = false) := decide_eq_false (by omega)
    have HR : Hid (frameB p ⟨fn, at_, ls, st⟩ = false) := by
      unfold Hid frameB
      simp only
      rw [decide_eq_false h1]
      simp
    have hp0 := hp
    obtain ⟨a, cap, rfl, _, _, _⟩ := hp
    clear hz h1 hp0
    go_enter Tryz.func48, Tryz.ntmps48
    go_upto_region 1 with fail
    refine wp_region_ext (by kernel_rfl) (by kernel_rfl) ?_
    repeat (first
      | go_big_quiet_skip
      | (go_big_quiet_want
         unfold Oper.quiet
         apply Exists.intro
         refine ⟨fun w' hw' => ?_, ?_⟩
         focus
           have hcq := Ext.keep hw'
           go_simp
           first
             | with_reducible rfl
             | (go_at_call 21; refine (within_any _ _ _ _).mono ?_; rintro e w2 ⟨rfl, rfl⟩; rw [W1.out]; exact ⟨rfl, hw'⟩)
         (try dsimp only [Act.put])
         (try simp only [List.setIfInBounds_toArray, List.set_cons_succ, List.set_cons_zero])
         go_big_quiet_on))
    refine wpQuiet_nil ?_
    intro wq hq
    go_wp2_with fail
    go_ret
    exact ⟨by rw [HR.out]; rfl, ((Ext.refl w).alloc _).trans hq⟩
end Go.Proofs.YtgahbngbpfilgaaGreat
end
section
set_option maxHeartbeats 4000000
set_option maxRecDepth 100000
namespace Go.Proofs.YtgahbngbpfilgaaGreat
open Go Go.RowKit
def lenV : Value → Nat
 | .slice _ n _ => n
 | _ => 0
def LineRet (B : Nat) (s : GState) (e : Ending) (w' : World) : Prop :=
 match lineS s with
 | none => e = .returned (.tuple #[.slice none 0 0, .bool false])
 | some l => ∃ a c, e = .returned (.tuple #[.slice a l.length c, .bool (lineEnd l)]) ∧ Ints w' (B ≤ ·) (.slice a l.length c) l
theorem lineGo_neg {fs : List GFiber} {k : Nat} {n : Int} {out : List Int} (h : n < 0) : lineGo fs (k + 1) n out = some out := by unfold lineGo; rw [if_pos h]
theorem lineGo_mem {fs : List GFiber} {k : Nat} {n : Int} {out : List Int} (h : ¬ n < 0) (hm : n ∈ out) : lineGo fs (k + 1) n out = none := by unfold lineGo; rw [if_neg h, if_pos hm]
theorem lineGo_next {fs : List GFiber} {k : Nat} {n : Int} {out : List Int} (h : ¬ n < 0) (hm : n ∉ out) : lineGo fs (k + 1) n out = lineGo fs k (callerOf fs n) (out ++ [n]) := by rw [lineGo, if_neg h, if_neg hm]
structure Callers (s : GState) : Prop where
 now : -1 ≤ s.now ∧ s.now ≤ (s.fibers.length : Int) - 1
 all : ∀ k, k < s.fibers.length → -1 ≤ (s.fibers.getD k default).caller ∧ (s.fibers.getD k default).caller ≤ (s.fibers.length : Int) - 1
 few : s.fibers.length ≤ 1000
theorem lineOf_any (s : GState) (vs : Value) (T : Nat → Prop) (w : World) (hs : StateV w T vs s) (hc : Callers s) :
    Calls Tryz.prog 22 #[vs] w fun e w' => LineRet w.heap.size s e w' ∧ Ext w w' := by
  obtain ⟨fs, now, outs⟩ := s
  obtain ⟨x, y, rfl, hfs, _, hout⟩ := hs
  have HFS := Lib.hid hfs
  obtain ⟨af, cf, rfl, _, _, _⟩ := hfs
  obtain ⟨ao, co, rfl, _, _, _⟩ := hout
  simp only at *
  have RA := alloc_keep
  obtain ⟨i0, hi0, hz0, hz1, hz2⟩ := info_parts infoI
  have HC := Lib.hid hc
  have hfew := hc.few
  simp only at hfew
  clear hc
  obtain ⟨S, hS⟩ : ∃ S : GState, (⟨fs, now, outs⟩ : GState) = S := ⟨_, rfl⟩
  have hl0 : lineGo fs (fs.length + 2 - ([] : List Int).length) now [] = lineS S := by rw [← hS]; rfl
  have HS := Lib.hid hS
  have bx0 := Lib.hid (Cx.new w [.slice af fs.length cf, .int .i64 now, .slice ao outs.length co] 26 (j := 0) rfl)
  have bx1 := Lib.hid (Cx.new w [.slice af fs.length cf, .int .i64 now, .slice ao outs.length co] 26 (j := 1) rfl)
  have hE1 := (Ext.refl w).alloc (.cells #[.slice af fs.length cf, .int .i64 now, .slice ao outs.length co] 26)
  have hL0 : LineOn fs now [] := ⟨HC.out.now, List.nodup_nil, by simp⟩
  have HL0 := Lib.hid hl0
  have HLN := Lib.hid hL0
  have HE1 := Lib.hid hE1
  have HSZ1 : Hid ((w.alloc (.cells #[.slice af fs.length cf, .int .i64 now, .slice ao outs.length co] 26)).heap.size = w.heap.size + 1) := Array.size_push _
  rw [hS]
  clear hl0 hL0 hE1 hS
  go_enter Tryz.func22, Tryz.ntmps22
  go_wp2_with fail
  generalize w.alloc (.cells #[.slice af fs.length cf, .int .i64 now, .slice ao outs.length co] 26) = w1 at *
  have hsz1 := bx0.out.lt
  go_loopw [4, 5] (fun q4 q5 wr => ∃ n out, q5 = .int .i64 n ∧ LineOn fs n out ∧ lineGo fs (fs.length + 2 - out.length) n out = lineS S ∧ Ext w1 wr ∧ RowAt wr (w.heap.size + 1) 1 q4 out.length (ints out) ∧ lenV q4 = out.length) (fun q4 _ _ => fs.length + 1 - lenV q4)
  case atStart => exact ⟨now, [], rfl, HLN.out, HL0.out, Ext.refl _, RowAt.nil _ _ _ _, rfl⟩
  case round =>
    obtain ⟨n, out, rfl, hln, hlg, hb, hrow, _⟩ := hrel
    have HLN2 := Lib.hid hln
    have HLG := Lib.hid hlg
    have HB := Lib.hid hb
    have HROW := Lib.hid hrow
    have hol := hln.len
    obtain ⟨ar, capr, rfl, _, _⟩ := hrow.shape
    have hnow := hln.now
    obtain ⟨kf, hkf⟩ : ∃ kf, fs.length + 2 - out.length = kf + 1 := ⟨fs.length + 1 - out.length, by omega⟩
    rw [hkf] at HLG
    clear hln hlg hb hrow HLN HL0
    by_cases h0 : n < 0
    · have T0 : decide (0 ≤ n) = false := decide_eq_false (by omega)
      have HRES : Hid (lineS S = some out) := by unfold Hid; rw [← HLG.out, lineGo_neg h0]
      clear h0 HLG hkf
      have hfin : ∀ wq, Ext wr wq → Ints wq (w.heap.size ≤ ·) (.slice ar out.length capr) out := fun wq hq => by
        refine Ints.of_row (base := w.heap.size + 1) (by rw [flatMap_intF]; exact HROW.out.ext hq (by decide)) (by omega) (fun x hx => ?_) _ (fun b hb _ => by show w.heap.size ≤ b; omega)
        have := HLN2.out.range x hx
        exact ⟨by omega, by omega⟩
      have HFIN := Lib.hid hfin
      clear hfin
      by_cases h1 : out.length = 0
      · have T1 : ((out.length : Int) == 0) = true := by simp [h1]
        have HE : Hid (lineEnd out = true) := by unfold Hid lineEnd; rw [decide_eq_true h1]; rfl
        go_upto_region 11 with fail
        clear h1
        refine wp_region_ext (by kernel_rfl) (by kernel_rfl) ?_
        repeat (first
          | go_big_quiet_skip
          | (go_big_quiet_want
             unfold Oper.quiet
             apply Exists.intro
             refine ⟨fun w' hw' => ?_, ?_⟩
             focus
               have hcq := Ext.keep hw'
               go_simp
               first
                 | with_reducible rfl
                 | fail
             (try dsimp only [Act.put])
             (try simp only [List.setIfInBounds_toArray, List.set_cons_succ, List.set_cons_zero])
             go_big_quiet_on))
        refine wpQuiet_nil ?_
        intro wq hq
        go_wp2_with fail
        go_ret2
        refine ⟨?_, HE1.out.trans (HB.out.trans hq)⟩
        unfold LineRet
        rw [HRES.out]
        exact ⟨ar, capr, by rw [HE.out]; rfl, HFIN.out _ hq⟩
      · obtain ⟨j, hj⟩ : ∃ j, out.length = j + 1 := ⟨out.length - 1, by omega⟩
        have T1 : ((out.length : Int) == 0) = false := beq_eq_false_iff_ne.2 (by omega)
        have KK : IntKind.i64.wrap ((out.length : Int) - 1) = (j : Int) := by rw [IntWalk.i64_in _ (by omega)]; omega
        obtain ⟨g, o, rfl, _, l0⟩ := HROW.out.get_int (q := j) (by omega)
        obtain ⟨u, hu⟩ : ∃ u, out.getD j 0 = u := ⟨_, rfl⟩
        rw [hu] at l0
        have HE : Hid (lineEnd out = (u == 0)) := by
          unfold Hid lineEnd
          rw [decide_eq_false h1, show out.length - 1 = j by omega, hu, Bool.false_or, Bool.eq_iff_iff]
          simp
        have hjl : j < out.length := by omega
        go_upto_region 11 with fail
        clear h1 hj hu
        refine wp_region_ext (by kernel_rfl) (by kernel_rfl) ?_
        repeat (first
          | go_big_quiet_skip
          | (go_big_quiet_want
             unfold Oper.quiet
             apply Exists.intro
             refine ⟨fun w' hw' => ?_, ?_⟩
             focus
               have hcq := Ext.keep hw'
               go_simp
               first
                 | with_reducible rfl
                 | fail
             (try dsimp only [Act.put])
             (try simp only [List.setIfInBounds_toArray, List.set_cons_succ, List.set_cons_zero])
             go_big_quiet_on))
        refine wpQuiet_nil ?_
        intro wq hq
        go_wp2_with fail
        go_ret2
        refine ⟨?_, HE1.out.trans (HB.out.trans hq)⟩
        unfold LineRet
        rw [HRES.out]
        exact ⟨_, capr, by rw [HE.out]; rfl, HFIN.out _ hq⟩
    · have T0 : decide (0 ≤ n) = true := decide_eq_true (by omega)
      obtain ⟨m, rfl⟩ : ∃ m : Nat, n = m := ⟨n.toNat, by omega⟩
      have hml : m < fs.length := by omega
      clear hnow
      go_wp2_with fail
      go_loopw [6] (fun q wx => ∃ j : Nat, j ≤ out.length ∧ q = .int .i64 j ∧ wr = wx ∧ (m : Int) ∉ out.take j) (fun q _ => out.length - (intOf q).toNat)
      case atStart => exact ⟨0, Nat.zero_le _, rfl, rfl, by simp⟩
      case round =>
        obtain ⟨j, hj, rfl, rfl, hnm⟩ := hrel
        have HNM := Lib.hid hnm
        clear hnm
        by_cases hlt : j < out.length
        · obtain ⟨g, o, rfl, _, l0⟩ := HROW.out.get_int hlt
          have HM : Hid (out[j] ∈ out) := List.getElem_mem hlt
          have HSS : Hid (out.take (j + 1) = out.take j ++ [out[j]]) := List.take_succ_eq_append_getElem hlt
          have eg : out.getD j 0 = out[j] := by simp [List.getD, List.getElem?_eq_getElem hlt]
          rw [eg] at l0
          clear eg
          generalize out[j] = u at *
          by_cases hu : u = m
          · have TT : (u == (m : Int)) = true := by simp [hu]
            have HRES : Hid (lineS S = none) := by unfold Hid; rw [← HLG.out]; exact lineGo_mem (by omega) (hu ▸ HM.out)
            clear hu
            go_wp2_with fail
            go_ret2
            refine ⟨?_, HE1.out.trans HB.out⟩
            unfold LineRet
            rw [HRES.out]
            rfl
          · have TT : (u == (m : Int)) = false := beq_eq_false_iff_ne.2 hu
            have HX : Hid ((m : Int) ∉ out.take (j + 1)) := by unfold Hid; rw [HSS.out, List.mem_append, List.mem_singleton]; exact fun h => h.elim HNM.out (fun e => hu e.symm)
            clear hu
            go_wp2_with fail
            go_roundw
            case rel => exact ⟨j + 1, by omega, by go_num, trivial, HX.out⟩
            case measure => simp [intOf]; omega
        · obtain rfl : j = out.length := by omega
          have HNM2 : Hid ((m : Int) ∉ out) := by have := HNM.out; rwa [List.take_length] at this
          have HNX := Lib.hid (HLN2.out.next (by omega) HNM2.out HC.out.all)
          have HLG2 : Hid (lineGo fs kf (callerOf fs m) (out ++ [(m : Int)]) = lineS S) := by unfold Hid; rw [← lineGo_next (n := (m : Int)) (by omega) HNM2.out]; exact HLG.out
          obtain ⟨bf, of, _, ef, _, _, _, _, f1, _⟩ := HFS.out.get hml
          simp only [Value.slice.injEq] at ef
          obtain ⟨rfl, -, rfl⟩ := ef
          have HCL : Hid (fs[m].caller = callerOf fs m) := by unfold Hid callerOf; rw [show (m : Int).toNat = m by omega]; simp [List.getD, List.getElem?_eq_getElem hml]
          rw [HCL.out] at f1
          generalize callerOf fs m = cl at *
          clear hlt h0 HLG
          have HS7 : Hid ((wr.alloc (.cells #[.int .i64 (m : Int)] 3)).heap.size = wr.heap.size + 1) := Array.size_push _
          have HB1 : Hid (w.heap.size + 1 ≤ wr.heap.size) := by unfold Hid; rw [← HSZ1.out]; exact HB.out.size
          go_wp2_with (first
            | (at_builtin; refine wpList_append_row rfl _ _ 24 rfl (w.heap.size + 1) 3 i0 (.int .i64 0) 1 8 Tryz.underlying24 hi0 hz0 hz1 hz2 rfl (by decide) _ _ _ rfl (by exact HROW.out.ext ((Ext.refl _).alloc _) (by decide)) 1 (ints [(m : Int)]) (src_one _ _ _) (by unfold maxLen; omega) (by omega) (by rw [HS7.out]; exact Nat.le_succ_of_le HB1.out) ?_; intro v1 Wv1 rv1; have RV := Lib.hid rv1; obtain ⟨a9, cap9, rfl, _, _⟩ := rv1.1.shape; have HX9 := Lib.hid (Chg.ext_from (HB.out.alloc (.cells #[.int .i64 (m : Int)] 3)) RV.out.2.1 (fun g e => by rw [HSZ1.out]; exact HROW.out.le g e)); have k0 := (bx0.out.ext HX9.out).1; have k1 := Ext.cell (HE1.out.trans HX9.out) f1; clear rv1))
          go_roundw
          case rel => exact ⟨cl, out ++ [(m : Int)], rfl, HNX.out, by rw [← HLG2.out, List.length_append, List.length_singleton, show fs.length + 2 - (out.length + 1) = kf by omega], HX9.out, by rw [List.length_append, List.length_singleton, ints_app]; exact RV.out.1, by rw [List.length_append, List.length_singleton]; rfl⟩
          case measure => simp [lenV]; omega
end Go.Proofs.YtgahbngbpfilgaaGreat
end
section
set_option maxHeartbeats 4000000
set_option maxRecDepth 100000
namespace Go.Proofs.YtgahbngbpfilgaaGreat
open Go Go.RowKit
structure RightS (p : List GFunc) (s : GState) (l : List Int) : Prop where
 prog : progErr p = 0
 few : s.fibers.length ≤ 5
 out : s.out.length ≤ 30
 frames : ∀ k, k < s.fibers.length → (s.fibers.getD k default).frames.length ≤ 6
 pos : 0 < s.fibers.length
 callers : Callers s
 line : lineS s = some l
 ends : lineEnd l = true
 done : ¬ (s.now = -1 ∧ 0 < (s.fibers.getD 0 default).frames.length)
 fib : ∀ k, k < s.fibers.length → fibK p s l k = true
theorem stateErr_zero {p : List GFunc} {s : GState} (h : stateErr p s = 0) : ∃ l, RightS p s l := by
 unfold stateErr at h
 by_cases h0 : progErr p = 0
 ·rw [if_neg (fun k => k h0)] at h
  by_cases h1 : 5 < s.fibers.length ∨ 30 < s.out.length
  ·rw [if_pos h1] at h; cases h
  ·rw [if_neg h1] at h
   cases h2 : allK s.fibers.length (framesFew s) with
   | false => rw [h2, if_pos rfl] at h; cases h
   | true =>
    rw [h2, if_neg (by decide)] at h
    by_cases h3 : s.fibers.length = 0
    ·rw [if_pos h3] at h; cases h
    ·rw [if_neg h3] at h
     by_cases h4 : -1 ≤ s.now ∧ s.now ≤ (s.fibers.length : Int) - 1
     ·rw [if_neg (fun k => k h4)] at h
      cases h5 : allK s.fibers.length (callersB s) with
      | false => rw [h5, if_pos rfl] at h; cases h
      | true =>
       rw [h5, if_neg (by decide)] at h
       unfold lineErr at h
       cases h6 : lineS s with
       | none => rw [h6] at h; cases h
       | some l =>
        rw [h6] at h
        simp only at h
        cases h7 : lineEnd l with
        | false => rw [h7, if_pos rfl] at h; cases h
        | true =>
         rw [h7, if_neg (by decide)] at h
         by_cases h8 : s.now = -1 ∧ 0 < (s.fibers.getD 0 default).frames.length
         ·rw [if_pos h8] at h; cases h
         ·rw [if_neg h8] at h
          cases h9 : allK s.fibers.length (fibK p s l) with
          | false => rw [h9, if_pos rfl] at h; cases h
          | true => exact ⟨l, h0, by omega, by omega, fun k hk => of_decide_eq_true (allK_of h2 k hk), by omega, ⟨h4, fun k hk => of_decide_eq_true (allK_of h5 k hk), by omega⟩, h6, h7, h8, allK_of h9⟩
     ·rw [if_pos h4] at h; cases h
 ·rw [if_pos h0] at h; exact absurd h h0
theorem fibK_frames {p : List GFunc} {s : GState} {l : List Int} {k : Nat} (h : fibK p s l k = true) : ∀ hk : 0 < (s.fibers.getD k default).frames.length, 0 ≤ ((s.fibers.getD k default).frames[0]).func ∧ ((s.fibers.getD k default).frames[0]).func < p.length := by
 intro hk
 unfold fibK at h
 rw [Bool.and_eq_true] at h
 have h1 := h.1
 unfold fiberB at h1
 rw [if_neg (by omega), Bool.and_eq_true] at h1
 have h2 := allK_of h1.1 0 hk
 unfold onB at h2
 rw [Bool.and_eq_true] at h2
 have h3 := h2.1
 unfold frameB at h3
 simp only [Bool.and_eq_true, decide_eq_true_eq] at h3
 have e : ∀ (L : List GFrame) (h : 0 < L.length), L.getD 0 default = L[0] := fun L h => by simp [List.getD, List.getElem?_eq_getElem h]
 rw [e _ hk] at h3
 exact h3.1.1.1
structure LineF (s : GState) (l : List Int) : Prop where
 nodup : l.Nodup
 range : ∀ x ∈ l, 0 ≤ x ∧ x < s.fibers.length
 link : ∀ i, i + 1 < l.length → (s.fibers.getD (l.getD i 0).toNat default).caller = l.getD (i + 1) 0
 head : 0 ≤ s.now → 0 < l.length ∧ l.getD 0 0 = s.now
 none : s.now < 0 → l = []
end Go.Proofs.YtgahbngbpfilgaaGreat
end
