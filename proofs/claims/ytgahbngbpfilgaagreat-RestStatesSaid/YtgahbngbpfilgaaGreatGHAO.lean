/- Merged texts: contracts and plain facts, one part behind another; each part begins with what it says. -/
import Derived.Test.YtgahbngbpfilgaaGreatGHAD
import Derived.Test.YtgahbngbpfilgaaGreatGHAH
import Derived.Test.YtgahbngbpfilgaaGreatGHAK
import Derived.Test.YtgahbngbpfilgaaGreatGHAL
import Derived.Test.YtgahbngbpfilgaaGreatGHAN
section
namespace Go.Proofs.YtgahbngbpfilgaaGreat
def jonB (p : List GFunc) (l : List GFrame) (k : Nat) : Bool := jwaitB p (l.getD k default) 11 && decide ((opBack p (l.getD k default)).a = (l.getD (k + 1) default).func)
def jtopB (p : List GFunc) (f : GFiber) (on runs : Bool) (x : GFrame) : Bool :=
 if runs then fullB p x else if on then jwaitB p x 14 else freshB p f || jwaitB p x 15
def jrestB (p : List GFunc) (f : GFiber) (on runs : Bool) : Bool :=
 allK f.frames.length (fun k => frameB p (f.frames.getD k default)) && allK (f.frames.length - 1) (jonB p f.frames) && jtopB p f on runs (f.frames.getD (f.frames.length - 1) default)
def jfiberB (p : List GFunc) (f : GFiber) (n : Nat) (on runs : Bool) : Bool :=
 if on = false ∧ ¬ (f.caller = -1 ∧ (0 < n ∨ f.frames.length = 0)) then false else if f.frames.length = 0 then !on else jrestB p f on runs
theorem frameB_at {p : List GFunc} {x : GFrame} (h : frameB p x = true) : 0 ≤ x.func ∧ x.func < p.length ∧ 0 ≤ x.at_ := by
 unfold frameB at h
 simp only [Bool.and_eq_true, decide_eq_true_eq] at h
 exact ⟨h.1.1.1.1, h.1.1.1.2, h.1.2.1⟩
theorem jrest_eq {p : List GFunc} {f : GFiber} {on runs : Bool} (h0 : f.frames.length ≠ 0) (hc : on = false → f.caller = -1) (hr : runs = true → on = true) : jrestB p f on runs = fiberB p f on runs := by
 unfold jrestB fiberB
 rw [if_neg h0]
 cases hall : allK f.frames.length (fun k => frameB p (f.frames.getD k default)) with
 | false =>
  have : allK f.frames.length (onB p f.frames) = false := by
   cases h : allK f.frames.length (onB p f.frames) with
   | false => rfl
   | true =>
    have : allK f.frames.length (fun k => frameB p (f.frames.getD k default)) = true := allK_true fun k hk => by
     have := allK_of h k hk
     unfold onB at this
     rw [Bool.and_eq_true] at this
     exact this.1
    rw [this] at hall
    cases hall
  rw [this]
  rfl
 | true =>
  have hfr := allK_of hall
  have e1 : allK f.frames.length (onB p f.frames) = allK (f.frames.length - 1) (jonB p f.frames) := by
   have step : ∀ k, k < f.frames.length → onB p f.frames k = (!decide (k + 1 < f.frames.length) || jonB p f.frames k) := fun k hk => by
    unfold onB
    rw [show frameB p (f.frames.getD k default) = true from hfr k hk, Bool.true_and]
    by_cases h1 : k + 1 < f.frames.length
    ·have a := frameB_at (hfr k hk)
     have b := frameB_at (hfr (k + 1) h1)
     rw [decide_eq_true h1, decide_eq_true (show 0 ≤ (f.frames.getD (k + 1) default).func ∧ (f.frames.getD (k + 1) default).func < p.length from ⟨b.1, b.2.1⟩), waitB_j a.2.2]
     unfold jonB
     simp
    ·rw [decide_eq_false h1]
     rfl
   rw [Bool.eq_iff_iff]
   constructor
   ·intro h
    refine allK_true fun k hk => ?_
    have h2 := allK_of h k (by omega)
    rw [step k (by omega), decide_eq_true (by omega)] at h2
    simpa using h2
   ·intro h
    refine allK_true fun k hk => ?_
    rw [step k hk]
    by_cases h1 : k + 1 < f.frames.length
    ·rw [allK_of h k (by omega)]
     simp
    ·rw [decide_eq_false h1]
     rfl
  have e2 : jtopB p f on runs (f.frames.getD (f.frames.length - 1) default) = topB p f on runs (f.frames.getD (f.frames.length - 1) default) := by
   have a := frameB_at (hfr (f.frames.length - 1) (by omega))
   unfold jtopB topB
   cases runs with
   | true => rfl
   | false =>
    cases on with
    | true => rw [waitB_j a.2.2 14 0]; simp
    | false => rw [waitB_j a.2.2 15 0, decide_eq_true (hc rfl)]; simp
  rw [e1, e2, Bool.true_and]
theorem jfiber_eq {p : List GFunc} {s : GState} {line : List Int} {n : Nat} (hnow : (n : Int) = s.now → (n : Int) ∈ line) :
  jfiberB p (s.fibers.getD n default) n (decide ((n : Int) ∈ line)) (decide ((n : Int) = s.now)) = fibK p s line n := by
 unfold jfiberB fibK
 generalize hf : s.fibers.getD n default = f
 have hr : decide ((n : Int) = s.now) = true → decide ((n : Int) ∈ line) = true := fun h => decide_eq_true (hnow (of_decide_eq_true h))
 generalize hon : decide ((n : Int) ∈ line) = on at *
 generalize decide ((n : Int) = s.now) = runs at *
 have hlast : (decide (n = 0) && !decide ((0 : Int) ∈ line) && decide (0 < (s.fibers.getD 0 default).frames.length)) = (decide (n = 0) && !on && decide (0 < f.frames.length)) := by
  by_cases h0 : n = 0
  ·subst h0
   rw [← hf, ← hon]
   rfl
  ·rw [decide_eq_false h0]; rfl
 rw [hlast]
 by_cases h0 : f.frames.length = 0
 ·have hfb : fiberB p f on runs = (!on && decide (f.caller = -1)) := by unfold fiberB; rw [if_pos h0]
  rw [hfb]
  cases on with
  | true => rw [if_neg (by simp), if_pos h0]; simp
  | false =>
   by_cases h1 : f.caller = -1
   ·rw [if_neg (by simp [h1, h0]), if_pos h0]; simp [h1, h0]
   ·rw [if_pos ⟨rfl, fun h => h1 h.1⟩]; simp [h1]
 ·cases on with
  | true =>
   rw [if_neg (by simp), if_neg h0, jrest_eq h0 (by simp) hr]
   simp
  | false =>
   by_cases h1 : f.caller = -1
   ·by_cases h2 : 0 < n
    ·rw [if_neg (by simp [h1, h2]), if_neg h0, jrest_eq h0 (fun _ => h1) hr]
     have : ¬ n = 0 := by omega
     simp [this]
    ·have h3 : n = 0 := by omega
     have h4 : 0 < f.frames.length := by omega
     rw [if_pos ⟨rfl, fun h => h.2.elim h2 h0⟩]
     simp [h3, h4]
   ·rw [if_pos ⟨rfl, fun h => h1 h.1⟩]
    have : fiberB p f false runs = false := by
     unfold fiberB topB
     rw [if_neg h0]
     cases runs with
     | true => exact absurd (hr rfl) (by decide)
     | false => simp [h1]
    rw [this]
    rfl
end Go.Proofs.YtgahbngbpfilgaaGreat
end
section
set_option maxHeartbeats 4000000
set_option maxRecDepth 100000
namespace Go.Proofs.YtgahbngbpfilgaaGreat
open Go Go.RowKit
theorem nonzero_any (n : Int) (w : World) : Calls Tryz.prog 122 #[.int .i64 n] w fun e w' => e = .returned (.bool (n != 0)) ∧ w = w' := by
 go_enter Tryz.func122, Tryz.ntmps122
 go_wp2_with fail
 go_ret
 exact ⟨rfl, rfl⟩
theorem indexFunc_any (l : List Int) (v : Value) (S : Nat → Prop) (w : World) (hl : Ints w S v l) :
  Calls Tryz.prog 127 #[v, .func (.func 122) #[] #[]] w fun e w' => (∃ i : Int, e = .returned (.int .i64 i) ∧ (0 ≤ i ↔ ∃ k, k < l.length ∧ l.getD k 0 ≠ 0)) ∧ Ext w w' := by
 have HL := Lib.hid hl
 obtain ⟨pa, ca, rfl, hca, hba, _⟩ := hl
 go_enter Tryz.func127, Tryz.ntmps127
 go_wp2_with fail
 go_loopw [8] (fun q wr => ∃ k : Nat, k ≤ l.length ∧ q = .int .i64 k ∧ Ext w wr ∧ ∀ i, i < k → l.getD i 0 = 0) (fun q _ => l.length - (intOf q).toNat)
 case atStart => exact ⟨0, Nat.zero_le _, rfl, Ext.refl _, fun i hi => absurd hi (Nat.not_lt_zero _)⟩
 case round =>
  obtain ⟨k, hk, rfl, hb3, htk⟩ := hrel
  have HB3 := Lib.hid hb3
  have HTK := Lib.hid htk
  clear hb3 htk
  by_cases hlt : k < l.length
  ·obtain ⟨ba, oa, rfl, x0⟩ := Ints.at' HL.out hlt
   have x1 := Ext.cell HB3.out x0
   clear x0
   obtain ⟨u, hu⟩ : ∃ u, l.getD k 0 = u := ⟨_, rfl⟩
   rw [hu] at x1
   have HU := Lib.hid hu
   clear hu
   by_cases h0 : u = 0
   ·have HT : Hid ((u != 0) = false) := by unfold Hid; rw [bne_eq_false_iff_eq]; exact h0
    have HX : Hid (∀ i, i < k + 1 → l.getD i 0 = 0) := fun i hi => by
     by_cases e : i = k
     ·rw [e, HU.out]; exact h0
     ·exact HTK.out i (by omega)
    clear h0
    go_wp2_with (first | (go_at_call 122; (with_reducible refine (nonzero_any _ _).mono ?_); rintro e w4 ⟨rfl, rfl⟩; rw [HT.out]))
    go_roundw
    case rel => exact ⟨k + 1, by omega, by go_num, HB3.out, HX.out⟩
    case measure => simp [intOf]; omega
   ·have HT : Hid ((u != 0) = true) := bne_iff_ne.2 h0
    have HX : Hid (∃ k, k < l.length ∧ l.getD k 0 ≠ 0) := ⟨k, hlt, by rw [HU.out]; exact h0⟩
    clear h0
    go_wp2_with (first | (go_at_call 122; (with_reducible refine (nonzero_any _ _).mono ?_); rintro e w4 ⟨rfl, rfl⟩; rw [HT.out]))
    go_ret
    exact ⟨⟨k, rfl, ⟨fun _ => HX.out, fun _ => by omega⟩⟩, HB3.out⟩
  ·obtain rfl : k = l.length := by omega
   have HX : Hid (¬ ∃ k, k < l.length ∧ l.getD k 0 ≠ 0) := fun ⟨k, h1, h2⟩ => h2 (HTK.out k h1)
   clear hlt
   go_wp2_with fail
   go_ret
   exact ⟨⟨-1, rfl, ⟨fun h => by omega, fun h => (HX.out h).elim⟩⟩, HB3.out⟩
theorem containsFunc_any (l : List Int) (v : Value) (S : Nat → Prop) (w : World) (hl : Ints w S v l) :
  Calls Tryz.prog 121 #[v, .func (.func 122) #[] #[]] w fun e w' => e = .returned (.bool (!allK l.length (fun k => decide (l.getD k 0 = 0)))) ∧ Ext w w' := by
 have HL := Lib.hid hl
 obtain ⟨pa, ca, rfl, hca, hba, _⟩ := hl
 obtain ⟨t, ht⟩ : ∃ t, (!allK l.length (fun k => decide (l.getD k 0 = 0))) = t := ⟨_, rfl⟩
 rw [ht]
 have HT : Hid (decide (∃ k, k < l.length ∧ l.getD k 0 ≠ 0) = t) := by
  unfold Hid
  rw [← ht]
  cases h : allK l.length (fun k => decide (l.getD k 0 = 0)) with
  | true =>
   have := allK_of h
   exact decide_eq_false (fun ⟨k, h1, h2⟩ => h2 (of_decide_eq_true (this k h1)))
  | false =>
   refine decide_eq_true (Classical.byContradiction fun hn => ?_)
   have : allK l.length (fun k => decide (l.getD k 0 = 0)) = true := allK_true fun k hk => decide_eq_true (Classical.byContradiction fun h2 => hn ⟨k, hk, h2⟩)
   rw [this] at h
   cases h
 clear ht
 go_enter Tryz.func121, Tryz.ntmps121
 go_wp2_with (first
  | (go_at_call 127; (with_reducible refine (indexFunc_any l _ S _ HL.out).mono ?_); rintro e w2 ⟨⟨i, rfl, hi⟩, hx⟩; have HI := Lib.hid hi; clear hi))
 go_ret
 refine ⟨?_, hx⟩
 exact congrArg (fun b => Ending.returned (.bool b)) ((decide_eq_decide.2 HI.out).trans HT.out)
theorem stateFresh_any (p : List GFunc) (v : Value) (S T : Nat → Prop) (x : GFiber) (vx : Value) (w : World) (hp : Funcs w S v p) (hx : FiberV w T vx x) (hf : ∀ h : 0 < x.frames.length, 0 ≤ x.frames[0].func ∧ x.frames[0].func < p.length) :
  Calls Tryz.prog 104 #[v, vx] w fun e w' => e = .returned (.bool (freshB p x)) ∧ Ext w w' := by
 have HP := Lib.hid hp
 obtain ⟨fs, cl⟩ := x
 obtain ⟨vf, rfl, hfr, _⟩ := hx
 have hfr0 := hfr
 obtain ⟨a1, c1, rfl, _, _, _⟩ := hfr
 simp only at *
 have RA := alloc_keep
 obtain ⟨r, hr⟩ : ∃ r, freshB p ⟨fs, cl⟩ = r := ⟨_, rfl⟩
 rw [hr]
 have HR := Lib.hid hr
 clear hr
 by_cases h1 : fs.length = 1
 ·have T1 : ((fs.length : Int) != 1) = false := by rw [bne_eq_false_iff_eq]; omega
  obtain ⟨x, rfl⟩ : ∃ x, fs = [x] := List.length_eq_one_iff.1 h1
  obtain ⟨b0, b1⟩ := hf (by simp)
  obtain ⟨bf, of, cf, e1, _, _, ⟨_, x0, _⟩, ⟨_, x1, _⟩, ⟨vl, x2, hls⟩, ⟨vs, x3, hss⟩⟩ := hfr0.get (i := 0) (by simp)
  simp only [Value.slice.injEq, List.getElem_cons_zero] at e1 x0 x1 hls hss b0 b1
  obtain ⟨rfl, -, rfl⟩ := e1
  rw [Nat.zero_mul, Nat.add_zero] at x0 x1 x2 x3
  obtain ⟨fn, at_, ls, st⟩ := x
  simp only at *
  obtain ⟨n, rfl⟩ : ∃ n : Nat, fn = n := ⟨fn.toNat, by omega⟩
  have hn : n < p.length := by omega
  obtain ⟨b, o, cap, rfl, hcap, hby, ⟨_, hA, iA⟩, _, _⟩ := hp.get hn
  have hF := funcOf_nat hn
  have HLS := Lib.hid hls
  obtain ⟨a2, c2, rfl, _, _, _⟩ := hls
  obtain ⟨a3, c3, rfl, _, _, _⟩ := hss
  have HRR : Hid (r = (decide (at_ = 0) && decide (p[n].args = 1) && decide (st.length = 0) && allK ls.length (fun k => decide (ls.getD k 0 = 0)))) := by
   unfold Hid
   rw [← HR.out]
   unfold freshB
   simp only [List.getD_cons_zero, hF]
   simp
  clear hF HR hfr0 hp b0 b1 hf h1
  by_cases h2 : at_ = 0
  ·have T2 : (at_ == 0) = true := by simp [h2]
   by_cases h3 : p[n].args = 1
   ·have T3 : (p[n].args == 1) = true := by simp [h3]
    by_cases h4 : st.length = 0
    ·have T4 : ((st.length : Int) == 0) = true := by simp [h4]
     have HR2 : Hid (r = allK ls.length (fun k => decide (ls.getD k 0 = 0))) := by unfold Hid; rw [HRR.out]; simp [h2, h3, h4]
     clear h2 h3 h4 HRR
     go_enter Tryz.func104, Tryz.ntmps104
     go_wp2_with (first
      | (go_at_call 121; (with_reducible refine (containsFunc_any ls _ _ _ (Ints.stays (Ext.stays (((Ext.refl w).alloc _).alloc _)) HLS.out)).mono ?_); rintro e w2 ⟨rfl, hx2⟩; rw [← HR2.out]))
     go_ret
     exact ⟨rfl, by ((repeat (first | assumption | exact Ext.refl _ | (exact And.left (by assumption)) | refine Ext.alloc ?_ _ | refine Ext.drew ?_ | refine Ext.drewN ?_ _ | refine Ext.setCell ?_ (by simp) _ | refine Ext.setCell ?_ (by simp; omega) _ | refine Ext.trans ?_ (by assumption))); done)⟩
    ·have T4 : ((st.length : Int) == 0) = false := beq_eq_false_iff_ne.2 (by omega)
     have HR2 : Hid (r = false) := by unfold Hid; rw [HRR.out]; simp [h4]
     clear h2 h3 h4 HRR
     go_enter Tryz.func104, Tryz.ntmps104
     go_wp2_with fail
     go_ret
     exact ⟨by rw [HR2.out]; rfl, by ((repeat (first | assumption | exact Ext.refl _ | (exact And.left (by assumption)) | refine Ext.alloc ?_ _ | refine Ext.drew ?_ | refine Ext.drewN ?_ _ | refine Ext.setCell ?_ (by simp) _ | refine Ext.setCell ?_ (by simp; omega) _ | refine Ext.trans ?_ (by assumption))); done)⟩
   ·have T3 : (p[n].args == 1) = false := beq_eq_false_iff_ne.2 h3
    have HR2 : Hid (r = false) := by unfold Hid; rw [HRR.out]; simp [h3]
    clear h2 h3 HRR
    go_enter Tryz.func104, Tryz.ntmps104
    go_wp2_with fail
    go_ret
    exact ⟨by rw [HR2.out]; rfl, by ((repeat (first | assumption | exact Ext.refl _ | (exact And.left (by assumption)) | refine Ext.alloc ?_ _ | refine Ext.drew ?_ | refine Ext.drewN ?_ _ | refine Ext.setCell ?_ (by simp) _ | refine Ext.setCell ?_ (by simp; omega) _ | refine Ext.trans ?_ (by assumption))); done)⟩
  ·have T2 : (at_ == 0) = false := beq_eq_false_iff_ne.2 h2
   have HR2 : Hid (r = false) := by unfold Hid; rw [HRR.out]; simp [h2]
   clear h2 HRR
   go_enter Tryz.func104, Tryz.ntmps104
   go_wp2_with fail
   go_ret
   exact ⟨by rw [HR2.out]; rfl, by ((repeat (first | assumption | exact Ext.refl _ | (exact And.left (by assumption)) | refine Ext.alloc ?_ _ | refine Ext.drew ?_ | refine Ext.drewN ?_ _ | refine Ext.setCell ?_ (by simp) _ | refine Ext.setCell ?_ (by simp; omega) _ | refine Ext.trans ?_ (by assumption))); done)⟩
 ·have T1 : ((fs.length : Int) != 1) = true := bne_iff_ne.2 (by omega)
  have HR2 : Hid (r = false) := by unfold Hid; rw [← HR.out]; unfold freshB; simp [h1]
  obtain ⟨a, cap, rfl, _, _, _⟩ := hp
  clear h1 HR
  go_enter Tryz.func104, Tryz.ntmps104
  go_wp2_with fail
  go_ret
  exact ⟨by rw [HR2.out]; rfl, by ((repeat (first | assumption | exact Ext.refl _ | (exact And.left (by assumption)) | refine Ext.alloc ?_ _ | refine Ext.drew ?_ | refine Ext.drewN ?_ _ | refine Ext.setCell ?_ (by simp) _ | refine Ext.setCell ?_ (by simp; omega) _ | refine Ext.trans ?_ (by assumption))); done)⟩
end Go.Proofs.YtgahbngbpfilgaaGreat
end
section
set_option maxHeartbeats 2000000
set_option maxRecDepth 100000
namespace Go.Proofs.YtgahbngbpfilgaaGreat
open Go Go.RowKit
theorem indexI_any (l : List Int) (v : Value) (x : Int) (S : Nat → Prop) (w : World) (hl : Ints w S v l) :
  Calls Tryz.prog 120 #[v, .int .i64 x] w fun e w' => (∃ i : Int, e = .returned (.int .i64 i) ∧ (0 ≤ i ↔ x ∈ l) ∧ I64 i) ∧ Ext w w' := by
 have HL := Lib.hid hl
 obtain ⟨pa, ca, rfl, hca, hba, _⟩ := hl
 go_enter Tryz.func120, Tryz.ntmps120
 go_wp2_with fail
 go_loopw [8] (fun q wr => ∃ k : Nat, k ≤ l.length ∧ q = .int .i64 k ∧ Ext w wr ∧ x ∉ l.take k) (fun q _ => l.length - (intOf q).toNat)
 case atStart => exact ⟨0, Nat.zero_le _, rfl, Ext.refl _, by simp⟩
 case round =>
  obtain ⟨k, hk, rfl, hb3, htk⟩ := hrel
  have HB3 := Lib.hid hb3
  have HTK := Lib.hid htk
  clear hb3 htk
  by_cases hlt : k < l.length
  ·obtain ⟨ba, oa, _, e1, _, _, _, x0, _⟩ := HL.out.get hlt
   simp only [Value.slice.injEq] at e1
   obtain ⟨rfl, -, rfl⟩ := e1
   rw [Nat.mul_one] at x0
   have x1 := Ext.cell HB3.out x0
   have HM : Hid (l[k] ∈ l) := List.getElem_mem hlt
   have HS : Hid (l.take (k + 1) = l.take k ++ [l[k]]) := List.take_succ_eq_append_getElem hlt
   clear x0
   generalize l[k] = u at *
   by_cases hu : x = u
   ·have TT : (x == u) = true := by simp [hu]
    have HX : Hid (x ∈ l) := hu ▸ HM.out
    clear hu
    go_wp2_with fail
    go_ret
    exact ⟨⟨k, rfl, ⟨fun _ => HX.out, fun _ => by omega⟩, I64.nat (by omega)⟩, HB3.out⟩
   ·have TT : (x == u) = false := by simp [hu]
    have HX : Hid (x ∉ l.take (k + 1)) := by unfold Hid; rw [HS.out, List.mem_append, List.mem_singleton]; exact fun h => h.elim HTK.out hu
    clear hu
    go_wp2_with fail
    go_roundw
    case rel => exact ⟨k + 1, by omega, by go_num, HB3.out, HX.out⟩
    case measure => simp [intOf]; omega
  ·obtain rfl : k = l.length := by omega
   have HX : Hid (x ∉ l) := by have := HTK.out; rwa [List.take_length] at this
   go_wp2_with fail
   go_ret
   exact ⟨⟨-1, rfl, ⟨fun h => by omega, fun h => (HX.out h).elim⟩, I64.small (by omega) (by omega)⟩, HB3.out⟩
theorem containsI_any (l : List Int) (v : Value) (x : Int) (S : Nat → Prop) (w : World) (hl : Ints w S v l) :
  Calls Tryz.prog 101 #[v, .int .i64 x] w fun e w' => e = .returned (.bool (decide (x ∈ l))) ∧ Ext w w' := by
 have HL := Lib.hid hl
 obtain ⟨pa, ca, rfl, hca, hba, _⟩ := hl
 obtain ⟨t, ht⟩ : ∃ t, decide (x ∈ l) = t := ⟨_, rfl⟩
 rw [ht]
 have HT := Lib.hid ht
 clear ht
 go_enter Tryz.func101, Tryz.ntmps101
 go_wp2_with (first
  | (go_at_call 120; (with_reducible refine (indexI_any l _ x S _ HL.out).mono ?_); rintro e w2 ⟨⟨i, rfl, hi, _⟩, hx⟩; have HI := Lib.hid hi; clear hi))
 go_ret
 refine ⟨?_, hx⟩
 exact congrArg (fun b => Ending.returned (.bool b)) ((decide_eq_decide.2 HI.out).trans HT.out)
end Go.Proofs.YtgahbngbpfilgaaGreat
end
section
set_option maxHeartbeats 4000000
set_option maxRecDepth 100000
set_option linter.unusedSimpArgs false
namespace Go.Proofs.YtgahbngbpfilgaaGreat
open Go Go.RowKit
theorem jfiber_any (p : List GFunc) (s : GState) (line : List Int) (jb : Nat) (n : Nat) (w : World) (hj : Judge w jb p s line) (hz : progErr p = 0) (hn : n < s.fibers.length) :
    Calls Tryz.prog 69 #[.pointer (some ⟨jb, 0, none⟩), .int .i64 n] w fun e w' => e = mustE (jfiberB p (s.fibers.getD n default) n (decide ((n : Int) ∈ line)) (decide ((n : Int) = s.now))) 1 ∧ Ext w w' := by
  have HJ := Lib.hid hj
  have HZ := Lib.hid hz
  have RA := alloc_keep
  obtain ⟨aj, cj, j0, hfs⟩ := hj.fs
  have j1 := hj.now
  obtain ⟨ap, cp, j3, hp⟩ := hj.pr
  obtain ⟨al, cl, j5, hln⟩ := hj.ln
  obtain ⟨bf, of, af, cf, rfl, x0, x1, hfv⟩ := Fibers.at' hfs hn
  have HFV := Lib.hid hfv
  have HLN := Lib.hid hln
  have HP := Lib.hid hp
  have HJC := Lib.hid (⟨j0, j1, j3, j5⟩ : _ ∧ _ ∧ _ ∧ _)
  obtain ⟨on, hon⟩ : ∃ on, decide ((n : Int) ∈ line) = on := ⟨_, rfl⟩
  have HON := Lib.hid hon
  have hrunseq : decide ((n : Int) = s.now) = ((n : Int) == s.now) := by rw [Bool.eq_iff_iff]; simp
  obtain ⟨runs, hruns⟩ : ∃ runs, ((n : Int) == s.now) = runs := ⟨_, rfl⟩
  have HRUNS := Lib.hid hruns
  rw [hon, hrunseq, hruns]
  generalize s.fibers.getD n default = F at *
  obtain ⟨r, hr⟩ : ∃ r, jfiberB p F n on runs = r := ⟨_, rfl⟩
  rw [hr]
  have HR := Lib.hid hr
  obtain ⟨fs, clr⟩ := F
  simp only at *
  obtain ⟨_, e0, hfr, _⟩ := HFV.out
  simp only [Value.agg.injEq] at e0
  simp at e0
  subst e0
  have HFR := Lib.hid hfr
  have hby : fs.length * 64 ≤ 140737488355328 := by obtain ⟨_, _, _, _, h, _⟩ := hfr; exact h.1
  clear hr hon hruns hrunseq hfv hln hp hfs hfr
  go_enter Tryz.func69, Tryz.ntmps69
  go_upto_region 1 with fail
  have bx := Lib.hid (⟨Cx.new w [.slice af fs.length cf, .int .i64 clr] 41 (j := 0) rfl, Cx.new w [.slice af fs.length cf, .int .i64 clr] 41 (j := 1) rfl⟩ : _ ∧ _)
  have hE1 : Ext w (w.alloc (.cells #[.slice af fs.length cf, .int .i64 clr] 41)) := (Ext.refl w).alloc _
  have HE1 := Lib.hid hE1
  have k5 := Ext.cell hE1 j5
  generalize w.alloc (.cells #[.slice af fs.length cf, .int .i64 clr] 41) = w1 at *
  go_upto_region 2 with (first
    | (go_at_call 101; (with_reducible refine (containsI_any line _ _ _ _ (Ints.stays (Ext.stays HE1.out) HLN.out)).mono ?_); rintro e w2 ⟨rfl, hx2⟩; rw [HON.out]))
  have HE2 := Lib.hid (HE1.out.trans hx2)
  have BX2 := Lib.hid (⟨bx.out.1.ext hx2, bx.out.2.ext hx2⟩ : _ ∧ _)
  clear hE1 hx2 k5 j0 j1 j3 j5 x0 x1 bx
  rename World => w2
  go_upto_if 27 with fail
  go_cut [5] (fun v wx => v = .bool on ∧ Ext w2 wx ∧ ((on = false ∧ ¬ (clr = -1 ∧ (0 < n ∨ fs.length = 0))) → False) ∧ (on = false → fs.length ≠ 0))
  case first =>
    obtain ⟨⟨b0, -⟩, ⟨b1, -⟩⟩ := BX2.out
    cases on with
    | true =>
      go_wp2_with fail
      go_meet
      exact ⟨rfl, Ext.refl _, (fun h => by cases h.1), (fun h => by cases h)⟩
    | false =>
      by_cases h1 : clr = -1
      · have T1 : (clr == -1) = true := by simp [h1]
        by_cases h2 : 0 < n
        · have T2 : decide ((0 : Int) < (n : Int)) = true := decide_eq_true (by omega)
          have T2n : decide (0 < n) = true := decide_eq_true h2
          by_cases h3 : fs.length = 0
          · have T3 : ((fs.length : Int) == 0) = true := by simp [h3]
            have HRR : Hid (r = true) := by unfold Hid; rw [← HR.out]; unfold jfiberB; simp [h1, h2, h3]
            clear h1 h2 h3 HR
            go_wp2_with (first
              | (go_at_call 67; refine (must2 _ _ _ _ _ ).mono ?_; rintro e w3 ⟨he, hx3⟩; simp only [Bool.and_true, Bool.true_and, Bool.and_false, Bool.false_and, Bool.and_self, mustE] at he; subst he; have e0 := Ext.cell (((Ext.refl w2).alloc _).trans hx3) b0))
            first | go_end0 | refine bodyPost_ret (results_none rfl _ _ _) rfl ?_
            exact ⟨by rw [HRR.out]; rfl, HE2.out.trans (((Ext.refl _).alloc _).trans hx3)⟩
          · have T3 : ((fs.length : Int) == 0) = false := beq_eq_false_iff_ne.2 (by omega)
            go_wp2_with (first
              | (go_at_call 67; refine (must2 _ _ _ _ _ ).mono ?_; rintro e w3 ⟨he, hx3⟩; simp only [Bool.and_true, Bool.true_and, Bool.and_false, Bool.false_and, Bool.and_self, mustE] at he; subst he; have e0 := Ext.cell (((Ext.refl w2).alloc _).trans hx3) b0))
            go_meet
            exact ⟨rfl, ((Ext.refl _).alloc _).trans hx3, (fun h => h.2 ⟨h1, .inl h2⟩), (fun _ => h3)⟩
        · have T2 : decide ((0 : Int) < (n : Int)) = false := decide_eq_false (by omega)
          have T2n : decide (0 < n) = false := decide_eq_false h2
          by_cases h3 : fs.length = 0
          · have T3 : ((fs.length : Int) == 0) = true := by simp [h3]
            have HRR : Hid (r = true) := by unfold Hid; rw [← HR.out]; unfold jfiberB; simp [h1, h3]
            clear h1 h2 h3 HR
            go_wp2_with (first
              | (go_at_call 67; refine (must2 _ _ _ _ _ ).mono ?_; rintro e w3 ⟨he, hx3⟩; simp only [Bool.and_true, Bool.true_and, Bool.and_false, Bool.false_and, Bool.and_self, mustE] at he; subst he; have e0 := Ext.cell (((Ext.refl w2).alloc _).trans hx3) b0))
            first | go_end0 | refine bodyPost_ret (results_none rfl _ _ _) rfl ?_
            exact ⟨by rw [HRR.out]; rfl, HE2.out.trans (((Ext.refl _).alloc _).trans hx3)⟩
          · have T3 : ((fs.length : Int) == 0) = false := beq_eq_false_iff_ne.2 (by omega)
            have HRR : Hid (r = false) := by unfold Hid; rw [← HR.out]; unfold jfiberB; simp [h2, h3]
            clear h1 h2 h3 HR
            go_wp2_with (first
              | (go_at_call 67; refine (must2 _ _ _ _ _ ).mono ?_; rintro e w3 ⟨he, hx3⟩; simp only [Bool.and_true, Bool.true_and, Bool.and_false, Bool.false_and, Bool.and_self, mustE] at he; subst he))
            exact ⟨rfl, by rw [HRR.out]; rfl, HE2.out.trans (((Ext.refl _).alloc _).trans hx3)⟩
      · have T1 : (clr == -1) = false := beq_eq_false_iff_ne.2 h1
        have HRR : Hid (r = false) := by unfold Hid; rw [← HR.out]; unfold jfiberB; simp [h1]
        by_cases h2 : 0 < n
        · have T2 : decide ((0 : Int) < (n : Int)) = true := decide_eq_true (by omega)
          have T2n : decide (0 < n) = true := decide_eq_true h2
          clear h1 h2 HR
          go_wp2_with (first
            | (go_at_call 67; refine (must2 _ _ _ _ _ ).mono ?_; rintro e w3 ⟨he, hx3⟩; simp only [Bool.and_true, Bool.true_and, Bool.and_false, Bool.false_and, Bool.and_self, mustE] at he; subst he))
          exact ⟨rfl, by rw [HRR.out]; rfl, HE2.out.trans (((Ext.refl _).alloc _).trans hx3)⟩
        · have T2 : decide ((0 : Int) < (n : Int)) = false := decide_eq_false (by omega)
          have T2n : decide (0 < n) = false := decide_eq_false h2
          clear h1 h2 HR
          go_wp2_with (first
            | (go_at_call 67; refine (must2 _ _ _ _ _ ).mono ?_; rintro e w3 ⟨he, hx3⟩; simp only [Bool.and_true, Bool.true_and, Bool.and_false, Bool.false_and, Bool.and_self, mustE] at he; subst he))
          exact ⟨rfl, by rw [HRR.out]; rfl, HE2.out.trans (((Ext.refl _).alloc _).trans hx3)⟩
  case rest =>
    obtain ⟨rfl, hx3, hgood, hpos⟩ := hcut
    have HE3 := Lib.hid (HE2.out.trans hx3)
    have BX3 := Lib.hid (⟨BX2.out.1.ext hx3, BX2.out.2.ext hx3⟩ : _ ∧ _)
    clear hx3 HE2 BX2
    rename World => w3
    obtain ⟨⟨b0, -⟩, ⟨b1, -⟩⟩ := BX3.out
    by_cases h0 : fs.length = 0
    · have T0 : decide ((0 : Int) < (fs.length : Int)) = false := decide_eq_false (by omega)
      have T0n : decide (0 < fs.length) = false := decide_eq_false (by omega)
      have HRR : Hid (r = false) := by
        unfold Hid
        rw [← HR.out]
        unfold jfiberB
        cases on with
        | true => simp [h0]
        | false => exact absurd h0 (hpos rfl)
      clear h0 HR hgood hpos
      go_wp2_with (first
        | (go_at_call 67; refine (must1 _ _ _ _ ).mono ?_; rintro e w4 ⟨he, hx4⟩; simp only [Bool.and_true, Bool.true_and, Bool.and_false, Bool.false_and, Bool.and_self, mustE] at he; subst he))
      exact ⟨rfl, by rw [HRR.out]; rfl, HE3.out.trans (((Ext.refl _).alloc _).trans hx4)⟩
    · have T0 : decide ((0 : Int) < (fs.length : Int)) = true := decide_eq_true (by omega)
      have T0n : decide (0 < fs.length) = true := decide_eq_true (by omega)
      have HRR : Hid (r = jrestB p ⟨fs, clr⟩ on runs) := by
        unfold Hid
        rw [← HR.out]
        unfold jfiberB
        rw [if_neg (fun h => hgood h), if_neg h0]
      clear HR hgood hpos
      go_upto_region 6 with (first
        | (go_at_call 67; refine (must1 _ _ _ _ ).mono ?_; rintro e w4 ⟨he, hx4⟩; simp only [Bool.and_true, Bool.true_and, Bool.and_false, Bool.false_and, Bool.and_self, mustE] at he; subst he))
      have HE4 := Lib.hid (HE3.out.trans (((Ext.refl _).alloc _).trans hx4))
      have BX4 := Lib.hid (⟨BX3.out.1.ext (((Ext.refl _).alloc _).trans hx4), BX3.out.2.ext (((Ext.refl _).alloc _).trans hx4)⟩ : _ ∧ _)
      clear hx4 HE3 BX3 b0 b1
      rename World => w4
      obtain ⟨⟨b0, -⟩, ⟨b1, -⟩⟩ := BX4.out
      go_wp2_with fail
      clear b0 b1
      go_loopw [54] (fun q wr => ∃ k : Nat, k ≤ fs.length ∧ q = .int .i64 k ∧ Ext w4 wr ∧ ∀ i, i < k → frameB p (fs.getD i default) = true) (fun q _ => fs.length - (intOf q).toNat)
      case atStart => exact ⟨0, Nat.zero_le _, rfl, Ext.refl _, fun i hi => absurd hi (Nat.not_lt_zero _)⟩
      case round =>
        obtain ⟨k, hk, rfl, hb, hall⟩ := hrel
        have HB := Lib.hid hb
        have HALL := Lib.hid hall
        clear hb hall
        by_cases hlt : k < fs.length
        · obtain ⟨bg, og, al2, cl2, as2, cs2, rfl, hfa, hfv⟩ := (Frames.stays (Ext.stays (HE4.out.trans HB.out)) HFR.out).at' hlt
          have HFV2 := Lib.hid hfv
          obtain ⟨x0, x1, x2, x3⟩ := hfa
          obtain ⟨ok, hok⟩ : ∃ ok, frameB p (fs.getD k default) = ok := ⟨_, rfl⟩
          have HOK := Lib.hid hok
          clear hfv hok
          generalize hxx : fs.getD k default = x at *
          have HXX := Lib.hid hxx
          clear hxx
          go_upto_region 9 with fail
          have HE5 := Lib.hid ((HE4.out.trans HB.out).trans ((Ext.refl wr).alloc (.cells #[.int .i64 x.func, .int .i64 x.at_, .slice al2 x.locals.length cl2, .slice as2 x.stack.length cs2] 43)))
          cases ok with
          | true =>
            go_wp2_with (first
              | (go_at_call 102; refine (jframe_any p s line jb _ x _ _ (HJ.out.ext HE5.out) HZ.out (FrameV.stays (Ext.stays ((Ext.refl _).alloc _)) HFV2.out)).mono ?_; rintro e w6 ⟨he, hx6⟩; rw [HOK.out] at he; simp only [mustE] at he; subst he))
            go_roundw
            case rel => exact ⟨k + 1, by omega, by go_num, HB.out.trans (((Ext.refl _).alloc _).trans hx6), fun i hi => by
              by_cases e : i = k
              · rw [e, HXX.out]; exact HOK.out
              · exact HALL.out i (by omega)⟩
            case measure => simp [intOf]; omega
          | false =>
            have HR2 : Hid (r = false) := by unfold Hid; rw [HRR.out]; unfold jrestB; rw [allK_false hlt (by show frameB p (fs.getD k default) = false; rw [HXX.out]; exact HOK.out)]; rfl
            go_wp2_with (first
              | (go_at_call 102; refine (jframe_any p s line jb _ x _ _ (HJ.out.ext HE5.out) HZ.out (FrameV.stays (Ext.stays ((Ext.refl _).alloc _)) HFV2.out)).mono ?_; rintro e w6 ⟨he, hx6⟩; rw [HOK.out] at he; simp only [mustE] at he; subst he))
            exact ⟨rfl, by rw [HR2.out]; rfl, HE5.out.trans hx6⟩
        · obtain rfl : k = fs.length := by omega
          have HR2 : Hid (r = (allK (fs.length - 1) (jonB p fs) && jtopB p ⟨fs, clr⟩ on runs (fs.getD (fs.length - 1) default))) := by unfold Hid; rw [HRR.out]; unfold jrestB; rw [allK_true HALL.out, Bool.true_and]
          have HE5 := Lib.hid (HE4.out.trans HB.out)
          have BX5 := Lib.hid (⟨BX4.out.1.ext HB.out, BX4.out.2.ext HB.out⟩ : _ ∧ _)
          clear hlt HRR HE4 BX4
          rename World => w5
          obtain ⟨⟨b0, -⟩, ⟨b1, -⟩⟩ := BX5.out
          obtain ⟨bg, og, _, _, _, _, rfl, _, _⟩ := (Frames.stays (Ext.stays HE5.out) HFR.out).at' (k := 0) (by omega)
          go_upto_region 11 with fail
          go_cut [64, 65, 66] (fun v64 v65 v66 wx => (∃ o2 c2, v64 = .slice (some ⟨bg, o2, none⟩) (fs.length - 1) c2 ∧ (1 < fs.length → o2 = og + 4)) ∧ v65 = .int .i64 ((fs.length - 1 : Nat) : Int) ∧ v66 = .int .i64 0 ∧ w5 = wx)
          case first =>
            have hcle : fs.length ≤ cf := by obtain ⟨_, _, e, h, _⟩ := HFR.out; simp only [Value.slice.injEq] at e; omega
            by_cases hc1 : cf = 1
            · subst hc1
              go_wp2_with fail
              go_meet
              have h1 : fs.length = 1 := by omega
              exact ⟨⟨og, 0, by rw [h1], fun h => by omega⟩, by rw [h1]; rfl, rfl, rfl⟩
            · go_wp2_with fail
              go_meet
              exact ⟨⟨_, _, rfl, fun _ => rfl⟩, rfl, rfl, rfl⟩
          case rest =>
            obtain ⟨⟨o2, c2, rfl, ho2⟩, rfl, rfl, rfl⟩ := hcut
            have hM1 : fs.length - 1 < fs.length := by omega
            have hM2 : fs.length ≤ (fs.length - 1) + 1 := by omega
            generalize fs.length - 1 = M at *
            clear b0 b1
            go_wp2_with fail
            go_loopw [66] (fun q wr => ∃ k : Nat, k ≤ M ∧ q = .int .i64 k ∧ Ext w5 wr ∧ ∀ i, i < k → jonB p fs i = true) (fun q _ => M - (intOf q).toNat)
            case atStart => exact ⟨0, Nat.zero_le _, rfl, Ext.refl _, fun i hi => absurd hi (Nat.not_lt_zero _)⟩
            case round =>
              obtain ⟨k, hk, rfl, hb, hall2⟩ := hrel
              have HB2 := Lib.hid hb
              have HALL2 := Lib.hid hall2
              obtain ⟨⟨b0, -⟩, ⟨b1, -⟩⟩ := (⟨BX5.out.1.ext hb, BX5.out.2.ext hb⟩ : _ ∧ _)
              clear hb hall2
              by_cases hlt : k < M
              · obtain ⟨k1, hk1⟩ : ∃ k1, k1 = k + 1 := ⟨_, rfl⟩
                have ho2' : og + k1 * 4 = o2 + k * 4 := by rw [ho2 (by omega), hk1]; omega
                have hkf : k < fs.length := by omega
                have hFx := HALL.out k hkf
                obtain ⟨_, _, alx, clx, asx, csx, eg, hfa, hfv⟩ := (Frames.stays (Ext.stays (HE5.out.trans HB2.out)) HFR.out).at' hkf
                simp only [Option.some.injEq, Addr.mk.injEq, and_true] at eg
                obtain ⟨rfl, rfl⟩ := eg
                obtain ⟨_, _, aly, cly, asy, csy, eg, hfay, _⟩ := (Frames.stays (Ext.stays (HE5.out.trans HB2.out)) HFR.out).at' (k := k1) (by omega)
                simp only [Option.some.injEq, Addr.mk.injEq, and_true] at eg
                obtain ⟨rfl, rfl⟩ := eg
                rw [ho2'] at hfay
                have HJON : Hid (jonB p fs k = (jwaitB p (fs.getD k default) 11 && decide ((opBack p (fs.getD k default)).a = (fs.getD k1 default).func))) := by rw [hk1]; rfl
                have HFV2 := Lib.hid hfv
                have HK1 := Lib.hid hk1
                clear hfv hk1 ho2'
                generalize fs.getD k default = x at *
                generalize fs.getD k1 default = y at *
                obtain ⟨x0, x1, x2, x3⟩ := hfa
                obtain ⟨y0, y1, y2, y3⟩ := hfay
                obtain ⟨n', m', hn', e1, e2, hm', _, hu0, hlm, h24⟩ := frameB_nat HZ.out hFx
                obtain ⟨fn', at', lsx, stx⟩ := x
                simp only at e1 e2
                subst e1 e2
                simp only at *
                have HFX := Lib.hid hFx
                obtain ⟨bp, op, capp, ep, _, _, _, _, vcp, hCp, hcodep⟩ := HP.out.get hn'
                simp only [Value.slice.injEq] at ep
                obtain ⟨rfl, -, rfl⟩ := ep
                obtain ⟨cap', ccap', rfl, hcc', _, hopsp⟩ := hcodep
                have HOPS := Lib.hid hopsp
                clear hFx hopsp hlm
                rename World => wr
                go_upto_region 15 with fail
                have hE7 : Ext wr ((wr.alloc (.cells #[.int .i64 y.func, .int .i64 y.at_, .slice aly y.locals.length cly, .slice asy y.stack.length csy] 43)).alloc (.cells #[.int .i64 n', .int .i64 m', .slice alx lsx.length clx, .slice asx stx.length csx] 43)) := ((Ext.refl _).alloc _).alloc _
                have yb0 := (Cx.ext (Cx.new wr [.int .i64 y.func, .int .i64 y.at_, .slice aly y.locals.length cly, .slice asy y.stack.length csy] 43 (j := 0) rfl) ((Ext.refl _).alloc (.cells #[.int .i64 n', .int .i64 m', .slice alx lsx.length clx, .slice asx stx.length csx] 43))).1
                have hSy : (wr.alloc (.cells #[.int .i64 y.func, .int .i64 y.at_, .slice aly y.locals.length cly, .slice asy y.stack.length csy] 43)).heap.size = wr.heap.size + 1 := Array.size_push _
                have xb0 := (Cx.new (wr.alloc (.cells #[.int .i64 y.func, .int .i64 y.at_, .slice aly y.locals.length cly, .slice asy y.stack.length csy] 43)) [.int .i64 n', .int .i64 m', .slice alx lsx.length clx, .slice asx stx.length csx] 43 (j := 0) rfl).1
                have xb1 := (Cx.new (wr.alloc (.cells #[.int .i64 y.func, .int .i64 y.at_, .slice aly y.locals.length cly, .slice asy y.stack.length csy] 43)) [.int .i64 n', .int .i64 m', .slice alx lsx.length clx, .slice asx stx.length csx] 43 (j := 1) rfl).1
                have xb2 := (Cx.new (wr.alloc (.cells #[.int .i64 y.func, .int .i64 y.at_, .slice aly y.locals.length cly, .slice asy y.stack.length csy] 43)) [.int .i64 n', .int .i64 m', .slice alx lsx.length clx, .slice asx stx.length csx] 43 (j := 2) rfl).1
                have xb3 := (Cx.new (wr.alloc (.cells #[.int .i64 y.func, .int .i64 y.at_, .slice aly y.locals.length cly, .slice asy y.stack.length csy] 43)) [.int .i64 n', .int .i64 m', .slice alx lsx.length clx, .slice asx stx.length csx] 43 (j := 3) rfl).1
                rw [hSy] at xb0 xb1 xb2 xb3
                have HX7 := Lib.hid hE7
                have HE7 := Lib.hid ((HE5.out.trans HB2.out).trans hE7)
                have j3 := Ext.cell HE7.out HJC.out.2.2.1
                have hC7 := Ext.cell HE7.out hCp
                clear hSy hE7 x0 x1 x2 x3 y0 y1 y2 y3 b0 b1 hCp
                generalize (wr.alloc (.cells [.int .i64 y.func, .int .i64 y.at_, .slice aly y.locals.length cly, .slice asy y.stack.length csy].toArray 43)).alloc (.cells [.int .i64 n', .int .i64 m', .slice alx lsx.length clx, .slice asx stx.length csx].toArray 43) = w7 at *
                cases hw : jwaitB p ⟨n', m', lsx, stx⟩ 11 with
                | false =>
                  have HW := Lib.hid hw
                  have HR3 : Hid (r = false) := by unfold Hid; rw [HR2.out, allK_false hlt (by rw [HJON.out, hw]; rfl)]; rfl
                  clear hw
                  refine wp_region_ext_tail 23 (by kernel_rfl) (by kernel_rfl) ?_
                  simp only [List.take_succ_cons, List.take_zero, List.drop_succ_cons, List.drop_zero]
                  repeat (first
                    | go_big_quiet_skip
                    | (go_big_quiet_want
                       unfold Oper.quiet
                       apply Exists.intro
                       refine ⟨fun w' hw' => ?_, ?_⟩
                       focus
                         have hcq := Ext.keep hw'
                         go_simp
                         first
                           | with_reducible rfl
                           | (go_at_call 103; refine (jwaits_any p s line jb _ ⟨n', m', lsx, stx⟩ _ 11 _ (HJ.out.ext (HE7.out.trans hw')) HZ.out (FrameV.stays (Ext.stays (HX7.out.trans hw')) HFV2.out) HFX.out).mono ?_; rintro e w8 ⟨rfl, hx8⟩; rw [HW.out]; exact ⟨rfl, hw'.trans hx8⟩)
                       (try dsimp only [Act.put])
                       (try simp only [List.setIfInBounds_toArray, List.set_cons_succ, List.set_cons_zero])
                       go_big_quiet_on))
                  refine wpQuiet_nil ?_
                  intro wq hq
                  go_wp2_with (first
                    | (go_at_call 67; refine (must1 _ _ _ _ ).mono ?_; rintro e w9 ⟨he, hx9⟩; simp only [Bool.and_true, Bool.true_and, Bool.and_false, Bool.false_and, Bool.and_self, mustE] at he; subst he))
                  exact ⟨rfl, by rw [HR3.out]; rfl, HE7.out.trans (hq.trans (((Ext.refl _).alloc _).trans hx9))⟩
                | true =>
                  have HW := Lib.hid hw
                  have hmpos : 0 < m' := by
                    unfold jwaitB at hw
                    simp only [Bool.and_eq_true, decide_eq_true_eq] at hw
                    omega
                  obtain ⟨q, hq'⟩ : ∃ q, m' = q + 1 := ⟨m' - 1, by omega⟩
                  have hql : q < p[n'].code.length := by omega
                  have KK : IntKind.i64.wrap ((m' : Int) - 1) = (q : Int) := by rw [IntWalk.i64_in _ (by omega)]; omega
                  obtain ⟨cb, co, rfl, _, _, z1, _⟩ := HOPS.out q hql
                  obtain ⟨ya, hya⟩ : ∃ ya, p[n'].code[q].a = ya := ⟨_, rfl⟩
                  rw [hya] at z1
                  have hOB : (opBack p ⟨n', m', lsx, stx⟩).a = ya := by
                    unfold opBack
                    rw [show (funcOf p (GFrame.func ⟨n', m', lsx, stx⟩)) = p[n'] from funcOf_nat hn']
                    show (p[n'].code.getD ((m' : Int) - 1).toNat default).a = ya
                    rw [show ((m' : Int) - 1).toNat = q by omega, ← hya]
                    simp [List.getD, List.getElem?_eq_getElem hql]
                  have HJ2 : Hid (jonB p fs k = (ya == y.func)) := by
                    unfold Hid
                    rw [HJON.out, hw, hOB, Bool.true_and, Bool.eq_iff_iff]
                    simp
                  have z7 := Ext.cell HE7.out z1
                  clear hw hq' hOB hya z1 hmpos
                  obtain ⟨yf, hyf⟩ : ∃ yf, y.func = yf := ⟨_, rfl⟩
                  rw [hyf] at HJ2 yb0
                  clear hyf
                  refine wp_region_ext_tail 23 (by kernel_rfl) (by kernel_rfl) ?_
                  simp only [List.take_succ_cons, List.take_zero, List.drop_succ_cons, List.drop_zero]
                  repeat (first
                    | go_big_quiet_skip
                    | (go_big_quiet_want
                       unfold Oper.quiet
                       apply Exists.intro
                       refine ⟨fun w' hw' => ?_, ?_⟩
                       focus
                         have hcq := Ext.keep hw'
                         go_simp
                         first
                           | with_reducible rfl
                           | (go_at_call 103; refine (jwaits_any p s line jb _ ⟨n', m', lsx, stx⟩ _ 11 _ (HJ.out.ext (HE7.out.trans hw')) HZ.out (FrameV.stays (Ext.stays (HX7.out.trans hw')) HFV2.out) HFX.out).mono ?_; rintro e w8 ⟨rfl, hx8⟩; rw [HW.out]; exact ⟨rfl, hw'.trans hx8⟩)
                       (try dsimp only [Act.put])
                       (try simp only [List.setIfInBounds_toArray, List.set_cons_succ, List.set_cons_zero])
                       go_big_quiet_on))
                  refine wpQuiet_nil ?_
                  intro wq hq
                  by_cases hy : ya = yf
                  · have HYT : Hid ((ya == yf) = true) := by unfold Hid; simp [hy]
                    clear hy
                    go_wp2_with (first
                      | (go_at_call 67; refine (must1 _ _ _ _ ).mono ?_; rintro e w9 ⟨he, hx9⟩; rw [HYT.out] at he; simp only [Bool.and_true, Bool.true_and, Bool.and_false, Bool.false_and, Bool.and_self, mustE] at he; subst he))
                    go_roundw
                    case rel => exact ⟨k + 1, by omega, by go_num, (HB2.out.trans HX7.out).trans (hq.trans (((Ext.refl _).alloc _).trans hx9)), fun i hi => by
                      by_cases e : i = k
                      · rw [e, HJ2.out]; exact HYT.out
                      · exact HALL2.out i (by omega)⟩
                    case measure => simp [intOf]; omega
                  · have HYT : Hid ((ya == yf) = false) := beq_eq_false_iff_ne.2 hy
                    have HR3 : Hid (r = false) := by unfold Hid; rw [HR2.out, allK_false hlt (by rw [HJ2.out]; exact HYT.out)]; rfl
                    clear hy
                    go_wp2_with (first
                      | (go_at_call 67; refine (must1 _ _ _ _ ).mono ?_; rintro e w9 ⟨he, hx9⟩; rw [HYT.out] at he; simp only [Bool.and_true, Bool.true_and, Bool.and_false, Bool.false_and, Bool.and_self, mustE] at he; subst he))
                    exact ⟨rfl, by rw [HR3.out]; rfl, HE7.out.trans (hq.trans (((Ext.refl _).alloc _).trans hx9))⟩
              · obtain rfl : k = M := by omega
                have HR3 : Hid (r = jtopB p ⟨fs, clr⟩ on runs (fs.getD k default)) := by unfold Hid; rw [HR2.out, allK_true HALL2.out, Bool.true_and]
                have HFR0 : Hid (∀ h : 0 < fs.length, 0 ≤ fs[0].func ∧ fs[0].func < p.length) := fun h => by
                  have h1 := frameB_at (HALL.out 0 h)
                  have e : fs.getD 0 default = fs[0] := by simp [List.getD, List.getElem?_eq_getElem h]
                  rw [e] at h1
                  exact ⟨h1.1, h1.2.1⟩
                have KK : IntKind.i64.wrap ((fs.length : Int) - 1) = (k : Int) := by rw [IntWalk.i64_in _ (by omega)]; omega
                have hFx := HALL.out k hM1
                obtain ⟨_, _, alx, clx, asx, csx, eg, hfa, hfv⟩ := (Frames.stays (Ext.stays (HE5.out.trans HB2.out)) HFR.out).at' hM1
                simp only [Option.some.injEq, Addr.mk.injEq, and_true] at eg
                obtain ⟨rfl, rfl⟩ := eg
                have HFV2 := Lib.hid hfv
                clear hfv hlt HR2
                generalize fs.getD k default = x at *
                obtain ⟨x0, x1, x2, x3⟩ := hfa
                obtain ⟨n', m', hn', e1, e2, hm', _, hu0, hlm, h24⟩ := frameB_nat HZ.out hFx
                obtain ⟨fn', at', lsx, stx⟩ := x
                simp only at e1 e2
                subst e1 e2
                simp only at *
                have HFX := Lib.hid hFx
                have hml : m' < (hgt p n').length := by omega
                clear hFx hlm
                rename World => wr
                go_upto_region 19 with fail
                have hE7 : Ext wr (wr.alloc (.cells #[.int .i64 n', .int .i64 m', .slice alx lsx.length clx, .slice asx stx.length csx] 43)) := (Ext.refl _).alloc _
                have xb0 := (Cx.new wr [.int .i64 n', .int .i64 m', .slice alx lsx.length clx, .slice asx stx.length csx] 43 (j := 0) rfl).1
                have xb1 := (Cx.new wr [.int .i64 n', .int .i64 m', .slice alx lsx.length clx, .slice asx stx.length csx] 43 (j := 1) rfl).1
                have xb2 := (Cx.new wr [.int .i64 n', .int .i64 m', .slice alx lsx.length clx, .slice asx stx.length csx] 43 (j := 2) rfl).1
                have xb3 := (Cx.new wr [.int .i64 n', .int .i64 m', .slice alx lsx.length clx, .slice asx stx.length csx] 43 (j := 3) rfl).1
                have c0 := Ext.cell hE7 b0
                have c1 := Ext.cell hE7 b1
                have HX7 := Lib.hid hE7
                have HE7 := Lib.hid ((HE5.out.trans HB2.out).trans hE7)
                have j1 := Ext.cell HE7.out HJC.out.2.1
                have j3 := Ext.cell HE7.out HJC.out.2.2.1
                clear hE7 x0 x1 x2 x3 b0 b1
                generalize wr.alloc (.cells [.int .i64 n', .int .i64 m', .slice alx lsx.length clx, .slice asx stx.length csx].toArray 43) = w7 at *
                cases runs with
                | true =>
                  have TR := HRUNS.out
                  obtain ⟨u, hu⟩ : ∃ u, (hgt p n').getD m' 0 = u := ⟨_, rfl⟩
                  have HU := Lib.hid hu
                  have HR4 : Hid (r = ((stx.length : Int) == u)) := by
                    unfold Hid
                    rw [HR3.out]
                    unfold jtopB fullB
                    rw [if_pos rfl, show (hgt p (GFrame.func ⟨n', m', lsx, stx⟩)).getD (GFrame.at_ ⟨n', m', lsx, stx⟩).toNat 0 = u from HU.out, Bool.eq_iff_iff]
                    simp
                  obtain ⟨ah, ch, j4, hh⟩ := (HJ.out.ext HE7.out).hts
                  obtain ⟨bh, oh, ah2, ch2, rfl, hh0, hhi⟩ := Judge.at' hh hn'
                  obtain ⟨bl, ol, rfl, hl0⟩ := Ints.at' hhi hml
                  rw [HU.out] at hl0
                  clear hu hh hhi
                  go_upto_region 20 with fail
                  go_still_tail 16, (by kernel_rfl)
                  change wpList _ _ _ _ _ w7.drew
                  have hE8 : Ext w7 w7.drew := (Ext.refl _).drew
                  generalize w7.drew = w8 at *
                  by_cases hy : (stx.length : Int) = u
                  · have HYT : Hid (((stx.length : Int) == u) = true) := by unfold Hid; simp [hy]
                    have HR5 : Hid (r = true) := by unfold Hid; rw [HR4.out]; exact HYT.out
                    clear hy
                    go_wp2_with (first
                      | (go_at_call 67; refine (must1 _ _ _ _ ).mono ?_; rintro e w9 ⟨he, hx9⟩; rw [HYT.out] at he; simp only [Bool.and_true, Bool.true_and, Bool.and_false, Bool.false_and, Bool.and_self, mustE] at he; subst he))
                    go_end0
                    exact ⟨by rw [HR5.out]; rfl, HE7.out.trans (hE8.trans (((Ext.refl _).alloc _).trans hx9))⟩
                  · have HYT : Hid (((stx.length : Int) == u) = false) := beq_eq_false_iff_ne.2 hy
                    have HR5 : Hid (r = false) := by unfold Hid; rw [HR4.out]; exact HYT.out
                    clear hy
                    go_wp2_with (first
                      | (go_at_call 67; refine (must1 _ _ _ _ ).mono ?_; rintro e w9 ⟨he, hx9⟩; rw [HYT.out] at he; simp only [Bool.and_true, Bool.true_and, Bool.and_false, Bool.false_and, Bool.and_self, mustE] at he; subst he))
                    exact ⟨rfl, by rw [HR5.out]; rfl, HE7.out.trans (hE8.trans (((Ext.refl _).alloc _).trans hx9))⟩
                | false =>
                  have TR := HRUNS.out
                  cases on with
                  | true =>
                    have HR4 : Hid (r = jwaitB p ⟨n', m', lsx, stx⟩ 14) := by unfold Hid; rw [HR3.out]; rfl
                    cases hw : jwaitB p ⟨n', m', lsx, stx⟩ 14 with
                    | true =>
                      have HW := Lib.hid hw
                      have HR5 : Hid (r = true) := by unfold Hid; rw [HR4.out, hw]
                      clear hw
                      go_wp2_with (first
                        | (go_at_call 103; refine (jwaits_any p s line jb _ ⟨n', m', lsx, stx⟩ _ 14 _ (HJ.out.ext HE7.out) HZ.out (FrameV.stays (Ext.stays HX7.out) HFV2.out) HFX.out).mono ?_; rintro e w8 ⟨rfl, hx8⟩; rw [HW.out])
                        | (go_at_call 67; refine (must1 _ _ _ _ ).mono ?_; rintro e w9 ⟨he, hx9⟩; simp only [Bool.and_true, Bool.true_and, Bool.and_false, Bool.false_and, Bool.and_self, mustE] at he; subst he))
                      go_end0
                      exact ⟨by rw [HR5.out]; rfl, HE7.out.trans (hx8.trans (((Ext.refl _).alloc _).trans hx9))⟩
                    | false =>
                      have HW := Lib.hid hw
                      have HR5 : Hid (r = false) := by unfold Hid; rw [HR4.out, hw]
                      clear hw
                      go_wp2_with (first
                        | (go_at_call 103; refine (jwaits_any p s line jb _ ⟨n', m', lsx, stx⟩ _ 14 _ (HJ.out.ext HE7.out) HZ.out (FrameV.stays (Ext.stays HX7.out) HFV2.out) HFX.out).mono ?_; rintro e w8 ⟨rfl, hx8⟩; rw [HW.out])
                        | (go_at_call 67; refine (must1 _ _ _ _ ).mono ?_; rintro e w9 ⟨he, hx9⟩; simp only [Bool.and_true, Bool.true_and, Bool.and_false, Bool.false_and, Bool.and_self, mustE] at he; subst he))
                      exact ⟨rfl, by rw [HR5.out]; rfl, HE7.out.trans (hx8.trans (((Ext.refl _).alloc _).trans hx9))⟩
                  | false =>
                    have HR4 : Hid (r = (freshB p ⟨fs, clr⟩ || jwaitB p ⟨n', m', lsx, stx⟩ 15)) := by unfold Hid; rw [HR3.out]; rfl
                    go_upto_region 18 with fail
                    cases hfre : freshB p ⟨fs, clr⟩ with
                    | true =>
                      have HFRE := Lib.hid hfre
                      have HR5 : Hid (r = true) := by unfold Hid; rw [HR4.out, hfre]; rfl
                      clear hfre
                      refine wp_region_ext_tail 11 (by kernel_rfl) (by kernel_rfl) ?_
                      simp only [List.take_succ_cons, List.take_zero, List.drop_succ_cons, List.drop_zero]
                      repeat (first
                        | go_big_quiet_skip
                        | (go_big_quiet_want
                           unfold Oper.quiet
                           apply Exists.intro
                           refine ⟨fun w' hw' => ?_, ?_⟩
                           focus
                             have hcq := Ext.keep hw'
                             go_simp
                             first
                               | with_reducible rfl
                               | (go_at_call 104; refine (stateFresh_any p _ _ _ ⟨fs, clr⟩ _ _ (Funcs.stays (Ext.stays (HE7.out.trans hw')) HP.out) (FiberV.stays (Ext.stays (HE7.out.trans hw')) HFV.out) HFR0.out).mono ?_; rintro e w8 ⟨rfl, hx8⟩; rw [HFRE.out]; exact ⟨rfl, hw'.trans hx8⟩)
                           (try dsimp only [Act.put])
                           (try simp only [List.setIfInBounds_toArray, List.set_cons_succ, List.set_cons_zero])
                           go_big_quiet_on))
                      refine wpQuiet_nil ?_
                      intro wq hq
                      go_wp2_with (first
                        | (go_at_call 67; refine (must1 _ _ _ _ ).mono ?_; rintro e w9 ⟨he, hx9⟩; simp only [Bool.and_true, Bool.true_and, Bool.and_false, Bool.false_and, Bool.and_self, mustE] at he; subst he))
                      go_end0
                      exact ⟨by rw [HR5.out]; rfl, HE7.out.trans (hq.trans (((Ext.refl _).alloc _).trans hx9))⟩
                    | false =>
                      have HFRE := Lib.hid hfre
                      cases hw : jwaitB p ⟨n', m', lsx, stx⟩ 15 with
                      | true =>
                        have HW := Lib.hid hw
                        have HR5 : Hid (r = true) := by unfold Hid; rw [HR4.out, hfre, hw]; rfl
                        clear hfre hw
                        refine wp_region_ext_tail 11 (by kernel_rfl) (by kernel_rfl) ?_
                        simp only [List.take_succ_cons, List.take_zero, List.drop_succ_cons, List.drop_zero]
                        repeat (first
                          | go_big_quiet_skip
                          | (go_big_quiet_want
                             unfold Oper.quiet
                             apply Exists.intro
                             refine ⟨fun w' hw' => ?_, ?_⟩
                             focus
                               have hcq := Ext.keep hw'
                               go_simp
                               first
                                 | with_reducible rfl
                                 | (go_at_call 104; refine (stateFresh_any p _ _ _ ⟨fs, clr⟩ _ _ (Funcs.stays (Ext.stays (HE7.out.trans hw')) HP.out) (FiberV.stays (Ext.stays (HE7.out.trans hw')) HFV.out) HFR0.out).mono ?_; rintro e w8 ⟨rfl, hx8⟩; rw [HFRE.out]; exact ⟨rfl, hw'.trans hx8⟩) | (go_at_call 103; refine (jwaits_any p s line jb _ ⟨n', m', lsx, stx⟩ _ 15 _ (HJ.out.ext (HE7.out.trans hw')) HZ.out (FrameV.stays (Ext.stays (HX7.out.trans hw')) HFV2.out) HFX.out).mono ?_; rintro e w8 ⟨rfl, hx8⟩; rw [HW.out]; exact ⟨rfl, hw'.trans hx8⟩)
                             (try dsimp only [Act.put])
                             (try simp only [List.setIfInBounds_toArray, List.set_cons_succ, List.set_cons_zero])
                             go_big_quiet_on))
                        refine wpQuiet_nil ?_
                        intro wq hq
                        go_wp2_with (first
                          | (go_at_call 67; refine (must1 _ _ _ _ ).mono ?_; rintro e w9 ⟨he, hx9⟩; simp only [Bool.and_true, Bool.true_and, Bool.and_false, Bool.false_and, Bool.and_self, mustE] at he; subst he))
                        go_end0
                        exact ⟨by rw [HR5.out]; rfl, HE7.out.trans (hq.trans (((Ext.refl _).alloc _).trans hx9))⟩
                      | false =>
                        have HW := Lib.hid hw
                        have HR5 : Hid (r = false) := by unfold Hid; rw [HR4.out, hfre, hw]; rfl
                        clear hfre hw
                        refine wp_region_ext_tail 11 (by kernel_rfl) (by kernel_rfl) ?_
                        simp only [List.take_succ_cons, List.take_zero, List.drop_succ_cons, List.drop_zero]
                        repeat (first
                          | go_big_quiet_skip
                          | (go_big_quiet_want
                             unfold Oper.quiet
                             apply Exists.intro
                             refine ⟨fun w' hw' => ?_, ?_⟩
                             focus
                               have hcq := Ext.keep hw'
                               go_simp
                               first
                                 | with_reducible rfl
                                 | (go_at_call 104; refine (stateFresh_any p _ _ _ ⟨fs, clr⟩ _ _ (Funcs.stays (Ext.stays (HE7.out.trans hw')) HP.out) (FiberV.stays (Ext.stays (HE7.out.trans hw')) HFV.out) HFR0.out).mono ?_; rintro e w8 ⟨rfl, hx8⟩; rw [HFRE.out]; exact ⟨rfl, hw'.trans hx8⟩) | (go_at_call 103; refine (jwaits_any p s line jb _ ⟨n', m', lsx, stx⟩ _ 15 _ (HJ.out.ext (HE7.out.trans hw')) HZ.out (FrameV.stays (Ext.stays (HX7.out.trans hw')) HFV2.out) HFX.out).mono ?_; rintro e w8 ⟨rfl, hx8⟩; rw [HW.out]; exact ⟨rfl, hw'.trans hx8⟩)
                             (try dsimp only [Act.put])
                             (try simp only [List.setIfInBounds_toArray, List.set_cons_succ, List.set_cons_zero])
                             go_big_quiet_on))
                        refine wpQuiet_nil ?_
                        intro wq hq
                        go_wp2_with (first
                          | (go_at_call 67; refine (must1 _ _ _ _ ).mono ?_; rintro e w9 ⟨he, hx9⟩; simp only [Bool.and_true, Bool.true_and, Bool.and_false, Bool.false_and, Bool.and_self, mustE] at he; subst he))
                        exact ⟨rfl, by rw [HR5.out]; rfl, HE7.out.trans (hq.trans (((Ext.refl _).alloc _).trans hx9))⟩
end Go.Proofs.YtgahbngbpfilgaaGreat
end
