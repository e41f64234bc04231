/- Merged texts: contracts and plain facts, one part behind another; each part begins with what it says. -/
import Derived.Test.YtgahbngbpfilgaaGreatGEAC
import Derived.Test.YtgahbngbpfilgaaGreatGEAD
import Derived.Test.YtgahbngbpfilgaaGreatGEAF
import Derived.Test.YtgahbngbpfilgaaGreatGEAG
import Derived.Laws.ResultCell
section
set_option maxHeartbeats 1000000
namespace Go.Proofs.YtgahbngbpfilgaaGreat
open Go Go.RowKit
structure HFacts (p : List GFunc) (C : List GOp) (l : List Int) : Prop where
 len : l.length = C.length
 pos : 0 < C.length
 zero : l.getD 0 0 = 0
 low : ∀ k, k < C.length → l.getD k 0 < 0 → l.getD k 0 = -1
 hi : ∀ k, k < C.length → l.getD k 0 ≤ 8
 thru : ∀ k, (hk : k < C.length) → 0 ≤ l.getD k 0 → takesOf p C[k] ≤ l.getD k 0 ∧ nOf p C[k] (l.getD k 0) ≤ 8 ∧ (C[k].kind = 12 → l.getD k 0 = 1) ∧ ∀ i ∈ nx C[k] k, i < C.length ∧ l.getD i 0 = nOf p C[k] (l.getD k 0)
 from_ : ∀ k, k < C.length → 0 ≤ l.getD k 0 → k ≠ 0 → ∃ j, ∃ hj : j < C.length, 0 ≤ l.getD j 0 ∧ k ∈ nx C[j] j
theorem hfacts {p : List GFunc} {F : GFunc} (hR : RightF p F) {l : List Int} (h : hts p F.code = some l) : HFacts p F.code l := by
 have hF := hts_full hR.jumps h
 refine ⟨hF.len, hF.zero.1, hF.zero.2, fun k hk h0 => by have := hF.low k hk; omega, fun k hk => ?_, fun k hk h0 => ?_, fun k hk h0 hne => ?_⟩
 ·by_cases h0 : 0 ≤ l.getD k 0
  ·rcases (hF.come k hk h0).from with ⟨_, h2⟩ | ⟨j, hh, hc, hj, hin, he⟩
   ·omega
   ·obtain ⟨_, e, h0'⟩ := hF.come_eq hc
    have := (badB_low (hF.thru j hj (by omega)).1).2.1
    rw [he, ← e]
    exact this
  ·omega
 ·obtain ⟨t1, t2⟩ := hF.thru k hk h0
  rw [getD_eq hk] at t1 t2
  obtain ⟨a1, a2, a3⟩ := badB_low t1
  refine ⟨a1, a2, fun h12 => ?_, t2⟩
  have h3 := a3 h12
  have ht : takesOf p F.code[k] = 1 := by unfold takesOf; rw [if_neg (by omega), if_pos (by omega)]
  have hl : leavesOf F.code[k] = 0 := by unfold leavesOf; rw [if_pos (by omega)]
  unfold nOf at h3
  omega
 ·rcases (hF.come k hk h0).from with ⟨h1, _⟩ | ⟨j, hh, hc, hj, hin, _⟩
  ·exact absurd h1 hne
  ·obtain ⟨_, e, h0'⟩ := hF.come_eq hc
   rw [getD_eq hj] at hin
   exact ⟨j, hj, by rw [e]; exact h0', hin⟩
theorem goT {p q : List GFunc} (ht : ∀ x, takesOf p x = takesOf q x) (x : GOp) (h : Int) : nOf p x h = nOf q x h ∧ badB p x h = badB q x h := by
 have : nOf p x h = nOf q x h := by unfold nOf; rw [ht]
 exact ⟨this, by unfold badB; rw [ht, this]⟩
theorem wl_same {p q : List GFunc} (ht : ∀ x, takesOf p x = takesOf q x) (code : List GOp) : ∀ (f : Nat) (out : List Int) (work : List Nat), wl p code f out work = wl q code f out work
 | 0, _, _ => rfl
 | _ + 1, _, [] => rfl
 | f + 1, out, k :: work => by
  unfold wl
  rw [(goT ht _ _).2, (goT ht _ _).1]
  split
  ·rfl
  ·split
   ·rfl
   ·exact wl_same ht code f _ _
theorem hts_same {p q : List GFunc} (ht : ∀ x, takesOf p x = takesOf q x) (code : List GOp) : hts p code = hts q code := by
 unfold hts; rw [wl_same ht]
structure Sim (p q : List GFunc) : Prop where
 len : q.length = p.length
 same : ∀ k, (hp : k < p.length) → (hq : k < q.length) → q[k].args = p[k].args ∧ q[k].locals = p[k].locals
theorem Sim.getD {p q : List GFunc} (h : Sim p q) (k : Nat) : (q.getD k default).args = (p.getD k default).args ∧ (q.getD k default).locals = (p.getD k default).locals := by
 by_cases hk : k < p.length
 ·have hq : k < q.length := by rw [h.len]; exact hk
  simp only [List.getD, List.getElem?_eq_getElem hk, List.getElem?_eq_getElem hq, Option.getD_some]
  exact h.same k hk hq
 ·have hq : ¬ k < q.length := by rw [h.len]; exact hk
  simp [List.getD, List.getElem?_eq_none (by omega : p.length ≤ k), List.getElem?_eq_none (by omega : q.length ≤ k)]
theorem Sim.takes {p q : List GFunc} (h : Sim p q) (x : GOp) : takesOf q x = takesOf p x := by unfold takesOf; rw [(h.getD _).1]
theorem Sim.sized {p q : List GFunc} (h : Sim p q) (k : Nat) : sizedB (q.getD k default) = sizedB (p.getD k default) := by unfold sizedB; rw [(h.getD _).1, (h.getD _).2]
theorem Sim.opsErr {p q : List GFunc} (h : Sim p q) {F G : GFunc} (hl : F.locals = G.locals) (hc : F.code = G.code) : ∀ l : List GOp, opsErr q F l = opsErr p G l
 | [] => rfl
 | x :: l => by
  have : opErr q F x = opErr p G x := by unfold opErr mostOf; rw [hl, hc, h.len, h.sized, (h.getD _).1]
  unfold Proofs.YtgahbngbpfilgaaGreat.opsErr
  rw [this, Sim.opsErr h hl hc l]
theorem Sim.funcErr {p q : List GFunc} (h : Sim p q) {f : Int} (hc : (q.getD f.toNat default).code = (p.getD f.toNat default).code) : funcErr q f = funcErr p f := by
 unfold Proofs.YtgahbngbpfilgaaGreat.funcErr
 rw [h.len, hc, h.sized, h.opsErr (h.getD f.toNat).2 hc]
theorem Sim.heights {p q : List GFunc} (h : Sim p q) {f : Int} (hc : (q.getD f.toNat default).code = (p.getD f.toNat default).code) : hErr q f = hErr p f ∧ hList q f = hList p f := by
 unfold hErr hList
 rw [h.funcErr hc, hc, hts_same (fun x => h.takes x)]
 exact ⟨rfl, rfl⟩
end Go.Proofs.YtgahbngbpfilgaaGreat
end
section
set_option maxHeartbeats 1000000
namespace Go.Proofs.YtgahbngbpfilgaaGreat
open Go Go.RowKit
structure FrameF (p : List GFunc) (x : GFrame) : Prop where
 func : 0 ≤ x.func ∧ x.func < p.length
 locals : (x.locals.length : Int) = (funcOf p x.func).locals
 at_ : 0 ≤ x.at_ ∧ x.at_ < (funcOf p x.func).code.length
 stack : x.stack.length ≤ 8
theorem right_hf {p : List GFunc} (h : RightP p) {f : Int} (h0 : 0 ≤ f) (h1 : f < p.length) : RightF p (funcOf p f) ∧ HFacts p (funcOf p f).code (hgt p f) := by
 have hf : f.toNat < p.length := by omega
 have e : funcOf p f = p[f.toNat] := by unfold funcOf; simp [List.getD, List.getElem?_eq_getElem hf]
 have hr : RightF p (funcOf p f) := by
  rw [e]
  have e0 : ((f.toNat : Nat) : Int) = f := by omega
  have := h.func f.toNat hf
  rw [e0] at this
  exact (funcErr_zero this).2.2 hf
 refine ⟨hr, ?_⟩
 have hs := h.hts f.toNat hf
 unfold hgt
 have e2 : p.getD f.toNat default = funcOf p f := rfl
 rw [e2] at hs ⊢
 cases hh : hts p (funcOf p f).code with
 | none => rw [hh] at hs; cases hs
 | some l => exact hfacts hr hh
theorem frameB_facts {p : List GFunc} {x : GFrame} (h : frameB p x = true) : (0 ≤ x.func ∧ x.func < p.length) ∧ (x.locals.length : Int) = (funcOf p x.func).locals ∧ (0 ≤ x.at_ ∧ x.at_ < (funcOf p x.func).code.length) ∧ 0 ≤ (hgt p x.func).getD x.at_.toNat 0 := by
 unfold frameB at h
 simp only [Bool.and_eq_true, decide_eq_true_eq] at h
 exact ⟨h.1.1.1, h.1.1.2, h.1.2, h.2⟩
theorem waitB_stack {p : List GFunc} {x : GFrame} {k a : Int} (h : waitB p x k a = true) : (x.stack.length : Int) = (hgt p x.func).getD x.at_.toNat 0 - 1 := by
 unfold waitB at h
 simp only [Bool.and_eq_true, decide_eq_true_eq] at h
 exact h.1.2
theorem RightS.onF {p : List GFunc} {s : GState} {l : List Int} (h : RightS p s l) {k j : Nat} (hk : k < s.fibers.length) (hj : j < (s.fibers.getD k default).frames.length) :
  onB p (s.fibers.getD k default).frames j = true ∧ topB p (s.fibers.getD k default) (decide ((k : Int) ∈ l)) (decide ((k : Int) = s.now)) ((s.fibers.getD k default).frames.getD ((s.fibers.getD k default).frames.length - 1) default) = true := by
 have hb := h.fib k hk
 unfold fibK at hb
 rw [Bool.and_eq_true] at hb
 have hb := hb.1
 unfold fiberB at hb
 rw [if_neg (by omega), Bool.and_eq_true] at hb
 exact ⟨allK_of hb.1 j hj, hb.2⟩
theorem RightS.frameF {p : List GFunc} {s : GState} {l : List Int} (h : RightS p s l) {k j : Nat} (hk : k < s.fibers.length) (hj : j < (s.fibers.getD k default).frames.length) :
  FrameF p ((s.fibers.getD k default).frames.getD j default) := by
 obtain ⟨ho, ht⟩ := h.onF hk hj
 have hP := progErr_zero h.prog
 generalize s.fibers.getD k default = f at *
 unfold onB at ho
 rw [Bool.and_eq_true] at ho
 obtain ⟨ho1, ho2⟩ := ho
 obtain ⟨f1, f2, f3, f4⟩ := frameB_facts ho1
 refine ⟨f1, f2, f3, ?_⟩
 have hh := (right_hf hP f1.1 f1.2).2.hi (f.frames.getD j default).at_.toNat (by omega)
 by_cases hl : j + 1 < f.frames.length
 ·rw [decide_eq_true hl] at ho2
  simp only [Bool.not_true, Bool.false_or, Bool.and_eq_true] at ho2
  have := waitB_stack ho2.2
  omega
 ·obtain rfl : j = f.frames.length - 1 := by omega
  unfold topB at ht
  split at ht
  ·unfold fullB at ht
   have := of_decide_eq_true ht
   omega
  ·split at ht
   ·have := waitB_stack ht; omega
   ·rw [Bool.and_eq_true, Bool.or_eq_true] at ht
    rcases ht.2 with h2 | h2
    ·unfold freshB at h2
     simp only [Bool.and_eq_true, decide_eq_true_eq] at h2
     have e1 : f.frames.length - 1 = 0 := by omega
     rw [e1]
     have := h2.1.2
     omega
    ·have := waitB_stack h2; omega
end Go.Proofs.YtgahbngbpfilgaaGreat
end
section
set_option maxHeartbeats 400000
namespace Go.Proofs.YtgahbngbpfilgaaGreat
open Go Go.RowKit
theorem IRow.made {w : World} {base : Nat} {e : TypeId} {g n : Nat} (h : w.ownsRow base e 1 (.slice (some ⟨g, 0, none⟩) n n) n (madeCells (Value.int .i64 0).cells (n * 1)).toList) : IRow w base g (List.replicate n 0) := by
 have := RowAt.of_own h
 unfold IRow
 rw [List.length_replicate]
 rw [show (Value.int .i64 0).cells = #[.int .i64 0] from rfl, toList_madeCells_one, Nat.mul_one] at this
 rwa [show Proofs.YtgahbngbpfilgaaGreat.ints (List.replicate n 0) = List.replicate n (Value.int .i64 0) by simp [Proofs.YtgahbngbpfilgaaGreat.ints]]
theorem Sl.one {α : Type} {E : Nat → Nat → α → Prop} {sz bytes b o : Nat} {y : α} (h : E b o y) (hb : bytes ≤ 1000) : Sl E sz bytes (.slice (some ⟨b, o, none⟩) 1 1) [y] := by
 refine ⟨_, 1, rfl, Nat.le_refl _, ⟨by simp; omega, by decide⟩, fun i hi => ⟨b, o, rfl, ?_⟩⟩
 have : i = 0 := by simpa using hi
 subst this
 rw [Nat.zero_mul, Nat.add_zero]
 exact h
theorem box3 {W : World} {b : Nat} {u0 u1 u2 : Value} (h0 : Cx W b 0 u0) (h1 : Cx W b 1 u1) (h2 : Cx W b 2 u2) (x y z : Value) :
  (((W.setCell ⟨b, 0, none⟩ x).setCell ⟨b, 1, none⟩ y).setCell ⟨b, 2, none⟩ z).rangeAt b 0 [x, y, z] :=
 range3 (((h0.set x).other (.inr (by decide)) y).other (.inr (by decide)) z).1 (((h1.other (.inr (by decide)) x).set y).other (.inr (by decide)) z).1 (((h2.other (.inr (by decide)) x).other (.inr (by decide)) y).set z).1
theorem chg3 (W : World) (b : Nat) (x y z : Value) : Chg (· = b) W (((W.setCell ⟨b, 0, none⟩ x).setCell ⟨b, 1, none⟩ y).setCell ⟨b, 2, none⟩ z) := ((chg_one _ _ 0 _).trans (chg_one _ _ 1 _)).trans (chg_one _ _ 2 _)
theorem ext3 {w W : World} (h : Ext w W) (x y z : Value) : Ext w (((W.setCell ⟨w.heap.size, 0, none⟩ x).setCell ⟨w.heap.size, 1, none⟩ y).setCell ⟨w.heap.size, 2, none⟩ z) :=
 ((h.setCell (p := ⟨w.heap.size, 0, none⟩) (Nat.le_refl _) _).setCell (p := ⟨w.heap.size, 1, none⟩) (Nat.le_refl _) _).setCell (p := ⟨w.heap.size, 2, none⟩) (Nat.le_refl _) _
theorem results_cell2 {P : Program} {fn : Func} {p u : Tmp} {ty : TypeId} (h : fn.results = #[.cell p ty, .tmp u]) (tmps : Array Value) (w : World) (b o : Nat) (cs : List Value) (d : TypeDesc)
  (hp : tmps.getD p undef = .pointer (some ⟨b, o, none⟩)) (hc : w.rangeAt b o cs) (hu : P.underlying ty = some d) (hd : d.isRow = true) (hi : (P.info? ty).map (·.size) = some cs.length) :
  (results fn tmps).run P w = .ok (.tuple #[.agg cs.toArray, tmps.getD u undef]) w := by
 rw [results_cell_tmp h]
 have hp' : tmps[p]?.getD undef = .pointer (some ⟨b, o, none⟩) := by simpa using hp
 simp [hp', asAddr, run_loadVar_mid w b o ty cs d hc hu hd hi, Result.andThen]
end Go.Proofs.YtgahbngbpfilgaaGreat
end
section
set_option maxHeartbeats 2000000
set_option maxRecDepth 100000
namespace Go.Proofs.YtgahbngbpfilgaaGreat
open Go Go.RowKit
theorem hts_at {p : List GFunc} {k : Nat} (h : funcErr p k = 0) (hk : k < p.length) : p.getD k default = p[k] ∧ RightF p p[k] := by
 obtain ⟨n, hn, e, hg, hR⟩ := hts_here h
 obtain rfl : k = n := by omega
 exact ⟨by simpa using hg, hR⟩
theorem progCheck_any (p : List GFunc) (v : Value) (S : Nat → Prop) (w : World) (hp : Funcs w S v p) :
  Calls Tryz.prog 33 #[v] w fun e w' => e = .returned (.int .i64 (progErr p)) ∧ Ext w w' := by
 have HP := Lib.hid hp
 obtain ⟨r, hr⟩ : ∃ r, progErr p = r := ⟨_, rfl⟩
 rw [hr]
 have HR := Lib.hid hr
 clear hr
 have hp0 := hp
 obtain ⟨a, cap, rfl, hcap, hby, _⟩ := hp
 by_cases h1 : 5 < p.length
 ·have hres : r = 2 := by rw [← HR.out]; unfold progErr; rw [if_pos h1]
  subst hres
  clear hp0
  go_enter Tryz.func33, Tryz.ntmps33
  go_wp2_with fail
  go_ret
  exact ⟨rfl, Ext.refl _⟩
 ·by_cases h2 : p.length = 0
  ·have hres : r = 5 := by rw [← HR.out]; unfold progErr; rw [if_neg h1, if_pos h2]
   subst hres
   have TZ : ((p.length : Int) == 0) = true := by simp [h2]
   clear hp0 h2
   go_enter Tryz.func33, Tryz.ntmps33
   go_wp2_with fail
   go_ret
   exact ⟨rfl, Ext.refl _⟩
  ·have hpos : 0 < p.length := by omega
   have TZ : ((p.length : Int) == 0) = false := beq_eq_false_iff_ne.2 (by omega)
   have h5 : p.length ≤ 5 := by omega
   obtain ⟨b, o, cap', e0, _, _, ⟨_, x0, _⟩, _, _⟩ := hp0.get hpos
   simp only [Value.slice.injEq] at e0
   obtain ⟨rfl, -, rfl⟩ := e0
   rw [Nat.zero_mul, Nat.add_zero] at x0
   have e1 : p.getD 0 default = p[0] := by simp [List.getD, List.getElem?_eq_getElem hpos]
   by_cases h3 : p[0].args ≠ 0
   ·have hres : r = 1 := by rw [← HR.out]; unfold progErr; rw [if_neg h1, if_neg h2, e1, if_pos h3]
    subst hres
    have T3 : (p[0].args != 0) = true := bne_iff_ne.2 h3
    clear hp0 h2 h3 e1 h1
    go_enter Tryz.func33, Tryz.ntmps33
    go_wp2_with fail
    go_ret
    exact ⟨rfl, Ext.refl _⟩
   ·have HRES : Hid (r = if firstFrom p 0 ≠ 0 then firstFrom p 0 else if allFrom p 0 = true then 0 else 1) := by
     unfold Hid
     rw [← HR.out, ← firstFrom_zero, ← allFrom_zero]
     unfold progErr
     rw [if_neg h1, if_neg h2, e1, if_neg h3]
    have T3 : (p[0].args != 0) = false := by rw [bne_eq_false_iff_eq]; exact Decidable.byContradiction h3
    clear hp0 h2 h3 e1 HR h1
    go_enter Tryz.func33, Tryz.ntmps33
    go_wp2_with fail
    go_loopw [24] (fun q wr => ∃ k : Nat, k ≤ p.length ∧ q = .int .i64 k ∧ Ext w wr ∧ firstFrom p k = firstFrom p 0) (fun q _ => p.length - (intOf q).toNat)
    case atStart => exact ⟨0, Nat.zero_le _, rfl, Ext.refl _, rfl⟩
    case round =>
     obtain ⟨k, hk, rfl, hb, hff⟩ := hrel
     have HB := Lib.hid hb
     have HFF := Lib.hid hff
     clear hb hff
     by_cases hlt : k < p.length
     ·obtain ⟨e, he⟩ : ∃ e, funcErr p k = e := ⟨_, rfl⟩
      have HE := Lib.hid he
      have HST := Lib.hid (firstFrom_step p hlt)
      clear he
      by_cases hz : e = 0
      ·subst hz
       go_wp2_with (first
        | (go_at_call 57; (with_reducible refine (check_any p _ S k _ (Funcs.stays (Ext.stays HB.out) HP.out)).mono ?_); rintro e w1 ⟨rfl, hb1⟩; rw [HE.out]))
       go_roundw
       case rel => exact ⟨k + 1, by omega, by go_num, HB.out.trans hb1, by rw [← HFF.out, HST.out, if_neg (fun h => h HE.out)]⟩
       case measure => simp [intOf]; omega
      ·have TE : (e != 0) = true := bne_iff_ne.2 hz
       have hres : r = e := by
        rw [HRES.out, ← HFF.out, HST.out, HE.out, if_pos hz, if_pos hz]
       subst hres
       clear hz
       go_wp2_with (first
        | (go_at_call 57; (with_reducible refine (check_any p _ S k _ (Funcs.stays (Ext.stays HB.out) HP.out)).mono ?_); rintro e w1 ⟨rfl, hb1⟩; rw [HE.out]))
       go_ret
       exact ⟨rfl, HB.out.trans hb1⟩
     ·obtain rfl : k = p.length := by omega
      have HZ : Hid (firstFrom p 0 = 0) := by
       unfold Hid
       rw [← HFF.out, firstFrom_end]
      clear hlt HFF
      rename World => wr1
      go_wp2_with fail
      go_loopw [36] (fun q wr => ∃ k : Nat, k ≤ p.length ∧ q = .int .i64 k ∧ Ext w wr ∧ allFrom p k = allFrom p 0) (fun q _ => p.length - (intOf q).toNat)
      case atStart => exact ⟨0, Nat.zero_le _, rfl, HB.out, rfl⟩
      case round =>
       obtain ⟨k, hk, rfl, hb, hff⟩ := hrel
       have HB2 := Lib.hid hb
       have HFF := Lib.hid hff
       clear hb hff HB
       by_cases hlt : k < p.length
       ·have hfe := firstFrom_nil _ 0 rfl HZ.out k (Nat.zero_le _) hlt
        obtain ⟨hg, hR⟩ := hts_at hfe hlt
        have HST := Lib.hid (allFrom_step p hlt)
        rw [hg] at HST
        clear hfe hg
        cases hh : hts p p[k].code with
        | none =>
         have HH := Lib.hid hh
         have hres : r = 1 := by
          rw [HRES.out, HZ.out, if_neg (fun h => h rfl), ← HFF.out, HST.out, hh]
          rfl
         subst hres
         clear hh
         go_wp2_with (first
          | (go_at_call 58; (with_reducible refine (flowOf_any p _ S k _ (Funcs.stays (Ext.stays HB2.out) HP.out) hlt hR).mono ?_); rintro e w2 ⟨hr, hb2⟩; rw [HH.out] at hr; obtain rfl := hr))
         go_ret
         exact ⟨rfl, HB2.out.trans hb2⟩
        | some l =>
         have HH := Lib.hid hh
         clear hh
         go_wp2_with (first
          | (go_at_call 58; (with_reducible refine (flowOf_any p _ S k _ (Funcs.stays (Ext.stays HB2.out) HP.out) hlt hR).mono ?_); rintro e w2 ⟨hr, hb2⟩; rw [HH.out] at hr; obtain ⟨vl, rfl, hl⟩ := hr; obtain ⟨al, cl, rfl, _, _, _⟩ := (⟨hl, trivial⟩ : _ ∧ True).1))
         go_roundw
         case rel => exact ⟨k + 1, by omega, by go_num, HB2.out.trans hb2, by rw [← HFF.out, HST.out, HH.out]; rfl⟩
         case measure => simp [intOf]; omega
       ·obtain rfl : k = p.length := by omega
        have hres : r = 0 := by
         rw [HRES.out, HZ.out, if_neg (fun h => h rfl), ← HFF.out, allFrom_end]
         rfl
        subst hres
        clear hlt HFF
        go_wp2_with fail
        go_ret
        exact ⟨rfl, HB2.out⟩
theorem progError_any (p : List GFunc) (v : Value) (S : Nat → Prop) (w : World) (hp : Funcs w S v p) :
  Calls Tryz.prog 20 #[v] w fun e w' => e = .returned (.int .i64 (progErr p)) ∧ Ext w w' := by
 have HP := Lib.hid hp
 obtain ⟨r, hr⟩ : ∃ r, progErr p = r := ⟨_, rfl⟩
 rw [hr]
 have HR := Lib.hid hr
 clear hr
 have hp0 := hp
 obtain ⟨a, cap, rfl, hcap, hby, _⟩ := hp
 by_cases h1 : 5 < p.length
 ·have hres : r = 2 := by rw [← HR.out]; unfold progErr; rw [if_pos h1]
  subst hres
  clear hp0
  go_enter Tryz.func20, Tryz.ntmps20
  go_wp2_with fail
  go_ret
  exact ⟨rfl, Ext.refl _⟩
 ·by_cases h2 : p.length = 0
  ·have hres : r = 5 := by rw [← HR.out]; unfold progErr; rw [if_neg h1, if_pos h2]
   subst hres
   have TZ : ((p.length : Int) == 0) = true := by simp [h2]
   clear hp0 h2
   go_enter Tryz.func20, Tryz.ntmps20
   go_wp2_with fail
   go_ret
   exact ⟨rfl, Ext.refl _⟩
  ·have hpos : 0 < p.length := by omega
   have TZ : ((p.length : Int) == 0) = false := beq_eq_false_iff_ne.2 (by omega)
   have h5 : p.length ≤ 5 := by omega
   obtain ⟨b, o, cap', e0, _, _, ⟨_, x0, _⟩, _, _⟩ := hp0.get hpos
   simp only [Value.slice.injEq] at e0
   obtain ⟨rfl, -, rfl⟩ := e0
   rw [Nat.zero_mul, Nat.add_zero] at x0
   have e1 : p.getD 0 default = p[0] := by simp [List.getD, List.getElem?_eq_getElem hpos]
   by_cases h3 : p[0].args ≠ 0
   ·have hres : r = 1 := by rw [← HR.out]; unfold progErr; rw [if_neg h1, if_neg h2, e1, if_pos h3]
    subst hres
    have T3 : (p[0].args != 0) = true := bne_iff_ne.2 h3
    clear hp0 h2 h3 e1 h1
    go_enter Tryz.func20, Tryz.ntmps20
    go_wp2_with fail
    go_ret
    exact ⟨rfl, Ext.refl _⟩
   ·have HRES : Hid (r = if firstFrom p 0 ≠ 0 then firstFrom p 0 else if allFrom p 0 = true then 0 else 1) := by
     unfold Hid
     rw [← HR.out, ← firstFrom_zero, ← allFrom_zero]
     unfold progErr
     rw [if_neg h1, if_neg h2, e1, if_neg h3]
    have T3 : (p[0].args != 0) = false := by rw [bne_eq_false_iff_eq]; exact Decidable.byContradiction h3
    clear hp0 h2 h3 e1 HR h1
    go_enter Tryz.func20, Tryz.ntmps20
    go_wp2_with fail
    go_loopw [3] (fun q wr => ∃ k : Nat, k ≤ p.length ∧ q = .int .i64 k ∧ Ext w wr ∧ firstFrom p k = firstFrom p 0) (fun q _ => p.length - (intOf q).toNat)
    case atStart => exact ⟨0, Nat.zero_le _, rfl, Ext.refl _, rfl⟩
    case round =>
     obtain ⟨k, hk, rfl, hb, hff⟩ := hrel
     have HB := Lib.hid hb
     have HFF := Lib.hid hff
     clear hb hff
     by_cases hlt : k < p.length
     ·obtain ⟨e, he⟩ : ∃ e, funcErr p k = e := ⟨_, rfl⟩
      have HE := Lib.hid he
      have HST := Lib.hid (firstFrom_step p hlt)
      clear he
      by_cases hz : e = 0
      ·subst hz
       go_wp2_with (first
        | (go_at_call 46; (with_reducible refine (funcError_any p _ S k _ (Funcs.stays (Ext.stays HB.out) HP.out)).mono ?_); rintro e w1 ⟨rfl, hb1⟩; rw [HE.out]))
       go_roundw
       case rel => exact ⟨k + 1, by omega, by go_num, HB.out.trans hb1, by rw [← HFF.out, HST.out, if_neg (fun h => h HE.out)]⟩
       case measure => simp [intOf]; omega
      ·have TE : (e != 0) = true := bne_iff_ne.2 hz
       have hres : r = e := by
        rw [HRES.out, ← HFF.out, HST.out, HE.out, if_pos hz, if_pos hz]
       subst hres
       clear hz
       go_wp2_with (first
        | (go_at_call 46; (with_reducible refine (funcError_any p _ S k _ (Funcs.stays (Ext.stays HB.out) HP.out)).mono ?_); rintro e w1 ⟨rfl, hb1⟩; rw [HE.out]))
       go_ret
       exact ⟨rfl, HB.out.trans hb1⟩
     ·obtain rfl : k = p.length := by omega
      have HZ : Hid (firstFrom p 0 = 0) := by
       unfold Hid
       rw [← HFF.out, firstFrom_end]
      clear hlt HFF
      rename World => wr1
      go_wp2_with fail
      go_loopw [5] (fun q wr => ∃ k : Nat, k ≤ p.length ∧ q = .int .i64 k ∧ Ext w wr ∧ allFrom p k = allFrom p 0) (fun q _ => p.length - (intOf q).toNat)
      case atStart => exact ⟨0, Nat.zero_le _, rfl, HB.out, rfl⟩
      case round =>
       obtain ⟨k, hk, rfl, hb, hff⟩ := hrel
       have HB2 := Lib.hid hb
       have HFF := Lib.hid hff
       clear hb hff HB
       by_cases hlt : k < p.length
       ·have hfe := firstFrom_nil _ 0 rfl HZ.out k (Nat.zero_le _) hlt
        obtain ⟨hg, hR⟩ := hts_at hfe hlt
        have HST := Lib.hid (allFrom_step p hlt)
        rw [hg] at HST
        clear hfe hg
        cases hh : hts p p[k].code with
        | none =>
         have HH := Lib.hid hh
         have hres : r = 1 := by
          rw [HRES.out, HZ.out, if_neg (fun h => h rfl), ← HFF.out, HST.out, hh]
          rfl
         subst hres
         clear hh
         go_wp2_with (first
          | (go_at_call 47; (with_reducible refine (heights_any p _ S k _ (Funcs.stays (Ext.stays HB2.out) HP.out) hlt hR).mono ?_); rintro e w2 ⟨hr, hb2⟩; rw [htsR_eq hR.jumps, HH.out] at hr; obtain rfl := hr))
         go_ret
         exact ⟨rfl, HB2.out.trans hb2⟩
        | some l =>
         have HH := Lib.hid hh
         clear hh
         go_wp2_with (first
          | (go_at_call 47; (with_reducible refine (heights_any p _ S k _ (Funcs.stays (Ext.stays HB2.out) HP.out) hlt hR).mono ?_); rintro e w2 ⟨hr, hb2⟩; rw [htsR_eq hR.jumps, HH.out] at hr; obtain ⟨vl, rfl, hl⟩ := hr; obtain ⟨al, cl, rfl, _, _, _⟩ := (⟨hl, trivial⟩ : _ ∧ True).1))
         go_roundw
         case rel => exact ⟨k + 1, by omega, by go_num, HB2.out.trans hb2, by rw [← HFF.out, HST.out, HH.out]; rfl⟩
         case measure => simp [intOf]; omega
       ·obtain rfl : k = p.length := by omega
        have hres : r = 0 := by
         rw [HRES.out, HZ.out, if_neg (fun h => h rfl), ← HFF.out, allFrom_end]
         rfl
        subst hres
        clear hlt HFF
        go_wp2_with fail
        go_ret
        exact ⟨rfl, HB2.out⟩
end Go.Proofs.YtgahbngbpfilgaaGreat
end
