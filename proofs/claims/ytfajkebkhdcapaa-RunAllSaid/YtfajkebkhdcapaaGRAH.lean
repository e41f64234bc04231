/- Merged texts: contracts and plain facts, one part behind another; each part begins with what it says. -/
import Derived.Test.YtfajkebkhdcapaaGRAC
import Derived.Test.YtfajkebkhdcapaaGRAD
import Derived.Test.YtfajkebkhdcapaaGRAE
import Derived.Test.YtfajkebkhdcapaaGRAF
import Derived.Test.YtfajkebkhdcapaaGRAG
import Derived.Laws.ResultCell
section
/- Plain data: the frames of a right state. No program in sight; no condition. -/
set_option maxHeartbeats 1000000
namespace Go.Proofs.Ytfajkebkhdcapaa
open Go Go.RowKit

/-- What holds of each frame of a right state. -/
structure FrameF (p : List GFunc) (x : GFrame) : Prop where
  func : 0 ≤ x.func ∧ x.func < p.length
  locals : (x.locals.length : Int) = (funcOf p x.func).locals
  at_ : 0 ≤ x.at_ ∧ x.at_ < (funcOf p x.func).code.length
  stack : x.stack.length ≤ 8

theorem right_hf {p : List GFunc} (h : RightP p) {f : Int} (h0 : 0 ≤ f) (h1 : f < p.length) : RightF p (funcOf p f) ∧ HFacts p (funcOf p f).code (hgt p f) := by
  have hf : f.toNat < p.length := by omega
  have e : funcOf p f = p[f.toNat] := by unfold funcOf; simp [List.getD, List.getElem?_eq_getElem hf]
  have hr : RightF p (funcOf p f) := by
    rw [e]
    have e0 : ((f.toNat : Nat) : Int) = f := by omega
    have := h.func f.toNat hf
    rw [e0] at this
    exact (funcErr_zero this).2.2 hf
  refine ⟨hr, ?_⟩
  have hs := h.hts f.toNat hf
  unfold hgt
  have e2 : p.getD f.toNat default = funcOf p f := rfl
  rw [e2] at hs ⊢
  cases hh : hts p (funcOf p f).code with
  | none => rw [hh] at hs; cases hs
  | some l => exact hfacts hr hh

theorem frameB_facts {p : List GFunc} {x : GFrame} (h : frameB p x = true) : (0 ≤ x.func ∧ x.func < p.length) ∧ (x.locals.length : Int) = (funcOf p x.func).locals ∧ (0 ≤ x.at_ ∧ x.at_ < (funcOf p x.func).code.length) ∧ 0 ≤ (hgt p x.func).getD x.at_.toNat 0 := by
  unfold frameB at h
  simp only [Bool.and_eq_true, decide_eq_true_eq] at h
  exact ⟨h.1.1.1, h.1.1.2, h.1.2, h.2⟩
theorem waitB_stack {p : List GFunc} {x : GFrame} {k a : Int} (h : waitB p x k a = true) : (x.stack.length : Int) = (hgt p x.func).getD x.at_.toNat 0 - 1 := by
  unfold waitB at h
  simp only [Bool.and_eq_true, decide_eq_true_eq] at h
  exact h.1.2

theorem RightS.onF {p : List GFunc} {s : GState} {l : List Int} (h : RightS p s l) {k j : Nat} (hk : k < s.fibers.length) (hj : j < (s.fibers.getD k default).frames.length) :
    onB p (s.fibers.getD k default).frames j = true ∧ topB p (s.fibers.getD k default) (decide ((k : Int) ∈ l)) (decide ((k : Int) = s.now)) ((s.fibers.getD k default).frames.getD ((s.fibers.getD k default).frames.length - 1) default) = true := by
  have hb := h.fib k hk
  unfold fibK at hb
  rw [Bool.and_eq_true] at hb
  have hb := hb.1
  unfold fiberB at hb
  rw [if_neg (by omega), Bool.and_eq_true] at hb
  exact ⟨allK_of hb.1 j hj, hb.2⟩

theorem RightS.frameF {p : List GFunc} {s : GState} {l : List Int} (h : RightS p s l) {k j : Nat} (hk : k < s.fibers.length) (hj : j < (s.fibers.getD k default).frames.length) :
    FrameF p ((s.fibers.getD k default).frames.getD j default) := by
  obtain ⟨ho, ht⟩ := h.onF hk hj
  have hP := progErr_zero h.prog
  generalize s.fibers.getD k default = f at *
  unfold onB at ho
  rw [Bool.and_eq_true] at ho
  obtain ⟨ho1, ho2⟩ := ho
  obtain ⟨f1, f2, f3, f4⟩ := frameB_facts ho1
  refine ⟨f1, f2, f3, ?_⟩
  have hh := (right_hf hP f1.1 f1.2).2.hi (f.frames.getD j default).at_.toNat (by omega)
  by_cases hl : j + 1 < f.frames.length
  · rw [decide_eq_true hl] at ho2
    simp only [Bool.not_true, Bool.false_or, Bool.and_eq_true] at ho2
    have := waitB_stack ho2.2
    omega
  · obtain rfl : j = f.frames.length - 1 := by omega
    unfold topB at ht
    split at ht
    · unfold fullB at ht
      have := of_decide_eq_true ht
      omega
    · split at ht
      · have := waitB_stack ht; omega
      · rw [Bool.and_eq_true, Bool.or_eq_true] at ht
        rcases ht.2 with h2 | h2
        · unfold freshB at h2
          simp only [Bool.and_eq_true, decide_eq_true_eq] at h2
          have e1 : f.frames.length - 1 = 0 := by omega
          rw [e1]
          have := h2.1.2
          omega
        · have := waitB_stack h2; omega

/-- The fiber that runs: its topmost frame's op has no error and takes what lies there. -/
theorem RightS.nowF {p : List GFunc} {s : GState} {l : List Int} (h : RightS p s l) {k : Nat} (hn : s.now = k) :
    k < s.fibers.length ∧ 0 < (s.fibers.getD k default).frames.length ∧
    ∀ x, x = (s.fibers.getD k default).frames.getD ((s.fibers.getD k default).frames.length - 1) default →
      FrameF p x ∧ ∀ o, o = (funcOf p x.func).code.getD x.at_.toNat default → effErr p o = 0 ∧ effTakes p o ≤ x.stack.length := by
  have hL := h.lineF
  obtain ⟨hl, hd⟩ := hL.head (by omega)
  have hin : s.now ∈ l := by rw [← hd]; simp [List.getD, List.getElem?_eq_getElem hl]
  have hk : k < s.fibers.length := by have := hL.range _ hin; omega
  have hpos : 0 < (s.fibers.getD k default).frames.length := by
    have hb := h.fib k hk
    unfold fibK at hb
    rw [Bool.and_eq_true] at hb
    have hb := hb.1
    unfold fiberB at hb
    by_cases h0 : (s.fibers.getD k default).frames.length = 0
    · rw [if_pos h0, decide_eq_true (by rw [← hn]; exact hin)] at hb
      cases hb
    · omega
  refine ⟨hk, hpos, fun x hx => ?_⟩
  have hF := h.frameF hk (j := (s.fibers.getD k default).frames.length - 1) (by omega)
  obtain ⟨_, ht⟩ := h.onF hk (j := (s.fibers.getD k default).frames.length - 1) (by omega)
  rw [← hx] at hF ht
  refine ⟨hF, fun o ho => ?_⟩
  obtain ⟨hr, hh⟩ := right_hf (progErr_zero h.prog) hF.func.1 hF.func.2
  have ha : x.at_.toNat < (funcOf p x.func).code.length := by have := hF.at_; omega
  have e : o = (funcOf p x.func).code[x.at_.toNat] := by rw [ho]; simp [List.getD, List.getElem?_eq_getElem ha]
  obtain ⟨r1, r2, _⟩ := eff_right hr (x := o) (by rw [e]; exact List.getElem_mem ha)
  refine ⟨r1, ?_⟩
  have hf : fullB p x = true := by
    unfold topB at ht
    rw [if_pos (by rw [hn]; exact decide_eq_true rfl)] at ht
    exact ht
  unfold fullB at hf
  have hf := of_decide_eq_true hf
  have h0 : 0 ≤ (hgt p x.func).getD x.at_.toNat 0 := by omega
  have := (hh.thru _ ha h0).1
  rw [← e] at this
  rw [r2]
  omega
end Go.Proofs.Ytfajkebkhdcapaa
end
section
/- A made row of ints; a slice of one; a box of three cells. No condition. -/
set_option maxHeartbeats 400000
namespace Go.Proofs.Ytfajkebkhdcapaa
open Go Go.RowKit

theorem IRow.made {w : World} {base : Nat} {e : TypeId} {g n : Nat} (h : w.ownsRow base e 1 (.slice (some ⟨g, 0, none⟩) n n) n (madeCells (Value.int .i64 0).cells (n * 1)).toList) : IRow w base g (List.replicate n 0) := by
  have := RowAt.of_own h
  unfold IRow
  rw [List.length_replicate]
  rw [show (Value.int .i64 0).cells = #[.int .i64 0] from rfl, toList_madeCells_one, Nat.mul_one] at this
  rwa [show Proofs.Ytfajkebkhdcapaa.ints (List.replicate n 0) = List.replicate n (Value.int .i64 0) by simp [Proofs.Ytfajkebkhdcapaa.ints]]

theorem Sl.one {α : Type} {E : Nat → Nat → α → Prop} {sz bytes b o : Nat} {y : α} (h : E b o y) (hb : bytes ≤ 1000) : Sl E sz bytes (.slice (some ⟨b, o, none⟩) 1 1) [y] := by
  refine ⟨_, 1, rfl, Nat.le_refl _, ⟨by simp; omega, by decide⟩, fun i hi => ⟨b, o, rfl, ?_⟩⟩
  have : i = 0 := by simpa using hi
  subst this
  rw [Nat.zero_mul, Nat.add_zero]
  exact h
/-- The result box's three cells, stored. -/
theorem box3 {W : World} {b : Nat} {u0 u1 u2 : Value} (h0 : Cx W b 0 u0) (h1 : Cx W b 1 u1) (h2 : Cx W b 2 u2) (x y z : Value) :
    (((W.setCell ⟨b, 0, none⟩ x).setCell ⟨b, 1, none⟩ y).setCell ⟨b, 2, none⟩ z).rangeAt b 0 [x, y, z] :=
  range3 (((h0.set x).other (.inr (by decide)) y).other (.inr (by decide)) z).1 (((h1.other (.inr (by decide)) x).set y).other (.inr (by decide)) z).1 (((h2.other (.inr (by decide)) x).other (.inr (by decide)) y).set z).1
theorem chg3 (W : World) (b : Nat) (x y z : Value) : Chg (· = b) W (((W.setCell ⟨b, 0, none⟩ x).setCell ⟨b, 1, none⟩ y).setCell ⟨b, 2, none⟩ z) := ((chg_one _ _ 0 _).trans (chg_one _ _ 1 _)).trans (chg_one _ _ 2 _)
theorem ext3 {w W : World} (h : Ext w W) (x y z : Value) : Ext w (((W.setCell ⟨w.heap.size, 0, none⟩ x).setCell ⟨w.heap.size, 1, none⟩ y).setCell ⟨w.heap.size, 2, none⟩ z) :=
  ((h.setCell (p := ⟨w.heap.size, 0, none⟩) (Nat.le_refl _) _).setCell (p := ⟨w.heap.size, 1, none⟩) (Nat.le_refl _) _).setCell (p := ⟨w.heap.size, 2, none⟩) (Nat.le_refl _) _
theorem results_cell2 {P : Program} {fn : Func} {p u : Tmp} {ty : TypeId} (h : fn.results = #[.cell p ty, .tmp u]) (tmps : Array Value) (w : World) (b o : Nat) (cs : List Value) (d : TypeDesc)
    (hp : tmps.getD p undef = .pointer (some ⟨b, o, none⟩)) (hc : w.rangeAt b o cs) (hu : P.underlying ty = some d) (hd : d.isRow = true) (hi : (P.info? ty).map (·.size) = some cs.length) :
    (results fn tmps).run P w = .ok (.tuple #[.agg cs.toArray, tmps.getD u undef]) w := by
  rw [results_cell_tmp h]
  have hp' : tmps[p]?.getD undef = .pointer (some ⟨b, o, none⟩) := by simpa using hp
  simp [hp', asAddr, run_loadVar_mid w b o ty cs d hc hu hd hi, Result.andThen]
end Go.Proofs.Ytfajkebkhdcapaa
end
section
/- Contracts of prog.Check and the document's ProgError. -/
set_option maxHeartbeats 2000000
set_option maxRecDepth 100000
namespace Go.Proofs.Ytfajkebkhdcapaa
open Go Go.RowKit

theorem hts_at {p : List GFunc} {k : Nat} (h : funcErr p k = 0) (hk : k < p.length) : p.getD k default = p[k] ∧ RightF p p[k] := by
  obtain ⟨n, hn, e, hg, hR⟩ := hts_here h
  obtain rfl : k = n := by omega
  exact ⟨by simpa using hg, hR⟩

theorem progCheck_any (p : List GFunc) (v : Value) (S : Nat → Prop) (w : World) (hp : Funcs w S v p) :
    Calls Try.prog 24 #[v] w fun e w' => e = .returned (.int .i64 (progErr p)) ∧ Ext w w' := by
  have HP := Lib.hid hp
  obtain ⟨r, hr⟩ : ∃ r, progErr p = r := ⟨_, rfl⟩
  rw [hr]
  have HR := Lib.hid hr
  clear hr
  have hp0 := hp
  obtain ⟨a, cap, rfl, hcap, hby, _⟩ := hp
  by_cases h1 : 5 < p.length
  · have hres : r = 2 := by rw [← HR.out]; unfold progErr; rw [if_pos h1]
    subst hres
    clear hp0
    go_enter Try.func24, Try.ntmps24
    go_wp2_with fail
    go_ret
    exact ⟨rfl, Ext.refl _⟩
  · by_cases h2 : p.length = 0
    · have hres : r = 5 := by rw [← HR.out]; unfold progErr; rw [if_neg h1, if_pos h2]
      subst hres
      have TZ : ((p.length : Int) == 0) = true := by simp [h2]
      clear hp0 h2
      go_enter Try.func24, Try.ntmps24
      go_wp2_with fail
      go_ret
      exact ⟨rfl, Ext.refl _⟩
    · have hpos : 0 < p.length := by omega
      have TZ : ((p.length : Int) == 0) = false := beq_eq_false_iff_ne.2 (by omega)
      have h5 : p.length ≤ 5 := by omega
      obtain ⟨b, o, cap', e0, _, _, ⟨_, x0, _⟩, _, _⟩ := hp0.get hpos
      simp only [Value.slice.injEq] at e0
      obtain ⟨rfl, -, rfl⟩ := e0
      rw [Nat.zero_mul, Nat.add_zero] at x0
      have e1 : p.getD 0 default = p[0] := by simp [List.getD, List.getElem?_eq_getElem hpos]
      by_cases h3 : p[0].args ≠ 0
      · have hres : r = 1 := by rw [← HR.out]; unfold progErr; rw [if_neg h1, if_neg h2, e1, if_pos h3]
        subst hres
        have T3 : (p[0].args != 0) = true := bne_iff_ne.2 h3
        clear hp0 h2 h3 e1 h1
        go_enter Try.func24, Try.ntmps24
        go_wp2_with fail
        go_ret
        exact ⟨rfl, Ext.refl _⟩
      · have HRES : Hid (r = if firstFrom p 0 ≠ 0 then firstFrom p 0 else if allFrom p 0 = true then 0 else 1) := by
          unfold Hid
          rw [← HR.out, ← firstFrom_zero, ← allFrom_zero]
          unfold progErr
          rw [if_neg h1, if_neg h2, e1, if_neg h3]
        have T3 : (p[0].args != 0) = false := by rw [bne_eq_false_iff_eq]; exact Decidable.byContradiction h3
        clear hp0 h2 h3 e1 HR h1
        go_enter Try.func24, Try.ntmps24
        go_wp2_with fail
        go_loopw [24] (fun q wr => ∃ k : Nat, k ≤ p.length ∧ q = .int .i64 k ∧ Ext w wr ∧ firstFrom p k = firstFrom p 0) (fun q _ => p.length - (intOf q).toNat)
        case atStart => exact ⟨0, Nat.zero_le _, rfl, Ext.refl _, rfl⟩
        case round =>
          obtain ⟨k, hk, rfl, hb, hff⟩ := hrel
          have HB := Lib.hid hb
          have HFF := Lib.hid hff
          clear hb hff
          by_cases hlt : k < p.length
          · obtain ⟨e, he⟩ : ∃ e, funcErr p k = e := ⟨_, rfl⟩
            have HE := Lib.hid he
            have HST := Lib.hid (firstFrom_step p hlt)
            clear he
            by_cases hz : e = 0
            · subst hz
              go_wp2_with (first
                | (go_at_call 42; (with_reducible refine (check_any p _ S k _ (Funcs.stays (Ext.stays HB.out) HP.out)).mono ?_); rintro e w1 ⟨rfl, hb1⟩; rw [HE.out]))
              go_roundw
              case rel => exact ⟨k + 1, by omega, by go_num, HB.out.trans hb1, by rw [← HFF.out, HST.out, if_neg (fun h => h HE.out)]⟩
              case measure => simp [intOf]; omega
            · have TE : (e != 0) = true := bne_iff_ne.2 hz
              have hres : r = e := by
                rw [HRES.out, ← HFF.out, HST.out, HE.out, if_pos hz, if_pos hz]
              subst hres
              clear hz
              go_wp2_with (first
                | (go_at_call 42; (with_reducible refine (check_any p _ S k _ (Funcs.stays (Ext.stays HB.out) HP.out)).mono ?_); rintro e w1 ⟨rfl, hb1⟩; rw [HE.out]))
              go_ret
              exact ⟨rfl, HB.out.trans hb1⟩
          · obtain rfl : k = p.length := by omega
            have HZ : Hid (firstFrom p 0 = 0) := by
              unfold Hid
              rw [← HFF.out, firstFrom_end]
            clear hlt HFF
            rename World => wr1
            go_wp2_with fail
            go_loopw [36] (fun q wr => ∃ k : Nat, k ≤ p.length ∧ q = .int .i64 k ∧ Ext w wr ∧ allFrom p k = allFrom p 0) (fun q _ => p.length - (intOf q).toNat)
            case atStart => exact ⟨0, Nat.zero_le _, rfl, HB.out, rfl⟩
            case round =>
              obtain ⟨k, hk, rfl, hb, hff⟩ := hrel
              have HB2 := Lib.hid hb
              have HFF := Lib.hid hff
              clear hb hff HB
              by_cases hlt : k < p.length
              · have hfe := firstFrom_nil _ 0 rfl HZ.out k (Nat.zero_le _) hlt
                obtain ⟨hg, hR⟩ := hts_at hfe hlt
                have HST := Lib.hid (allFrom_step p hlt)
                rw [hg] at HST
                clear hfe hg
                cases hh : hts p p[k].code with
                | none =>
                  have HH := Lib.hid hh
                  have hres : r = 1 := by
                    rw [HRES.out, HZ.out, if_neg (fun h => h rfl), ← HFF.out, HST.out, hh]
                    rfl
                  subst hres
                  clear hh
                  go_wp2_with (first
                    | (go_at_call 43; (with_reducible refine (flowOf_any p _ S k _ (Funcs.stays (Ext.stays HB2.out) HP.out) hlt hR).mono ?_); rintro e w2 ⟨hr, hb2⟩; rw [HH.out] at hr; obtain rfl := hr))
                  go_ret
                  exact ⟨rfl, HB2.out.trans hb2⟩
                | some l =>
                  have HH := Lib.hid hh
                  clear hh
                  go_wp2_with (first
                    | (go_at_call 43; (with_reducible refine (flowOf_any p _ S k _ (Funcs.stays (Ext.stays HB2.out) HP.out) hlt hR).mono ?_); rintro e w2 ⟨hr, hb2⟩; rw [HH.out] at hr; obtain ⟨vl, rfl, hl⟩ := hr; obtain ⟨al, cl, rfl, _, _, _⟩ := (⟨hl, trivial⟩ : _ ∧ True).1))
                  go_roundw
                  case rel => exact ⟨k + 1, by omega, by go_num, HB2.out.trans hb2, by rw [← HFF.out, HST.out, HH.out]; rfl⟩
                  case measure => simp [intOf]; omega
              · obtain rfl : k = p.length := by omega
                have hres : r = 0 := by
                  rw [HRES.out, HZ.out, if_neg (fun h => h rfl), ← HFF.out, allFrom_end]
                  rfl
                subst hres
                clear hlt HFF
                go_wp2_with fail
                go_ret
                exact ⟨rfl, HB2.out⟩
theorem progError_any (p : List GFunc) (v : Value) (S : Nat → Prop) (w : World) (hp : Funcs w S v p) :
    Calls Try.prog 39 #[v] w fun e w' => e = .returned (.int .i64 (progErr p)) ∧ Ext w w' := by
  have HP := Lib.hid hp
  obtain ⟨r, hr⟩ : ∃ r, progErr p = r := ⟨_, rfl⟩
  rw [hr]
  have HR := Lib.hid hr
  clear hr
  have hp0 := hp
  obtain ⟨a, cap, rfl, hcap, hby, _⟩ := hp
  by_cases h1 : 5 < p.length
  · have hres : r = 2 := by rw [← HR.out]; unfold progErr; rw [if_pos h1]
    subst hres
    clear hp0
    go_enter Try.func39, Try.ntmps39
    go_wp2_with fail
    go_ret
    exact ⟨rfl, Ext.refl _⟩
  · by_cases h2 : p.length = 0
    · have hres : r = 5 := by rw [← HR.out]; unfold progErr; rw [if_neg h1, if_pos h2]
      subst hres
      have TZ : ((p.length : Int) == 0) = true := by simp [h2]
      clear hp0 h2
      go_enter Try.func39, Try.ntmps39
      go_wp2_with fail
      go_ret
      exact ⟨rfl, Ext.refl _⟩
    · have hpos : 0 < p.length := by omega
      have TZ : ((p.length : Int) == 0) = false := beq_eq_false_iff_ne.2 (by omega)
      have h5 : p.length ≤ 5 := by omega
      obtain ⟨b, o, cap', e0, _, _, ⟨_, x0, _⟩, _, _⟩ := hp0.get hpos
      simp only [Value.slice.injEq] at e0
      obtain ⟨rfl, -, rfl⟩ := e0
      rw [Nat.zero_mul, Nat.add_zero] at x0
      have e1 : p.getD 0 default = p[0] := by simp [List.getD, List.getElem?_eq_getElem hpos]
      by_cases h3 : p[0].args ≠ 0
      · have hres : r = 1 := by rw [← HR.out]; unfold progErr; rw [if_neg h1, if_neg h2, e1, if_pos h3]
        subst hres
        have T3 : (p[0].args != 0) = true := bne_iff_ne.2 h3
        clear hp0 h2 h3 e1 h1
        go_enter Try.func39, Try.ntmps39
        go_wp2_with fail
        go_ret
        exact ⟨rfl, Ext.refl _⟩
      · have HRES : Hid (r = if firstFrom p 0 ≠ 0 then firstFrom p 0 else if allFrom p 0 = true then 0 else 1) := by
          unfold Hid
          rw [← HR.out, ← firstFrom_zero, ← allFrom_zero]
          unfold progErr
          rw [if_neg h1, if_neg h2, e1, if_neg h3]
        have T3 : (p[0].args != 0) = false := by rw [bne_eq_false_iff_eq]; exact Decidable.byContradiction h3
        clear hp0 h2 h3 e1 HR h1
        go_enter Try.func39, Try.ntmps39
        go_wp2_with fail
        go_loopw [3] (fun q wr => ∃ k : Nat, k ≤ p.length ∧ q = .int .i64 k ∧ Ext w wr ∧ firstFrom p k = firstFrom p 0) (fun q _ => p.length - (intOf q).toNat)
        case atStart => exact ⟨0, Nat.zero_le _, rfl, Ext.refl _, rfl⟩
        case round =>
          obtain ⟨k, hk, rfl, hb, hff⟩ := hrel
          have HB := Lib.hid hb
          have HFF := Lib.hid hff
          clear hb hff
          by_cases hlt : k < p.length
          · obtain ⟨e, he⟩ : ∃ e, funcErr p k = e := ⟨_, rfl⟩
            have HE := Lib.hid he
            have HST := Lib.hid (firstFrom_step p hlt)
            clear he
            by_cases hz : e = 0
            · subst hz
              go_wp2_with (first
                | (go_at_call 54; (with_reducible refine (funcError_any p _ S k _ (Funcs.stays (Ext.stays HB.out) HP.out)).mono ?_); rintro e w1 ⟨rfl, hb1⟩; rw [HE.out]))
              go_roundw
              case rel => exact ⟨k + 1, by omega, by go_num, HB.out.trans hb1, by rw [← HFF.out, HST.out, if_neg (fun h => h HE.out)]⟩
              case measure => simp [intOf]; omega
            · have TE : (e != 0) = true := bne_iff_ne.2 hz
              have hres : r = e := by
                rw [HRES.out, ← HFF.out, HST.out, HE.out, if_pos hz, if_pos hz]
              subst hres
              clear hz
              go_wp2_with (first
                | (go_at_call 54; (with_reducible refine (funcError_any p _ S k _ (Funcs.stays (Ext.stays HB.out) HP.out)).mono ?_); rintro e w1 ⟨rfl, hb1⟩; rw [HE.out]))
              go_ret
              exact ⟨rfl, HB.out.trans hb1⟩
          · obtain rfl : k = p.length := by omega
            have HZ : Hid (firstFrom p 0 = 0) := by
              unfold Hid
              rw [← HFF.out, firstFrom_end]
            clear hlt HFF
            rename World => wr1
            go_wp2_with fail
            go_loopw [5] (fun q wr => ∃ k : Nat, k ≤ p.length ∧ q = .int .i64 k ∧ Ext w wr ∧ allFrom p k = allFrom p 0) (fun q _ => p.length - (intOf q).toNat)
            case atStart => exact ⟨0, Nat.zero_le _, rfl, HB.out, rfl⟩
            case round =>
              obtain ⟨k, hk, rfl, hb, hff⟩ := hrel
              have HB2 := Lib.hid hb
              have HFF := Lib.hid hff
              clear hb hff HB
              by_cases hlt : k < p.length
              · have hfe := firstFrom_nil _ 0 rfl HZ.out k (Nat.zero_le _) hlt
                obtain ⟨hg, hR⟩ := hts_at hfe hlt
                have HST := Lib.hid (allFrom_step p hlt)
                rw [hg] at HST
                clear hfe hg
                cases hh : hts p p[k].code with
                | none =>
                  have HH := Lib.hid hh
                  have hres : r = 1 := by
                    rw [HRES.out, HZ.out, if_neg (fun h => h rfl), ← HFF.out, HST.out, hh]
                    rfl
                  subst hres
                  clear hh
                  go_wp2_with (first
                    | (go_at_call 55; (with_reducible refine (heights_any p _ S k _ (Funcs.stays (Ext.stays HB2.out) HP.out) hlt hR).mono ?_); rintro e w2 ⟨hr, hb2⟩; rw [htsR_eq hR.jumps, HH.out] at hr; obtain rfl := hr))
                  go_ret
                  exact ⟨rfl, HB2.out.trans hb2⟩
                | some l =>
                  have HH := Lib.hid hh
                  clear hh
                  go_wp2_with (first
                    | (go_at_call 55; (with_reducible refine (heights_any p _ S k _ (Funcs.stays (Ext.stays HB2.out) HP.out) hlt hR).mono ?_); rintro e w2 ⟨hr, hb2⟩; rw [htsR_eq hR.jumps, HH.out] at hr; obtain ⟨vl, rfl, hl⟩ := hr; obtain ⟨al, cl, rfl, _, _, _⟩ := (⟨hl, trivial⟩ : _ ∧ True).1))
                  go_roundw
                  case rel => exact ⟨k + 1, by omega, by go_num, HB2.out.trans hb2, by rw [← HFF.out, HST.out, HH.out]; rfl⟩
                  case measure => simp [intOf]; omega
              · obtain rfl : k = p.length := by omega
                have hres : r = 0 := by
                  rw [HRES.out, HZ.out, if_neg (fun h => h rfl), ← HFF.out, allFrom_end]
                  rfl
                subst hres
                clear hlt HFF
                go_wp2_with fail
                go_ret
                exact ⟨rfl, HB2.out⟩
end Go.Proofs.Ytfajkebkhdcapaa
end
section
/- Contracts of the document's BeginOf, and of state's Frame, First, Begin. -/
set_option maxHeartbeats 4000000
set_option maxRecDepth 100000
namespace Go.Proofs.Ytfajkebkhdcapaa
open Go Go.RowKit

def freshFrame (p : List GFunc) (f : Int) : GFrame := ⟨f, 0, List.replicate (funcOf p f).locals.toNat 0, []⟩
def beginG (p : List GFunc) : GState := ⟨[⟨[freshFrame p 0], -1⟩], 0, []⟩

theorem I64.zero : I64 0 := I64.small (by decide) (by decide)
theorem I64.neg1 : I64 (-1) := I64.small (by decide) (by decide)
theorem FrameV.cells {w : World} {S : Nat → Prop} {x : GFrame} {sl st : Value} {b o : Nat} (h : FrameV w S (.agg #[.int .i64 x.func, .int .i64 x.at_, sl, st]) x) (hb : S b)
    (h0 : w.cell? ⟨b, o, none⟩ = some (.int .i64 x.func)) (h1 : w.cell? ⟨b, o + 1, none⟩ = some (.int .i64 x.at_)) (h2 : w.cell? ⟨b, o + 2, none⟩ = some sl) (h3 : w.cell? ⟨b, o + 3, none⟩ = some st) : FrameC w S b o x := by
  obtain ⟨s, t, e, i0, i1, hl, hs⟩ := h
  simp only [Value.agg.injEq] at e
  simp at e
  obtain ⟨rfl, rfl⟩ := e
  exact ⟨⟨hb, h0, i0⟩, ⟨hb, h1, i1⟩, ⟨_, h2, hl⟩, _, h3, hs⟩

/-- A first state in its new blocks, handed back in a box of the call. -/
theorem begin_state {w3 : World} {B base bx : Nat} {x : GFrame} {sl st : Value} (t1 t2 : TypeId) (h : FrameV w3 (base ≤ ·) (.agg #[.int .i64 x.func, .int .i64 x.at_, sl, st]) x) (hB : B ≤ bx) (hb : bx < base) (hb3 : bx < w3.heap.size) (u v z : Value) :
    StateV (((((w3.alloc (.cells #[.int .i64 x.func, .int .i64 x.at_, sl, st] t1)).alloc (.cells #[.slice (some ⟨w3.heap.size, 0, none⟩) 1 1, .int .i64 (-1)] t2)).setCell ⟨bx, 0, none⟩ u).setCell ⟨bx, 1, none⟩ v).setCell ⟨bx, 2, none⟩ z) (B ≤ ·)
      (.agg #[.slice (some ⟨w3.heap.size + 1, 0, none⟩) 1 1, .int .i64 0, .slice none 0 0]) ⟨[⟨[x], -1⟩], 0, []⟩ := by
  have hs4 : (w3.alloc (.cells #[.int .i64 x.func, .int .i64 x.at_, sl, st] t1)).heap.size = w3.heap.size + 1 := Array.size_push _
  have hE4 : Ext w3 (w3.alloc (.cells #[.int .i64 x.func, .int .i64 x.at_, sl, st] t1)) := (Ext.refl _).alloc _
  have f0 := Cx.new w3 [.int .i64 x.func, .int .i64 x.at_, sl, st] t1 (j := 0) rfl
  have f1 := Cx.new w3 [.int .i64 x.func, .int .i64 x.at_, sl, st] t1 (j := 1) rfl
  have f2 := Cx.new w3 [.int .i64 x.func, .int .i64 x.at_, sl, st] t1 (j := 2) rfl
  have f3 := Cx.new w3 [.int .i64 x.func, .int .i64 x.at_, sl, st] t1 (j := 3) rfl
  generalize w3.alloc (.cells [.int .i64 x.func, .int .i64 x.at_, sl, st].toArray t1) = w4 at *
  have hE5 : Ext w4 (w4.alloc (.cells #[.slice (some ⟨w3.heap.size, 0, none⟩) 1 1, .int .i64 (-1)] t2)) := (Ext.refl _).alloc _
  have g0 := Cx.new w4 [.slice (some ⟨w3.heap.size, 0, none⟩) 1 1, .int .i64 (-1)] t2 (j := 0) rfl
  have g1 := Cx.new w4 [.slice (some ⟨w3.heap.size, 0, none⟩) 1 1, .int .i64 (-1)] t2 (j := 1) rfl
  rw [hs4] at g0 g1
  generalize w4.alloc (.cells [.slice (some ⟨w3.heap.size, 0, none⟩) 1 1, .int .i64 (-1)].toArray t2) = w5 at *
  have hch := chg3 w5 bx u v z
  generalize ((w5.setCell ⟨bx, 0, none⟩ u).setCell ⟨bx, 1, none⟩ v).setCell ⟨bx, 2, none⟩ z = w6 at *
  have hfr : FrameV w6 (B ≤ ·) (.agg #[.int .i64 x.func, .int .i64 x.at_, sl, st]) x := FrameV.stays (S := (base ≤ ·)) (fun b o u' hb' hc => ⟨hch.cell (by show ¬ b = bx; have : base ≤ b := hb'; omega) (Ext.cell (hE4.trans hE5) hc), by show B ≤ b; have : base ≤ b := hb'; omega⟩) h
  have k : ∀ j u', Cx w4 w3.heap.size j u' → w6.cell? ⟨w3.heap.size, j, none⟩ = some u' := fun j u' h => ((h.ext hE5).chg hch (by omega)).1
  have k' : ∀ j u', Cx w5 (w3.heap.size + 1) j u' → w6.cell? ⟨w3.heap.size + 1, j, none⟩ = some u' := fun j u' h => (h.chg hch (by omega)).1
  refine ⟨_, _, rfl, Sl.one ⟨⟨_, k' _ _ g0, Sl.one (FrameV.cells hfr (by show B ≤ w3.heap.size; omega) (k _ _ f0) (k _ _ f1) (k _ _ f2) (k _ _ f3)) (by decide)⟩, by show B ≤ w3.heap.size + 1; omega, k' _ _ g1, I64.neg1⟩ (by decide), I64.zero, Sl.nil _ _ _⟩

theorem beginOf_any (p : List GFunc) (v : Value) (S : Nat → Prop) (w : World) (hp : Funcs w S v p) (hz : progErr p = 0) :
    Calls Try.prog 41 #[v] w fun e w' => (∃ x, e = .returned x ∧ StateV w' (w.heap.size ≤ ·) x (beginG p)) ∧ Ext w w' := by
  have hRP := progErr_zero hz
  have hpos := hRP.pos
  obtain ⟨_, _, hR'⟩ := funcErr_zero (hRP.func 0 hpos)
  have hR : RightF p p[0] := by have := hR' (by simpa using hpos); simpa using this
  have hloc := hR.locals
  have hF : funcOf p 0 = p[0] := by unfold funcOf; simp [List.getD, List.getElem?_eq_getElem hpos]
  obtain ⟨b, o, cap, rfl, hcap, hby, _, ⟨_, hL, iL⟩, _⟩ := hp.get hpos
  rw [Nat.zero_mul, Nat.add_zero] at hL
  obtain ⟨N, hN⟩ : ∃ N : Nat, p[0].locals = N := ⟨p[0].locals.toNat, by omega⟩
  have HG : Hid (freshFrame p 0 = ⟨0, 0, List.replicate N 0, []⟩) := by unfold Hid freshFrame; rw [hF, hN]; rfl
  rw [hN] at hL hloc
  have hN4 : N ≤ 4 := by omega
  obtain ⟨i0, hi0, hz0, hz1, hz2⟩ := info_parts infoI
  have RA := alloc_keep
  have c0 := Lib.hid (Cx.new w [.slice none 0 0, .int .i64 0, .slice none 0 0] 35 (j := 0) rfl)
  have c1 := Lib.hid (Cx.new w [.slice none 0 0, .int .i64 0, .slice none 0 0] 35 (j := 1) rfl)
  have c2 := Lib.hid (Cx.new w [.slice none 0 0, .int .i64 0, .slice none 0 0] 35 (j := 2) rfl)
  clear hz hRP hR hF hp hN hR'
  go_enter Try.func41, Try.ntmps41
  go_wp2_with (first
    | (at_make; refine wpList_make_full _ rfl _ _ 27 rfl (w.heap.size + 1) 3 i0 (.int .i64 0) 1 Try.underlying27 hi0 hz0 hz1 .i64 .i64 _ _ N rfl rfl rfl rfl (by rw [hz2]; omega) (by unfold maxLen; omega) (by simp) ?_; intro w3 hown3 hgr3; have hE3 := ext_none hgr3; have hrow := IRow.made hown3; have HE4 := Lib.hid ((hE3.alloc (.cells #[.int .i64 0, .int .i64 0, .slice (some ⟨w.heap.size + 1, 0, none⟩) N N, .slice none 0 0] 45)).alloc (.cells #[.slice (some ⟨w3.heap.size, 0, none⟩) 1 1, .int .i64 (-1)] 43)); obtain ⟨⟨d0, d0'⟩, ⟨d1, d1'⟩, ⟨d2, d2'⟩⟩ := (⟨c0.out.ext HE4.out, c1.out.ext HE4.out, c2.out.ext HE4.out⟩ : _ ∧ _ ∧ _)))
  have hs1 : (w.alloc (.cells #[.slice none 0 0, .int .i64 0, .slice none 0 0] 35)).heap.size = w.heap.size + 1 := Array.size_push _
  rw [hs1] at hrow
  have hfr : FrameV w3 (w.heap.size + 1 ≤ ·) (.agg #[.int .i64 0, .int .i64 0, .slice (some ⟨w.heap.size + 1, 0, none⟩) N N, .slice none 0 0]) ⟨0, 0, List.replicate N 0, []⟩ := by
    refine ⟨_, _, rfl, I64.zero, I64.zero, ?_, Sl.nil _ _ _⟩
    show Ints w3 _ _ (List.replicate N 0)
    have := hrow.ints (by rw [List.length_replicate]; omega) (fun x hx => by rw [List.eq_of_mem_replicate hx]; exact I64.small (by decide) (by decide)) (w.heap.size + 1 ≤ ·) (fun _ h => h)
    rwa [List.length_replicate] at this
  have hsz := hE3.size
  have hs1 : (w.alloc (.cells #[.slice none 0 0, .int .i64 0, .slice none 0 0] 35)).heap.size = w.heap.size + 1 := Array.size_push _
  refine bodyPost_ret (results_cell_mid rfl _ _ w.heap.size 0 _ _ rfl (box3 ⟨d0, d0'⟩ ⟨d1, d1'⟩ ⟨d2, d2'⟩ _ _ _) rfl rfl (by kernel_rfl)) rfl ?_
  refine ⟨⟨_, rfl, ?_⟩, ext3 (((Ext.refl w).alloc _).trans HE4.out) _ _ _⟩
  unfold beginG
  rw [HG.out]
  exact begin_state (x := ⟨0, 0, List.replicate N 0, []⟩) 45 43 hfr (Nat.le_refl _) (Nat.lt_succ_self _) (by omega) _ _ _

theorem range4 {w : World} {b : Nat} {x y z u : Value} (h0 : w.cell? ⟨b, 0, none⟩ = some x) (h1 : w.cell? ⟨b, 1, none⟩ = some y) (h2 : w.cell? ⟨b, 2, none⟩ = some z) (h3 : w.cell? ⟨b, 3, none⟩ = some u) : w.rangeAt b 0 [x, y, z, u] := by
  intro j v hj
  rw [Nat.zero_add]
  match j, hj with
  | 0, hj => cases hj; exact h0
  | 1, hj => cases hj; exact h1
  | 2, hj => cases hj; exact h2
  | 3, hj => cases hj; exact h3
theorem box4 {W : World} {b : Nat} {u0 u1 u2 u3 : Value} (h0 : Cx W b 0 u0) (h1 : Cx W b 1 u1) (h2 : Cx W b 2 u2) (h3 : Cx W b 3 u3) (x y z u : Value) :
    ((((W.setCell ⟨b, 0, none⟩ x).setCell ⟨b, 1, none⟩ y).setCell ⟨b, 2, none⟩ z).setCell ⟨b, 3, none⟩ u).rangeAt b 0 [x, y, z, u] :=
  range4 ((((h0.set x).other (.inr (by decide)) y).other (.inr (by decide)) z).other (.inr (by decide)) u).1 ((((h1.other (.inr (by decide)) x).set y).other (.inr (by decide)) z).other (.inr (by decide)) u).1
    ((((h2.other (.inr (by decide)) x).other (.inr (by decide)) y).set z).other (.inr (by decide)) u).1 ((((h3.other (.inr (by decide)) x).other (.inr (by decide)) y).other (.inr (by decide)) z).set u).1
theorem chg4 (W : World) (b : Nat) (x y z u : Value) : Chg (· = b) W ((((W.setCell ⟨b, 0, none⟩ x).setCell ⟨b, 1, none⟩ y).setCell ⟨b, 2, none⟩ z).setCell ⟨b, 3, none⟩ u) := (chg3 W b x y z).trans (chg_one _ _ 3 _)
theorem ext4 {w W : World} (h : Ext w W) (x y z u : Value) : Ext w ((((W.setCell ⟨w.heap.size, 0, none⟩ x).setCell ⟨w.heap.size, 1, none⟩ y).setCell ⟨w.heap.size, 2, none⟩ z).setCell ⟨w.heap.size, 3, none⟩ u) :=
  (ext3 h x y z).setCell (p := ⟨w.heap.size, 3, none⟩) (Nat.le_refl _) _

theorem frame_any (p : List GFunc) (v : Value) (S : Nat → Prop) (n : Nat) (w : World) (hp : Funcs w S v p) (hn : n < p.length) (hR : RightF p p[n]) :
    Calls Try.prog 47 #[v, .int .i64 n] w fun e w' => (∃ x, e = .returned x ∧ FrameV w' (w.heap.size ≤ ·) x (freshFrame p n)) ∧ Ext w w' := by
  have hloc := hR.locals
  obtain ⟨b, o, cap, rfl, hcap, hby, _, ⟨_, hL, iL⟩, _⟩ := hp.get hn
  obtain ⟨N, hN⟩ : ∃ N : Nat, p[n].locals = N := ⟨p[n].locals.toNat, by omega⟩
  have HG : Hid (freshFrame p n = ⟨n, 0, List.replicate N 0, []⟩) := by
    unfold Hid freshFrame funcOf
    rw [show (n : Int).toNat = n by omega, show p.getD n default = p[n] by simp [List.getD, List.getElem?_eq_getElem hn], hN]
    rfl
  rw [hN] at hL hloc
  have hN4 : N ≤ 4 := by omega
  have hnI : I64 n := I64.nat (by omega)
  obtain ⟨i0, hi0, hz0, hz1, hz2⟩ := info_parts infoI
  have RA := alloc_keep
  have c0 := Lib.hid (Cx.new w [.int .i64 0, .int .i64 0, .slice none 0 0, .slice none 0 0] 45 (j := 0) rfl)
  have c1 := Lib.hid (Cx.new w [.int .i64 0, .int .i64 0, .slice none 0 0, .slice none 0 0] 45 (j := 1) rfl)
  have c2 := Lib.hid (Cx.new w [.int .i64 0, .int .i64 0, .slice none 0 0, .slice none 0 0] 45 (j := 2) rfl)
  have c3 := Lib.hid (Cx.new w [.int .i64 0, .int .i64 0, .slice none 0 0, .slice none 0 0] 45 (j := 3) rfl)
  clear hR hp hN
  go_enter Try.func47, Try.ntmps47
  go_wp2_with (first
    | (at_make; refine wpList_make_full _ rfl _ _ 27 rfl (w.heap.size + 1) 3 i0 (.int .i64 0) 1 Try.underlying27 hi0 hz0 hz1 .i64 .i64 _ _ N rfl rfl rfl rfl (by rw [hz2]; omega) (by unfold maxLen; omega) (by simp) ?_; intro w3 hown3 hgr3; have hE3 := ext_none hgr3; have hrow := IRow.made hown3; obtain ⟨⟨d0, d0'⟩, ⟨d1, d1'⟩, ⟨d2, d2'⟩, ⟨d3, d3'⟩⟩ := (⟨c0.out.ext hE3, c1.out.ext hE3, c2.out.ext hE3, c3.out.ext hE3⟩ : _ ∧ _ ∧ _ ∧ _)))
  have hs1 : (w.alloc (.cells #[.int .i64 0, .int .i64 0, .slice none 0 0, .slice none 0 0] 45)).heap.size = w.heap.size + 1 := Array.size_push _
  rw [hs1] at hrow
  refine bodyPost_ret (results_cell_mid rfl _ _ w.heap.size 0 _ _ rfl (box4 ⟨d0, d0'⟩ ⟨d1, d1'⟩ ⟨d2, d2'⟩ ⟨d3, d3'⟩ _ _ _ _) rfl rfl (by kernel_rfl)) rfl ?_
  refine ⟨⟨_, rfl, ?_⟩, ext4 (((Ext.refl w).alloc _).trans hE3) _ _ _ _⟩
  rw [HG.out]
  refine ⟨_, _, rfl, hnI, I64.zero, ?_, Sl.nil _ _ _⟩
  have := hrow.chg (chg4 w3 w.heap.size (.int .i64 n) (.int .i64 0) (.slice (some ⟨w.heap.size + 1, 0, none⟩) N N) (.slice none 0 0)) (by omega)
  have := this.ints (by rw [List.length_replicate]; omega) (fun x hx => by rw [List.eq_of_mem_replicate hx]; exact I64.zero) (w.heap.size ≤ ·) (fun b h => by show w.heap.size ≤ b; omega)
  rwa [List.length_replicate] at this

theorem first_any (p : List GFunc) (v : Value) (S : Nat → Prop) (w : World) (hp : Funcs w S v p) (hz : progErr p = 0) :
    Calls Try.prog 33 #[v] w fun e w' => (∃ x, e = .returned x ∧ StateV w' (w.heap.size ≤ ·) x (beginG p)) ∧ Ext w w' := by
  have HP := Lib.hid hp
  have hRP := progErr_zero hz
  have hpos := hRP.pos
  obtain ⟨_, _, hR'⟩ := funcErr_zero (hRP.func 0 hpos)
  have hR : RightF p p[0] := by have := hR' (by simpa using hpos); simpa using this
  have RA := alloc_keep
  have c0 := Lib.hid (Cx.new w [.slice none 0 0, .int .i64 0, .slice none 0 0] 35 (j := 0) rfl)
  have c1 := Lib.hid (Cx.new w [.slice none 0 0, .int .i64 0, .slice none 0 0] 35 (j := 1) rfl)
  have c2 := Lib.hid (Cx.new w [.slice none 0 0, .int .i64 0, .slice none 0 0] 35 (j := 2) rfl)
  have HS1 : Hid ((w.alloc (.cells #[.slice none 0 0, .int .i64 0, .slice none 0 0] 35)).heap.size = w.heap.size + 1) := Array.size_push _
  obtain ⟨a, cap, rfl, _, _, _⟩ := hp
  obtain ⟨F, hF⟩ : ∃ F, freshFrame p ((0 : Nat) : Int) = F := ⟨_, rfl⟩
  have HF := Lib.hid hF
  have HG : Hid (beginG p = ⟨[⟨[F], -1⟩], 0, []⟩) := by unfold Hid beginG; rw [← hF]; rfl
  rw [HG.out]
  clear hz hRP hF
  go_enter Try.func33, Try.ntmps33
  go_wp2_with (first
    | (go_at_call 47; refine (frame_any p _ S 0 _ (Funcs.stays (Ext.stays ((Ext.refl w).alloc _)) HP.out) hpos hR).mono ?_; rintro e w3 ⟨⟨x, rfl, hx⟩, hE3⟩; rw [HS1.out, HF.out] at hx; have HX := Lib.hid hx; obtain ⟨sl, st, rfl, _, _, hsl, hst⟩ := hx; obtain ⟨a1, n1, rfl, _, _, _⟩ := hsl; obtain ⟨a2, n2, rfl, _, _, _⟩ := hst; have HE4 := Lib.hid ((hE3.alloc (.cells #[.int .i64 F.func, .int .i64 F.at_, .slice a1 F.locals.length n1, .slice a2 F.stack.length n2] 45)).alloc (.cells #[.slice (some ⟨w3.heap.size, 0, none⟩) 1 1, .int .i64 (-1)] 43)); obtain ⟨⟨d0, d0'⟩, ⟨d1, d1'⟩, ⟨d2, d2'⟩⟩ := (⟨c0.out.ext HE4.out, c1.out.ext HE4.out, c2.out.ext HE4.out⟩ : _ ∧ _ ∧ _)))
  refine bodyPost_ret (results_cell_mid rfl _ _ w.heap.size 0 _ _ rfl (box3 ⟨d0, d0'⟩ ⟨d1, d1'⟩ ⟨d2, d2'⟩ _ _ _) rfl rfl (by kernel_rfl)) rfl ?_
  refine ⟨⟨_, rfl, ?_⟩, ext3 (((Ext.refl w).alloc _).trans (hE3.trans (((Ext.refl _).alloc _).alloc _))) _ _ _⟩
  have hsz := hE3.size
  rw [HS1.out] at hsz
  exact begin_state (x := F) 45 43 HX.out (Nat.le_refl _) (Nat.lt_succ_self _) (by omega) _ _ _

/-- What Begin hands back. -/
def beginS (p : List GFunc) : GState := if progErr p = 0 then beginG p else ⟨[], 0, []⟩

theorem begin_any (p : List GFunc) (v : Value) (S : Nat → Prop) (w : World) (hp : Funcs w S v p) :
    Calls Try.prog 25 #[v] w fun e w' => (∃ x, e = .returned (.tuple #[x, .int .i64 (progErr p)]) ∧ StateV w' (w.heap.size ≤ ·) x (beginS p)) ∧ Ext w w' := by
  have HP := Lib.hid hp
  obtain ⟨a, cap, rfl, _, _, _⟩ := hp
  have b0 := Cx.new w [.slice none 0 0, .int .i64 0, .slice none 0 0] 35 (j := 0) rfl
  have b1 := Cx.new w [.slice none 0 0, .int .i64 0, .slice none 0 0] 35 (j := 1) rfl
  have b2 := Cx.new w [.slice none 0 0, .int .i64 0, .slice none 0 0] 35 (j := 2) rfl
  by_cases h0 : progErr p = 0
  · have HT : Hid (beginS p = beginG p) := by unfold Hid beginS; rw [if_pos h0]
    have H0 := Lib.hid h0
    clear h0
    go_enter Try.func25, Try.ntmps25
    go_wp2_with (first
      | (go_at_call 24; (with_reducible refine (progCheck_any p _ S _ (Funcs.stays (Ext.stays ((Ext.refl w).alloc _)) HP.out)).mono ?_); rintro e w2 ⟨rfl, hb2⟩; rw [H0.out]; have c0 := b0.ext hb2; have c1 := b1.ext hb2; have c2 := b2.ext hb2; have HB2 := Lib.hid (((Ext.refl w).alloc _).trans hb2); clear hb2)
      | (go_at_call 33; (with_reducible refine (first_any p _ S _ (Funcs.stays (Ext.stays HB2.out) HP.out) H0.out).mono ?_); rintro e w3 ⟨⟨x, rfl, hx⟩, hb3⟩; have HX := Lib.hid hx; obtain ⟨sf, so, rfl, hsf, inow, hso⟩ := hx; obtain ⟨a1, n1, rfl, _, _, _⟩ := hsf; obtain ⟨a2, n2, rfl, _, _, _⟩ := hso; obtain ⟨⟨d0, d0'⟩, ⟨d1, d1'⟩, ⟨d2, d2'⟩⟩ := (⟨c0.ext hb3, c1.ext hb3, c2.ext hb3⟩ : _ ∧ _ ∧ _); have HB3 := Lib.hid (HB2.out.trans hb3); clear hb3))
    refine bodyPost_ret (results_cell2 rfl _ _ w.heap.size 0 _ _ rfl (box3 ⟨d0, d0'⟩ ⟨d1, d1'⟩ ⟨d2, d2'⟩ _ _ _) rfl rfl (by kernel_rfl)) rfl ?_
    refine ⟨⟨_, by rw [H0.out]; rfl, ?_⟩, ext3 HB3.out _ _ _⟩
    rw [HT.out]
    have hs : w.heap.size < w2.heap.size := c0.lt
    refine StateV.stays (S := (w2.heap.size ≤ ·)) (fun b o v hb hc => ?_) HX.out
    exact ⟨(chg3 _ _ _ _ _).cell (by show ¬ b = w.heap.size; have : w2.heap.size ≤ b := hb; omega) hc, by show w.heap.size ≤ b; have : w2.heap.size ≤ b := hb; omega⟩
  · have HT : Hid (beginS p = ⟨[], 0, []⟩) := by unfold Hid beginS; rw [if_neg h0]
    obtain ⟨r, hr⟩ : ∃ r, progErr p = r := ⟨_, rfl⟩
    rw [hr] at h0
    have HR := Lib.hid hr
    clear hr
    have TB : (r != 0) = true := bne_iff_ne.2 h0
    clear h0
    go_enter Try.func25, Try.ntmps25
    go_wp2_with (first
      | (go_at_call 24; (with_reducible refine (progCheck_any p _ S _ (Funcs.stays (Ext.stays ((Ext.refl w).alloc _)) HP.out)).mono ?_); rintro e w2 ⟨rfl, hb2⟩; rw [HR.out]; obtain ⟨⟨d0, d0'⟩, ⟨d1, d1'⟩, ⟨d2, d2'⟩⟩ := (⟨b0.ext hb2, b1.ext hb2, b2.ext hb2⟩ : _ ∧ _ ∧ _); have HB2 := Lib.hid (((Ext.refl w).alloc _).trans hb2); clear hb2))
    refine bodyPost_ret (results_cell2 rfl _ _ w.heap.size 0 _ _ rfl (box3 ⟨d0, d0'⟩ ⟨d1, d1'⟩ ⟨d2, d2'⟩ _ _ _) rfl rfl (by kernel_rfl)) rfl ?_
    refine ⟨⟨_, by rw [HR.out]; rfl, ?_⟩, ext3 HB2.out _ _ _⟩
    rw [HT.out]
    exact ⟨_, _, rfl, Sl.nil _ _ _, I64.zero, Sl.nil _ _ _⟩
end Go.Proofs.Ytfajkebkhdcapaa
end
