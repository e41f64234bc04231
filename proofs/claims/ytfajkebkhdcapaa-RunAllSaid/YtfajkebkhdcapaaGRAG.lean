/- Merged texts: contracts and plain facts, one part behind another; each part begins with what it says. -/
import Derived.Test.YtfajkebkhdcapaaGRAD
import Derived.Test.YtfajkebkhdcapaaGRAE
import Derived.Test.YtfajkebkhdcapaaGRAF
section
/- Contract of the document's FuncError. -/
set_option maxHeartbeats 1000000
set_option maxRecDepth 100000
namespace Go.Proofs.Ytfajkebkhdcapaa
open Go Go.RowKit

theorem opError_any (p : List GFunc) (v : Value) (S : Nat → Prop) (f : Int) (x : GOp) (w : World) (hp : Funcs w S v p) (h0 : 0 ≤ f) (h1 : f < p.length)
    (hL0 : 0 ≤ p[f.toNat].locals) (hL1 : p[f.toNat].locals ≤ 4) (hC : p[f.toNat].code.length ≤ 24) :
    Calls Try.prog 86 #[v, .int .i64 f, .agg #[.int .i64 x.kind, .int .i64 x.a]] w fun e w' => e = .returned (.int .i64 (opErr p p[f.toNat] x)) ∧ Ext w w' := by
  obtain ⟨n, rfl⟩ := Int.eq_ofNat_of_zero_le h0
  have hn : n < p.length := by omega
  simp only [Int.toNat_natCast] at *
  have hp0 := hp
  obtain ⟨b, o, cap, rfl, hcap, hby, hA, hL, vc, hcc, hcode⟩ := hp.get hn
  have hA1 := hA.2.1
  have hL' := hL.2.1
  obtain ⟨ca, ccap, rfl, hcp, hcby, hops⟩ := hcode
  have RA := alloc_keep
  generalize hF : p[n] = F at *
  clear hA hL hops hp h0
  have e0 : Ext w (w.alloc (.cells #[.int .i64 x.kind, .int .i64 x.a] 61)) := (Ext.refl w).alloc _
  go_enter Try.func86, Try.ntmps86
  go_upto_block 0 with fail
  go_cut [7] (fun v7 wr => v7 = .int .i64 (mostOf p F x.kind) ∧ Ext (w.alloc (.cells #[.int .i64 x.kind, .int .i64 x.a] 61)) wr)
  case first =>
    go_wp2_with fail
    all_goals (go_meet; refine ⟨?_, Ext.refl _⟩; congr 1; unfold mostOf; (repeat' split) <;> simp at * <;> omega)
  case rest =>
    obtain ⟨rfl, hq⟩ := hcut
    have b0 := Ext.cell hq (cell_alloc0 w x.kind x.a 61)
    have b1 := Ext.cell hq (cell_alloc1 w x.kind x.a 61)
    have HW := Lib.hid (e0.trans hq)
    clear hq e0 hA1 hL' hcc hcp hcby RA
    by_cases hk : 0 ≤ x.kind ∧ x.kind ≤ 16
    · have hkn : ¬ ¬ (0 ≤ x.kind ∧ x.kind ≤ 16) := fun h => h hk
      obtain ⟨hk1, hk2⟩ := hk
      by_cases hin : 0 ≤ x.a ∧ x.a ≤ mostOf p F x.kind
      · have HIN := Lib.hid hin
        by_cases hcm : x.kind = 11 ∨ x.kind = 13
        · have hm2 : mostOf p F x.kind = (p.length : Int) - 1 := by unfold mostOf; rcases hcm with h | h <;> simp [h]
          rw [hm2] at hin
          obtain ⟨ha0, ha1⟩ := hin
          have ha2 : x.a < p.length := by omega
          rw [hm2]
          obtain ⟨b', o', cap', hbo, _, _, g0, g1, vc', g2, hcode'⟩ := hp0.get (i := x.a.toNat) (by omega)
          obtain ⟨ca', ccap', rfl, _⟩ := hcode'
          simp only [Value.slice.injEq, Option.some.injEq, Addr.mk.injEq] at hbo
          obtain ⟨⟨rfl, rfl, -⟩, -, -⟩ := hbo
          have z0 := Ext.cell HW.out g0.2.1
          have z1 := Ext.cell HW.out g1.2.1
          have z2 := Ext.cell HW.out g2
          clear g0 g1 g2
          have HG : Hid (p.getD x.a.toNat default = p[x.a.toNat]) := by unfold Hid; simp [List.getD, List.getElem?_eq_getElem (show x.a.toNat < p.length by omega)]
          generalize hF2 : p[x.a.toNat] = F2 at *
          clear hF2 hm2 hp0
          cases hs2 : sizedB F2
          · have HE1 : Hid (opErr p F x = 3) := by unfold Hid opErr; rw [if_neg hkn, if_neg (fun h => h HIN.out), if_pos ⟨hcm, by rw [HG.out]; exact hs2⟩]
            rcases hcm with h11 | h13
            · have T11 : (x.kind == 11) = true := by simp [h11]
              clear h11
              go_wp2_with (first
      | (go_at_call 38; refine (within_any _ _ _ _).mono ?_; rintro e w1 ⟨rfl, rfl⟩)
      | (go_at_call 85; refine (badArgs_any F2.args F2.locals _ F2.code _).mono ?_; rintro e w1 ⟨rfl, hb⟩; have hcs := Ext.keep hb))
              go_ret
              exact ⟨ret_int (by rw [HE1.out]), HW.out.trans hb⟩
            · have T11 : (x.kind == 11) = false := by simp [h13]
              have T13 : (x.kind == 13) = true := by simp [h13]
              clear h13
              go_wp2_with (first
      | (go_at_call 38; refine (within_any _ _ _ _).mono ?_; rintro e w1 ⟨rfl, rfl⟩)
      | (go_at_call 85; refine (badArgs_any F2.args F2.locals _ F2.code _).mono ?_; rintro e w1 ⟨rfl, hb⟩; have hcs := Ext.keep hb))
              go_ret
              exact ⟨ret_int (by rw [HE1.out]), HW.out.trans hb⟩
          · rcases hcm with h11 | h13
            · have T11 : (x.kind == 11) = true := by simp [h11]
              have T13 : (x.kind == 13) = false := by simp [h11]
              have HE1 : Hid (opErr p F x = 0) := by unfold Hid opErr; rw [if_neg hkn, if_neg (fun h => h HIN.out), if_neg (by rw [HG.out, hs2]; simp), if_neg (by simp [h11])]
              clear h11
              go_wp2_with (first
      | (go_at_call 38; refine (within_any _ _ _ _).mono ?_; rintro e w1 ⟨rfl, rfl⟩)
      | (go_at_call 85; refine (badArgs_any F2.args F2.locals _ F2.code _).mono ?_; rintro e w1 ⟨rfl, hb⟩; have hcs := Ext.keep hb))
              go_ret
              exact ⟨ret_int (by rw [HE1.out]), HW.out.trans hb⟩
            · have T11 : (x.kind == 11) = false := by simp [h13]
              have T13 : (x.kind == 13) = true := by simp [h13]
              by_cases ha : F2.args = 1
              · have HE1 : Hid (opErr p F x = 0) := by unfold Hid opErr; rw [if_neg hkn, if_neg (fun h => h HIN.out), if_neg (by rw [HG.out, hs2]; simp), if_neg (by rw [HG.out]; simp [ha])]
                have TA : (F2.args != 1) = false := by simp [ha]
                clear h13 ha
                go_wp2_with (first
      | (go_at_call 38; refine (within_any _ _ _ _).mono ?_; rintro e w1 ⟨rfl, rfl⟩)
      | (go_at_call 85; refine (badArgs_any F2.args F2.locals _ F2.code _).mono ?_; rintro e w1 ⟨rfl, hb⟩; have hcs := Ext.keep hb))
                go_ret
                exact ⟨ret_int (by rw [HE1.out]), HW.out.trans hb⟩
              · have HE1 : Hid (opErr p F x = 1) := by unfold Hid opErr; rw [if_neg hkn, if_neg (fun h => h HIN.out), if_neg (by rw [HG.out, hs2]; simp), if_pos (by rw [HG.out]; exact ⟨h13, ha⟩)]
                have TA : (F2.args != 1) = true := by simp [ha]
                clear h13 ha
                go_wp2_with (first
      | (go_at_call 38; refine (within_any _ _ _ _).mono ?_; rintro e w1 ⟨rfl, rfl⟩)
      | (go_at_call 85; refine (badArgs_any F2.args F2.locals _ F2.code _).mono ?_; rintro e w1 ⟨rfl, hb⟩; have hcs := Ext.keep hb))
                go_ret
                exact ⟨ret_int (by rw [HE1.out]), HW.out.trans hb⟩
        · have HE1 : Hid (opErr p F x = 0) := by
            unfold Hid opErr
            rw [if_neg hkn, if_neg (fun h => h HIN.out), if_neg (fun h => hcm h.1), if_neg (fun h => hcm (.inr h.1))]
          have T11 : (x.kind == 11) = false := by simp; omega
          have T13 : (x.kind == 13) = false := by simp; omega
          obtain ⟨hi0, hi1⟩ := hin
          generalize mostOf p F x.kind = M at *
          clear hcm hp0
          obtain F2 := F
          go_wp2_with (first
      | (go_at_call 38; refine (within_any _ _ _ _).mono ?_; rintro e w1 ⟨rfl, rfl⟩)
      | (go_at_call 85; refine (badArgs_any F2.args F2.locals _ F2.code _).mono ?_; rintro e w1 ⟨rfl, hb⟩; have hcs := Ext.keep hb))
          go_ret
          exact ⟨ret_int (by rw [HE1.out]), HW.out⟩
      · have HE1 : Hid (opErr p F x = 3) := by unfold Hid opErr; rw [if_neg hkn, if_pos hin]
        generalize mostOf p F x.kind = M at *
        clear hp0
        obtain F2 := F
        by_cases hi0 : 0 ≤ x.a
        · have TI : decide (x.a ≤ M) = false := by simp; omega
          clear hin
          go_wp2_with (first
      | (go_at_call 38; refine (within_any _ _ _ _).mono ?_; rintro e w1 ⟨rfl, rfl⟩)
      | (go_at_call 85; refine (badArgs_any F2.args F2.locals _ F2.code _).mono ?_; rintro e w1 ⟨rfl, hb⟩; have hcs := Ext.keep hb))
          go_ret
          exact ⟨ret_int (by rw [HE1.out]), HW.out⟩
        · have TI : decide (0 ≤ x.a) = false := by simp; omega
          clear hin
          go_wp2_with (first
      | (go_at_call 38; refine (within_any _ _ _ _).mono ?_; rintro e w1 ⟨rfl, rfl⟩)
      | (go_at_call 85; refine (badArgs_any F2.args F2.locals _ F2.code _).mono ?_; rintro e w1 ⟨rfl, hb⟩; have hcs := Ext.keep hb))
          go_ret
          exact ⟨ret_int (by rw [HE1.out]), HW.out⟩
    · have HE1 : Hid (opErr p F x = 4) := by unfold Hid opErr; rw [if_pos hk]
      generalize mostOf p F x.kind = M at *
      clear hp0
      obtain F2 := F
      by_cases hi0 : 0 ≤ x.kind
      · have TI : decide (x.kind ≤ 16) = false := by simp; omega
        clear hk
        go_wp2_with (first
      | (go_at_call 38; refine (within_any _ _ _ _).mono ?_; rintro e w1 ⟨rfl, rfl⟩)
      | (go_at_call 85; refine (badArgs_any F2.args F2.locals _ F2.code _).mono ?_; rintro e w1 ⟨rfl, hb⟩; have hcs := Ext.keep hb))
        go_ret
        exact ⟨ret_int (by rw [HE1.out]), HW.out⟩
      · have TI : decide (0 ≤ x.kind) = false := by simp; omega
        clear hk
        go_wp2_with (first
      | (go_at_call 38; refine (within_any _ _ _ _).mono ?_; rintro e w1 ⟨rfl, rfl⟩)
      | (go_at_call 85; refine (badArgs_any F2.args F2.locals _ F2.code _).mono ?_; rintro e w1 ⟨rfl, hb⟩; have hcs := Ext.keep hb))
        go_ret
        exact ⟨ret_int (by rw [HE1.out]), HW.out⟩

end Go.Proofs.Ytfajkebkhdcapaa
end
section
/- Contract of the document's FuncError. -/
set_option maxHeartbeats 1000000
set_option maxRecDepth 100000
namespace Go.Proofs.Ytfajkebkhdcapaa
open Go Go.RowKit

theorem funcError_any (p : List GFunc) (v : Value) (S : Nat → Prop) (f : Int) (w : World) (hp : Funcs w S v p) :
    Calls Try.prog 54 #[v, .int .i64 f] w fun e w' => e = .returned (.int .i64 (funcErr p f)) ∧ Ext w w' := by
  by_cases hf : 0 ≤ f ∧ f < p.length
  · obtain ⟨h0, h1⟩ := hf
    obtain ⟨n, rfl⟩ := Int.eq_ofNat_of_zero_le h0
    have hn : n < p.length := by omega
    have hp0 := hp
    obtain ⟨b, o, cap, rfl, hcap, hby, hA, hL, vc, hC, hcode⟩ := hp.get hn
    have hA1 := hA.2.1
    have hL1 := hL.2.1
    obtain ⟨ca, ccap, rfl, hcc, hcby, hops⟩ := hcode
    have HF : Hid (funcErr p n = if 24 < p[n].code.length then 2 else if sizedB p[n] = false then 3 else opsErr p p[n] p[n].code) := by
      unfold funcErr Hid
      rw [if_neg (by omega)]
      have : p.getD (n : Int).toNat default = p[n] := by simp [List.getD, List.getElem?_eq_getElem hn]
      rw [this]
    have RA := alloc_keep
    rw [HF.out]
    have hin : (n : Int) ≤ (p.length : Int) - 1 := by omega
    clear hA hL HF h0
    by_cases hm : 24 < p[n].code.length
    · rw [if_pos hm]
      go_enter Try.func54, Try.ntmps54
      go_wp2_with (first
        | (go_at_call 38; refine (within_any _ _ _ _).mono ?_; rintro e w1 ⟨rfl, rfl⟩))
      go_ret
      exact ⟨rfl, by ((repeat (first | assumption | exact Ext.refl _ | (exact And.left (by assumption)) | refine Ext.alloc ?_ _ | refine Ext.drew ?_ | refine Ext.drewN ?_ _ | refine Ext.setCell ?_ (by simp) _ | refine Ext.setCell ?_ (by simp; omega) _ | refine Ext.trans ?_ (by assumption))); done)⟩
    · rw [if_neg hm]
      have hm' : p[n].code.length ≤ 24 := by omega
      clear hm
      cases hs : sizedB p[n]
      · rw [if_pos rfl]
        have hsb : (!sizedB ⟨p[n].args, p[n].locals, p[n].code⟩) = true := by simpa using hs
        go_enter Try.func54, Try.ntmps54
        go_wp2_with (first
          | (go_at_call 38; refine (within_any _ _ _ _).mono ?_; rintro e w1 ⟨rfl, rfl⟩)
          | (go_at_call 85; refine (badArgs_any _ _ _ p[n].code _).mono ?_; rintro e w1 ⟨rfl, hb⟩))
        go_ret
        exact ⟨rfl, by ((repeat (first | assumption | exact Ext.refl _ | (exact And.left (by assumption)) | refine Ext.alloc ?_ _ | refine Ext.drew ?_ | refine Ext.drewN ?_ _ | refine Ext.setCell ?_ (by simp) _ | refine Ext.setCell ?_ (by simp; omega) _ | refine Ext.trans ?_ (by assumption))); done)⟩
      · rw [if_neg (by decide)]
        have hsb : (!sizedB ⟨p[n].args, p[n].locals, p[n].code⟩) = false := by simpa using hs
        have hsz : 0 ≤ p[n].locals ∧ p[n].locals ≤ 4 := by unfold sizedB at hs; simp at hs; omega
        go_enter Try.func54, Try.ntmps54
        go_wp2_with (first
          | (go_at_call 38; refine (within_any _ _ _ _).mono ?_; rintro e w1 ⟨rfl, rfl⟩)
          | (go_at_call 85; refine (badArgs_any _ _ _ p[n].code _).mono ?_; rintro e w1 ⟨rfl, hb⟩))
        go_loopw [5] (fun i wr => ∃ k : Nat, k ≤ p[n].code.length ∧ i = .int .i64 k ∧ Ext w wr ∧ opsErr p p[n] (p[n].code.drop k) = opsErr p p[n] p[n].code) (fun i _ => p[n].code.length - (intOf i).toNat)
        case atStart => exact ⟨0, Nat.zero_le _, rfl, hb, rfl⟩
        case round =>
          obtain ⟨k, hkl, rfl, hbr, hrest⟩ := hrel
          have HR := Lib.hid hrest
          have HB := Lib.hid hbr
          have hcr := Ext.keep hbr
          clear hrest hbr
          by_cases hlt : k < p[n].code.length
          · obtain ⟨cb, co, rfl, ⟨_, o0, _⟩, _, o1, _⟩ := hops k hlt
            have HD : Hid (opErr p p[n] p[n].code[k] = 0 → _) := fun h => opsErr_drop p p[n] p[n].code k hlt h
            have HH : Hid (opErr p p[n] p[n].code[k] ≠ 0 → _) := fun h => opsErr_hit p p[n] p[n].code k hlt h
            generalize hx : p[n].code[k] = x at *
            clear hx hops
            by_cases hz : opErr p p[n] x = 0
            · have TZ : (opErr p p[n] x != 0) = false := by simp [hz]
              have HZ := Lib.hid hz
              clear hz
              go_wp2_with (first
                | (go_at_call 86; refine (opError_any p _ S n x _ (Funcs.stays HB.out.stays hp0) (by omega) (by omega) hsz.1 hsz.2 hm').mono ?_; rintro e w1 ⟨rfl, hb1⟩))
              go_roundw
              case rel => exact ⟨k + 1, by omega, by go_num, HB.out.trans hb1, by rw [← HR.out]; exact (HD.out HZ.out).symm⟩
              case measure => simp [intOf]; omega
            · have TZ : (opErr p p[n] x != 0) = true := by simp [hz]
              have HZ := Lib.hid hz
              clear hz
              go_wp2_with (first
                | (go_at_call 86; refine (opError_any p _ S n x _ (Funcs.stays HB.out.stays hp0) (by omega) (by omega) hsz.1 hsz.2 hm').mono ?_; rintro e w1 ⟨rfl, hb1⟩))
              go_ret
              exact ⟨ret_int (by rw [← HR.out, HH.out HZ.out]), HB.out.trans hb1⟩
          · have hk' : k = p[n].code.length := by omega
            subst hk'
            go_wp2
            go_ret
            exact ⟨ret_int (by rw [← HR.out]; simp [opsErr]), HB.out⟩
  · have HF : funcErr p f = 5 := by unfold funcErr; rw [if_pos hf]
    rw [HF]
    obtain ⟨a, cap, rfl, hcap, hby, _⟩ := hp
    by_cases h0 : 0 ≤ f
    · have h1 : decide (f ≤ (p.length : Int) - 1) = false := by simp; omega
      clear hf
      go_enter Try.func54, Try.ntmps54
      go_wp2_with (first
        | (go_at_call 38; refine (within_any _ _ _ _).mono ?_; rintro e w1 ⟨rfl, rfl⟩))
      go_ret
      exact ⟨rfl, Ext.refl _⟩
    · have h1 : decide (0 ≤ f) = false := by simp; omega
      clear hf
      go_enter Try.func54, Try.ntmps54
      go_wp2_with (first
        | (go_at_call 38; refine (within_any _ _ _ _).mono ?_; rintro e w1 ⟨rfl, rfl⟩))
      go_ret
      exact ⟨rfl, Ext.refl _⟩
end Go.Proofs.Ytfajkebkhdcapaa
end
section
/- Contracts of flow.Heights, the document's HeightsOf, SameInts and next. -/
set_option maxHeartbeats 2000000
set_option maxRecDepth 100000
namespace Go.Proofs.Ytfajkebkhdcapaa
open Go Go.RowKit

/-- The error of Heights, and the heights. -/
def hErr (p : List GFunc) (f : Int) : Int := if funcErr p f ≠ 0 then funcErr p f else if hts p (p.getD f.toNat default).code = none then 1 else 0
def hList (p : List GFunc) (f : Int) : List Int := if funcErr p f ≠ 0 then [] else (hts p (p.getD f.toNat default).code).getD []

theorem hErr_bad {p : List GFunc} {f : Int} (h : funcErr p f ≠ 0) : hErr p f = funcErr p f ∧ hList p f = [] := by
  simp [hErr, hList, h]
theorem hErr_none {p : List GFunc} {f : Int} (h : funcErr p f = 0) (hn : hts p (p.getD f.toNat default).code = none) : hErr p f = 1 ∧ hList p f = [] := by
  simp only [hErr, hList, h, hn]; simp
theorem hErr_some {p : List GFunc} {f : Int} {l : List Int} (h : funcErr p f = 0) (hn : hts p (p.getD f.toNat default).code = some l) : hErr p f = 0 ∧ hList p f = l := by
  simp only [hErr, hList, h, hn]; simp

def HRet (B : Nat) (p : List GFunc) (f : Int) (e : Ending) (w' : World) : Prop := ∃ v, e = .returned (.tuple #[v, .int .i64 (hErr p f)]) ∧ Ints w' (B ≤ ·) v (hList p f)

theorem hts_here {p : List GFunc} {f : Int} (h : funcErr p f = 0) : ∃ (n : Nat) (hn : n < p.length), f = n ∧ p.getD f.toNat default = p[n] ∧ RightF p p[n] := by
  obtain ⟨h0, h1, hR⟩ := funcErr_zero h
  have hn : f.toNat < p.length := by omega
  exact ⟨f.toNat, hn, by omega, by simp [List.getD, List.getElem?_eq_getElem hn], hR hn⟩

theorem flowHeights_any (p : List GFunc) (v : Value) (S : Nat → Prop) (f : Int) (w : World) (hp : Funcs w S v p) :
    Calls Try.prog 45 #[v, .int .i64 f] w fun e w' => HRet w.heap.size p f e w' ∧ Ext w w' := by
  have HP := Lib.hid hp
  obtain ⟨a, cap, rfl, _, _, _⟩ := hp
  by_cases h0 : funcErr p f = 0
  · obtain ⟨n, hn, rfl, hg, hR⟩ := hts_here h0
    have H0 := Lib.hid h0
    clear h0
    cases hh : hts p p[n].code with
    | none =>
      have hx := hErr_none H0.out (by rw [hg]; exact hh)
      have HH := Lib.hid hh
      clear hh
      go_enter Try.func45, Try.ntmps45
      go_wp2_with (first
        | (go_at_call 43; (with_reducible refine (flowOf_any p _ S n _ (Funcs.stays (Ext.stays hb) HP.out) hn hR).mono ?_); rintro e w2 ⟨hr, hb2⟩; rw [HH.out] at hr; obtain rfl := hr)
        | (go_at_call 42; (with_reducible refine (check_any p _ S n _ HP.out).mono ?_); rintro e w1 ⟨rfl, hb⟩; rw [H0.out]))
      go_ret2
      exact ⟨⟨_, by rw [hx.1]; rfl, by rw [hx.2]; exact Sl.nil _ _ _⟩, hb.trans hb2⟩
    | some l =>
      have hx := hErr_some H0.out (by rw [hg]; exact hh)
      have HH := Lib.hid hh
      clear hh
      go_enter Try.func45, Try.ntmps45
      go_wp2_with (first
        | (go_at_call 43; (with_reducible refine (flowOf_any p _ S n _ (Funcs.stays (Ext.stays hb) HP.out) hn hR).mono ?_); rintro e w2 ⟨hr, hb2⟩; rw [HH.out] at hr; obtain ⟨vl, rfl, hl⟩ := hr; obtain ⟨al, cl, rfl, _, _, _⟩ := (⟨hl, trivial⟩ : _ ∧ True).1)
        | (go_at_call 42; (with_reducible refine (check_any p _ S n _ HP.out).mono ?_); rintro e w1 ⟨rfl, hb⟩; rw [H0.out]))
      go_ret2
      exact ⟨⟨_, by rw [hx.1]; rfl, by rw [hx.2]; exact Ints.stays (Stays.widen (fun b hB => Nat.le_trans hb.size hB)) hl⟩, hb.trans hb2⟩
  · have hx := hErr_bad h0
    obtain ⟨r, hr⟩ : ∃ r, funcErr p f = r := ⟨_, rfl⟩
    rw [hr] at hx h0
    have HR := Lib.hid hr
    clear hr
    have TB : (r != 0) = true := bne_iff_ne.2 h0
    clear h0
    go_enter Try.func45, Try.ntmps45
    go_wp2_with (first
      | (go_at_call 42; (with_reducible refine (check_any p _ S f _ HP.out).mono ?_); rintro e w1 ⟨rfl, hb⟩; rw [HR.out]))
    go_ret2
    exact ⟨⟨_, by rw [hx.1]; rfl, by rw [hx.2]; exact Sl.nil _ _ _⟩, hb⟩
end Go.Proofs.Ytfajkebkhdcapaa
end
section
/- Plain facts of heights, as FlowTrue and FlowSame ask them. -/
set_option maxHeartbeats 1000000
namespace Go.Proofs.Ytfajkebkhdcapaa
open Go Go.RowKit

theorem nx_len (x : GOp) (k : Nat) : (nx x k).length ≤ 2 := by unfold nx; (repeat' split) <;> simp

/-- What holds of a right function's heights. -/
structure HFacts (p : List GFunc) (C : List GOp) (l : List Int) : Prop where
  len : l.length = C.length
  pos : 0 < C.length
  zero : l.getD 0 0 = 0
  low : ∀ k, k < C.length → l.getD k 0 < 0 → l.getD k 0 = -1
  hi : ∀ k, k < C.length → l.getD k 0 ≤ 8
  thru : ∀ k, (hk : k < C.length) → 0 ≤ l.getD k 0 → takesOf p C[k] ≤ l.getD k 0 ∧ nOf p C[k] (l.getD k 0) ≤ 8 ∧ (C[k].kind = 12 → l.getD k 0 = 1) ∧ ∀ i ∈ nx C[k] k, i < C.length ∧ l.getD i 0 = nOf p C[k] (l.getD k 0)
  from_ : ∀ k, k < C.length → 0 ≤ l.getD k 0 → k ≠ 0 → ∃ j, ∃ hj : j < C.length, 0 ≤ l.getD j 0 ∧ k ∈ nx C[j] j

theorem hfacts {p : List GFunc} {F : GFunc} (hR : RightF p F) {l : List Int} (h : hts p F.code = some l) : HFacts p F.code l := by
  have hF := hts_full hR.jumps h
  refine ⟨hF.len, hF.zero.1, hF.zero.2, fun k hk h0 => by have := hF.low k hk; omega, fun k hk => ?_, fun k hk h0 => ?_, fun k hk h0 hne => ?_⟩
  · by_cases h0 : 0 ≤ l.getD k 0
    · rcases (hF.come k hk h0).from with ⟨_, h2⟩ | ⟨j, hh, hc, hj, hin, he⟩
      · omega
      · obtain ⟨_, e, h0'⟩ := hF.come_eq hc
        have := (badB_low (hF.thru j hj (by omega)).1).2.1
        rw [he, ← e]
        exact this
    · omega
  · obtain ⟨t1, t2⟩ := hF.thru k hk h0
    rw [getD_eq hk] at t1 t2
    obtain ⟨a1, a2, a3⟩ := badB_low t1
    refine ⟨a1, a2, fun h12 => ?_, t2⟩
    have h3 := a3 h12
    have ht : takesOf p F.code[k] = 1 := by unfold takesOf; rw [if_neg (by omega), if_pos (by omega)]
    have hl : leavesOf F.code[k] = 0 := by unfold leavesOf; rw [if_pos (by omega)]
    unfold nOf at h3
    omega
  · rcases (hF.come k hk h0).from with ⟨h1, _⟩ | ⟨j, hh, hc, hj, hin, _⟩
    · exact absurd h1 hne
    · obtain ⟨_, e, h0'⟩ := hF.come_eq hc
      rw [getD_eq hj] at hin
      exact ⟨j, hj, by rw [e]; exact h0', hin⟩

theorem eff_right {p : List GFunc} {F : GFunc} (hR : RightF p F) {x : GOp} (hx : x ∈ F.code) : effErr p x = 0 ∧ effTakes p x = takesOf p x ∧ effLeaves p x = leavesOf x := by
  obtain ⟨k0, k1, a0, _, ac, _⟩ := hR.op x hx
  have h : effErr p x = 0 := by unfold effErr; rw [if_neg (by omega), if_neg (fun h => h.2 ⟨a0, ac h.1⟩)]
  unfold effTakes effLeaves
  rw [if_pos h, if_pos h]
  exact ⟨h, rfl, rfl⟩

/-! Heights hang on nothing but how many args those have that are called. -/

theorem goT {p q : List GFunc} (ht : ∀ x, takesOf p x = takesOf q x) (x : GOp) (h : Int) : nOf p x h = nOf q x h ∧ badB p x h = badB q x h := by
  have : nOf p x h = nOf q x h := by unfold nOf; rw [ht]
  exact ⟨this, by unfold badB; rw [ht, this]⟩
theorem wl_same {p q : List GFunc} (ht : ∀ x, takesOf p x = takesOf q x) (code : List GOp) : ∀ (f : Nat) (out : List Int) (work : List Nat), wl p code f out work = wl q code f out work
  | 0, _, _ => rfl
  | _ + 1, _, [] => rfl
  | f + 1, out, k :: work => by
    unfold wl
    rw [(goT ht _ _).2, (goT ht _ _).1]
    split
    · rfl
    · split
      · rfl
      · exact wl_same ht code f _ _
theorem hts_same {p q : List GFunc} (ht : ∀ x, takesOf p x = takesOf q x) (code : List GOp) : hts p code = hts q code := by
  unfold hts; rw [wl_same ht]

/-- The same but for other functions' ops. -/
structure Sim (p q : List GFunc) : Prop where
  len : q.length = p.length
  same : ∀ k, (hp : k < p.length) → (hq : k < q.length) → q[k].args = p[k].args ∧ q[k].locals = p[k].locals

theorem Sim.getD {p q : List GFunc} (h : Sim p q) (k : Nat) : (q.getD k default).args = (p.getD k default).args ∧ (q.getD k default).locals = (p.getD k default).locals := by
  by_cases hk : k < p.length
  · have hq : k < q.length := by rw [h.len]; exact hk
    simp only [List.getD, List.getElem?_eq_getElem hk, List.getElem?_eq_getElem hq, Option.getD_some]
    exact h.same k hk hq
  · have hq : ¬ k < q.length := by rw [h.len]; exact hk
    simp [List.getD, List.getElem?_eq_none (by omega : p.length ≤ k), List.getElem?_eq_none (by omega : q.length ≤ k)]
theorem Sim.takes {p q : List GFunc} (h : Sim p q) (x : GOp) : takesOf q x = takesOf p x := by unfold takesOf; rw [(h.getD _).1]
theorem Sim.sized {p q : List GFunc} (h : Sim p q) (k : Nat) : sizedB (q.getD k default) = sizedB (p.getD k default) := by unfold sizedB; rw [(h.getD _).1, (h.getD _).2]
theorem Sim.opsErr {p q : List GFunc} (h : Sim p q) {F G : GFunc} (hl : F.locals = G.locals) (hc : F.code = G.code) : ∀ l : List GOp, opsErr q F l = opsErr p G l
  | [] => rfl
  | x :: l => by
    have : opErr q F x = opErr p G x := by unfold opErr mostOf; rw [hl, hc, h.len, h.sized, (h.getD _).1]
    unfold Proofs.Ytfajkebkhdcapaa.opsErr
    rw [this, Sim.opsErr h hl hc l]
theorem Sim.funcErr {p q : List GFunc} (h : Sim p q) {f : Int} (hc : (q.getD f.toNat default).code = (p.getD f.toNat default).code) : funcErr q f = funcErr p f := by
  unfold Proofs.Ytfajkebkhdcapaa.funcErr
  rw [h.len, hc, h.sized, h.opsErr (h.getD f.toNat).2 hc]
theorem Sim.heights {p q : List GFunc} (h : Sim p q) {f : Int} (hc : (q.getD f.toNat default).code = (p.getD f.toNat default).code) : hErr q f = hErr p f ∧ hList q f = hList p f := by
  unfold hErr hList
  rw [h.funcErr hc, hc, hts_same (fun x => h.takes x)]
  exact ⟨rfl, rfl⟩

theorem hErr_inv {p : List GFunc} {f : Int} (h : hErr p f = 0) : ∃ (n : Nat) (hn : n < p.length), f = n ∧ RightF p p[n] ∧ HFacts p p[n].code (hList p f) := by
  by_cases h0 : funcErr p f = 0
  · obtain ⟨n, hn, rfl, hg, hR⟩ := hts_here h0
    cases hh : hts p (p.getD (n : Int).toNat default).code with
    | none => rw [(hErr_none h0 hh).1] at h; cases h
    | some l =>
      refine ⟨n, hn, rfl, hR, ?_⟩
      rw [(hErr_some h0 hh).2]
      rw [hg] at hh
      exact hfacts hR hh
  · rw [(hErr_bad h0).1] at h; exact absurd h h0
end Go.Proofs.Ytfajkebkhdcapaa
end
