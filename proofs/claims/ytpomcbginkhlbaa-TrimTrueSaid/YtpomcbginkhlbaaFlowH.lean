/- Contracts of flow.Heights, the document's HeightsOf, SameInts and next. -/
import Derived.Test.YtpomcbginkhlbaaFlowO
import Derived.Test.YtpomcbginkhlbaaFlowR
import Derived.Test.YtpomcbginkhlbaaOp4
import Derived.Test.YtpomcbginkhlbaaOp6
set_option maxHeartbeats 2000000
set_option maxRecDepth 100000
namespace Go.Proofs.Ytpomcbginkhlbaa
open Go Go.RowKit

/-- The error of Heights, and the heights. -/
def hErr (p : List GFunc) (f : Int) : Int := if funcErr p f ≠ 0 then funcErr p f else if hts p (p.getD f.toNat default).code = none then 1 else 0
def hList (p : List GFunc) (f : Int) : List Int := if funcErr p f ≠ 0 then [] else (hts p (p.getD f.toNat default).code).getD []

theorem hErr_bad {p : List GFunc} {f : Int} (h : funcErr p f ≠ 0) : hErr p f = funcErr p f ∧ hList p f = [] := by
  simp [hErr, hList, h]
theorem hErr_none {p : List GFunc} {f : Int} (h : funcErr p f = 0) (hn : hts p (p.getD f.toNat default).code = none) : hErr p f = 1 ∧ hList p f = [] := by
  simp only [hErr, hList, h, hn]; simp
theorem hErr_some {p : List GFunc} {f : Int} {l : List Int} (h : funcErr p f = 0) (hn : hts p (p.getD f.toNat default).code = some l) : hErr p f = 0 ∧ hList p f = l := by
  simp only [hErr, hList, h, hn]; simp

def HRet (B : Nat) (p : List GFunc) (f : Int) (e : Ending) (w' : World) : Prop := ∃ v, e = .returned (.tuple #[v, .int .i64 (hErr p f)]) ∧ Ints w' (B ≤ ·) v (hList p f)

theorem hts_here {p : List GFunc} {f : Int} (h : funcErr p f = 0) : ∃ (n : Nat) (hn : n < p.length), f = n ∧ p.getD f.toNat default = p[n] ∧ RightF p p[n] := by
  obtain ⟨h0, h1, hR⟩ := funcErr_zero h
  have hn : f.toNat < p.length := by omega
  exact ⟨f.toNat, hn, by omega, by simp [List.getD, List.getElem?_eq_getElem hn], hR hn⟩

theorem flowHeights_any (p : List GFunc) (v : Value) (S : Nat → Prop) (f : Int) (w : World) (hp : Funcs w S v p) :
    Calls Try.prog 18 #[v, .int .i64 f] w fun e w' => HRet w.heap.size p f e w' ∧ Ext w w' := by
  have HP := Lib.hid hp
  obtain ⟨a, cap, rfl, _, _, _⟩ := hp
  by_cases h0 : funcErr p f = 0
  · obtain ⟨n, hn, rfl, hg, hR⟩ := hts_here h0
    have H0 := Lib.hid h0
    clear h0
    cases hh : hts p p[n].code with
    | none =>
      have hx := hErr_none H0.out (by rw [hg]; exact hh)
      have HH := Lib.hid hh
      clear hh
      go_enter Try.func18, Try.ntmps18
      go_wp2_with (first
        | (go_at_call 39; (with_reducible refine (flowOf_any p _ S n _ (Funcs.stays (Ext.stays hb) HP.out) hn hR).mono ?_); rintro e w2 ⟨hr, hb2⟩; rw [HH.out] at hr; obtain rfl := hr)
        | (go_at_call 38; (with_reducible refine (check_any p _ S n _ HP.out).mono ?_); rintro e w1 ⟨rfl, hb⟩; rw [H0.out]))
      go_ret2
      exact ⟨⟨_, by rw [hx.1]; rfl, by rw [hx.2]; exact Sl.nil _ _ _⟩, hb.trans hb2⟩
    | some l =>
      have hx := hErr_some H0.out (by rw [hg]; exact hh)
      have HH := Lib.hid hh
      clear hh
      go_enter Try.func18, Try.ntmps18
      go_wp2_with (first
        | (go_at_call 39; (with_reducible refine (flowOf_any p _ S n _ (Funcs.stays (Ext.stays hb) HP.out) hn hR).mono ?_); rintro e w2 ⟨hr, hb2⟩; rw [HH.out] at hr; obtain ⟨vl, rfl, hl⟩ := hr; obtain ⟨al, cl, rfl, _, _, _⟩ := (⟨hl, trivial⟩ : _ ∧ True).1)
        | (go_at_call 38; (with_reducible refine (check_any p _ S n _ HP.out).mono ?_); rintro e w1 ⟨rfl, hb⟩; rw [H0.out]))
      go_ret2
      exact ⟨⟨_, by rw [hx.1]; rfl, by rw [hx.2]; exact Ints.stays (Stays.widen (fun b hB => Nat.le_trans hb.size hB)) hl⟩, hb.trans hb2⟩
  · have hx := hErr_bad h0
    obtain ⟨r, hr⟩ : ∃ r, funcErr p f = r := ⟨_, rfl⟩
    rw [hr] at hx h0
    have HR := Lib.hid hr
    clear hr
    have TB : (r != 0) = true := bne_iff_ne.2 h0
    clear h0
    go_enter Try.func18, Try.ntmps18
    go_wp2_with (first
      | (go_at_call 38; (with_reducible refine (check_any p _ S f _ HP.out).mono ?_); rintro e w1 ⟨rfl, hb⟩; rw [HR.out]))
    go_ret2
    exact ⟨⟨_, by rw [hx.1]; rfl, by rw [hx.2]; exact Sl.nil _ _ _⟩, hb⟩
theorem heightsOf_any (p : List GFunc) (v : Value) (S : Nat → Prop) (f : Int) (w : World) (hp : Funcs w S v p) :
    Calls Try.prog 34 #[v, .int .i64 f] w fun e w' => HRet w.heap.size p f e w' ∧ Ext w w' := by
  have HP := Lib.hid hp
  obtain ⟨a, cap, rfl, _, _, _⟩ := hp
  by_cases h0 : funcErr p f = 0
  · obtain ⟨n, hn, rfl, hg, hR⟩ := hts_here h0
    have H0 := Lib.hid h0
    clear h0
    cases hh : hts p p[n].code with
    | none =>
      have hx := hErr_none H0.out (by rw [hg]; exact hh)
      have HH := Lib.hid hh
      clear hh
      go_enter Try.func34, Try.ntmps34
      go_wp2_with (first
        | (go_at_call 42; (with_reducible refine (heights_any p _ S n _ (Funcs.stays (Ext.stays hb) HP.out) hn hR).mono ?_); rintro e w2 ⟨hr, hb2⟩; rw [htsR_eq hR.jumps, HH.out] at hr; obtain rfl := hr)
        | (go_at_call 41; (with_reducible refine (funcError_any p _ S n _ HP.out).mono ?_); rintro e w1 ⟨rfl, hb⟩; rw [H0.out]))
      go_ret2
      exact ⟨⟨_, by rw [hx.1]; rfl, by rw [hx.2]; exact Sl.nil _ _ _⟩, hb.trans hb2⟩
    | some l =>
      have hx := hErr_some H0.out (by rw [hg]; exact hh)
      have HH := Lib.hid hh
      clear hh
      go_enter Try.func34, Try.ntmps34
      go_wp2_with (first
        | (go_at_call 42; (with_reducible refine (heights_any p _ S n _ (Funcs.stays (Ext.stays hb) HP.out) hn hR).mono ?_); rintro e w2 ⟨hr, hb2⟩; rw [htsR_eq hR.jumps, HH.out] at hr; obtain ⟨vl, rfl, hl⟩ := hr; obtain ⟨al, cl, rfl, _, _, _⟩ := (⟨hl, trivial⟩ : _ ∧ True).1)
        | (go_at_call 41; (with_reducible refine (funcError_any p _ S n _ HP.out).mono ?_); rintro e w1 ⟨rfl, hb⟩; rw [H0.out]))
      go_ret2
      exact ⟨⟨_, by rw [hx.1]; rfl, by rw [hx.2]; exact Ints.stays (Stays.widen (fun b hB => Nat.le_trans hb.size hB)) hl⟩, hb.trans hb2⟩
  · have hx := hErr_bad h0
    obtain ⟨r, hr⟩ : ∃ r, funcErr p f = r := ⟨_, rfl⟩
    rw [hr] at hx h0
    have HR := Lib.hid hr
    clear hr
    have TB : (r != 0) = true := bne_iff_ne.2 h0
    clear h0
    go_enter Try.func34, Try.ntmps34
    go_wp2_with (first
      | (go_at_call 41; (with_reducible refine (funcError_any p _ S f _ HP.out).mono ?_); rintro e w1 ⟨rfl, hb⟩; rw [HR.out]))
    go_ret2
    exact ⟨⟨_, by rw [hx.1]; rfl, by rw [hx.2]; exact Sl.nil _ _ _⟩, hb⟩
end Go.Proofs.Ytpomcbginkhlbaa
