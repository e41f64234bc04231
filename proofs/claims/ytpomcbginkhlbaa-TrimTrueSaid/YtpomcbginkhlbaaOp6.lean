/- Contract of the document's FuncError. -/
import Derived.Test.YtpomcbginkhlbaaOp5
set_option maxHeartbeats 1000000
set_option maxRecDepth 100000
namespace Go.Proofs.Ytpomcbginkhlbaa
open Go Go.RowKit

theorem funcError_any (p : List GFunc) (v : Value) (S : Nat → Prop) (f : Int) (w : World) (hp : Funcs w S v p) :
    Calls Try.prog 41 #[v, .int .i64 f] w fun e w' => e = .returned (.int .i64 (funcErr p f)) ∧ Ext w w' := by
  by_cases hf : 0 ≤ f ∧ f < p.length
  · obtain ⟨h0, h1⟩ := hf
    obtain ⟨n, rfl⟩ := Int.eq_ofNat_of_zero_le h0
    have hn : n < p.length := by omega
    have hp0 := hp
    obtain ⟨b, o, cap, rfl, hcap, hby, hA, hL, vc, hC, hcode⟩ := hp.get hn
    have hA1 := hA.2.1
    have hL1 := hL.2.1
    obtain ⟨ca, ccap, rfl, hcc, hcby, hops⟩ := hcode
    have HF : Hid (funcErr p n = if 24 < p[n].code.length then 2 else if sizedB p[n] = false then 3 else opsErr p p[n] p[n].code) := by
      unfold funcErr Hid
      rw [if_neg (by omega)]
      have : p.getD (n : Int).toNat default = p[n] := by simp [List.getD, List.getElem?_eq_getElem hn]
      rw [this]
    have RA := alloc_keep
    rw [HF.out]
    have hin : (n : Int) ≤ (p.length : Int) - 1 := by omega
    clear hA hL HF h0
    by_cases hm : 24 < p[n].code.length
    · rw [if_pos hm]
      go_enter Try.func41, Try.ntmps41
      go_wp2_with (first
        | (go_at_call 46; refine (within_any _ _ _ _).mono ?_; rintro e w1 ⟨rfl, rfl⟩))
      go_ret
      exact ⟨rfl, by ((repeat (first | assumption | exact Ext.refl _ | (exact And.left (by assumption)) | refine Ext.alloc ?_ _ | refine Ext.drew ?_ | refine Ext.drewN ?_ _ | refine Ext.setCell ?_ (by simp) _ | refine Ext.setCell ?_ (by simp; omega) _ | refine Ext.trans ?_ (by assumption))); done)⟩
    · rw [if_neg hm]
      have hm' : p[n].code.length ≤ 24 := by omega
      clear hm
      cases hs : sizedB p[n]
      · rw [if_pos rfl]
        have hsb : (!sizedB ⟨p[n].args, p[n].locals, p[n].code⟩) = true := by simpa using hs
        go_enter Try.func41, Try.ntmps41
        go_wp2_with (first
          | (go_at_call 46; refine (within_any _ _ _ _).mono ?_; rintro e w1 ⟨rfl, rfl⟩)
          | (go_at_call 61; refine (badArgs_any _ _ _ p[n].code _).mono ?_; rintro e w1 ⟨rfl, hb⟩))
        go_ret
        exact ⟨rfl, by ((repeat (first | assumption | exact Ext.refl _ | (exact And.left (by assumption)) | refine Ext.alloc ?_ _ | refine Ext.drew ?_ | refine Ext.drewN ?_ _ | refine Ext.setCell ?_ (by simp) _ | refine Ext.setCell ?_ (by simp; omega) _ | refine Ext.trans ?_ (by assumption))); done)⟩
      · rw [if_neg (by decide)]
        have hsb : (!sizedB ⟨p[n].args, p[n].locals, p[n].code⟩) = false := by simpa using hs
        have hsz : 0 ≤ p[n].locals ∧ p[n].locals ≤ 4 := by unfold sizedB at hs; simp at hs; omega
        go_enter Try.func41, Try.ntmps41
        go_wp2_with (first
          | (go_at_call 46; refine (within_any _ _ _ _).mono ?_; rintro e w1 ⟨rfl, rfl⟩)
          | (go_at_call 61; refine (badArgs_any _ _ _ p[n].code _).mono ?_; rintro e w1 ⟨rfl, hb⟩))
        go_loopw [5] (fun i wr => ∃ k : Nat, k ≤ p[n].code.length ∧ i = .int .i64 k ∧ Ext w wr ∧ opsErr p p[n] (p[n].code.drop k) = opsErr p p[n] p[n].code) (fun i _ => p[n].code.length - (intOf i).toNat)
        case atStart => exact ⟨0, Nat.zero_le _, rfl, hb, rfl⟩
        case round =>
          obtain ⟨k, hkl, rfl, hbr, hrest⟩ := hrel
          have HR := Lib.hid hrest
          have HB := Lib.hid hbr
          have hcr := Ext.keep hbr
          clear hrest hbr
          by_cases hlt : k < p[n].code.length
          · obtain ⟨cb, co, rfl, ⟨_, o0, _⟩, _, o1, _⟩ := hops k hlt
            have HD : Hid (opErr p p[n] p[n].code[k] = 0 → _) := fun h => opsErr_drop p p[n] p[n].code k hlt h
            have HH : Hid (opErr p p[n] p[n].code[k] ≠ 0 → _) := fun h => opsErr_hit p p[n] p[n].code k hlt h
            generalize hx : p[n].code[k] = x at *
            clear hx hops
            by_cases hz : opErr p p[n] x = 0
            · have TZ : (opErr p p[n] x != 0) = false := by simp [hz]
              have HZ := Lib.hid hz
              clear hz
              go_wp2_with (first
                | (go_at_call 62; refine (opError_any p _ S n x _ (Funcs.stays HB.out.stays hp0) (by omega) (by omega) hsz.1 hsz.2 hm').mono ?_; rintro e w1 ⟨rfl, hb1⟩))
              go_roundw
              case rel => exact ⟨k + 1, by omega, by go_num, HB.out.trans hb1, by rw [← HR.out]; exact (HD.out HZ.out).symm⟩
              case measure => simp [intOf]; omega
            · have TZ : (opErr p p[n] x != 0) = true := by simp [hz]
              have HZ := Lib.hid hz
              clear hz
              go_wp2_with (first
                | (go_at_call 62; refine (opError_any p _ S n x _ (Funcs.stays HB.out.stays hp0) (by omega) (by omega) hsz.1 hsz.2 hm').mono ?_; rintro e w1 ⟨rfl, hb1⟩))
              go_ret
              exact ⟨ret_int (by rw [← HR.out, HH.out HZ.out]), HB.out.trans hb1⟩
          · have hk' : k = p[n].code.length := by omega
            subst hk'
            go_wp2
            go_ret
            exact ⟨ret_int (by rw [← HR.out]; simp [opsErr]), HB.out⟩
  · have HF : funcErr p f = 5 := by unfold funcErr; rw [if_pos hf]
    rw [HF]
    obtain ⟨a, cap, rfl, hcap, hby, _⟩ := hp
    by_cases h0 : 0 ≤ f
    · have h1 : decide (f ≤ (p.length : Int) - 1) = false := by simp; omega
      clear hf
      go_enter Try.func41, Try.ntmps41
      go_wp2_with (first
        | (go_at_call 46; refine (within_any _ _ _ _).mono ?_; rintro e w1 ⟨rfl, rfl⟩))
      go_ret
      exact ⟨rfl, Ext.refl _⟩
    · have h1 : decide (0 ≤ f) = false := by simp; omega
      clear hf
      go_enter Try.func41, Try.ntmps41
      go_wp2_with (first
        | (go_at_call 46; refine (within_any _ _ _ _).mono ?_; rintro e w1 ⟨rfl, rfl⟩))
      go_ret
      exact ⟨rfl, Ext.refl _⟩
end Go.Proofs.Ytpomcbginkhlbaa
