/- Contracts of package op and of the document's answers on ops, third part. -/
import Derived.Test.YtpomcbginkhlbaaOp2
set_option maxHeartbeats 400000
set_option maxRecDepth 100000
namespace Go.Proofs.Ytpomcbginkhlbaa
open Go Go.RowKit

theorem known_true {k : Int} (h : 0 ≤ k) (h' : k ≤ 16) : knownB k = true := by unfold knownB; simp; omega
theorem known_false {k : Int} (h : ¬ (0 ≤ k ∧ k ≤ 16)) : knownB k = false := by unfold knownB; simp; omega

theorem effect_any (p : List GFunc) (v : Value) (S : Nat → Prop) (x : GOp) (w : World) (hp : Funcs w S v p) :
    Calls Try.prog 27 #[v, .agg #[.int .i64 x.kind, .int .i64 x.a]] w fun e w' => e = .returned (.tuple #[.int .i64 (effTakes p x), .int .i64 (effLeaves p x), .int .i64 (effErr p x)]) ∧ Ext w w' := by
  have e0 : Ext w (w.alloc (.cells #[.int .i64 x.kind, .int .i64 x.a] 58)) := (Ext.refl w).alloc _
  have hp0 := hp
  obtain ⟨a, cap, rfl, hcap, hby, hp⟩ := hp
  clear hp
  have HE : effErr p x = effErr p x := rfl
  conv at HE => rhs; unfold effErr
  unfold effTakes effLeaves
  by_cases hk : 0 ≤ x.kind ∧ x.kind ≤ 16
  · have KT := known_true hk.1 hk.2
    rw [if_neg (by omega)] at HE
    obtain ⟨hk, hk'⟩ := hk
    by_cases h11 : x.kind = 11 ∧ ¬ (0 ≤ x.a ∧ x.a < p.length)
    · rw [if_pos h11] at HE
      rw [HE, if_neg (by decide), if_neg (by decide)]
      obtain ⟨h11, hr⟩ := h11
      have T11 : (x.kind == 11) = true := by simp [h11]
      clear HE h11
      by_cases h0 : x.a < 0
      · go_enter Try.func27, Try.ntmps27
        go_wp2_with (first
          | (go_at_call 50; refine (known_any _ _).mono ?_; rintro e w1 ⟨rfl, rfl⟩))
        go_ret3
        exact ⟨rfl, e0⟩
      · have h1 : (p.length : Int) ≤ x.a := by omega
        go_enter Try.func27, Try.ntmps27
        go_wp2_with (first
          | (go_at_call 50; refine (known_any _ _).mono ?_; rintro e w1 ⟨rfl, rfl⟩))
        go_ret3
        exact ⟨rfl, e0⟩
    · rw [if_neg h11] at HE
      rw [HE, if_pos rfl, if_pos rfl]
      clear HE
      have hA : x.kind = 11 → 0 ≤ x.a ∧ x.a < p.length := fun h => by
        by_cases hr : 0 ≤ x.a ∧ x.a < p.length
        · exact hr
        · exact absurd ⟨h, hr⟩ h11
      have HA := Lib.hid hA
      clear h11
      by_cases h11 : x.kind = 11
      · obtain ⟨hr0, hr1⟩ := hA h11
        have T11 : (x.kind == 11) = true := by simp [h11]
        clear hA h11
        go_enter Try.func27, Try.ntmps27
        go_wp2_with (first
          | (go_at_call 50; refine (known_any _ _).mono ?_; rintro e w1 ⟨rfl, rfl⟩)
          | (go_at_call 51; refine (opOf_any p _ S x _ (Funcs.stays e0.stays hp0) hk hk' HA.out).mono ?_; rintro e w1 ⟨rfl, hb⟩))
        go_ret3
        exact ⟨rfl, by ((repeat (first | assumption | exact Ext.refl _ | (exact And.left (by assumption)) | refine Ext.alloc ?_ _ | refine Ext.drew ?_ | refine Ext.drewN ?_ _ | refine Ext.setCell ?_ (by simp) _ | refine Ext.setCell ?_ (by simp; omega) _ | refine Ext.trans ?_ (by assumption))); done)⟩
      · have T11 : (x.kind == 11) = false := by simp [h11]
        clear hA h11
        go_enter Try.func27, Try.ntmps27
        go_wp2_with (first
          | (go_at_call 50; refine (known_any _ _).mono ?_; rintro e w1 ⟨rfl, rfl⟩)
          | (go_at_call 51; refine (opOf_any p _ S x _ (Funcs.stays e0.stays hp0) hk hk' HA.out).mono ?_; rintro e w1 ⟨rfl, hb⟩))
        go_ret3
        exact ⟨rfl, by ((repeat (first | assumption | exact Ext.refl _ | (exact And.left (by assumption)) | refine Ext.alloc ?_ _ | refine Ext.drew ?_ | refine Ext.drewN ?_ _ | refine Ext.setCell ?_ (by simp) _ | refine Ext.setCell ?_ (by simp; omega) _ | refine Ext.trans ?_ (by assumption))); done)⟩
  · have KT := known_false hk
    rw [if_pos hk] at HE
    rw [HE, if_neg (by decide), if_neg (by decide)]
    clear HE
    go_enter Try.func27, Try.ntmps27
    go_wp2_with (first
          | (go_at_call 50; refine (known_any _ _).mono ?_; rintro e w1 ⟨rfl, rfl⟩))
    go_ret3
    exact ⟨rfl, e0⟩

theorem leaves_any (x : GOp) (w : World) (hk : 0 ≤ x.kind) (hk' : x.kind ≤ 16) :
    Calls Try.prog 64 #[.agg #[.int .i64 x.kind, .int .i64 x.a]] w fun e w' => e = .returned (.int .i64 (leavesOf x)) ∧ Ext w w' := by
  have e0 : Ext w (w.alloc (.cells #[.int .i64 x.kind, .int .i64 x.a] 58)) := (Ext.refl w).alloc _
  go_enter Try.func64, Try.ntmps64
  go_wp2
  all_goals (go_ret; refine ⟨ret_int ?_, e0⟩; unfold leavesOf; split <;> simp at * <;> omega)

theorem takes_any (p : List GFunc) (v : Value) (S : Nat → Prop) (x : GOp) (w : World) (hp : Funcs w S v p) (hk : 0 ≤ x.kind) (hk' : x.kind ≤ 16) (ha : x.kind = 11 → 0 ≤ x.a ∧ x.a < p.length) :
    Calls Try.prog 63 #[v, .agg #[.int .i64 x.kind, .int .i64 x.a]] w fun e w' => e = .returned (.int .i64 (takesOf p x)) ∧ Ext w w' := by
  have e0 : Ext w (w.alloc (.cells #[.int .i64 x.kind, .int .i64 x.a] 58)) := (Ext.refl w).alloc _
  by_cases h11 : x.kind = 11
  · obtain ⟨h0, h1⟩ := ha h11
    obtain ⟨k, xa⟩ := x
    simp at h11 h0 h1
    subst h11
    obtain ⟨b, o, cap, rfl, hcap, _, hf0, _⟩ := hp.get (i := xa.toNat) (by omega)
    have hff := hf0.2.1
    have RA := alloc_keep
    clear hp hf0 ha
    go_enter Try.func63, Try.ntmps63
    go_wp2
    go_ret
    refine ⟨ret_int ?_, e0⟩
    simp [takesOf]
    rw [List.getElem?_eq_getElem (by omega)]
    rfl
  · clear ha hp
    go_enter Try.func63, Try.ntmps63
    go_wp2
    all_goals first
      | (go_ret; refine ⟨ret_int ?_, e0⟩; unfold takesOf; (repeat' split) <;> simp at * <;> omega)
      | (exfalso; simp at *; omega)

end Go.Proofs.Ytpomcbginkhlbaa
