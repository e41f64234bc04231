/- Contract of the document's Effect. -/
import Derived.Test.YtpiechbjponicaaOp3
set_option maxHeartbeats 1000000
set_option maxRecDepth 100000
namespace Go.Proofs.Ytpiechbjponicaa
open Go Go.RowKit

theorem effectOf_any (p : List GFunc) (v : Value) (S : Nat → Prop) (x : GOp) (w : World) (hp : Funcs w S v p) :
    Calls Try.prog 14 #[v, .agg #[.int .i64 x.kind, .int .i64 x.a]] w fun e w' => e = .returned (.tuple #[.int .i64 (effTakes p x), .int .i64 (effLeaves p x), .int .i64 (effErr p x)]) ∧ Ext w w' := by
  have e0 : Ext w (w.alloc (.cells #[.int .i64 x.kind, .int .i64 x.a] 24)) := (Ext.refl w).alloc _
  have hp0 := hp
  obtain ⟨a, cap, rfl, hcap, hby, hp⟩ := hp
  clear hp
  have HE : effErr p x = effErr p x := rfl
  conv at HE => rhs; unfold effErr
  unfold effTakes effLeaves
  by_cases hk : 0 ≤ x.kind ∧ x.kind ≤ 16
  · have KT : decide (0 ≤ x.kind ∧ x.kind ≤ 16) = true := by simpa using hk
    rw [if_neg (by omega)] at HE
    obtain ⟨hk, hk'⟩ := hk
    by_cases h11 : x.kind = 11 ∧ ¬ (0 ≤ x.a ∧ x.a < p.length)
    · rw [if_pos h11] at HE
      rw [HE, if_neg (by decide), if_neg (by decide)]
      obtain ⟨h11, hr⟩ := h11
      have T11 : (x.kind == 11) = true := by simp [h11]
      clear HE h11
      by_cases KN : 0 ≤ x.a
      · have KR : decide (x.a ≤ (p.length : Int) - 1) = false := by simp; omega
        go_enter Try.func14, Try.ntmps14
        go_wp2_with (first
          | (go_at_call 38; refine (within_any _ _ _ _).mono ?_; rintro e w1 ⟨rfl, rfl⟩))
        go_ret3
        exact ⟨rfl, e0⟩
      · have KR : decide (0 ≤ x.a) = false := by simp; omega
        go_enter Try.func14, Try.ntmps14
        go_wp2_with (first
          | (go_at_call 38; refine (within_any _ _ _ _).mono ?_; rintro e w1 ⟨rfl, rfl⟩))
        go_ret3
        exact ⟨rfl, e0⟩
    · rw [if_neg h11] at HE
      rw [HE, if_pos rfl, if_pos rfl]
      clear HE
      have hA : x.kind = 11 → 0 ≤ x.a ∧ x.a < p.length := fun h => by
        by_cases hr : 0 ≤ x.a ∧ x.a < p.length
        · exact hr
        · exact absurd ⟨h, hr⟩ h11
      have HA := Lib.hid hA
      clear h11
      by_cases h11 : x.kind = 11
      · obtain ⟨hr0, hr1⟩ := hA h11
        have T11 : (x.kind == 11) = true := by simp [h11]
        have KR : x.a ≤ (p.length : Int) - 1 := by omega
        clear hA h11
        go_enter Try.func14, Try.ntmps14
        go_wp2_with (first
          | (go_at_call 38; refine (within_any _ _ _ _).mono ?_; rintro e w1 ⟨rfl, rfl⟩)
          | (go_at_call 39; refine (takes_any p _ S x _ (Funcs.stays e0.stays hp0) hk hk' HA.out).mono ?_; rintro e w1 ⟨rfl, hb⟩))
        refine wp_region_ext (by kernel_rfl) (by kernel_rfl) ?_
        repeat (first
          | go_big_quiet_skip
          | (go_big_quiet_want
             unfold Oper.quiet
             apply Exists.intro
             refine ⟨fun w' hw' => ?_, ?_⟩
             focus
               have hcq := Ext.keep hw'
               go_simp
               first
                 | with_reducible rfl
                 | ((go_at_call 39; refine (takes_any p _ S x _ (Funcs.stays (Ext.stays (e0.trans hw')) hp0) hk hk' HA.out).mono ?_; rintro e w1 ⟨rfl, hb⟩; exact ⟨rfl, hw'.trans hb⟩)) | ((go_at_call 40; refine (leaves_any x _ hk hk').mono ?_; rintro e w1 ⟨rfl, hb⟩; exact ⟨rfl, hw'.trans hb⟩))
             (try dsimp only [Act.put])
             (try simp only [List.setIfInBounds_toArray, List.set_cons_succ, List.set_cons_zero])
             go_big_quiet_on))
        refine wpQuiet_nil ?_
        intro wq hq
        go_wp2
        go_ret3
        exact ⟨rfl, by ((repeat (first | assumption | exact Ext.refl _ | (exact And.left (by assumption)) | refine Ext.alloc ?_ _ | refine Ext.drew ?_ | refine Ext.drewN ?_ _ | refine Ext.setCell ?_ (by simp) _ | refine Ext.setCell ?_ (by simp; omega) _ | refine Ext.trans ?_ (by assumption))); done)⟩
      · have T11 : (x.kind == 11) = false := by simp [h11]
        clear hA h11
        go_enter Try.func14, Try.ntmps14
        go_wp2_with (first
          | (go_at_call 38; refine (within_any _ _ _ _).mono ?_; rintro e w1 ⟨rfl, rfl⟩)
          | (go_at_call 39; refine (takes_any p _ S x _ (Funcs.stays e0.stays hp0) hk hk' HA.out).mono ?_; rintro e w1 ⟨rfl, hb⟩))
        refine wp_region_ext (by kernel_rfl) (by kernel_rfl) ?_
        repeat (first
          | go_big_quiet_skip
          | (go_big_quiet_want
             unfold Oper.quiet
             apply Exists.intro
             refine ⟨fun w' hw' => ?_, ?_⟩
             focus
               have hcq := Ext.keep hw'
               go_simp
               first
                 | with_reducible rfl
                 | ((go_at_call 39; refine (takes_any p _ S x _ (Funcs.stays (Ext.stays (e0.trans hw')) hp0) hk hk' HA.out).mono ?_; rintro e w1 ⟨rfl, hb⟩; exact ⟨rfl, hw'.trans hb⟩)) | ((go_at_call 40; refine (leaves_any x _ hk hk').mono ?_; rintro e w1 ⟨rfl, hb⟩; exact ⟨rfl, hw'.trans hb⟩))
             (try dsimp only [Act.put])
             (try simp only [List.setIfInBounds_toArray, List.set_cons_succ, List.set_cons_zero])
             go_big_quiet_on))
        refine wpQuiet_nil ?_
        intro wq hq
        go_wp2
        go_ret3
        exact ⟨rfl, by ((repeat (first | assumption | exact Ext.refl _ | (exact And.left (by assumption)) | refine Ext.alloc ?_ _ | refine Ext.drew ?_ | refine Ext.drewN ?_ _ | refine Ext.setCell ?_ (by simp) _ | refine Ext.setCell ?_ (by simp; omega) _ | refine Ext.trans ?_ (by assumption))); done)⟩
  · have KT : decide (0 ≤ x.kind ∧ x.kind ≤ 16) = false := by simpa using hk
    rw [if_pos hk] at HE
    rw [HE, if_neg (by decide), if_neg (by decide)]
    clear HE
    go_enter Try.func14, Try.ntmps14
    go_wp2_with (first
        | (go_at_call 38; refine (within_any _ _ _ _).mono ?_; rintro e w1 ⟨rfl, rfl⟩))
    go_ret3
    exact ⟨rfl, e0⟩
end Go.Proofs.Ytpiechbjponicaa
