/- choose of the laws, and what a right function's ops are. -/
import Derived.Test.YtpomcbginkhlbaaOp3
import Derived.WalkKit
set_option maxHeartbeats 400000
set_option maxRecDepth 100000
namespace Go.Proofs.Ytpomcbginkhlbaa
open Go Go.RowKit

def chooseOf (c n : Int) : Int := (if c < 0 then -(c + 1) else c) % n
theorem chooseOf_lt (c n : Int) (hn : 0 < n) : 0 ≤ chooseOf c n ∧ chooseOf c n < n := ⟨Int.emod_nonneg _ (by omega), Int.emod_lt_of_pos _ hn⟩

theorem choose_any (c n : Int) (w : World) (hc : I64 c) (hn : 0 < n) (hn' : n ≤ 140737488355328) :
    Calls Try.prog 17 #[.int .i64 c, .int .i64 n] w fun e w' => e = .returned (.int .i64 (chooseOf c n)) ∧ w = w' := by
  unfold I64 at hc
  obtain ⟨hc0, hc1⟩ := hc
  unfold chooseOf
  by_cases h : c < 0
  · rw [if_pos h]
    go_enter Try.func17, Try.ntmps17
    go_wp2
    go_ret
    exact ⟨ret_int (by show -(c + 1).tmod n = -(c + 1) % n; rw [← Int.neg_tmod, Int.tmod_eq_emod_of_nonneg (by omega)]), rfl⟩
  · rw [if_neg h]
    go_enter Try.func17, Try.ntmps17
    go_wp2
    go_ret
    exact ⟨rfl, rfl⟩

theorem ok_ops {p : List GFunc} {f : GFunc} : ∀ {l : List GOp}, opsErr p f l = 0 → ∀ x ∈ l, opErr p f x = 0
  | [], _, x, hx => absurd hx (by simp)
  | y :: l, h, x, hx => by
    have hy : opErr p f y = 0 := by
      by_cases h0 : opErr p f y = 0
      · exact h0
      · simp [opsErr, h0] at h
    rcases List.mem_cons.1 hx with rfl | hx
    · exact hy
    · exact ok_ops (by simpa [opsErr, hy] using h) x hx

theorem ok_op {p : List GFunc} {f : Int} (h : funcErr p f = 0) (h0 : 0 ≤ f) (h1 : f < p.length) {k : Nat} (hk : k < p[f.toNat].code.length) : opErr p p[f.toNat] p[f.toNat].code[k] = 0 := by
  unfold funcErr at h
  rw [if_neg (by omega)] at h
  have e : p.getD f.toNat default = p[f.toNat] := by simp [List.getD, List.getElem?_eq_getElem (show f.toNat < p.length by omega)]
  rw [e] at h
  by_cases h2 : 24 < p[f.toNat].code.length
  · rw [if_pos h2] at h; omega
  · rw [if_neg h2] at h
    by_cases h3 : sizedB p[f.toNat] = false
    · rw [if_pos h3] at h; omega
    · rw [if_neg h3] at h
      exact ok_ops h _ (List.getElem_mem hk)

/-- What holds of a right op. -/
theorem ok_facts {p : List GFunc} {f : GFunc} {x : GOp} (h : opErr p f x = 0) : 0 ≤ x.kind ∧ x.kind ≤ 16 ∧ 0 ≤ x.a ∧ x.a ≤ mostOf p f x.kind ∧
    (x.kind = 11 ∨ x.kind = 13 → sizedB (p.getD x.a.toNat default) = true) ∧ (x.kind = 13 → (p.getD x.a.toNat default).args = 1) := by
  unfold opErr at h
  by_cases h1 : ¬ (0 ≤ x.kind ∧ x.kind ≤ 16)
  · rw [if_pos h1] at h; omega
  · rw [if_neg h1] at h
    by_cases h2 : ¬ (0 ≤ x.a ∧ x.a ≤ mostOf p f x.kind)
    · rw [if_pos h2] at h; omega
    · rw [if_neg h2] at h
      by_cases h3 : (x.kind = 11 ∨ x.kind = 13) ∧ sizedB (p.getD x.a.toNat default) = false
      · rw [if_pos h3] at h; omega
      · rw [if_neg h3] at h
        by_cases h4 : x.kind = 13 ∧ (p.getD x.a.toNat default).args ≠ 1
        · rw [if_pos h4] at h; omega
        · refine ⟨by omega, by omega, by omega, by omega, fun hk => ?_, fun hk => ?_⟩
          · cases hs : sizedB (p.getD x.a.toNat default)
            · exact absurd ⟨hk, hs⟩ h3
            · rfl
          · by_cases ha : (p.getD x.a.toNat default).args = 1
            · exact ha
            · exact absurd ⟨hk, ha⟩ h4

end Go.Proofs.Ytpomcbginkhlbaa
