/- Contracts: math/bits.Mul64, math/bits.Mul, slices.Repeat of one -1, N times, N from 1 to 24. -/
import Derived.Test.YtpomcbginkhlbaaRowI
import Derived.Shelf.Bits.Mul64
import Derived.Deep.RegionLaw
import Derived.Laws.CopyOwn
set_option maxHeartbeats 2000000
set_option maxRecDepth 100000
namespace Go.Proofs.Ytpomcbginkhlbaa
open Go Go.RowKit Go.Lib

theorem mul64_any (x y : Nat) (hx : x < 18446744073709551616) (hy : y < 18446744073709551616) (w : World) :
    Calls Try.prog 86 #[.int .u64 x, .int .u64 y] w fun e w' => e = .returned (.tuple #[.int .u64 ((x * y / 18446744073709551616 : Nat) : Int), .int .u64 ((x * y % 18446744073709551616 : Nat) : Int)]) ∧ w = w' := by
  obtain ⟨bd, bt, bw, hhi⟩ := Lib.mul64_hi x y hx hy
  have ba := Lib.half_mul_le (a := x / 4294967296) (b := y / 4294967296) (by omega) (by omega)
  have bb := Lib.half_mul_le (a := x / 4294967296) (b := y % 4294967296) (by omega) (by omega)
  have bc := Lib.half_mul_le (a := x % 4294967296) (b := y / 4294967296) (by omega) (by omega)
  have ba' : x / 4294967296 * (y / 4294967296) < 18446744073709551616 := by omega
  have bb' : x / 4294967296 * (y % 4294967296) < 18446744073709551616 := by omega
  have bc' : x % 4294967296 * (y / 4294967296) < 18446744073709551616 := by omega
  have bh1 : x / 4294967296 * (y / 4294967296) + (x / 4294967296 * (y % 4294967296) + x % 4294967296 * (y % 4294967296) / 4294967296) / 4294967296 < 18446744073709551616 := by omega
  have bh : x / 4294967296 * (y / 4294967296) + (x / 4294967296 * (y % 4294967296) + x % 4294967296 * (y % 4294967296) / 4294967296) / 4294967296 + ((x / 4294967296 * (y % 4294967296) + x % 4294967296 * (y % 4294967296) / 4294967296) % 4294967296 + x % 4294967296 * (y / 4294967296)) / 4294967296 < 18446744073709551616 := by omega
  go_enter Try.func86, Try.ntmps86
  go_wp2
  simp only [Mul64.maskN x hx, Mul64.maskN y hy, Mul64.divN, Mul64.mulN, Mul64.addN, Mul64.wrapN _ bd, Mul64.wrapN _ bb', Mul64.wrapN _ bt, Mul64.maskN _ bt, Mul64.wrapN _ bc', Mul64.wrapN _ bw, Mul64.wrapN _ ba', Mul64.wrapN _ bh1, Mul64.wrapN _ bh, Mul64.wrapM (x * y)]
  rw [hhi]
  go_ret2
  exact ⟨rfl, rfl⟩

theorem mul_any (y : Nat) (hy : y < 18446744073709551616) (w : World) :
    Calls Try.prog 77 #[.int .u64 1, .int .u64 y] w fun e w' => e = .returned (.tuple #[.int .u64 0, .int .u64 y]) ∧ w = w' := by
  have c := mul64_any 1 y (by omega) hy w
  rw [Nat.one_mul, Nat.mod_eq_of_lt hy, Nat.div_eq_of_lt hy] at c
  go_enter Try.func77, Try.ntmps77
  go_wp2_with (first
    | (go_at_call 86; refine c.mono ?_; rintro e w1 ⟨rfl, rfl⟩))
  go_ret2
  exact ⟨rfl, rfl⟩

/-- What lies in the row when k are laid. -/
def repL (N k : Nat) : List Value := ints (List.replicate k (-1) ++ List.replicate (N - k) 0)
theorem repL_len {N k : Nat} (h : k ≤ N) : (repL N k).length = N := by simp [repL, ints]; omega

theorem infoIs : (Try.prog.info? 3).map (·.size) = some 1 := by kernel_rfl

theorem repL_splice {N k m : Nat} (_h : k + m ≤ N) : splice (repL N k) k (ints (List.replicate m (-1))) = repL N (k + m) := by
  unfold splice repL ints
  simp only [List.map_append, List.map_replicate, List.length_replicate]
  rw [List.take_left' (by simp), List.drop_append]
  simp only [List.length_replicate, List.drop_replicate]
  rw [show k - (k + m) = 0 by omega, show k + m - k = m by omega, show N - k - m = N - (k + m) by omega, List.replicate_zero, List.nil_append, ← List.append_assoc, List.replicate_append_replicate]

theorem repeat_any (v : Value) (bx ox cx N : Nat) (hN : 1 ≤ N) (hN' : N ≤ 24) (w : World) (hv : v = .slice (some ⟨bx, ox, none⟩) 1 cx) (hc : w.cell? ⟨bx, ox, none⟩ = some (.int .i64 (-1))) :
    Calls Try.prog 58 #[v, .int .i64 N] w fun e w' => e = .returned (.slice (some ⟨w.heap.size, 0, none⟩) N N) ∧ Ext w w' ∧ w'.heap[w.heap.size]? = some (.cells (repL N N).toArray 3 (0, 0)) := by
  subst hv
  have RA := alloc_keep
  obtain ⟨i0, hi0, hz0, hz1, hz2⟩ := info_parts infoI
  have HM := Lib.hid (mul_any N (by omega))
  have KW : IntKind.u64.wrap (N : Int) = N := by rw [IntKind.wrap_u64]; omega
  have KW2 : IntKind.i64.wrap (N : Int) = N := IntWalk.i64_in _ (by omega)
  have KN : ¬ (N : Int) < 0 := by omega
  have KL : ¬ (N : Int) > 9223372036854775807 := by omega
  have hb := lt_of_cell hc
  go_enter Try.func58, Try.ntmps58
  go_upto_region 7 with (first
    | (go_at_call 77; refine (HM.out _).mono ?_; rintro e w1 ⟨rfl, rfl⟩)
    | (at_make; refine wpList_make_full _ rfl _ _ 37 rfl w.heap.size 3 i0 (.int .i64 0) 1 Try.underlying37 hi0 hz0 hz1 .i64 .i64 _ _ N rfl rfl rfl rfl (by rw [hz2]; omega) (by unfold maxLen; omega) (Nat.le_refl _) ?_; intro w1 hown1 hgr1))
  have hE : Ext w w1 := ext_none hgr1
  have hg1 : w1.heap[w.heap.size]? = some (.cells (repL N 0).toArray 3 (0, 0)) := by
    rcases hown1.2 with ⟨h, h'⟩ | ⟨g, cap, cur, e, _, hg, _, _, hcs, htk⟩
    · omega
    · simp only [Value.slice.injEq, Option.some.injEq, Addr.mk.injEq] at e
      obtain ⟨⟨rfl, -⟩, -, rfl⟩ := e
      rw [hg]
      congr 2
      rw [← Array.toArray_toList (xs := cur)]
      congr 1
      rw [List.take_of_length_le (by simp; omega)] at htk
      rw [htk, show (Value.int IntKind.i64 0).cells = #[.int .i64 0] from rfl, toList_madeCells_one, Nat.mul_one]
      simp [repL, ints]
  have hc1 := Ext.cell hE hc
  have HMIN : (ints (List.replicate 1 (-1))).length = Nat.min 1 N := by rw [show Nat.min 1 N = 1 from Nat.min_eq_left hN]; rfl
  have HFIT : 0 + (ints (List.replicate 1 (-1))).length ≤ (repL N 0).length := by rw [repL_len (by omega)]; simp [ints]; omega
  have HSRC : ∀ (j : Nat) (v : Value), (ints (List.replicate 1 (-1)))[j]? = some v → w1.cell? ((⟨bx, ox, none⟩ : Addr).add j) = some v := fun j v hj => by
    match j, hj with
    | 0, hj => cases hj; rw [Addr.add_zero']; exact hc1
  clear hown1 hgr1
  go_wp2_with (first
    | (refine wpList_copy_splice rfl _ _ 37 37 rfl 3 Try.underlying37 infoIs _ _ _ _ _ _ rfl rfl w.heap.size 0 (repL N 0) 3 hg1 (ints (List.replicate 1 (-1))) HMIN (fun _ => ⟨rfl, _, rfl, HSRC⟩) HFIT (by simp [ints, Value.oneCell']) w.heap.size w hE (Nat.le_refl _) ?_; intro w2 hg2 hE2))
  have HG2 : Hid (w2.heap[w.heap.size]? = some (.cells (repL N 1).toArray 3 (0, 0))) := by
    have := hg2.out
    rwa [repL_splice (by omega)] at this
  have HE2 : Hid (Ext w w2) := Lib.hid hE2
  clear hg2 hE2 hg1 hE hc1
  go_loopw [8] (fun q wr => ∃ k : Nat, 1 ≤ k ∧ k ≤ N ∧ q = .int .i64 k ∧ Ext w wr ∧ wr.heap[w.heap.size]? = some (.cells (repL N k).toArray 3 (0, 0))) (fun q _ => N - (intOf q).toNat)
  case atStart => exact ⟨1, by omega, hN, rfl, HE2.out, HG2.out⟩
  case round =>
    obtain ⟨k, hk1, hkN, rfl, he3, hg3⟩ := hrel
    have HE3 := Lib.hid he3
    have HG3 := Lib.hid hg3
    clear he3 hg3 HE2 HG2
    by_cases hlt : k < N
    · have hne : ¬ N = k := by omega
      have hne2 : ¬ N - k = 0 := by omega
      have hle : k ≤ N := hkN
      obtain ⟨m, hm⟩ : ∃ m, Nat.min k (N - k) = m := ⟨_, rfl⟩
      have hm1 : 1 ≤ m ∧ m ≤ k ∧ k + m ≤ N := by
        rw [← hm]
        have h1 := Nat.min_le_left k (N - k)
        have h2 := Nat.min_le_right k (N - k)
        have h3 : 1 ≤ min k (N - k) := Nat.le_min.2 ⟨hk1, by omega⟩
        exact ⟨h3, h1, by have : Nat.min k (N - k) ≤ N - k := h2; omega⟩
      obtain ⟨hm1, hm2, hm3⟩ := hm1
      have HMIN : (ints (List.replicate m (-1))).length = Nat.min k (N - k) := by rw [hm]; simp [ints]
      have HFIT : k + (ints (List.replicate m (-1))).length ≤ (repL N k).length := by rw [repL_len (by omega)]; simp [ints]; omega
      have HSRC : ∀ (j : Nat) (v : Value), (ints (List.replicate m (-1)))[j]? = some v → wr.drew.cell? ((⟨w.heap.size, 0, none⟩ : Addr).add j) = some v := fun j v hj => by
        have hj' : j < m := by
          have := (List.getElem?_eq_some_iff.1 hj).1
          simpa [ints] using this
        show wr.cell? _ = _
        rw [Addr.add_lit, cell_of_row wr _ _ _ _ (0, 0) HG3.out, Nat.zero_add]
        rw [← hj]
        simp only [repL, ints, List.getElem?_toArray, List.map_append, List.map_replicate]
        rw [List.getElem?_append_left (by simp; omega), List.getElem?_replicate, List.getElem?_replicate, if_pos (by omega), if_pos hj']
      have HGI : goInt (ints (List.replicate m (-1))).length = .int .i64 (m : Int) := by simp [ints, goInt]
      have HMI : Hid ((m : Int) = ((ints (List.replicate m (-1))).length : Int)) := by unfold Hid; simp [ints]
      have KK : IntKind.i64.wrap ((k : Int) + (m : Int)) = (k : Int) + m := IntWalk.i64_in _ (by omega)
      go_wp2_with fail
      go_region_law (refine step_copy_splice rfl (.tmp 41) (.tmp 44) 37 37 rfl 3 Try.underlying37 infoIs (some ⟨w.heap.size, k, none⟩) (some ⟨w.heap.size, 0, none⟩) (N - k) (N - k) k N (by simp [Act.eval, Act.put]) (by simp [Act.eval, Act.put]) w.heap.size k (repL N k) 3 (by exact HG3.out) (ints (List.replicate m (-1))) HMIN (fun _ => ⟨rfl, _, rfl, HSRC⟩) HFIT (by simp [ints, Value.oneCell']) w.heap.size w HE3.out.drew (Nat.le_refl _) ?_; rw [HGI]; intro w4 hg4 hb4)
      have hg5 := hg4.out
      rw [repL_splice hm3] at hg5
      clear hg4
      simp only [Act.put, List.getElem_toArray, List.getElem_cons_succ, List.getElem_cons_zero, List.setIfInBounds_toArray, List.set_cons_succ, List.set_cons_zero]
      go_wp2_with fail
      go_roundw
      case rel => exact ⟨k + m, by omega, by omega, by go_num, hb4, hg5⟩
      case measure => simp [intOf]; omega
    · obtain rfl : k = N := by omega
      go_wp2_with fail
      go_ret
      exact ⟨rfl, HE3.out, HG3.out⟩
end Go.Proofs.Ytpomcbginkhlbaa
