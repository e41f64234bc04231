/- Merged texts: contracts and plain facts, one part behind another; each part begins with what it says. -/
import Derived.Test.YtpcjkfppacnkgaaGreatDoorGNBD
import Derived.Test.YtpcjkfppacnkgaaGreatDoorGNBH
section
/- deskBegun: what must be in any case. No condition. -/
set_option maxHeartbeats 4000000
set_option maxRecDepth 100000
namespace Go.Proofs.YtpcjkfppacnkgaaGreatDoor
open Go Go.RowKit

def scA : By := [107, 105, 110, 100, 115, 10, 108, 105, 110, 101, 10, 115, 116, 101, 112, 32, 54, 10, 107, 105, 110, 100, 115, 10, 108, 105, 110, 101, 10, 111, 117, 116, 10, 115, 116, 101, 112, 32, 53, 48, 48, 10, 111, 117, 116, 10, 107, 105, 110, 100, 115, 10, 108, 105, 110, 101, 10, 104, 101, 105, 103, 104, 116, 115, 32, 50, 10, 104, 101, 105, 103, 104, 116, 115, 32, 51, 10, 116, 114, 105, 109, 10, 97, 103, 97, 105, 110, 10, 115, 116, 101, 112, 32, 53, 48, 49, 10, 115, 116, 101, 112, 10, 111, 117, 116, 10]
def ouA : By := [49, 10, 48, 10, 54, 10, 50, 32, 49, 10, 49, 32, 48, 10, 45, 10, 50, 50, 10, 55, 32, 56, 32, 57, 57, 10, 48, 32, 48, 10, 45, 10, 48, 32, 49, 32, 50, 32, 49, 10, 101, 114, 114, 111, 114, 32, 53, 10, 50, 56, 10, 111, 107, 10, 101, 114, 114, 111, 114, 32, 51, 10, 101, 114, 114, 111, 114, 32, 49, 10, 45, 10]
def prB : By := [102, 117, 110, 99, 32, 48, 32, 48, 10, 112, 117, 115, 104, 32, 49, 10, 121, 105, 101, 108, 100, 10, 114, 101, 116, 117, 114, 110, 10]
def scB : By := [115, 116, 101, 112, 32, 53, 10, 115, 116, 101, 112, 32, 53, 10]
def ouB : By := [49, 32, 101, 114, 114, 111, 114, 32, 55, 10, 48, 32, 101, 114, 114, 111, 114, 32, 55, 10]
theorem begun_a : playOfT (textP countP) scA = (ouA, 0) := by decide +kernel
theorem begun_b : playOfT prB scB = (ouB, 0) := by decide +kernel
theorem begun_p : progErr countP = 0 := by decide
theorem deskBegun_any (w : World) (hg : Glob w) : Calls Tryz.prog 9 #[] w fun e w' => e = .returned (.bool true) ∧ Ext w w' := by
  have HG := Lib.hid hg
  obtain ⟨T, hT⟩ : ∃ T, textP countP = T := ⟨_, rfl⟩
  obtain ⟨OA, hOA⟩ : ∃ Y : ByteArray, (⟨ouA.toArray⟩ : ByteArray) = Y := ⟨_, rfl⟩
  obtain ⟨OB, hOB⟩ : ∃ Y : ByteArray, (⟨ouB.toArray⟩ : ByteArray) = Y := ⟨_, rfl⟩
  have HSH : Hid (∀ (v : Value) (w : World), Glob w → Funcs w (fun _ => True) v countP → Calls Tryz.prog 11 #[v] w fun e w' => e = .returned (.tuple #[.string ⟨T.toArray⟩, .int .i64 0]) ∧ Ext w w') := by
    unfold Hid
    intro v w hg hv
    refine (show_any countP v _ w hg hv).mono ?_
    rintro e w' ⟨rfl, hx⟩
    refine ⟨?_, hx⟩
    unfold showT
    rw [if_pos begun_p, begun_p, hT]
  have HPA : Hid (∀ w, Glob w → Calls Tryz.prog 7 #[.string ⟨T.toArray⟩, .string ⟨scA.toArray⟩] w fun e w' => e = .returned (.tuple #[.string OA, .int .i64 0]) ∧ Ext w w') := by
    unfold Hid
    intro w hg
    refine (play_any T scA w hg).mono ?_
    rintro e w' ⟨rfl, hx⟩
    rw [← hT, begun_a, ← hOA]
    exact ⟨rfl, hx⟩
  have HPB : Hid (∀ w, Glob w → Calls Tryz.prog 7 #[.string ⟨prB.toArray⟩, .string ⟨scB.toArray⟩] w fun e w' => e = .returned (.tuple #[.string OB, .int .i64 0]) ∧ Ext w w') := by
    unfold Hid
    intro w hg
    refine (play_any prB scB w hg).mono ?_
    rintro e w' ⟨rfl, hx⟩
    rw [begun_b, ← hOB]
    exact ⟨rfl, hx⟩
  obtain ⟨SA, hSA⟩ : ∃ Y : ByteArray, (⟨scA.toArray⟩ : ByteArray) = Y := ⟨_, rfl⟩
  obtain ⟨SB, hSB⟩ : ∃ Y : ByteArray, (⟨scB.toArray⟩ : ByteArray) = Y := ⟨_, rfl⟩
  obtain ⟨PB, hPB⟩ : ∃ Y : ByteArray, (⟨prB.toArray⟩ : ByteArray) = Y := ⟨_, rfl⟩
  rw [hSA] at HPA
  rw [hSB, hPB] at HPB
  unfold scA at hSA
  unfold scB at hSB
  unfold prB at hPB
  unfold ouA at hOA
  unfold ouB at hOB
  have HSA := Lib.hid hSA
  have HSB := Lib.hid hSB
  have HPRB := Lib.hid hPB
  have HOA := Lib.hid hOA
  have HOB := Lib.hid hOB
  clear hg hT hOA hOB hSA hSB hPB
  go_enter Tryz.func9, Tryz.ntmps9
  go_upto_region 2 with (first
    | (go_at_call 35; refine (count_any _).mono ?_; rintro e w1 ⟨⟨v1, rfl, hv1⟩, hb1⟩; have hfA := Lib.hid hv1.funcs)
    | (go_at_call 11; (with_reducible refine (HSH.out _ _ (HG.out.ext hb1) hfA.out).mono ?_); rintro e w2 ⟨rfl, hb2⟩; have E2 := Lib.hid (hb1.trans hb2)))
  dsimp only [List.append]
  rw [HSA.out]
  go_upto_region 3 with (first
    | (go_at_call 7; (with_reducible refine (HPA.out _ (HG.out.ext E2.out)).mono ?_); rintro e w3 ⟨rfl, hb3⟩; have E3 := Lib.hid (E2.out.trans hb3)))
  rw [HPRB.out, HSB.out]
  go_upto_region 4 with (first
    | (go_at_call 7; (with_reducible refine (HPB.out _ (HG.out.ext E3.out)).mono ?_); rintro e w4 ⟨rfl, hb4⟩; have E4 := Lib.hid (E3.out.trans hb4)))
  dsimp only [List.append]
  rw [HOA.out, HOB.out]
  go_wp2_with fail
  go_ret
  exact ⟨rfl, E4.out⟩
end Go.Proofs.YtpcjkfppacnkgaaGreatDoor
end
section
/- What playing a step and an out gives, plain. No program in sight; no condition. -/
set_option maxHeartbeats 1000000
namespace Go.Proofs.YtpcjkfppacnkgaaGreatDoor
open Go Go.RowKit

theorem shown_read {p : List GFunc} (h : progErr p = 0) : readT (textP p) = (0, p) := by
  unfold readT
  have := textP_len h
  rw [if_neg (by omega), read_back h]
  simp only
  rw [if_pos ⟨h, trivial⟩]
theorem play_step {p : List GFunc} {s : GState} {m : Nat} (hm : m ≤ 500) : playG p s (stepT ++ 32 :: Lib.itoa m) = ((runG p m s).1, ranT (runG p m s)) := by
  have hfree : (32 : UInt8) ∉ Lib.itoa m := itoa_free _ _ (by decide)
  have hin : (32 : UInt8) ∈ stepT ++ 32 :: Lib.itoa m := by simp
  have hne : ∀ c : By, (32 : UInt8) ∉ c → stepT ++ 32 :: Lib.itoa m ≠ c := fun c hc e => hc (e ▸ hin)
  have hw : wordG p s (stepT ++ 32 :: Lib.itoa m) = none := by
    unfold wordG
    rw [if_neg (hne _ (by decide)), if_neg (hne _ (by decide)), if_neg (hne _ (by decide)), if_neg (hne _ (by decide)), if_neg (hne _ (by decide))]
  have hs : splitC 32 (stepT ++ 32 :: Lib.itoa m) = [stepT, Lib.itoa m] := by rw [splitC_piece _ _ _ (by decide), splitC_last _ _ hfree]
  obtain ⟨⟨op, rest, f⟩, hc⟩ : ∃ z, Lib.cut (stepT ++ 32 :: Lib.itoa m) [32] = z := ⟨_, rfl⟩
  have hor : op = stepT ∧ rest = Lib.itoa m := by
    rcases cut_cases (stepT ++ 32 :: Lib.itoa m) with ⟨h, _⟩ | ⟨a, r, h1, h2, h3⟩
    · exact absurd hin h
    · rw [h3] at hc
      simp only [Prod.mk.injEq] at hc
      obtain ⟨rfl, rfl, -⟩ := hc
      have h4 := hs
      rw [h2, splitC_piece _ _ _ h1] at h4
      simp only [List.cons.injEq] at h4
      obtain ⟨rfl, -⟩ := h4
      have h5 := List.append_cancel_left h2
      simp only [List.cons.injEq, true_and] at h5
      exact ⟨rfl, h5.symm⟩
  obtain ⟨rfl, rfl⟩ := hor
  have hg : goodN (Lib.itoa m) m := ⟨atoiO_small (by omega) (by omega), by omega, itoa_len (by omega) (by omega), rfl⟩
  rw [play_good hw hc hg, if_pos rfl]
  unfold stepN
  rw [if_neg (by omega), Int.toNat_natCast]
theorem steps_play {p : List GFunc} (hz : progErr p = 0) {m : Nat} (hm : m ≤ 500) :
    playOfT (textP p) ((stepT ++ 32 :: Lib.itoa m) ++ 10 :: (outT ++ [10])) = (ranT (runG p m (beginG p)) ++ 10 :: (listT (runG p m (beginG p)).1.out ++ [10]), 0) := by
  have hr := shown_read hz
  have hfree : (10 : UInt8) ∉ Lib.itoa m := itoa_free _ _ (by decide)
  have hl1 : (10 : UInt8) ∉ stepT ++ 32 :: Lib.itoa m := by
    intro h
    rcases List.mem_append.1 h with h | h
    · exact absurd h (by decide)
    · rcases List.mem_cons.1 h with h | h
      · exact absurd h (by decide)
      · exact hfree h
  have hil := itoa_len (n := (m : Int)) (by omega) (by omega)
  obtain ⟨_, hpl⟩ := play_read ((stepT ++ 32 :: Lib.itoa m) ++ 10 :: (outT ++ [10])) (q := textP p) (by rw [hr])
  rw [hpl, hr]
  have hc : ((stepT ++ 32 :: Lib.itoa m) ++ 10 :: (outT ++ [10])).count 10 = 2 := by
    rw [List.count_append, List.count_eq_zero.2 hl1, List.count_cons, List.count_append]
    rfl
  have hlen : ((stepT ++ 32 :: Lib.itoa m) ++ 10 :: (outT ++ [10])).length ≤ 8192 := by
    have h1 : stepT.length = 4 := rfl
    have h2 : outT.length = 3 := rfl
    simp only [List.length_append, List.length_cons, List.length_nil]
    omega
  have hlast : ((stepT ++ 32 :: Lib.itoa m) ++ 10 :: (outT ++ [10])).getLast? = some 10 := by
    rw [List.getLast?_append]
    rfl
  rw [if_neg (by rw [hc]; omega), if_neg (fun h => h.2 hlast)]
  have hls : linesT ((stepT ++ 32 :: Lib.itoa m) ++ 10 :: (outT ++ [10])) = [stepT ++ 32 :: Lib.itoa m, outT] := by
    unfold linesT
    rw [splitC_piece _ _ _ hl1]
    have : outT ++ [10] = outT ++ (10 :: [] : By) := rfl
    rw [this, splitC_piece _ _ _ (by decide)]
    rfl
  rw [hls]
  simp only [playT, play_step hm]
  rfl
theorem words_list {l : List Int} (h : l ≠ []) : (wordsI [] l).drop 1 = listT l := by
  cases l with
  | nil => exact absurd rfl h
  | cons n l =>
    unfold listT
    rw [if_neg (by simp)]
    simp [wordsI, joinI]
theorem words_pos {l : List Int} (h : l ≠ []) : 1 ≤ (wordsI [] l).length := by
  cases l with
  | nil => exact absurd rfl h
  | cons n l => simp [wordsI]
end Go.Proofs.YtpcjkfppacnkgaaGreatDoor
end
section
/- The document's RunOf, of states that fit; after: a state that comes of count(). -/
set_option maxHeartbeats 4000000
set_option maxRecDepth 100000
namespace Go.Proofs.YtpcjkfppacnkgaaGreatDoor
open Go Go.RowKit

end Go.Proofs.YtpcjkfppacnkgaaGreatDoor
end
section
/- Contracts of step.Do and run.Run, All: what they answer, whatever they are handed. -/
set_option maxHeartbeats 4000000
set_option maxRecDepth 100000
namespace Go.Proofs.YtpcjkfppacnkgaaGreatDoor
open Go Go.RowKit

def allG (p : List GFunc) (fuel : Int) : List Int × Int × Int :=
  if ¬ (0 ≤ fuel ∧ fuel ≤ 500) then ([], 0, 3) else if progErr p ≠ 0 then ([], 0, progErr p) else ((runG p fuel.toNat (beginG p)).1.out, (runG p fuel.toNat (beginG p)).2.1, (runG p fuel.toNat (beginG p)).2.2)

theorem fuelled_any (n : Int) (w : World) : Calls Tryz.prog 40 #[.int .i64 n] w fun e w' => e = .returned (.bool (decide (0 ≤ n ∧ n ≤ 500))) ∧ w = w' := by
  by_cases h : 0 ≤ n
  · have T1 : decide (0 ≤ n) = true := decide_eq_true h
    have e : decide (0 ≤ n ∧ n ≤ 500) = decide (n ≤ 500) := decide_eq_decide.2 ⟨fun k => k.2, fun k => ⟨h, k⟩⟩
    rw [e]
    clear h e
    go_enter Tryz.func40, Tryz.ntmps40
    go_wp2_with fail
    go_ret
    exact ⟨rfl, rfl⟩
  · have T1 : decide (0 ≤ n) = false := decide_eq_false h
    have e : decide (0 ≤ n ∧ n ≤ 500) = false := decide_eq_false (fun k => h k.1)
    rw [e]
    clear h e
    go_enter Tryz.func40, Tryz.ntmps40
    go_wp2_with fail
    go_ret
    exact ⟨rfl, rfl⟩

end Go.Proofs.YtpcjkfppacnkgaaGreatDoor
end
