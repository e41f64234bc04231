/- Merged texts: contracts and plain facts, one part behind another; each part begins with what it says. -/
import Derived.Test.YtpcjkfppacnkgaaGreatDoorGKAQ
import Derived.Test.YtpcjkfppacnkgaaGreatDoorGKAS
section
/- textBegun: what must be in any case of the text laws. No condition. -/
set_option maxHeartbeats 4000000
set_option maxRecDepth 100000
namespace Go.Proofs.YtpcjkfppacnkgaaGreatDoor
open Go Go.RowKit

theorem flat_last : ∀ (ls : List By), ls.flatMap (· ++ [10]) = [] ∨ ∃ l, ls.flatMap (· ++ [10]) = l ++ [(10 : UInt8)]
  | [] => .inl rfl
  | x :: ls => by
    rw [List.flatMap_cons]
    rcases flat_last ls with h | ⟨l, h⟩
    · exact .inr ⟨x, by rw [h, List.append_nil]⟩
    · exact .inr ⟨x ++ [10] ++ l, by rw [h]; simp⟩
/-- What does not end with a line's end is not read. -/
theorem readT_open {s : By} (hl : s.length ≤ 8192) {l : By} {b : UInt8} (hs : s = l ++ [b]) (hb : b ≠ 10) : readT s = (1, []) := by
  unfold readT
  rw [if_neg (by omega)]
  cases readR s with
  | none => rfl
  | some p =>
    simp only
    rw [if_neg]
    rintro ⟨_, h⟩
    unfold textP at h
    rcases flat_last (linesP p) with h1 | ⟨m, h1⟩
    · rw [h1] at h; rw [← h] at hs; simp at hs
    · rw [h1, hs] at h
      have := congrArg List.getLast? h
      simp at this
      exact hb this.symm
theorem readT_text {p : List GFunc} (h : progErr p = 0) : readT (textP p) = (0, p) := by
  unfold readT
  have := textP_len h
  rw [if_neg (by omega), read_back h]
  simp only
  rw [if_pos ⟨h, trivial⟩]
theorem tcount : 30 < (textP countP).length ∧ (textP countP).take 30 = [102, 117, 110, 99, 32, 48, 32, 49, 10, 109, 97, 107, 101, 32, 49, 10, 115, 116, 111, 114, 101, 32, 48, 10, 108, 111, 97, 100, 32, 48] := by decide +kernel
def badS : By := [102, 117, 110, 99, 32, 48, 32, 48, 10, 112, 117, 115, 104, 32, 49, 10, 114, 101, 116, 117, 114, 110]
theorem readT_bad : readT badS = (1, []) := readT_open (l := badS.dropLast) (b := 110) (by decide) (by decide) (by decide)
theorem head30 : ((⟨([102, 117, 110, 99, 32, 48, 32, 49, 10, 109, 97, 107, 101, 32, 49, 10, 115, 116, 111, 114, 101, 32, 48, 10, 108, 111, 97, 100, 32, 48] : By).toArray⟩ : ByteArray).toList == ((⟨([102, 117, 110, 99, 32, 48, 32, 49, 10, 109, 97, 107, 101, 32, 49, 10, 115, 116, 111, 114, 101, 32, 48, 10, 108, 111, 97, 100, 32, 48] : By).toArray⟩ : ByteArray).extract 0 30).toList) = true := by
  rw [extract_by]
  exact beq_self_eq_true _
theorem textBegun_any (w : World) (hg : Glob w) : Calls Tryz.prog 17 #[] w fun e w' => e = .returned (.bool true) ∧ Ext w w' := by
  have HG := Lib.hid hg
  obtain ⟨t, ht⟩ : ∃ t, textP countP = t := ⟨_, rfl⟩
  have HSH : Hid (showT countP = t) := by unfold Hid showT; rw [if_pos pe_count, ht]
  have HRT : Hid (readT t = (0, countP)) := by unfold Hid; rw [← ht]; exact readT_text pe_count
  obtain ⟨X, hX⟩ : ∃ X : ByteArray, (⟨t.toArray⟩ : ByteArray) = X := ⟨_, rfl⟩
  have HX := Lib.hid hX
  have HN : 30 < X.size := by rw [← hX, size_by, ← ht]; exact tcount.1
  have HEX : Hid (X.extract 0 30 = ⟨[102, 117, 110, 99, 32, 48, 32, 49, 10, 109, 97, 107, 101, 32, 49, 10, 115, 116, 111, 114, 101, 32, 48, 10, 108, 111, 97, 100, 32, 48].toArray⟩) := by
    unfold Hid; rw [← hX, extract_by, ← ht, tcount.2]; rfl
  have HRD : Hid (∀ w, Glob w → Calls Tryz.prog 16 #[.string X] w fun e w' => ReadRet w t e w' ∧ Ext w w') := by
    unfold Hid; intro w hg; rw [← hX]; exact read_any t w hg
  clear hg hX
  go_enter Tryz.func17, Tryz.ntmps17
  go_upto_region 2 with (first
    | (go_at_call 35; refine (count_any _).mono ?_; rintro e w1 ⟨⟨v1, rfl, hv1⟩, hb1⟩; have hfA := Lib.hid hv1.funcs)
    | (go_at_call 11; (with_reducible refine (show_any countP _ _ _ (HG.out.ext hb1) hfA.out).mono ?_); rintro e w2 ⟨rfl, hb2⟩; rw [HSH.out, HX.out, pe_count]))
  have HE2 := Lib.hid (hb1.trans hb2)
  clear hfA hv1 hb1 hb2
  rename World => u2
  go_upto_region 3 with (first
    | (go_at_call 16; (with_reducible refine (HRD.out _ (HG.out.ext HE2.out)).mono ?_); rintro e w3 ⟨⟨v3, fs3, he, hr3, hf3⟩, hb3⟩; rw [HRT.out] at he hf3; obtain rfl := he))
  have HF3 := Lib.hid (hr3.funcs (fun _ => True) (fun _ _ => trivial))
  rw [hf3] at HF3
  obtain ⟨a3, c3, rfl, _, _⟩ := hr3.row.shape
  have HE3 := Lib.hid (HE2.out.trans hb3)
  clear hr3 hf3 hb3
  rename World => u3
  have HBAD : Hid (Calls Tryz.prog 16 #[.string ⟨badS.toArray⟩] u3 fun e w' => ∃ v, e = .returned (.tuple #[v, .int .i64 1]) ∧ Ext u3 w') := by
    refine (read_any badS _ (HG.out.ext HE3.out)).mono ?_
    rintro e w' ⟨⟨v, fs, rfl, _, _⟩, hx⟩
    rw [readT_bad]
    exact ⟨v, rfl, hx⟩
  unfold badS at HBAD
  go_upto_region 4 with (first
    | (go_at_call 16; refine HBAD.out.mono ?_; rintro e w4 ⟨v4, rfl, hb4⟩))
  have E4 := Lib.hid (HE3.out.trans hb4)
  have HB4 := Lib.hid hb4
  clear hb4 HBAD
  rename World => u4
  have TL : decide ((30 : Int) < (X.size : Int)) = true := decide_eq_true (by omega)
  clear HRD ht
  refine wp_region_rw (fun _ => True) 26 [0, 1, 2, 3, 4, 5, 6, 7, 8, 9, 10, 11] 15 (by kernel_rfl) (by kernel_rfl) (fun _ _ _ _ _ h => h) trivial ?_
  (try simp only [pickOps, List.filterMap_cons, List.filterMap_nil, List.getElem?_cons_zero, List.getElem?_cons_succ])
  repeat (
    refine readsQ_do (by rfl) ?_
    apply Exists.intro
    refine ⟨fun w' hw' => ?_, ?_⟩
    focus
      (try dsimp only at hw')
      go_split_ands
      go_simp
      (try with_reducible rfl)
    (try dsimp only [Act.put])
    (try simp only [List.setIfInBounds_toArray, List.set_cons_succ, List.set_cons_zero]))
  refine readsQ_nil ?_
  refine wpAnyW_one 12 (by kernel_rfl) rfl ?_
  go_wp2_with (first | (go_at_call 35; refine (count_any _).mono ?_; rintro e w5 ⟨⟨v5, rfl, hv5⟩, hb5⟩))
  have HF5 := Lib.hid hv5.funcs
  have HB5 := Lib.hid hb5
  clear hv5 hb5
  refine nextA_go (S := fun _ => True) trivial ?_
  refine wpAnyW_one 13 (by kernel_rfl) rfl ?_
  go_wp2_with (first | (go_at_call 19; (with_reducible refine (sameProgs_any countP countP _ _ (fun _ => True) _ _ (Funcs.stays (Ext.stays ((HB4.out.drew).trans HB5.out)) HF3.out) HF5.out).mono ?_); rintro e w6 ⟨rfl, hb6⟩; rw [decide_eq_true (rfl : countP = countP)]))
  refine nextA_go (S := fun _ => True) trivial ?_
  refine wpAnyW_one 14 (by kernel_rfl) rfl ?_
  go_wp2_with fail
  refine nextA_go (S := fun _ => True) trivial ?_
  refine wpAnyW_one 15 (by kernel_rfl) rfl ?_
  go_wp2_with fail
  refine nextA_go (S := fun _ => True) trivial ?_
  refine wpAnyW_one 16 (by kernel_rfl) rfl ?_
  go_wp2_with fail
  refine nextA_go (S := fun _ => True) trivial ?_
  refine wpAnyW_one 17 (by kernel_rfl) rfl ?_
  go_wp2_with fail
  refine nextA_go (S := fun _ => True) trivial ?_
  refine wpAnyW_one 18 (by kernel_rfl) rfl ?_
  go_wp2_with fail
  refine nextA_go (S := fun _ => True) trivial ?_
  refine wpAnyW_one 19 (by kernel_rfl) rfl ?_
  go_wp2_with fail
  refine nextA_go (S := fun _ => True) trivial ?_
  refine wpAnyW_one 20 (by kernel_rfl) rfl ?_
  go_wp2_with fail
  refine nextA_go (S := fun _ => True) trivial ?_
  refine wpAnyW_take 21 (by kernel_rfl) (by kernel_rfl) (by kernel_rfl) (by kernel_rfl) (by kernel_rfl) (fun _ _ _ _ _ h => h) rfl (by rfl) trivial ?_
  apply Exists.intro
  refine ⟨fun w' hw' => ?_, ?_⟩
  focus
    go_simp
    (try with_reducible rfl)
  (try dsimp only [Act.put])
  (try simp only [List.setIfInBounds_toArray])
  refine wpAnyW_two 22 23 (by kernel_rfl) rfl rfl ?_ ?_
  · go_wp2_with fail
    refine nextA_go (S := fun _ => True) trivial ?_
    refine wpAnyW_one 23 (by kernel_rfl) rfl ?_
    go_wp2_with fail
    refine nextA_go (S := fun _ => True) trivial ?_
    refine wpAnyW_one 24 (by kernel_rfl) rfl ?_
    go_wp2_with fail
    refine nextA_go (S := fun _ => True) trivial ?_
    refine wpAnyW_one 25 (by kernel_rfl) rfl ?_
    go_wp2_with fail
    refine nextA_go (S := fun _ => True) trivial ?_
    refine wpAnyW_one 26 (by kernel_rfl) rfl ?_
    go_wp2_with fail
    refine nextA_end rfl (by kernel_rfl) ?_
    go_wp2_with fail
    go_ret
    refine ⟨?_, ((E4.out.drew).trans HB5.out).trans hb6⟩
    rw [HEX.out]
    exact congrArg (fun b => Ending.returned (.bool b)) head30
  · go_wp2_with fail
    refine nextA_go (S := fun _ => True) trivial ?_
    refine wpAnyW_one 22 (by kernel_rfl) rfl ?_
    go_wp2_with fail
    refine nextA_go (S := fun _ => True) trivial ?_
    refine wpAnyW_one 24 (by kernel_rfl) rfl ?_
    go_wp2_with fail
    refine nextA_go (S := fun _ => True) trivial ?_
    refine wpAnyW_one 25 (by kernel_rfl) rfl ?_
    go_wp2_with fail
    refine nextA_go (S := fun _ => True) trivial ?_
    refine wpAnyW_one 26 (by kernel_rfl) rfl ?_
    go_wp2_with fail
    refine nextA_end rfl (by kernel_rfl) ?_
    go_wp2_with fail
    go_ret
    refine ⟨?_, ((E4.out.drew).trans HB5.out).trans hb6⟩
    rw [HEX.out]
    exact congrArg (fun b => Ending.returned (.bool b)) head30
end Go.Proofs.YtpcjkfppacnkgaaGreatDoor
end
