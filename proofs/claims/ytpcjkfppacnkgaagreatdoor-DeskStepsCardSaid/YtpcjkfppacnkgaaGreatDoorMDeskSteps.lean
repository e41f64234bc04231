/- DeskSteps: a step of the desk does what Run does: as many steps, the same error, the same put out. No condition. -/
import Derived.Test.YtpcjkfppacnkgaaGreatDoorGNAC
import Derived.Test.YtpcjkfppacnkgaaGreatDoorGNAK
import Derived.Test.YtpcjkfppacnkgaaGreatDoorGNAM
import Derived.Test.YtpcjkfppacnkgaaGreatDoorGNBI
import Derived.Test.YtpcjkfppacnkgaaGreatDoorGNBJ
import Derived.Test.YtpcjkfppacnkgaaGreatDoorTie
import Derived.Test.YtpcjkfppacnkgaaGreatDoorCards
namespace Go.Proofs.YtpcjkfppacnkgaaGreatDoor.deskSteps
set_option maxHeartbeats 4000000
set_option maxRecDepth 100000
open Go Go.RowKit Go.ChangeShapes Go.WideShapes Go.ChangeAt

theorem walk (w : World) (hg : Glob w) (p : List GFunc) (v : Value) (hp : Funcs w (fun _ => True) v p) (c : Int) (hc : I64 c) :
    Calls Tryz.prog 4 #[v, .int .i64 c] w fun e w' => e = .returned (.bool true) ∧ Ext w w' := by
  have HG := Lib.hid hg
  have HP := Lib.hid hp
  have HC := Lib.hid hc
  obtain ⟨ap, cp, rfl, _, _, _⟩ := hp
  obtain ⟨m', hm'⟩ : ∃ m, chooseOf c 501 = m := ⟨_, rfl⟩
  have hml := chooseOf_lt c 501 (by omega)
  rw [hm'] at hml
  obtain ⟨m, rfl⟩ : ∃ m : Nat, m' = m := ⟨m'.toNat, by omega⟩
  have HM := Lib.hid hm'
  have hcat := cat_bytes'
  have hclen := cat_len
  by_cases hz : progErr p = 0
  · obtain ⟨T, hT⟩ : ∃ T, textP p = T := ⟨_, rfl⟩
    have hTl : T.length ≤ 8192 := by rw [← hT]; exact textP_len hz
    have TL : decide ((8192 : Int) < (T.length : Int)) = false := decide_eq_false (by omega)
    have HSH : Hid (∀ w, Glob w → Funcs w (fun _ => True) (.slice ap p.length cp) p → Calls Tryz.prog 11 #[.slice ap p.length cp] w fun e w' => e = .returned (.tuple #[.string ⟨T.toArray⟩, .int .i64 0]) ∧ Ext w w') := by
      unfold Hid
      intro w hg hp
      refine (show_any p _ _ w hg hp).mono ?_
      rintro e w' ⟨rfl, hx⟩
      refine ⟨?_, hx⟩
      unfold showT
      rw [if_pos hz, hz, hT]
    have hpl := steps_play hz (m := m) (by omega)
    rw [hT] at hpl
    have hbd := ran_bd (begin_ok hz) m
    have hall : allG p (m : Int) = ((runG p m (beginG p)).1.out, (runG p m (beginG p)).2.1, (runG p m (beginG p)).2.2) := by
      unfold allG
      rw [if_neg (fun h => h ⟨by omega, by omega⟩), if_neg (fun h => h hz), Int.toNat_natCast]
    obtain ⟨l0, hok0⟩ := (run_ran m (begin_ok hz)).right
    have hfew := hok0.out
    obtain ⟨⟨R, rn, rg⟩, hrr⟩ : ∃ z, runG p m (beginG p) = z := ⟨_, rfl⟩
    rw [hrr] at hpl hbd hall hfew
    replace hbd : (0 ≤ rn ∧ rn ≤ m) ∧ 0 ≤ rg ∧ rg ≤ 7 := hbd
    obtain ⟨l, hl⟩ : ∃ l, R.out = l := ⟨_, rfl⟩
    replace hall : allG p (m : Int) = (l, rn, rg) := by rw [hall, ← hl]
    replace hfew : l.length ≤ 30 := by rw [← hl]; exact hfew
    have hrn : I64 rn := I64.small (by omega) (by omega)
    have hrg : I64 rg := I64.small (by omega) (by omega)
    have HALL := Lib.hid hall
    obtain ⟨W1, hW1⟩ : ∃ W, ranT (R, rn, rg) = W := ⟨_, rfl⟩
    obtain ⟨W2, hW2⟩ : ∃ W, listT l = W := ⟨_, rfl⟩
    obtain ⟨d, hd⟩ : ∃ d, Lib.itoa (m : Int) = d := ⟨_, rfl⟩
    have HD := Lib.hid hd
    have hdl : d.length ≤ 21 := by rw [← hd]; exact small_itoa (by omega)
    have HPL : Hid (∀ w, Glob w → Calls Tryz.prog 7 #[.string ⟨T.toArray⟩, .string ⟨(cat (cat [115, 116, 101, 112, 32] d) [10, 111, 117, 116, 10]).toArray⟩] w fun e w' => e = .returned (.tuple #[.string ⟨(cat (cat (cat W1 [10]) W2) [10]).toArray⟩, .int .i64 0]) ∧ Ext w w') := by
      unfold Hid
      intro w hg
      have e1 : cat (cat [115, 116, 101, 112, 32] d) [10, 111, 117, 116, 10] = (stepT ++ 32 :: Lib.itoa m) ++ 10 :: (outT ++ [10]) := by
        rw [hd]; simp [cat, stepT, outT]
      have e2 : ranT (R, rn, rg) ++ 10 :: (listT R.out ++ [10]) = cat (cat (cat W1 [10]) W2) [10] := by
        rw [hW1, hl, hW2]; simp [cat]
      rw [e1]
      refine (play_any T _ w hg).mono ?_
      rintro e w' ⟨rfl, hx⟩
      rw [hpl]
      simp only
      rw [e2]
      exact ⟨rfl, hx⟩
    have n1 : ¬ 9223372036854775807 < 5 + d.length := by omega
    have n2 : ¬ 9223372036854775807 < 5 + d.length + 5 := by omega
    have HZ := Lib.hid hz
    clear hg hc hm' hz hT hpl hall hrr hd hok0
    go_enter Tryz.func4, Tryz.ntmps4
    go_upto_region 7 with (first
      | (go_at_call 10; (with_reducible refine (choose_any c 501 _ HC.out (by omega) (by omega)).mono ?_); rintro e w1 ⟨rfl, rfl⟩; rw [HM.out])
      | (go_at_call 11; (with_reducible refine (HSH.out _ HG.out HP.out).mono ?_); rintro e w2 ⟨rfl, hb2⟩; have E2 := Lib.hid hb2; clear hb2)
      | (go_at_call 12; (with_reducible refine (runAll_any p _ _ m _ (Funcs.stays (Ext.stays E2.out) HP.out)).mono ?_); rintro e w3 ⟨⟨x, rfl, hx⟩, hb3⟩; rw [HALL.out] at hx; rw [HALL.out]; have HX3 := Lib.hid hx; obtain ⟨ax, cx, rfl, _, _, _⟩ := hx; have B3 := Lib.hid hb3; have E3 := Lib.hid (E2.out.trans hb3); clear hb3)
      | (go_at_call 13; (with_reducible refine (digits_val (m : Int) _ (I64.small (by omega) (by omega))).mono ?_); rintro e w4 ⟨rfl, hb4⟩; rw [HD.out]; have E4 := Lib.hid (E3.out.trans hb4); have HX4 := Lib.hid (HX3.out.stays (Ext.stays hb4)); clear hb4)
      | (go_at_call 7; (with_reducible refine (HPL.out _ (HG.out.ext E4.out)).mono ?_); rintro e w5 ⟨rfl, hb5⟩; have E5 := Lib.hid (E4.out.trans hb5); have HX5 := Lib.hid (HX4.out.stays (Ext.stays hb5)); clear hb5))
    have hil := small_itoa (n := rn) (by omega)
    have hel := errT_len (e := rg) (by omega)
    have hlI : ∀ n ∈ l, I64 n := fun n hn => by
      obtain ⟨i, hi, rfl⟩ := List.getElem_of_mem hn
      obtain ⟨b, o, cap, _, _, _, _, _, h⟩ := Sl.get HX5.out hi
      exact h
    have hw2l : W2.length ≤ 700 := by rw [← hW2]; have := listT_len l hlI; omega
    have hw1l : W1.length ≤ 60 := by
      rw [← hW1]
      unfold ranT
      dsimp only
      split
      · simp only [List.length_append, List.length_cons]; omega
      · omega
    have HW2 := Lib.hid hW2
    have HLI := Lib.hid hlI
    have m1 : ¬ 9223372036854775807 < W1.length + 1 := by omega
    have m2 : ¬ 9223372036854775807 < W1.length + 1 + W2.length := by omega
    have m3 : ¬ 9223372036854775807 < W1.length + 1 + W2.length + 1 := by omega
    have HWW : Hid ((rg = 0 ∧ Lib.itoa rn = W1) ∨ (rg ≠ 0 ∧ cat (cat (Lib.itoa rn) [32, 101, 114, 114, 111, 114, 32]) (Lib.itoa rg) = W1)) := by
      unfold Hid
      by_cases h0 : rg = 0
      · refine .inl ⟨h0, ?_⟩
        rw [← hW1]
        unfold ranT
        rw [if_neg (fun h => h h0)]
      · refine .inr ⟨h0, ?_⟩
        rw [← hW1]
        unfold ranT
        rw [if_pos h0]
        simp [cat, errT]
    clear hW1 hW2 hlI
    rcases HWW.out with ⟨h0, hw⟩ | ⟨h0, hw⟩
    · subst h0
      have HDN := Lib.hid hw
      clear hw HWW
      go_upto_region 10 with (first
        | (go_at_call 13; (with_reducible refine (digits_val rn _ hrn).mono ?_); rintro e w6 ⟨rfl, hb6⟩; rw [HDN.out]; have E7 := Lib.hid (E5.out.trans hb6); have HX7 := Lib.hid (HX5.out.stays (Ext.stays hb6)); clear hb6))
      rename World => w7
      clear HPL HSH HX5 E5
      go_wp2_with fail
      go_loopw [14, 15] (fun q14 q15 wr => ∃ k : Nat, k ≤ l.length ∧ q15 = .int .i64 k ∧ q14 = .string ⟨(wordsI [] (l.take k)).toArray⟩ ∧ Ext w wr ∧ Ints wr (fun _ => True) (.slice ax l.length cx) l) (fun _ q _ => l.length - (intOf q).toNat)
      case atStart => exact ⟨0, Nat.zero_le _, rfl, by simp [wordsI], E7.out, HX7.out⟩
      case round =>
        obtain ⟨k, hk, rfl, rfl, hb, hints⟩ := hrel
        have HB := Lib.hid hb
        have HIN := Lib.hid hints
        clear hb hints E7 HX7
        have hsl := wordsI_len [] (l.take k) (fun n hn => HLI.out n (List.mem_of_mem_take hn))
        have hkk : (l.take k).length ≤ 30 := by simp; omega
        have hnl : ([] : By).length = 0 := rfl
        by_cases hlt : k < l.length
        · have HST := Lib.hid (wordsI_step [] hlt)
          obtain ⟨s, hs⟩ : ∃ s, wordsI [] (l.take k) = s := ⟨_, rfl⟩
          rw [hs] at hsl HST
          rw [hs]
          obtain ⟨b, o, cap', e0, _, _, _, x0, iN⟩ := HIN.out.get hlt
          simp only [Value.slice.injEq] at e0
          obtain ⟨rfl, -, rfl⟩ := e0
          rw [Nat.mul_one] at x0
          generalize l[k] = n at *
          have hdl2 : (Lib.itoa n).length ≤ 21 := Lib.itoa_length_le n iN.1 iN.2
          obtain ⟨d3, hd3⟩ : ∃ d3, Lib.itoa n = d3 := ⟨_, rfl⟩
          have HD3 := Lib.hid hd3
          rw [hd3] at hdl2 HST
          have a1 : ¬ 9223372036854775807 < s.length + 1 := by omega
          have a2 : ¬ 9223372036854775807 < s.length + 1 + d3.length := by omega
          clear hd3 hs
          go_wp2_with (first
            | (go_at_call 13; (with_reducible refine (digits_val n _ iN).mono ?_); rintro e w8 ⟨rfl, hb8⟩; rw [HD3.out]))
          go_roundw
          case rel => exact ⟨k + 1, by omega, by go_num, by rw [HST.out]; simp [cat], HB.out.trans hb8, HIN.out.stays (Ext.stays hb8)⟩
          case measure => simp [intOf]; omega
        · obtain rfl : k = l.length := by omega
          rw [List.take_length] at hsl ⊢
          by_cases hnil : l = []
          · have hs0 : wordsI [] l = [] := by rw [hnil]; rfl
            have hw2 : W2 = [45] := by rw [← HW2.out, hnil]; rfl
            rw [hs0]
            have hex : ({ data := #[32, 45] } : ByteArray).extract 1 2 = ⟨W2.toArray⟩ := by rw [hw2]; rfl
            clear hnil hs0 hw2 hlt
            go_wp2_with (first
              | (go_at_call 9; (with_reducible refine (deskBegun_any _ (HG.out.ext HB.out)).mono ?_); rintro e w9 ⟨rfl, hb9⟩))
            go_ret
            exact ⟨rfl, HB.out.trans hb9⟩
          · obtain ⟨s, hs⟩ : ∃ s, wordsI [] l = s := ⟨_, rfl⟩
            obtain ⟨Y, hY⟩ : ∃ Y : ByteArray, (⟨s.toArray⟩ : ByteArray) = Y := ⟨_, rfl⟩
            have hN : Y.size = s.length := by rw [← hY]; exact size_by s
            have hpos := words_pos hnil
            have hwl := words_list hnil
            rw [hs] at hpos hwl hsl ⊢
            have T0 : (Y.toList == ([] : List UInt8)) = false := str_not hY (fun e => by rw [e] at hpos; simp at hpos)
            have hex : Y.extract 1 s.length = ⟨W2.toArray⟩ := by
              rw [← hY, extract_by, List.take_length, hwl, HW2.out]
            rw [hY]
            clear hnil hs hY hlt hwl
            go_wp2_with (first
              | (go_at_call 9; (with_reducible refine (deskBegun_any _ (HG.out.ext HB.out)).mono ?_); rintro e w9 ⟨rfl, hb9⟩))
            go_ret
            exact ⟨rfl, HB.out.trans hb9⟩
    · have TG : (rg != 0) = true := bne_iff_ne.2 h0
      obtain ⟨d1, hd1⟩ : ∃ d1, Lib.itoa rn = d1 := ⟨_, rfl⟩
      obtain ⟨d2, hd2⟩ : ∃ d2, Lib.itoa rg = d2 := ⟨_, rfl⟩
      have hgl := small_itoa (n := rg) (by omega)
      rw [hd1] at hil
      rw [hd2] at hgl
      rw [hd1, hd2] at hw
      have HD1 := Lib.hid hd1
      have HD2 := Lib.hid hd2
      have HCW := Lib.hid hw
      have k1 : ¬ 9223372036854775807 < d1.length + 7 := by omega
      have k2 : ¬ 9223372036854775807 < d1.length + 7 + d2.length := by omega
      clear hw HWW hd1 hd2 h0
      go_upto_region 10 with (first
        | (go_at_call 13; (with_reducible refine (digits_val rn _ hrn).mono ?_); rintro e w6 ⟨rfl, hb6⟩; rw [HD1.out]; have E6 := Lib.hid (E5.out.trans hb6); have HX6 := Lib.hid (HX5.out.stays (Ext.stays hb6)); clear hb6)
        | (go_at_call 13; (with_reducible refine (digits_val rg _ hrg).mono ?_); rintro e w7 ⟨rfl, hb7⟩; rw [HD2.out]; have E7 := Lib.hid (E6.out.trans hb7); have HX7 := Lib.hid (HX6.out.stays (Ext.stays hb7)); clear hb7))
      rw [HCW.out]
      rename World => w7
      clear HPL HSH HX5 E5
      go_wp2_with fail
      go_loopw [14, 15] (fun q14 q15 wr => ∃ k : Nat, k ≤ l.length ∧ q15 = .int .i64 k ∧ q14 = .string ⟨(wordsI [] (l.take k)).toArray⟩ ∧ Ext w wr ∧ Ints wr (fun _ => True) (.slice ax l.length cx) l) (fun _ q _ => l.length - (intOf q).toNat)
      case atStart => exact ⟨0, Nat.zero_le _, rfl, by simp [wordsI], E7.out, HX7.out⟩
      case round =>
        obtain ⟨k, hk, rfl, rfl, hb, hints⟩ := hrel
        have HB := Lib.hid hb
        have HIN := Lib.hid hints
        clear hb hints E7 HX7
        have hsl := wordsI_len [] (l.take k) (fun n hn => HLI.out n (List.mem_of_mem_take hn))
        have hkk : (l.take k).length ≤ 30 := by simp; omega
        have hnl : ([] : By).length = 0 := rfl
        by_cases hlt : k < l.length
        · have HST := Lib.hid (wordsI_step [] hlt)
          obtain ⟨s, hs⟩ : ∃ s, wordsI [] (l.take k) = s := ⟨_, rfl⟩
          rw [hs] at hsl HST
          rw [hs]
          obtain ⟨b, o, cap', e0, _, _, _, x0, iN⟩ := HIN.out.get hlt
          simp only [Value.slice.injEq] at e0
          obtain ⟨rfl, -, rfl⟩ := e0
          rw [Nat.mul_one] at x0
          generalize l[k] = n at *
          have hdl2 : (Lib.itoa n).length ≤ 21 := Lib.itoa_length_le n iN.1 iN.2
          obtain ⟨d3, hd3⟩ : ∃ d3, Lib.itoa n = d3 := ⟨_, rfl⟩
          have HD3 := Lib.hid hd3
          rw [hd3] at hdl2 HST
          have a1 : ¬ 9223372036854775807 < s.length + 1 := by omega
          have a2 : ¬ 9223372036854775807 < s.length + 1 + d3.length := by omega
          clear hd3 hs
          go_wp2_with (first
            | (go_at_call 13; (with_reducible refine (digits_val n _ iN).mono ?_); rintro e w8 ⟨rfl, hb8⟩; rw [HD3.out]))
          go_roundw
          case rel => exact ⟨k + 1, by omega, by go_num, by rw [HST.out]; simp [cat], HB.out.trans hb8, HIN.out.stays (Ext.stays hb8)⟩
          case measure => simp [intOf]; omega
        · obtain rfl : k = l.length := by omega
          rw [List.take_length] at hsl ⊢
          by_cases hnil : l = []
          · have hs0 : wordsI [] l = [] := by rw [hnil]; rfl
            have hw2 : W2 = [45] := by rw [← HW2.out, hnil]; rfl
            rw [hs0]
            have hex : ({ data := #[32, 45] } : ByteArray).extract 1 2 = ⟨W2.toArray⟩ := by rw [hw2]; rfl
            clear hnil hs0 hw2 hlt
            go_wp2_with (first
              | (go_at_call 9; (with_reducible refine (deskBegun_any _ (HG.out.ext HB.out)).mono ?_); rintro e w9 ⟨rfl, hb9⟩))
            go_ret
            exact ⟨rfl, HB.out.trans hb9⟩
          · obtain ⟨s, hs⟩ : ∃ s, wordsI [] l = s := ⟨_, rfl⟩
            obtain ⟨Y, hY⟩ : ∃ Y : ByteArray, (⟨s.toArray⟩ : ByteArray) = Y := ⟨_, rfl⟩
            have hN : Y.size = s.length := by rw [← hY]; exact size_by s
            have hpos := words_pos hnil
            have hwl := words_list hnil
            rw [hs] at hpos hwl hsl ⊢
            have T0 : (Y.toList == ([] : List UInt8)) = false := str_not hY (fun e => by rw [e] at hpos; simp at hpos)
            have hex : Y.extract 1 s.length = ⟨W2.toArray⟩ := by
              rw [← hY, extract_by, List.take_length, hwl, HW2.out]
            rw [hY]
            clear hnil hs hY hlt hwl
            go_wp2_with (first
              | (go_at_call 9; (with_reducible refine (deskBegun_any _ (HG.out.ext HB.out)).mono ?_); rintro e w9 ⟨rfl, hb9⟩))
            go_ret
            exact ⟨rfl, HB.out.trans hb9⟩
  · obtain ⟨r, hr⟩ : ∃ r, progErr p = r := ⟨_, rfl⟩
    rw [hr] at hz
    obtain ⟨T, hT⟩ : ∃ T, showT p = T := ⟨_, rfl⟩
    have HSH : Hid (Calls Tryz.prog 11 #[.slice ap p.length cp] w fun e w' => e = .returned (.tuple #[.string ⟨T.toArray⟩, .int .i64 r]) ∧ Ext w w') := by
      unfold Hid
      have h := show_any p _ _ w HG.out HP.out
      rw [hr, hT] at h
      exact h
    have TR : (r != 0) = true := bne_iff_ne.2 hz
    clear hg hc hm' hz hT hr
    go_enter Tryz.func4, Tryz.ntmps4
    go_wp2_with (first
      | (go_at_call 10; (with_reducible refine (choose_any c 501 _ HC.out (by omega) (by omega)).mono ?_); rintro e w1 ⟨rfl, rfl⟩; rw [HM.out])
      | (go_at_call 11; (with_reducible refine HSH.out.mono ?_); rintro e w2 ⟨rfl, hb2⟩; have E2 := Lib.hid hb2; clear hb2)
      | (go_at_call 12; (with_reducible refine (runAll_any p _ _ m _ (Funcs.stays (Ext.stays E2.out) HP.out)).mono ?_); rintro e w3 ⟨⟨x, rfl, hx⟩, hb3⟩; have E3 := Lib.hid (E2.out.trans hb3); clear hb3)
      | (go_at_call 9; (with_reducible refine (deskBegun_any _ (HG.out.ext E3.out)).mono ?_); rintro e w4 ⟨rfl, hb4⟩; have E4 := Lib.hid (E3.out.trans hb4)))
    go_ret
    exact ⟨rfl, E4.out⟩

theorem contract (H : Type) (enc : TypeId × Value → H) (W : World) (base : Nat) (args : Array Value) (ds gs : List (DataW H)) (before : List MemPlace)
    (hval : ∀ (j : Nat) t v, Tryz.f4.params[j]? = some t → args[j]? = some v → Value.okWide Tryz.prog W .any base t v)
    (hW : DataW.Whole enc Tryz.prog Tryz.f4.params.toList Rows.deskStepsSpec.vars false W args.toList ds gs before)
    (hsz : (DataW.weightsEach Tryz.prog (Tryz.f4.params.toList ++ Rows.deskStepsSpec.plain.varTypes Tryz.prog) (ds ++ gs)).all (· ≤ reachBytes) = true) (hg : Glob W) :
    Calls Tryz.prog 4 args W fun e W' => ∃ v, e = .returned v ∧ Rows.deskStepsSpec.post enc Tryz.prog Tryz.f4 false true false false W args v W' := by
  have hW' := hW
  obtain ⟨p, q, hA, hV, rfl, hfz, hnd⟩ := hW
  rw [Tryz.params4] at hA hval
  obtain ⟨v0, vs0, d0, ds0, q0, t0, hargs, rfl, rfl, h0, r0⟩ := trodAll_cons hA
  obtain ⟨v1, vs1, d1, ds1, q1, t1, rfl, rfl, rfl, h1, r1⟩ := trodAll_cons r0
  obtain ⟨rfl, rfl, rfl⟩ := trodAll_nil r1
  obtain rfl : args = #[v0, v1] := by cases args; simp_all
  obtain ⟨rfl, rfl⟩ := trodVars_none hV
  obtain ⟨a0, l0, c0, rfl⟩ := okWide_slice Tryz.underlying27 (hval 0 27 v0 rfl rfl)
  obtain ⟨fuel0, h0⟩ := h0
  obtain ⟨x0, h0⟩ := funcs_of_trod h0 (fun n hn => by
    have := List.all_eq_true.1 hsz n (DataW.weights_mem_each (j := 0) rfl rfl n hn)
    simpa using this)
  obtain ⟨x1, rfl, rfl, rfl, wf1⟩ := open_int Tryz.underlying3 (hval 1 3 v1 rfl rfl) h1
  refine (walk W hg x0 _ h0 x1 (i64_of_wf wf1)).mono fun e W' ⟨he, hE⟩ => ⟨_, he, law_post laidOut ?_ rfl Tryz.underlying4 rfl hW' ?_ hE⟩
  · rw [Tryz.params4]
    intro t ht
    simp at ht
    (try rcases ht with rfl | rfl) <;> exact ⟨by kernel_rfl, of_decide_eq_true (by kernel_rfl)⟩
  · intro ds hds
    match ds, hds with
    | [d0, d1], _ => exact ⟨rfl, rfl, rfl⟩

theorem lifted (os : Os) (started : os.Started) (H : Type) (enc : TypeId × Value → H) :
    ReturnsInHanded {} Tryz.checked os 4 .any (fun w args => (Rows.deskStepsSpec.pre enc Tryz.prog Tryz.f4 Rows.deskStepsRow.domain false w args ∧ laidMetH Tryz.prog laidL w) ∧ sizedMet enc Tryz.prog Tryz.f4 (OpenSpec.ofChange Rows.deskStepsSpec) false w args) (Rows.deskStepsSpec.post enc Tryz.prog Tryz.f4 false true false false) := by
  refine lift_laid own started (by kernel_rfl) Tryz.func4
    (ChangeSpec.witness_shaped (enc := enc) (C := Tryz.checked) (os := os) (X := fun w _ => laidMetH Tryz.prog laidL w) false (World.laidAll Tryz.prog os laidL) #[.slice none 0 0, .int .i64 0] 8 (World.laidAll_os _ _ _) (laid_shaped os _) (by kernel_rfl) (by kernel_rfl) (by kernel_rfl) (laid_met os _)) ?_
  intro W base args ds gs before hval hW hsz hg
  exact contract H enc W base args ds gs before hval hW hsz hg

theorem proved : Rows.DeskStepsSaid :=
  OpenClaim.holds_of_wide 4 Tryz.f4 rfl rfl rfl rfl rfl rfl rfl ⟨rfl, rfl, rfl, rfl, rfl⟩ rfl rfl rfl rfl rfl (by as_aux_lemma => kernel_rfl) Tryz.func4 (by as_aux_lemma => kernel_rfl)
    (of_decide_eq_true (by as_aux_lemma => kernel_rfl)) (by unfold Func.isWrapper; rw [if_neg (of_decide_eq_false (by as_aux_lemma => kernel_rfl))]; exact ⟨rfl, rfl⟩)
    (fun os started H enc _ => lifted os started H enc)
theorem carded : Rows.DeskStepsCardSaid := by
  refine Claim7.holds_tied_plain_at .later [] _ true _ true proved (fun _ h => by cases h) (by kernel_rfl) (fun _ h => by cases h) deskSteps_row_tie rfl ⟨rfl, rfl⟩ (by kernel_rfl) rfl (fun f fn hf hfn => ?_) (by kernel_rfl)
  obtain rfl : f = 4 := Option.some.inj ((show Tryz.prog.funcNamed "glebe/glebelaw.DeskSteps" = some 4 by kernel_rfl).symm.trans hf) |>.symm
  obtain rfl : fn = Tryz.f4 := (Option.some.inj (Tryz.func4.symm.trans hfn)).symm
  refine ⟨by kernel_rfl, fun j t ht => ?_⟩
  rw [Tryz.params4] at ht
  have hm : t ∈ [27, 3] := by simpa using Array.mem_of_getElem? ht
  have hall : ([27, 3].all fun u => !Tryz.prog.wantsStandIn u) = true := by kernel_rfl
  exact (show Tryz.prog.wantsStandIn t = false by simpa using List.all_eq_true.1 hall t hm)
end Go.Proofs.YtpcjkfppacnkgaaGreatDoor.deskSteps

