/- ChainTrue: of a right state just one fiber runs, if not all is done; who is in the line runs or waits, nobody else does; each one's Caller is next. No condition. -/
import Derived.Test.YtpomcbginkhlbaaGCAB
import Derived.Test.YtpomcbginkhlbaaGCAW
set_option maxHeartbeats 4000000
set_option maxRecDepth 100000
namespace Go.Proofs.Ytpomcbginkhlbaa.chainTrue
open Go Go.RowKit Go.ChangeShapes Go.WideShapes Go.ChangeAt

theorem cnt_le (f : Nat → Bool) : ∀ k, cntN f k ≤ k
  | 0 => Nat.le_refl _
  | k + 1 => by rw [cntN]; have := cnt_le f k; split <;> omega

theorem hs_fibers {w : World} {S : Nat → Prop} {a b : Option Addr} {n c m d : Nat} {k : Int} {s : GState} (h : StateV w S (.agg #[.slice a n c, .int .i64 k, .slice b m d]) s) : Fibers w S (.slice a n c) s.fibers := by
  obtain ⟨x, y, e, h1, _, _⟩ := h
  simp only [Value.agg.injEq, Array.mk.injEq, List.cons.injEq, and_true] at e
  rw [e.1]
  exact h1

theorem walk (w : World) (p : List GFunc) (v : Value) (hp : Funcs w (fun _ => True) v p) (s : GState) (vs : Value) (hs : StateV w (fun _ => True) vs s) :
    Calls Try.prog 8 #[v, vs] w fun e w' => e = .returned (.bool true) ∧ Ext w w' := by
  have HP := Lib.hid hp
  have HS := Lib.hid hs
  obtain ⟨a0, cap, rfl, _, _, _⟩ := hp
  obtain ⟨sa, sc, sb, sd, rfl⟩ := hs.few
  have RA := alloc_keep
  have b0 := (Cx.new w [.slice sa s.fibers.length sc, .int .i64 s.now, .slice sb s.out.length sd] 43 (j := 0) rfl).1
  have b1 := (Cx.new w [.slice sa s.fibers.length sc, .int .i64 s.now, .slice sb s.out.length sd] 43 (j := 1) rfl).1
  have b2 := (Cx.new w [.slice sa s.fibers.length sc, .int .i64 s.now, .slice sb s.out.length sd] 43 (j := 2) rfl).1
  have E0 : Hid (Ext w (w.alloc (.cells #[.slice sa s.fibers.length sc, .int .i64 s.now, .slice sb s.out.length sd] 43))) := (Ext.refl w).alloc _
  by_cases hz : stateErr p s = 0
  · obtain ⟨l, hR⟩ := stateErr_zero hz
    have HR := Lib.hid hR
    have hLF := hR.lineF
    have HLF := Lib.hid hLF
    have HZ := Lib.hid hz
    have hll : l.length ≤ s.fibers.length := nodup_len _ _ hLF.nodup hLF.range
    have hfew := hR.few
    have HIF : Hid ((if stateErr p s = 0 then lineL s else []) = l) := by unfold Hid lineL; rw [if_pos hz, hR.line]; rfl
    clear hz hR hLF
    go_enter Try.func8, Try.ntmps8
    go_upto_region 4 with (first
      | (go_at_call 28; (with_reducible refine (chainLine_any p _ _ _ s _ _ (Funcs.stays (Ext.stays E0.out) HP.out) (StateV.stays (Ext.stays E0.out) HS.out)).mono ?_); rintro e w1 ⟨⟨aL, cL, rfl, hl⟩, hb1⟩; rw [HIF.out] at hl; rw [HIF.out, HZ.out]; have b0 := Ext.cell hb1 b0; have b1 := Ext.cell hb1 b1; have b2 := Ext.cell hb1 b2; have E1 := Lib.hid (E0.out.trans hb1); have HL1 := Lib.hid (Ints.stays (T := fun _ => True) (Stays.widen (fun _ _ => trivial)) hl); clear hl hb1))
    rename World => w1
    obtain ⟨bb, hbb⟩ : ∃ bb, w.heap.size = bb := ⟨_, rfl⟩
    rw [hbb] at b0 b1 b2 ⊢
    have HB0 := Lib.hid (⟨b0, b1, b2⟩ : _ ∧ _ ∧ _)
    clear b0 b1 b2 hbb E0
    go_wp2_with fail
    go_loopw [7, 8, 9] (fun q7 q8 q9 wr => ∃ k : Nat, k ≤ s.fibers.length ∧ q9 = .int .i64 k ∧ q7 = .int .i64 (cntN (fun k => decide (kindS p s k = 1)) k : Nat) ∧ q8 = .int .i64 (cntN (fun k => decide (kindS p s k = 2)) k : Nat) ∧ Ext w1 wr) (fun _ _ q _ => s.fibers.length - (intOf q).toNat)
    case atStart => exact ⟨0, Nat.zero_le _, rfl, rfl, rfl, Ext.refl _⟩
    case round =>
      obtain ⟨k, hk, rfl, rfl, rfl, hE⟩ := hrel
      have HEK := Lib.hid hE
      have f0 := Ext.cell hE (HB0.out).1
      have f1 := Ext.cell hE (HB0.out).2.1
      have f2 := Ext.cell hE (HB0.out).2.2
      clear hE
      rename World => wk
      have hcl1 := cnt_le (fun k => decide (kindS p s k = 1)) k
      have hcl2 := cnt_le (fun k => decide (kindS p s k = 2)) k
      by_cases hlt : k < s.fibers.length
      · obtain ⟨⟨hk0, hk4⟩, _, _, hkin⟩ := (HR.out).kind hlt
        obtain ⟨kv, hkc⟩ : ∃ kv, kindS p s k = kv := ⟨_, rfl⟩
        rw [hkc] at hk0 hk4 hkin
        have HCK : Hid (ckind p s k = kv) := by unfold Hid ckind; rw [if_pos ⟨HZ.out, by omega, by omega⟩, Int.toNat_natCast]; exact hkc
        have HCE : Hid (ckErr p s k = 0) := by unfold Hid ckErr; rw [if_neg (fun h => h HZ.out), if_pos ⟨by omega, by omega⟩]
        by_cases hk1 : kv = 1
        · have hkv := hk1
          have K1 : (kv == 1) = true := by rw [hkv]; rfl
          have K2 : (kv == 2) = false := by rw [hkv]; rfl
          have KA : decide (kv < 0) = false := by rw [hkv]; rfl
          have KB : decide (4 < kv) = false := by rw [hkv]; rfl
          have HIN : Hid (decide ((k : Int) ∈ l) = true) := by rw [hkin, hkv]; rfl
          have KR : IntKind.i64.wrap ((cntN (fun k => decide (kindS p s k = 1)) k : Int) + 1) = (cntN (fun k => decide (kindS p s k = 1)) k : Int) + 1 := IntWalk.i64_in _ (by omega)
          have KW : IntKind.i64.wrap ((cntN (fun k => decide (kindS p s k = 2)) k : Int) + 1) = (cntN (fun k => decide (kindS p s k = 2)) k : Int) + 1 := IntWalk.i64_in _ (by omega)
          have HC1 : Hid (cntN (fun k => decide (kindS p s k = 1)) (k + 1) = cntN (fun k => decide (kindS p s k = 1)) k + 1) := by unfold Hid; rw [cntN, hkc, hkv]; rfl
          have HC2 : Hid (cntN (fun k => decide (kindS p s k = 2)) (k + 1) = cntN (fun k => decide (kindS p s k = 2)) k + 0) := by unfold Hid; rw [cntN, hkc, hkv]; rfl
          clear hkin
          go_wp2_with (first
            | (go_at_call 29; (with_reducible refine (chainKind_any p _ _ _ s _ _ _ (Funcs.stays (Ext.stays (E1.out.trans HEK.out)) HP.out) (StateV.stays (Ext.stays (E1.out.trans HEK.out)) HS.out)).mono ?_); rintro e w2 ⟨rfl, hb2⟩; rw [HCK.out, HCE.out]; have b0 := Ext.cell hb2 f0; have b1 := Ext.cell hb2 f1; have b2 := Ext.cell hb2 f2; have HB2 := Lib.hid hb2; clear hb2))
          rename World => w2
          go_loopw [12, 13] (fun q12 q13 wr => ∃ i : Nat, i ≤ l.length ∧ q13 = .int .i64 i ∧ q12 = .bool (decide ((k : Int) ∈ l.take i)) ∧ Ext w2 wr) (fun _ q _ => l.length - (intOf q).toNat)
          case atStart => exact ⟨0, Nat.zero_le _, rfl, by simp, Ext.refl _⟩
          case round =>
            obtain ⟨i, hi, rfl, rfl, hE⟩ := hrel
            have HEI := Lib.hid hE
            clear hE
            by_cases hlt2 : i < l.length
            · obtain ⟨bl, ol, _, el, _, _, _, y0, _⟩ := (Ints.stays (Ext.stays (HEK.out.trans (HB2.out.trans HEI.out))) HL1.out).get hlt2
              simp only [Value.slice.injEq] at el
              obtain ⟨rfl, -, rfl⟩ := el
              rw [Nat.mul_one] at y0
              have htk : decide ((k : Int) ∈ l.take (i + 1)) = (decide ((k : Int) ∈ l.take i) || decide (l[i] = (k : Int))) := by
                rw [List.take_succ_eq_append_getElem hlt2, Bool.eq_iff_iff]
                simp only [decide_eq_true_eq, Bool.or_eq_true, List.mem_append, List.mem_singleton]
                exact or_congr Iff.rfl eq_comm
              have HTK := Lib.hid htk
              generalize l[i] = li at *
              generalize decide ((k : Int) ∈ l.take i) = bi at *
              clear htk
              cases bi with
              | true =>
                go_wp2_with fail
                go_roundw
                case rel => exact ⟨i + 1, by omega, by go_num, by rw [HTK.out]; rfl, HEI.out⟩
                case measure => simp [intOf]; omega
              | false =>
                by_cases hli : li = (k : Int)
                · have TL : (li == (k : Int)) = true := by simpa using hli
                  have HD : Hid (decide (li = (k : Int)) = true) := decide_eq_true hli
                  clear hli
                  go_wp2_with fail
                  go_roundw
                  case rel => exact ⟨i + 1, by omega, by go_num, by rw [HTK.out, HD.out]; rfl, HEI.out⟩
                  case measure => simp [intOf]; omega
                · have TL : (li == (k : Int)) = false := beq_false_of_ne hli
                  have HD : Hid (decide (li = (k : Int)) = false) := decide_eq_false hli
                  clear hli
                  go_wp2_with fail
                  go_roundw
                  case rel => exact ⟨i + 1, by omega, by go_num, by rw [HTK.out, HD.out]; rfl, HEI.out⟩
                  case measure => simp [intOf]; omega
            · obtain rfl : i = l.length := by omega
              have hti : decide ((k : Int) ∈ l.take l.length) = true := by rw [List.take_length]; exact HIN.out
              rw [hti]
              clear hti hlt2
              go_wp2_with fail
              go_roundw
              case rel => exact ⟨k + 1, by omega, by go_num, by rw [HC1.out]; go_num, by rw [HC2.out]; rfl, HEK.out.trans (HB2.out.trans HEI.out)⟩
              case measure => simp [intOf]; omega
        · by_cases hk2 : kv = 2
          · have hkv := hk2
            have K1 : (kv == 1) = false := by rw [hkv]; rfl
            have K2 : (kv == 2) = true := by rw [hkv]; rfl
            have KA : decide (kv < 0) = false := by rw [hkv]; rfl
            have KB : decide (4 < kv) = false := by rw [hkv]; rfl
            have HIN : Hid (decide ((k : Int) ∈ l) = true) := by rw [hkin, hkv]; rfl
            have KR : IntKind.i64.wrap ((cntN (fun k => decide (kindS p s k = 1)) k : Int) + 1) = (cntN (fun k => decide (kindS p s k = 1)) k : Int) + 1 := IntWalk.i64_in _ (by omega)
            have KW : IntKind.i64.wrap ((cntN (fun k => decide (kindS p s k = 2)) k : Int) + 1) = (cntN (fun k => decide (kindS p s k = 2)) k : Int) + 1 := IntWalk.i64_in _ (by omega)
            have HC1 : Hid (cntN (fun k => decide (kindS p s k = 1)) (k + 1) = cntN (fun k => decide (kindS p s k = 1)) k + 0) := by unfold Hid; rw [cntN, hkc, hkv]; rfl
            have HC2 : Hid (cntN (fun k => decide (kindS p s k = 2)) (k + 1) = cntN (fun k => decide (kindS p s k = 2)) k + 1) := by unfold Hid; rw [cntN, hkc, hkv]; rfl
            clear hkin
            go_wp2_with (first
              | (go_at_call 29; (with_reducible refine (chainKind_any p _ _ _ s _ _ _ (Funcs.stays (Ext.stays (E1.out.trans HEK.out)) HP.out) (StateV.stays (Ext.stays (E1.out.trans HEK.out)) HS.out)).mono ?_); rintro e w2 ⟨rfl, hb2⟩; rw [HCK.out, HCE.out]; have b0 := Ext.cell hb2 f0; have b1 := Ext.cell hb2 f1; have b2 := Ext.cell hb2 f2; have HB2 := Lib.hid hb2; clear hb2))
            rename World => w2
            go_loopw [12, 13] (fun q12 q13 wr => ∃ i : Nat, i ≤ l.length ∧ q13 = .int .i64 i ∧ q12 = .bool (decide ((k : Int) ∈ l.take i)) ∧ Ext w2 wr) (fun _ q _ => l.length - (intOf q).toNat)
            case atStart => exact ⟨0, Nat.zero_le _, rfl, by simp, Ext.refl _⟩
            case round =>
              obtain ⟨i, hi, rfl, rfl, hE⟩ := hrel
              have HEI := Lib.hid hE
              clear hE
              by_cases hlt2 : i < l.length
              · obtain ⟨bl, ol, _, el, _, _, _, y0, _⟩ := (Ints.stays (Ext.stays (HEK.out.trans (HB2.out.trans HEI.out))) HL1.out).get hlt2
                simp only [Value.slice.injEq] at el
                obtain ⟨rfl, -, rfl⟩ := el
                rw [Nat.mul_one] at y0
                have htk : decide ((k : Int) ∈ l.take (i + 1)) = (decide ((k : Int) ∈ l.take i) || decide (l[i] = (k : Int))) := by
                  rw [List.take_succ_eq_append_getElem hlt2, Bool.eq_iff_iff]
                  simp only [decide_eq_true_eq, Bool.or_eq_true, List.mem_append, List.mem_singleton]
                  exact or_congr Iff.rfl eq_comm
                have HTK := Lib.hid htk
                generalize l[i] = li at *
                generalize decide ((k : Int) ∈ l.take i) = bi at *
                clear htk
                cases bi with
                | true =>
                  go_wp2_with fail
                  go_roundw
                  case rel => exact ⟨i + 1, by omega, by go_num, by rw [HTK.out]; rfl, HEI.out⟩
                  case measure => simp [intOf]; omega
                | false =>
                  by_cases hli : li = (k : Int)
                  · have TL : (li == (k : Int)) = true := by simpa using hli
                    have HD : Hid (decide (li = (k : Int)) = true) := decide_eq_true hli
                    clear hli
                    go_wp2_with fail
                    go_roundw
                    case rel => exact ⟨i + 1, by omega, by go_num, by rw [HTK.out, HD.out]; rfl, HEI.out⟩
                    case measure => simp [intOf]; omega
                  · have TL : (li == (k : Int)) = false := beq_false_of_ne hli
                    have HD : Hid (decide (li = (k : Int)) = false) := decide_eq_false hli
                    clear hli
                    go_wp2_with fail
                    go_roundw
                    case rel => exact ⟨i + 1, by omega, by go_num, by rw [HTK.out, HD.out]; rfl, HEI.out⟩
                    case measure => simp [intOf]; omega
              · obtain rfl : i = l.length := by omega
                have hti : decide ((k : Int) ∈ l.take l.length) = true := by rw [List.take_length]; exact HIN.out
                rw [hti]
                clear hti hlt2
                go_wp2_with fail
                go_roundw
                case rel => exact ⟨k + 1, by omega, by go_num, by rw [HC1.out]; rfl, by rw [HC2.out]; go_num, HEK.out.trans (HB2.out.trans HEI.out)⟩
                case measure => simp [intOf]; omega
          · skip
            have K1 : (kv == 1) = false := beq_false_of_ne hk1
            have K2 : (kv == 2) = false := beq_false_of_ne hk2
            have KA : decide (kv < 0) = false := decide_eq_false (by omega)
            have KB : decide (4 < kv) = false := decide_eq_false (by omega)
            have HIN : Hid (decide ((k : Int) ∈ l) = false) := by rw [hkin, decide_eq_false hk1, decide_eq_false hk2]; rfl
            have KR : IntKind.i64.wrap ((cntN (fun k => decide (kindS p s k = 1)) k : Int) + 1) = (cntN (fun k => decide (kindS p s k = 1)) k : Int) + 1 := IntWalk.i64_in _ (by omega)
            have KW : IntKind.i64.wrap ((cntN (fun k => decide (kindS p s k = 2)) k : Int) + 1) = (cntN (fun k => decide (kindS p s k = 2)) k : Int) + 1 := IntWalk.i64_in _ (by omega)
            have HC1 : Hid (cntN (fun k => decide (kindS p s k = 1)) (k + 1) = cntN (fun k => decide (kindS p s k = 1)) k + 0) := by unfold Hid; rw [cntN, hkc, decide_eq_false hk1]; rfl
            have HC2 : Hid (cntN (fun k => decide (kindS p s k = 2)) (k + 1) = cntN (fun k => decide (kindS p s k = 2)) k + 0) := by unfold Hid; rw [cntN, hkc, decide_eq_false hk2]; rfl
            clear hkin
            go_wp2_with (first
              | (go_at_call 29; (with_reducible refine (chainKind_any p _ _ _ s _ _ _ (Funcs.stays (Ext.stays (E1.out.trans HEK.out)) HP.out) (StateV.stays (Ext.stays (E1.out.trans HEK.out)) HS.out)).mono ?_); rintro e w2 ⟨rfl, hb2⟩; rw [HCK.out, HCE.out]; have b0 := Ext.cell hb2 f0; have b1 := Ext.cell hb2 f1; have b2 := Ext.cell hb2 f2; have HB2 := Lib.hid hb2; clear hb2))
            rename World => w2
            go_loopw [12, 13] (fun q12 q13 wr => ∃ i : Nat, i ≤ l.length ∧ q13 = .int .i64 i ∧ q12 = .bool (decide ((k : Int) ∈ l.take i)) ∧ Ext w2 wr) (fun _ q _ => l.length - (intOf q).toNat)
            case atStart => exact ⟨0, Nat.zero_le _, rfl, by simp, Ext.refl _⟩
            case round =>
              obtain ⟨i, hi, rfl, rfl, hE⟩ := hrel
              have HEI := Lib.hid hE
              clear hE
              by_cases hlt2 : i < l.length
              · obtain ⟨bl, ol, _, el, _, _, _, y0, _⟩ := (Ints.stays (Ext.stays (HEK.out.trans (HB2.out.trans HEI.out))) HL1.out).get hlt2
                simp only [Value.slice.injEq] at el
                obtain ⟨rfl, -, rfl⟩ := el
                rw [Nat.mul_one] at y0
                have htk : decide ((k : Int) ∈ l.take (i + 1)) = (decide ((k : Int) ∈ l.take i) || decide (l[i] = (k : Int))) := by
                  rw [List.take_succ_eq_append_getElem hlt2, Bool.eq_iff_iff]
                  simp only [decide_eq_true_eq, Bool.or_eq_true, List.mem_append, List.mem_singleton]
                  exact or_congr Iff.rfl eq_comm
                have HTK := Lib.hid htk
                generalize l[i] = li at *
                generalize decide ((k : Int) ∈ l.take i) = bi at *
                clear htk
                cases bi with
                | true =>
                  go_wp2_with fail
                  go_roundw
                  case rel => exact ⟨i + 1, by omega, by go_num, by rw [HTK.out]; rfl, HEI.out⟩
                  case measure => simp [intOf]; omega
                | false =>
                  by_cases hli : li = (k : Int)
                  · have TL : (li == (k : Int)) = true := by simpa using hli
                    have HD : Hid (decide (li = (k : Int)) = true) := decide_eq_true hli
                    clear hli
                    go_wp2_with fail
                    go_roundw
                    case rel => exact ⟨i + 1, by omega, by go_num, by rw [HTK.out, HD.out]; rfl, HEI.out⟩
                    case measure => simp [intOf]; omega
                  · have TL : (li == (k : Int)) = false := beq_false_of_ne hli
                    have HD : Hid (decide (li = (k : Int)) = false) := decide_eq_false hli
                    clear hli
                    go_wp2_with fail
                    go_roundw
                    case rel => exact ⟨i + 1, by omega, by go_num, by rw [HTK.out, HD.out]; rfl, HEI.out⟩
                    case measure => simp [intOf]; omega
              · obtain rfl : i = l.length := by omega
                have hti : decide ((k : Int) ∈ l.take l.length) = false := by rw [List.take_length]; exact HIN.out
                rw [hti]
                clear hti hlt2
                go_wp2_with fail
                go_roundw
                case rel => exact ⟨k + 1, by omega, by go_num, by rw [HC1.out]; rfl, by rw [HC2.out]; rfl, HEK.out.trans (HB2.out.trans HEI.out)⟩
                case measure => simp [intOf]; omega
      · obtain rfl : k = s.fibers.length := by omega
        rw [(HR.out).runs, (HR.out).waits]
        obtain ⟨r7, hr7⟩ : ∃ r : Nat, (if s.now < 0 then 0 else 1) = r := ⟨_, rfl⟩
        rw [hr7]
        have HR7 := Lib.hid hr7
        clear hr7
        have HW := Lib.hid HEK.out
        have hF := hs_fibers HS.out
        have HFB := Lib.hid (Fibers.stays (Ext.stays (E1.out.trans HEK.out)) hF)
        have HLK := Lib.hid (Ints.stays (Ext.stays HEK.out) HL1.out)
        clear hF hcl1 hcl2 hlt hk
        go_wp2_with fail
        go_loopw [14] (fun q14 wr => ∃ i : Nat, i ≤ l.length ∧ q14 = .int .i64 i ∧ Ext wk wr) (fun q _ => l.length - (intOf q).toNat)
        case atStart => exact ⟨0, Nat.zero_le _, rfl, Ext.refl _⟩
        case round =>
          obtain ⟨i, hi, rfl, hE⟩ := hrel
          have HEI := Lib.hid hE
          have g0 := Ext.cell hE f0
          have g1 := Ext.cell hE f1
          have g2 := Ext.cell hE f2
          clear hE
          rename World => wi
          have KI : IntKind.i64.wrap ((i : Int) + 1) = (i : Int) + 1 := IntWalk.i64_in _ (by omega)
          by_cases hlt : i + 1 < l.length
          · have TI : decide ((i : Int) + 1 < (l.length : Int)) = true := decide_eq_true (by omega)
            have hi0 : i < l.length := by omega
            have hr := (HLF.out).range _ (List.getElem_mem hi0)
            have hlk := (HLF.out).link i hlt
            obtain ⟨bl, ol, _, el, _, _, _, y0, _⟩ := (Ints.stays (Ext.stays HEI.out) HLK.out).get hi0
            obtain ⟨bl', ol', _, el', _, _, _, y1, _⟩ := (Ints.stays (Ext.stays HEI.out) HLK.out).get hlt
            simp only [Value.slice.injEq] at el
            obtain ⟨rfl, -, rfl⟩ := el
            simp only [Value.slice.injEq, Option.some.injEq, Addr.mk.injEq] at el'
            obtain ⟨⟨rfl, rfl, -⟩, -, -⟩ := el'
            have e1 : l.getD i 0 = l[i] := by simp [List.getD, List.getElem?_eq_getElem hi0]
            have e2 : l.getD (i + 1) 0 = l[i + 1] := by simp [List.getD, List.getElem?_eq_getElem hlt]
            rw [e1, e2] at hlk
            rw [Nat.mul_one] at y0 y1
            obtain ⟨ln, hln⟩ : ∃ m : Nat, l[i] = m := ⟨l[i].toNat, by omega⟩
            rw [hln] at hlk y0 hr
            rw [Int.toNat_natCast] at hlk
            have hlf : ln < s.fibers.length := by omega
            obtain ⟨bf, of, af, cf, rfl, z0, z1, _⟩ := (HFB.out).at' hlf
            have z1 := Ext.cell HEI.out z1
            rw [hlk] at z1
            generalize l[i + 1] = lj at *
            have TA : decide ((ln : Int) < 0) = false := decide_eq_false (by omega)
            have TC : decide ((s.fibers.length : Int) ≤ (ln : Int)) = false := decide_eq_false (by omega)
            have TD : (lj != lj) = false := by simp
            have TC2 : decide (s.fibers.length ≤ ln) = false := decide_eq_false (by omega)
            have hB1 : (0 : Int) ≤ (i : Int) + 1 := by omega
            have hB2 : (i : Int) + 1 < (l.length : Int) := by omega
            clear hlk hln hr z0 e1 e2
            go_upto_region 25 with fail
            refine wp_region_ext (by kernel_rfl) (by kernel_rfl) ?_
            repeat (first
              | go_big_quiet_skip
              | (go_big_quiet_want
                 unfold Oper.quiet
                 apply Exists.intro
                 refine ⟨fun w' hw' => ?_, ?_⟩
                 focus
                   have hcq := Ext.keep hw'
                   go_simp
                   first
                     | with_reducible rfl
                     
                 (try dsimp only [Act.put])
                 (try simp only [List.setIfInBounds_toArray, List.set_cons_succ, List.set_cons_zero])
                 go_big_quiet_on))
            refine wpQuiet_nil ?_
            intro wq hq
            go_wp2_with fail
            go_roundw
            case rel => exact ⟨i + 1, by omega, by go_num, HEI.out.trans hq⟩
            case measure => simp [intOf]; omega
          · have TI : decide ((i : Int) + 1 < (l.length : Int)) = false := decide_eq_false (by omega)
            clear hlt
            by_cases hn : s.now < 0
            · have TN : decide (s.now < 0) = true := decide_eq_true hn
              have hl0 := (HLF.out).none hn
              have HN : Hid (r7 = 0) := by unfold Hid; rw [← HR7.out, if_pos hn]
              have HL0 : Hid (l.length = 0) := by rw [hl0]; rfl
              have HL01 : Hid (l.length - 1 = 0) := by rw [hl0]; rfl
              rw [HN.out, HL01.out]
              clear hn hl0
              go_upto_region 28 with fail
              rw [HL0.out]
              go_wp2_with (first
                | (go_at_call 32; (with_reducible refine (chainBegun_any _).mono ?_); rintro e w8 ⟨rfl, hb8⟩))
              go_ret
              exact ⟨rfl, E1.out.trans (HEK.out.trans (HEI.out.trans hb8))⟩
            · have TN : decide (s.now < 0) = false := decide_eq_false hn
              obtain ⟨hpos, hhd⟩ := (HLF.out).head (by omega)
              have hend := (HR.out).ends
              have HN : Hid (r7 = 1) := by unfold Hid; rw [← HR7.out, if_neg hn]
              rw [HN.out]
              obtain ⟨bl, ol, _, el, _, _, _, y0, _⟩ := (Ints.stays (Ext.stays HEI.out) HLK.out).get hpos
              obtain ⟨bl', ol', _, el', _, _, _, y1, _⟩ := (Ints.stays (Ext.stays HEI.out) HLK.out).get (show l.length - 1 < l.length by omega)
              simp only [Value.slice.injEq] at el
              obtain ⟨rfl, -, rfl⟩ := el
              simp only [Value.slice.injEq, Option.some.injEq, Addr.mk.injEq] at el'
              obtain ⟨⟨rfl, rfl, -⟩, -, -⟩ := el'
              have e1 : l[0] = s.now := by rw [← hhd]; simp [List.getD, List.getElem?_eq_getElem hpos]
              have e2 : l[l.length - 1] = 0 := by
                unfold lineEnd at hend
                have h2 : l.getD (l.length - 1) 0 = 0 := by
                  rcases Bool.or_eq_true _ _ ▸ hend with h | h
                  · have := of_decide_eq_true h; omega
                  · exact of_decide_eq_true h
                rw [← h2]; simp [List.getD, List.getElem?_eq_getElem (show l.length - 1 < l.length by omega)]
              rw [e1, Nat.zero_mul, Nat.add_zero] at y0
              rw [e2, Nat.mul_one] at y1
              obtain ⟨m, hm⟩ : ∃ m, l.length = m + 1 := ⟨l.length - 1, by omega⟩
              have hm1 : l.length - 1 = m := by omega
              rw [hm1] at y1 ⊢
              have HM := Lib.hid hm
              have KL : IntKind.i64.wrap (((m + 1 : Nat) : Int) - 1) = (m : Int) := by
                have e : (((m + 1 : Nat) : Int) - 1) = (m : Int) := by omega
                rw [e]; exact IntWalk.i64_in _ (by omega)
              have KL2 : IntKind.i64.wrap ((m : Int) + 1 - 1) = (m : Int) := by
                have e : ((m : Int) + 1 - 1) = (m : Int) := by omega
                rw [e]; exact IntWalk.i64_in _ (by omega)
              have KL3 : IntKind.i64.wrap (m : Int) = (m : Int) := IntWalk.i64_in _ (by omega)
              have TB3 : (0 : Int) ≤ (m : Int) := by omega
              have TB4 : (m : Int) < (m : Int) + 1 := by omega
              have TP : decide (0 < ((m + 1 : Nat) : Int)) = true := decide_eq_true (by omega)
              have TP2 : decide ((0 : Int) < (m : Int) + 1) = true := decide_eq_true (by omega)
              clear hn hend hhd e1 e2 hm1 hm
              go_upto_region 29 with fail
              rw [HM.out]
              refine wp_region_ext (by kernel_rfl) (by kernel_rfl) ?_
              repeat (first
                | go_big_quiet_skip
                | (go_big_quiet_want
                   unfold Oper.quiet
                   apply Exists.intro
                   refine ⟨fun w' hw' => ?_, ?_⟩
                   focus
                     have hcq := Ext.keep hw'
                     go_simp
                     first
                       | with_reducible rfl
                       | ((go_at_call 32; refine (chainBegun_any _).mono ?_; rintro e w8 ⟨rfl, hb8⟩; exact ⟨rfl, hw'.trans hb8⟩))
                   (try dsimp only [Act.put])
                   (try simp only [List.setIfInBounds_toArray, List.set_cons_succ, List.set_cons_zero])
                   go_big_quiet_on))
              refine wpQuiet_nil ?_
              intro wq hq
              go_wp2_with fail
              go_ret
              exact ⟨rfl, E1.out.trans (HEK.out.trans (HEI.out.trans hq))⟩
  · have TB : (stateErr p s != 0) = true := bne_iff_ne.2 hz
    obtain ⟨se, hse⟩ : ∃ se, stateErr p s = se := ⟨_, rfl⟩
    have HIF : Hid ((if stateErr p s = 0 then lineL s else []) = []) := by unfold Hid; rw [if_neg hz]
    rw [hse] at TB
    have HZ := Lib.hid hse
    clear hz hse
    go_enter Try.func8, Try.ntmps8
    go_wp2_with (first
      | (go_at_call 28; (with_reducible refine (chainLine_any p _ _ _ s _ _ (Funcs.stays (Ext.stays E0.out) HP.out) (StateV.stays (Ext.stays E0.out) HS.out)).mono ?_); rintro e w1 ⟨⟨aL, cL, rfl, hl⟩, hb1⟩; rw [HIF.out] at hl; rw [HIF.out, HZ.out]; have b0 := Ext.cell hb1 b0; have b1 := Ext.cell hb1 b1; have b2 := Ext.cell hb1 b2; have E1 := Lib.hid (E0.out.trans hb1); have HL1 := Lib.hid (Ints.stays (T := fun _ => True) (Stays.widen (fun _ _ => trivial)) hl); clear hl hb1)
      | (go_at_call 32; (with_reducible refine (chainBegun_any _).mono ?_); rintro e w8 ⟨rfl, hb8⟩))
    go_ret
    exact ⟨rfl, E1.out.trans hb8⟩

theorem contract (H : Type) (enc : TypeId × Value → H) (W : World) (base : Nat) (args : Array Value) (ds gs : List (DataW H)) (before : List MemPlace)
    (hval : ∀ (j : Nat) t v, Try.f8.params[j]? = some t → args[j]? = some v → Value.okWide Try.prog W .any base t v)
    (hW : DataW.Whole enc Try.prog Try.f8.params.toList Rows.chainTrueSpec.vars false W args.toList ds gs before)
    (hsz : (DataW.weightsEach Try.prog (Try.f8.params.toList ++ Rows.chainTrueSpec.plain.varTypes Try.prog) (ds ++ gs)).all (· ≤ reachBytes) = true) :
    Calls Try.prog 8 args W fun e W' => ∃ v, e = .returned v ∧ Rows.chainTrueSpec.post enc Try.prog Try.f8 false true false false W args v W' := by
  have hW' := hW
  obtain ⟨p, q, hA, hV, rfl, hfz, hnd⟩ := hW
  rw [Try.params8] at hA hval
  obtain ⟨v0, vs0, d0, ds0, q0, t0, hargs, rfl, rfl, h0, r0⟩ := trodAll_cons hA
  obtain ⟨v1, vs1, d1, ds1, q1, t1, rfl, rfl, rfl, h1, r1⟩ := trodAll_cons r0
  obtain ⟨rfl, rfl, rfl⟩ := trodAll_nil r1
  obtain rfl : args = #[v0, v1] := by cases args; simp_all
  obtain ⟨rfl, rfl⟩ := trodVars_none hV
  obtain ⟨a0, l0, c0, rfl⟩ := okWide_slice Try.underlying22 (hval 0 22 v0 rfl rfl)
  obtain ⟨fuel0, h0⟩ := h0
  obtain ⟨x0, h0⟩ := funcs_of_trod h0 (fun n hn => by
    have := List.all_eq_true.1 hsz n (DataW.weights_mem_each (j := 0) rfl rfl n hn)
    simpa using this)
  obtain ⟨x1, h1⟩ := state_of_trod (hval 1 43 v1 rfl rfl) h1 (fun n hn => by
    have := List.all_eq_true.1 hsz n (DataW.weights_mem_each (j := 1) rfl rfl n hn)
    simpa using this)
  refine (walk W x0 _ h0 x1 _ h1).mono fun e W' ⟨he, hE⟩ => ⟨_, he, law_post laidOut ?_ rfl Try.underlying4 rfl hW' ?_ hE⟩
  · rw [Try.params8]
    intro t ht
    simp at ht
    (try rcases ht with rfl | rfl) <;> exact ⟨by kernel_rfl, of_decide_eq_true (by kernel_rfl)⟩
  · intro ds hds
    match ds, hds with
    | [d0, d1], _ => exact ⟨rfl, rfl, rfl⟩

theorem lifted (os : Os) (started : os.Started) (H : Type) (enc : TypeId × Value → H) :
    ReturnsInHanded {} Try.checked os 8 .any (Rows.chainTrueSpec.pre6 enc Try.prog Try.f8 Rows.chainTrueRow.domain false) (Rows.chainTrueSpec.post enc Try.prog Try.f8 false true false false) := by
  refine returnsInHanded_of_change_sized (C := Try.checked) own started (by kernel_rfl) Try.func8
    (ChangeSpec.witness6 (enc := enc) (C := Try.checked) false ⟨#[], #[.slice none 0 0, .agg #[.slice none 0 0, .int .i64 0, .slice none 0 0]], []⟩ 8 (by kernel_rfl) (by kernel_rfl) (by kernel_rfl) (by kernel_rfl)) ?_
  intro W base args ds gs before hval hW _ hsz _
  exact contract H enc W base args ds gs before hval hW hsz

theorem proved : Rows.ChainTrueSaid :=
  OpenClaim.holds_of_wide 8 Try.f8 rfl rfl rfl rfl rfl rfl rfl ⟨rfl, rfl, rfl, rfl, rfl⟩ rfl rfl rfl rfl rfl (by as_aux_lemma => kernel_rfl) Try.func8 (by as_aux_lemma => kernel_rfl)
    (of_decide_eq_true (by as_aux_lemma => kernel_rfl)) (by unfold Func.isWrapper; rw [if_neg (of_decide_eq_false (by as_aux_lemma => kernel_rfl))]; exact ⟨rfl, rfl⟩)
    (fun os started H enc _ => lifted os started H enc)
end Go.Proofs.Ytpomcbginkhlbaa.chainTrue

