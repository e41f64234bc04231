/- Merged texts: contracts and plain facts, one part behind another; each part begins with what it says. -/
import Derived.Test.YtgahbngbpfilgaaGBBE
import Derived.Test.YtgahbngbpfilgaaGBBF
import Derived.Laws.Strings2
section
/- Plain: reading where what is not there is 0; how it stands to the reading that may end too early. No program in sight; no condition. -/
set_option maxHeartbeats 1000000
namespace Go.Proofs.Ytgahbngbpfilgaa
open Go Go.RowKit

def td1 : Rd Int
  | [] => some (0, [])
  | b :: r => some ((b.toNat : Int), r)
def tdU : Nat → Int → Rd Int
  | 0, u, r => some (u, r)
  | k + 1, u, r => match td1 r with
    | none => none
    | some (b, r1) => tdU k (u * 256 + b) r1
def tdW : Rd Int := fun r => match tdU 8 0 r with
  | none => none
  | some (u, r1) => some (wrap64 u, r1)
def tdL {α : Type} (one : Rd α) : Rd (List α) := fun r => match td1 r with
  | none => none
  | some (n, r1) => rdN one n.toNat r1
def tdF : Rd GFrame := fun r => match td1 r with
  | none => none
  | some (f, r1) => match td1 r1 with
    | none => none
    | some (a, r2) => match tdL tdW r2 with
      | none => none
      | some (l, r3) => match tdL tdW r3 with
        | none => none
        | some (t, r4) => some (⟨f, a, l, t⟩, r4)
def tdB : Rd GFiber := fun r => match td1 r with
  | none => none
  | some (c, r1) => match tdL tdF r1 with
    | none => none
    | some (l, r2) => some (⟨l, c - 1⟩, r2)
def tdS : Rd GState := fun r => match td1 r with
  | none => none
  | some (c, r1) => match tdL tdB r1 with
    | none => none
    | some (l, r2) => match tdL tdW r2 with
      | none => none
      | some (o, r3) => some (⟨l, c - 1, o⟩, r3)

/-- It never ends too early. -/
def Tot {α : Type} (one : Rd α) : Prop := ∀ r, ∃ x r1, one r = some (x, r1)
theorem td1_tot : Tot td1
  | [] => ⟨_, _, rfl⟩
  | _ :: _ => ⟨_, _, rfl⟩
theorem tdU_tot : ∀ (k : Nat) (u : Int), Tot (tdU k u)
  | 0, _ => fun _ => ⟨_, _, rfl⟩
  | k + 1, u => fun r => by
    obtain ⟨b, r1, h⟩ := td1_tot r
    obtain ⟨x, r2, h2⟩ := tdU_tot k (u * 256 + b) r1
    exact ⟨x, r2, by rw [tdU, h]; exact h2⟩
theorem tdW_tot : Tot tdW := fun r => by
  obtain ⟨x, r1, h⟩ := tdU_tot 8 0 r
  exact ⟨wrap64 x, r1, by unfold tdW; rw [h]⟩
theorem rdN_tot {α : Type} {one : Rd α} (h : Tot one) : ∀ n, Tot (rdN one n)
  | 0 => fun _ => ⟨_, _, rfl⟩
  | n + 1 => fun r => by
    obtain ⟨x, r1, h1⟩ := h r
    obtain ⟨l, r2, h2⟩ := rdN_tot h n r1
    exact ⟨x :: l, r2, by rw [rdN, h1]; simp only; rw [h2]⟩
theorem tdL_tot {α : Type} {one : Rd α} (h : Tot one) : Tot (tdL one) := fun r => by
  obtain ⟨n, r1, h1⟩ := td1_tot r
  obtain ⟨l, r2, h2⟩ := rdN_tot h n.toNat r1
  exact ⟨l, r2, by unfold tdL; rw [h1]; exact h2⟩
theorem tdF_tot : Tot tdF := fun r => by
  obtain ⟨f, r1, h1⟩ := td1_tot r
  obtain ⟨a, r2, h2⟩ := td1_tot r1
  obtain ⟨l, r3, h3⟩ := tdL_tot tdW_tot r2
  obtain ⟨t, r4, h4⟩ := tdL_tot tdW_tot r3
  exact ⟨⟨f, a, l, t⟩, r4, by unfold tdF; rw [h1]; simp only; rw [h2]; simp only; rw [h3]; simp only; rw [h4]⟩
theorem tdB_tot : Tot tdB := fun r => by
  obtain ⟨f, r1, h1⟩ := td1_tot r
  obtain ⟨l, r3, h3⟩ := tdL_tot tdF_tot r1
  exact ⟨⟨l, f - 1⟩, r3, by unfold tdB; rw [h1]; simp only; rw [h3]⟩
theorem td1_i64 {b r : List UInt8} {n : Int} (h : td1 b = some (n, r)) : I64 n ∧ 0 ≤ n ∧ n < 256 := by
  cases b with
  | nil => cases h; exact ⟨I64.zero, by decide, by decide⟩
  | cons c b =>
    cases h
    have := c.toNat_lt
    exact ⟨i64_byte c, by omega, by omega⟩

/-- Where the one reads, the other reads the same. -/
def Sub {α : Type} (one two : Rd α) : Prop := ∀ r x r1, one r = some (x, r1) → two r = some (x, r1)
theorem sub1 : Sub rd1 td1 := fun r x r1 h => by
  cases r with
  | nil => cases h
  | cons c r => exact h
theorem subU : ∀ (k : Nat) (u : Int), Sub (rdU k u) (tdU k u)
  | 0, _ => fun _ _ _ h => h
  | k + 1, u => fun r x r1 h => by
    cases r with
    | nil => cases h
    | cons c r =>
      rw [rdU] at h
      rw [tdU]
      exact subU k _ _ _ _ h
theorem subW : Sub rdW tdW := fun r x r1 h => by
  unfold rdW at h
  unfold tdW
  cases h1 : rdU 8 0 r with
  | none => rw [h1] at h; cases h
  | some v => rw [h1] at h; rw [subU 8 0 r v.1 v.2 h1]; exact h
theorem subN {α : Type} {one two : Rd α} (hs : Sub one two) : ∀ n, Sub (rdN one n) (rdN two n)
  | 0 => fun _ _ _ h => h
  | n + 1 => fun r x r1 h => by
    rw [rdN] at h ⊢
    cases h1 : one r with
    | none => rw [h1] at h; cases h
    | some v =>
      rw [h1] at h
      rw [hs r v.1 v.2 h1]
      simp only at h ⊢
      cases h2 : rdN one n v.2 with
      | none => rw [h2] at h; cases h
      | some z => rw [h2] at h; rw [subN hs n v.2 z.1 z.2 h2]; exact h
theorem subL {α : Type} {one two : Rd α} (hs : Sub one two) : Sub (rdL one) (tdL two) := fun r x r1 h => by
  unfold rdL at h
  unfold tdL
  cases h1 : rd1 r with
  | none => rw [h1] at h; cases h
  | some v => rw [h1] at h; rw [sub1 r v.1 v.2 h1]; exact subN hs _ _ _ _ h
theorem subF : Sub rdF tdF := fun r x r1 h => by
  unfold rdF at h
  unfold tdF
  cases h1 : rd1 r with
  | none => rw [h1] at h; cases h
  | some v =>
    rw [h1] at h
    rw [sub1 r v.1 v.2 h1]
    simp only at h ⊢
    cases h2 : rd1 v.2 with
    | none => rw [h2] at h; cases h
    | some v2 =>
      rw [h2] at h
      rw [sub1 _ v2.1 v2.2 h2]
      simp only at h ⊢
      cases h3 : rdL rdW v2.2 with
      | none => rw [h3] at h; cases h
      | some v3 =>
        rw [h3] at h
        rw [subL subW _ v3.1 v3.2 h3]
        simp only at h ⊢
        cases h4 : rdL rdW v3.2 with
        | none => rw [h4] at h; cases h
        | some v4 =>
          rw [h4] at h
          rw [subL subW _ v4.1 v4.2 h4]
          exact h
theorem subB : Sub rdB tdB := fun r x r1 h => by
  unfold rdB at h
  unfold tdB
  cases h1 : rd1 r with
  | none => rw [h1] at h; cases h
  | some v =>
    rw [h1] at h
    rw [sub1 r v.1 v.2 h1]
    simp only at h ⊢
    cases h3 : rdL rdF v.2 with
    | none => rw [h3] at h; cases h
    | some v3 =>
      rw [h3] at h
      rw [subL subF _ v3.1 v3.2 h3]
      exact h
theorem subS : Sub rdS tdS := fun r x r1 h => by
  unfold rdS at h
  unfold tdS
  cases h1 : rd1 r with
  | none => rw [h1] at h; cases h
  | some v =>
    rw [h1] at h
    rw [sub1 r v.1 v.2 h1]
    simp only at h ⊢
    cases h3 : rdL rdB v.2 with
    | none => rw [h3] at h; cases h
    | some v3 =>
      rw [h3] at h
      rw [subL subB _ v3.1 v3.2 h3]
      simp only at h ⊢
      cases h4 : rdL rdW v3.2 with
      | none => rw [h4] at h; cases h
      | some v4 =>
        rw [h4] at h
        rw [subL subW _ v4.1 v4.2 h4]
        exact h

/-- What the document's StateFrom answers. -/
def fromS (p : List GFunc) (b : List UInt8) (s : GState) : Bool × GState := if stateErr p s = 0 ∧ stateL s = b then (true, s) else (false, ⟨[], 0, []⟩)
theorem from_read {p : List GFunc} {b r : List UInt8} {s : GState} (hp : progErr p = 0) (hb : b.length ≤ 8192) (hs : tdS b = some (s, r)) (hI : I64S s) :
    (fromS p b s = (true, s) ∧ readS p b = (0, s)) ∨ (fromS p b s = (false, ⟨[], 0, []⟩) ∧ readS p b = (1, ⟨[], 0, []⟩)) := by
  unfold fromS
  by_cases h : stateErr p s = 0 ∧ stateL s = b
  · rw [if_pos h]
    have := readS_back h.1 hI (by rw [h.2]; exact hb)
    rw [h.2] at this
    exact .inl ⟨rfl, this⟩
  · rw [if_neg h]
    refine .inr ⟨rfl, ?_⟩
    unfold readS
    rw [if_neg (fun k => k hp), if_neg (by omega)]
    cases h3 : rdS b with
    | none => rfl
    | some v =>
      obtain ⟨t, r3⟩ := v
      have h4 := subS _ _ _ h3
      rw [hs] at h4
      cases h4
      simp only
      refine if_neg fun h5 => h ⟨h5.2, ?_⟩
      have := rdS_forth _ _ _ h3
      rw [h5.1, List.append_nil] at this
      exact this.symm
end Go.Proofs.Ytgahbngbpfilgaa
end
section
/- Contracts of the document's ear: byte, eight, many. No condition. -/
set_option maxHeartbeats 4000000
set_option maxRecDepth 100000
namespace Go.Proofs.Ytgahbngbpfilgaa
open Go Go.RowKit

theorem earByte_any {G : Nat} {b r1 : List UInt8} {n : Int} {w : World} (h : Cx w G 0 (strV b)) (hr : td1 b = some (n, r1)) :
    Calls Try.prog 46 #[.pointer (some ⟨G, 0, none⟩)] w fun e w' => e = .returned (.int .i64 n) ∧ Chg (· = G) w w' ∧ Cx w' G 0 (strV r1) := by
  have H := Lib.hid h
  unfold strV at h
  obtain ⟨c0, c0'⟩ := h
  have RA := alloc_keep
  cases b with
  | nil =>
    cases hr
    go_enter Try.func46, Try.ntmps46
    go_wp2_with fail
    go_ret
    exact ⟨rfl, Chg.refl _ _, H.out⟩
  | cons c r =>
    cases hr
    have e1 : wrap64 (c.toNat : Int) = (c.toNat : Int) := by
      have := c.toNat_lt
      unfold wrap64
      omega
    have e2 : (Value.string (({ data := (c :: r1).toArray } : ByteArray).extract 1 (r1.length + 1))) = strV r1 := by
      unfold strV
      rw [ByteArray.extract_mk]
      simp
    have HE2 := Lib.hid e2
    have HE1 := Lib.hid e1
    clear e1 e2
    go_enter Try.func46, Try.ntmps46
    go_wp2_with fail
    rw [HE2.out]
    change bodyPost _ _ _ _ { tmps := #[_, undef, .int .i64 (wrap64 (c.toNat : Int)), _, _, _, _, _, _, _, _, _, _, _, _, _, _, _, _, _, _, _, _, _], defers := [] } _
    rw [HE1.out]
    go_ret
    exact ⟨rfl, chg_one w G 0 (strV r1), Cx.set H.out _⟩

theorem earEight_any {G : Nat} {b r1 : List UInt8} {n : Int} {w : World} (h : Cx w G 0 (strV b)) (hr : tdW b = some (n, r1)) :
    Calls Try.prog 77 #[.pointer (some ⟨G, 0, none⟩)] w fun e w' => e = .returned (.int .i64 n) ∧ Chg (· = G) w w' ∧ Cx w' G 0 (strV r1) ∧ I64 n := by
  have H := Lib.hid h
  have HR := Lib.hid hr
  clear h hr
  have RA := alloc_keep
  go_enter Try.func77, Try.ntmps77
  go_wp2_with fail
  go_loopw [3, 4] (fun q3 q4 wr => ∃ j : Nat, j ≤ 8 ∧ q4 = .int .i64 (j : Int) ∧ ∃ (a : Int) (r : List UInt8), q3 = .int .u64 a ∧ 0 ≤ a ∧ a < 256 ^ j ∧ tdU 8 0 b = tdU (8 - j) a r ∧ Cx wr G 0 (strV r) ∧ Chg (· = G) w wr) (fun _ q _ => 8 - (intOf q).toNat)
  case atStart => exact ⟨0, Nat.zero_le _, rfl, 0, b, rfl, by omega, by omega, rfl, H.out, Chg.refl _ _⟩
  case round =>
    obtain ⟨j, hj, rfl, a, r, rfl, ha, ha2, hrd, hc, hch⟩ := hrel
    have HC := Lib.hid hc
    have HCH := Lib.hid hch
    have HRD := Lib.hid hrd
    have KI : IntKind.i64.wrap ((j : Int) + 1) = (j : Int) + 1 := IntWalk.i64_in _ (by omega)
    clear hc hch hrd
    by_cases hlt : j < 8
    · obtain ⟨c, r2, h1⟩ := td1_tot r
      have HC1 := Lib.hid h1
      have hci := td1_i64 h1
      have ha3 : a < 72057594037927936 := Int.lt_of_lt_of_le ha2 (show (256 : Int) ^ j ≤ 256 ^ 7 by have h7 := Nat.pow_le_pow_right (show 0 < 256 by decide) (show j ≤ 7 by omega); exact_mod_cast h7)
      have KC : IntKind.u64.wrap c = c := by rw [IntKind.wrap_u64]; omega
      have KA : IntKind.u64.wrap (a * 256) = a * 256 := by rw [IntKind.wrap_u64]; omega
      have KS : IntKind.u64.wrap (a * 256 + c) = a * 256 + c := by rw [IntKind.wrap_u64]; omega
      have HCI := Lib.hid hci
      clear h1
      go_wp2_with (first
        | (go_at_call 46; (with_reducible refine (earByte_any HC.out HC1.out).mono ?_); rintro e w2 ⟨rfl, hch2, hc2⟩))
      go_roundw
      case rel =>
        have h3 := HCI.out
        refine ⟨j + 1, by omega, by go_num, a * 256 + c, r2, ?_, by omega, ?_, ?_, hc2, HCH.out.trans hch2⟩
        · rfl
        · rw [Int.pow_succ]; omega
        · rw [HRD.out]
          obtain ⟨k, hk⟩ : ∃ k, 8 - j = k + 1 := ⟨7 - j, by omega⟩
          rw [hk, show 8 - (j + 1) = k by omega, tdU, HC1.out]
      case measure => simp [intOf]; omega
    · obtain rfl : j = 8 := by omega
      have e0 : tdW b = some (wrap64 a, r) := by
        unfold tdW
        rw [HRD.out]
        rfl
      rw [HR.out] at e0
      cases e0
      clear ha2
      go_wp2_with fail
      go_ret
      exact ⟨rfl, HCH.out, HC.out, i64_wrap _⟩

theorem earMany_any {G : Nat} {b r1 : List UInt8} {l : List Int} {w : World} (h : Cx w G 0 (strV b)) (hr : tdL tdW b = some (l, r1)) :
    Calls Try.prog 47 #[.pointer (some ⟨G, 0, none⟩)] w fun e w' => (∃ v, e = .returned v ∧ Ints w' (w.heap.size ≤ ·) v l) ∧ Chg (· = G) w w' ∧ Cx w' G 0 (strV r1) := by
  have H := Lib.hid h
  have hGl := h.lt
  have RA := alloc_keep
  obtain ⟨i0, hi0, hz0, hz1, hz2⟩ := info_parts infoI
  obtain ⟨c, b2, hc⟩ := td1_tot b
  have hci := td1_i64 hc
  have HC0 := Lib.hid hc
  have HR := Lib.hid hr
  obtain ⟨n, rfl⟩ : ∃ n : Nat, c = n := ⟨c.toNat, by omega⟩
  have hn : n < 256 := by omega
  clear h hr hc hci
  have hrn : rdN tdW n b2 = some (l, r1) := by
    have e := HR.out
    unfold tdL at e
    rw [HC0.out] at e
    simpa using e
  have HRN := Lib.hid hrn
  clear hrn HR
  go_enter Try.func47, Try.ntmps47
  go_wp2_with (first
    | (go_at_call 46; (with_reducible refine (earByte_any H.out HC0.out).mono ?_); rintro e w2 ⟨rfl, hch2, hc2⟩))
  have HL0 := Lib.hid (ListS.start kInt (fun x : Int => x) tdW n hc2 hch2)
  clear hch2 hc2 H
  go_loopw [3, 4] (fun q3 q4 wr => ∃ i : Nat, i ≤ n ∧ q4 = .int .i64 ((n - i : Nat) : Int) ∧ ∃ ys r, ListS kInt (fun x : Int => x) tdW w wr G b2 n i q3 ys r) (fun _ q _ => (intOf q).toNat)
  case atStart => exact ⟨0, Nat.zero_le _, rfl, _, _, HL0.out⟩
  case round =>
    obtain ⟨i, hi, rfl, ys, r, hl⟩ := hrel
    clear HL0
    have HL := Lib.hid hl
    obtain ⟨m, hm⟩ : ∃ m, n - i = m := ⟨_, rfl⟩
    rw [hm]
    have KI : IntKind.i64.wrap ((m : Int) - 1) = (m : Int) - 1 := IntWalk.i64_in _ (by omega)
    have hlen := hl.len
    have hrow := hl.row.row
    rw [hlen] at hrow
    have HROW : Hid (RowAt wr w.heap.size 1 _ i (ys.flatMap intF)) := hrow
    obtain ⟨ac, cc, rfl, _, _⟩ := hrow.shape
    clear hrow
    have HNE : Hid (∀ q, rowBlock (.slice ac i cc) = some q → ¬ q = G) := by
      intro q e e2
      have := HROW.out.le q e
      omega
    have HCX := Lib.hid hl.cx
    have HSZ := Lib.hid (show w.heap.size ≤ wr.heap.size from hl.chg.size)
    clear hl
    rename World => wk
    by_cases hlt : i < n
    · obtain ⟨x, r2, h1⟩ := tdW_tot r
      have HR1 := Lib.hid h1
      have hm0 : 0 < m := by omega
      have HM := Lib.hid hm
      clear h1 hm
      go_wp2_with (first
        | (go_at_call 77; (with_reducible refine (earEight_any HCX.out HR1.out).mono ?_); rintro e w3 ⟨rfl, hch3, hc3, hx⟩)
        | (at_builtin; refine wpList_append_row rfl _ _ 24 rfl w.heap.size 3 i0 (.int .i64 0) 1 8 Try.underlying24 hi0 hz0 hz1 hz2 rfl (by decide) _ _ _ rfl (by exact (HROW.out.chg hch3 HNE.out (by decide)).ext ((Ext.refl _).alloc _) (by decide)) 1 (intF x) (by exact src_int _ x _) (by unfold maxLen; omega) (by omega) (by exact Nat.le_trans HSZ.out (Nat.le_trans hch3.size (Ext.size (show Ext w3 _ by ((repeat (first | assumption | exact Ext.refl _ | (exact And.left (by assumption)) | refine Ext.alloc ?_ _ | refine Ext.drew ?_ | refine Ext.drewN ?_ _ | refine Ext.setCell ?_ (by simp) _ | refine Ext.setCell ?_ (by simp; omega) _ | refine Ext.trans ?_ (by assumption))); done))))) ?_; intro v5 W5w rv5; have h5 := Lib.hid (HL.out.step hGl hlt HR1.out hch3 hc3 hx ((Ext.refl _).alloc _) rv5 (by rw [hlen])); obtain ⟨a5, c5, rfl, _, _⟩ := rv5.1.shape; clear rv5))
      go_roundw
      case rel => exact ⟨i + 1, by omega, by have := HM.out; rw [show n - (i + 1) = m - 1 by omega]; go_num, _, _, h5.out⟩
      case measure => have := HM.out; simp [intOf]; omega
    · obtain rfl : i = n := by omega
      obtain rfl : m = 0 := by omega
      have hd := HL.out.done
      rw [HRN.out, List.map_id'] at hd
      cases hd
      go_wp2_with fail
      go_ret
      exact ⟨⟨_, rfl, HL.out.row.ints (by omega)⟩, HL.out.chg, HL.out.cx⟩
end Go.Proofs.Ytgahbngbpfilgaa
end
section
/- Contract of the document's StateFrom. No condition. -/
set_option maxHeartbeats 4000000
set_option maxRecDepth 100000
namespace Go.Proofs.Ytgahbngbpfilgaa
open Go Go.RowKit

/-- What a loop keeps that reads a list into a box: i were read into ys, r is left. -/
structure LT {δ α : Type} (K : Knd δ) (pr : δ → α) (one : Rd α) (M : Nat → Prop) (w wr : World) (b : List UInt8) (n i : Nat) (v : Value) (ys : List δ) (r : List UInt8) : Prop where
  len : ys.length = i
  rd : rdN one n b = rdA one (ys.map pr) (n - i) r
  row : GRow K wr w.heap.size v ys
  chg : Chg M w wr
theorem LT.start {δ α : Type} (K : Knd δ) (pr : δ → α) (one : Rd α) (M : Nat → Prop) (w : World) (b : List UInt8) (n : Nat) : LT K pr one M w w b n 0 (.slice none 0 0) [] b :=
  ⟨rfl, rdA_nil _ _ _, GRow.nil _ _ _, Chg.refl _ _⟩
theorem LT.step {δ α : Type} {K : Knd δ} {pr : δ → α} {one : Rd α} {M : Nat → Prop} {w wr w2 W5 W6 W7 : World} {b : List UInt8} {n i m : Nat} {v v' : Value} {ys : List δ} {r r1 : List UInt8} {y : δ} (hM : ∀ q, M q → q < w.heap.size) (h : LT K pr one M w wr b n i v ys r) (hi : i < n)
    (h1 : one r = some (pr y, r1)) (hch : Chg M wr w2) (hy : K.E w2 (wr.heap.size ≤ ·) y) (he : Ext w2 W5) (hn : NewRow W5 W6 w.heap.size K.sz v v' m (ys.flatMap K.f ++ K.f y)) (hm : m = ys.length + 1) (hst : Chg M W6 W7) :
    LT K pr one M w W7 b n (i + 1) v' (ys ++ [y]) r1 := by
  have hne : ∀ q, rowBlock v = some q → w.heap.size ≤ q := fun q e => h.row.row.le q e
  have hfar : ∀ b, w.heap.size ≤ b → ¬ M b := fun b hb e => by have := hM b e; omega
  have hr2 : GRow K w2 w.heap.size v ys := h.row.chg hch hfar
  refine ⟨by rw [List.length_append, List.length_singleton, h.len], ?_, ((h.row.grow (hr2.ext he) h.chg.size hn hm (K.st he.stays hy))).chg hst hfar, ?_⟩
  · rw [h.rd, show n - i = (n - (i + 1)) + 1 by omega, rdA_some h1, List.map_append]
    rfl
  · exact (((h.chg.trans hch).trans (Chg.of_ext he)).trans' hn.2.1 (fun q hq e => by have := hne _ e; omega)).trans hst
theorem LT.done {δ α : Type} {K : Knd δ} {pr : δ → α} {one : Rd α} {M : Nat → Prop} {w wr : World} {b : List UInt8} {n : Nat} {v : Value} {ys : List δ} {r : List UInt8} (h : LT K pr one M w wr b n n v ys r) : rdN one n b = some (ys.map pr, r) := by
  rw [h.rd, Nat.sub_self, rdA_zero]

/-- Cells of a box. -/
structure Cx2 (w : World) (b : Nat) (u0 u1 : Value) : Prop where
  c0 : Cx w b 0 u0
  c1 : Cx w b 1 u1
structure Cx3 (w : World) (b : Nat) (u0 u1 u2 : Value) : Prop where
  c0 : Cx w b 0 u0
  c1 : Cx w b 1 u1
  c2 : Cx w b 2 u2
structure Cx4 (w : World) (b : Nat) (u0 u1 u2 u3 : Value) : Prop where
  c0 : Cx w b 0 u0
  c1 : Cx w b 1 u1
  c2 : Cx w b 2 u2
  c3 : Cx w b 3 u3
theorem Cx2.chg {M : Nat → Prop} {w w' : World} {b : Nat} {u0 u1 : Value} (h : Cx2 w b u0 u1) (hc : Chg M w w') (hM : ¬ M b) : Cx2 w' b u0 u1 := ⟨h.c0.chg hc hM, h.c1.chg hc hM⟩
theorem Cx3.chg {M : Nat → Prop} {w w' : World} {b : Nat} {u0 u1 u2 : Value} (h : Cx3 w b u0 u1 u2) (hc : Chg M w w') (hM : ¬ M b) : Cx3 w' b u0 u1 u2 := ⟨h.c0.chg hc hM, h.c1.chg hc hM, h.c2.chg hc hM⟩
theorem Cx4.chg {M : Nat → Prop} {w w' : World} {b : Nat} {u0 u1 u2 u3 : Value} (h : Cx4 w b u0 u1 u2 u3) (hc : Chg M w w') (hM : ¬ M b) : Cx4 w' b u0 u1 u2 u3 := ⟨h.c0.chg hc hM, h.c1.chg hc hM, h.c2.chg hc hM, h.c3.chg hc hM⟩
theorem Cx2.put0 {w : World} {b : Nat} {u0 u1 : Value} (h : Cx2 w b u0 u1) (u : Value) : Cx2 (w.setCell ⟨b, 0, none⟩ u) b u u1 := ⟨h.c0.set _, h.c1.other (.inr (by decide)) _⟩
theorem Cx3.put0 {w : World} {b : Nat} {u0 u1 u2 : Value} (h : Cx3 w b u0 u1 u2) (u : Value) : Cx3 (w.setCell ⟨b, 0, none⟩ u) b u u1 u2 := ⟨h.c0.set _, h.c1.other (.inr (by decide)) _, h.c2.other (.inr (by decide)) _⟩
theorem Cx3.put2 {w : World} {b : Nat} {u0 u1 u2 : Value} (h : Cx3 w b u0 u1 u2) (u : Value) : Cx3 (w.setCell ⟨b, 2, none⟩ u) b u0 u1 u := ⟨h.c0.other (.inr (by decide)) _, h.c1.other (.inr (by decide)) _, h.c2.set _⟩
theorem Cx4.put1 {w : World} {b : Nat} {u0 u1 u2 u3 : Value} (h : Cx4 w b u0 u1 u2 u3) (u : Value) : Cx4 (w.setCell ⟨b, 1, none⟩ u) b u0 u u2 u3 := ⟨h.c0.other (.inr (by decide)) _, h.c1.set _, h.c2.other (.inr (by decide)) _, h.c3.other (.inr (by decide)) _⟩
theorem Cx4.put2 {w : World} {b : Nat} {u0 u1 u2 u3 : Value} (h : Cx4 w b u0 u1 u2 u3) (u : Value) : Cx4 (w.setCell ⟨b, 2, none⟩ u) b u0 u1 u u3 := ⟨h.c0.other (.inr (by decide)) _, h.c1.other (.inr (by decide)) _, h.c2.set _, h.c3.other (.inr (by decide)) _⟩
theorem Cx4.put3 {w : World} {b : Nat} {u0 u1 u2 u3 : Value} (h : Cx4 w b u0 u1 u2 u3) (u : Value) : Cx4 (w.setCell ⟨b, 3, none⟩ u) b u0 u1 u2 u := ⟨h.c0.other (.inr (by decide)) _, h.c1.other (.inr (by decide)) _, h.c2.other (.inr (by decide)) _, h.c3.set _⟩
theorem Cx2.new (w : World) (x y : Value) (t : TypeId) : Cx2 (w.alloc (.cells #[x, y] t)) w.heap.size x y := ⟨Cx.new w [x, y] t (j := 0) rfl, Cx.new w [x, y] t (j := 1) rfl⟩
theorem Cx3.new (w : World) (x y z : Value) (t : TypeId) : Cx3 (w.alloc (.cells #[x, y, z] t)) w.heap.size x y z := ⟨Cx.new w [x, y, z] t (j := 0) rfl, Cx.new w [x, y, z] t (j := 1) rfl, Cx.new w [x, y, z] t (j := 2) rfl⟩
theorem Cx4.new (w : World) (x y z u : Value) (t : TypeId) : Cx4 (w.alloc (.cells #[x, y, z, u] t)) w.heap.size x y z u := ⟨Cx.new w [x, y, z, u] t (j := 0) rfl, Cx.new w [x, y, z, u] t (j := 1) rfl, Cx.new w [x, y, z, u] t (j := 2) rfl, Cx.new w [x, y, z, u] t (j := 3) rfl⟩

theorem stateFrom_any (p : List GFunc) (v : Value) (S : Nat → Prop) (b rr : List UInt8) (s : GState) (w : World) (hp : Funcs w S v p) (hs : tdS b = some (s, rr)) :
    Calls Try.prog 14 #[v, .string ⟨b.toArray⟩] w fun e w' => (∃ x, e = .returned (.tuple #[x, .bool (fromS p b s).1]) ∧ StateV w' (w.heap.size ≤ ·) x (fromS p b s).2 ∧ I64S s) ∧ Ext w w' := by
  have HP := Lib.hid hp
  obtain ⟨ap, capp, rfl, _, _, _⟩ := hp
  have RA := alloc_keep
  obtain ⟨i1, hi1, hz3, hz4, hz5⟩ := info_parts infoFr
  obtain ⟨i2, hi2, hz6, hz7, hz8⟩ := info_parts infoFb
  obtain ⟨c, r1, h1⟩ := td1_tot b
  have hi1c := td1_i64 h1
  obtain ⟨n0, r2, h2⟩ := td1_tot r1
  have hi2c := td1_i64 h2
  obtain ⟨n, rfl⟩ : ∃ n : Nat, n0 = n := ⟨n0.toNat, by omega⟩
  have hn : n < 256 := by omega
  obtain ⟨L, r3, h3⟩ := rdN_tot tdB_tot n r2
  obtain ⟨O, r4, h4⟩ := tdL_tot tdW_tot r3
  have hss : s = ⟨L, c - 1, O⟩ := by
    unfold tdS at hs
    rw [h1] at hs
    simp only at hs
    have : tdL tdB r1 = some (L, r3) := by unfold tdL; rw [h2]; simpa using h3
    rw [this] at hs
    simp only at hs
    rw [h4] at hs
    cases hs
    rfl
  subst hss
  have H1 := Lib.hid h1
  have H2 := Lib.hid h2
  have H3 := Lib.hid h3
  have H4 := Lib.hid h4
  have KW2 : wrap64 (c - 1) = c - 1 := by unfold wrap64; omega
  have KW : IntKind.i64.wrap (c - 1) = c - 1 := IntWalk.i64_in _ (by omega)
  have HI1 : Hid (I64 (c - 1)) := I64.small (by omega) (by omega)
  clear h1 h2 h3 h4 hs hi1c hi2c
  have z1 : Ext w (w.alloc (.cells #[.slice none 0 0, .int .i64 0, .slice none 0 0] 26)) := (Ext.refl _).alloc _
  have RB1 := Lib.hid (Cx3.new w (.slice none 0 0) (.int .i64 0) (.slice none 0 0) 26)
  have E1 := Lib.hid z1
  clear z1
  go_enter Try.func14, Try.ntmps14
  go_upto_region 1 with fail
  obtain ⟨rb, hrb⟩ : ∃ rb, w.heap.size = rb := ⟨_, rfl⟩
  obtain ⟨W1, hW1⟩ : ∃ W1, W1 = w.alloc (.cells #[.slice none 0 0, .int .i64 0, .slice none 0 0] 26) := ⟨_, rfl⟩
  rw [← hW1] at RB1 E1 ⊢
  rw [hrb] at RB1 ⊢
  have HRB := Lib.hid hrb
  clear hW1 hrb
  go_upto_region 2 with fail
  obtain ⟨W2, hW2⟩ : ∃ W2, W2 = W1.alloc (.cells #[.string ⟨b.toArray⟩] 91) := ⟨_, rfl⟩
  have hx2 : Ext W1 W2 := by rw [hW2]; exact (Ext.refl _).alloc _
  have hg2 : Cx W2 W1.heap.size 0 (strV b) := by rw [hW2]; exact Cx.new W1 [strV b] _ (j := 0) rfl
  have HX2 := Lib.hid hx2
  have HG2 := Lib.hid hg2
  have hrbG : rb < W1.heap.size := RB1.out.c0.lt
  rw [← hW2]
  clear hW2 hx2 hg2
  generalize W1.heap.size = G at *
  go_upto_region 3 with (first
    | (go_at_call 46; (with_reducible refine (earByte_any HG2.out H1.out).mono ?_); rintro e w3 ⟨rfl, hch3, hc3⟩))
  have SB4 := Lib.hid (Cx3.new w3 (.slice none 0 0) (.int .i64 (c - 1)) (.slice none 0 0) 26)
  have q4 : Ext w3 (w3.alloc (.cells #[.slice none 0 0, .int .i64 (c - 1), .slice none 0 0] 26)) := (Ext.refl _).alloc _
  have HG4 := Lib.hid (hc3.ext q4)
  have C4 := Lib.hid (((Chg.of_ext HX2.out).trans hch3).trans (Chg.of_ext (M := (· = G)) q4))
  have hGsb : G < w3.heap.size := hc3.lt
  clear hch3 hc3 q4 HG2
  obtain ⟨sb, hsb⟩ : ∃ sb, w3.heap.size = sb := ⟨_, rfl⟩
  obtain ⟨W4, hW4⟩ : ∃ W4, W4 = w3.alloc (.cells #[.slice none 0 0, .int .i64 (c - 1), .slice none 0 0] 26) := ⟨_, rfl⟩
  rw [← hW4] at SB4 HG4 C4 ⊢
  rw [hsb] at SB4 hGsb ⊢
  clear hW4 hsb
  have hnG : ¬ sb = G := by omega
  have hnr : ¬ rb = G := by omega
  go_wp2_with (first
    | (go_at_call 46; (with_reducible refine (earByte_any HG4.out H2.out).mono ?_); rintro e w5 ⟨rfl, hch5, hc5⟩))
  have SB5 := Lib.hid (SB4.out.chg hch5 hnG)
  have HG5 := Lib.hid hc5
  have C5 := Lib.hid (C4.out.trans hch5)
  have RB5 := Lib.hid (RB1.out.chg (C4.out.trans hch5) hnr)
  have E5 := Lib.hid (Chg.ext_from E1.out C5.out (fun q e => by have e2 : q = G := e; have := HRB.out; omega))
  have hs5 : sb < w5.heap.size := SB5.out.c0.lt
  have HM5 : Hid (∀ q, (q = G ∨ q = sb) → q < w5.heap.size) := by
    intro q e
    rcases e with e | e <;> omega
  have HMr : Hid (¬ (rb = G ∨ rb = sb)) := by intro e; rcases e with e | e <;> omega
  clear hch5 hc5 SB4 HG4 C4 HX2 RB1 E1
  go_loopw [8] (fun q wr => ∃ k : Nat, k ≤ n ∧ q = .int .i64 ((n - k : Nat) : Int) ∧ ∃ vf ys r, LT kFiber Prod.fst tdB (fun x => x = G ∨ x = sb) w5 wr r2 n k vf ys r ∧ Cx wr G 0 (strV r) ∧ Cx3 wr sb vf (.int .i64 (c - 1)) (.slice none 0 0)) (fun q _ => (intOf q).toNat)
  case atStart => exact ⟨0, Nat.zero_le _, rfl, _, _, _, LT.start _ _ _ _ _ _ _, HG5.out, SB5.out⟩
  case round =>
    obtain ⟨k, hk, rfl, vf, ys, r, hl, hg, hsb⟩ := hrel
    have HL := Lib.hid hl
    have HG := Lib.hid hg
    have HSB := Lib.hid hsb
    obtain ⟨m, hm⟩ : ∃ m, n - k = m := ⟨_, rfl⟩
    rw [hm]
    have KI : IntKind.i64.wrap ((m : Int) - 1) = (m : Int) - 1 := IntWalk.i64_in _ (by omega)
    have hlen := hl.len
    have hrow := hl.row.row
    rw [hlen] at hrow
    have HROW : Hid (RowAt wr w5.heap.size 2 _ k (ys.flatMap fiberFv)) := hrow
    obtain ⟨af, cf, rfl, _, _⟩ := hrow.shape
    have HSZ := Lib.hid (show w5.heap.size ≤ wr.heap.size from hl.chg.size)
    clear hl hg hrow hsb
    rename World => wk
    by_cases hlt : k < n
    · obtain ⟨c1, q1, g1⟩ := td1_tot r
      have hg1 := td1_i64 g1
      obtain ⟨m0, q2, g2⟩ := td1_tot q1
      have hg2 := td1_i64 g2
      obtain ⟨m1, rfl⟩ : ∃ m1 : Nat, m0 = m1 := ⟨m0.toNat, by omega⟩
      have hm1 : m1 < 256 := by omega
      obtain ⟨FL, q3, g3⟩ := rdN_tot tdF_tot m1 q2
      have hB : tdB r = some (⟨FL, c1 - 1⟩, q3) := by
        unfold tdB
        rw [g1]
        simp only
        have : tdL tdF q1 = some (FL, q3) := by unfold tdL; rw [g2]; simpa using g3
        rw [this]
      have HB := Lib.hid hB
      have G1 := Lib.hid g1
      have G2 := Lib.hid g2
      have G3 := Lib.hid g3
      have KW3 : wrap64 (c1 - 1) = c1 - 1 := by unfold wrap64; omega
      have KW4 : IntKind.i64.wrap (c1 - 1) = c1 - 1 := IntWalk.i64_in _ (by omega)
      have HI2 : Hid (I64 (c1 - 1)) := I64.small (by omega) (by omega)
      have hm0 : 0 < m := by omega
      have HMM := Lib.hid hm
      clear hB g1 g2 g3 hg1 hg2 hm
      go_upto_region 7 with (first
        | (go_at_call 46; (with_reducible refine (earByte_any HG.out G1.out).mono ?_); rintro e w6 ⟨rfl, hch6, hc6⟩))
      have FB7 := Lib.hid (Cx2.new w6 (.slice none 0 0) (.int .i64 (c1 - 1)) 68)
      have q7 : Ext w6 (w6.alloc (.cells #[.slice none 0 0, .int .i64 (c1 - 1)] 68)) := (Ext.refl _).alloc _
      have HG7 := Lib.hid (hc6.ext q7)
      have C7 := Lib.hid (hch6.trans (Chg.of_ext q7))
      have hsk : wk.heap.size ≤ w6.heap.size := hch6.size
      clear hch6 hc6 q7
      obtain ⟨fb, hfb⟩ : ∃ fb, w6.heap.size = fb := ⟨_, rfl⟩
      obtain ⟨W7, hW7⟩ : ∃ W7, W7 = w6.alloc (.cells #[.slice none 0 0, .int .i64 (c1 - 1)] 68) := ⟨_, rfl⟩
      rw [← hW7] at FB7 HG7 C7 ⊢
      rw [hfb] at FB7 hsk ⊢
      clear hW7 hfb
      have hfG : ¬ fb = G := by have := HSZ.out; omega
      go_wp2_with (first
        | (go_at_call 46; (with_reducible refine (earByte_any HG7.out G2.out).mono ?_); rintro e w8 ⟨rfl, hch8, hc8⟩))
      have FB8 := Lib.hid (FB7.out.chg hch8 hfG)
      have HG8 := Lib.hid hc8
      have C8 := Lib.hid (C7.out.trans hch8)
      have hs8 : fb < w8.heap.size := FB8.out.c0.lt
      have HM8 : Hid (∀ q, (q = G ∨ q = fb) → q < w8.heap.size) := by
        intro q e
        have := HSZ.out
        rcases e with e | e <;> omega
      clear hch8 hc8 FB7 HG7 C7
      go_loopw [10] (fun q wr => ∃ i : Nat, i ≤ m1 ∧ q = .int .i64 ((m1 - i : Nat) : Int) ∧ ∃ vx zs r, LT kFrame Prod.fst tdF (fun x => x = G ∨ x = fb) w8 wr q2 m1 i vx zs r ∧ Cx wr G 0 (strV r) ∧ Cx2 wr fb vx (.int .i64 (c1 - 1))) (fun q _ => (intOf q).toNat)
      case atStart => exact ⟨0, Nat.zero_le _, rfl, _, _, _, LT.start _ _ _ _ _ _ _, HG8.out, FB8.out⟩
      case round =>
        obtain ⟨i, hi, rfl, vx, zs, rx, hl, hg, hfb⟩ := hrel
        have HLI := Lib.hid hl
        have HGI := Lib.hid hg
        have HFB := Lib.hid hfb
        obtain ⟨mi, hmi⟩ : ∃ m, m1 - i = m := ⟨_, rfl⟩
        rw [hmi]
        have KJ : IntKind.i64.wrap ((mi : Int) - 1) = (mi : Int) - 1 := IntWalk.i64_in _ (by omega)
        have hleni := hl.len
        have hrow := hl.row.row
        rw [hleni] at hrow
        have HROWI : Hid (RowAt wr w8.heap.size 4 _ i (zs.flatMap frameFv)) := hrow
        obtain ⟨ax, cx, rfl, _, _⟩ := hrow.shape
        have HNEI : Hid (∀ q, rowBlock (.slice ax i cx) = some q → ¬ q = G) := by
          intro q e e2
          have := HROWI.out.le q e
          have := HM8.out G (.inl rfl)
          omega
        have HSZI := Lib.hid (show w8.heap.size ≤ wr.heap.size from hl.chg.size)
        clear hl hg hrow hfb
        rename World => wi
        by_cases hlti : i < m1
        · obtain ⟨f, p1, g1⟩ := td1_tot rx
          have hg1 := td1_i64 g1
          obtain ⟨a, p2, g2⟩ := td1_tot p1
          have hg2 := td1_i64 g2
          obtain ⟨l, p3, g3⟩ := tdL_tot tdW_tot p2
          obtain ⟨t, p4, g4⟩ := tdL_tot tdW_tot p3
          have hF : tdF rx = some (⟨f, a, l, t⟩, p4) := by
            unfold tdF
            rw [g1]
            simp only
            rw [g2]
            simp only
            rw [g3]
            simp only
            rw [g4]
          have HF := Lib.hid hF
          have F1 := Lib.hid g1
          have F2 := Lib.hid g2
          have F3 := Lib.hid g3
          have F4 := Lib.hid g4
          have HIF : Hid (I64 f ∧ I64 a) := ⟨hg1.1, hg2.1⟩
          have hmi0 : 0 < mi := by omega
          have HMI := Lib.hid hmi
          clear hF g1 g2 g3 g4 hg1 hg2 hmi
          go_upto_region 11 with (first
            | (go_at_call 46; (with_reducible refine (earByte_any HGI.out F1.out).mono ?_); rintro e w9 ⟨rfl, hch9, hc9⟩))
          have XB10 := Lib.hid (Cx4.new w9 (.int .i64 f) (.int .i64 0) (.slice none 0 0) (.slice none 0 0) 70)
          have qA : Ext w9 (w9.alloc (.cells #[.int .i64 f, .int .i64 0, .slice none 0 0, .slice none 0 0] 70)) := (Ext.refl _).alloc _
          have HG10 := Lib.hid (hc9.ext qA)
          have C10 := Lib.hid (hch9.trans (Chg.of_ext qA))
          have hsx : wi.heap.size ≤ w9.heap.size := hch9.size
          have hGx0 : G < w9.heap.size := hc9.lt
          clear hch9 hc9 qA
          obtain ⟨xb, hxb⟩ : ∃ xb, w9.heap.size = xb := ⟨_, rfl⟩
          obtain ⟨W10, hW10⟩ : ∃ W10, W10 = w9.alloc (.cells #[.int .i64 f, .int .i64 0, .slice none 0 0, .slice none 0 0] 70) := ⟨_, rfl⟩
          rw [← hW10] at XB10 HG10 C10 ⊢
          rw [hxb] at XB10 hsx hGx0 ⊢
          clear hW10 hxb
          have hxG : ¬ xb = G := by omega
          have hGx : G ≠ xb := by omega
          go_upto_region 12 with (first
            | (go_at_call 46; (with_reducible refine (earByte_any HG10.out F2.out).mono ?_); rintro e w11 ⟨rfl, hch11, hc11⟩; have hz := XB10.out.c1.chg hch11 hxG; obtain ⟨z1, z1'⟩ := hz))
          have XB12 := Lib.hid ((XB10.out.chg hch11 hxG).put1 (.int .i64 a))
          have HG12 := Lib.hid (hc11.other (b' := xb) (j' := 1) (.inl hGx) (.int .i64 a))
          have C12 := Lib.hid ((C10.out.trans hch11).setCell (p := ⟨xb, 1, none⟩) (.inr hsx) (.int .i64 a))
          clear hch11 hc11 z1 z1' XB10 HG10 C10
          generalize w11.setCell ⟨xb, 1, none⟩ (.int .i64 a) = w12 at *
          have hx12 : xb < w12.heap.size := XB12.out.c0.lt
          go_upto_region 13 with (first
            | (go_at_call 47; (with_reducible refine (earMany_any HG12.out F3.out).mono ?_); rintro e w13 ⟨⟨v, rfl, hl13⟩, hch13, hc13⟩; have HL13 := Lib.hid hl13; obtain ⟨a13, c13, rfl, _, _, _⟩ := hl13; have hz := XB12.out.c2.chg hch13 hxG; obtain ⟨z2, z2'⟩ := hz))
          have XB14 := Lib.hid ((XB12.out.chg hch13 hxG).put2 (.slice a13 l.length c13))
          have HG14 := Lib.hid (hc13.other (b' := xb) (j' := 2) (.inl hGx) (.slice a13 l.length c13))
          have C14 := Lib.hid ((C12.out.trans hch13).setCell (p := ⟨xb, 2, none⟩) (.inr hsx) (.slice a13 l.length c13))
          have L14 := Lib.hid (Ints.stays ((chg_one w13 xb 2 (.slice a13 l.length c13)).stays (fun b hb e => by have e2 : b = xb := e; have hb2 : w12.heap.size ≤ b := hb; omega)) HL13.out)
          have S14 := Lib.hid (Nat.le_trans hch13.size (chg_one w13 xb 2 (.slice a13 l.length c13)).size)
          clear hch13 hc13 z2 z2' XB12 HG12 C12 HL13
          generalize w13.setCell ⟨xb, 2, none⟩ (.slice a13 l.length c13) = w14 at *
          go_upto_region 14 with (first
            | (go_at_call 47; (with_reducible refine (earMany_any HG14.out F4.out).mono ?_); rintro e w15 ⟨⟨v, rfl, hl15⟩, hch15, hc15⟩; have HL15 := Lib.hid hl15; obtain ⟨a15, c15, rfl, _, _, _⟩ := hl15; have hz := XB14.out.c3.chg hch15 hxG; obtain ⟨z3, z3'⟩ := hz))
          have XB16 := Lib.hid ((XB14.out.chg hch15 hxG).put3 (.slice a15 t.length c15))
          have HG16 := Lib.hid (hc15.other (b' := xb) (j' := 3) (.inl hGx) (.slice a15 t.length c15))
          have C16 := Lib.hid ((C14.out.trans hch15).setCell (p := ⟨xb, 3, none⟩) (.inr hsx) (.slice a15 t.length c15))
          have hfx : ∀ b, w12.heap.size ≤ b → ¬ b = xb := fun b hb e => by omega
          have L16 := Lib.hid (Ints.stays ((chg_one w15 xb 3 (.slice a15 t.length c15)).stays hfx) (Ints.stays (hch15.stays (fun b hb e => by have e2 : b = G := e; have hb2 : w12.heap.size ≤ b := hb; omega)) L14.out))
          have T16 := Lib.hid (Ints.stays ((chg_one w15 xb 3 (.slice a15 t.length c15)).stays (fun b hb => hfx b (Nat.le_trans S14.out hb))) HL15.out)
          clear hch15 hc15 z3 z3' XB14 HG14 C14 HL15 L14
          generalize w15.setCell ⟨xb, 3, none⟩ (.slice a15 t.length c15) = w16 at *
          have HY : Hid (kFrame.E w16 (wi.heap.size ≤ ·) (⟨f, a, l, t⟩, .slice a13 l.length c13, .slice a15 t.length c15)) :=
            ⟨HIF.out.1, HIF.out.2, Ints.stays (Stays.widen fun b hb => by have hb2 : w12.heap.size ≤ b := hb; show wi.heap.size ≤ b; omega) L16.out, Ints.stays (Stays.widen fun b hb => by have hb2 : w14.heap.size ≤ b := hb; have hb3 : w12.heap.size ≤ w14.heap.size := S14.out; show wi.heap.size ≤ b; omega) T16.out⟩
          have FB16 := Lib.hid (HFB.out.chg C16.out hfG)
          obtain ⟨⟨f0, f0'⟩, -⟩ := FB16.out
          obtain ⟨⟨x0, x0'⟩, ⟨x1, x1'⟩, ⟨x2, x2'⟩, ⟨x3, x3'⟩⟩ := XB16.out
          have C16M : Hid (Chg (fun x => x = G ∨ x = fb) wi w16) := C16.out.mono (fun q _ e => .inl e)
          have HNF : Hid (¬ rowBlock (.slice ax i cx) = some fb) := by
            intro e
            have := HROWI.out.le fb e
            omega
          have HS16 : Hid (w8.heap.size ≤ w16.heap.size) := Nat.le_trans HSZI.out C16.out.size
          have HNGI : Hid (¬ rowBlock (.slice ax i cx) = some G) := fun e => HNEI.out G e rfl
          clear L16 T16
          go_wp2_with (first
            | (at_builtin; refine wpList_append_row rfl _ _ 66 rfl w8.heap.size 70 i1 (.agg #[.int .i64 0, .int .i64 0, .slice none 0 0, .slice none 0 0]) 4 64 Try.underlying66 hi1 hz3 hz4 hz5 rfl (by decide) _ _ _ rfl (by exact (HROWI.out.chg C16.out HNEI.out (by decide)).ext ((Ext.refl _).alloc _) (by decide)) 1 (frameFv (⟨f, a, l, t⟩, .slice a13 l.length c13, .slice a15 t.length c15)) (by exact src_frame _ ⟨f, a, l, t⟩ a13 a15 l.length c13 t.length c15 _) (by unfold maxLen; omega) (by omega) (by exact Nat.le_trans HS16.out (Ext.size (show Ext w16 _ by ((repeat (first | assumption | exact Ext.refl _ | (exact And.left (by assumption)) | refine Ext.alloc ?_ _ | refine Ext.drew ?_ | refine Ext.drewN ?_ _ | refine Ext.setCell ?_ (by simp) _ | refine Ext.setCell ?_ (by simp; omega) _ | refine Ext.trans ?_ (by assumption))); done)))) ?_; intro v17 W17w rv17; have h17 := Lib.hid (HLI.out.step (W7 := W17w.setCell ⟨fb, 0, none⟩ v17) HM8.out hlti HF.out C16M.out HY.out ((Ext.refl _).alloc _) rv17 (by rw [hleni]) ((Chg.refl _ W17w).setCell (p := ⟨fb, 0, none⟩) (.inl (.inr rfl)) v17)); have FB17 := Lib.hid ((FB16.out.chg (Chg.of_ext (M := fun _ => False) ((Ext.refl w16).alloc _)) (fun h => h)).chg rv17.2.1 HNF.out); have HG17 := Lib.hid ((HG16.out.ext ((Ext.refl w16).alloc _)).chg rv17.2.1 HNGI.out); obtain ⟨a17, c17, rfl, _, _⟩ := rv17.1.shape; obtain ⟨⟨k0, k0'⟩, -⟩ := FB17.out; clear rv17))
          go_roundw
          case rel => exact ⟨i + 1, by omega, by have := HMI.out; rw [show m1 - (i + 1) = mi - 1 by omega]; go_num, _, _, _, h17.out, HG17.out.other (b' := fb) (j' := 0) (.inl (fun e => hfG e.symm)) _, FB17.out.put0 _⟩
          case measure => have := HMI.out; simp [intOf]; omega
        · obtain rfl : i = m1 := by omega
          obtain rfl : mi = 0 := by omega
          have hd := HLI.out.done
          rw [G3.out] at hd
          simp only [Option.some.injEq, Prod.mk.injEq] at hd
          obtain ⟨rfl, rfl⟩ := hd
          have CW := Lib.hid (C8.out.trans' HLI.out.chg (fun q hq e => e.elim id (fun e => by omega)))
          have SBW := Lib.hid (HSB.out.chg CW.out hnG)
          obtain ⟨⟨s0, s0'⟩, -, -⟩ := SBW.out
          obtain ⟨⟨f0, f0'⟩, ⟨f1, f1'⟩⟩ := HFB.out
          have HY : Hid (kFiber.E wi (wk.heap.size ≤ ·) (⟨zs.map Prod.fst, c1 - 1⟩, .slice ax i cx)) :=
            ⟨HI2.out, Frames.stays (Stays.widen fun b hb => by have hb2 : w8.heap.size ≤ b := hb; show wk.heap.size ≤ b; omega) (HLI.out.row.frames (by rw [hleni]; omega))⟩
          have CWM : Hid (Chg (fun x => x = G ∨ x = sb) wk wi) := CW.out.mono (fun q _ e => .inl e)
          have HNS : Hid (¬ rowBlock (.slice af k cf) = some sb) := by
            intro e
            have := HROW.out.le sb e
            omega
          have HNG : Hid (¬ rowBlock (.slice af k cf) = some G) := by
            intro e
            have := HROW.out.le G e
            omega
          have HNEO : Hid (∀ q, rowBlock (.slice af k cf) = some q → ¬ q = G) := fun q e e2 => HNG.out (e2 ▸ e)
          have HSW : Hid (w5.heap.size ≤ wi.heap.size) := Nat.le_trans HSZ.out CW.out.size
          clear hi hlti
          go_wp2_with (first
            | (at_builtin; refine wpList_append_row rfl _ _ 23 rfl w5.heap.size 68 i2 (.agg #[.slice none 0 0, .int .i64 0]) 2 32 Try.underlying23 hi2 hz6 hz7 hz8 rfl (by decide) _ _ _ rfl (by exact (HROW.out.chg CW.out HNEO.out (by decide)).ext ((Ext.refl _).alloc _) (by decide)) 1 (fiberFv (⟨zs.map Prod.fst, c1 - 1⟩, .slice ax i cx)) (by exact src_fiber _ ⟨zs.map Prod.fst, c1 - 1⟩ ax i cx _) (by unfold maxLen; omega) (by omega) (by exact Nat.le_trans HSW.out (Ext.size (show Ext wi _ by ((repeat (first | assumption | exact Ext.refl _ | (exact And.left (by assumption)) | refine Ext.alloc ?_ _ | refine Ext.drew ?_ | refine Ext.drewN ?_ _ | refine Ext.setCell ?_ (by simp) _ | refine Ext.setCell ?_ (by simp; omega) _ | refine Ext.trans ?_ (by assumption))); done)))) ?_; intro v18 W18w rv18; have h18 := Lib.hid (HL.out.step (W7 := W18w.setCell ⟨sb, 0, none⟩ v18) HM5.out hlt HB.out CWM.out HY.out ((Ext.refl _).alloc _) rv18 (by rw [hlen]) ((Chg.refl _ W18w).setCell (p := ⟨sb, 0, none⟩) (.inl (.inr rfl)) v18)); have SB18 := Lib.hid ((SBW.out.chg (Chg.of_ext (M := fun _ => False) ((Ext.refl wi).alloc _)) (fun h => h)).chg rv18.2.1 HNS.out); have HG18 := Lib.hid ((HGI.out.ext ((Ext.refl wi).alloc _)).chg rv18.2.1 HNG.out); obtain ⟨a18, c18, rfl, _, _⟩ := rv18.1.shape; obtain ⟨⟨k0, k0'⟩, -, -⟩ := SB18.out; clear rv18))
          go_roundw
          case rel => exact ⟨k + 1, by omega, by have := HMM.out; rw [show n - (k + 1) = m - 1 by omega]; go_num, _, _, _, h18.out, HG18.out.other (b' := sb) (j' := 0) (.inl (fun e => hnG e.symm)) _, SB18.out.put0 _⟩
          case measure => have := HMM.out; simp [intOf]; omega
    · obtain rfl : k = n := by omega
      obtain rfl : m = 0 := by omega
      have hd := HL.out.done
      rw [H3.out] at hd
      simp only [Option.some.injEq, Prod.mk.injEq] at hd
      obtain ⟨rfl, rfl⟩ := hd
      clear hk hlt
      go_upto_region 17 with (first
        | (go_at_call 47; (with_reducible refine (earMany_any HG.out H4.out).mono ?_); rintro e w19 ⟨⟨v, rfl, hl19⟩, hch19, hc19⟩; have HL19 := Lib.hid hl19; obtain ⟨a19, c19, rfl, _, _, _⟩ := hl19; have hz := HSB.out.c2.chg hch19 hnG; obtain ⟨z2, z2'⟩ := hz))
      have SB20 := Lib.hid ((HSB.out.chg hch19 hnG).put2 (.slice a19 O.length c19))
      have hch : Chg (fun x => x = G ∨ x = sb) wk (w19.setCell ⟨sb, 2, none⟩ (.slice a19 O.length c19)) := (hch19.mono (fun q _ e => .inl e)).setCell (p := ⟨sb, 2, none⟩) (.inl (.inr rfl)) _
      have E20 := Lib.hid (Chg.ext_from E5.out (HL.out.chg.trans hch) (fun q e => by have := HRB.out; rcases e with e | e <;> omega))
      have RB20 := Lib.hid (RB5.out.chg (HL.out.chg.trans hch) HMr.out)
      have hfar : ∀ b, w5.heap.size ≤ b → ¬ b = sb := fun b hb e => by omega
      have hfar2 : ∀ b, w5.heap.size ≤ b → ¬ b = G := fun b hb e => by omega
      have HF20 := Lib.hid (Fibers.stays ((chg_one w19 sb 2 (.slice a19 O.length c19)).stays hfar) (Fibers.stays (hch19.stays hfar2) (HL.out.row.fibers (by rw [hlen]; omega))))
      have HO20 := Lib.hid (Ints.stays ((chg_one w19 sb 2 (.slice a19 O.length c19)).stays hfar) (Ints.stays (Stays.widen (T := (w5.heap.size ≤ ·)) fun b hb => Nat.le_trans HSZ.out hb) HL19.out))
      have HSV := Lib.hid (show StateV (w19.setCell ⟨sb, 2, none⟩ (.slice a19 O.length c19)) (w5.heap.size ≤ ·) (.agg #[.slice af k cf, .int .i64 (c - 1), .slice a19 O.length c19]) ⟨ys.map Prod.fst, c - 1, O⟩ from ⟨_, _, rfl, HF20.out, HI1.out, HO20.out⟩)
      have HW5 : Hid (w.heap.size ≤ w5.heap.size) := by have := HRB.out; unfold Hid; omega
      have HIS := Lib.hid (stateV_i64 HSV.out)
      clear hch hch19 hc19 z2 z2' HF20 HO20 HL19 HSB HG HL
      generalize w19.setCell ⟨sb, 2, none⟩ (.slice a19 O.length c19) = w20 at *
      obtain ⟨s, hs⟩ : ∃ s : GState, s = ⟨ys.map Prod.fst, c - 1, O⟩ := ⟨_, rfl⟩
      rw [← hs] at HSV HIS
      have HSS := Lib.hid hs
      obtain ⟨⟨s0, s0'⟩, ⟨s1, s1'⟩, ⟨s2, s2'⟩⟩ := SB20.out
      by_cases he : stateErr p s = 0
      · have HE := Lib.hid he
        have HMI := Lib.hid (mini_of he)
        obtain ⟨bs, hbs⟩ : ∃ bs, stateL s = bs := ⟨_, rfl⟩
        have HBS := Lib.hid hbs
        by_cases hbb : bs = b
        · subst hbb
          clear hs hbs he
          go_upto_region 19 with (first
            | (go_at_call 10; (with_reducible refine (stateError_any p _ S _ s _ _ (Funcs.stays (Ext.stays E20.out) HP.out) HSV.out).mono ?_); rintro e w21 ⟨rfl, hx21⟩; rw [HE.out]; have y0 := Ext.cell hx21 s0; have y1 := Ext.cell hx21 s1; have y2 := Ext.cell hx21 s2)
            | (go_at_call 11; (with_reducible refine (stateBytes_any s _ _ _ (StateV.stays (Ext.stays hx21) HSV.out) HMI.out).mono ?_); rintro e w22 ⟨rfl, hx22⟩; rw [HBS.out]))
          have hx := hx21.trans hx22
          clear s0 s0' s1 s1' s2 s2' y0 y1 y2
          have hsv := StateV.stays (Ext.stays hx) HSV.out
          obtain ⟨⟨s0, s0'⟩, ⟨s1, s1'⟩, ⟨s2, s2'⟩⟩ := SB20.out.chg (Chg.of_ext (M := fun _ => False) hx) (fun h => h)
          obtain ⟨⟨r0, r0'⟩, ⟨r1, r1'⟩, ⟨r2, r2'⟩⟩ := RB20.out.chg (Chg.of_ext (M := fun _ => False) hx) (fun h => h)
          have hfs : fromS p bs s = (true, s) := by unfold fromS; rw [if_pos ⟨HE.out, HBS.out⟩]
          have hck := chg3 w22 rb (.slice af k cf) (.int .i64 (c - 1)) (.slice a19 O.length c19)
          have hsv2 := StateV.stays (Stays.widen (T := (w.heap.size ≤ ·)) fun b hb => Nat.le_trans HW5.out hb) (StateV.stays (hck.stays (fun b hb e => by have e2 : b = rb := e; have hb2 : w5.heap.size ≤ b := hb; omega)) hsv)
          have hxx := Chg.ext_from (E20.out.trans hx) hck (fun q e => by have e2 : q = rb := e; have := HRB.out; omega)
          have FIN := Lib.hid (⟨hfs, hsv2, hxx⟩ : _ ∧ _ ∧ _)
          clear hfs hsv hck hsv2 hxx hx hx21 hx22
          go_wp2_with fail
          refine bodyPost_ret (results_cell2 rfl _ _ rb 0 _ _ rfl (box3 ⟨r0, r0'⟩ ⟨r1, r1'⟩ ⟨r2, r2'⟩ _ _ _) rfl rfl (by kernel_rfl)) rfl ?_
          rw [← HSS.out, FIN.out.1]
          exact ⟨⟨_, rfl, FIN.out.2.1, HIS.out⟩, FIN.out.2.2⟩
        · have TB : (bs == b) = false := beq_eq_false_iff_ne.2 hbb
          clear hs hbs he
          go_upto_region 18 with (first
            | (go_at_call 10; (with_reducible refine (stateError_any p _ S _ s _ _ (Funcs.stays (Ext.stays E20.out) HP.out) HSV.out).mono ?_); rintro e w21 ⟨rfl, hx21⟩; rw [HE.out]; have y0 := Ext.cell hx21 s0; have y1 := Ext.cell hx21 s1; have y2 := Ext.cell hx21 s2)
            | (go_at_call 11; (with_reducible refine (stateBytes_any s _ _ _ (StateV.stays (Ext.stays hx21) HSV.out) HMI.out).mono ?_); rintro e w22 ⟨rfl, hx22⟩; rw [HBS.out]))
          have hx := hx21.trans hx22
          clear s0 s0' s1 s1' s2 s2' y0 y1 y2
          obtain ⟨⟨r0, r0'⟩, ⟨r1, r1'⟩, ⟨r2, r2'⟩⟩ := RB20.out.chg (Chg.of_ext (M := fun _ => False) hx) (fun h => h)
          have hfs : fromS p b s = (false, ⟨[], 0, []⟩) := by unfold fromS; rw [if_neg (fun h => hbb (HBS.out.symm.trans h.2))]
          have hck := chg3 w22 rb (.slice none 0 0) (.int .i64 0) (.slice none 0 0)
          have hxx := Chg.ext_from (E20.out.trans hx) hck (fun q e => by have e2 : q = rb := e; have := HRB.out; omega)
          have FIN := Lib.hid (⟨hfs, hxx⟩ : _ ∧ _)
          clear hfs hck hxx hx hx21 hx22
          go_wp2_with fail
          refine bodyPost_ret (results_cell2 rfl _ _ rb 0 _ _ rfl (box3 ⟨r0, r0'⟩ ⟨r1, r1'⟩ ⟨r2, r2'⟩ _ _ _) rfl rfl (by kernel_rfl)) rfl ?_
          rw [← HSS.out, FIN.out.1]
          exact ⟨⟨_, rfl, stateV_zero _ _, HIS.out⟩, FIN.out.2⟩
      · have TE : (stateErr p s == 0) = false := by simpa using he
        have HE := Lib.hid he
        clear hs he
        go_upto_region 18 with (first
            | (go_at_call 10; (with_reducible refine (stateError_any p _ S _ s _ _ (Funcs.stays (Ext.stays E20.out) HP.out) HSV.out).mono ?_); rintro e w21 ⟨rfl, hx21⟩))
        clear s0 s0' s1 s1' s2 s2' 
        obtain ⟨⟨r0, r0'⟩, ⟨r1, r1'⟩, ⟨r2, r2'⟩⟩ := RB20.out.chg (Chg.of_ext (M := fun _ => False) hx21) (fun h => h)
        have hfs : fromS p b s = (false, ⟨[], 0, []⟩) := by unfold fromS; rw [if_neg (fun h => HE.out h.1)]
        have hck := chg3 w21 rb (.slice none 0 0) (.int .i64 0) (.slice none 0 0)
        have hxx := Chg.ext_from (E20.out.trans hx21) hck (fun q e => by have e2 : q = rb := e; have := HRB.out; omega)
        have FIN := Lib.hid (⟨hfs, hxx⟩ : _ ∧ _)
        clear hfs hck hxx hx21
        go_wp2_with fail
        refine bodyPost_ret (results_cell2 rfl _ _ rb 0 _ _ rfl (box3 ⟨r0, r0'⟩ ⟨r1, r1'⟩ ⟨r2, r2'⟩ _ _ _) rfl rfl (by kernel_rfl)) rfl ?_
        rw [← HSS.out, FIN.out.1]
        exact ⟨⟨_, rfl, stateV_zero _ _, HIS.out⟩, FIN.out.2⟩
end Go.Proofs.Ytgahbngbpfilgaa
end
section
/- StateFrom by values; what is read are numbers of 64 bits. No condition. -/
set_option maxHeartbeats 1000000
namespace Go.Proofs.Ytgahbngbpfilgaa
open Go Go.RowKit

theorem tdW_i64 {b r : List UInt8} {n : Int} (h : tdW b = some (n, r)) : I64 n := by
  unfold tdW at h
  cases h1 : tdU 8 0 b with
  | none => rw [h1] at h; cases h
  | some v =>
    rw [h1] at h
    simp only [Option.some.injEq, Prod.mk.injEq] at h
    rw [← h.1]
    exact i64_wrap _
theorem rdN_all {α : Type} {one : Rd α} {P : α → Prop} (h : ∀ b x r, one b = some (x, r) → P x) : ∀ (n : Nat) (b : List UInt8) (l : List α) (r : List UInt8), rdN one n b = some (l, r) → ∀ x ∈ l, P x
  | 0, b, l, r, e => by
    rw [rdN] at e
    cases e
    simp
  | n + 1, b, l, r, e => by
    rw [rdN] at e
    cases h1 : one b with
    | none => rw [h1] at e; cases e
    | some v =>
      rw [h1] at e
      simp only at e
      cases h2 : rdN one n v.2 with
      | none => rw [h2] at e; cases e
      | some z =>
        rw [h2] at e
        cases e
        intro x hx
        rcases List.mem_cons.1 hx with rfl | hx
        · exact h _ _ _ h1
        · exact rdN_all h n _ _ _ h2 x hx
theorem tdL_all {α : Type} {one : Rd α} {P : α → Prop} (h : ∀ b x r, one b = some (x, r) → P x) {b r : List UInt8} {l : List α} (e : tdL one b = some (l, r)) : ∀ x ∈ l, P x := by
  unfold tdL at e
  cases h1 : td1 b with
  | none => rw [h1] at e; cases e
  | some v => rw [h1] at e; exact rdN_all h _ _ _ _ e
theorem tdF_i64 {b r : List UInt8} {x : GFrame} (h : tdF b = some (x, r)) : (∀ n ∈ x.locals, I64 n) ∧ ∀ n ∈ x.stack, I64 n := by
  unfold tdF at h
  cases h1 : td1 b with
  | none => rw [h1] at h; cases h
  | some v =>
    rw [h1] at h
    simp only at h
    cases h2 : td1 v.2 with
    | none => rw [h2] at h; cases h
    | some v2 =>
      rw [h2] at h
      simp only at h
      cases h3 : tdL tdW v2.2 with
      | none => rw [h3] at h; cases h
      | some v3 =>
        rw [h3] at h
        simp only at h
        cases h4 : tdL tdW v3.2 with
        | none => rw [h4] at h; cases h
        | some v4 =>
          rw [h4] at h
          cases h
          exact ⟨tdL_all (fun _ _ _ h => tdW_i64 h) h3, tdL_all (fun _ _ _ h => tdW_i64 h) h4⟩
theorem tdS_i64 {b r : List UInt8} {s : GState} (h : tdS b = some (s, r)) : I64S s := by
  unfold tdS at h
  cases h1 : td1 b with
  | none => rw [h1] at h; cases h
  | some v =>
    rw [h1] at h
    simp only at h
    cases h2 : tdL tdB v.2 with
    | none => rw [h2] at h; cases h
    | some v2 =>
      rw [h2] at h
      simp only at h
      cases h4 : tdL tdW v2.2 with
      | none => rw [h4] at h; cases h
      | some v4 =>
        rw [h4] at h
        cases h
        have hv := td1_i64 h1
        refine ⟨show I64 (v.1 - 1) from I64.small (by omega) (by omega), tdL_all (fun _ _ _ h => tdW_i64 h) h4, ?_⟩
        refine tdL_all (P := fun f => ∀ x ∈ f.frames, (∀ n ∈ x.locals, I64 n) ∧ ∀ n ∈ x.stack, I64 n) (fun b f r h => ?_) h2
        unfold tdB at h
        cases h1 : td1 b with
        | none => rw [h1] at h; cases h
        | some v =>
          rw [h1] at h
          simp only at h
          cases h3 : tdL tdF v.2 with
          | none => rw [h3] at h; cases h
          | some v3 =>
            rw [h3] at h
            cases h
            exact tdL_all (fun _ _ _ h => tdF_i64 h) h3
theorem tdS_tot : Tot tdS := fun r => by
  obtain ⟨f, r1, h1⟩ := td1_tot r
  obtain ⟨l, r3, h3⟩ := tdL_tot tdB_tot r1
  obtain ⟨o, r4, h4⟩ := tdL_tot tdW_tot r3
  exact ⟨⟨l, f - 1, o⟩, r4, by unfold tdS; rw [h1]; simp only; rw [h3]; simp only; rw [h4]⟩
theorem Cx3.all {w : World} {b : Nat} {u0 u1 u2 : Value} (h : Cx3 w b u0 u1 u2) (x y z : Value) : Cx3 (((w.setCell ⟨b, 0, none⟩ x).setCell ⟨b, 1, none⟩ y).setCell ⟨b, 2, none⟩ z) b x y z :=
  ⟨((h.c0.set _).other (.inr (by decide)) _).other (.inr (by decide)) _, ((h.c1.other (.inr (by decide)) _).set _).other (.inr (by decide)) _, ((h.c2.other (.inr (by decide)) _).other (.inr (by decide)) _).set _⟩
theorem Cx3.ext {w w' : World} {b : Nat} {u0 u1 u2 : Value} (h : Cx3 w b u0 u1 u2) (he : Ext w w') : Cx3 w' b u0 u1 u2 := h.chg (Chg.of_ext (M := fun _ => False) he) (fun h => h)
/-- How Read, ProgError and StateFrom stand to each other. -/
theorem read_cases (p : List GFunc) (b : List UInt8) : ∃ s rr, tdS b = some (s, rr) ∧
    ((progErr p = 0 ∧ b.length ≤ 8192 ∧ fromS p b s = (true, s) ∧ readS p b = (0, s)) ∨ (progErr p = 0 ∧ b.length ≤ 8192 ∧ fromS p b s = (false, ⟨[], 0, []⟩) ∧ readS p b = (1, ⟨[], 0, []⟩)) ∨
      (progErr p = 0 ∧ 8192 < b.length ∧ readS p b = (2, ⟨[], 0, []⟩)) ∨ (progErr p ≠ 0 ∧ readS p b = (progErr p, ⟨[], 0, []⟩))) := by
  obtain ⟨s, rr, h⟩ := tdS_tot b
  refine ⟨s, rr, h, ?_⟩
  by_cases h1 : progErr p = 0
  · by_cases h2 : 8192 < b.length
    · refine .inr (.inr (.inl ⟨h1, h2, ?_⟩))
      unfold readS
      rw [if_neg (fun k => k h1), if_pos h2]
    · rcases from_read h1 (by omega) h (tdS_i64 h) with ⟨e1, e2⟩ | ⟨e1, e2⟩
      · exact .inl ⟨h1, by omega, e1, e2⟩
      · exact .inr (.inl ⟨h1, by omega, e1, e2⟩)
  · refine .inr (.inr (.inr ⟨h1, ?_⟩))
    unfold readS
    rw [if_pos h1]
theorem from_val (p : List GFunc) (v : Value) (S : Nat → Prop) (b rr : List UInt8) (s t : GState) (ok : Bool) (w : World) (hp : Funcs w S v p) (hs : tdS b = some (s, rr)) (hf : fromS p b s = (ok, t)) {n m : Nat} {k : Int} (hn : t.fibers.length = n) (hm : t.out.length = m) (hk : t.now = k) :
    Calls Try.prog 14 #[v, .string ⟨b.toArray⟩] w fun e w' => (∃ a c b d, e = .returned (.tuple #[.agg #[.slice a n c, .int .i64 k, .slice b m d], .bool ok]) ∧ StateV w' (w.heap.size ≤ ·) (.agg #[.slice a n c, .int .i64 k, .slice b m d]) t) ∧ Ext w w' := by
  refine (stateFrom_any p v S b rr s w hp hs).mono fun e w' ⟨⟨x, he, hx, _⟩, hb⟩ => ⟨?_, hb⟩
  rw [hf] at he hx
  obtain ⟨a, c, b, d, rfl⟩ := hx.few
  subst hn hm hk
  exact ⟨a, c, b, d, he, hx⟩
end Go.Proofs.Ytgahbngbpfilgaa
end
