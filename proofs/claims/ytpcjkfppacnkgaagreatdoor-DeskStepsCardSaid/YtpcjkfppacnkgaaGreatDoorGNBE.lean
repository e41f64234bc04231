/- Merged texts: contracts and plain facts, one part behind another; each part begins with what it says. -/
import Derived.Test.YtpcjkfppacnkgaaGreatDoorGNAA
import Derived.Test.YtpcjkfppacnkgaaGreatDoorGNAM
import Derived.Test.YtpcjkfppacnkgaaGreatDoorGNAN
import Derived.Test.YtpcjkfppacnkgaaGreatDoorGNAT
import Derived.Lib.AtoiAllCases
import Derived.Lib.AtoiErrMem
import Derived.Lib.IndexBytes
import Derived.Lib.IndexLaws
import Derived.Lib.IndexMore
import Derived.WalkKit
section
/- A line of the desk: how it is parted and read, plain. No program in sight; no condition. -/
set_option maxHeartbeats 1000000
namespace Go.Proofs.YtpcjkfppacnkgaaGreatDoor
open Go Go.RowKit

theorem cut_cases (x : By) : ((32 : UInt8) ∉ x ∧ Lib.cut x [32] = (x, [], false)) ∨ (∃ a r, (32 : UInt8) ∉ a ∧ x = a ++ 32 :: r ∧ Lib.cut x [32] = (a, r, true)) := by
  unfold Lib.cut
  rw [Lib.index_one]
  by_cases h : 0 ≤ Lib.indexByte x 32
  · rw [if_pos h]
    obtain ⟨i, hi⟩ : ∃ i : Nat, Lib.indexByte x 32 = i := ⟨(Lib.indexByte x 32).toNat, by omega⟩
    obtain ⟨h1, h2⟩ := Lib.indexByte_some hi
    rw [hi, Int.toNat_natCast]
    obtain ⟨hl, he⟩ := List.getElem?_eq_some_iff.1 h1
    refine .inr ⟨x.take i, x.drop (i + 1), fun hm => ?_, ?_, rfl⟩
    · obtain ⟨k, hk, e⟩ := List.getElem_of_mem hm
      rw [List.length_take] at hk
      rw [List.getElem_take] at e
      exact h2 k (by omega) (by rw [List.getElem?_eq_getElem (by omega), e])
    · conv => lhs; rw [← List.take_append_drop i x, List.drop_eq_getElem_cons hl, he]
  · rw [if_neg h]
    refine .inl ⟨fun hm => ?_, rfl⟩
    have := Lib.indexByte_ge x 32
    obtain ⟨k, hk, e⟩ := List.getElem_of_mem hm
    have hn : Lib.indexByte x 32 = -1 := by omega
    exact Lib.indexByte_none hn k (by rw [List.getElem?_eq_getElem hk, e])

/-- What the desk asks of a number. -/
def goodN (r : By) (n : Int) : Prop := atoiO r = some n ∧ 0 ≤ n ∧ r.length ≤ 6 ∧ Lib.itoa n = r
theorem good_num {r : By} {n : Int} (h : goodN r n) : numG r = n ∧ (32 : UInt8) ∉ r ∧ n ≤ 999999 := by
  obtain ⟨_, h0, hl, he⟩ := h
  have hfree : (32 : UInt8) ∉ r := by rw [← he]; exact itoa_free n 32 (by decide)
  have hd : Lib.itoa n = Lib.decDigits n.toNat := itoa_nat h0
  have hnum : numG r = n := by
    have hp := digits_head n.toNat
    unfold numG
    rw [← he, hd, decFrom_digits, Option.getD_some, if_pos ⟨⟨by obtain ⟨b, t, e, _⟩ := hp; rw [e]; simp, by rw [← hd, he]; exact hl⟩, decDigits_mem _, by rw [itoa_nat (by omega)]; congr 1⟩]
    omega
  have := numG_bd r
  exact ⟨hnum, hfree, by omega⟩
theorem num_good {r : By} (h : 0 ≤ numG r) : goodN r (numG r) := by
  have hb := numG_bd r
  unfold numG at h ⊢
  by_cases hc : (1 ≤ r.length ∧ r.length ≤ 6) ∧ (∀ b ∈ r, 48 ≤ b.toNat ∧ b.toNat ≤ 57) ∧ Lib.itoa ((Lib.decFrom 0 r).getD 0 : Nat) = r
  · have hn : numG r = ((Lib.decFrom 0 r).getD 0 : Nat) := by unfold numG; rw [if_pos hc]
    rw [if_pos hc]
    rw [hn] at hb
    refine ⟨?_, by omega, hc.1.2, hc.2.2⟩
    have := atoiO_small (n := ((Lib.decFrom 0 r).getD 0 : Nat)) (by omega) (by omega)
    rw [hc.2.2] at this
    exact this
  · rw [if_neg hc] at h
    exact absurd h (by decide)
/-- The line's tail, when it is no word. -/
theorem tail_bad {x op rest : By} {f : Bool} (hc : Lib.cut x [32] = (op, rest, f)) (h : ∀ n, ¬ goodN rest n) : (splitC 32 x).length ≠ 2 ∨ numG ((splitC 32 x).getD 1 []) < 0 := by
  rcases cut_cases x with ⟨h1, h2⟩ | ⟨a, r, h1, h2, h3⟩
  · rw [splitC_last _ _ h1]
    exact .inl (by simp)
  · rw [h3] at hc
    simp only [Prod.mk.injEq] at hc
    obtain ⟨rfl, rfl, -⟩ := hc
    rw [h2, splitC_piece _ _ _ h1]
    by_cases hr : (32 : UInt8) ∈ r
    · rcases cut_cases r with ⟨k1, _⟩ | ⟨a', r', k1, k2, _⟩
      · exact absurd hr k1
      · rw [k2, splitC_piece _ _ _ k1]
        have := splitGo_ne 32 r' []
        exact .inl (by simp only [List.length_cons]; unfold splitC; omega)
    · rw [splitC_last _ _ hr]
      refine .inr ?_
      show numG r < 0
      refine Int.not_le.1 fun h0 => h _ (num_good h0)
theorem tail_good {x op rest : By} {f : Bool} {n : Int} (hc : Lib.cut x [32] = (op, rest, f)) (h : goodN rest n) : splitC 32 x = [op, rest] ∧ numG rest = n := by
  obtain ⟨e1, e2, _⟩ := good_num h
  refine ⟨?_, e1⟩
  rcases cut_cases x with ⟨h1, h2⟩ | ⟨a, r, h1, h2, h3⟩
  · rw [h2] at hc
    simp only [Prod.mk.injEq] at hc
    obtain ⟨-, rfl, -⟩ := hc
    have := h.2.2.2
    have hne := decDigits_ne n.toNat
    rw [itoa_nat h.2.1] at this
    exact absurd this hne
  · rw [h3] at hc
    simp only [Prod.mk.injEq] at hc
    obtain ⟨rfl, rfl, -⟩ := hc
    rw [h2, splitC_piece _ _ _ h1, splitC_last _ _ e2]
theorem play_bad {p : List GFunc} {s : GState} {x op rest : By} {f : Bool} (hw : wordG p s x = none) (hc : Lib.cut x [32] = (op, rest, f)) (h : ∀ n, ¬ goodN rest n) : playG p s x = (s, errT 1) := by
  unfold playG
  rw [hw]
  simp only
  rw [if_pos (tail_bad hc h)]
theorem play_good {p : List GFunc} {s : GState} {x op rest : By} {f : Bool} {n : Int} (hw : wordG p s x = none) (hc : Lib.cut x [32] = (op, rest, f)) (h : goodN rest n) :
    playG p s x = if op = stepT then stepN p s n else if op = heightsT then (s, heightsN p n) else (s, errT 1) := by
  obtain ⟨e1, e2⟩ := tail_good hc h
  unfold playG
  rw [hw]
  simp only
  have h0 := h.2.1
  rw [e1]
  simp only [List.getD_cons_succ, List.getD_cons_zero, e2]
  rw [if_neg (fun hh => hh.elim (fun h1 => h1 rfl) (fun h1 => by omega))]
end Go.Proofs.YtpcjkfppacnkgaaGreatDoor
end
section
/- A small map of ints that a call makes: how its making, its two stores and a lookup run. No condition. -/
set_option maxHeartbeats 400000
set_option maxRecDepth 100000
namespace Go.Proofs.YtpcjkfppacnkgaaGreatDoor
open Go Go.RowKit

theorem run_getObj_map {P : Program} (w : World) (es : Array MapEntry) (c : Nat) : (getObj w.heap.size).run P (w.alloc (.map es c)) = .ok (.map es c) (w.alloc (.map es c)) := by
  have h := heap_alloc_new w (.map es c)
  simp only [getObj, Sem.run, h]

theorem set_push {α : Type} (l : Array α) (a b : α) : (l.push a).setIfInBounds l.size b = l.push b := by
  apply Array.ext'
  simp

theorem run_setObj_map {P : Program} (w : World) (es es' : Array MapEntry) (c c' : Nat) : (setObj w.heap.size (.map es' c')).run P (w.alloc (.map es c)) = .ok () (w.alloc (.map es' c')) := by
  have h := heap_alloc_new w (.map es c)
  simp only [setObj, Sem.run, h]
  congr 1
  show ({ w with heap := (w.heap.push (.map es c)).setIfInBounds w.heap.size (.map es' c') } : World) = { w with heap := w.heap.push (.map es' c') }
  rw [set_push]

section
variable {P : Program} {T K E : TypeId} (hT : P.underlying T = some (.map K E)) (hK : P.underlying K = some (.int .i64)) (w : World)

include hK in
include hK in
include hT hK

end
end Go.Proofs.YtpcjkfppacnkgaaGreatDoor
end
section
/- A small map with strings as keys that a call makes: how its making, its two stores and a lookup run. No condition. -/
set_option maxHeartbeats 400000
set_option maxRecDepth 100000
namespace Go.Proofs.YtpcjkfppacnkgaaGreatDoor
open Go Go.RowKit

section
variable {P : Program} {T K E : TypeId} (hT : P.underlying T = some (.map K E)) (hK : P.underlying K = some .string) (w : World)

include hK in
theorem run_checkKey_str (b : Bool) (k : ByteArray) : (Instr.checkKey b 10000 K (.string k)).run P w = .ok () w := by
  rw [show (10000 : Nat) = 9999 + 1 from rfl]
  unfold Instr.checkKey
  simp only [Sem.run_bind, run_underlying hK, Result.andThen_ok]
  rfl
include hK in
theorem run_findKey_str (k : ByteArray) (es : List MapEntry) (r : Option (Nat × Value)) (h : Instr.findNow .string (.string k) es 0 = some r) : (Instr.findKey K (.string k) es).run P w = .ok r w := by
  unfold Instr.findKey
  simp only [Sem.run_bind, run_underlying hK, Result.andThen_ok, h]
  rfl
include hT hK
theorem run_updS0 (a : ByteArray) (x : Value) : (Instr.mapUpdate T (.map (some w.heap.size)) (.string a) x).run P (w.alloc (.map #[] 0)) = .ok () (w.alloc (.map #[⟨.string a, x, 0⟩] 1)) := by
  unfold Instr.mapUpdate
  simp only [Sem.run_bind, run_underlying hT, run_getObj_map, Result.andThen_ok, run_checkKey_str hK, run_findKey_str hK _ a [] none rfl, run_setObj_map]
  rfl
theorem run_updS1 (a b : ByteArray) (hab : (b == a) = false) (x y : Value) : (Instr.mapUpdate T (.map (some w.heap.size)) (.string b) y).run P (w.alloc (.map #[⟨.string a, x, 0⟩] 1)) = .ok () (w.alloc (.map #[⟨.string a, x, 0⟩, ⟨.string b, y, 1⟩] 2)) := by
  have e : Instr.findNow .string (.string b) [⟨.string a, x, 0⟩] 0 = some none := by simp [Instr.findNow, Instr.sameNow, hab]
  unfold Instr.mapUpdate
  simp only [Sem.run_bind, run_underlying hT, run_getObj_map, Result.andThen_ok, run_checkKey_str hK, run_findKey_str hK _ b [⟨.string a, x, 0⟩] none e, run_setObj_map]
  rfl
theorem run_lookS (a b k : ByteArray) (x y z : Value) (hz : ∀ w : World, (zeroValue E).run P w = .ok z w) : (Instr.lookup T (.map (some w.heap.size)) (.string k) false).run P (w.alloc (.map #[⟨.string a, x, 0⟩, ⟨.string b, y, 1⟩] 2)) =
    .ok (if k == a then x else if k == b then y else z) (w.alloc (.map #[⟨.string a, x, 0⟩, ⟨.string b, y, 1⟩] 2)) := by
  unfold Instr.lookup
  have e : Instr.findNow .string (.string k) [⟨.string a, x, 0⟩, ⟨.string b, y, 1⟩] 0 = some (if k == a then some (0, x) else if k == b then some (1, y) else none) := by
    cases h0 : k == a with
    | true => simp [Instr.findNow, Instr.sameNow, h0]
    | false =>
      cases h1 : k == b with
      | true => simp [Instr.findNow, Instr.sameNow, h0, h1]
      | false => simp [Instr.findNow, Instr.sameNow, h0, h1]
  simp only [Sem.run_bind, Sem.run_pure, run_underlying hT, run_getObj_map, Result.andThen_ok, run_checkKey_str hK]
  rw [run_findKey_str hK _ k _ _ e]
  cases h0 : k == a with
  | true => simp only [if_true, Sem.run_bind, Sem.run_pure, Result.andThen_ok]; rfl
  | false =>
    cases h1 : k == b with
    | true => simp only [if_true, Result.andThen_ok]; rfl
    | false => simp only [Bool.false_eq_true, if_false, Sem.run_bind, Sem.run_pure, Result.andThen_ok, hz]
end
end Go.Proofs.YtpcjkfppacnkgaaGreatDoor
end
section
/- Contracts of the text package's must and nums: they panic where what is read is not as it must be. No condition. -/
set_option maxHeartbeats 4000000
set_option maxRecDepth 100000
namespace Go.Proofs.YtpcjkfppacnkgaaGreatDoor
open Go Go.RowKit

def brkE : PanicEntry := { v := .iface 138 (.agg #[]), recovered := false }
def mustT (b : Bool) : Ending := if b then .returned (.tuple #[]) else .panicked [brkE]
theorem mustT_true : mustT true = .returned (.tuple #[]) := rfl
theorem mustT_false : mustT false = .panicked [brkE] := rfl
theorem mustT_any (b : Bool) (w : World) : Calls Tryz.prog 50 #[.bool b] w fun e w' => e = mustT b ∧ w = w' := by
  cases b with
  | true =>
    go_enter Tryz.func50, Tryz.ntmps50
    go_wp2_with fail
    go_end0
    exact ⟨rfl, rfl⟩
  | false =>
    go_enter Tryz.func50, Tryz.ntmps50
    go_wp2_with fail
    exact ⟨rfl, rfl, rfl⟩
/-- What Atoi hands back: a number, and an error or none. -/
def AtoiR (s : By) (x : Int) (ev : Value) : Prop := match atoiO s with
  | some v => ev = .nilIface ∧ x = v ∧ I64 v
  | none => ∃ te pe, ev = .iface te pe
theorem atoi_any (s : By) (w : World) (hg : Glob w) (hl : s.length ≤ 100000) :
    Calls Tryz.prog 74 #[.string ⟨s.toArray⟩] w fun e w' => (∃ x ev, e = .returned (.tuple #[.int .i64 x, ev]) ∧ AtoiR s x ev) ∧ Ext w w' := by
  have hsz : (⟨s.toArray⟩ : ByteArray).size = s.length := size_by s
  have hdt : (⟨s.toArray⟩ : ByteArray).data.toList = s := by simp
  rcases h : Lib.atoiAll s with v | _ | _
  · refine (Tryz.strconv_Atoi_ok ⟨s.toArray⟩ (by omega) v (by rw [hdt]; exact h) w).mono ?_
    rintro e w' ⟨rfl, hw⟩
    refine ⟨⟨v, _, rfl, ?_⟩, ?_⟩
    · unfold AtoiR atoiO
      rw [h]
      exact ⟨rfl, rfl, Lib.atoiAll_bounds h⟩
    · rcases hw with rfl | ⟨t, rfl⟩
      · exact Ext.refl _
      · exact Lib.bytesWorld_below _ _ _
  · obtain ⟨ev, hv, hev⟩ := hg.syn
    refine (Tryz.strconv_Atoi_syntax ⟨s.toArray⟩ (by omega) (by rw [hdt]; exact h) ev w hv hev).mono ?_
    rintro e w' ⟨N, rfl, _, _, hb⟩
    refine ⟨⟨_, _, rfl, ?_⟩, hb⟩
    unfold AtoiR atoiO
    rw [h]
    exact ⟨_, _, rfl⟩
  · obtain ⟨ev, hv, hev⟩ := hg.rng
    refine (Tryz.strconv_Atoi_range ⟨s.toArray⟩ (by omega) (by rw [hdt]; exact h) ev w hv hev).mono ?_
    rintro e w' ⟨N, rfl, _, _, hb⟩
    refine ⟨⟨_, _, rfl, ?_⟩, hb⟩
    unfold AtoiR atoiO
    rw [h]
    exact ⟨_, _, rfl⟩

/-- What nums hands back, or that it panics. -/
def NumsRet (B : Nat) (o : Option (List Int)) (e : Ending) (w' : World) : Prop := match o with
  | some L => ∃ a c, e = .returned (.slice a L.length c) ∧ Ints w' (B ≤ ·) (.slice a L.length c) L
  | none => e = .panicked [brkE]
theorem mapM_next {l : List By} {k : Nat} {L : List Int} (h : k < l.length) (hL : (l.take k).mapM atoiO = some L) : (l.take (k + 1)).mapM atoiO = (atoiO l[k]).map fun x => L ++ [x] := by
  rw [List.take_succ_eq_append_getElem h, List.mapM_append, hL]
  rw [List.mapM_cons]
  cases atoiO l[k] with
  | none => rfl
  | some x => rfl
theorem mapM_stop {l : List By} {k : Nat} {L : List Int} (h : k < l.length) (hL : (l.take k).mapM atoiO = some L) (hx : atoiO l[k] = none) : l.mapM atoiO = none := by
  have e : l = l.take (k + 1) ++ l.drop (k + 1) := (List.take_append_drop _ _).symm
  rw [e, List.mapM_append, mapM_next h hL, hx]
  rfl
theorem nums_any (l : List By) (v : Value) (S : Nat → Prop) (n : Nat) (w : World) (hg : Glob w) (hv : Strs w S v l) (hl : l.length ≤ 100000) (hs : ∀ x ∈ l, x.length ≤ 100000) (hn : n ≤ 10) :
    Calls Tryz.prog 48 #[v, .int .i64 n] w fun e w' => NumsRet w.heap.size (numsR l n) e w' ∧ Ext w w' := by
  have HV := Lib.hid hv
  have HG := Lib.hid hg
  have HS := Lib.hid hs
  obtain ⟨i0, hi0, hz0, hz1, hz2⟩ := info_parts infoI
  obtain ⟨a, cap, rfl, hcap, hby, _⟩ := hv
  obtain ⟨R, hR⟩ : ∃ R, numsR l n = R := ⟨_, rfl⟩
  rw [hR]
  have HR := Lib.hid hR
  clear hR hg hs
  by_cases hln : l.length = n
  · subst hln
    have T0 : ((l.length : Int) == (l.length : Int)) = true := beq_self_eq_true _
    have HRR : Hid (l.mapM atoiO = R) := by unfold Hid; rw [← HR.out]; unfold numsR; rw [if_pos rfl]
    go_enter Tryz.func48, Tryz.ntmps48
    go_wp2_with (first
      | (go_at_call 50; refine (mustT_any _ _).mono ?_; rintro e w1 ⟨rfl, rfl⟩; rw [mustT_true]))
    go_loopw [5, 17] (fun q5 q17 wr => ∃ (k : Nat) (L : List Int), k ≤ l.length ∧ q17 = .int .i64 k ∧ (l.take k).mapM atoiO = some L ∧ L.length = k ∧ (∀ x ∈ L, I64 x) ∧ Ext w wr ∧ RowAt wr w.heap.size 1 q5 L.length (ints L)) (fun _ q _ => l.length - (intOf q).toNat)
    case atStart => exact ⟨0, [], Nat.zero_le _, rfl, rfl, rfl, by simp, Ext.refl _, RowAt.nil _ _ _ _⟩
    case round =>
      obtain ⟨k, L, hk, rfl, hL, hLk, hI, hb, hrow⟩ := hrel
      have HL := Lib.hid hL
      have HI := Lib.hid hI
      have HB := Lib.hid hb
      have HROW := Lib.hid hrow
      obtain ⟨ar, capr, rfl, _, _⟩ := hrow.shape
      have HBS := hb.size
      have HLK := Lib.hid hLk
      have hLb : L.length ≤ 100000 := by omega
      clear hL hI hb hrow hLk
      by_cases hlt : k < l.length
      · obtain ⟨bx, ox, cx, ex, _, hc⟩ := strs_at (HV.out.stays (Ext.stays HB.out)) hlt
        simp only [Value.slice.injEq] at ex
        obtain ⟨rfl, -, rfl⟩ := ex
        have hxl := HS.out _ (List.getElem_mem hlt)
        have HNX := Lib.hid (mapM_next hlt HL.out)
        have HST := Lib.hid (mapM_stop hlt HL.out)
        generalize l[k] = x at *
        replace hc : _ = some (Value.string ⟨x.toArray⟩) := hc
        cases hx : atoiO x with
        | none =>
          have HN : Hid (R = none) := by unfold Hid; rw [← HRR.out]; exact HST.out hx
          have HXX := Lib.hid hx
          clear hx
          go_wp2_with (first
            | (go_at_call 74; (with_reducible refine (atoi_any x _ (HG.out.ext HB.out) hxl).mono ?_); rintro e w3 ⟨⟨y, ev, rfl, hy⟩, hb3⟩; unfold AtoiR at hy; rw [HXX.out] at hy; obtain ⟨te, pe, rfl⟩ := hy)
            | (go_at_call 50; refine (mustT_any _ _).mono ?_; rintro e w1 ⟨rfl, rfl⟩; rw [mustT_false]))
          exact ⟨rfl, by rw [HN.out]; exact rfl, HB.out.trans hb3⟩
        | some z =>
          rw [hx] at HNX
          have HXX := Lib.hid hx
          have HS7 : ∀ W, Ext wr W → Hid (w.heap.size ≤ (W.alloc (.cells #[.int .i64 z] 3)).heap.size) := fun W h => by unfold Hid; exact Nat.le_trans (Nat.le_trans HBS h.size) ((Ext.refl W).alloc _).size
          clear hx HST
          go_wp2_with (first
            | (go_at_call 74; (with_reducible refine (atoi_any x _ (HG.out.ext HB.out) hxl).mono ?_); rintro e w3 ⟨⟨y, ev, rfl, hy⟩, hb3⟩; unfold AtoiR at hy; rw [HXX.out] at hy; obtain ⟨rfl, rfl, hzI⟩ := hy; have HE3 := Lib.hid (hb3.alloc (.cells #[.int .i64 y] 3)))
            | (go_at_call 50; refine (mustT_any _ _).mono ?_; rintro e w1 ⟨rfl, rfl⟩; rw [mustT_true])
            | (at_builtin; refine wpList_append_row rfl _ _ 30 rfl w.heap.size 3 i0 (.int .i64 0) 1 8 Tryz.underlying30 hi0 hz0 hz1 hz2 rfl (by decide) _ _ _ rfl (by exact HROW.out.ext HE3.out (by decide)) 1 (ints [y]) (src_one _ _ _) (by unfold maxLen; omega) (by omega) (by exact (HS7 _ hb3).out) ?_; intro v1 Wv1 rv1; have RV := Lib.hid rv1; obtain ⟨a9, cap9, rfl, _, _⟩ := rv1.1.shape; have HX9 := Lib.hid (Chg.ext_from (HB.out.trans HE3.out) RV.out.2.1 (fun g e => HROW.out.le g e)); clear rv1))
          go_roundw
          case rel => exact ⟨k + 1, L ++ [y], by omega, by go_num, HNX.out, by simp [HLK.out], fun u hu => (List.mem_append.1 hu).elim (HI.out u) (fun h => (List.mem_singleton.1 h) ▸ hzI), HX9.out, by rw [List.length_append, List.length_singleton, ints_app]; exact RV.out.1⟩
          case measure => simp [intOf]; omega
      · obtain rfl : k = l.length := by omega
        have HN : Hid (R = some L) := by unfold Hid; rw [← HRR.out]; have := HL.out; rwa [List.take_length] at this
        clear hlt
        go_wp2_with fail
        go_ret
        refine ⟨?_, HB.out⟩
        rw [HN.out]
        exact ⟨ar, capr, rfl, Ints.of_row (by rw [flatMap_intF]; exact HROW.out) (by omega) HI.out _ (fun _ h _ => h)⟩
  · have T0 : ((l.length : Int) == (n : Int)) = false := beq_eq_false_iff_ne.2 (by omega)
    have hRn : R = none := by rw [← HR.out]; unfold numsR; rw [if_neg hln]
    subst hRn
    clear hln
    go_enter Tryz.func48, Tryz.ntmps48
    go_wp2_with (first
      | (go_at_call 50; refine (mustT_any _ _).mono ?_; rintro e w1 ⟨rfl, rfl⟩; rw [mustT_false]))
    exact ⟨rfl, rfl, Ext.refl _⟩
end Go.Proofs.YtpcjkfppacnkgaaGreatDoor
end
