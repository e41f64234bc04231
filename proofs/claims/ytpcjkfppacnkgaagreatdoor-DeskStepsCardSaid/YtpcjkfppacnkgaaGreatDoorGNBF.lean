/- Merged texts: contracts and plain facts, one part behind another; each part begins with what it says. -/
import Derived.Test.YtpcjkfppacnkgaaGreatDoorGNAB
import Derived.Test.YtpcjkfppacnkgaaGreatDoorGNAW
import Derived.Test.YtpcjkfppacnkgaaGreatDoorGNBD
import Derived.Test.YtpcjkfppacnkgaaGreatDoorGNBE
section
/- strings.Split at a blank, strings.TrimSuffix and slices.Index as the plain laws say them. No condition. -/
set_option maxHeartbeats 1000000
set_option maxRecDepth 100000
namespace Go.Proofs.YtpcjkfppacnkgaaGreatDoor
open Go Go.RowKit

def pushP (b : UInt8) : List By → List By
  | [] => []
  | p :: ps => (b :: p) :: ps
def preP (cur : By) : List By → List By
  | [] => []
  | p :: ps => (cur ++ p) :: ps
theorem splitK_one (c : UInt8) (k : Nat) (l : By) : Lib.splitK [c] 0 (k + 1) (c :: l) = [] :: Lib.splitK [c] 0 k l := by
  have hi : Lib.index (c :: l) [c] = 0 := by unfold Lib.index; rw [if_pos (by simp)]
  rw [Lib.splitK, hi]
  simp
theorem splitK_other {b c : UInt8} (h : b ≠ c) (k : Nat) (l : By) : Lib.splitK [c] 0 k (b :: l) = pushP b (Lib.splitK [c] 0 k l) := by
  have hi : Lib.index (b :: l) [c] = if Lib.index l [c] == -1 then -1 else Lib.index l [c] + 1 := by
    rw [Lib.index, if_neg (by simp; exact fun e => h e.symm)]
  cases k with
  | zero => rfl
  | succ k =>
    rw [Lib.splitK, Lib.splitK, hi]
    by_cases hn : Lib.index l [c] = -1
    · have hb : (Lib.index l [c] == -1) = true := beq_iff_eq.2 hn
      rw [hb]
      simp [pushP]
    · have hb : (Lib.index l [c] == -1) = false := beq_eq_false_iff_ne.2 hn
      have hg := Lib.index_ge l [c]
      obtain ⟨i, hi⟩ : ∃ i : Nat, Lib.index l [c] = i := ⟨(Lib.index l [c]).toNat, by omega⟩
      have e1 : (((i : Int) + 1) == -1) = false := beq_eq_false_iff_ne.2 (by omega)
      have e2 : ((i : Int) + 1).toNat = i + 1 := by omega
      rw [hb]
      simp only [Bool.false_eq_true, if_false]
      rw [hi, e1]
      simp [pushP, e2]
theorem splitK_ne (c : UInt8) (k : Nat) (l : By) : Lib.splitK [c] 0 k l ≠ [] := by
  cases k with
  | zero => simp [Lib.splitK]
  | succ k => rw [Lib.splitK]; split <;> simp
theorem splitGo_K (c : UInt8) : ∀ (s cur : By), splitGo c cur s = preP cur (Lib.splitK [c] 0 (Lib.count s [c]) s)
  | [], cur => by
    rw [Lib.count_one]
    simp [splitGo, Lib.splitK, preP]
  | b :: l, cur => by
    by_cases h : b = c
    · subst h
      rw [splitGo, if_pos rfl, splitGo_K b l [], Lib.count_cons_eq, Nat.add_comm, splitK_one]
      have hne := splitK_ne b (Lib.count l [b]) l
      cases he : Lib.splitK [b] 0 (Lib.count l [b]) l with
      | nil => exact absurd he hne
      | cons p ps => simp [preP]
    · rw [splitGo, if_neg h, splitGo_K c l (cur ++ [b]), Lib.count_cons_ne _ _ _ h, splitK_other h]
      have hne := splitK_ne c (Lib.count l [c]) l
      cases he : Lib.splitK [c] 0 (Lib.count l [c]) l with
      | nil => exact absurd he hne
      | cons p ps => simp [preP, pushP]
theorem splitC_K (c : UInt8) (s : By) : splitC c s = Lib.splitK [c] 0 (Lib.count s [c]) s := by
  unfold splitC
  rw [splitGo_K c s []]
  cases Lib.splitK [c] 0 (Lib.count s [c]) s with
  | nil => rfl
  | cons p ps => rfl
theorem txtV_data (b : ByteArray) : txtV b.data.toList = .string b := by unfold txtV; simp
theorem splitI_any (s : By) (w : World) (hg : Glob w) (hl : s.length ≤ 100000) :
    Calls Tryz.prog 47 #[.string ⟨s.toArray⟩, .string ⟨#[32]⟩] w fun e w' => e = .returned (.slice (some ⟨w.heap.size, 0, none⟩) (splitC 32 s).length (splitC 32 s).length) ∧ w' = w.alloc (.cells ((splitC 32 s).map txtV).toArray 9) := by
  obtain ⟨m, hm⟩ := hg.max
  have h1 : 1 ≤ (⟨#[32]⟩ : ByteArray).size := by decide
  have hsz := size_by s
  refine (Tryz.strings_Split ⟨s.toArray⟩ ⟨#[32]⟩ m w (by omega) hm h1).mono ?_
  have hd := Lib.splitB_data ⟨#[32]⟩ 0 (Lib.countB ⟨s.toArray⟩ ⟨#[32]⟩) ⟨s.toArray⟩
  have hc : Lib.countB ⟨s.toArray⟩ ⟨#[32]⟩ = Lib.count s [32] := by unfold Lib.countB; simp
  have hd2 : (Lib.splitB ⟨#[32]⟩ 0 (Lib.countB ⟨s.toArray⟩ ⟨#[32]⟩) ⟨s.toArray⟩).map (·.data.toList) = splitC 32 s := by
    rw [hd, splitC_K, hc]
  have hlen := Lib.splitB_all ⟨#[32]⟩ h1 0 _ ⟨s.toArray⟩ rfl
  have hlen2 : (splitC 32 s).length = Lib.countB ⟨s.toArray⟩ ⟨#[32]⟩ + 1 := by rw [← hd2, List.length_map, hlen]
  have hmap : (splitC 32 s).map txtV = (Lib.splitB ⟨#[32]⟩ 0 (Lib.countB ⟨s.toArray⟩ ⟨#[32]⟩) ⟨s.toArray⟩).map Value.string := by
    rw [← hd2, List.map_map]
    exact List.map_congr_left fun b _ => txtV_data b
  rintro e w' ⟨rfl, rfl⟩
  exact ⟨by rw [hlen2], by rw [hmap]⟩
theorem trim_any (s : By) (w : World) (hl : s.length ≤ 100000) :
    Calls Tryz.prog 31 #[.string ⟨s.toArray⟩, .string ⟨#[10]⟩] w fun e w' => e = .returned (.string ⟨(Lib.trimSuffix s [10]).toArray⟩) ∧ w = w' := by
  have hsz := size_by s
  refine (Tryz.strings_TrimSuffix ⟨s.toArray⟩ ⟨#[10]⟩ w (by omega)).mono ?_
  rintro e w' ⟨rfl, rfl⟩
  exact ⟨by simp, rfl⟩
theorem mk_inj {x y : By} : ((⟨x.toArray⟩ : ByteArray) = ⟨y.toArray⟩) ↔ x = y := ⟨fun e => by have := congrArg (fun z : ByteArray => z.data.toList) e; simpa using this, fun e => by rw [e]⟩
theorem idxFrom_by (x : By) : ∀ (l : List By) (i : Nat), Lib.idxFromS (l.map fun y => (⟨y.toArray⟩ : ByteArray)) ⟨x.toArray⟩ i = if l.idxOf x < l.length then ((i + l.idxOf x : Nat) : Int) else -1
  | [], i => rfl
  | y :: l, i => by
    rw [List.map_cons, Lib.idxFromS]
    by_cases h : y = x
    · subst h
      simp
    · have hic : (y :: l).idxOf x = l.idxOf x + 1 := by
        have hb : (y == x) = false := beq_eq_false_iff_ne.2 h
        rw [List.idxOf_cons, hb]
        rfl
      have hne : ¬ (⟨y.toArray⟩ : ByteArray) = ⟨x.toArray⟩ := fun e => h (mk_inj.1 e)
      rw [if_neg hne, idxFrom_by x l (i + 1), hic, List.length_cons]
      by_cases h2 : l.idxOf x < l.length
      · rw [if_pos h2, if_pos (by omega)]
        congr 1
        omega
      · rw [if_neg h2, if_neg (by omega)]
theorem index_any (l : List By) (v : Value) (S : Nat → Prop) (x : By) (w : World) (hv : Strs w S v l) (hl : 0 < l.length) (hm : l.length ≤ 100000) :
    Calls Tryz.prog 49 #[v, .string ⟨x.toArray⟩] w fun e w' => e = .returned (.int .i64 (if l.idxOf x < l.length then (l.idxOf x : Int) else -1)) ∧ w = w' := by
  obtain ⟨b, o, cap, rfl, _, _⟩ := strs_at hv hl
  have hz : (l.map fun y => (⟨y.toArray⟩ : ByteArray)).length = l.length := by simp
  refine (Tryz.slices_Index_string b o l.length cap (l.map fun y => (⟨y.toArray⟩ : ByteArray)) ⟨x.toArray⟩ w (by omega) (by omega) ?_).mono ?_
  · intro j hj
    rw [hz] at hj
    obtain ⟨b', o', cap', e, _, hc⟩ := strs_at hv hj
    simp only [Value.slice.injEq, Option.some.injEq, Addr.mk.injEq] at e
    obtain ⟨⟨rfl, rfl, -⟩, -⟩ := e
    rw [hc]
    simp [List.getD, List.getElem?_eq_getElem hj, txtV]
  · rintro e w' ⟨rfl, rfl⟩
    have ht : (l.map fun y => (⟨y.toArray⟩ : ByteArray)).take l.length = l.map fun y => (⟨y.toArray⟩ : ByteArray) := List.take_of_length_le (by omega)
    refine ⟨?_, rfl⟩
    rw [ht]
    unfold Lib.idxOfS
    rw [idxFrom_by, Nat.zero_add]
end Go.Proofs.YtpcjkfppacnkgaaGreatDoor
end
section
/- Contract of the desk's line. No condition. -/
set_option maxHeartbeats 4000000
set_option maxRecDepth 100000
namespace Go.Proofs.YtpcjkfppacnkgaaGreatDoor
open Go Go.RowKit

theorem cut_any (x op rest : By) (f : Bool) (X : ByteArray) (w : World) (hg : Glob w) (hX : (⟨x.toArray⟩ : ByteArray) = X) (hc : Lib.cut x [32] = (op, rest, f)) (hl : x.length ≤ 100000) :
    Calls Tryz.prog 73 #[.string X, .string ⟨#[32]⟩] w fun e w' => e = .returned (.tuple #[.string ⟨op.toArray⟩, .string ⟨rest.toArray⟩, .bool f]) ∧ Ext w w' := by
  obtain ⟨m, hm⟩ := hg.max
  subst hX
  refine (Tryz.strings_Cut ⟨x.toArray⟩ ⟨#[32]⟩ m w (by rw [size_by]; omega) hm).mono ?_
  rintro e w' ⟨rfl, n, rfl⟩
  have e1 : Lib.cut (⟨x.toArray⟩ : ByteArray).data.toList (⟨#[32]⟩ : ByteArray).data.toList = (op, rest, f) := by
    have : (⟨x.toArray⟩ : ByteArray).data.toList = x := by simp
    rw [this]
    exact hc
  rw [e1]
  exact ⟨rfl, (Ext.refl _).drewN _⟩
theorem nfun_zero (w : World) : (zeroValue 33).run Tryz.prog w = .ok .nilFunc w := by kernel_rfl
theorem ba_beq (a b : ByteArray) : (a == b) = (a.data == b.data) := by cases a; cases b; rfl
theorem ba_is {a b : ByteArray} (h : a = b) : (a == b) = true := by rw [ba_beq, h]; exact beq_self_eq_true _
theorem ba_not {a b : ByteArray} (h : a ≠ b) : (a == b) = false := by
  rw [ba_beq]
  refine beq_eq_false_iff_ne.2 fun e => h ?_
  cases a; cases b
  exact congrArg _ e
theorem fn_is_nil (f : FuncId) (b : Nat) (w : World) : (binOp BinOp.eql 33 (.func (.func f) #[.pointer (some ⟨b, 0, none⟩)] #[]) .nilFunc).run Tryz.prog w = .ok (.bool false) w := by kernel_rfl
theorem nil_is_nil (w : World) : (binOp BinOp.eql 33 .nilFunc .nilFunc).run Tryz.prog w = .ok (.bool true) w := by kernel_rfl
theorem cut_len {x op rest : By} {f : Bool} (hc : Lib.cut x [32] = (op, rest, f)) : op.length ≤ x.length ∧ rest.length ≤ x.length := by
  rcases cut_cases x with ⟨_, h⟩ | ⟨a, r, _, h, h3⟩
  · rw [h] at hc
    simp only [Prod.mk.injEq] at hc
    obtain ⟨rfl, rfl, -⟩ := hc
    simp
  · rw [h3] at hc
    simp only [Prod.mk.injEq] at hc
    obtain ⟨rfl, rfl, -⟩ := hc
    rw [h]
    simp only [List.length_append, List.length_cons]
    omega
theorem line_desk (p : List GFunc) (s : GState) (l : List Int) (x : By) (X : ByteArray) (S : Nat → Prop) (b : Nat) (w : World) (hg : Glob w) (hX : (⟨x.toArray⟩ : ByteArray) = X) (hT : TabX w S b p s) (hok : Ok p s l) (hnb : NotG b) (hx : x.length ≤ 10000) :
    Calls Tryz.prog 30 #[.pointer (some ⟨b, 0, none⟩), .string X] w fun e W' => e = .returned (.string ⟨(playG p s x).2.toArray⟩) ∧ TabX W' (Up S w.heap.size) b p (playG p s x).1 ∧ Chg (· = b) w W' := by
  have HG := Lib.hid hg
  have HX := Lib.hid hX
  have HOK := Lib.hid hok
  have HT := Lib.hid hT
  have hmm := @run_makeMap Tryz.prog
  obtain ⟨r, hr⟩ : ∃ r, wordG p s x = r := ⟨_, rfl⟩
  have HW := Lib.hid (word_any p s l x X S b w hg hX hT hok)
  have HWG := Lib.hid hr
  rw [hr] at HW
  cases r with
  | some r =>
    have HPL : Hid (playG p s x = r) := by unfold Hid playG; rw [hr]
    clear hg hX hT hr
    go_enter Tryz.func30, Tryz.ntmps30
    go_wp2_with (first
      | (go_at_call 72; (with_reducible refine HW.out.mono ?_); rintro e w2 ⟨⟨rfl, ht2⟩, hc2⟩))
    go_ret
    exact ⟨by rw [HPL.out]; rfl, by rw [HPL.out]; exact ht2, hc2⟩
  | none =>
    obtain ⟨⟨op, rest, f⟩, hcut⟩ : ∃ z, Lib.cut x [32] = z := ⟨_, rfl⟩
    have HCUT := Lib.hid hcut
    have hlen := cut_len hcut
    obtain ⟨OP, hOP⟩ : ∃ Y : ByteArray, (⟨op.toArray⟩ : ByteArray) = Y := ⟨_, rfl⟩
    obtain ⟨RE, hRE⟩ : ∃ Y : ByteArray, (⟨rest.toArray⟩ : ByteArray) = Y := ⟨_, rfl⟩
    have HOP := Lib.hid hOP
    have HRE := Lib.hid hRE
    have hN : RE.size = rest.length := by rw [← hRE]; exact size_by rest
    clear hg hX hT hr hcut hOP hRE
    have HAT : Hid (∀ w, Glob w → Calls Tryz.prog 74 #[.string RE] w fun e w' => (∃ n ev, e = .returned (.tuple #[.int .i64 n, ev]) ∧ AtoiR rest n ev) ∧ Ext w w') := by
      unfold Hid; intro w hg; rw [← HRE.out]; exact atoi_any rest w hg (by omega)
    by_cases hgood : ∃ n, goodN rest n
    · obtain ⟨n, hgd⟩ := hgood
      obtain ⟨e1, e2, e3⟩ := good_num hgd
      have HPG := Lib.hid (play_good HWG.out HCUT.out hgd)
      obtain ⟨g1, g2, g3, g4⟩ := hgd
      obtain ⟨m, rfl⟩ : ∃ m : Nat, n = m := ⟨n.toNat, by omega⟩
      have HG1 := Lib.hid g1
      have HIT : Hid ((⟨(Lib.itoa (m : Int)).toArray⟩ : ByteArray) = RE) := by unfold Hid; rw [g4]; exact HRE.out
      have T6 : decide ((6 : Int) < (rest.length : Int)) = false := decide_eq_false (by omega)
      have hIm : I64 (m : Int) := I64.small (by omega) (by omega)
      clear g1 g2 g4 e1 e2
      go_enter Tryz.func30, Tryz.ntmps30
      go_upto_region 5 with (first
        | (go_at_call 72; (with_reducible refine HW.out.mono ?_); rintro e w2 ⟨⟨rfl, ht2⟩, hc2⟩; have HT2 := Lib.hid ht2; have HC2 := Lib.hid hc2; have HG2 := Lib.hid (HG.out.chg hc2 hnb); clear ht2 hc2)
        | (go_at_call 73; (with_reducible refine (cut_any x op rest f X _ HG2.out HX.out HCUT.out (by omega)).mono ?_); rintro e w3 ⟨rfl, hb3⟩; rw [HOP.out, HRE.out]; have HB3 := Lib.hid hb3; clear hb3))
      go_upto_region 6 with (first
        | (go_at_call 74; (with_reducible refine (HAT.out _ (HG2.out.ext HB3.out)).mono ?_); rintro e w4 ⟨⟨n4, ev, rfl, hr4⟩, hb4⟩; unfold AtoiR at hr4; rw [HG1.out] at hr4; obtain ⟨rfl, rfl, _⟩ := hr4; have HE4 := Lib.hid (HB3.out.trans hb4); clear hb4))
      go_upto_region 8 with (first
        | (go_at_call 75; (with_reducible refine (itoa_any _ _ hIm (HG2.out.ext HE4.out)).mono ?_); rintro e w5 ⟨rfl, hb5⟩; rw [HIT.out]; have HE5 := Lib.hid (HE4.out.trans hb5); clear hb5))
      rename World => w5
      clear HW HCUT HAT HIT
      have u0 : (Instr.mapUpdate 119 (.map (some w5.heap.size)) (.string ⟨#[115, 116, 101, 112]⟩) (.func (.func 77) #[.pointer (some ⟨b, 0, none⟩)] #[])).run Tryz.prog (w5.alloc (.map #[] 0)) = .ok () (w5.alloc (.map #[⟨.string ⟨#[115, 116, 101, 112]⟩, .func (.func 77) #[.pointer (some ⟨b, 0, none⟩)] #[], 0⟩] 1)) := run_updS0 Tryz.underlying119 Tryz.underlying9 w5 _ _
      have u1 : (Instr.mapUpdate 119 (.map (some w5.heap.size)) (.string ⟨#[104, 101, 105, 103, 104, 116, 115]⟩) (.func (.func 78) #[.pointer (some ⟨b, 0, none⟩)] #[])).run Tryz.prog (w5.alloc (.map #[⟨.string ⟨#[115, 116, 101, 112]⟩, .func (.func 77) #[.pointer (some ⟨b, 0, none⟩)] #[], 0⟩] 1)) = .ok () (w5.alloc (.map #[⟨.string ⟨#[115, 116, 101, 112]⟩, .func (.func 77) #[.pointer (some ⟨b, 0, none⟩)] #[], 0⟩, ⟨.string ⟨#[104, 101, 105, 103, 104, 116, 115]⟩, .func (.func 78) #[.pointer (some ⟨b, 0, none⟩)] #[], 1⟩] 2)) := run_updS1 Tryz.underlying119 Tryz.underlying9 w5 _ _ (by decide) _ _
      have hmf : ∀ (fn : Fn) (first cap : Array Value) (w : World), (Instr.makeFunc fn first cap).run Tryz.prog w = .ok (.func fn first cap) w := fun _ _ _ _ => rfl
      by_cases ho : op = stepT
      · have q1 : (OP == (⟨#[115, 116, 101, 112]⟩ : ByteArray)) = true := ba_is (by rw [← HOP.out, ho]; rfl)
        have q2 : (OP == (⟨#[104, 101, 105, 103, 104, 116, 115]⟩ : ByteArray)) = false := ba_not (fun e => absurd (mk_inj.1 (HOP.out.trans e)) (by rw [ho]; decide))
        have HPQ : Hid (playG p s x = stepN p s m) := by unfold Hid; rw [HPG.out, if_pos ho]
        clear ho
        have la : (Instr.lookup 119 (.map (some w5.heap.size)) (.string OP) false).run Tryz.prog (w5.alloc (.map #[⟨.string ⟨#[115, 116, 101, 112]⟩, .func (.func 77) #[.pointer (some ⟨b, 0, none⟩)] #[], 0⟩, ⟨.string ⟨#[104, 101, 105, 103, 104, 116, 115]⟩, .func (.func 78) #[.pointer (some ⟨b, 0, none⟩)] #[], 1⟩] 2)) = .ok (.func (.func 77) #[.pointer (some ⟨b, 0, none⟩)] #[]) (w5.alloc (.map #[⟨.string ⟨#[115, 116, 101, 112]⟩, .func (.func 77) #[.pointer (some ⟨b, 0, none⟩)] #[], 0⟩, ⟨.string ⟨#[104, 101, 105, 103, 104, 116, 115]⟩, .func (.func 78) #[.pointer (some ⟨b, 0, none⟩)] #[], 1⟩] 2)) := by
          have h := run_lookS Tryz.underlying119 Tryz.underlying9 w5 ⟨#[115, 116, 101, 112]⟩ ⟨#[104, 101, 105, 103, 104, 116, 115]⟩ OP (.func (.func 77) #[.pointer (some ⟨b, 0, none⟩)] #[]) (.func (.func 78) #[.pointer (some ⟨b, 0, none⟩)] #[]) .nilFunc nfun_zero
          simp only [q1, q2, Bool.false_eq_true, if_true, if_false] at h
          exact h
        go_cut [12] (fun q12 wr => q12 = .func (.func 77) #[.pointer (some ⟨b, 0, none⟩)] #[] ∧ Ext w5 wr)
        case first =>
          go_wp2_with fail
          go_meet
          exact ⟨rfl, by ((repeat (first | assumption | exact Ext.refl _ | (exact And.left (by assumption)) | refine Ext.alloc ?_ _ | refine Ext.drew ?_ | refine Ext.drewN ?_ _ | refine Ext.setCell ?_ (by simp) _ | refine Ext.setCell ?_ (by simp; omega) _ | refine Ext.trans ?_ (by assumption))); done)⟩
        case rest =>
          obtain ⟨rfl, hE8⟩ := hcut
          have HE8 := Lib.hid (HE5.out.trans hE8)
          clear hE8 u0 u1 la
          rename World => w8
          have fn1 := fn_is_nil 77 b
          have fn2 := fn_is_nil 78 b
          have fn3 := nil_is_nil
          go_wp2_with (first
            | (go_at_call 77; (with_reducible refine (step_desk p s l m _ b _ (HG2.out.ext HE8.out) (HT2.out.ext HE8.out) HOK.out (by omega) hnb).mono ?_); rintro e w9 ⟨rfl, ht9, hc9⟩))
          go_ret
          exact ⟨by rw [HPQ.out]; rfl, by rw [HPQ.out]; exact ht9.fold (Nat.le_trans HC2.out.size HE8.out.size) HT2.out.nb, (HC2.out.trans (Chg.of_ext HE8.out)).trans hc9⟩
      · by_cases ho2 : op = heightsT
        · have q1 : (OP == (⟨#[115, 116, 101, 112]⟩ : ByteArray)) = false := ba_not (fun e => absurd (mk_inj.1 (HOP.out.trans e)) (by rw [ho2]; decide))
          have q2 : (OP == (⟨#[104, 101, 105, 103, 104, 116, 115]⟩ : ByteArray)) = true := ba_is (by rw [← HOP.out, ho2]; rfl)
          have HPQ : Hid (playG p s x = (s, heightsN p m)) := by unfold Hid; rw [HPG.out, if_neg ho, if_pos ho2]
          clear ho ho2
          have la : (Instr.lookup 119 (.map (some w5.heap.size)) (.string OP) false).run Tryz.prog (w5.alloc (.map #[⟨.string ⟨#[115, 116, 101, 112]⟩, .func (.func 77) #[.pointer (some ⟨b, 0, none⟩)] #[], 0⟩, ⟨.string ⟨#[104, 101, 105, 103, 104, 116, 115]⟩, .func (.func 78) #[.pointer (some ⟨b, 0, none⟩)] #[], 1⟩] 2)) = .ok (.func (.func 78) #[.pointer (some ⟨b, 0, none⟩)] #[]) (w5.alloc (.map #[⟨.string ⟨#[115, 116, 101, 112]⟩, .func (.func 77) #[.pointer (some ⟨b, 0, none⟩)] #[], 0⟩, ⟨.string ⟨#[104, 101, 105, 103, 104, 116, 115]⟩, .func (.func 78) #[.pointer (some ⟨b, 0, none⟩)] #[], 1⟩] 2)) := by
            have h := run_lookS Tryz.underlying119 Tryz.underlying9 w5 ⟨#[115, 116, 101, 112]⟩ ⟨#[104, 101, 105, 103, 104, 116, 115]⟩ OP (.func (.func 77) #[.pointer (some ⟨b, 0, none⟩)] #[]) (.func (.func 78) #[.pointer (some ⟨b, 0, none⟩)] #[]) .nilFunc nfun_zero
            simp only [q1, q2, Bool.false_eq_true, if_true, if_false] at h
            exact h
          go_cut [12] (fun q12 wr => q12 = .func (.func 78) #[.pointer (some ⟨b, 0, none⟩)] #[] ∧ Ext w5 wr)
          case first =>
            go_wp2_with fail
            go_meet
            exact ⟨rfl, by ((repeat (first | assumption | exact Ext.refl _ | (exact And.left (by assumption)) | refine Ext.alloc ?_ _ | refine Ext.drew ?_ | refine Ext.drewN ?_ _ | refine Ext.setCell ?_ (by simp) _ | refine Ext.setCell ?_ (by simp; omega) _ | refine Ext.trans ?_ (by assumption))); done)⟩
          case rest =>
            obtain ⟨rfl, hE8⟩ := hcut
            have HE8 := Lib.hid (HE5.out.trans hE8)
            clear hE8 u0 u1 la
            rename World => w8
            have fn1 := fn_is_nil 77 b
            have fn2 := fn_is_nil 78 b
            have fn3 := nil_is_nil
            go_wp2_with (first
              | (go_at_call 78; (with_reducible refine (heights_desk p s m _ b _ (HG2.out.ext HE8.out) (HT2.out.ext HE8.out) HOK.out.prog).mono ?_); rintro e w9 ⟨rfl, hb9⟩))
            go_ret
            exact ⟨by rw [HPQ.out]; rfl, by rw [HPQ.out]; exact (HT2.out.ext HE8.out).ext hb9, (HC2.out.trans (Chg.of_ext HE8.out)).trans (Chg.of_ext hb9)⟩
        · have q1 : (OP == (⟨#[115, 116, 101, 112]⟩ : ByteArray)) = false := ba_not (fun e => ho (mk_inj.1 (HOP.out.trans e)))
          have q2 : (OP == (⟨#[104, 101, 105, 103, 104, 116, 115]⟩ : ByteArray)) = false := ba_not (fun e => ho2 (mk_inj.1 (HOP.out.trans e)))
          have HPQ : Hid (playG p s x = (s, errT 1)) := by unfold Hid; rw [HPG.out, if_neg ho, if_neg ho2]
          clear ho ho2
          have la : (Instr.lookup 119 (.map (some w5.heap.size)) (.string OP) false).run Tryz.prog (w5.alloc (.map #[⟨.string ⟨#[115, 116, 101, 112]⟩, .func (.func 77) #[.pointer (some ⟨b, 0, none⟩)] #[], 0⟩, ⟨.string ⟨#[104, 101, 105, 103, 104, 116, 115]⟩, .func (.func 78) #[.pointer (some ⟨b, 0, none⟩)] #[], 1⟩] 2)) = .ok (.nilFunc) (w5.alloc (.map #[⟨.string ⟨#[115, 116, 101, 112]⟩, .func (.func 77) #[.pointer (some ⟨b, 0, none⟩)] #[], 0⟩, ⟨.string ⟨#[104, 101, 105, 103, 104, 116, 115]⟩, .func (.func 78) #[.pointer (some ⟨b, 0, none⟩)] #[], 1⟩] 2)) := by
            have h := run_lookS Tryz.underlying119 Tryz.underlying9 w5 ⟨#[115, 116, 101, 112]⟩ ⟨#[104, 101, 105, 103, 104, 116, 115]⟩ OP (.func (.func 77) #[.pointer (some ⟨b, 0, none⟩)] #[]) (.func (.func 78) #[.pointer (some ⟨b, 0, none⟩)] #[]) .nilFunc nfun_zero
            simp only [q1, q2, Bool.false_eq_true, if_false] at h
            exact h
          go_cut [12] (fun q12 wr => q12 = .nilFunc ∧ Ext w5 wr)
          case first =>
            go_wp2_with fail
            go_meet
            exact ⟨rfl, by ((repeat (first | assumption | exact Ext.refl _ | (exact And.left (by assumption)) | refine Ext.alloc ?_ _ | refine Ext.drew ?_ | refine Ext.drewN ?_ _ | refine Ext.setCell ?_ (by simp) _ | refine Ext.setCell ?_ (by simp; omega) _ | refine Ext.trans ?_ (by assumption))); done)⟩
          case rest =>
            obtain ⟨rfl, hE8⟩ := hcut
            have HE8 := Lib.hid (HE5.out.trans hE8)
            clear hE8 u0 u1 la
            rename World => w8
            have fn1 := fn_is_nil 77 b
            have fn2 := fn_is_nil 78 b
            have fn3 := nil_is_nil
            go_wp2_with (first
              | (go_at_call 76; (with_reducible refine (refused_any 1 _ (HG2.out.ext HE8.out) (I64.small (by decide) (by decide))).mono ?_); rintro e w9 ⟨rfl, hb9⟩))
            go_ret
            exact ⟨by rw [HPQ.out]; rfl, by rw [HPQ.out]; exact (HT2.out.ext HE8.out).ext hb9, (HC2.out.trans (Chg.of_ext HE8.out)).trans (Chg.of_ext hb9)⟩
    · have HPB := Lib.hid (play_bad HWG.out HCUT.out (fun n h => hgood ⟨n, h⟩))
      cases ha : atoiO rest with
      | none =>
        have HA := Lib.hid ha
        clear ha hgood
        go_enter Tryz.func30, Tryz.ntmps30
        go_upto_region 5 with (first
          | (go_at_call 72; (with_reducible refine HW.out.mono ?_); rintro e w2 ⟨⟨rfl, ht2⟩, hc2⟩; have HT2 := Lib.hid ht2; have HC2 := Lib.hid hc2; have HG2 := Lib.hid (HG.out.chg hc2 hnb); clear ht2 hc2)
          | (go_at_call 73; (with_reducible refine (cut_any x op rest f X _ HG2.out HX.out HCUT.out (by omega)).mono ?_); rintro e w3 ⟨rfl, hb3⟩; rw [HOP.out, HRE.out]; have HB3 := Lib.hid hb3; clear hb3))
        go_upto_region 6 with (first
          | (go_at_call 74; (with_reducible refine (HAT.out _ (HG2.out.ext HB3.out)).mono ?_); rintro e w4 ⟨⟨n4, ev, rfl, hr4⟩, hb4⟩; unfold AtoiR at hr4; rw [HA.out] at hr4; obtain ⟨te, pe, rfl⟩ := hr4; have HE := Lib.hid (HB3.out.trans hb4); clear hb4))
        go_wp2_with (first
          | (go_at_call 76; (with_reducible refine (refused_any 1 _ (HG2.out.ext HE.out) (I64.small (by decide) (by decide))).mono ?_); rintro e w6 ⟨rfl, hb6⟩))
        go_ret
        exact ⟨by rw [HPB.out]; rfl, by rw [HPB.out]; exact HT2.out.ext (HE.out.trans hb6), HC2.out.trans (Chg.of_ext (HE.out.trans hb6))⟩
      | some n =>
        have HA := Lib.hid ha
        have hb := fun (h0 : 0 ≤ n) (h6 : rest.length ≤ 6) (he : Lib.itoa n = rest) => hgood ⟨n, ha, h0, h6, he⟩
        clear ha hgood
        by_cases h0 : 0 ≤ n
        · have T0 : decide (n < 0) = false := decide_eq_false (by omega)
          by_cases h6 : rest.length ≤ 6
          · have T6 : decide ((6 : Int) < (rest.length : Int)) = false := decide_eq_false (by omega)
            have hne := hb h0 h6
            clear hb
            obtain ⟨D, hD⟩ : ∃ Y : ByteArray, (⟨(Lib.itoa n).toArray⟩ : ByteArray) = Y := ⟨_, rfl⟩
            have HD := Lib.hid hD
            have TD : (D.toList == RE.toList) = false := beq_eq_false_iff_ne.2 (fun e => hne (by rw [← hD, ← HRE.out, ByteArray.toList_mk, ByteArray.toList_mk] at e; exact e))
            clear hD hne
            go_enter Tryz.func30, Tryz.ntmps30
            go_upto_region 5 with (first
              | (go_at_call 72; (with_reducible refine HW.out.mono ?_); rintro e w2 ⟨⟨rfl, ht2⟩, hc2⟩; have HT2 := Lib.hid ht2; have HC2 := Lib.hid hc2; have HG2 := Lib.hid (HG.out.chg hc2 hnb); clear ht2 hc2)
              | (go_at_call 73; (with_reducible refine (cut_any x op rest f X _ HG2.out HX.out HCUT.out (by omega)).mono ?_); rintro e w3 ⟨rfl, hb3⟩; rw [HOP.out, HRE.out]; have HB3 := Lib.hid hb3; clear hb3))
            go_upto_region 6 with (first
              | (go_at_call 74; (with_reducible refine (HAT.out _ (HG2.out.ext HB3.out)).mono ?_); rintro e w4 ⟨⟨n4, ev, rfl, hr4⟩, hb4⟩; unfold AtoiR at hr4; rw [HA.out] at hr4; obtain ⟨rfl, rfl, hin⟩ := hr4; have HIN := Lib.hid hin; have HE := Lib.hid (HB3.out.trans hb4); clear hb4 hin))
            go_wp2_with (first
              | (go_at_call 75; (with_reducible refine (itoa_any _ _ HIN.out (HG2.out.ext HE.out)).mono ?_); rintro e w5 ⟨rfl, hb5⟩; rw [HD.out]; have HE := Lib.hid (HE.out.trans hb5); clear hb5)
              | (go_at_call 76; (with_reducible refine (refused_any 1 _ (HG2.out.ext HE.out) (I64.small (by decide) (by decide))).mono ?_); rintro e w6 ⟨rfl, hb6⟩))
            go_ret
            exact ⟨by rw [HPB.out]; rfl, by rw [HPB.out]; exact HT2.out.ext (HE.out.trans hb6), HC2.out.trans (Chg.of_ext (HE.out.trans hb6))⟩
          · have T6 : decide ((6 : Int) < (rest.length : Int)) = true := decide_eq_true (by omega)
            clear hb
            go_enter Tryz.func30, Tryz.ntmps30
            go_upto_region 5 with (first
              | (go_at_call 72; (with_reducible refine HW.out.mono ?_); rintro e w2 ⟨⟨rfl, ht2⟩, hc2⟩; have HT2 := Lib.hid ht2; have HC2 := Lib.hid hc2; have HG2 := Lib.hid (HG.out.chg hc2 hnb); clear ht2 hc2)
              | (go_at_call 73; (with_reducible refine (cut_any x op rest f X _ HG2.out HX.out HCUT.out (by omega)).mono ?_); rintro e w3 ⟨rfl, hb3⟩; rw [HOP.out, HRE.out]; have HB3 := Lib.hid hb3; clear hb3))
            go_upto_region 6 with (first
              | (go_at_call 74; (with_reducible refine (HAT.out _ (HG2.out.ext HB3.out)).mono ?_); rintro e w4 ⟨⟨n4, ev, rfl, hr4⟩, hb4⟩; unfold AtoiR at hr4; rw [HA.out] at hr4; obtain ⟨rfl, rfl, hin⟩ := hr4; have HIN := Lib.hid hin; have HE := Lib.hid (HB3.out.trans hb4); clear hb4 hin))
            go_wp2_with (first
              | (go_at_call 76; (with_reducible refine (refused_any 1 _ (HG2.out.ext HE.out) (I64.small (by decide) (by decide))).mono ?_); rintro e w6 ⟨rfl, hb6⟩))
            go_ret
            exact ⟨by rw [HPB.out]; rfl, by rw [HPB.out]; exact HT2.out.ext (HE.out.trans hb6), HC2.out.trans (Chg.of_ext (HE.out.trans hb6))⟩
        · have T0 : decide (n < 0) = true := decide_eq_true (by omega)
          clear hb
          go_enter Tryz.func30, Tryz.ntmps30
          go_upto_region 5 with (first
            | (go_at_call 72; (with_reducible refine HW.out.mono ?_); rintro e w2 ⟨⟨rfl, ht2⟩, hc2⟩; have HT2 := Lib.hid ht2; have HC2 := Lib.hid hc2; have HG2 := Lib.hid (HG.out.chg hc2 hnb); clear ht2 hc2)
            | (go_at_call 73; (with_reducible refine (cut_any x op rest f X _ HG2.out HX.out HCUT.out (by omega)).mono ?_); rintro e w3 ⟨rfl, hb3⟩; rw [HOP.out, HRE.out]; have HB3 := Lib.hid hb3; clear hb3))
          go_upto_region 6 with (first
            | (go_at_call 74; (with_reducible refine (HAT.out _ (HG2.out.ext HB3.out)).mono ?_); rintro e w4 ⟨⟨n4, ev, rfl, hr4⟩, hb4⟩; unfold AtoiR at hr4; rw [HA.out] at hr4; obtain ⟨rfl, rfl, hin⟩ := hr4; have HIN := Lib.hid hin; have HE := Lib.hid (HB3.out.trans hb4); clear hb4 hin))
          go_wp2_with (first
            | (go_at_call 76; (with_reducible refine (refused_any 1 _ (HG2.out.ext HE.out) (I64.small (by decide) (by decide))).mono ?_); rintro e w6 ⟨rfl, hb6⟩))
          go_ret
          exact ⟨by rw [HPB.out]; rfl, by rw [HPB.out]; exact HT2.out.ext (HE.out.trans hb6), HC2.out.trans (Chg.of_ext (HE.out.trans hb6))⟩
end Go.Proofs.YtpcjkfppacnkgaaGreatDoor
end
section
/- The desk's answers are short; the lines of a text. Plain. No program in sight; no condition. -/
set_option maxHeartbeats 1000000
namespace Go.Proofs.YtpcjkfppacnkgaaGreatDoor
open Go Go.RowKit

theorem errT_len {e : Int} (h : 0 ≤ e ∧ e ≤ 9) : (errT e).length ≤ 27 := by
  have := Lib.itoa_length_le e (by omega) (by omega)
  unfold errT
  simp only [List.length_append, List.length_cons, List.length_nil]
  omega
theorem small_itoa {n : Int} (h : 0 ≤ n ∧ n ≤ 1000000) : (Lib.itoa n).length ≤ 21 := Lib.itoa_length_le n (by omega) (by omega)
theorem hList_i64 {p : List GFunc} (f : Int) : ∀ n ∈ hList p f, I64 n := by
  by_cases h0 : hErr p f = 0
  · obtain ⟨k, hk, rfl, hR, hF⟩ := hErr_inv h0
    intro n hn
    obtain ⟨i, hi, rfl⟩ := List.getElem_of_mem hn
    have hi' : i < p[k].code.length := by rw [← hF.len]; exact hi
    have e : (hList p k).getD i 0 = (hList p k)[i] := by simp [List.getD, List.getElem?_eq_getElem hi]
    have h1 := hF.hi i hi'
    have h2 := hF.low i hi'
    rw [e] at h1 h2
    by_cases h3 : (hList p k)[i] < 0
    · rw [h2 h3]; exact I64.neg1
    · exact I64.small (by omega) (by omega)
  · by_cases h1 : funcErr p f = 0
    · by_cases h2 : hts p (p.getD f.toNat default).code = none
      · rw [(hErr_none h1 h2).2]; simp
      · exact absurd (by unfold hErr; rw [if_neg (fun h => h h1), if_neg h2]) h0
    · rw [(hErr_bad h1).2]; simp
theorem hList_24 {p : List GFunc} (hz : progErr p = 0) (f : Int) : (hList p f).length ≤ 24 := by
  by_cases h0 : hErr p f = 0
  · obtain ⟨k, hk, rfl, hR, hF⟩ := hErr_inv h0
    have h1 := hF.len
    have h2 := (right_ops hz _ (List.getElem_mem hk)).2.1
    omega
  · by_cases h1 : funcErr p f = 0
    · by_cases h2 : hts p (p.getD f.toNat default).code = none
      · rw [(hErr_none h1 h2).2]; simp
      · exact absurd (by unfold hErr; rw [if_neg (fun h => h h1), if_neg h2]) h0
    · rw [(hErr_bad h1).2]; simp
theorem word_len {p : List GFunc} {s : GState} {l : List Int} {x : By} {r : GState × By} (h : Ok p s l) (hI : ∀ n ∈ s.out, I64 n) (hw : wordG p s x = some r) : r.2.length ≤ 1000 := by
  have hout := h.out
  have hfew := h.few
  unfold wordG at hw
  by_cases h1 : x = outT
  · rw [if_pos h1] at hw; cases hw
    have := listT_len s.out hI
    show (listT s.out).length ≤ 1000
    omega
  rw [if_neg h1] at hw
  by_cases h2 : x = lineT
  · rw [if_pos h2] at hw; cases hw
    show (listT ((lineS s).getD [])).length ≤ 1000
    rw [h.right.line, Option.getD_some]
    have hr := lk_range (fun k hk => (h.callers k hk).2) h.lk h.now.2
    have hn := nodup_len _ _ (lk_nodup h.lk) hr
    have := listT_len l (fun n hn => by have := hr n hn; exact I64.small (by omega) (by omega))
    omega
  rw [if_neg h2] at hw
  by_cases h3 : x = kindsT
  · rw [if_pos h3] at hw; cases hw
    show (listT (kindsG p s)).length ≤ 1000
    have := listT_len (kindsG p s) (fun n hn => by
      unfold kindsG at hn
      obtain ⟨j, hj, rfl⟩ := List.mem_map.1 hn
      have := (h.right.kind (List.mem_range.1 hj)).1
      exact I64.small (by omega) (by omega))
    have := kindsG_len p s
    omega
  rw [if_neg h3] at hw
  by_cases h4 : x = trimT
  · rw [if_pos h4] at hw; cases hw
    show (Lib.itoa (trimK p p.length)).length ≤ 1000
    have h5 := trimK_le h.prog p.length (Nat.le_refl _)
    have h6 := (progErr_zero h.prog).most
    have := small_itoa (n := (trimK p p.length : Int)) (by omega)
    omega
  rw [if_neg h4] at hw
  by_cases h5 : x = againT
  · rw [if_pos h5] at hw; cases hw
    show okT.length ≤ 1000
    decide
  · rw [if_neg h5] at hw; cases hw
theorem step_len {p : List GFunc} {s : GState} {l : List Int} (h : Ok p s l) {n : Int} (hn : 0 ≤ n) : (stepN p s n).2.length ≤ 1000 := by
  unfold stepN
  by_cases h5 : 500 < n
  · rw [if_pos h5]
    have := errT_len (e := 3) (by omega)
    show (errT 3).length ≤ 1000
    omega
  · rw [if_neg h5]
    have hb := ran_bd h n.toNat
    show (ranT (runG p n.toNat s)).length ≤ 1000
    have h1 := small_itoa (n := (runG p n.toNat s).2.1) (by omega)
    have h2 := errT_len (e := (runG p n.toNat s).2.2) (by omega)
    unfold ranT
    split
    · simp only [List.length_append, List.length_cons]; omega
    · omega
theorem heights_len {p : List GFunc} (hz : progErr p = 0) (n : Int) : (heightsN p n).length ≤ 1000 := by
  unfold heightsN
  have hb := hErr_bd p n
  split
  · have := errT_len (e := hErr p n) (by omega); omega
  · have := listT_len (hList p n) (hList_i64 n)
    have := hList_24 hz n
    omega
theorem play_len {p : List GFunc} {s : GState} {l : List Int} (x : By) (h : Ok p s l) (hI : ∀ n ∈ s.out, I64 n) : (playG p s x).2.length ≤ 1000 := by
  have he := errT_len (e := 1) (by omega)
  unfold playG
  cases hw : wordG p s x with
  | some r => exact word_len h hI hw
  | none =>
    simp only
    split
    · show (errT 1).length ≤ 1000; omega
    · rename_i hc
      split
      · exact step_len h (by omega)
      · split
        · exact heights_len h.prog _
        · show (errT 1).length ≤ 1000; omega
/-- What was right stays right. -/
theorem play_ok {p : List GFunc} {s : GState} {l : List Int} (x : By) (h : Ok p s l) : ∃ l', Ok p (playG p s x).1 l' := by
  have hbeg : ∃ l', Ok p (beginG p) l' := ⟨_, begin_ok h.prog⟩
  unfold playG
  cases hw : wordG p s x with
  | some r =>
    simp only
    unfold wordG at hw
    split at hw
    · cases hw; exact ⟨l, h⟩
    · split at hw
      · cases hw; exact ⟨l, h⟩
      · split at hw
        · cases hw; exact ⟨l, h⟩
        · split at hw
          · cases hw; exact ⟨l, h⟩
          · split at hw
            · cases hw; exact hbeg
            · cases hw
  | none =>
    simp only
    split
    · exact ⟨l, h⟩
    · split
      · unfold stepN
        split
        · exact ⟨l, h⟩
        · exact (run_ran _ h).right
      · split <;> exact ⟨l, h⟩

/-! ### The lines of a text -/
def stripT (y : By) : By := Lib.trimSuffix y [10]
theorem splitGo_form (c : UInt8) : ∀ (t cur : By), c ∉ cur → ∃ ls r, splitGo c cur t = ls ++ [r] ∧ cur ++ t = ls.flatMap (· ++ [c]) ++ r ∧ (∀ x ∈ ls, c ∉ x) ∧ c ∉ r
  | [], cur, h => ⟨[], cur, by simp [splitGo], by simp, by simp, h⟩
  | b :: t, cur, h => by
    rw [splitGo]
    by_cases hb : b = c
    · rw [if_pos hb]
      obtain ⟨ls, r, h1, h2, h3, h4⟩ := splitGo_form c t [] (by simp)
      refine ⟨cur :: ls, r, by rw [h1]; rfl, ?_, ?_, h4⟩
      · rw [List.flatMap_cons, List.append_assoc, ← h2, hb]; simp
      · intro x hx
        rcases List.mem_cons.1 hx with rfl | hx
        · exact h
        · exact h3 x hx
    · rw [if_neg hb]
      obtain ⟨ls, r, h1, h2, h3, h4⟩ := splitGo_form c t (cur ++ [b]) (by simp; exact ⟨h, fun e => hb e.symm⟩)
      exact ⟨ls, r, h1, by rw [← h2]; simp, h3, h4⟩
theorem lines_form {t : By} (h : t = [] ∨ t.getLast? = some 10) : (∀ x ∈ linesT t, (10 : UInt8) ∉ x) ∧ t = (linesT t).flatMap (· ++ [10]) := by
  obtain ⟨ls, r, h1, h2, h3, h4⟩ := splitGo_form 10 t [] (by simp)
  have hr : r = [] := by
    rcases h with rfl | h
    · have := congrArg List.length h2
      rw [List.length_append, List.length_append] at this
      exact List.eq_nil_of_length_eq_zero (by simp at this; omega)
    · rw [List.nil_append] at h2
      cases hrr : r.getLast? with
      | none => exact List.getLast?_eq_none_iff.1 hrr
      | some b =>
        have : t.getLast? = some b := by rw [h2, List.getLast?_append, hrr]; rfl
        rw [h] at this
        cases this
        exact absurd (List.mem_of_getLast? hrr) h4
  subst hr
  have e : linesT t = ls := by unfold linesT splitC; rw [h1, List.dropLast_concat]
  rw [e]
  exact ⟨h3, by simpa using h2⟩
theorem lines_strip {t : By} (h : t = [] ∨ t.getLast? = some 10) : (linesL t).map stripT = linesT t := by
  obtain ⟨h1, h2⟩ := lines_form h
  conv => lhs; rw [h2]
  rw [linesL_lines _ h1, List.map_map]
  conv => rhs; rw [← List.map_id (linesT t)]
  refine List.map_congr_left fun x _ => ?_
  exact trim_line x
end Go.Proofs.YtpcjkfppacnkgaaGreatDoor
end
section
/- strings.Builder's WriteString at a builder of the call's own: which blocks it turns. No condition. -/
set_option maxHeartbeats 2000000
set_option maxRecDepth 100000
namespace Go.Proofs.YtpcjkfppacnkgaaGreatDoor
open Go Go.RowKit

/-- Where the row lies that an append of a string hands back: where it lay, or in a new block. -/
theorem append_where {P : Program} {w w' : World} {base : Nat} {t u ty e : TypeId} {i : TypeInfo} (ht : P.underlying t = some (.slice e)) (hu : P.underlying u = some .string) (hi : P.info? e = some i) (hz : i.zero = some (.int .u8 0)) (hs1 : i.size = 1) (hby : i.bytes = 1)
    {v v' : Value} {n : Nat} {xs : List Value} (hown : w.ownsRow base e 1 v n xs) {s : ByteArray} (hb : n + s.size ≤ 140737488355328) (hr : (Builtin.append_ #[t, u] ty #[v, .string s]).run P w = .ok v' w')
    (hnil : v' = .slice none 0 0 ↔ v = .slice none 0 0 ∧ s.size = 0) : v'.ownBlock = v.ownBlock ∨ ∀ k, v'.ownBlock = some k → w.heap.size ≤ k := by
  have hxl : xs.length = n := by simpa using hown.1
  rcases hown.2 with ⟨rfl, rfl⟩ | ⟨g, cap, cur, rfl, _, hg, _, _, hcs, _⟩
  · by_cases hm : s.size = 0
    · rw [hnil.2 ⟨rfl, hm⟩]; exact .inl rfl
    · have h := run_append_nil_string (P := P) w t u ty e i (.int .u8 0) ht hu hi hz s (by omega) (by omega) (by rw [hby]; omega)
      rw [h] at hr
      cases hr
      exact .inr fun k hk => by cases hk; exact Nat.le_refl _
  · by_cases hroom : n + s.size ≤ cap
    · have hc : cur.size = cap := by simpa using hcs
      have h := Lib.run_append_room_string (P := P) w t u ty e i ht hu hi hs1 g n cap cur hg s hroom (by omega)
      rw [h] at hr
      cases hr
      exact .inl rfl
    · have holds : ∀ j u, xs[j]? = some u → w.cell? ((⟨g, 0, none⟩ : Addr).add j) = some u := hown.cells (g := g) rfl
      have h := Lib.run_append_grow_string (P := P) w t u ty e i (.int .u8 0) ht hu hi hz ⟨g, 0, none⟩ n cap xs (by rw [hs1]; simpa using hxl) holds s (by omega) (by omega) (by rw [hby]; exact growslice_fits (by omega) (by omega))
      rw [h] at hr
      cases hr
      exact .inr fun k hk => by cases hk; exact Nat.le_refl _
theorem wpList_append_where {P : Program} {w : World} {ops : Array Oper} {rest : List Oper} {o : Oper} {a : Act} {Q : Exit → Act → World → Prop} (hgd : o.guard = none) (sl x : Operand) (t u : TypeId)
    (ho : o.op = .call { callee := .builtin .append, args := #[sl, x], argTypes := #[t, u] })
    (base : Nat) (e : TypeId) (i : TypeInfo) (ht : P.underlying t = some (.slice e)) (hu : P.underlying u = some .string) (hi : P.info? e = some i) (hz : i.zero = some (.int .u8 0))
    (hsize : i.size = 1) (hby : i.bytes = 1)
    (v : Value) (n : Nat) (xs : List Value) (hs : a.eval sl = v) (hown : w.ownsRow base e 1 v n xs) (s : ByteArray) (hx : a.eval x = .string s)
    (h63 : n + s.size ≤ maxLen) (hbytes : n + s.size ≤ 140737488355328) (hbase : base ≤ w.heap.size)
    (h : ∀ v' w', w'.ownsRow base e 1 v' (n + s.size) (xs ++ Lib.strCells s) → w.grownBy w' v.ownBlock → (v'.ownBlock = v.ownBlock ∨ ∀ k, v'.ownBlock = some k → w.heap.size ≤ k) → wpList P ops Q rest (a.put o.dst v') w') : wpList P ops Q (o :: rest) a w := by
  refine wpList_plain hgd fun K hK => ?_
  obtain ⟨v', w', hr, h2, h3, h4⟩ := Lib.run_append_own_string (P := P) w base t u o.type e i ht hu hi hz hsize hby v n xs hown s h63 hbytes hbase
  have h5 := append_where ht hu hi hz hsize hby hown hbytes hr h4
  unfold Oper.wp execOp
  simp only [ho, resolve, invoke, builtin, Sem.run_bind, Sem.run_pure, Result.andThen_ok, List.map_toArray, List.map_cons, List.map_nil, hs, hx, hr]
  exact hK _ _ (h v' w' h2 h3 h5)
theorem copyCheckO (B b : Nat) (bs : List Value) (w : World) (h : Lib.IsBuilder 65 5 B b bs w) :
    Calls Tryz.prog 71 #[.pointer (some ⟨b, 0, none⟩)] w fun e w' => e = .returned (.tuple #[]) ∧ Lib.BuilderAt 65 5 B b (.pointer (some ⟨b, 0, none⟩)) bs w' ∧ (w' = w ∨ w' = w.setCell ⟨b, 0, none⟩ (.pointer (some ⟨b, 0, none⟩))) := by
  obtain ⟨j, hj, hjs⟩ := Option.map_eq_some_iff.1 bld_size
  rcases h with h | h
  · have h0 := h.cell0
    have hsh := h.shape
    have hfz := h.frozen0
    go_enter Tryz.func71, Tryz.ntmps71
    go_wp2
    rw [Lib.run_to_unsafe w ⟨b, 0, none⟩ Tryz.underlying62 Tryz.underlying147 hj (by rw [hjs]; decide) hsh (Nat.zero_lt_succ 1)]
    simp only [Result.andThen]
    rw [Oper.upon_value]
    go_wp2
    rw [run_callFunc_extern Tryz.func107 (by kernel_rfl) (by kernel_rfl) (by kernel_rfl) (e := Extern.AbiNoEscape.same) (by kernel_rfl)]
    rw [Lib.run_noEscape]
    simp only [Result.andThen]
    rw [Oper.upon_value]
    go_wp2
    rw [Lib.run_from_unsafe w ⟨b, 0, none⟩ Tryz.underlying147 Tryz.underlying62 hj hsh bld_lies]
    simp only [Result.andThen]
    rw [Oper.upon_value]
    go_wp2
    go_end0
    exact ⟨rfl, h.used _, .inr rfl⟩
  · have h0 := h.cell0
    go_enter Tryz.func71, Tryz.ntmps71
    go_wp2
    rw [Lib.run_neq_ptr_same w _ Tryz.underlying62 hj]
    go_wp2
    go_end0
    exact ⟨rfl, h, .inl rfl⟩
/-- The blocks that writing turns: the builder's own, and its row's. -/
def MB (b : Nat) (v : Value) (k : Nat) : Prop := k = b ∨ v.ownBlock = some k
theorem writeO (B b : Nat) (l x : List UInt8) (v : Value) (w : World) (h : Bd w B b l) (hv : w.cell? ⟨b, 1, none⟩ = some v) (hlen : l.length + x.length ≤ 140737488355328) (hBw : B ≤ w.heap.size) :
    Calls Tryz.prog 29 #[.pointer (some ⟨b, 0, none⟩), .string ⟨x.toArray⟩] w fun e w' => e = .returned (.tuple #[.int .i64 x.length, .nilIface]) ∧ Bd w' B b (l ++ x) ∧ (∃ v', w'.cell? ⟨b, 1, none⟩ = some v' ∧ (v'.ownBlock = v.ownBlock ∨ ∀ k, v'.ownBlock = some k → w.heap.size ≤ k)) ∧ Chg (MB b v) w w' := by
  have hsz : (⟨x.toArray⟩ : ByteArray).size = x.length := by simp [ByteArray.size]
  have hbl : (Lib.byteCells l).length = l.length := by simp [Lib.byteCells]
  obtain ⟨i0, hi, hz0, hz1, hz2⟩ := info_parts bld_byte
  have HS : Hid ((⟨x.toArray⟩ : ByteArray).size = x.length) := hsz
  obtain ⟨s, hs⟩ : ∃ s : ByteArray, (⟨x.toArray⟩ : ByteArray) = s := ⟨_, rfl⟩
  have HX := Lib.hid hs
  have hN : s.size = x.length := by rw [← hs]; exact hsz
  rw [hs]
  clear hs hsz
  go_enter Tryz.func29, Tryz.ntmps29
  go_wp2_with (go_at_call 71; refine (copyCheckO B b (Lib.byteCells l) _ h).mono ?_)
  rintro e w1 ⟨rfl, h1, hw1⟩
  have hcg : Chg (MB b v) w w1 := by
    rcases hw1 with rfl | rfl
    · exact Chg.refl _ _
    · exact (Chg.refl _ _).setCell (.inl (.inl rfl)) _
  have hz9 : w1.heap.size = w.heap.size := by
    rcases hw1 with rfl | rfl
    · rfl
    · simp
  have hv1 : w1.cell? ⟨b, 1, none⟩ = some v := by
    rcases hw1 with rfl | rfl
    · exact hv
    · exact (World.cell?_setCell_other _ _ _ _ (by simp)).trans hv
  obtain ⟨hB, v1, hbk, hown, hne⟩ := h1
  have c0 : w1.cell? ⟨b, 0, none⟩ = some (.pointer (some ⟨b, 0, none⟩)) := by rw [Lib.cell_of_heap hbk]; rfl
  have c1 : w1.cell? ⟨b, 1, none⟩ = some v1 := by rw [Lib.cell_of_heap hbk]; rfl
  obtain rfl : v1 = v := by rw [hv1] at c1; exact (Option.some.inj c1).symm
  rw [hbl] at hown
  have hlt : b < w1.heap.size := lt_of_cell c0
  have HW1 := Lib.hid hw1
  clear hv1 hw1
  go_wp2_with (at_builtin; refine wpList_append_where rfl _ _ 63 9 rfl B 5 i0 Tryz.underlying63 Tryz.underlying9 hi hz0 hz1 hz2 _ _ _ rfl hown s rfl ?c3 ?c4 ?c5 ?_)
  case c3 => unfold maxLen; omega
  case c4 => omega
  case c5 => omega
  intro v' w2 hown' hgrow hwh
  have hb2 : w2.heap[b]? = some (.cells #[.pointer (some ⟨b, 0, none⟩), v1] 65 (0, 0)) := by
    rw [hgrow.block b hlt (fun e => hne e.symm)]
    exact hbk
  have d0 : w2.cell? ⟨b, 0, none⟩ = some (.pointer (some ⟨b, 0, none⟩)) := by rw [Lib.cell_of_heap hb2]; rfl
  have d1 : w2.cell? ⟨b, 1, none⟩ = some v1 := by rw [Lib.cell_of_heap hb2]; rfl
  have f1 : w2.frozen? ⟨b, 1, none⟩ = false := Lib.frozen_of_heap hb2 1
  obtain ⟨ao, n', cap, rfl⟩ : ∃ ao n' cap, v' = .slice ao n' cap := by
    rcases hown'.2 with ⟨hv, _⟩ | ⟨g, cap, cur, hv, _⟩
    · exact ⟨_, _, _, hv⟩
    · exact ⟨_, _, _, hv⟩
  go_wp2
  go_ret2
  refine ⟨rfl, .inr ?_, ⟨_, World.cell?_setCell_same _ _ _ d1, ?_⟩, (hcg.grown hgrow (fun k hk => .inl (.inr hk))).setCell (.inl (.inl rfl)) _⟩
  · have hput := Lib.BuilderAt.put (T := 65) (e := 5) hB hb2 (bs' := Lib.byteCells l ++ Lib.strCells s) (by rw [List.length_append, Lib.strCells_length, hbl, hN]; exact hown') (by decide)
    rw [← HX.out, strCells_by] at hput
    simpa [Lib.byteCells] using hput
  · rcases hwh with h | h
    · exact .inl h
    · exact .inr fun k hk => by have := h k hk; omega
end Go.Proofs.YtpcjkfppacnkgaaGreatDoor
end
