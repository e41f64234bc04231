/- Merged texts: contracts and plain facts, one part behind another; each part begins with what it says. -/
import Derived.Test.YtpcjkfppacnkgaaGreatDoorGJAA
import Derived.Test.YtpcjkfppacnkgaaGreatDoorProg
import Derived.WalkKit
section
/- Expressions as trees: plain facts. No program in sight; no condition. -/
namespace Go.Proofs.YtpcjkfppacnkgaaGreatDoor

/-- How many parts a node of a kind has. -/
def sizeN (k : Int) : Nat := if k ≤ 1 then 0 else if k = 7 then 3 else 2

inductive ETree where
  | leaf (x : GNode)
  | two (x : GNode) (a b : ETree)
  | three (x : GNode) (a b c : ETree)

/-- A tree's nodes, each ahead of its parts. -/
def ETree.flat : ETree → List GNode
  | .leaf x => [x]
  | .two x a b => x :: (a.flat ++ b.flat)
  | .three x a b c => x :: (a.flat ++ (b.flat ++ c.flat))

/-- Each node has as many parts as its kind says. -/
def ETree.fits : ETree → Prop
  | .leaf x => sizeN x.kind = 0
  | .two x a b => sizeN x.kind = 2 ∧ a.fits ∧ b.fits
  | .three x a b c => sizeN x.kind = 3 ∧ a.fits ∧ b.fits ∧ c.fits

theorem ETree.flat_pos : ∀ t : ETree, 0 < t.flat.length
  | .leaf _ => by simp [ETree.flat]
  | .two _ _ _ => by simp [ETree.flat]
  | .three _ _ _ _ => by simp [ETree.flat]

/-- One list begins with one expression at most. -/
theorem ETree.flat_inj : ∀ (t t' : ETree) (r r' : List GNode), t.fits → t'.fits → t.flat ++ r = t'.flat ++ r' → t = t' ∧ r = r'
  | .leaf x, .leaf y, r, r', _, _, h => by
    simp [ETree.flat] at h
    exact ⟨by rw [h.1], h.2⟩
  | .leaf x, .two y a b, r, r', h1, h2, h => by
    simp [ETree.flat] at h
    simp [ETree.fits] at h1 h2
    rw [h.1] at h1; omega
  | .leaf x, .three y a b c, r, r', h1, h2, h => by
    simp [ETree.flat] at h
    simp [ETree.fits] at h1 h2
    rw [h.1] at h1; omega
  | .two x a b, .leaf y, r, r', h1, h2, h => by
    simp [ETree.flat] at h
    simp [ETree.fits] at h1 h2
    rw [h.1] at h1; omega
  | .two x a b, .two y a' b', r, r', h1, h2, h => by
    simp [ETree.flat] at h
    simp [ETree.fits] at h1 h2
    obtain ⟨rfl, e1⟩ := ETree.flat_inj a a' _ _ h1.2.1 h2.2.1 h.2
    obtain ⟨rfl, e2⟩ := ETree.flat_inj b b' _ _ h1.2.2 h2.2.2 e1
    exact ⟨by rw [h.1], e2⟩
  | .two x a b, .three y a' b' c', r, r', h1, h2, h => by
    simp [ETree.flat] at h
    simp [ETree.fits] at h1 h2
    rw [h.1] at h1; omega
  | .three x a b c, .leaf y, r, r', h1, h2, h => by
    simp [ETree.flat] at h
    simp [ETree.fits] at h1 h2
    rw [h.1] at h1; omega
  | .three x a b c, .two y a' b', r, r', h1, h2, h => by
    simp [ETree.flat] at h
    simp [ETree.fits] at h1 h2
    rw [h.1] at h1; omega
  | .three x a b c, .three y a' b' c', r, r', h1, h2, h => by
    simp [ETree.flat] at h
    simp [ETree.fits] at h1 h2
    obtain ⟨rfl, e1⟩ := ETree.flat_inj a a' _ _ h1.2.1 h2.2.1 h.2
    obtain ⟨rfl, e2⟩ := ETree.flat_inj b b' _ _ h1.2.2.1 h2.2.2.1 e1
    obtain ⟨rfl, e3⟩ := ETree.flat_inj c c' _ _ h1.2.2.2 h2.2.2.2 e2
    exact ⟨by rw [h.1], e3⟩

/-- A list of so many expressions, one behind the other. -/
def flatAll : List ETree → List GNode
  | [] => []
  | t :: ts => t.flat ++ flatAll ts
def fitsAll : List ETree → Prop
  | [] => True
  | t :: ts => t.fits ∧ fitsAll ts

/-- The count of expressions that are still open: true, if it is 0 just at the end. -/
def openOk : Nat → List GNode → Bool
  | c, [] => c == 0
  | 0, _ :: _ => false
  | c + 1, x :: l => openOk (c + sizeN x.kind) l

theorem sizeN_cases (k : Int) : sizeN k = 0 ∨ sizeN k = 2 ∨ sizeN k = 3 := by unfold sizeN; (repeat' split) <;> omega

theorem openOk_of : ∀ (l : List GNode) (c : Nat), openOk c l = true → ∃ ts, ts.length = c ∧ fitsAll ts ∧ l = flatAll ts
  | [], c, h => by
    simp [openOk] at h
    exact ⟨[], by simp [h], trivial, rfl⟩
  | x :: l, 0, h => by simp [openOk] at h
  | x :: l, c + 1, h => by
    obtain ⟨ts, hl, hf, rfl⟩ := openOk_of l _ (by simpa [openOk] using h)
    rcases sizeN_cases x.kind with hs | hs | hs <;> rw [hs] at hl
    · exact ⟨.leaf x :: ts, by simp [hl], ⟨hs, hf⟩, by simp [flatAll, ETree.flat]⟩
    · match ts, hl, hf with
      | a :: b :: ts, hl, hf => exact ⟨.two x a b :: ts, by simp at hl ⊢; omega, ⟨⟨hs, hf.1, hf.2.1⟩, hf.2.2⟩, by simp [flatAll, ETree.flat]⟩
      | [_], hl, _ => simp at hl
      | [], hl, _ => simp at hl
    · match ts, hl, hf with
      | a :: b :: d :: ts, hl, hf => exact ⟨.three x a b d :: ts, by simp at hl ⊢; omega, ⟨⟨hs, hf.1, hf.2.1, hf.2.2.1⟩, hf.2.2.2⟩, by simp [flatAll, ETree.flat]⟩
      | [_, _], hl, _ => simp at hl
      | [_], hl, _ => simp at hl
      | [], hl, _ => simp at hl

theorem openOk_flat : ∀ (t : ETree) (c : Nat) (r : List GNode), t.fits → openOk (c + 1) (t.flat ++ r) = openOk c r
  | .leaf x, c, r, h => by simp [ETree.flat, openOk, show sizeN x.kind = 0 from h]
  | .two x a b, c, r, h => by
    simp only [ETree.flat, List.cons_append, openOk, h.1, List.append_assoc]
    rw [openOk_flat a _ _ h.2.1, openOk_flat b _ _ h.2.2]
  | .three x a b d, c, r, h => by
    simp only [ETree.flat, List.cons_append, openOk, h.1, List.append_assoc]
    rw [openOk_flat a _ _ h.2.1, openOk_flat b _ _ h.2.2.1, openOk_flat d _ _ h.2.2.2]

/-- Just one expression. -/
theorem openOk_one (l : List GNode) : openOk 1 l = true ↔ ∃ t : ETree, t.fits ∧ l = t.flat := by
  constructor
  · intro h
    obtain ⟨ts, hl, hf, rfl⟩ := openOk_of l 1 h
    match ts, hl, hf with
    | [t], _, hf => exact ⟨t, hf.1, by simp [flatAll]⟩
  · rintro ⟨t, ht, rfl⟩
    have := openOk_flat t 0 [] ht
    rw [List.append_nil] at this
    rw [this]
    rfl

/-- What is behind so many expressions; none: they are not there. -/
def skipC : Nat → List GNode → Option (List GNode)
  | 0, l => some l
  | _ + 1, [] => none
  | c + 1, x :: l => skipC (c + sizeN x.kind) l

theorem skipC_add : ∀ (l : List GNode) (a b : Nat), skipC (a + b) l = (skipC a l).bind (skipC b)
  | l, 0, b => by cases l <;> simp [skipC]
  | [], a + 1, b => by rw [show a + 1 + b = (a + b) + 1 by omega]; rfl
  | x :: l, a + 1, b => by
    rw [show a + 1 + b = (a + b) + 1 by omega]
    show skipC (a + b + sizeN x.kind) l = (skipC (a + sizeN x.kind) l).bind (skipC b)
    rw [show a + b + sizeN x.kind = (a + sizeN x.kind) + b by omega]
    exact skipC_add l _ b

theorem skipC_openOk : ∀ (l : List GNode) (c : Nat), openOk c l = true ↔ skipC c l = some []
  | [], 0 => by simp [openOk, skipC]
  | [], c + 1 => by simp [openOk, skipC]
  | x :: l, 0 => by simp [openOk, skipC]
  | x :: l, c + 1 => skipC_openOk l _

theorem skipC_len : ∀ (l : List GNode) (c : Nat) (r : List GNode), skipC c l = some r → r = l.drop (l.length - r.length) ∧ r.length + c ≤ l.length
  | l, 0, r, h => by
    have : l = r := by cases l <;> simpa [skipC] using h
    subst this
    simp
  | [], c + 1, r, h => by simp [skipC] at h
  | x :: l, c + 1, r, h => by
    obtain ⟨h1, h2⟩ := skipC_len l _ r h
    have h3 : r.length + (c + 1) ≤ (x :: l).length := by simp; omega
    refine ⟨?_, h3⟩
    rw [show (x :: l).length - r.length = (l.length - r.length) + 1 by simp; omega]
    exact h1

/-- Where the expression ends that begins at k; -1: there is none. -/
def skipPos (e : List GNode) (k : Int) : Int :=
  if k < 0 then -1 else match skipC 1 (e.drop k.toNat) with | some r => (e.length : Int) - r.length | none => -1
def skipIter (e : List GNode) : Nat → Int → Int
  | 0, k => k
  | i + 1, k => skipPos e (skipIter e i k)

theorem skipIter_some (e : List GNode) : ∀ (m k : Nat), k ≤ e.length → skipIter e m k = match skipC m (e.drop k) with | some r => (e.length : Int) - r.length | none => -1
  | 0, k, h => by
    have : skipC 0 (e.drop k) = some (e.drop k) := by cases e.drop k <;> rfl
    rw [this]
    simp [skipIter]
    omega
  | m + 1, k, h => by
    rw [skipC_add, show skipIter e (m + 1) k = skipPos e (skipIter e m k) from rfl, skipIter_some e m k h]
    cases hr : skipC m (e.drop k) with
    | none => simp [skipPos]
    | some r =>
      obtain ⟨h1, h2⟩ := skipC_len _ _ _ hr
      have hl : r.length ≤ e.length := by simp at h2; omega
      have e1 : ((e.length : Int) - r.length).toNat = e.length - r.length := by omega
      simp only [Option.bind_some, skipPos, if_neg (show ¬ (e.length : Int) - r.length < 0 by omega), e1]
      have e2 : e.drop (e.length - r.length) = r := by
        conv => rhs; rw [h1]
        rw [List.drop_drop]
        congr 1
        simp at h2 ⊢
        omega
      rw [e2]

theorem skipPos_step (e : List GNode) (k : Nat) (h : k < e.length) : skipPos e k = skipIter e (sizeN e[k].kind) (k + 1 : Nat) := by
  rw [skipIter_some e _ _ (by omega), skipPos, if_neg (by omega)]
  rw [show (k : Int).toNat = k by omega, List.drop_eq_getElem_cons h]
  show (match skipC (0 + sizeN e[k].kind) (e.drop (k + 1)) with | some r => (e.length : Int) - r.length | none => -1) = _
  rw [Nat.zero_add]

theorem skipPos_zero (e : List GNode) : skipPos e 0 = e.length ↔ openOk 1 e = true := by
  rw [skipC_openOk, skipPos, if_neg (by omega)]
  simp only [Int.toNat_zero, List.drop_zero]
  cases hr : skipC 1 e with
  | none => simp
  | some r => simp; constructor
              · intro h; exact List.eq_nil_of_length_eq_zero (by omega)
              · rintro rfl; simp

def mostN (locals k : Int) : Int := if k = 0 then 999 else if k = 1 then locals - 1 else 0

/-- The error of an expression. -/
def exprErr (e : List GNode) (locals : Int) : Int :=
  if ¬ (0 ≤ locals ∧ locals ≤ 4) then 3
  else if 9 < e.length then 2
  else if ¬ (∀ x ∈ e, 0 ≤ x.kind ∧ x.kind ≤ 7) then 4
  else if ¬ (∀ x ∈ e, 0 ≤ x.n ∧ x.n ≤ mostN locals x.kind) then 3
  else if openOk 1 e = false then 1
  else 0

end Go.Proofs.YtpcjkfppacnkgaaGreatDoor
end
section
/- Contracts of package expr: Size, Skip, truth. -/
set_option maxHeartbeats 1000000
set_option maxRecDepth 100000
namespace Go.Proofs.YtpcjkfppacnkgaaGreatDoor
open Go Go.RowKit

theorem exprSize_any (k : Int) (w : World) : Calls Tryz.prog 135 #[.int .i64 k] w fun e w' => e = .returned (.int .i64 (sizeN k)) ∧ w = w' := by
  by_cases h1 : k ≤ 1
  · go_enter Tryz.func135, Tryz.ntmps135
    go_wp2
    go_ret
    exact ⟨ret_int (by simp [sizeN, h1]), rfl⟩
  · have h1' : 1 < k := by omega
    by_cases h7 : k = 7
    · have T7 : (k == 7) = true := by simp [h7]
      have H7 := Lib.hid h7
      clear h7 h1
      go_enter Tryz.func135, Tryz.ntmps135
      go_wp2
      go_ret
      exact ⟨ret_int (by simp [sizeN, H7.out]), rfl⟩
    · have T7 : (k == 7) = false := by simp [h7]
      have H7 := Lib.hid h7
      clear h7 h1
      go_enter Tryz.func135, Tryz.ntmps135
      go_wp2
      go_ret
      exact ⟨ret_int (by simp only [sizeN]; rw [if_neg (by omega), if_neg H7.out]; rfl), rfl⟩

theorem skipIter_bd (e : List GNode) (k : Nat) (h : k ≤ e.length) (i : Nat) : skipIter e i k = -1 ∨ ((k : Int) ≤ skipIter e i k ∧ skipIter e i k ≤ e.length) := by
  rw [skipIter_some e i k h]
  cases hr : skipC i (e.drop k) with
  | none => exact .inl rfl
  | some r =>
    obtain ⟨_, h2⟩ := skipC_len _ _ _ hr
    simp at h2 ⊢
    right; omega

theorem skip_any (e : List GNode) (v : Value) (S : Nat → Prop) (w : World) (hp : Nodes w S v e) (_hl : e.length ≤ 9) : ∀ (n : Nat) (k : Int), -1 ≤ k → k ≤ e.length → (k < 0 ∨ e.length ≤ k.toNat + n) →
    Calls Tryz.prog 100 #[v, .int .i64 k] w fun e' w' => e' = .returned (.int .i64 (skipPos e k)) ∧ w = w' := by
  intro n
  induction n with
  | zero =>
    intro k h0 h1 h2
    have HS : Hid (skipPos e k = -1) := by
      unfold Hid skipPos
      by_cases hk : k < 0
      · rw [if_pos hk]
      · rw [if_neg hk, List.drop_eq_nil_of_le (by omega)]; rfl
    obtain ⟨a, cap, rfl, hcap, hby, _⟩ := hp
    rw [HS.out]
    by_cases hk : k < 0
    · go_enter Tryz.func100, Tryz.ntmps100
      go_wp2
      go_ret
      exact ⟨rfl, rfl⟩
    · have hk' : (e.length : Int) ≤ k := by omega
      go_enter Tryz.func100, Tryz.ntmps100
      go_wp2
      go_ret
      exact ⟨rfl, rfl⟩
  | succ n ih =>
    intro k h0 h1 h2
    have IH := Lib.hid ih
    clear ih
    by_cases hk : 0 ≤ k ∧ k < e.length
    · obtain ⟨m, rfl⟩ := Int.eq_ofNat_of_zero_le hk.1
      have hm : m < e.length := by omega
      have HS : Hid (skipPos e m = skipIter e (sizeN e[m].kind) ((m : Int) + 1)) := skipPos_step e m hm
      obtain ⟨b, o, cap, rfl, hcap, hby, ⟨_, g0, _⟩, _⟩ := hp.get hm
      have HBD : Hid (∀ i, skipIter e i ((m : Int) + 1) = -1 ∨ ((m : Int) + 1 ≤ skipIter e i ((m : Int) + 1) ∧ skipIter e i ((m : Int) + 1) ≤ e.length)) := fun i => by
        have := skipIter_bd e (m + 1) (by omega) i
        simpa using this
      have hsz := sizeN_cases e[m].kind
      have hs3 : sizeN e[m].kind ≤ 3 := by omega
      clear hk h0 h1 hsz
      go_enter Tryz.func100, Tryz.ntmps100
      go_wp2_with (first
        | (go_at_call 135; (with_reducible refine (exprSize_any _ _).mono ?_); rintro e w1 ⟨rfl, rfl⟩))
      go_loop [5, 22] (fun q i => ∃ j : Nat, j ≤ sizeN e[m].kind ∧ i = .int .i64 j ∧ q = .int .i64 (skipIter e j ((m : Int) + 1))) (fun _ i => sizeN e[m].kind - (intOf i).toNat)
      case atStart => exact ⟨0, Nat.zero_le _, rfl, rfl⟩
      case round =>
        obtain ⟨j, hj, rfl, rfl⟩ := hrel
        by_cases hlt : j < sizeN e[m].kind
        · have HC := Lib.hid (IH.out (skipIter e j ((m : Int) + 1)) (by have := HBD.out j; omega) (by have := HBD.out j; omega) (by have := HBD.out j; omega))
          go_wp2_with (first
            | (go_at_call 100; (with_reducible refine HC.out.mono ?_); rintro e w1 ⟨rfl, rfl⟩))
          go_round
          case rel => exact ⟨j + 1, by omega, by go_num, rfl⟩
          case measure => simp [intOf]; omega
        · have hj' : j = sizeN e[m].kind := by omega
          subst hj'
          go_wp2
          go_ret
          exact ⟨ret_int HS.out.symm, rfl⟩
    · refine ?_
      have HS : Hid (skipPos e k = -1) := by
        unfold Hid skipPos
        by_cases hk : k < 0
        · rw [if_pos hk]
        · rw [if_neg hk, List.drop_eq_nil_of_le (by omega)]; rfl
      obtain ⟨a, cap, rfl, hcap, hby, _⟩ := hp
      rw [HS.out]
      by_cases hk0 : k < 0
      · go_enter Tryz.func100, Tryz.ntmps100
        go_wp2
        go_ret
        exact ⟨rfl, rfl⟩
      · have hk' : (e.length : Int) ≤ k := by omega
        clear hk
        go_enter Tryz.func100, Tryz.ntmps100
        go_wp2
        go_ret
        exact ⟨rfl, rfl⟩
end Go.Proofs.YtpcjkfppacnkgaaGreatDoor
end
section
/- A small map of ints that a call makes: how its making, its two stores and a lookup run. No condition. -/
set_option maxHeartbeats 400000
set_option maxRecDepth 100000
namespace Go.Proofs.YtpcjkfppacnkgaaGreatDoor
open Go Go.RowKit

theorem run_getObj_map {P : Program} (w : World) (es : Array MapEntry) (c : Nat) : (getObj w.heap.size).run P (w.alloc (.map es c)) = .ok (.map es c) (w.alloc (.map es c)) := by
  have h := heap_alloc_new w (.map es c)
  simp only [getObj, Sem.run, h]

theorem set_push {α : Type} (l : Array α) (a b : α) : (l.push a).setIfInBounds l.size b = l.push b := by
  apply Array.ext'
  simp

theorem run_setObj_map {P : Program} (w : World) (es es' : Array MapEntry) (c c' : Nat) : (setObj w.heap.size (.map es' c')).run P (w.alloc (.map es c)) = .ok () (w.alloc (.map es' c')) := by
  have h := heap_alloc_new w (.map es c)
  simp only [setObj, Sem.run, h]
  congr 1
  show ({ w with heap := (w.heap.push (.map es c)).setIfInBounds w.heap.size (.map es' c') } : World) = { w with heap := w.heap.push (.map es' c') }
  rw [set_push]

section
variable {P : Program} {T K E : TypeId} (hT : P.underlying T = some (.map K E)) (hK : P.underlying K = some (.int .i64)) (w : World)

include hK in
theorem run_checkKey_int (b : Bool) (k : Int) : (Instr.checkKey b 10000 K (.int .i64 k)).run P w = .ok () w := by
  rw [show (10000 : Nat) = 9999 + 1 from rfl]
  unfold Instr.checkKey
  simp only [Sem.run_bind, run_underlying hK, Result.andThen_ok]
  rfl

include hK in
theorem run_findKey_int (k : Int) (es : List MapEntry) (r : Option (Nat × Value)) (h : Instr.findNow (.int .i64) (.int .i64 k) es 0 = some r) : (Instr.findKey K (.int .i64 k) es).run P w = .ok r w := by
  unfold Instr.findKey
  simp only [Sem.run_bind, run_underlying hK, Result.andThen_ok, h]
  rfl

include hT hK

theorem run_upd0 (x : Value) : (Instr.mapUpdate T (.map (some w.heap.size)) (.int .i64 0) x).run P (w.alloc (.map #[] 0)) = .ok () (w.alloc (.map #[⟨.int .i64 0, x, 0⟩] 1)) := by
  unfold Instr.mapUpdate
  simp only [Sem.run_bind, run_underlying hT, run_getObj_map, Result.andThen_ok, run_checkKey_int hK, run_findKey_int hK _ 0 [] none rfl, run_setObj_map]
  rfl

theorem run_upd1 (x y : Value) : (Instr.mapUpdate T (.map (some w.heap.size)) (.int .i64 1) y).run P (w.alloc (.map #[⟨.int .i64 0, x, 0⟩] 1)) = .ok () (w.alloc (.map #[⟨.int .i64 0, x, 0⟩, ⟨.int .i64 1, y, 1⟩] 2)) := by
  unfold Instr.mapUpdate
  simp only [Sem.run_bind, run_underlying hT, run_getObj_map, Result.andThen_ok, run_checkKey_int hK, run_findKey_int hK _ 1 [⟨.int .i64 0, x, 0⟩] none rfl, run_setObj_map]
  rfl

theorem run_look2 (hz : ∀ w : World, (zeroValue E).run P w = .ok (.int .i64 0) w) (x y k : Int) : (Instr.lookup T (.map (some w.heap.size)) (.int .i64 k) false).run P (w.alloc (.map #[⟨.int .i64 0, .int .i64 x, 0⟩, ⟨.int .i64 1, .int .i64 y, 1⟩] 2)) =
    .ok (.int .i64 (if k = 0 then x else if k = 1 then y else 0)) (w.alloc (.map #[⟨.int .i64 0, .int .i64 x, 0⟩, ⟨.int .i64 1, .int .i64 y, 1⟩] 2)) := by
  unfold Instr.lookup
  have e : Instr.findNow (.int .i64) (.int .i64 k) [⟨.int .i64 0, .int .i64 x, 0⟩, ⟨.int .i64 1, .int .i64 y, 1⟩] 0 = some (if k = 0 then some (0, .int .i64 x) else if k = 1 then some (1, .int .i64 y) else none) := by
    by_cases h0 : k = 0
    · subst h0; rfl
    · have e0 : (k == 0) = false := by simp [h0]
      by_cases h1 : k = 1
      · subst h1; rfl
      · have e1 : (k == 1) = false := by simp [h1]
        simp [Instr.findNow, Instr.sameNow, e0, e1, h0, h1]
  simp only [Sem.run_bind, Sem.run_pure, run_underlying hT, run_getObj_map, Result.andThen_ok, run_checkKey_int hK]
  rw [run_findKey_int hK _ k _ _ e]
  by_cases h0 : k = 0
  · simp only [h0, if_true, Sem.run_bind, Sem.run_pure, Result.andThen_ok]; rfl
  · by_cases h1 : k = 1
    · simp only [h1, if_true, Result.andThen_ok]; rfl
    · simp only [h0, h1, if_false, Sem.run_bind, Sem.run_pure, Result.andThen_ok, hz]; rfl

/-- All three at a made map's own number. -/
theorem run_map2 (hz : ∀ w : World, (zeroValue E).run P w = .ok (.int .i64 0) w) (n : Nat) (hn : n = w.heap.size) (x y k : Int) :
    (Instr.mapUpdate T (.map (some n)) (.int .i64 0) (.int .i64 x)).run P (w.alloc (.map #[] 0)) = .ok () (w.alloc (.map #[⟨.int .i64 0, .int .i64 x, 0⟩] 1)) ∧
    (Instr.mapUpdate T (.map (some n)) (.int .i64 1) (.int .i64 y)).run P (w.alloc (.map #[⟨.int .i64 0, .int .i64 x, 0⟩] 1)) = .ok () (w.alloc (.map #[⟨.int .i64 0, .int .i64 x, 0⟩, ⟨.int .i64 1, .int .i64 y, 1⟩] 2)) ∧
    (Instr.lookup T (.map (some n)) (.int .i64 k) false).run P (w.alloc (.map #[⟨.int .i64 0, .int .i64 x, 0⟩, ⟨.int .i64 1, .int .i64 y, 1⟩] 2)) =
      .ok (.int .i64 (if k = 0 then x else if k = 1 then y else 0)) (w.alloc (.map #[⟨.int .i64 0, .int .i64 x, 0⟩, ⟨.int .i64 1, .int .i64 y, 1⟩] 2)) := by
  subst hn
  exact ⟨run_upd0 hT hK w _, run_upd1 hT hK w _ _, run_look2 hT hK w hz x y k⟩
end
end Go.Proofs.YtpcjkfppacnkgaaGreatDoor
end
section
/- Contract of expr.Check. -/
set_option maxHeartbeats 1000000
set_option maxRecDepth 100000
namespace Go.Proofs.YtpcjkfppacnkgaaGreatDoor
open Go Go.RowKit

theorem exprCheck_any (e : List GNode) (v : Value) (S : Nat → Prop) (locals : Int) (w : World) (hp : Nodes w S v e) (_hI : I64 locals) :
    Calls Tryz.prog 56 #[v, .int .i64 locals] w fun e' w' => e' = .returned (.int .i64 (exprErr e locals)) ∧ Ext w w' := by
  have hp0 := hp
  obtain ⟨a, cap, rfl, hcap, hby, hel⟩ := hp
  have HX : Hid (exprErr e locals = exprErr e locals) := rfl
  unfold Hid at HX
  conv at HX => rhs; unfold exprErr
  by_cases hl : 0 ≤ locals ∧ locals ≤ 4
  · rw [if_neg (fun h => h hl)] at HX
    obtain ⟨hl0, hl1⟩ := hl
    by_cases h9 : 9 < e.length
    · rw [if_pos h9] at HX
      replace HX := Lib.hid HX
      go_enter Tryz.func56, Tryz.ntmps56
      go_wp2
      go_ret
      exact ⟨ret_int HX.out.symm, Ext.refl _⟩
    · rw [if_neg h9] at HX
      have h9' : e.length ≤ 9 := by omega
      replace HX := Lib.hid HX
      have RA := alloc_keep
      clear h9
      go_enter Tryz.func56, Tryz.ntmps56
      go_wp2_with fail
      go_loopw [21] (fun i wr => ∃ k : Nat, k ≤ e.length ∧ i = .int .i64 k ∧ Ext w wr ∧ ∀ j (h : j < e.length), j < k → 0 ≤ e[j].kind ∧ e[j].kind ≤ 7) (fun i _ => e.length - (intOf i).toNat)
      case atStart => exact ⟨0, Nat.zero_le _, rfl, Ext.refl _, fun j h h' => by omega⟩
      case round =>
        obtain ⟨k, hk, rfl, hbr, hall⟩ := hrel
        have HB := Lib.hid hbr
        have hcr := Ext.keep hbr
        have HA := Lib.hid hall
        clear hbr hall
        by_cases hlt : k < e.length
        · obtain ⟨b, o, rfl, ⟨_, g0, _⟩, _, g1, _⟩ := hel k hlt
          by_cases hk7 : 0 ≤ e[k].kind ∧ e[k].kind ≤ 7
          · have HK := Lib.hid hk7
            obtain ⟨hk0, hk1⟩ := hk7
            go_wp2
            go_roundw
            case rel => exact ⟨k + 1, by omega, by go_num, HB.out.alloc _, fun j h h' => by
              by_cases hj : j < k
              · exact HA.out j h hj
              · obtain rfl : j = k := by omega
                exact HK.out⟩
            case measure => simp [intOf]; omega
          · have HX4 : Hid (exprErr e locals = 4) := by
              have := HX.out
              rwa [if_pos (fun h => hk7 (h _ (List.getElem_mem hlt)))] at this
            by_cases hk0 : e[k].kind < 0
            · clear hk7
              go_wp2
              go_ret
              exact ⟨ret_int HX4.out.symm, HB.out.alloc _⟩
            · have hk1 : 7 < e[k].kind := by omega
              clear hk7
              go_wp2
              go_ret
              exact ⟨ret_int HX4.out.symm, HB.out.alloc _⟩
        · have HX2 : Hid (exprErr e locals = if ¬ (∀ x ∈ e, 0 ≤ x.n ∧ x.n ≤ mostN locals x.kind) then 3 else if openOk 1 e = false then 1 else 0) := by
            have := HX.out
            rwa [if_neg (fun h => h (fun x hx => by
              obtain ⟨j, hj, rfl⟩ := List.getElem_of_mem hx
              exact HA.out j hj (by omega)))] at this
          obtain rfl : k = e.length := by omega
          clear hlt hcr
          rename World => w1
          go_wp2_with fail
          go_loopw [36] (fun i wr => ∃ k : Nat, k ≤ e.length ∧ i = .int .i64 k ∧ Ext w wr ∧ ∀ j (h : j < e.length), j < k → 0 ≤ e[j].n ∧ e[j].n ≤ mostN locals e[j].kind) (fun i _ => e.length - (intOf i).toNat)
          case atStart => exact ⟨0, Nat.zero_le _, rfl, HB.out, fun j h h' => by omega⟩
          case round =>
            obtain ⟨k, hk, rfl, hbr, hall⟩ := hrel
            have HB2 := Lib.hid hbr
            have hcr := Ext.keep hbr
            have HA2 := Lib.hid hall
            clear hbr hall
            by_cases hlt : k < e.length
            · obtain ⟨b, o, rfl, ⟨_, g0, _⟩, _, g1, _⟩ := hel k hlt
              have hmm := @run_makeMap Tryz.prog
              obtain ⟨m0, m1, m2⟩ := run_map2 (P := Tryz.prog) (T := 141) (K := 3) (E := 3) (by kernel_rfl) (by kernel_rfl) (wr.alloc (.cells #[.int .i64 e[k].kind, .int .i64 e[k].n] 140)) (fun w => by kernel_rfl) (wr.heap.size + 1) (by simp) 999 (locals - 1) e[k].kind
              have hM : Hid ((if e[k].kind = 0 then 999 else if e[k].kind = 1 then locals - 1 else 0) = mostN locals e[k].kind) := rfl
              rw [hM.out] at m2
              by_cases hn : 0 ≤ e[k].n ∧ e[k].n ≤ mostN locals e[k].kind
              · have HN := Lib.hid hn
                obtain ⟨hn0, hn1⟩ := hn
                go_wp2
                go_roundw
                case rel => exact ⟨k + 1, by omega, by go_num, (HB2.out.alloc _).alloc _, fun j h h' => by
                  by_cases hj : j < k
                  · exact HA2.out j h hj
                  · obtain rfl : j = k := by omega
                    exact HN.out⟩
                case measure => simp [intOf]; omega
              · have HX3 : Hid (exprErr e locals = 3) := by
                  have := HX2.out
                  rwa [if_pos (fun h => hn (h _ (List.getElem_mem hlt)))] at this
                by_cases hn0 : e[k].n < 0
                · clear hn
                  go_wp2
                  go_ret
                  exact ⟨ret_int HX3.out.symm, (HB2.out.alloc _).alloc _⟩
                · have hn1 : mostN locals e[k].kind < e[k].n := by omega
                  clear hn
                  go_wp2
                  go_ret
                  exact ⟨ret_int HX3.out.symm, (HB2.out.alloc _).alloc _⟩
            · obtain rfl : k = e.length := by omega
              have HX5 : Hid (exprErr e locals = if openOk 1 e = false then 1 else 0) := by
                have := HX2.out
                rwa [if_neg (fun h => h (fun x hx => by
                  obtain ⟨j, hj, rfl⟩ := List.getElem_of_mem hx
                  exact HA2.out j hj (by omega)))] at this
              have HS := Lib.hid (skip_any e _ S wr (Nodes.stays HB2.out.stays hp0) h9' e.length 0 (by omega) (by omega) (by omega))
              cases ho : openOk 1 e
              · have TS : (skipPos e 0 != (e.length : Int)) = true := by
                  rw [bne_iff_ne]
                  intro h
                  rw [(skipPos_zero e).1 h] at ho
                  cases ho
                have HO := Lib.hid ho
                clear ho hcr
                go_wp2_with (first
                  | (go_at_call 100; (with_reducible refine HS.out.mono ?_); rintro e' w2 ⟨rfl, rfl⟩))
                go_ret
                exact ⟨ret_int (by rw [HX5.out, if_pos HO.out]), HB2.out⟩
              · have TS : (skipPos e 0 != (e.length : Int)) = false := by
                  rw [bne_eq_false_iff_eq]
                  exact (skipPos_zero e).2 ho
                have HO := Lib.hid ho
                clear ho hcr
                go_wp2_with (first
                  | (go_at_call 100; (with_reducible refine HS.out.mono ?_); rintro e' w2 ⟨rfl, rfl⟩))
                go_ret
                exact ⟨ret_int (by rw [HX5.out, if_neg (by rw [HO.out]; decide)]), HB2.out⟩
  · rw [if_pos hl] at HX
    replace HX := Lib.hid HX
    by_cases h0 : locals < 0
    · clear hl
      go_enter Tryz.func56, Tryz.ntmps56
      go_wp2
      go_ret
      exact ⟨ret_int HX.out.symm, Ext.refl _⟩
    · have h4 : 4 < locals := by omega
      clear hl
      go_enter Tryz.func56, Tryz.ntmps56
      go_wp2
      go_ret
      exact ⟨ret_int HX.out.symm, Ext.refl _⟩
end Go.Proofs.YtpcjkfppacnkgaaGreatDoor
end
