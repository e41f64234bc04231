/- Expressions as trees: plain facts. No program in sight; no condition. -/
import Derived.Test.YtpiechbjponicaaPure
namespace Go.Proofs.Ytpiechbjponicaa

/-- How many parts a node of a kind has. -/
def sizeN (k : Int) : Nat := if k ≤ 1 then 0 else if k = 7 then 3 else 2

inductive ETree where
  | leaf (x : GNode)
  | two (x : GNode) (a b : ETree)
  | three (x : GNode) (a b c : ETree)

/-- A tree's nodes, each ahead of its parts. -/
def ETree.flat : ETree → List GNode
  | .leaf x => [x]
  | .two x a b => x :: (a.flat ++ b.flat)
  | .three x a b c => x :: (a.flat ++ (b.flat ++ c.flat))

/-- Each node has as many parts as its kind says. -/
def ETree.fits : ETree → Prop
  | .leaf x => sizeN x.kind = 0
  | .two x a b => sizeN x.kind = 2 ∧ a.fits ∧ b.fits
  | .three x a b c => sizeN x.kind = 3 ∧ a.fits ∧ b.fits ∧ c.fits

theorem ETree.flat_pos : ∀ t : ETree, 0 < t.flat.length
  | .leaf _ => by simp [ETree.flat]
  | .two _ _ _ => by simp [ETree.flat]
  | .three _ _ _ _ => by simp [ETree.flat]

/-- One list begins with one expression at most. -/
theorem ETree.flat_inj : ∀ (t t' : ETree) (r r' : List GNode), t.fits → t'.fits → t.flat ++ r = t'.flat ++ r' → t = t' ∧ r = r'
  | .leaf x, .leaf y, r, r', _, _, h => by
    simp [ETree.flat] at h
    exact ⟨by rw [h.1], h.2⟩
  | .leaf x, .two y a b, r, r', h1, h2, h => by
    simp [ETree.flat] at h
    simp [ETree.fits] at h1 h2
    rw [h.1] at h1; omega
  | .leaf x, .three y a b c, r, r', h1, h2, h => by
    simp [ETree.flat] at h
    simp [ETree.fits] at h1 h2
    rw [h.1] at h1; omega
  | .two x a b, .leaf y, r, r', h1, h2, h => by
    simp [ETree.flat] at h
    simp [ETree.fits] at h1 h2
    rw [h.1] at h1; omega
  | .two x a b, .two y a' b', r, r', h1, h2, h => by
    simp [ETree.flat] at h
    simp [ETree.fits] at h1 h2
    obtain ⟨rfl, e1⟩ := ETree.flat_inj a a' _ _ h1.2.1 h2.2.1 h.2
    obtain ⟨rfl, e2⟩ := ETree.flat_inj b b' _ _ h1.2.2 h2.2.2 e1
    exact ⟨by rw [h.1], e2⟩
  | .two x a b, .three y a' b' c', r, r', h1, h2, h => by
    simp [ETree.flat] at h
    simp [ETree.fits] at h1 h2
    rw [h.1] at h1; omega
  | .three x a b c, .leaf y, r, r', h1, h2, h => by
    simp [ETree.flat] at h
    simp [ETree.fits] at h1 h2
    rw [h.1] at h1; omega
  | .three x a b c, .two y a' b', r, r', h1, h2, h => by
    simp [ETree.flat] at h
    simp [ETree.fits] at h1 h2
    rw [h.1] at h1; omega
  | .three x a b c, .three y a' b' c', r, r', h1, h2, h => by
    simp [ETree.flat] at h
    simp [ETree.fits] at h1 h2
    obtain ⟨rfl, e1⟩ := ETree.flat_inj a a' _ _ h1.2.1 h2.2.1 h.2
    obtain ⟨rfl, e2⟩ := ETree.flat_inj b b' _ _ h1.2.2.1 h2.2.2.1 e1
    obtain ⟨rfl, e3⟩ := ETree.flat_inj c c' _ _ h1.2.2.2 h2.2.2.2 e2
    exact ⟨by rw [h.1], e3⟩

/-- A list of so many expressions, one behind the other. -/
def flatAll : List ETree → List GNode
  | [] => []
  | t :: ts => t.flat ++ flatAll ts
def fitsAll : List ETree → Prop
  | [] => True
  | t :: ts => t.fits ∧ fitsAll ts

/-- The count of expressions that are still open: true, if it is 0 just at the end. -/
def openOk : Nat → List GNode → Bool
  | c, [] => c == 0
  | 0, _ :: _ => false
  | c + 1, x :: l => openOk (c + sizeN x.kind) l

theorem sizeN_cases (k : Int) : sizeN k = 0 ∨ sizeN k = 2 ∨ sizeN k = 3 := by unfold sizeN; (repeat' split) <;> omega

theorem openOk_of : ∀ (l : List GNode) (c : Nat), openOk c l = true → ∃ ts, ts.length = c ∧ fitsAll ts ∧ l = flatAll ts
  | [], c, h => by
    simp [openOk] at h
    exact ⟨[], by simp [h], trivial, rfl⟩
  | x :: l, 0, h => by simp [openOk] at h
  | x :: l, c + 1, h => by
    obtain ⟨ts, hl, hf, rfl⟩ := openOk_of l _ (by simpa [openOk] using h)
    rcases sizeN_cases x.kind with hs | hs | hs <;> rw [hs] at hl
    · exact ⟨.leaf x :: ts, by simp [hl], ⟨hs, hf⟩, by simp [flatAll, ETree.flat]⟩
    · match ts, hl, hf with
      | a :: b :: ts, hl, hf => exact ⟨.two x a b :: ts, by simp at hl ⊢; omega, ⟨⟨hs, hf.1, hf.2.1⟩, hf.2.2⟩, by simp [flatAll, ETree.flat]⟩
      | [_], hl, _ => simp at hl
      | [], hl, _ => simp at hl
    · match ts, hl, hf with
      | a :: b :: d :: ts, hl, hf => exact ⟨.three x a b d :: ts, by simp at hl ⊢; omega, ⟨⟨hs, hf.1, hf.2.1, hf.2.2.1⟩, hf.2.2.2⟩, by simp [flatAll, ETree.flat]⟩
      | [_, _], hl, _ => simp at hl
      | [_], hl, _ => simp at hl
      | [], hl, _ => simp at hl

theorem openOk_flat : ∀ (t : ETree) (c : Nat) (r : List GNode), t.fits → openOk (c + 1) (t.flat ++ r) = openOk c r
  | .leaf x, c, r, h => by simp [ETree.flat, openOk, show sizeN x.kind = 0 from h]
  | .two x a b, c, r, h => by
    simp only [ETree.flat, List.cons_append, openOk, h.1, List.append_assoc]
    rw [openOk_flat a _ _ h.2.1, openOk_flat b _ _ h.2.2]
  | .three x a b d, c, r, h => by
    simp only [ETree.flat, List.cons_append, openOk, h.1, List.append_assoc]
    rw [openOk_flat a _ _ h.2.1, openOk_flat b _ _ h.2.2.1, openOk_flat d _ _ h.2.2.2]

/-- Just one expression. -/
theorem openOk_one (l : List GNode) : openOk 1 l = true ↔ ∃ t : ETree, t.fits ∧ l = t.flat := by
  constructor
  · intro h
    obtain ⟨ts, hl, hf, rfl⟩ := openOk_of l 1 h
    match ts, hl, hf with
    | [t], _, hf => exact ⟨t, hf.1, by simp [flatAll]⟩
  · rintro ⟨t, ht, rfl⟩
    have := openOk_flat t 0 [] ht
    rw [List.append_nil] at this
    rw [this]
    rfl

/-- What is behind so many expressions; none: they are not there. -/
def skipC : Nat → List GNode → Option (List GNode)
  | 0, l => some l
  | _ + 1, [] => none
  | c + 1, x :: l => skipC (c + sizeN x.kind) l

theorem skipC_add : ∀ (l : List GNode) (a b : Nat), skipC (a + b) l = (skipC a l).bind (skipC b)
  | l, 0, b => by cases l <;> simp [skipC]
  | [], a + 1, b => by rw [show a + 1 + b = (a + b) + 1 by omega]; rfl
  | x :: l, a + 1, b => by
    rw [show a + 1 + b = (a + b) + 1 by omega]
    show skipC (a + b + sizeN x.kind) l = (skipC (a + sizeN x.kind) l).bind (skipC b)
    rw [show a + b + sizeN x.kind = (a + sizeN x.kind) + b by omega]
    exact skipC_add l _ b

theorem skipC_openOk : ∀ (l : List GNode) (c : Nat), openOk c l = true ↔ skipC c l = some []
  | [], 0 => by simp [openOk, skipC]
  | [], c + 1 => by simp [openOk, skipC]
  | x :: l, 0 => by simp [openOk, skipC]
  | x :: l, c + 1 => skipC_openOk l _

theorem skipC_len : ∀ (l : List GNode) (c : Nat) (r : List GNode), skipC c l = some r → r = l.drop (l.length - r.length) ∧ r.length + c ≤ l.length
  | l, 0, r, h => by
    have : l = r := by cases l <;> simpa [skipC] using h
    subst this
    simp
  | [], c + 1, r, h => by simp [skipC] at h
  | x :: l, c + 1, r, h => by
    obtain ⟨h1, h2⟩ := skipC_len l _ r h
    have h3 : r.length + (c + 1) ≤ (x :: l).length := by simp; omega
    refine ⟨?_, h3⟩
    rw [show (x :: l).length - r.length = (l.length - r.length) + 1 by simp; omega]
    exact h1

/-- Where the expression ends that begins at k; -1: there is none. -/
def skipPos (e : List GNode) (k : Int) : Int :=
  if k < 0 then -1 else match skipC 1 (e.drop k.toNat) with | some r => (e.length : Int) - r.length | none => -1
def skipIter (e : List GNode) : Nat → Int → Int
  | 0, k => k
  | i + 1, k => skipPos e (skipIter e i k)

theorem skipIter_some (e : List GNode) : ∀ (m k : Nat), k ≤ e.length → skipIter e m k = match skipC m (e.drop k) with | some r => (e.length : Int) - r.length | none => -1
  | 0, k, h => by
    have : skipC 0 (e.drop k) = some (e.drop k) := by cases e.drop k <;> rfl
    rw [this]
    simp [skipIter]
    omega
  | m + 1, k, h => by
    rw [skipC_add, show skipIter e (m + 1) k = skipPos e (skipIter e m k) from rfl, skipIter_some e m k h]
    cases hr : skipC m (e.drop k) with
    | none => simp [skipPos]
    | some r =>
      obtain ⟨h1, h2⟩ := skipC_len _ _ _ hr
      have hl : r.length ≤ e.length := by simp at h2; omega
      have e1 : ((e.length : Int) - r.length).toNat = e.length - r.length := by omega
      simp only [Option.bind_some, skipPos, if_neg (show ¬ (e.length : Int) - r.length < 0 by omega), e1]
      have e2 : e.drop (e.length - r.length) = r := by
        conv => rhs; rw [h1]
        rw [List.drop_drop]
        congr 1
        simp at h2 ⊢
        omega
      rw [e2]

theorem skipPos_step (e : List GNode) (k : Nat) (h : k < e.length) : skipPos e k = skipIter e (sizeN e[k].kind) (k + 1 : Nat) := by
  rw [skipIter_some e _ _ (by omega), skipPos, if_neg (by omega)]
  rw [show (k : Int).toNat = k by omega, List.drop_eq_getElem_cons h]
  show (match skipC (0 + sizeN e[k].kind) (e.drop (k + 1)) with | some r => (e.length : Int) - r.length | none => -1) = _
  rw [Nat.zero_add]

theorem skipPos_gt (e : List GNode) (k : Nat) : skipPos e k = -1 ∨ ((k : Int) < skipPos e k ∧ skipPos e k ≤ e.length) := by
  unfold skipPos
  rw [if_neg (by omega)]
  cases hr : skipC 1 (e.drop (k : Int).toNat) with
  | none => exact .inl rfl
  | some r =>
    obtain ⟨h1, h2⟩ := skipC_len _ _ _ hr
    simp at h2 ⊢
    right; omega

theorem skipPos_zero (e : List GNode) : skipPos e 0 = e.length ↔ openOk 1 e = true := by
  rw [skipC_openOk, skipPos, if_neg (by omega)]
  simp only [Int.toNat_zero, List.drop_zero]
  cases hr : skipC 1 e with
  | none => simp
  | some r => simp; constructor
              · intro h; exact List.eq_nil_of_length_eq_zero (by omega)
              · rintro rfl; simp

def mostN (locals k : Int) : Int := if k = 0 then 999 else if k = 1 then locals - 1 else 0

/-- The error of an expression. -/
def exprErr (e : List GNode) (locals : Int) : Int :=
  if ¬ (0 ≤ locals ∧ locals ≤ 4) then 3
  else if 9 < e.length then 2
  else if ¬ (∀ x ∈ e, 0 ≤ x.kind ∧ x.kind ≤ 7) then 4
  else if ¬ (∀ x ∈ e, 0 ≤ x.n ∧ x.n ≤ mostN locals x.kind) then 3
  else if openOk 1 e = false then 1
  else 0

end Go.Proofs.Ytpiechbjponicaa
