/- Merged texts: contracts and plain facts, one part behind another; each part begins with what it says. -/
import Derived.Test.YtfajkebkhdcapaaGUAB
import Derived.Test.YtfajkebkhdcapaaGUAC
import Derived.Test.YtfajkebkhdcapaaGUAD
import Derived.Deep.MidRow
section
/- Plain facts of programs: their errors, and who calls whom. No program in sight; no condition. -/
namespace Go.Proofs.Ytfajkebkhdcapaa

def firstErr (p : List GFunc) : List Nat → Int
  | [] => 0
  | k :: ks => if funcErr p k ≠ 0 then funcErr p k else firstErr p ks
def allHts (p : List GFunc) : List Nat → Bool
  | [] => true
  | k :: ks => (hts p (p.getD k default).code).isSome && allHts p ks

/-- A program's error. -/
def progErr (p : List GFunc) : Int :=
  if 5 < p.length then 2 else if p.length = 0 then 5 else if (p.getD 0 default).args ≠ 0 then 1
  else if firstErr p (List.range p.length) ≠ 0 then firstErr p (List.range p.length) else if allHts p (List.range p.length) = true then 0 else 1

/-- From a place on. -/
def firstFrom (p : List GFunc) (i : Nat) : Int := firstErr p (List.range' i (p.length - i))
def allFrom (p : List GFunc) (i : Nat) : Bool := allHts p (List.range' i (p.length - i))
theorem firstFrom_zero (p : List GFunc) : firstErr p (List.range p.length) = firstFrom p 0 := by unfold firstFrom; rw [List.range_eq_range', Nat.sub_zero]
theorem allFrom_zero (p : List GFunc) : allHts p (List.range p.length) = allFrom p 0 := by unfold allFrom; rw [List.range_eq_range', Nat.sub_zero]
theorem firstFrom_end (p : List GFunc) : firstFrom p p.length = 0 := by unfold firstFrom; rw [Nat.sub_self]; rfl
theorem allFrom_end (p : List GFunc) : allFrom p p.length = true := by unfold allFrom; rw [Nat.sub_self]; rfl
theorem firstFrom_step (p : List GFunc) {i : Nat} (h : i < p.length) : firstFrom p i = if funcErr p i ≠ 0 then funcErr p i else firstFrom p (i + 1) := by
  unfold firstFrom
  rw [show p.length - i = (p.length - (i + 1)) + 1 by omega, List.range'_succ]
  rfl
theorem allFrom_step (p : List GFunc) {i : Nat} (h : i < p.length) : allFrom p i = ((hts p (p.getD i default).code).isSome && allFrom p (i + 1)) := by
  unfold allFrom
  rw [show p.length - i = (p.length - (i + 1)) + 1 by omega, List.range'_succ]
  rfl
theorem firstFrom_nil {p : List GFunc} : ∀ (m i : Nat), p.length - i = m → firstFrom p i = 0 → ∀ k, i ≤ k → k < p.length → funcErr p k = 0
  | 0, i, hm, _, k, h1, h2 => by omega
  | m + 1, i, hm, h, k, h1, h2 => by
    rw [firstFrom_step p (by omega)] at h
    by_cases he : funcErr p i = 0
    · rw [if_neg (fun h => h he)] at h
      by_cases hk : k = i
      · rw [hk]; exact he
      · exact firstFrom_nil m (i + 1) (by omega) h k (by omega) h2
    · rw [if_pos he] at h; exact absurd h he
theorem allFrom_nil {p : List GFunc} : ∀ (m i : Nat), p.length - i = m → allFrom p i = true → ∀ k, i ≤ k → k < p.length → (hts p (p.getD k default).code).isSome = true
  | 0, i, hm, _, k, h1, h2 => by omega
  | m + 1, i, hm, h, k, h1, h2 => by
    rw [allFrom_step p (by omega), Bool.and_eq_true] at h
    by_cases hk : k = i
    · rw [hk]; exact h.1
    · exact allFrom_nil m (i + 1) (by omega) h.2 k (by omega) h2

structure RightP (p : List GFunc) : Prop where
  most : p.length ≤ 5
  pos : 0 < p.length
  zero : (p.getD 0 default).args = 0
  func : ∀ k, k < p.length → funcErr p k = 0
  hts : ∀ k, k < p.length → (Proofs.Ytfajkebkhdcapaa.hts p (p.getD k default).code).isSome = true
theorem progErr_zero {p : List GFunc} (h : progErr p = 0) : RightP p := by
  unfold progErr at h
  by_cases h1 : 5 < p.length
  · rw [if_pos h1] at h; cases h
  · rw [if_neg h1] at h
    by_cases h2 : p.length = 0
    · rw [if_pos h2] at h; cases h
    · rw [if_neg h2] at h
      by_cases h3 : (p.getD 0 default).args ≠ 0
      · rw [if_pos h3] at h; cases h
      · rw [if_neg h3, firstFrom_zero, allFrom_zero] at h
        by_cases h4 : firstFrom p 0 = 0
        · rw [if_neg (fun k => k h4)] at h
          by_cases h5 : allFrom p 0 = true
          · exact ⟨by omega, by omega, by simpa using h3, fun k hk => firstFrom_nil _ 0 rfl h4 k (Nat.zero_le _) hk, fun k hk => allFrom_nil _ 0 rfl h5 k (Nat.zero_le _) hk⟩
          · rw [if_neg h5] at h; cases h
        · rw [if_pos h4] at h; exact absurd h h4

/-- Whom a function names. -/
def callees (p : List GFunc) (k : Nat) : List Nat := ((p.getD k default).code.filter (fun x => decide (x.kind = 11 ∨ x.kind = 13))).map (fun x => x.a.toNat)
inductive Reach (p : List GFunc) (f : Nat) : Nat → Prop
  | here : Reach p f f
  | step {k j : Nat} : Reach p f k → j ∈ callees p k → Reach p f j

theorem Reach.trans {p : List GFunc} {a b c : Nat} (h : Reach p a b) (k : Reach p b c) : Reach p a c := by
  induction k with
  | here => exact h
  | step _ hj ih => exact .step ih hj

/-- The list of those that are called. -/
structure IsCalls (p : List GFunc) (f : Nat) (o : List Bool) : Prop where
  len : o.length = p.length
  self : o.getD f false = true
  closed : ∀ k, o.getD k false = true → ∀ j ∈ callees p k, o.getD j false = true
  only : ∀ k, o.getD k false = true → Reach p f k
theorem IsCalls.iff {p : List GFunc} {f : Nat} {o : List Bool} (h : IsCalls p f o) (k : Nat) : o.getD k false = true ↔ Reach p f k := by
  refine ⟨h.only k, fun hr => ?_⟩
  induction hr with
  | here => exact h.self
  | step _ hj ih => exact h.closed _ ih _ hj
theorem IsCalls.eq {p : List GFunc} {f : Nat} {a b : List Bool} (ha : IsCalls p f a) (hb : IsCalls p f b) : a = b := by
  apply List.ext_getElem (by rw [ha.len, hb.len])
  intro k h1 h2
  have e1 : a.getD k false = a[k] := by simp [List.getD, List.getElem?_eq_getElem h1]
  have e2 : b.getD k false = b[k] := by simp [List.getD, List.getElem?_eq_getElem h2]
  have := (ha.iff k).trans (hb.iff k).symm
  rw [e1, e2] at this
  exact Bool.eq_iff_iff.2 this

/-! The visit: what one call of it makes of the list. -/
structure Vis (p : List GFunc) (k : Nat) (a b : List Bool) : Prop where
  len : b.length = a.length
  more : ∀ i, a.getD i false = true → b.getD i false = true
  self : b.getD k false = true
  closed : ∀ i, b.getD i false = true → a.getD i false = false → ∀ j ∈ callees p i, b.getD j false = true
  only : ∀ i, b.getD i false = true → a.getD i false = false → Reach p k i

def falses (l : List Bool) : Nat := l.countP (fun x => !x)

theorem Vis.here {p : List GFunc} {k : Nat} {a : List Bool} (h : a.getD k false = true) : Vis p k a a :=
  ⟨rfl, fun _ h => h, h, fun i h1 h2 => (by rw [h1] at h2; cases h2), fun i h1 h2 => (by rw [h1] at h2; cases h2)⟩

theorem Vis.calls {p : List GFunc} {k : Nat} {o : List Bool} {n : Nat} (hn : n = p.length) (h : Vis p k (List.replicate n false) o) : IsCalls p k o := by
  have hz : ∀ i, (List.replicate n false).getD i false = false := fun i => by
    simp only [List.getD, List.getElem?_replicate]; split <;> rfl
  exact ⟨by rw [h.len, List.length_replicate, hn], h.self, fun i hi => h.closed i hi (hz i), fun i hi => h.only i hi (hz i)⟩

/-- In the midst of a visit of k: the first i ops are through. -/
structure Mid (p : List GFunc) (k i : Nat) (a b : List Bool) : Prop where
  len : b.length = a.length
  more : ∀ i, a.getD i false = true → b.getD i false = true
  self : b.getD k false = true
  mine : ∀ m, m < i → ∀ (hm : m < (p.getD k default).code.length), ((p.getD k default).code[m].kind = 11 ∨ (p.getD k default).code[m].kind = 13) → b.getD (p.getD k default).code[m].a.toNat false = true
  closed : ∀ i, i ≠ k → b.getD i false = true → a.getD i false = false → ∀ j ∈ callees p i, b.getD j false = true
  only : ∀ i, b.getD i false = true → a.getD i false = false → Reach p k i

theorem getDB_set_same {l : List Bool} {i : Nat} (h : i < l.length) (n : Bool) : (l.set i n).getD i false = n := by simp [List.getD, h]
theorem getDB_set_other {l : List Bool} {i j : Nat} (h : i ≠ j) (n : Bool) : (l.set i n).getD j false = l.getD j false := by simp [List.getD, h]

theorem Mid.start {p : List GFunc} {k : Nat} {a : List Bool} (hk : k < a.length) : Mid p k 0 a (a.set k true) := by
  refine ⟨by simp, fun i h => ?_, getDB_set_same hk true, fun m hm => by omega, fun i hi h1 h2 => ?_, fun i h1 h2 => ?_⟩
  · by_cases e : k = i
    · subst e; exact getDB_set_same hk true
    · rw [getDB_set_other e]; exact h
  · rw [getDB_set_other (fun e => hi e.symm)] at h1; rw [h1] at h2; cases h2
  · by_cases e : k = i
    · subst e; exact .here
    · rw [getDB_set_other e] at h1; rw [h1] at h2; cases h2
theorem Mid.visit {p : List GFunc} {k i : Nat} {a b c : List Bool} (h : Mid p k i a b) (hi : i < (p.getD k default).code.length) (hk : (p.getD k default).code[i].kind = 11 ∨ (p.getD k default).code[i].kind = 13)
    (hv : Vis p (p.getD k default).code[i].a.toNat b c) : Mid p k (i + 1) a c := by
  have hin : (p.getD k default).code[i].a.toNat ∈ callees p k := by
    unfold callees
    exact List.mem_map.2 ⟨_, List.mem_filter.2 ⟨List.getElem_mem hi, by simpa using hk⟩, rfl⟩
  refine ⟨by rw [hv.len, h.len], fun j hj => hv.more j (h.more j hj), hv.more k h.self, fun m hm hm' hc => ?_, fun j hj h1 h2 => ?_, fun j h1 h2 => ?_⟩
  · by_cases e : m = i
    · subst e; exact hv.self
    · exact hv.more _ (h.mine m (by omega) hm' hc)
  · intro q hq
    by_cases hb : b.getD j false = true
    · exact hv.more _ (h.closed j hj hb h2 q hq)
    · exact hv.closed j h1 (by simpa using hb) q hq
  · by_cases hb : b.getD j false = true
    · exact h.only j hb h2
    · exact (Reach.step .here hin).trans (hv.only j h1 (by simpa using hb))
theorem Mid.done {p : List GFunc} {k : Nat} {a b : List Bool} (h : Mid p k (p.getD k default).code.length a b) : Vis p k a b := by
  refine ⟨h.len, h.more, h.self, fun i h1 h2 j hj => ?_, h.only⟩
  by_cases e : i = k
  · subst e
    unfold callees at hj
    obtain ⟨x, hx, rfl⟩ := List.mem_map.1 hj
    obtain ⟨hx1, hx2⟩ := List.mem_filter.1 hx
    obtain ⟨m, hm, rfl⟩ := List.getElem_of_mem hx1
    exact h.mine m hm hm (by simpa using hx2)
  · exact h.closed i e h1 h2 j hj

theorem falses_mono : ∀ {a b : List Bool}, b.length = a.length → (∀ i, a.getD i false = true → b.getD i false = true) → falses b ≤ falses a
  | [], [], _, _ => Nat.le_refl _
  | x :: a, y :: b, hl, h => by
    have ih := falses_mono (a := a) (b := b) (by simpa using hl) (fun i hi => by have := h (i + 1) (by simpa using hi); simpa using this)
    have h0 := h 0
    simp only [List.getD_cons_zero] at h0
    unfold falses at ih ⊢
    rw [List.countP_cons, List.countP_cons]
    cases x <;> cases y <;> simp_all <;> omega
/-! The rounds. -/

/-- So far: all that is in comes from f; it is closed, or so many rounds are still to come. -/
structure RndInv (p : List GFunc) (f r : Nat) (o : List Bool) : Prop where
  len : o.length = p.length
  self : o.getD f false = true
  only : ∀ i, o.getD i false = true → Reach p f i
  near : (∀ k, o.getD k false = true → ∀ j ∈ callees p k, o.getD j false = true) ∨ falses o + r + 1 ≤ p.length

/-- In the midst of a round that began at a: the functions ahead of k are through. -/
structure RndMid (p : List GFunc) (k : Nat) (a b : List Bool) : Prop where
  len : b.length = a.length
  more : ∀ i, a.getD i false = true → b.getD i false = true
  done : ∀ m, m < k → a.getD m false = true → ∀ j ∈ callees p m, b.getD j false = true
  only : ∀ i, b.getD i false = true → ∃ s, a.getD s false = true ∧ Reach p s i

/-- And of function k the first i ops. -/
structure RndOp (p : List GFunc) (k i : Nat) (a b : List Bool) : Prop extends RndMid p k a b where
  mine : a.getD k false = true → ∀ m, m < i → ∀ (hm : m < (p.getD k default).code.length), ((p.getD k default).code[m].kind = 11 ∨ (p.getD k default).code[m].kind = 13) → b.getD (p.getD k default).code[m].a.toNat false = true

theorem RndMid.start (p : List GFunc) (a : List Bool) : RndMid p 0 a a := ⟨rfl, fun _ h => h, fun m hm => by omega, fun i hi => ⟨i, hi, .here⟩⟩
theorem RndOp.start {p : List GFunc} {k : Nat} {a b : List Bool} (h : RndMid p k a b) : RndOp p k 0 a b := ⟨h, fun _ m hm => by omega⟩
theorem RndOp.put {p : List GFunc} {k i : Nat} {a b : List Bool} (h : RndOp p k i a b) (hi : i < (p.getD k default).code.length) (hc : (p.getD k default).code[i].kind = 11 ∨ (p.getD k default).code[i].kind = 13)
    (hb : b.getD k false = true) (hl : (p.getD k default).code[i].a.toNat < b.length) : RndOp p k (i + 1) a (b.set (p.getD k default).code[i].a.toNat true) := by
  have up : ∀ j, b.getD j false = true → (b.set (p.getD k default).code[i].a.toNat true).getD j false = true := fun j hj => by
    by_cases e : (p.getD k default).code[i].a.toNat = j
    · subst e; exact getDB_set_same hl true
    · rw [getDB_set_other e]; exact hj
  have hin : (p.getD k default).code[i].a.toNat ∈ callees p k := by
    unfold callees
    exact List.mem_map.2 ⟨_, List.mem_filter.2 ⟨List.getElem_mem hi, by simpa using hc⟩, rfl⟩
  refine { len := by rw [List.length_set, h.len], more := fun j hj => up j (h.more j hj), done := fun m hm ha j hj => up j (h.done m hm ha j hj), only := fun j hj => ?_, mine := fun ha m hm hm' hk => ?_ }
  · by_cases e : (p.getD k default).code[i].a.toNat = j
    · obtain ⟨s, hs, hr⟩ := h.only k hb
      exact ⟨s, hs, .step hr (e ▸ hin)⟩
    · rw [getDB_set_other e] at hj; exact h.only j hj
  · by_cases e : m = i
    · subst e; exact getDB_set_same hl true
    · exact up _ (h.mine ha m (by omega) hm' hk)
theorem getDB_out {l : List Bool} {k : Nat} (h : l.getD k false = true) : k < l.length := by
  by_cases hk : k < l.length
  · exact hk
  · simp [List.getD, List.getElem?_eq_none (by omega : l.length ≤ k)] at h
theorem falses_eq : ∀ {a b : List Bool}, b.length = a.length → (∀ i, a.getD i false = true → b.getD i false = true) → falses b = falses a → a = b
  | [], [], _, _, _ => rfl
  | x :: a, y :: b, hl, h, he => by
    have hl' : b.length = a.length := by simpa using hl
    have hm : ∀ i, a.getD i false = true → b.getD i false = true := fun i hi => by have := h (i + 1) (by simpa using hi); simpa using this
    have h0 := h 0
    have h1 := falses_mono hl' hm
    simp only [List.getD_cons_zero] at h0
    unfold falses at he h1
    rw [List.countP_cons, List.countP_cons] at he
    have hxy : x = y := by cases x <;> cases y <;> simp_all <;> omega
    subst hxy
    rw [falses_eq hl' hm (by unfold falses; omega)]

theorem RndInv.next {p : List GFunc} {f r : Nat} {a b : List Bool} (h : RndInv p f r a) (hm : RndMid p p.length a b) : RndInv p f (r + 1) b := by
  have hlen := hm.len.trans h.len
  have hclosed : a = b → ∀ k, b.getD k false = true → ∀ j ∈ callees p k, b.getD j false = true := fun e k hk j hj => by
    subst e
    exact hm.done k (by rw [← h.len]; exact getDB_out hk) hk j hj
  refine ⟨hlen, hm.more f h.self, fun i hi => ?_, ?_⟩
  · obtain ⟨s, hs, hr⟩ := hm.only i hi
    exact (h.only s hs).trans hr
  · by_cases e : a = b
    · exact .inl (hclosed e)
    · have hle := falses_mono hm.len hm.more
      have hne : falses b ≠ falses a := fun he => e (falses_eq hm.len hm.more he)
      rcases h.near with hc | hn
      · exfalso
        have cl : ∀ s i, a.getD s false = true → Reach p s i → a.getD i false = true := fun s i hs hr => by
          induction hr with
          | here => exact hs
          | step _ hj ih => exact hc _ ih _ hj
        refine e (falses_eq hm.len hm.more (Nat.le_antisymm hle (falses_mono hm.len.symm fun i hi => ?_)))
        obtain ⟨s, hs, hr⟩ := hm.only i hi
        exact cl s i hs hr
      · exact .inr (by omega)
end Go.Proofs.Ytfajkebkhdcapaa
end
section
/- Trimming: plain facts. No program in sight; no condition. -/
namespace Go.Proofs.Ytfajkebkhdcapaa

/-- How many of the first n ops are left. -/
def keepN (l : List Int) (n : Nat) : Nat := (l.take n).countP (fun h => decide (0 ≤ h))
def trimOp (l : List Int) (x : GOp) : GOp := if x.kind = 9 ∨ x.kind = 10 then ⟨x.kind, keepN l x.a.toNat⟩ else x
/-- What is left of ops, of which the first has the height at the head of m. -/
def trimGo (l : List Int) : List GOp → List Int → List GOp
  | x :: C, h :: m => if 0 ≤ h then trimOp l x :: trimGo l C m else trimGo l C m
  | _, _ => []
def trimC (C : List GOp) (l : List Int) : List GOp := trimGo l C l
def keepL (l : List Int) : List Int := l.filter (fun h => decide (0 ≤ h))
def trimG (p : List GFunc) (F : GFunc) : GFunc := ⟨F.args, F.locals, trimC F.code ((hts p F.code).getD [])⟩

theorem keepN_zero (l : List Int) : keepN l 0 = 0 := by simp [keepN]
theorem keepN_succ {l : List Int} {n : Nat} (h : n < l.length) : keepN l (n + 1) = keepN l n + if 0 ≤ l.getD n 0 then 1 else 0 := by
  unfold keepN
  rw [List.take_succ_eq_append_getElem h, List.countP_append]
  simp only [List.countP_singleton, List.getD, List.getElem?_eq_getElem h, Option.getD_some]
  split <;> simp_all
theorem keepN_mono {l : List Int} {a b : Nat} (h : a ≤ b) : keepN l a ≤ keepN l b := by
  unfold keepN
  exact List.Sublist.countP_le (List.take_sublist_take_left h)
theorem keepN_lt {l : List Int} {a b : Nat} (h : a < b) (hb : b ≤ l.length) (h0 : 0 ≤ l.getD a 0) : keepN l a < keepN l b := by
  have := keepN_succ (l := l) (n := a) (by omega)
  rw [if_pos h0] at this
  have h2 := keepN_mono (l := l) (a := a + 1) (b := b) (by omega)
  omega
theorem keepN_all (l : List Int) : keepN l l.length = (keepL l).length := by
  unfold keepN keepL
  rw [List.take_length, List.countP_eq_length_filter]

/-- From a place on: what stands where. -/
theorem trimGo_drop {C : List GOp} {l : List Int} (hl : l.length = C.length) : ∀ (d n : Nat), C.length - n = d → n ≤ C.length →
    (trimGo l (C.drop n) (l.drop n)).length = keepN l C.length - keepN l n ∧
    ∀ k, n ≤ k → (hk : k < C.length) → 0 ≤ l.getD k 0 → (trimGo l (C.drop n) (l.drop n))[keepN l k - keepN l n]? = some (trimOp l C[k])
  | 0, n, hd, hn => by
    have e : n = C.length := by omega
    subst e
    rw [List.drop_length]
    refine ⟨by simp [trimGo], fun k h1 h2 => by omega⟩
  | d + 1, n, hd, hn => by
    have hn' : n < C.length := by omega
    have hnl : n < l.length := by omega
    obtain ⟨i1, i2⟩ := trimGo_drop hl d (n + 1) (by omega) (by omega)
    have hs := keepN_succ (l := l) hnl
    have hm := keepN_mono (l := l) (a := n + 1) (b := C.length) (by omega)
    rw [List.drop_eq_getElem_cons hn', List.drop_eq_getElem_cons hnl]
    have el : l[n] = l.getD n 0 := by simp [List.getD, List.getElem?_eq_getElem hnl]
    unfold trimGo
    rw [el]
    by_cases h0 : 0 ≤ l.getD n 0
    · rw [if_pos h0] at hs ⊢
      refine ⟨by rw [List.length_cons, i1]; omega, fun k h1 h2 h3 => ?_⟩
      by_cases e : k = n
      · subst e
        rw [Nat.sub_self]
        rfl
      · have hk := keepN_mono (l := l) (a := n + 1) (b := k) (by omega)
        rw [show keepN l k - keepN l n = (keepN l k - keepN l (n + 1)) + 1 by omega, List.getElem?_cons_succ]
        exact i2 k (by omega) h2 h3
    · rw [if_neg h0] at hs ⊢
      refine ⟨by rw [i1]; omega, fun k h1 h2 h3 => ?_⟩
      have e : k ≠ n := fun e => h0 (e ▸ h3)
      rw [show keepN l n = keepN l (n + 1) by omega]
      exact i2 k (by omega) h2 h3

theorem trimC_len {C : List GOp} {l : List Int} (hl : l.length = C.length) : (trimC C l).length = keepN l C.length := by
  have := (trimGo_drop hl C.length 0 (by omega) (by omega)).1
  simpa [trimC, keepN_zero] using this
theorem trimC_at {C : List GOp} {l : List Int} (hl : l.length = C.length) {k : Nat} (hk : k < C.length) (h0 : 0 ≤ l.getD k 0) : (trimC C l)[keepN l k]? = some (trimOp l C[k]) := by
  have := (trimGo_drop hl C.length 0 (by omega) (by omega)).2 k (Nat.zero_le _) hk h0
  simpa [trimC, keepN_zero] using this
theorem keepL_at {l : List Int} : ∀ {k : Nat}, k < l.length → 0 ≤ l.getD k 0 → (keepL l)[keepN l k]? = some (l.getD k 0) := by
  induction l with
  | nil => intro k hk; simp at hk
  | cons h l ih =>
    intro k hk h0
    cases k with
    | zero =>
      simp only [List.getD_cons_zero] at h0
      simp [keepL, keepN, h0]
    | succ k =>
      simp only [List.getD_cons_succ] at h0 ⊢
      have := ih (k := k) (by simpa using hk) h0
      unfold keepL keepN at this ⊢
      rw [List.take_succ_cons, List.countP_cons, List.filter_cons]
      by_cases hh : 0 ≤ h
      · simp only [hh, decide_true, if_true, List.getElem?_cons_succ]
        exact this
      · simp only [hh, decide_false, Bool.false_eq_true, if_false, Nat.add_zero]
        exact this
/-- Each place that is left was one. -/
theorem keepN_from {l : List Int} : ∀ {i : Nat}, i < keepN l l.length → ∃ k, k < l.length ∧ 0 ≤ l.getD k 0 ∧ keepN l k = i := by
  intro i hi
  have key : ∀ n, n ≤ l.length → i < keepN l n → ∃ k, k < n ∧ 0 ≤ l.getD k 0 ∧ keepN l k = i := by
    intro n
    induction n with
    | zero => intro _ h; rw [keepN_zero] at h; omega
    | succ n ih =>
      intro hn h
      have hs := keepN_succ (l := l) (n := n) (by omega)
      by_cases h0 : 0 ≤ l.getD n 0
      · rw [if_pos h0] at hs
        by_cases e : keepN l n = i
        · exact ⟨n, by omega, h0, e⟩
        · obtain ⟨k, h1, h2, h3⟩ := ih (by omega) (by omega)
          exact ⟨k, by omega, h2, h3⟩
      · rw [if_neg h0] at hs
        obtain ⟨k, h1, h2, h3⟩ := ih (by omega) (by omega)
        exact ⟨k, by omega, h2, h3⟩
  obtain ⟨k, h1, h2, h3⟩ := key l.length (Nat.le_refl _) hi
  exact ⟨k, h1, h2, h3⟩

theorem trimOp_kind (l : List Int) (x : GOp) : (trimOp l x).kind = x.kind := by unfold trimOp; split <;> rfl
theorem trimOp_leaves (l : List Int) (x : GOp) : leavesOf (trimOp l x) = leavesOf x := by unfold leavesOf; rw [trimOp_kind]
theorem trimOp_takes (p : List GFunc) (l : List Int) (x : GOp) : takesOf p (trimOp l x) = takesOf p x := by
  unfold takesOf
  rw [trimOp_kind]
  split
  · rfl
  · split
    · rfl
    · split
      · rename_i h; unfold trimOp; rw [if_neg (by omega)]
      · rfl
theorem trimOp_nOf {p q : List GFunc} (ht : ∀ x, takesOf q x = takesOf p x) (l : List Int) (x : GOp) (h : Int) : nOf q (trimOp l x) h = nOf p x h ∧ badB q (trimOp l x) h = badB p x h := by
  have e : nOf q (trimOp l x) h = nOf p x h := by unfold nOf; rw [ht, trimOp_takes, trimOp_leaves]
  exact ⟨e, by unfold badB; rw [e, ht, trimOp_takes, trimOp_kind]⟩
/-- The ways on. -/
theorem nx_trim {l : List Int} {x : GOp} {k : Nat} (hk : k < l.length) (h0 : 0 ≤ l.getD k 0) : nx (trimOp l x) (keepN l k) = (nx x k).map (keepN l) := by
  have hs : keepN l (k + 1) = keepN l k + 1 := by rw [keepN_succ hk, if_pos h0]
  unfold nx
  rw [trimOp_kind]
  by_cases h9 : x.kind = 9
  · simp [h9, trimOp]
  · by_cases h10 : x.kind = 10
    · simp [h10, trimOp, hs]
    · by_cases h12 : x.kind = 12
      · simp [h12]
      · simp [h9, h10, h12, hs]

theorem Full.height {p : List GFunc} {C : List GOp} {l : List Int} (hF : Full p C l) {k j : Nat} (hk : k < C.length) (h0 : 0 ≤ l.getD k 0) (hj : j ∈ nx C[k] k) : j < C.length ∧ l.getD j 0 = nOf p C[k] (l.getD k 0) ∧ 0 ≤ l.getD j 0 := by
  obtain ⟨t1, t2⟩ := hF.thru k hk h0
  have e : C.getD k default = C[k] := by simp [List.getD, List.getElem?_eq_getElem hk]
  rw [e] at t1 t2
  obtain ⟨a, b⟩ := t2 j hj
  exact ⟨a, b, by rw [b]; exact nOf_nonneg t1⟩

theorem come_trim {p q : List GFunc} (ht : ∀ x, takesOf q x = takesOf p x) {C : List GOp} {l : List Int} (hF : Full p C l) {k : Nat} {h : Int} (hc : Come p C k h) : Come q (trimC C l) (keepN l k) h := by
  have hl := hF.len
  induction hc with
  | start => rw [keepN_zero]; exact .start
  | next hc hk hj ih =>
    rename_i k h j
    obtain ⟨_, e, h0⟩ := hF.come_eq hc
    have h0' : 0 ≤ l.getD k 0 := by rw [e]; exact h0
    have ek : C.getD k default = C[k] := by simp [List.getD, List.getElem?_eq_getElem hk]
    have hat := trimC_at hl hk h0'
    have hlt : keepN l k < (trimC C l).length := (List.getElem?_eq_some_iff.1 hat).1
    have eg : (trimC C l).getD (keepN l k) default = trimOp l C[k] := by simp [List.getD, hat]
    have := Come.next ih hlt (j := keepN l j) (by rw [eg, nx_trim (by omega) h0', ← ek]; exact List.mem_map_of_mem hj)
    rw [eg, (trimOp_nOf ht l C[k] h).1] at this
    rw [ek]
    exact this

theorem trim_full {p q : List GFunc} (ht : ∀ x, takesOf q x = takesOf p x) {C : List GOp} {l : List Int} (hF : Full p C l) : Full q (trimC C l) (keepL l) ∧ Jumps (trimC C l) := by
  have hl := hF.len
  have hlen : (keepL l).length = (trimC C l).length := by rw [← keepN_all, trimC_len hl, hl]
  have at_ : ∀ i, i < (trimC C l).length → ∃ k, ∃ hk : k < C.length, 0 ≤ l.getD k 0 ∧ keepN l k = i ∧ (trimC C l).getD i default = trimOp l C[k] ∧ (keepL l).getD i 0 = l.getD k 0 := fun i hi => by
    rw [trimC_len hl, ← hl] at hi
    obtain ⟨k, h1, h2, h3⟩ := keepN_from hi
    refine ⟨k, by omega, h2, h3, ?_, ?_⟩
    · have := trimC_at hl (k := k) (by omega) h2
      rw [h3] at this
      simp [List.getD, this]
    · have := keepL_at h1 h2
      rw [h3] at this
      simp [List.getD, this]
  have go : ∀ j, j < C.length → 0 ≤ l.getD j 0 → keepN l j < (trimC C l).length ∧ (keepL l).getD (keepN l j) 0 = l.getD j 0 := fun j hj h0 => by
    refine ⟨by rw [trimC_len hl, ← hl]; exact keepN_lt (by omega) (Nat.le_refl _) h0, ?_⟩
    have := keepL_at (l := l) (k := j) (by omega) h0
    simp [List.getD, this]
  have hz := go 0 hF.zero.1 (by rw [hF.zero.2]; decide)
  rw [keepN_zero, hF.zero.2] at hz
  refine ⟨{ len := hlen, low := fun i hi => ?_, come := fun i hi h0 => ?_, zero := hz, thru := fun i hi h0 => ?_ }, fun i hi hk => ?_⟩
  · obtain ⟨k, _, h0, _, _, e⟩ := at_ i hi
    rw [e]; omega
  · obtain ⟨k, hk, h0, e, _, e2⟩ := at_ i hi
    rw [e2, ← e]
    exact come_trim ht hF (hF.come k hk h0)
  · obtain ⟨k, hk, h0, e, e1, e2⟩ := at_ i hi
    obtain ⟨t1, t2⟩ := hF.thru k hk h0
    have ek : C.getD k default = C[k] := by simp [List.getD, List.getElem?_eq_getElem hk]
    rw [ek] at t1 t2
    unfold Thru
    rw [e1, e2, (trimOp_nOf ht l C[k] _).2, (trimOp_nOf ht l C[k] _).1]
    refine ⟨t1, fun j hj => ?_⟩
    rw [← e, nx_trim (by omega) h0] at hj
    obtain ⟨j', hj', rfl⟩ := List.mem_map.1 hj
    obtain ⟨a, b, c⟩ := hF.height hk h0 hj'
    obtain ⟨g1, g2⟩ := go j' a c
    exact ⟨g1, by rw [g2, b]⟩
  · obtain ⟨k, hkl, h0, e, e1, e2⟩ := at_ i hi
    rw [e1] at hk ⊢
    rw [trimOp_kind] at hk
    have hin : C[k].a.toNat ∈ nx C[k] k := by unfold nx; rw [if_pos hk]; simp
    obtain ⟨a, b, c⟩ := hF.height hkl h0 hin
    have : (trimOp l C[k]).a.toNat = keepN l C[k].a.toNat := by unfold trimOp; rw [if_pos hk]; simp
    rw [this]
    exact (go _ a c).1

theorem trim_hts {p q : List GFunc} (ht : ∀ x, takesOf q x = takesOf p x) {C : List GOp} (hJ : Jumps C) {l : List Int} (h : hts p C = some l) : hts q (trimC C l) = some (keepL l) := by
  obtain ⟨h1, h2⟩ := trim_full ht (hts_full hJ h)
  exact (hts_finds h2).eq (b := some (keepL l)) h1
end Go.Proofs.Ytfajkebkhdcapaa
end
section
/- Plain facts of trimmed programs: right again. No program in sight; no condition. -/
namespace Go.Proofs.Ytfajkebkhdcapaa

theorem trimGo_len (l : List Int) : ∀ (C : List GOp) (m : List Int), (trimGo l C m).length ≤ C.length
  | [], m => by simp [trimGo]
  | x :: C, [] => by simp [trimGo]
  | x :: C, h :: m => by
    have := trimGo_len l C m
    unfold trimGo
    split <;> simp <;> omega

theorem opErr_ok {p : List GFunc} {f : GFunc} {x : GOp} (h : 0 ≤ x.kind ∧ x.kind ≤ 16 ∧ 0 ≤ x.a ∧ x.a ≤ mostOf p f x.kind ∧
    (x.kind = 11 ∨ x.kind = 13 → sizedB (p.getD x.a.toNat default) = true) ∧ (x.kind = 13 → (p.getD x.a.toNat default).args = 1)) : opErr p f x = 0 := by
  obtain ⟨h1, h2, h3, h4, h5, h6⟩ := h
  unfold opErr
  rw [if_neg (fun k => k ⟨h1, h2⟩), if_neg (fun k => k ⟨h3, h4⟩), if_neg (fun k => by have := h5 k.1; rw [this] at k; exact absurd k.2 (by decide)), if_neg (fun k => k.2 (h6 k.1))]
theorem opsErr_ok {p : List GFunc} {f : GFunc} : ∀ {l : List GOp}, (∀ x ∈ l, opErr p f x = 0) → opsErr p f l = 0
  | [], _ => rfl
  | x :: l, h => by
    unfold opsErr
    rw [if_neg (fun k => k (h x (by simp)))]
    exact opsErr_ok fun y hy => h y (by simp [hy])
theorem firstErr_ok {p : List GFunc} : ∀ {ks : List Nat}, (∀ k ∈ ks, funcErr p k = 0) → firstErr p ks = 0
  | [], _ => rfl
  | k :: ks, h => by
    unfold firstErr
    rw [if_neg (fun e => e (h k (by simp)))]
    exact firstErr_ok fun y hy => h y (by simp [hy])
theorem allHts_ok {p : List GFunc} : ∀ {ks : List Nat}, (∀ k ∈ ks, (hts p (p.getD k default).code).isSome = true) → allHts p ks = true
  | [], _ => rfl
  | k :: ks, h => by
    unfold allHts
    rw [h k (by simp), allHts_ok fun y hy => h y (by simp [hy])]
    rfl
theorem progErr_ok {p : List GFunc} (h : RightP p) : progErr p = 0 := by
  unfold progErr
  have := h.most
  have := h.pos
  rw [if_neg (by omega), if_neg (by omega), if_neg (fun k => k h.zero), firstErr_ok (fun k hk => h.func k (by simpa using hk)), if_neg (fun k => k rfl), allHts_ok (fun k hk => h.hts k (by simpa using hk)), if_pos rfl]

/-- What of a program's function trimming leaves as it was. -/
theorem trim_at {p : List GFunc} (k : Nat) (hk : k < p.length) : (p.map (trimG p)).getD k default = trimG p p[k] ∧ p.getD k default = p[k] := by
  simp [List.getD, List.getElem?_eq_getElem hk]
theorem trim_out {p : List GFunc} (k : Nat) (hk : ¬ k < p.length) : (p.map (trimG p)).getD k default = p.getD k default := by
  simp [List.getD, List.getElem?_eq_none (show p.length ≤ k by omega)]
theorem trim_args (p : List GFunc) (k : Nat) : ((p.map (trimG p)).getD k default).args = (p.getD k default).args ∧ ((p.map (trimG p)).getD k default).locals = (p.getD k default).locals := by
  by_cases hk : k < p.length
  · rw [(trim_at k hk).1, (trim_at k hk).2]
    exact ⟨rfl, rfl⟩
  · rw [trim_out k hk]
    exact ⟨rfl, rfl⟩
theorem trim_takes (p : List GFunc) (x : GOp) : takesOf (p.map (trimG p)) x = takesOf p x := by
  unfold takesOf
  rw [(trim_args p x.a.toNat).1]
theorem trim_sized (p : List GFunc) (k : Nat) : sizedB ((p.map (trimG p)).getD k default) = sizedB (p.getD k default) := by
  unfold sizedB
  rw [(trim_args p k).1, (trim_args p k).2]

theorem mem_trimGo {l : List Int} : ∀ {C : List GOp} {m : List Int} {y : GOp}, y ∈ trimGo l C m → ∃ x ∈ C, y = trimOp l x
  | [], m, y, h => by simp [trimGo] at h
  | x :: C, [], y, h => by simp [trimGo] at h
  | x :: C, u :: m, y, h => by
    have hr : y ∈ trimGo l C m → ∃ z ∈ x :: C, y = trimOp l z := fun h => by
      obtain ⟨z, hz, e⟩ := mem_trimGo h
      exact ⟨z, List.mem_cons_of_mem _ hz, e⟩
    unfold trimGo at h
    split at h
    · rcases List.mem_cons.1 h with h | h
      · exact ⟨x, List.mem_cons_self .., h⟩
      · exact hr h
    · exact hr h

/-- All of a function of a right program. -/
structure TrimFacts (p : List GFunc) (k : Nat) (hk : k < p.length) (l : List Int) : Prop where
  right : RightF p p[k]
  h : hts p p[k].code = some l
  g : trimG p p[k] = ⟨p[k].args, p[k].locals, trimC p[k].code l⟩
  hq : hts (p.map (trimG p)) (trimC p[k].code l) = some (keepL l)
  len : (trimC p[k].code l).length = (keepL l).length
  most : (trimC p[k].code l).length ≤ 24
  err : funcErr (p.map (trimG p)) k = 0

theorem trim_facts {p : List GFunc} (hp : progErr p = 0) (k : Nat) (hk : k < p.length) : ∃ l, TrimFacts p k hk l := by
  have hRP := progErr_zero hp
  have hf := hRP.func k hk
  obtain ⟨h0, h1, hR'⟩ := funcErr_zero hf
  have hR : RightF p p[k] := by have := hR' (by simpa using hk); simpa using this
  have hs := hRP.hts k hk
  rw [(trim_at k hk).2] at hs
  obtain ⟨l, hl⟩ := Option.isSome_iff_exists.1 hs
  have hg : trimG p p[k] = ⟨p[k].args, p[k].locals, trimC p[k].code l⟩ := by unfold trimG; rw [hl]; rfl
  have hF := hts_full hR.jumps hl
  obtain ⟨hF2, hJ2⟩ := trim_full (q := p.map (trimG p)) (trim_takes p) hF
  have hq := trim_hts (q := p.map (trimG p)) (trim_takes p) hR.jumps hl
  have hlen := trimGo_len l p[k].code l
  have hmost : (trimC p[k].code l).length ≤ 24 := Nat.le_trans hlen hR.len
  refine ⟨l, hR, hl, hg, hq, hF2.len.symm, hmost, ?_⟩
  unfold funcErr at hf ⊢
  have hkI : 0 ≤ (k : Int) ∧ (k : Int) < p.length := by omega
  rw [if_neg (fun e => e hkI)] at hf
  rw [if_neg (fun e => e (by rw [List.length_map]; exact hkI))]
  have e0 : (k : Int).toNat = k := by omega
  rw [e0] at hf ⊢
  rw [trim_sized]
  rw [(trim_at k hk).2] at hf ⊢
  rw [(trim_at k hk).1, hg]
  by_cases h2 : 24 < p[k].code.length
  · rw [if_pos h2] at hf; omega
  · rw [if_neg h2] at hf
    cases h3 : sizedB p[k] with
    | false => rw [if_pos h3] at hf; omega
    | true =>
      rw [if_neg (by rw [h3]; decide)] at hf
      rw [if_neg (by show ¬ 24 < (trimC p[k].code l).length; omega), if_neg (by decide)]
      refine opsErr_ok fun y hy => ?_
      have hy0 : y ∈ trimC p[k].code l := hy
      obtain ⟨x, hx, rfl⟩ := mem_trimGo hy0
      obtain ⟨k0, k1, k2, k3, k4, k5⟩ := ok_facts (ok_ops hf x hx)
      by_cases hj : x.kind = 9 ∨ x.kind = 10
      · have ek : (trimOp l x).kind = x.kind := trimOp_kind l x
        have ea : (trimOp l x).a = keepN l x.a.toNat := by unfold trimOp; rw [if_pos hj]
        obtain ⟨i, hi, he⟩ := List.getElem_of_mem hy0
        have e1 : (trimC p[k].code l).getD i default = trimOp l x := by simp [List.getD, List.getElem?_eq_getElem hi, he]
        have h9 := hJ2 i hi (by rw [e1, ek]; exact hj)
        rw [e1, ea] at h9
        refine opErr_ok ⟨by rw [ek]; omega, by rw [ek]; omega, by rw [ea]; omega, ?_, fun h => by rw [ek] at h; omega, fun h => by rw [ek] at h; omega⟩
        rw [ek, ea]
        unfold mostOf
        rw [if_neg (by omega), if_neg (by omega), if_pos hj]
        show (keepN l x.a.toNat : Int) ≤ ((trimC p[k].code l).length : Int) - 1
        simp only [Int.toNat_natCast] at h9
        omega
      · have ex : trimOp l x = x := by unfold trimOp; rw [if_neg hj]
        rw [ex]
        refine opErr_ok ⟨k0, k1, k2, ?_, fun h => by rw [trim_sized]; exact k4 h, fun h => by rw [(trim_args p _).1]; exact k5 h⟩
        unfold mostOf at k3 ⊢
        rw [if_neg hj] at k3 ⊢
        rw [List.length_map]
        exact k3

theorem trim_right {p : List GFunc} (hp : progErr p = 0) : progErr (p.map (trimG p)) = 0 := by
  have hRP := progErr_zero hp
  refine progErr_ok ⟨by rw [List.length_map]; exact hRP.most, by rw [List.length_map]; exact hRP.pos, by rw [(trim_args p 0).1]; exact hRP.zero, fun k hk => ?_, fun k hk => ?_⟩
  · rw [List.length_map] at hk
    obtain ⟨l, hl⟩ := trim_facts hp k hk
    exact hl.err
  · rw [List.length_map] at hk
    obtain ⟨l, hl⟩ := trim_facts hp k hk
    rw [(trim_at k hk).1, hl.g]
    show (hts _ (trimC p[k].code l)).isSome = true
    rw [hl.hq]
    rfl
end Go.Proofs.Ytfajkebkhdcapaa
end
section
/- A cell of the call's own: its value, and that it may be written. No condition. -/
set_option maxHeartbeats 400000
namespace Go.Proofs.Ytfajkebkhdcapaa
open Go Go.RowKit

/-- A cell's value, and that it may be written. -/
def Cx (W : World) (b j : Nat) (v : Value) : Prop := W.cell? ⟨b, j, none⟩ = some v ∧ W.frozen? ⟨b, j, none⟩ = false
theorem Cx.lt {W : World} {b j : Nat} {v : Value} (h : Cx W b j v) : b < W.heap.size := lt_of_cell h.1
theorem Cx.new (W : World) (vs : List Value) (t : TypeId) {j : Nat} {v : Value} (hj : vs[j]? = some v) : Cx (W.alloc (.cells vs.toArray t)) W.heap.size j v := by
  refine ⟨?_, World.frozen?_alloc_new W vs.toArray t j⟩
  have := World.cell?_alloc_new W vs.toArray t j
  rw [this, List.getElem?_toArray, hj]
theorem Cx.ext {W W' : World} {b j : Nat} {v : Value} (h : Cx W b j v) (he : Ext W W') : Cx W' b j v :=
  ⟨Ext.cell he h.1, by rw [Ext.keepF he _ (by rw [h.1]; rfl)]; exact h.2⟩
theorem Cx.chg {M : Nat → Prop} {W W' : World} {b j : Nat} {v : Value} (h : Cx W b j v) (hc : Chg M W W') (hM : ¬ M b) : Cx W' b j v :=
  ⟨Chg.cell hc hM h.1, by rw [Chg.frozen hc hM h.lt]; exact h.2⟩
theorem Cx.set {W : World} {b j : Nat} {v : Value} (h : Cx W b j v) (u : Value) : Cx (W.setCell ⟨b, j, none⟩ u) b j u :=
  ⟨World.cell?_setCell_same' _ _ _ (by rw [h.1]; rfl), by rw [World.frozen?_setCell]; exact h.2⟩
theorem Cx.other {W : World} {b j b' j' : Nat} {v : Value} (h : Cx W b j v) (hne : b ≠ b' ∨ j ≠ j') (u : Value) : Cx (W.setCell ⟨b', j', none⟩ u) b j v :=
  ⟨by rw [World.cell?_setCell_other (a := ⟨b', j', none⟩) (b := ⟨b, j, none⟩) (h := by intro e; simp only [Addr.mk.injEq] at e; omega)]; exact h.1, by rw [World.frozen?_setCell]; exact h.2⟩

/-- A whole result out of its cells. -/
theorem results_cell_mid {P : Program} {fn : Func} {p : Tmp} {ty : TypeId} (h : fn.results = #[.cell p ty]) (tmps : Array Value) (w : World) (b o : Nat) (cs : List Value) (d : TypeDesc)
    (hp : tmps.getD p undef = .pointer (some ⟨b, o, none⟩)) (hc : w.rangeAt b o cs) (hu : P.underlying ty = some d) (hd : d.isRow = true) (hi : (P.info? ty).map (·.size) = some cs.length) :
    (results fn tmps).run P w = .ok (.agg cs.toArray) w := by
  have hp' : tmps[p]?.getD undef = .pointer (some ⟨b, o, none⟩) := by simpa using hp
  simp [results, h, hp', asAddr, run_loadVar_mid w b o ty cs d hc hu hd hi]
theorem range3 {w : World} {b : Nat} {x y z : Value} (h0 : w.cell? ⟨b, 0, none⟩ = some x) (h1 : w.cell? ⟨b, 1, none⟩ = some y) (h2 : w.cell? ⟨b, 2, none⟩ = some z) : w.rangeAt b 0 [x, y, z] := by
  intro j v hj
  rw [Nat.zero_add]
  match j, hj with
  | 0, hj => cases hj; exact h0
  | 1, hj => cases hj; exact h1
  | 2, hj => cases hj; exact h2

end Go.Proofs.Ytfajkebkhdcapaa
end
