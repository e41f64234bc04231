/- Merged texts: contracts and plain facts, one part behind another; each part begins with what it says. -/
import Derived.Test.YtpcjkfppacnkgaaGreatDoorGNAB
import Derived.Test.YtpcjkfppacnkgaaGreatDoorGNAC
import Derived.Test.YtpcjkfppacnkgaaGreatDoorGNAD
import Derived.Test.YtpcjkfppacnkgaaGreatDoorGNAE
section
/- Contracts of flow.Heights, the document's HeightsOf, SameInts and next. -/
set_option maxHeartbeats 2000000
set_option maxRecDepth 100000
namespace Go.Proofs.YtpcjkfppacnkgaaGreatDoor
open Go Go.RowKit

/-- The error of Heights, and the heights. -/
def hErr (p : List GFunc) (f : Int) : Int := if funcErr p f ≠ 0 then funcErr p f else if hts p (p.getD f.toNat default).code = none then 1 else 0
def hList (p : List GFunc) (f : Int) : List Int := if funcErr p f ≠ 0 then [] else (hts p (p.getD f.toNat default).code).getD []

theorem hErr_bad {p : List GFunc} {f : Int} (h : funcErr p f ≠ 0) : hErr p f = funcErr p f ∧ hList p f = [] := by
  simp [hErr, hList, h]
theorem hErr_none {p : List GFunc} {f : Int} (h : funcErr p f = 0) (hn : hts p (p.getD f.toNat default).code = none) : hErr p f = 1 ∧ hList p f = [] := by
  simp only [hErr, hList, h, hn]; simp
theorem hErr_some {p : List GFunc} {f : Int} {l : List Int} (h : funcErr p f = 0) (hn : hts p (p.getD f.toNat default).code = some l) : hErr p f = 0 ∧ hList p f = l := by
  simp only [hErr, hList, h, hn]; simp

def HRet (B : Nat) (p : List GFunc) (f : Int) (e : Ending) (w' : World) : Prop := ∃ v, e = .returned (.tuple #[v, .int .i64 (hErr p f)]) ∧ Ints w' (B ≤ ·) v (hList p f)

theorem hts_here {p : List GFunc} {f : Int} (h : funcErr p f = 0) : ∃ (n : Nat) (hn : n < p.length), f = n ∧ p.getD f.toNat default = p[n] ∧ RightF p p[n] := by
  obtain ⟨h0, h1, hR⟩ := funcErr_zero h
  have hn : f.toNat < p.length := by omega
  exact ⟨f.toNat, hn, by omega, by simp [List.getD, List.getElem?_eq_getElem hn], hR hn⟩

theorem flowHeights_any (p : List GFunc) (v : Value) (S : Nat → Prop) (f : Int) (w : World) (hp : Funcs w S v p) :
    Calls Tryz.prog 98 #[v, .int .i64 f] w fun e w' => HRet w.heap.size p f e w' ∧ Ext w w' := by
  have HP := Lib.hid hp
  obtain ⟨a, cap, rfl, _, _, _⟩ := hp
  by_cases h0 : funcErr p f = 0
  · obtain ⟨n, hn, rfl, hg, hR⟩ := hts_here h0
    have H0 := Lib.hid h0
    clear h0
    cases hh : hts p p[n].code with
    | none =>
      have hx := hErr_none H0.out (by rw [hg]; exact hh)
      have HH := Lib.hid hh
      clear hh
      go_enter Tryz.func98, Tryz.ntmps98
      go_wp2_with (first
        | (go_at_call 88; (with_reducible refine (flowOf_any p _ S n _ (Funcs.stays (Ext.stays hb) HP.out) hn hR).mono ?_); rintro e w2 ⟨hr, hb2⟩; rw [HH.out] at hr; obtain rfl := hr)
        | (go_at_call 87; (with_reducible refine (check_any p _ S n _ HP.out).mono ?_); rintro e w1 ⟨rfl, hb⟩; rw [H0.out]))
      go_ret2
      exact ⟨⟨_, by rw [hx.1]; rfl, by rw [hx.2]; exact Sl.nil _ _ _⟩, hb.trans hb2⟩
    | some l =>
      have hx := hErr_some H0.out (by rw [hg]; exact hh)
      have HH := Lib.hid hh
      clear hh
      go_enter Tryz.func98, Tryz.ntmps98
      go_wp2_with (first
        | (go_at_call 88; (with_reducible refine (flowOf_any p _ S n _ (Funcs.stays (Ext.stays hb) HP.out) hn hR).mono ?_); rintro e w2 ⟨hr, hb2⟩; rw [HH.out] at hr; obtain ⟨vl, rfl, hl⟩ := hr; obtain ⟨al, cl, rfl, _, _, _⟩ := (⟨hl, trivial⟩ : _ ∧ True).1)
        | (go_at_call 87; (with_reducible refine (check_any p _ S n _ HP.out).mono ?_); rintro e w1 ⟨rfl, hb⟩; rw [H0.out]))
      go_ret2
      exact ⟨⟨_, by rw [hx.1]; rfl, by rw [hx.2]; exact Ints.stays (Stays.widen (fun b hB => Nat.le_trans hb.size hB)) hl⟩, hb.trans hb2⟩
  · have hx := hErr_bad h0
    obtain ⟨r, hr⟩ : ∃ r, funcErr p f = r := ⟨_, rfl⟩
    rw [hr] at hx h0
    have HR := Lib.hid hr
    clear hr
    have TB : (r != 0) = true := bne_iff_ne.2 h0
    clear h0
    go_enter Tryz.func98, Tryz.ntmps98
    go_wp2_with (first
      | (go_at_call 87; (with_reducible refine (check_any p _ S f _ HP.out).mono ?_); rintro e w1 ⟨rfl, hb⟩; rw [HR.out]))
    go_ret2
    exact ⟨⟨_, by rw [hx.1]; rfl, by rw [hx.2]; exact Sl.nil _ _ _⟩, hb⟩
end Go.Proofs.YtpcjkfppacnkgaaGreatDoor
end
section
/- Plain facts of programs: their errors, and who calls whom. No program in sight; no condition. -/
namespace Go.Proofs.YtpcjkfppacnkgaaGreatDoor

def firstErr (p : List GFunc) : List Nat → Int
  | [] => 0
  | k :: ks => if funcErr p k ≠ 0 then funcErr p k else firstErr p ks
def allHts (p : List GFunc) : List Nat → Bool
  | [] => true
  | k :: ks => (hts p (p.getD k default).code).isSome && allHts p ks

/-- A program's error. -/
def progErr (p : List GFunc) : Int :=
  if 5 < p.length then 2 else if p.length = 0 then 5 else if (p.getD 0 default).args ≠ 0 then 1
  else if firstErr p (List.range p.length) ≠ 0 then firstErr p (List.range p.length) else if allHts p (List.range p.length) = true then 0 else 1

/-- From a place on. -/
def firstFrom (p : List GFunc) (i : Nat) : Int := firstErr p (List.range' i (p.length - i))
def allFrom (p : List GFunc) (i : Nat) : Bool := allHts p (List.range' i (p.length - i))
theorem firstFrom_zero (p : List GFunc) : firstErr p (List.range p.length) = firstFrom p 0 := by unfold firstFrom; rw [List.range_eq_range', Nat.sub_zero]
theorem allFrom_zero (p : List GFunc) : allHts p (List.range p.length) = allFrom p 0 := by unfold allFrom; rw [List.range_eq_range', Nat.sub_zero]
theorem firstFrom_end (p : List GFunc) : firstFrom p p.length = 0 := by unfold firstFrom; rw [Nat.sub_self]; rfl
theorem allFrom_end (p : List GFunc) : allFrom p p.length = true := by unfold allFrom; rw [Nat.sub_self]; rfl
theorem firstFrom_step (p : List GFunc) {i : Nat} (h : i < p.length) : firstFrom p i = if funcErr p i ≠ 0 then funcErr p i else firstFrom p (i + 1) := by
  unfold firstFrom
  rw [show p.length - i = (p.length - (i + 1)) + 1 by omega, List.range'_succ]
  rfl
theorem allFrom_step (p : List GFunc) {i : Nat} (h : i < p.length) : allFrom p i = ((hts p (p.getD i default).code).isSome && allFrom p (i + 1)) := by
  unfold allFrom
  rw [show p.length - i = (p.length - (i + 1)) + 1 by omega, List.range'_succ]
  rfl
theorem firstFrom_nil {p : List GFunc} : ∀ (m i : Nat), p.length - i = m → firstFrom p i = 0 → ∀ k, i ≤ k → k < p.length → funcErr p k = 0
  | 0, i, hm, _, k, h1, h2 => by omega
  | m + 1, i, hm, h, k, h1, h2 => by
    rw [firstFrom_step p (by omega)] at h
    by_cases he : funcErr p i = 0
    · rw [if_neg (fun h => h he)] at h
      by_cases hk : k = i
      · rw [hk]; exact he
      · exact firstFrom_nil m (i + 1) (by omega) h k (by omega) h2
    · rw [if_pos he] at h; exact absurd h he
theorem allFrom_nil {p : List GFunc} : ∀ (m i : Nat), p.length - i = m → allFrom p i = true → ∀ k, i ≤ k → k < p.length → (hts p (p.getD k default).code).isSome = true
  | 0, i, hm, _, k, h1, h2 => by omega
  | m + 1, i, hm, h, k, h1, h2 => by
    rw [allFrom_step p (by omega), Bool.and_eq_true] at h
    by_cases hk : k = i
    · rw [hk]; exact h.1
    · exact allFrom_nil m (i + 1) (by omega) h.2 k (by omega) h2

structure RightP (p : List GFunc) : Prop where
  most : p.length ≤ 5
  pos : 0 < p.length
  zero : (p.getD 0 default).args = 0
  func : ∀ k, k < p.length → funcErr p k = 0
  hts : ∀ k, k < p.length → (Proofs.YtpcjkfppacnkgaaGreatDoor.hts p (p.getD k default).code).isSome = true
theorem progErr_zero {p : List GFunc} (h : progErr p = 0) : RightP p := by
  unfold progErr at h
  by_cases h1 : 5 < p.length
  · rw [if_pos h1] at h; cases h
  · rw [if_neg h1] at h
    by_cases h2 : p.length = 0
    · rw [if_pos h2] at h; cases h
    · rw [if_neg h2] at h
      by_cases h3 : (p.getD 0 default).args ≠ 0
      · rw [if_pos h3] at h; cases h
      · rw [if_neg h3, firstFrom_zero, allFrom_zero] at h
        by_cases h4 : firstFrom p 0 = 0
        · rw [if_neg (fun k => k h4)] at h
          by_cases h5 : allFrom p 0 = true
          · exact ⟨by omega, by omega, by simpa using h3, fun k hk => firstFrom_nil _ 0 rfl h4 k (Nat.zero_le _) hk, fun k hk => allFrom_nil _ 0 rfl h5 k (Nat.zero_le _) hk⟩
          · rw [if_neg h5] at h; cases h
        · rw [if_pos h4] at h; exact absurd h h4

/-- Whom a function names. -/
def callees (p : List GFunc) (k : Nat) : List Nat := ((p.getD k default).code.filter (fun x => decide (x.kind = 11 ∨ x.kind = 13))).map (fun x => x.a.toNat)
inductive Reach (p : List GFunc) (f : Nat) : Nat → Prop
  | here : Reach p f f
  | step {k j : Nat} : Reach p f k → j ∈ callees p k → Reach p f j

theorem Reach.trans {p : List GFunc} {a b c : Nat} (h : Reach p a b) (k : Reach p b c) : Reach p a c := by
  induction k with
  | here => exact h
  | step _ hj ih => exact .step ih hj

/-- The list of those that are called. -/
structure IsCalls (p : List GFunc) (f : Nat) (o : List Bool) : Prop where
  len : o.length = p.length
  self : o.getD f false = true
  closed : ∀ k, o.getD k false = true → ∀ j ∈ callees p k, o.getD j false = true
  only : ∀ k, o.getD k false = true → Reach p f k
/-! The visit: what one call of it makes of the list. -/
structure Vis (p : List GFunc) (k : Nat) (a b : List Bool) : Prop where
  len : b.length = a.length
  more : ∀ i, a.getD i false = true → b.getD i false = true
  self : b.getD k false = true
  closed : ∀ i, b.getD i false = true → a.getD i false = false → ∀ j ∈ callees p i, b.getD j false = true
  only : ∀ i, b.getD i false = true → a.getD i false = false → Reach p k i

def falses (l : List Bool) : Nat := l.countP (fun x => !x)

theorem Vis.here {p : List GFunc} {k : Nat} {a : List Bool} (h : a.getD k false = true) : Vis p k a a :=
  ⟨rfl, fun _ h => h, h, fun i h1 h2 => (by rw [h1] at h2; cases h2), fun i h1 h2 => (by rw [h1] at h2; cases h2)⟩

theorem Vis.calls {p : List GFunc} {k : Nat} {o : List Bool} {n : Nat} (hn : n = p.length) (h : Vis p k (List.replicate n false) o) : IsCalls p k o := by
  have hz : ∀ i, (List.replicate n false).getD i false = false := fun i => by
    simp only [List.getD, List.getElem?_replicate]; split <;> rfl
  exact ⟨by rw [h.len, List.length_replicate, hn], h.self, fun i hi => h.closed i hi (hz i), fun i hi => h.only i hi (hz i)⟩

/-- In the midst of a visit of k: the first i ops are through. -/
structure Mid (p : List GFunc) (k i : Nat) (a b : List Bool) : Prop where
  len : b.length = a.length
  more : ∀ i, a.getD i false = true → b.getD i false = true
  self : b.getD k false = true
  mine : ∀ m, m < i → ∀ (hm : m < (p.getD k default).code.length), ((p.getD k default).code[m].kind = 11 ∨ (p.getD k default).code[m].kind = 13) → b.getD (p.getD k default).code[m].a.toNat false = true
  closed : ∀ i, i ≠ k → b.getD i false = true → a.getD i false = false → ∀ j ∈ callees p i, b.getD j false = true
  only : ∀ i, b.getD i false = true → a.getD i false = false → Reach p k i

theorem getDB_set_same {l : List Bool} {i : Nat} (h : i < l.length) (n : Bool) : (l.set i n).getD i false = n := by simp [List.getD, h]
theorem getDB_set_other {l : List Bool} {i j : Nat} (h : i ≠ j) (n : Bool) : (l.set i n).getD j false = l.getD j false := by simp [List.getD, h]

theorem Mid.start {p : List GFunc} {k : Nat} {a : List Bool} (hk : k < a.length) : Mid p k 0 a (a.set k true) := by
  refine ⟨by simp, fun i h => ?_, getDB_set_same hk true, fun m hm => by omega, fun i hi h1 h2 => ?_, fun i h1 h2 => ?_⟩
  · by_cases e : k = i
    · subst e; exact getDB_set_same hk true
    · rw [getDB_set_other e]; exact h
  · rw [getDB_set_other (fun e => hi e.symm)] at h1; rw [h1] at h2; cases h2
  · by_cases e : k = i
    · subst e; exact .here
    · rw [getDB_set_other e] at h1; rw [h1] at h2; cases h2
theorem Mid.visit {p : List GFunc} {k i : Nat} {a b c : List Bool} (h : Mid p k i a b) (hi : i < (p.getD k default).code.length) (hk : (p.getD k default).code[i].kind = 11 ∨ (p.getD k default).code[i].kind = 13)
    (hv : Vis p (p.getD k default).code[i].a.toNat b c) : Mid p k (i + 1) a c := by
  have hin : (p.getD k default).code[i].a.toNat ∈ callees p k := by
    unfold callees
    exact List.mem_map.2 ⟨_, List.mem_filter.2 ⟨List.getElem_mem hi, by simpa using hk⟩, rfl⟩
  refine ⟨by rw [hv.len, h.len], fun j hj => hv.more j (h.more j hj), hv.more k h.self, fun m hm hm' hc => ?_, fun j hj h1 h2 => ?_, fun j h1 h2 => ?_⟩
  · by_cases e : m = i
    · subst e; exact hv.self
    · exact hv.more _ (h.mine m (by omega) hm' hc)
  · intro q hq
    by_cases hb : b.getD j false = true
    · exact hv.more _ (h.closed j hj hb h2 q hq)
    · exact hv.closed j h1 (by simpa using hb) q hq
  · by_cases hb : b.getD j false = true
    · exact h.only j hb h2
    · exact (Reach.step .here hin).trans (hv.only j h1 (by simpa using hb))
theorem Mid.done {p : List GFunc} {k : Nat} {a b : List Bool} (h : Mid p k (p.getD k default).code.length a b) : Vis p k a b := by
  refine ⟨h.len, h.more, h.self, fun i h1 h2 j hj => ?_, h.only⟩
  by_cases e : i = k
  · subst e
    unfold callees at hj
    obtain ⟨x, hx, rfl⟩ := List.mem_map.1 hj
    obtain ⟨hx1, hx2⟩ := List.mem_filter.1 hx
    obtain ⟨m, hm, rfl⟩ := List.getElem_of_mem hx1
    exact h.mine m hm hm (by simpa using hx2)
  · exact h.closed i e h1 h2 j hj

theorem falses_mono : ∀ {a b : List Bool}, b.length = a.length → (∀ i, a.getD i false = true → b.getD i false = true) → falses b ≤ falses a
  | [], [], _, _ => Nat.le_refl _
  | x :: a, y :: b, hl, h => by
    have ih := falses_mono (a := a) (b := b) (by simpa using hl) (fun i hi => by have := h (i + 1) (by simpa using hi); simpa using this)
    have h0 := h 0
    simp only [List.getD_cons_zero] at h0
    unfold falses at ih ⊢
    rw [List.countP_cons, List.countP_cons]
    cases x <;> cases y <;> simp_all <;> omega
/-! The rounds. -/

/-- So far: all that is in comes from f; it is closed, or so many rounds are still to come. -/
structure RndInv (p : List GFunc) (f r : Nat) (o : List Bool) : Prop where
  len : o.length = p.length
  self : o.getD f false = true
  only : ∀ i, o.getD i false = true → Reach p f i
  near : (∀ k, o.getD k false = true → ∀ j ∈ callees p k, o.getD j false = true) ∨ falses o + r + 1 ≤ p.length

/-- In the midst of a round that began at a: the functions ahead of k are through. -/
structure RndMid (p : List GFunc) (k : Nat) (a b : List Bool) : Prop where
  len : b.length = a.length
  more : ∀ i, a.getD i false = true → b.getD i false = true
  done : ∀ m, m < k → a.getD m false = true → ∀ j ∈ callees p m, b.getD j false = true
  only : ∀ i, b.getD i false = true → ∃ s, a.getD s false = true ∧ Reach p s i

/-- And of function k the first i ops. -/
structure RndOp (p : List GFunc) (k i : Nat) (a b : List Bool) : Prop extends RndMid p k a b where
  mine : a.getD k false = true → ∀ m, m < i → ∀ (hm : m < (p.getD k default).code.length), ((p.getD k default).code[m].kind = 11 ∨ (p.getD k default).code[m].kind = 13) → b.getD (p.getD k default).code[m].a.toNat false = true

theorem RndMid.start (p : List GFunc) (a : List Bool) : RndMid p 0 a a := ⟨rfl, fun _ h => h, fun m hm => by omega, fun i hi => ⟨i, hi, .here⟩⟩
theorem RndOp.start {p : List GFunc} {k : Nat} {a b : List Bool} (h : RndMid p k a b) : RndOp p k 0 a b := ⟨h, fun _ m hm => by omega⟩
theorem RndOp.put {p : List GFunc} {k i : Nat} {a b : List Bool} (h : RndOp p k i a b) (hi : i < (p.getD k default).code.length) (hc : (p.getD k default).code[i].kind = 11 ∨ (p.getD k default).code[i].kind = 13)
    (hb : b.getD k false = true) (hl : (p.getD k default).code[i].a.toNat < b.length) : RndOp p k (i + 1) a (b.set (p.getD k default).code[i].a.toNat true) := by
  have up : ∀ j, b.getD j false = true → (b.set (p.getD k default).code[i].a.toNat true).getD j false = true := fun j hj => by
    by_cases e : (p.getD k default).code[i].a.toNat = j
    · subst e; exact getDB_set_same hl true
    · rw [getDB_set_other e]; exact hj
  have hin : (p.getD k default).code[i].a.toNat ∈ callees p k := by
    unfold callees
    exact List.mem_map.2 ⟨_, List.mem_filter.2 ⟨List.getElem_mem hi, by simpa using hc⟩, rfl⟩
  refine { len := by rw [List.length_set, h.len], more := fun j hj => up j (h.more j hj), done := fun m hm ha j hj => up j (h.done m hm ha j hj), only := fun j hj => ?_, mine := fun ha m hm hm' hk => ?_ }
  · by_cases e : (p.getD k default).code[i].a.toNat = j
    · obtain ⟨s, hs, hr⟩ := h.only k hb
      exact ⟨s, hs, .step hr (e ▸ hin)⟩
    · rw [getDB_set_other e] at hj; exact h.only j hj
  · by_cases e : m = i
    · subst e; exact getDB_set_same hl true
    · exact up _ (h.mine ha m (by omega) hm' hk)
theorem getDB_out {l : List Bool} {k : Nat} (h : l.getD k false = true) : k < l.length := by
  by_cases hk : k < l.length
  · exact hk
  · simp [List.getD, List.getElem?_eq_none (by omega : l.length ≤ k)] at h
theorem falses_eq : ∀ {a b : List Bool}, b.length = a.length → (∀ i, a.getD i false = true → b.getD i false = true) → falses b = falses a → a = b
  | [], [], _, _, _ => rfl
  | x :: a, y :: b, hl, h, he => by
    have hl' : b.length = a.length := by simpa using hl
    have hm : ∀ i, a.getD i false = true → b.getD i false = true := fun i hi => by have := h (i + 1) (by simpa using hi); simpa using this
    have h0 := h 0
    have h1 := falses_mono hl' hm
    simp only [List.getD_cons_zero] at h0
    unfold falses at he h1
    rw [List.countP_cons, List.countP_cons] at he
    have hxy : x = y := by cases x <;> cases y <;> simp_all <;> omega
    subst hxy
    rw [falses_eq hl' hm (by unfold falses; omega)]

theorem RndInv.next {p : List GFunc} {f r : Nat} {a b : List Bool} (h : RndInv p f r a) (hm : RndMid p p.length a b) : RndInv p f (r + 1) b := by
  have hlen := hm.len.trans h.len
  have hclosed : a = b → ∀ k, b.getD k false = true → ∀ j ∈ callees p k, b.getD j false = true := fun e k hk j hj => by
    subst e
    exact hm.done k (by rw [← h.len]; exact getDB_out hk) hk j hj
  refine ⟨hlen, hm.more f h.self, fun i hi => ?_, ?_⟩
  · obtain ⟨s, hs, hr⟩ := hm.only i hi
    exact (h.only s hs).trans hr
  · by_cases e : a = b
    · exact .inl (hclosed e)
    · have hle := falses_mono hm.len hm.more
      have hne : falses b ≠ falses a := fun he => e (falses_eq hm.len hm.more he)
      rcases h.near with hc | hn
      · exfalso
        have cl : ∀ s i, a.getD s false = true → Reach p s i → a.getD i false = true := fun s i hs hr => by
          induction hr with
          | here => exact hs
          | step _ hj ih => exact hc _ ih _ hj
        refine e (falses_eq hm.len hm.more (Nat.le_antisymm hle (falses_mono hm.len.symm fun i hi => ?_)))
        obtain ⟨s, hs, hr⟩ := hm.only i hi
        exact cl s i hs hr
      · exact .inr (by omega)
end Go.Proofs.YtpcjkfppacnkgaaGreatDoor
end
section
/- Trimming: plain facts. No program in sight; no condition. -/
namespace Go.Proofs.YtpcjkfppacnkgaaGreatDoor

/-- How many of the first n ops are left. -/
def keepN (l : List Int) (n : Nat) : Nat := (l.take n).countP (fun h => decide (0 ≤ h))
def trimOp (l : List Int) (x : GOp) : GOp := if x.kind = 9 ∨ x.kind = 10 then ⟨x.kind, keepN l x.a.toNat⟩ else x
/-- What is left of ops, of which the first has the height at the head of m. -/
def trimGo (l : List Int) : List GOp → List Int → List GOp
  | x :: C, h :: m => if 0 ≤ h then trimOp l x :: trimGo l C m else trimGo l C m
  | _, _ => []
def trimC (C : List GOp) (l : List Int) : List GOp := trimGo l C l
def keepL (l : List Int) : List Int := l.filter (fun h => decide (0 ≤ h))
def trimG (p : List GFunc) (F : GFunc) : GFunc := ⟨F.args, F.locals, trimC F.code ((hts p F.code).getD [])⟩

theorem keepN_zero (l : List Int) : keepN l 0 = 0 := by simp [keepN]
theorem keepN_succ {l : List Int} {n : Nat} (h : n < l.length) : keepN l (n + 1) = keepN l n + if 0 ≤ l.getD n 0 then 1 else 0 := by
  unfold keepN
  rw [List.take_succ_eq_append_getElem h, List.countP_append]
  simp only [List.countP_singleton, List.getD, List.getElem?_eq_getElem h, Option.getD_some]
  split <;> simp_all
theorem Full.height {p : List GFunc} {C : List GOp} {l : List Int} (hF : Full p C l) {k j : Nat} (hk : k < C.length) (h0 : 0 ≤ l.getD k 0) (hj : j ∈ nx C[k] k) : j < C.length ∧ l.getD j 0 = nOf p C[k] (l.getD k 0) ∧ 0 ≤ l.getD j 0 := by
  obtain ⟨t1, t2⟩ := hF.thru k hk h0
  have e : C.getD k default = C[k] := by simp [List.getD, List.getElem?_eq_getElem hk]
  rw [e] at t1 t2
  obtain ⟨a, b⟩ := t2 j hj
  exact ⟨a, b, by rw [b]; exact nOf_nonneg t1⟩

end Go.Proofs.YtpcjkfppacnkgaaGreatDoor
end
section
/- Plain facts of trimmed programs: right again. No program in sight; no condition. -/
namespace Go.Proofs.YtpcjkfppacnkgaaGreatDoor

theorem trimGo_len (l : List Int) : ∀ (C : List GOp) (m : List Int), (trimGo l C m).length ≤ C.length
  | [], m => by simp [trimGo]
  | x :: C, [] => by simp [trimGo]
  | x :: C, h :: m => by
    have := trimGo_len l C m
    unfold trimGo
    split <;> simp <;> omega

/-- All of a function of a right program. -/
structure TrimFacts (p : List GFunc) (k : Nat) (hk : k < p.length) (l : List Int) : Prop where
  right : RightF p p[k]
  h : hts p p[k].code = some l
  g : trimG p p[k] = ⟨p[k].args, p[k].locals, trimC p[k].code l⟩
  hq : hts (p.map (trimG p)) (trimC p[k].code l) = some (keepL l)
  len : (trimC p[k].code l).length = (keepL l).length
  most : (trimC p[k].code l).length ≤ 24
  err : funcErr (p.map (trimG p)) k = 0

end Go.Proofs.YtpcjkfppacnkgaaGreatDoor
end
