/- Merged texts: contracts and plain facts, one part behind another; each part begins with what it says. -/
import Derived.Test.YtgahbngbpfilgaaGreatGEAB
import Derived.WalkKit
section
set_option maxHeartbeats 400000
set_option maxRecDepth 100000
namespace Go.Proofs.YtgahbngbpfilgaaGreat
open Go Go.RowKit
theorem known_true {k : Int} (h : 0 ≤ k) (h' : k ≤ 16) : knownB k = true := by unfold knownB; simp; omega
theorem known_false {k : Int} (h : ¬ (0 ≤ k ∧ k ≤ 16)) : knownB k = false := by unfold knownB; simp; omega
theorem leaves_any (x : GOp) (w : World) (hk : 0 ≤ x.kind) (hk' : x.kind ≤ 16) :
  Calls Tryz.prog 66 #[.agg #[.int .i64 x.kind, .int .i64 x.a]] w fun e w' => e = .returned (.int .i64 (leavesOf x)) ∧ Ext w w' := by
 have e0 : Ext w (w.alloc (.cells #[.int .i64 x.kind, .int .i64 x.a] 59)) := (Ext.refl w).alloc _
 go_enter Tryz.func66, Tryz.ntmps66
 go_wp2
 all_goals (go_ret; refine ⟨ret_int ?_, e0⟩; unfold leavesOf; split <;> simp at * <;> omega)
theorem takes_any (p : List GFunc) (v : Value) (S : Nat → Prop) (x : GOp) (w : World) (hp : Funcs w S v p) (hk : 0 ≤ x.kind) (hk' : x.kind ≤ 16) (ha : x.kind = 11 → 0 ≤ x.a ∧ x.a < p.length) :
  Calls Tryz.prog 65 #[v, .agg #[.int .i64 x.kind, .int .i64 x.a]] w fun e w' => e = .returned (.int .i64 (takesOf p x)) ∧ Ext w w' := by
 have e0 : Ext w (w.alloc (.cells #[.int .i64 x.kind, .int .i64 x.a] 59)) := (Ext.refl w).alloc _
 by_cases h11 : x.kind = 11
 ·obtain ⟨h0, h1⟩ := ha h11
  obtain ⟨k, xa⟩ := x
  simp at h11 h0 h1
  subst h11
  obtain ⟨b, o, cap, rfl, hcap, _, hf0, _⟩ := hp.get (i := xa.toNat) (by omega)
  have hff := hf0.2.1
  have RA := alloc_keep
  clear hp hf0 ha
  go_enter Tryz.func65, Tryz.ntmps65
  go_wp2
  go_ret
  refine ⟨ret_int ?_, e0⟩
  simp [takesOf]
  rw [List.getElem?_eq_getElem (by omega)]
  rfl
 ·clear ha hp
  go_enter Tryz.func65, Tryz.ntmps65
  go_wp2
  all_goals first
   | (go_ret; refine ⟨ret_int ?_, e0⟩; unfold takesOf; (repeat' split) <;> simp at * <;> omega)
   | (exfalso; simp at *; omega)
end Go.Proofs.YtgahbngbpfilgaaGreat
end
section
set_option maxHeartbeats 400000
set_option maxRecDepth 100000
namespace Go.Proofs.YtgahbngbpfilgaaGreat
open Go Go.RowKit
def chooseOf (c n : Int) : Int := (if c < 0 then -(c + 1) else c) % n
theorem chooseOf_lt (c n : Int) (hn : 0 < n) : 0 ≤ chooseOf c n ∧ chooseOf c n < n := ⟨Int.emod_nonneg _ (by omega), Int.emod_lt_of_pos _ hn⟩
theorem choose_any (c n : Int) (w : World) (hc : I64 c) (hn : 0 < n) (hn' : n ≤ 140737488355328) :
  Calls Tryz.prog 9 #[.int .i64 c, .int .i64 n] w fun e w' => e = .returned (.int .i64 (chooseOf c n)) ∧ w = w' := by
 unfold I64 at hc
 obtain ⟨hc0, hc1⟩ := hc
 unfold chooseOf
 by_cases h : c < 0
 ·rw [if_pos h]
  go_enter Tryz.func9, Tryz.ntmps9
  go_wp2
  go_ret
  exact ⟨ret_int (by show -(c + 1).tmod n = -(c + 1) % n; rw [← Int.neg_tmod, Int.tmod_eq_emod_of_nonneg (by omega)]), rfl⟩
 ·rw [if_neg h]
  go_enter Tryz.func9, Tryz.ntmps9
  go_wp2
  go_ret
  exact ⟨rfl, rfl⟩
theorem ok_ops {p : List GFunc} {f : GFunc} : ∀ {l : List GOp}, opsErr p f l = 0 → ∀ x ∈ l, opErr p f x = 0
 | [], _, x, hx => absurd hx (by simp)
 | y :: l, h, x, hx => by
  have hy : opErr p f y = 0 := by
   by_cases h0 : opErr p f y = 0
   ·exact h0
   ·simp [opsErr, h0] at h
  rcases List.mem_cons.1 hx with rfl | hx
  ·exact hy
  ·exact ok_ops (by simpa [opsErr, hy] using h) x hx
theorem ok_facts {p : List GFunc} {f : GFunc} {x : GOp} (h : opErr p f x = 0) : 0 ≤ x.kind ∧ x.kind ≤ 16 ∧ 0 ≤ x.a ∧ x.a ≤ mostOf p f x.kind ∧
  (x.kind = 11 ∨ x.kind = 13 → sizedB (p.getD x.a.toNat default) = true) ∧ (x.kind = 13 → (p.getD x.a.toNat default).args = 1) := by
 unfold opErr at h
 by_cases h1 : ¬ (0 ≤ x.kind ∧ x.kind ≤ 16)
 ·rw [if_pos h1] at h; omega
 ·rw [if_neg h1] at h
  by_cases h2 : ¬ (0 ≤ x.a ∧ x.a ≤ mostOf p f x.kind)
  ·rw [if_pos h2] at h; omega
  ·rw [if_neg h2] at h
   by_cases h3 : (x.kind = 11 ∨ x.kind = 13) ∧ sizedB (p.getD x.a.toNat default) = false
   ·rw [if_pos h3] at h; omega
   ·rw [if_neg h3] at h
    by_cases h4 : x.kind = 13 ∧ (p.getD x.a.toNat default).args ≠ 1
    ·rw [if_pos h4] at h; omega
    ·refine ⟨by omega, by omega, by omega, by omega, fun hk => ?_, fun hk => ?_⟩
     ·cases hs : sizedB (p.getD x.a.toNat default)
      ·exact absurd ⟨hk, hs⟩ h3
      ·rfl
     ·by_cases ha : (p.getD x.a.toNat default).args = 1
      ·exact ha
      ·exact absurd ⟨hk, ha⟩ h4
end Go.Proofs.YtgahbngbpfilgaaGreat
end
section
namespace Go.Proofs.YtgahbngbpfilgaaGreat
def firstErr (p : List GFunc) : List Nat → Int
 | [] => 0
 | k :: ks => if funcErr p k ≠ 0 then funcErr p k else firstErr p ks
def allHts (p : List GFunc) : List Nat → Bool
 | [] => true
 | k :: ks => (hts p (p.getD k default).code).isSome && allHts p ks
def progErr (p : List GFunc) : Int :=
 if 5 < p.length then 2 else if p.length = 0 then 5 else if (p.getD 0 default).args ≠ 0 then 1
 else if firstErr p (List.range p.length) ≠ 0 then firstErr p (List.range p.length) else if allHts p (List.range p.length) = true then 0 else 1
def firstFrom (p : List GFunc) (i : Nat) : Int := firstErr p (List.range' i (p.length - i))
def allFrom (p : List GFunc) (i : Nat) : Bool := allHts p (List.range' i (p.length - i))
theorem firstFrom_zero (p : List GFunc) : firstErr p (List.range p.length) = firstFrom p 0 := by unfold firstFrom; rw [List.range_eq_range', Nat.sub_zero]
theorem allFrom_zero (p : List GFunc) : allHts p (List.range p.length) = allFrom p 0 := by unfold allFrom; rw [List.range_eq_range', Nat.sub_zero]
theorem firstFrom_end (p : List GFunc) : firstFrom p p.length = 0 := by unfold firstFrom; rw [Nat.sub_self]; rfl
theorem allFrom_end (p : List GFunc) : allFrom p p.length = true := by unfold allFrom; rw [Nat.sub_self]; rfl
theorem firstFrom_step (p : List GFunc) {i : Nat} (h : i < p.length) : firstFrom p i = if funcErr p i ≠ 0 then funcErr p i else firstFrom p (i + 1) := by
 unfold firstFrom
 rw [show p.length - i = (p.length - (i + 1)) + 1 by omega, List.range'_succ]
 rfl
theorem allFrom_step (p : List GFunc) {i : Nat} (h : i < p.length) : allFrom p i = ((hts p (p.getD i default).code).isSome && allFrom p (i + 1)) := by
 unfold allFrom
 rw [show p.length - i = (p.length - (i + 1)) + 1 by omega, List.range'_succ]
 rfl
theorem firstFrom_nil {p : List GFunc} : ∀ (m i : Nat), p.length - i = m → firstFrom p i = 0 → ∀ k, i ≤ k → k < p.length → funcErr p k = 0
 | 0, i, hm, _, k, h1, h2 => by omega
 | m + 1, i, hm, h, k, h1, h2 => by
  rw [firstFrom_step p (by omega)] at h
  by_cases he : funcErr p i = 0
  ·rw [if_neg (fun h => h he)] at h
   by_cases hk : k = i
   ·rw [hk]; exact he
   ·exact firstFrom_nil m (i + 1) (by omega) h k (by omega) h2
  ·rw [if_pos he] at h; exact absurd h he
theorem allFrom_nil {p : List GFunc} : ∀ (m i : Nat), p.length - i = m → allFrom p i = true → ∀ k, i ≤ k → k < p.length → (hts p (p.getD k default).code).isSome = true
 | 0, i, hm, _, k, h1, h2 => by omega
 | m + 1, i, hm, h, k, h1, h2 => by
  rw [allFrom_step p (by omega), Bool.and_eq_true] at h
  by_cases hk : k = i
  ·rw [hk]; exact h.1
  ·exact allFrom_nil m (i + 1) (by omega) h.2 k (by omega) h2
structure RightP (p : List GFunc) : Prop where
 most : p.length ≤ 5
 pos : 0 < p.length
 zero : (p.getD 0 default).args = 0
 func : ∀ k, k < p.length → funcErr p k = 0
 hts : ∀ k, k < p.length → (Proofs.YtgahbngbpfilgaaGreat.hts p (p.getD k default).code).isSome = true
theorem progErr_zero {p : List GFunc} (h : progErr p = 0) : RightP p := by
 unfold progErr at h
 by_cases h1 : 5 < p.length
 ·rw [if_pos h1] at h; cases h
 ·rw [if_neg h1] at h
  by_cases h2 : p.length = 0
  ·rw [if_pos h2] at h; cases h
  ·rw [if_neg h2] at h
   by_cases h3 : (p.getD 0 default).args ≠ 0
   ·rw [if_pos h3] at h; cases h
   ·rw [if_neg h3, firstFrom_zero, allFrom_zero] at h
    by_cases h4 : firstFrom p 0 = 0
    ·rw [if_neg (fun k => k h4)] at h
     by_cases h5 : allFrom p 0 = true
     ·exact ⟨by omega, by omega, by simpa using h3, fun k hk => firstFrom_nil _ 0 rfl h4 k (Nat.zero_le _) hk, fun k hk => allFrom_nil _ 0 rfl h5 k (Nat.zero_le _) hk⟩
     ·rw [if_neg h5] at h; cases h
    ·rw [if_pos h4] at h; exact absurd h h4
def callees (p : List GFunc) (k : Nat) : List Nat := ((p.getD k default).code.filter (fun x => decide (x.kind = 11 ∨ x.kind = 13))).map (fun x => x.a.toNat)
inductive Reach (p : List GFunc) (f : Nat) : Nat → Prop
 | here : Reach p f f
 | step {k j : Nat} : Reach p f k → j ∈ callees p k → Reach p f j
theorem Reach.trans {p : List GFunc} {a b c : Nat} (h : Reach p a b) (k : Reach p b c) : Reach p a c := by
 induction k with
 | here => exact h
 | step _ hj ih => exact .step ih hj
structure IsCalls (p : List GFunc) (f : Nat) (o : List Bool) : Prop where
 len : o.length = p.length
 self : o.getD f false = true
 closed : ∀ k, o.getD k false = true → ∀ j ∈ callees p k, o.getD j false = true
 only : ∀ k, o.getD k false = true → Reach p f k
theorem IsCalls.iff {p : List GFunc} {f : Nat} {o : List Bool} (h : IsCalls p f o) (k : Nat) : o.getD k false = true ↔ Reach p f k := by
 refine ⟨h.only k, fun hr => ?_⟩
 induction hr with
 | here => exact h.self
 | step _ hj ih => exact h.closed _ ih _ hj
theorem IsCalls.eq {p : List GFunc} {f : Nat} {a b : List Bool} (ha : IsCalls p f a) (hb : IsCalls p f b) : a = b := by
 apply List.ext_getElem (by rw [ha.len, hb.len])
 intro k h1 h2
 have e1 : a.getD k false = a[k] := by simp [List.getD, List.getElem?_eq_getElem h1]
 have e2 : b.getD k false = b[k] := by simp [List.getD, List.getElem?_eq_getElem h2]
 have := (ha.iff k).trans (hb.iff k).symm
 rw [e1, e2] at this
 exact Bool.eq_iff_iff.2 this
structure Vis (p : List GFunc) (k : Nat) (a b : List Bool) : Prop where
 len : b.length = a.length
 more : ∀ i, a.getD i false = true → b.getD i false = true
 self : b.getD k false = true
 closed : ∀ i, b.getD i false = true → a.getD i false = false → ∀ j ∈ callees p i, b.getD j false = true
 only : ∀ i, b.getD i false = true → a.getD i false = false → Reach p k i
def falses (l : List Bool) : Nat := l.countP (fun x => !x)
theorem Vis.here {p : List GFunc} {k : Nat} {a : List Bool} (h : a.getD k false = true) : Vis p k a a :=
 ⟨rfl, fun _ h => h, h, fun i h1 h2 => (by rw [h1] at h2; cases h2), fun i h1 h2 => (by rw [h1] at h2; cases h2)⟩
theorem Vis.calls {p : List GFunc} {k : Nat} {o : List Bool} {n : Nat} (hn : n = p.length) (h : Vis p k (List.replicate n false) o) : IsCalls p k o := by
 have hz : ∀ i, (List.replicate n false).getD i false = false := fun i => by
  simp only [List.getD, List.getElem?_replicate]; split <;> rfl
 exact ⟨by rw [h.len, List.length_replicate, hn], h.self, fun i hi => h.closed i hi (hz i), fun i hi => h.only i hi (hz i)⟩
structure Mid (p : List GFunc) (k i : Nat) (a b : List Bool) : Prop where
 len : b.length = a.length
 more : ∀ i, a.getD i false = true → b.getD i false = true
 self : b.getD k false = true
 mine : ∀ m, m < i → ∀ (hm : m < (p.getD k default).code.length), ((p.getD k default).code[m].kind = 11 ∨ (p.getD k default).code[m].kind = 13) → b.getD (p.getD k default).code[m].a.toNat false = true
 closed : ∀ i, i ≠ k → b.getD i false = true → a.getD i false = false → ∀ j ∈ callees p i, b.getD j false = true
 only : ∀ i, b.getD i false = true → a.getD i false = false → Reach p k i
theorem getDB_set_same {l : List Bool} {i : Nat} (h : i < l.length) (n : Bool) : (l.set i n).getD i false = n := by simp [List.getD, h]
theorem getDB_set_other {l : List Bool} {i j : Nat} (h : i ≠ j) (n : Bool) : (l.set i n).getD j false = l.getD j false := by simp [List.getD, h]
theorem Mid.start {p : List GFunc} {k : Nat} {a : List Bool} (hk : k < a.length) : Mid p k 0 a (a.set k true) := by
 refine ⟨by simp, fun i h => ?_, getDB_set_same hk true, fun m hm => by omega, fun i hi h1 h2 => ?_, fun i h1 h2 => ?_⟩
 ·by_cases e : k = i
  ·subst e; exact getDB_set_same hk true
  ·rw [getDB_set_other e]; exact h
 ·rw [getDB_set_other (fun e => hi e.symm)] at h1; rw [h1] at h2; cases h2
 ·by_cases e : k = i
  ·subst e; exact .here
  ·rw [getDB_set_other e] at h1; rw [h1] at h2; cases h2
theorem Mid.visit {p : List GFunc} {k i : Nat} {a b c : List Bool} (h : Mid p k i a b) (hi : i < (p.getD k default).code.length) (hk : (p.getD k default).code[i].kind = 11 ∨ (p.getD k default).code[i].kind = 13)
  (hv : Vis p (p.getD k default).code[i].a.toNat b c) : Mid p k (i + 1) a c := by
 have hin : (p.getD k default).code[i].a.toNat ∈ callees p k := by
  unfold callees
  exact List.mem_map.2 ⟨_, List.mem_filter.2 ⟨List.getElem_mem hi, by simpa using hk⟩, rfl⟩
 refine ⟨by rw [hv.len, h.len], fun j hj => hv.more j (h.more j hj), hv.more k h.self, fun m hm hm' hc => ?_, fun j hj h1 h2 => ?_, fun j h1 h2 => ?_⟩
 ·by_cases e : m = i
  ·subst e; exact hv.self
  ·exact hv.more _ (h.mine m (by omega) hm' hc)
 ·intro q hq
  by_cases hb : b.getD j false = true
  ·exact hv.more _ (h.closed j hj hb h2 q hq)
  ·exact hv.closed j h1 (by simpa using hb) q hq
 ·by_cases hb : b.getD j false = true
  ·exact h.only j hb h2
  ·exact (Reach.step .here hin).trans (hv.only j h1 (by simpa using hb))
theorem Mid.done {p : List GFunc} {k : Nat} {a b : List Bool} (h : Mid p k (p.getD k default).code.length a b) : Vis p k a b := by
 refine ⟨h.len, h.more, h.self, fun i h1 h2 j hj => ?_, h.only⟩
 by_cases e : i = k
 ·subst e
  unfold callees at hj
  obtain ⟨x, hx, rfl⟩ := List.mem_map.1 hj
  obtain ⟨hx1, hx2⟩ := List.mem_filter.1 hx
  obtain ⟨m, hm, rfl⟩ := List.getElem_of_mem hx1
  exact h.mine m hm hm (by simpa using hx2)
 ·exact h.closed i e h1 h2 j hj
theorem falses_mono : ∀ {a b : List Bool}, b.length = a.length → (∀ i, a.getD i false = true → b.getD i false = true) → falses b ≤ falses a
 | [], [], _, _ => Nat.le_refl _
 | x :: a, y :: b, hl, h => by
  have ih := falses_mono (a := a) (b := b) (by simpa using hl) (fun i hi => by have := h (i + 1) (by simpa using hi); simpa using this)
  have h0 := h 0
  simp only [List.getD_cons_zero] at h0
  unfold falses at ih ⊢
  rw [List.countP_cons, List.countP_cons]
  cases x <;> cases y <;> simp_all <;> omega
structure RndInv (p : List GFunc) (f r : Nat) (o : List Bool) : Prop where
 len : o.length = p.length
 self : o.getD f false = true
 only : ∀ i, o.getD i false = true → Reach p f i
 near : (∀ k, o.getD k false = true → ∀ j ∈ callees p k, o.getD j false = true) ∨ falses o + r + 1 ≤ p.length
structure RndMid (p : List GFunc) (k : Nat) (a b : List Bool) : Prop where
 len : b.length = a.length
 more : ∀ i, a.getD i false = true → b.getD i false = true
 done : ∀ m, m < k → a.getD m false = true → ∀ j ∈ callees p m, b.getD j false = true
 only : ∀ i, b.getD i false = true → ∃ s, a.getD s false = true ∧ Reach p s i
structure RndOp (p : List GFunc) (k i : Nat) (a b : List Bool) : Prop extends RndMid p k a b where
 mine : a.getD k false = true → ∀ m, m < i → ∀ (hm : m < (p.getD k default).code.length), ((p.getD k default).code[m].kind = 11 ∨ (p.getD k default).code[m].kind = 13) → b.getD (p.getD k default).code[m].a.toNat false = true
theorem RndMid.start (p : List GFunc) (a : List Bool) : RndMid p 0 a a := ⟨rfl, fun _ h => h, fun m hm => by omega, fun i hi => ⟨i, hi, .here⟩⟩
theorem RndOp.start {p : List GFunc} {k : Nat} {a b : List Bool} (h : RndMid p k a b) : RndOp p k 0 a b := ⟨h, fun _ m hm => by omega⟩
theorem RndOp.put {p : List GFunc} {k i : Nat} {a b : List Bool} (h : RndOp p k i a b) (hi : i < (p.getD k default).code.length) (hc : (p.getD k default).code[i].kind = 11 ∨ (p.getD k default).code[i].kind = 13)
  (hb : b.getD k false = true) (hl : (p.getD k default).code[i].a.toNat < b.length) : RndOp p k (i + 1) a (b.set (p.getD k default).code[i].a.toNat true) := by
 have up : ∀ j, b.getD j false = true → (b.set (p.getD k default).code[i].a.toNat true).getD j false = true := fun j hj => by
  by_cases e : (p.getD k default).code[i].a.toNat = j
  ·subst e; exact getDB_set_same hl true
  ·rw [getDB_set_other e]; exact hj
 have hin : (p.getD k default).code[i].a.toNat ∈ callees p k := by
  unfold callees
  exact List.mem_map.2 ⟨_, List.mem_filter.2 ⟨List.getElem_mem hi, by simpa using hc⟩, rfl⟩
 refine { len := by rw [List.length_set, h.len], more := fun j hj => up j (h.more j hj), done := fun m hm ha j hj => up j (h.done m hm ha j hj), only := fun j hj => ?_, mine := fun ha m hm hm' hk => ?_ }
 ·by_cases e : (p.getD k default).code[i].a.toNat = j
  ·obtain ⟨s, hs, hr⟩ := h.only k hb
   exact ⟨s, hs, .step hr (e ▸ hin)⟩
  ·rw [getDB_set_other e] at hj; exact h.only j hj
 ·by_cases e : m = i
  ·subst e; exact getDB_set_same hl true
  ·exact up _ (h.mine ha m (by omega) hm' hk)
theorem getDB_out {l : List Bool} {k : Nat} (h : l.getD k false = true) : k < l.length := by
 by_cases hk : k < l.length
 ·exact hk
 ·simp [List.getD, List.getElem?_eq_none (by omega : l.length ≤ k)] at h
theorem falses_eq : ∀ {a b : List Bool}, b.length = a.length → (∀ i, a.getD i false = true → b.getD i false = true) → falses b = falses a → a = b
 | [], [], _, _, _ => rfl
 | x :: a, y :: b, hl, h, he => by
  have hl' : b.length = a.length := by simpa using hl
  have hm : ∀ i, a.getD i false = true → b.getD i false = true := fun i hi => by have := h (i + 1) (by simpa using hi); simpa using this
  have h0 := h 0
  have h1 := falses_mono hl' hm
  simp only [List.getD_cons_zero] at h0
  unfold falses at he h1
  rw [List.countP_cons, List.countP_cons] at he
  have hxy : x = y := by cases x <;> cases y <;> simp_all <;> omega
  subst hxy
  rw [falses_eq hl' hm (by unfold falses; omega)]
theorem RndInv.next {p : List GFunc} {f r : Nat} {a b : List Bool} (h : RndInv p f r a) (hm : RndMid p p.length a b) : RndInv p f (r + 1) b := by
 have hlen := hm.len.trans h.len
 have hclosed : a = b → ∀ k, b.getD k false = true → ∀ j ∈ callees p k, b.getD j false = true := fun e k hk j hj => by
  subst e
  exact hm.done k (by rw [← h.len]; exact getDB_out hk) hk j hj
 refine ⟨hlen, hm.more f h.self, fun i hi => ?_, ?_⟩
 ·obtain ⟨s, hs, hr⟩ := hm.only i hi
  exact (h.only s hs).trans hr
 ·by_cases e : a = b
  ·exact .inl (hclosed e)
  ·have hle := falses_mono hm.len hm.more
   have hne : falses b ≠ falses a := fun he => e (falses_eq hm.len hm.more he)
   rcases h.near with hc | hn
   ·exfalso
    have cl : ∀ s i, a.getD s false = true → Reach p s i → a.getD i false = true := fun s i hs hr => by
     induction hr with
     | here => exact hs
     | step _ hj ih => exact hc _ ih _ hj
    refine e (falses_eq hm.len hm.more (Nat.le_antisymm hle (falses_mono hm.len.symm fun i hi => ?_)))
    obtain ⟨s, hs, hr⟩ := hm.only i hi
    exact cl s i hs hr
   ·exact .inr (by omega)
end Go.Proofs.YtgahbngbpfilgaaGreat
end
section
namespace Go.Proofs.YtgahbngbpfilgaaGreat
def hgt (p : List GFunc) (f : Int) : List Int := (hts p (p.getD f.toNat default).code).getD []
def funcOf (p : List GFunc) (f : Int) : GFunc := p.getD f.toNat default
def frameB (p : List GFunc) (x : GFrame) : Bool :=
 decide (0 ≤ x.func ∧ x.func < p.length) && decide ((x.locals.length : Int) = (funcOf p x.func).locals) && decide (0 ≤ x.at_ ∧ x.at_ < (funcOf p x.func).code.length) && decide (0 ≤ (hgt p x.func).getD x.at_.toNat 0)
def opBack (p : List GFunc) (x : GFrame) : GOp := (funcOf p x.func).code.getD (x.at_ - 1).toNat default
def waitB (p : List GFunc) (x : GFrame) (kind a : Int) : Bool :=
 !decide (x.at_ = 0) && decide ((x.stack.length : Int) = (hgt p x.func).getD x.at_.toNat 0 - 1) && (decide ((opBack p x).kind = kind) && (!decide (kind = 11) || decide ((opBack p x).a = a)))
def fullB (p : List GFunc) (x : GFrame) : Bool := decide ((x.stack.length : Int) = (hgt p x.func).getD x.at_.toNat 0)
def allK (n : Nat) (g : Nat → Bool) : Bool := decide (∀ k, k < n → g k = true)
theorem allK_true {n : Nat} {g : Nat → Bool} (h : ∀ k, k < n → g k = true) : allK n g = true := decide_eq_true h
theorem allK_false {n : Nat} {g : Nat → Bool} {k : Nat} (hk : k < n) (h : g k = false) : allK n g = false := decide_eq_false (fun e => by rw [e k hk] at h; cases h)
theorem allK_of {n : Nat} {g : Nat → Bool} (h : allK n g = true) : ∀ k, k < n → g k = true := of_decide_eq_true h
def freshB (p : List GFunc) (f : GFiber) : Bool :=
 decide (f.frames.length = 1) && decide ((f.frames.getD 0 default).at_ = 0) && decide ((funcOf p (f.frames.getD 0 default).func).args = 1) && decide ((f.frames.getD 0 default).stack.length = 0) && allK (f.frames.getD 0 default).locals.length (fun k => decide ((f.frames.getD 0 default).locals.getD k 0 = 0))
def onB (p : List GFunc) (l : List GFrame) (k : Nat) : Bool :=
 frameB p (l.getD k default) && (!decide (k + 1 < l.length) || (decide (0 ≤ (l.getD (k + 1) default).func ∧ (l.getD (k + 1) default).func < p.length) && waitB p (l.getD k default) 11 (l.getD (k + 1) default).func))
def topB (p : List GFunc) (f : GFiber) (on runs : Bool) (x : GFrame) : Bool :=
 if runs then fullB p x else if on then waitB p x 14 0 else decide (f.caller = -1) && (freshB p f || waitB p x 15 0)
def fiberB (p : List GFunc) (f : GFiber) (on runs : Bool) : Bool :=
 if f.frames.length = 0 then !on && decide (f.caller = -1) else allK f.frames.length (onB p f.frames) && topB p f on runs (f.frames.getD (f.frames.length - 1) default)
def callerOf (fs : List GFiber) (n : Int) : Int := (fs.getD n.toNat default).caller
def lineGo (fs : List GFiber) : Nat → Int → List Int → Option (List Int)
 | 0, _, _ => none
 | k + 1, n, out => if n < 0 then some out else if n ∈ out then none else lineGo fs k (callerOf fs n) (out ++ [n])
def lineS (s : GState) : Option (List Int) := lineGo s.fibers (s.fibers.length + 2) s.now []
def lineEnd (l : List Int) : Bool := decide (l.length = 0) || decide (l.getD (l.length - 1) 0 = 0)
def fibK (p : List GFunc) (s : GState) (line : List Int) (k : Nat) : Bool :=
 fiberB p (s.fibers.getD k default) (decide ((k : Int) ∈ line)) (decide ((k : Int) = s.now)) && !(decide (k = 0) && !decide ((0 : Int) ∈ line) && decide (0 < (s.fibers.getD 0 default).frames.length))
def callersB (s : GState) (k : Nat) : Bool := decide (-1 ≤ (s.fibers.getD k default).caller ∧ (s.fibers.getD k default).caller ≤ (s.fibers.length : Int) - 1)
def framesFew (s : GState) (k : Nat) : Bool := decide ((s.fibers.getD k default).frames.length ≤ 6)
def lineErr (p : List GFunc) (s : GState) : Int :=
 match lineS s with
 | none => 1
 | some l => if lineEnd l = false then 1 else if s.now = -1 ∧ 0 < (s.fibers.getD 0 default).frames.length then 1 else if allK s.fibers.length (fibK p s l) = false then 1 else 0
def stateErr (p : List GFunc) (s : GState) : Int :=
 if progErr p ≠ 0 then progErr p else if 5 < s.fibers.length ∨ 30 < s.out.length then 2 else if allK s.fibers.length (framesFew s) = false then 2 else if s.fibers.length = 0 then 5
 else if ¬ (-1 ≤ s.now ∧ s.now ≤ (s.fibers.length : Int) - 1) then 3 else if allK s.fibers.length (callersB s) = false then 3 else lineErr p s
structure LineOn (fs : List GFiber) (n : Int) (out : List Int) : Prop where
 now : -1 ≤ n ∧ n ≤ (fs.length : Int) - 1
 nodup : out.Nodup
 range : ∀ x ∈ out, 0 ≤ x ∧ x < fs.length
theorem nodup_len : ∀ (m : Nat) (out : List Int), out.Nodup → (∀ x ∈ out, 0 ≤ x ∧ x < m) → out.length ≤ m
 | 0, out, _, h => by
  cases out with
  | nil => simp
  | cons x l => have := h x (by simp); omega
 | m + 1, out, hn, h => by
  have h1 := nodup_len m (out.filter (fun x => decide (x ≠ (m : Int)))) (hn.filter _) (fun x hx => by
   obtain ⟨hx1, hx2⟩ := List.mem_filter.1 hx
   have := h x hx1
   have : x ≠ (m : Int) := by simpa using hx2
   omega)
  have h2 : out.length ≤ (out.filter (fun x => decide (x ≠ (m : Int)))).length + 1 := by
   clear h h1
   induction out with
   | nil => simp
   | cons x l ih =>
    obtain ⟨hx, hl⟩ := List.nodup_cons.1 hn
    by_cases e : x = (m : Int)
    ·have : l.filter (fun x => decide (x ≠ (m : Int))) = l := List.filter_eq_self.2 (fun y hy => by
      have : y ≠ (m : Int) := fun e2 => hx (by rw [e, ← e2]; exact hy)
      simpa using this)
     rw [List.filter_cons_of_neg (by simp [e]), this]
     simp
    ·rw [List.filter_cons_of_pos (by simp [e])]
     have := ih hl
     simp only [List.length_cons]
     omega
  omega
theorem LineOn.len {fs : List GFiber} {n : Int} {out : List Int} (h : LineOn fs n out) : out.length ≤ fs.length := nodup_len _ _ h.nodup h.range
theorem LineOn.next {fs : List GFiber} {n : Int} {out : List Int} (h : LineOn fs n out) (h0 : 0 ≤ n) (hn : n ∉ out) (hc : ∀ k, k < fs.length → -1 ≤ (fs.getD k default).caller ∧ (fs.getD k default).caller ≤ (fs.length : Int) - 1) : LineOn fs (callerOf fs n) (out ++ [n]) := by
 have := h.now
 refine ⟨hc _ (by omega), ?_, fun x hx => ?_⟩
 ·rw [List.nodup_append]
  exact ⟨h.nodup, by simp, fun a ha b hb e => by rw [List.mem_singleton] at hb; subst hb; subst e; exact hn ha⟩
 ·rcases List.mem_append.1 hx with h1 | h1
  ·exact h.range x h1
  ·rw [List.mem_singleton] at h1; omega
end Go.Proofs.YtgahbngbpfilgaaGreat
end
