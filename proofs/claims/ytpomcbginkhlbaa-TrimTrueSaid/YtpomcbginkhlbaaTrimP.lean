/- Trimming: plain facts. No program in sight; no condition. -/
import Derived.Test.YtpomcbginkhlbaaFlowP
import Derived.Test.YtpomcbginkhlbaaProgP
import Derived.Test.YtpomcbginkhlbaaChoose
namespace Go.Proofs.Ytpomcbginkhlbaa

/-- How many of the first n ops are left. -/
def keepN (l : List Int) (n : Nat) : Nat := (l.take n).countP (fun h => decide (0 ≤ h))
def trimOp (l : List Int) (x : GOp) : GOp := if x.kind = 9 ∨ x.kind = 10 then ⟨x.kind, keepN l x.a.toNat⟩ else x
/-- What is left of ops, of which the first has the height at the head of m. -/
def trimGo (l : List Int) : List GOp → List Int → List GOp
  | x :: C, h :: m => if 0 ≤ h then trimOp l x :: trimGo l C m else trimGo l C m
  | _, _ => []
def trimC (C : List GOp) (l : List Int) : List GOp := trimGo l C l
def keepL (l : List Int) : List Int := l.filter (fun h => decide (0 ≤ h))
def trimG (p : List GFunc) (F : GFunc) : GFunc := ⟨F.args, F.locals, trimC F.code ((hts p F.code).getD [])⟩

theorem keepN_zero (l : List Int) : keepN l 0 = 0 := by simp [keepN]
theorem keepN_succ {l : List Int} {n : Nat} (h : n < l.length) : keepN l (n + 1) = keepN l n + if 0 ≤ l.getD n 0 then 1 else 0 := by
  unfold keepN
  rw [List.take_succ_eq_append_getElem h, List.countP_append]
  simp only [List.countP_singleton, List.getD, List.getElem?_eq_getElem h, Option.getD_some]
  split <;> simp_all
theorem keepN_mono {l : List Int} {a b : Nat} (h : a ≤ b) : keepN l a ≤ keepN l b := by
  unfold keepN
  exact List.Sublist.countP_le (List.take_sublist_take_left h)
theorem keepN_lt {l : List Int} {a b : Nat} (h : a < b) (hb : b ≤ l.length) (h0 : 0 ≤ l.getD a 0) : keepN l a < keepN l b := by
  have := keepN_succ (l := l) (n := a) (by omega)
  rw [if_pos h0] at this
  have h2 := keepN_mono (l := l) (a := a + 1) (b := b) (by omega)
  omega
theorem keepN_all (l : List Int) : keepN l l.length = (keepL l).length := by
  unfold keepN keepL
  rw [List.take_length, List.countP_eq_length_filter]

/-- From a place on: what stands where. -/
theorem trimGo_drop {C : List GOp} {l : List Int} (hl : l.length = C.length) : ∀ (d n : Nat), C.length - n = d → n ≤ C.length →
    (trimGo l (C.drop n) (l.drop n)).length = keepN l C.length - keepN l n ∧
    ∀ k, n ≤ k → (hk : k < C.length) → 0 ≤ l.getD k 0 → (trimGo l (C.drop n) (l.drop n))[keepN l k - keepN l n]? = some (trimOp l C[k])
  | 0, n, hd, hn => by
    have e : n = C.length := by omega
    subst e
    rw [List.drop_length]
    refine ⟨by simp [trimGo], fun k h1 h2 => by omega⟩
  | d + 1, n, hd, hn => by
    have hn' : n < C.length := by omega
    have hnl : n < l.length := by omega
    obtain ⟨i1, i2⟩ := trimGo_drop hl d (n + 1) (by omega) (by omega)
    have hs := keepN_succ (l := l) hnl
    have hm := keepN_mono (l := l) (a := n + 1) (b := C.length) (by omega)
    rw [List.drop_eq_getElem_cons hn', List.drop_eq_getElem_cons hnl]
    have el : l[n] = l.getD n 0 := by simp [List.getD, List.getElem?_eq_getElem hnl]
    unfold trimGo
    rw [el]
    by_cases h0 : 0 ≤ l.getD n 0
    · rw [if_pos h0] at hs ⊢
      refine ⟨by rw [List.length_cons, i1]; omega, fun k h1 h2 h3 => ?_⟩
      by_cases e : k = n
      · subst e
        rw [Nat.sub_self]
        rfl
      · have hk := keepN_mono (l := l) (a := n + 1) (b := k) (by omega)
        rw [show keepN l k - keepN l n = (keepN l k - keepN l (n + 1)) + 1 by omega, List.getElem?_cons_succ]
        exact i2 k (by omega) h2 h3
    · rw [if_neg h0] at hs ⊢
      refine ⟨by rw [i1]; omega, fun k h1 h2 h3 => ?_⟩
      have e : k ≠ n := fun e => h0 (e ▸ h3)
      rw [show keepN l n = keepN l (n + 1) by omega]
      exact i2 k (by omega) h2 h3

theorem trimC_len {C : List GOp} {l : List Int} (hl : l.length = C.length) : (trimC C l).length = keepN l C.length := by
  have := (trimGo_drop hl C.length 0 (by omega) (by omega)).1
  simpa [trimC, keepN_zero] using this
theorem trimC_at {C : List GOp} {l : List Int} (hl : l.length = C.length) {k : Nat} (hk : k < C.length) (h0 : 0 ≤ l.getD k 0) : (trimC C l)[keepN l k]? = some (trimOp l C[k]) := by
  have := (trimGo_drop hl C.length 0 (by omega) (by omega)).2 k (Nat.zero_le _) hk h0
  simpa [trimC, keepN_zero] using this
theorem keepL_at {l : List Int} : ∀ {k : Nat}, k < l.length → 0 ≤ l.getD k 0 → (keepL l)[keepN l k]? = some (l.getD k 0) := by
  induction l with
  | nil => intro k hk; simp at hk
  | cons h l ih =>
    intro k hk h0
    cases k with
    | zero =>
      simp only [List.getD_cons_zero] at h0
      simp [keepL, keepN, h0]
    | succ k =>
      simp only [List.getD_cons_succ] at h0 ⊢
      have := ih (k := k) (by simpa using hk) h0
      unfold keepL keepN at this ⊢
      rw [List.take_succ_cons, List.countP_cons, List.filter_cons]
      by_cases hh : 0 ≤ h
      · simp only [hh, decide_true, if_true, List.getElem?_cons_succ]
        exact this
      · simp only [hh, decide_false, Bool.false_eq_true, if_false, Nat.add_zero]
        exact this
/-- Each place that is left was one. -/
theorem keepN_from {l : List Int} : ∀ {i : Nat}, i < keepN l l.length → ∃ k, k < l.length ∧ 0 ≤ l.getD k 0 ∧ keepN l k = i := by
  intro i hi
  have key : ∀ n, n ≤ l.length → i < keepN l n → ∃ k, k < n ∧ 0 ≤ l.getD k 0 ∧ keepN l k = i := by
    intro n
    induction n with
    | zero => intro _ h; rw [keepN_zero] at h; omega
    | succ n ih =>
      intro hn h
      have hs := keepN_succ (l := l) (n := n) (by omega)
      by_cases h0 : 0 ≤ l.getD n 0
      · rw [if_pos h0] at hs
        by_cases e : keepN l n = i
        · exact ⟨n, by omega, h0, e⟩
        · obtain ⟨k, h1, h2, h3⟩ := ih (by omega) (by omega)
          exact ⟨k, by omega, h2, h3⟩
      · rw [if_neg h0] at hs
        obtain ⟨k, h1, h2, h3⟩ := ih (by omega) (by omega)
        exact ⟨k, by omega, h2, h3⟩
  obtain ⟨k, h1, h2, h3⟩ := key l.length (Nat.le_refl _) hi
  exact ⟨k, h1, h2, h3⟩

theorem trimOp_kind (l : List Int) (x : GOp) : (trimOp l x).kind = x.kind := by unfold trimOp; split <;> rfl
theorem trimOp_leaves (l : List Int) (x : GOp) : leavesOf (trimOp l x) = leavesOf x := by unfold leavesOf; rw [trimOp_kind]
theorem trimOp_takes (p : List GFunc) (l : List Int) (x : GOp) : takesOf p (trimOp l x) = takesOf p x := by
  unfold takesOf
  rw [trimOp_kind]
  split
  · rfl
  · split
    · rfl
    · split
      · rename_i h; unfold trimOp; rw [if_neg (by omega)]
      · rfl
theorem trimOp_nOf {p q : List GFunc} (ht : ∀ x, takesOf q x = takesOf p x) (l : List Int) (x : GOp) (h : Int) : nOf q (trimOp l x) h = nOf p x h ∧ badB q (trimOp l x) h = badB p x h := by
  have e : nOf q (trimOp l x) h = nOf p x h := by unfold nOf; rw [ht, trimOp_takes, trimOp_leaves]
  exact ⟨e, by unfold badB; rw [e, ht, trimOp_takes, trimOp_kind]⟩
/-- The ways on. -/
theorem nx_trim {l : List Int} {x : GOp} {k : Nat} (hk : k < l.length) (h0 : 0 ≤ l.getD k 0) : nx (trimOp l x) (keepN l k) = (nx x k).map (keepN l) := by
  have hs : keepN l (k + 1) = keepN l k + 1 := by rw [keepN_succ hk, if_pos h0]
  unfold nx
  rw [trimOp_kind]
  by_cases h9 : x.kind = 9
  · simp [h9, trimOp]
  · by_cases h10 : x.kind = 10
    · simp [h10, trimOp, hs]
    · by_cases h12 : x.kind = 12
      · simp [h12]
      · simp [h9, h10, h12, hs]

theorem Full.height {p : List GFunc} {C : List GOp} {l : List Int} (hF : Full p C l) {k j : Nat} (hk : k < C.length) (h0 : 0 ≤ l.getD k 0) (hj : j ∈ nx C[k] k) : j < C.length ∧ l.getD j 0 = nOf p C[k] (l.getD k 0) ∧ 0 ≤ l.getD j 0 := by
  obtain ⟨t1, t2⟩ := hF.thru k hk h0
  have e : C.getD k default = C[k] := by simp [List.getD, List.getElem?_eq_getElem hk]
  rw [e] at t1 t2
  obtain ⟨a, b⟩ := t2 j hj
  exact ⟨a, b, by rw [b]; exact nOf_nonneg t1⟩

theorem come_trim {p q : List GFunc} (ht : ∀ x, takesOf q x = takesOf p x) {C : List GOp} {l : List Int} (hF : Full p C l) {k : Nat} {h : Int} (hc : Come p C k h) : Come q (trimC C l) (keepN l k) h := by
  have hl := hF.len
  induction hc with
  | start => rw [keepN_zero]; exact .start
  | next hc hk hj ih =>
    rename_i k h j
    obtain ⟨_, e, h0⟩ := hF.come_eq hc
    have h0' : 0 ≤ l.getD k 0 := by rw [e]; exact h0
    have ek : C.getD k default = C[k] := by simp [List.getD, List.getElem?_eq_getElem hk]
    have hat := trimC_at hl hk h0'
    have hlt : keepN l k < (trimC C l).length := (List.getElem?_eq_some_iff.1 hat).1
    have eg : (trimC C l).getD (keepN l k) default = trimOp l C[k] := by simp [List.getD, hat]
    have := Come.next ih hlt (j := keepN l j) (by rw [eg, nx_trim (by omega) h0', ← ek]; exact List.mem_map_of_mem hj)
    rw [eg, (trimOp_nOf ht l C[k] h).1] at this
    rw [ek]
    exact this

theorem trim_full {p q : List GFunc} (ht : ∀ x, takesOf q x = takesOf p x) {C : List GOp} {l : List Int} (hF : Full p C l) : Full q (trimC C l) (keepL l) ∧ Jumps (trimC C l) := by
  have hl := hF.len
  have hlen : (keepL l).length = (trimC C l).length := by rw [← keepN_all, trimC_len hl, hl]
  have at_ : ∀ i, i < (trimC C l).length → ∃ k, ∃ hk : k < C.length, 0 ≤ l.getD k 0 ∧ keepN l k = i ∧ (trimC C l).getD i default = trimOp l C[k] ∧ (keepL l).getD i 0 = l.getD k 0 := fun i hi => by
    rw [trimC_len hl, ← hl] at hi
    obtain ⟨k, h1, h2, h3⟩ := keepN_from hi
    refine ⟨k, by omega, h2, h3, ?_, ?_⟩
    · have := trimC_at hl (k := k) (by omega) h2
      rw [h3] at this
      simp [List.getD, this]
    · have := keepL_at h1 h2
      rw [h3] at this
      simp [List.getD, this]
  have go : ∀ j, j < C.length → 0 ≤ l.getD j 0 → keepN l j < (trimC C l).length ∧ (keepL l).getD (keepN l j) 0 = l.getD j 0 := fun j hj h0 => by
    refine ⟨by rw [trimC_len hl, ← hl]; exact keepN_lt (by omega) (Nat.le_refl _) h0, ?_⟩
    have := keepL_at (l := l) (k := j) (by omega) h0
    simp [List.getD, this]
  have hz := go 0 hF.zero.1 (by rw [hF.zero.2]; decide)
  rw [keepN_zero, hF.zero.2] at hz
  refine ⟨{ len := hlen, low := fun i hi => ?_, come := fun i hi h0 => ?_, zero := hz, thru := fun i hi h0 => ?_ }, fun i hi hk => ?_⟩
  · obtain ⟨k, _, h0, _, _, e⟩ := at_ i hi
    rw [e]; omega
  · obtain ⟨k, hk, h0, e, _, e2⟩ := at_ i hi
    rw [e2, ← e]
    exact come_trim ht hF (hF.come k hk h0)
  · obtain ⟨k, hk, h0, e, e1, e2⟩ := at_ i hi
    obtain ⟨t1, t2⟩ := hF.thru k hk h0
    have ek : C.getD k default = C[k] := by simp [List.getD, List.getElem?_eq_getElem hk]
    rw [ek] at t1 t2
    unfold Thru
    rw [e1, e2, (trimOp_nOf ht l C[k] _).2, (trimOp_nOf ht l C[k] _).1]
    refine ⟨t1, fun j hj => ?_⟩
    rw [← e, nx_trim (by omega) h0] at hj
    obtain ⟨j', hj', rfl⟩ := List.mem_map.1 hj
    obtain ⟨a, b, c⟩ := hF.height hk h0 hj'
    obtain ⟨g1, g2⟩ := go j' a c
    exact ⟨g1, by rw [g2, b]⟩
  · obtain ⟨k, hkl, h0, e, e1, e2⟩ := at_ i hi
    rw [e1] at hk ⊢
    rw [trimOp_kind] at hk
    have hin : C[k].a.toNat ∈ nx C[k] k := by unfold nx; rw [if_pos hk]; simp
    obtain ⟨a, b, c⟩ := hF.height hkl h0 hin
    have : (trimOp l C[k]).a.toNat = keepN l C[k].a.toNat := by unfold trimOp; rw [if_pos hk]; simp
    rw [this]
    exact (go _ a c).1

theorem trim_hts {p q : List GFunc} (ht : ∀ x, takesOf q x = takesOf p x) {C : List GOp} (hJ : Jumps C) {l : List Int} (h : hts p C = some l) : hts q (trimC C l) = some (keepL l) := by
  obtain ⟨h1, h2⟩ := trim_full ht (hts_full hJ h)
  exact (hts_finds h2).eq (b := some (keepL l)) h1
/-- Trimmed once more it is the same. -/
theorem keepL_nonneg {l : List Int} : ∀ x ∈ keepL l, 0 ≤ x := fun x hx => by simpa using (List.mem_filter.1 hx).2
theorem keepL_keep {l : List Int} (h : ∀ x ∈ l, 0 ≤ x) : keepL l = l := List.filter_eq_self.2 (fun x hx => by simpa using h x hx)
theorem keepN_id {l : List Int} (h : ∀ x ∈ l, 0 ≤ x) {n : Nat} (hn : n ≤ l.length) : keepN l n = n := by
  unfold keepN
  rw [List.countP_eq_length.2 (fun x hx => by simpa using h x (List.mem_of_mem_take hx)), List.length_take]
  omega
theorem trimGo_id {l : List Int} (h : ∀ x ∈ l, 0 ≤ x) : ∀ {C : List GOp} {m : List Int}, (∀ x ∈ m, 0 ≤ x) → m.length = C.length → (∀ x ∈ C, x.kind = 9 ∨ x.kind = 10 → 0 ≤ x.a ∧ x.a.toNat ≤ l.length) → trimGo l C m = C
  | [], _, _, _, _ => by unfold trimGo; rfl
  | x :: C, [], _, hl, _ => by simp at hl
  | x :: C, y :: m, hm, hl, hc => by
    unfold trimGo
    rw [if_pos (hm y (by simp)), trimGo_id h (fun z hz => hm z (by simp [hz])) (by simpa using hl) (fun z hz => hc z (by simp [hz]))]
    congr 1
    unfold trimOp
    split
    · rename_i hk
      obtain ⟨a0, a1⟩ := hc x (by simp) hk
      rw [keepN_id h a1]
      cases x
      simp only at a0 ⊢
      congr 1
      omega
    · rfl
end Go.Proofs.Ytpomcbginkhlbaa
