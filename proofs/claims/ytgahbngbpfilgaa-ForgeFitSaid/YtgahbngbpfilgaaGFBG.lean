/- Merged texts: contracts and plain facts, one part behind another; each part begins with what it says. -/
import Derived.Test.YtgahbngbpfilgaaGFAE
import Derived.Test.YtgahbngbpfilgaaGFAH
import Derived.Test.YtgahbngbpfilgaaGFAM
import Derived.Test.YtgahbngbpfilgaaGFAO
import Derived.Test.YtgahbngbpfilgaaGFAZ
import Derived.Test.YtgahbngbpfilgaaGFBD
import Derived.Test.YtgahbngbpfilgaaGFBF
section
/- Plain facts of what Do and Run answer, for the laws. -/
namespace Go.Proofs.Ytgahbngbpfilgaa
set_option maxHeartbeats 1000000

/-- Where running stops. -/
structure EndF (p : List GFunc) (m : Int) (r : GState × Int × Int) : Prop where
  err : stateErr p r.1 = 0
  low : 0 ≤ r.2.1
  high : r.2.1 ≤ m
  bad : r.2.2 ≠ 0 → r.2.1 < m ∧ 0 ≤ r.1.now ∧ (doS p r.1).1 = r.2.2
  fine : r.2.2 = 0 → r.2.1 = m ∨ (r.1.now = -1 ∧ (doS p r.1).1 = 8)
open Go Go.RowKit
theorem Sl.front {α : Type} {E : Nat → Nat → α → Prop} {sz bytes n cap : Nat} {a : Option Addr} {l r : List α} (h : Sl E sz bytes (.slice a n cap) l) {k : Nat} (hk : k ≤ n) (hr : l.take k = r) : Sl E sz bytes (.slice a k cap) r := by
  obtain ⟨a', cap', e, h1, h2, h3⟩ := h
  simp only [Value.slice.injEq] at e
  obtain ⟨rfl, rfl, rfl⟩ := e
  subst hr
  refine ⟨a, cap, by rw [List.length_take, Nat.min_eq_left hk], by rw [List.length_take]; omega, ⟨Nat.le_trans (Nat.mul_le_mul_right _ (by rw [List.length_take]; omega)) h2.1, h2.2⟩, fun i hi => ?_⟩
  rw [List.length_take] at hi
  obtain ⟨b, o, e, hE⟩ := h3 i (by omega)
  exact ⟨b, o, e, by rw [List.getElem_take]; exact hE⟩
theorem Ints.front {w : World} {S : Nat → Prop} {n cap : Nat} {a : Option Addr} {l r : List Int} (h : Ints w S (.slice a n cap) l) {k : Nat} (hk : k ≤ n) (hr : l.take k = r) : Ints w S (.slice a k cap) r := Sl.front h hk hr
/-- With more fuel no less is done. -/
structure FarF (m n : Int) (r q : List Int × Int × Int) : Prop where
  low : 0 ≤ r.2.1 ∧ r.2.1 ≤ m
  high : q.2.1 ≤ m + n
  le : r.2.1 ≤ q.2.1
  len : r.1.length ≤ q.1.length
  pre : q.1.take r.1.length = r.1
  err : r.2.2 = 0 ∨ (r.2.2 ≠ 0 ∧ r.2.2 = q.2.2 ∧ r.2.1 = q.2.1)
/-- Running on in two goes: r the first, q the second, a at one go. -/
structure SplitF (p : List GFunc) (m n : Int) (r q a : GState × Int × Int) : Prop where
  i0 : 0 ≤ r.2.1
  i1 : r.2.1 ≤ m
  j0 : 0 ≤ q.2.1
  j1 : q.2.1 ≤ n
  bad : r.2.2 ≠ 0 → a = r ∧ q.1 = r.1 ∧ q.2.1 = 0 ∧ ((n = 0 ∧ q.2.2 = 0) ∨ (0 < n ∧ q.2.2 = r.2.2))
  fine : r.2.2 = 0 → a = (q.1, r.2.1 + q.2.1, q.2.2) ∧ stateErr p q.1 = 0 ∧ (r.2.1 = m ∨ r.1.now = -1)
/-- A slice's own fiber, as a slice of one. -/
theorem Fibers.one {w : World} {S : Nat → Prop} {b o n cap : Nat} {l : List GFiber} (h : Fibers w S (.slice (some ⟨b, o, none⟩) n cap) l) {i : Nat} (hi : i < l.length) : StateV w S (.agg #[.slice (some ⟨b, o + i * 2, none⟩) 1 (cap - i), .int .i64 0, .slice none 0 0]) ⟨[l.getD i default], 0, []⟩ := by
  obtain ⟨a', cap', e, h1, h2, h3⟩ := h
  simp only [Value.slice.injEq] at e
  obtain ⟨rfl, rfl, rfl⟩ := e
  obtain ⟨b', o', e, hE⟩ := h3 i hi
  simp only [Option.some.injEq, Addr.mk.injEq, and_true] at e
  obtain ⟨rfl, rfl⟩ := e
  refine ⟨_, _, rfl, ⟨_, _, rfl, by simp only [List.length_singleton]; omega, ⟨by simp, by omega⟩, fun j hj => ⟨b, o + i * 2, rfl, ?_⟩⟩, I64.zero, Sl.nil _ _ _⟩
  have hj0 : j = 0 := by simpa using hj
  subst hj0
  rw [List.getElem_cons_zero, List.getD_eq_getElem?_getD, List.getElem?_eq_getElem hi]
  exact hE
theorem StateV.bd {w : World} {S : Nat → Prop} {a b : Option Addr} {n m c d : Nat} {k : Int} {s : GState} (h : StateV w S (.agg #[.slice a n c, .int .i64 k, .slice b m d]) s) :
    (n = s.fibers.length ∧ n ≤ c ∧ n * 32 ≤ 140737488355328 ∧ c ≤ 9223372036854775807) ∧ m = s.out.length ∧ m ≤ d ∧ m * 8 ≤ 140737488355328 ∧ d ≤ 9223372036854775807 := by
  obtain ⟨_, _, e, ⟨a1, c1, rfl, h1, h2, _⟩, _, ⟨a2, c2, rfl, h3, h4, _⟩⟩ := h
  simp only [Value.agg.injEq, Array.mk.injEq, List.cons.injEq, and_true, Value.slice.injEq] at e
  obtain ⟨⟨-, rfl, rfl⟩, -, -, rfl, rfl⟩ := e
  exact ⟨⟨rfl, h1, h2.1, h2.2⟩, rfl, h3, h4.1, h4.2⟩
end Go.Proofs.Ytgahbngbpfilgaa
end
section
/- Plain: trimmed, the same is put out, by as many steps, with the same error. No program in sight; no condition. -/
namespace Go.Proofs.Ytgahbngbpfilgaa
set_option maxHeartbeats 1000000

/-- What a right function's ops are, and what is left of them. -/
structure PosF (p : List GFunc) (f : Int) (l : List Int) : Prop where
  h : hgt p f = l
  len : l.length = (funcOf p f).code.length
  zero : 0 ≤ l.getD 0 0
  code : (funcOf (p.map (trimG p)) f).code = trimC (funcOf p f).code l
end Go.Proofs.Ytgahbngbpfilgaa
end
section
/- A right function behind a right program: it is right, and what was is run as it was. Plain facts. No condition. -/
set_option maxRecDepth 100000
namespace Go.Proofs.Ytgahbngbpfilgaa
open Go Go.RowKit

theorem snoc_lt {p : List GFunc} {f : GFunc} {k : Nat} (h : k < p.length) : (p ++ [f]).getD k default = p.getD k default := by
  simp [List.getD, List.getElem?_append_left h]
theorem snoc_eq {p : List GFunc} {f : GFunc} : (p ++ [f]).getD p.length default = f := by simp [List.getD]

/-- Ops that call nobody but the old ones. -/
def Olds (p : List GFunc) (x : GOp) : Prop := x.kind = 11 ∨ x.kind = 13 → 0 ≤ x.a ∧ x.a < p.length
theorem Olds.takes {p : List GFunc} {f : GFunc} {x : GOp} (h : Olds p x) : takesOf (p ++ [f]) x = takesOf p x := by
  unfold takesOf
  by_cases hk : x.kind = 11
  · have := h (.inl hk)
    rw [snoc_lt (by omega)]
  · rw [if_neg hk, if_neg hk]
theorem wl_old {p q : List GFunc} {code : List GOp} (ht : ∀ k, takesOf q (code.getD k default) = takesOf p (code.getD k default)) : ∀ (n : Nat) (out : List Int) (work : List Nat), wl q code n out work = wl p code n out work
  | 0, _, _ => rfl
  | _ + 1, _, [] => rfl
  | n + 1, out, k :: work => by
    have e : ∀ h, nOf q (code.getD k default) h = nOf p (code.getD k default) h := fun h => by unfold nOf; rw [ht]
    have e2 : ∀ h, badB q (code.getD k default) h = badB p (code.getD k default) h := fun h => by unfold badB; rw [ht, e]
    rw [wl, wl, e, e2]
    split
    · rfl
    · cases goOn code.length (nOf p (code.getD k default) (out.getD k 0)) (nx (code.getD k default) k) out work with
      | none => rfl
      | some r => exact wl_old ht n _ _
theorem olds_of {p : List GFunc} {F : GFunc} {x : GOp} (h : opErr p F x = 0) : Olds p x := by
  obtain ⟨_, _, h2, h3, _, _⟩ := ok_facts h
  intro hk
  unfold mostOf at h3
  rw [if_neg (by omega), if_neg (by omega), if_neg (by omega), if_pos hk] at h3
  omega
theorem op_snoc {p : List GFunc} {f F : GFunc} {x : GOp} (h : opErr p F x = 0) : opErr (p ++ [f]) F x = 0 := by
  have ho := olds_of h
  obtain ⟨h0, h1, h2, h3, h4, h5⟩ := ok_facts h
  have hm : x.a ≤ mostOf (p ++ [f]) F x.kind := by
    unfold mostOf at h3 ⊢
    rw [List.length_append, List.length_singleton]
    by_cases a1 : x.kind = 0
    · rw [if_pos a1] at h3 ⊢; exact h3
    rw [if_neg a1] at h3 ⊢
    by_cases a2 : x.kind = 2 ∨ x.kind = 3
    · rw [if_pos a2] at h3 ⊢; exact h3
    rw [if_neg a2] at h3 ⊢
    by_cases a3 : x.kind = 9 ∨ x.kind = 10
    · rw [if_pos a3] at h3 ⊢; exact h3
    rw [if_neg a3] at h3 ⊢
    by_cases a4 : x.kind = 11 ∨ x.kind = 13
    · rw [if_pos a4] at h3 ⊢; omega
    · rw [if_neg a4] at h3 ⊢; exact h3
  exact opErr_ok ⟨h0, h1, h2, hm, fun hk => by have := ho hk; rw [snoc_lt (by omega)]; exact h4 hk, fun hk => by have := ho (.inr hk); rw [snoc_lt (by omega)]; exact h5 hk⟩
theorem func_ops {p : List GFunc} (hp : progErr p = 0) {k : Nat} (hk : k < p.length) : (p.getD k default).code.length ≤ 24 ∧ sizedB (p.getD k default) = true ∧ ∀ x ∈ (p.getD k default).code, opErr p (p.getD k default) x = 0 := by
  have hf := (progErr_zero hp).func k hk
  unfold funcErr at hf
  rw [if_neg (fun e => e (by omega)), show (k : Int).toNat = k by omega] at hf
  by_cases h2 : 24 < (p.getD k default).code.length
  · rw [if_pos h2] at hf; omega
  · rw [if_neg h2] at hf
    cases h3 : sizedB (p.getD k default) with
    | false => rw [if_pos h3] at hf; omega
    | true =>
      rw [if_neg (by rw [h3]; decide)] at hf
      exact ⟨by omega, rfl, ok_ops hf⟩
theorem olds_code {p : List GFunc} (hp : progErr p = 0) {k : Nat} (hk : k < p.length) (j : Nat) : Olds p ((p.getD k default).code.getD j default) := by
  by_cases hj : j < (p.getD k default).code.length
  · have hm : (p.getD k default).code.getD j default ∈ (p.getD k default).code := by
      rw [getD_eq hj]
      exact List.getElem_mem _
    exact olds_of ((func_ops hp hk).2.2 _ hm)
  · have e0 : (p.getD k default).code.getD j default = default := by
      rw [List.getD_eq_getElem?_getD, List.getElem?_eq_none (by omega)]
      rfl
    rw [e0]
    intro h
    have e : (default : GOp).kind = 0 := rfl
    rw [e] at h
    omega
theorem hts_snoc {p : List GFunc} (hp : progErr p = 0) {f : GFunc} {k : Nat} (hk : k < p.length) : hts (p ++ [f]) (p.getD k default).code = hts p (p.getD k default).code := by
  unfold hts
  rw [wl_old (q := p ++ [f]) (p := p) (fun j => (olds_code hp hk j).takes)]
/-- With a right function behind it a program is right. -/
theorem prog_snoc {p : List GFunc} (hp : progErr p = 0) (hl : p.length < 5) {f : GFunc} (hops : ∀ x ∈ f.code, opErr (p ++ [f]) f x = 0) (hlen : f.code.length ≤ 24) (hs : sizedB f = true) (hh : (hts (p ++ [f]) f.code).isSome = true) : progErr (p ++ [f]) = 0 := by
  have hP := progErr_zero hp
  have hpos := hP.pos
  have hle : (p ++ [f]).length = p.length + 1 := by simp
  refine progErr_ok ⟨by omega, by omega, by rw [snoc_lt hpos]; exact hP.zero, fun k hk => ?_, fun k hk => ?_⟩
  · unfold funcErr
    rw [if_neg (fun e => e (by omega)), show (k : Int).toNat = k by omega]
    by_cases hk2 : k < p.length
    · rw [snoc_lt hk2]
      obtain ⟨a1, a2, a3⟩ := func_ops hp hk2
      rw [if_neg (by omega), if_neg (by rw [a2]; decide)]
      exact opsErr_ok fun x hx => op_snoc (a3 x hx)
    · obtain rfl : k = p.length := by omega
      rw [snoc_eq, if_neg (by omega), if_neg (by rw [hs]; decide)]
      exact opsErr_ok hops
  · by_cases hk2 : k < p.length
    · rw [snoc_lt hk2, hts_snoc hp hk2]
      exact hP.hts k hk2
    · obtain rfl : k = p.length := by omega
      rw [snoc_eq]
      exact hh

theorem func_snoc {p : List GFunc} {f : GFunc} {g : Int} (h : 0 ≤ g ∧ g < p.length) : funcOf (p ++ [f]) g = funcOf p g := snoc_lt (by omega)
theorem work_snoc {p : List GFunc} {f : GFunc} (s : GState) (k a : Int) (h : k = 11 ∨ k = 13 → 0 ≤ a ∧ a < p.length) : workG (p ++ [f]) s k a = workG p s k a := by
  unfold workG
  by_cases h11 : k = 11
  · have e : callG (p ++ [f]) s a = callG p s a := by
      unfold callG argsOf
      rw [func_snoc (f := f) (h (.inl h11))]
    have h13 : k ≠ 13 := by omega
    simp only [e, if_neg h13]
  · by_cases h13 : k = 13
    · have e : makeG (p ++ [f]) s a = makeG p s a := by
        unfold makeG freshFrame
        rw [func_snoc (f := f) (h (.inr h13))]
      simp only [e, if_neg h11]
    · simp only [if_neg h11, if_neg h13]
theorem done_snoc {p : List GFunc} {f : GFunc} {s : GState} {l : List Int} (h : Ok p s l) (h0 : 0 ≤ s.now) : doneG (p ++ [f]) s = doneG p s := by
  obtain ⟨k, fs, x, r, hR⟩ := h.runs h0
  have hF := opF_of (progErr_zero h.prog) hR.frame hR.full
  have hx : curX s = x := hR.at_.curX
  unfold doneG
  rw [hx]
  have e : opAt (p ++ [f]) x = opAt p x := by unfold opAt; rw [func_snoc hF.fn]
  rw [e]
  refine work_snoc _ _ _ fun hk => ?_
  have ha := hF.a
  unfold mostOf at ha
  rw [if_neg (by omega), if_neg (by omega), if_neg (by omega), if_pos hk] at ha
  omega
theorem run_snoc {p : List GFunc} {f : GFunc} : ∀ (n : Nat) {s : GState} {l : List Int}, Ok p s l → runG (p ++ [f]) n s = runG p n s
  | 0, s, l, _ => by rw [runG0, runG0]
  | n + 1, s, l, h => by
    by_cases h0 : s.now < 0
    · rw [runG_over p s n h0, runG_over _ s n h0]
    · have hd := done_snoc (f := f) h (by omega)
      by_cases e : (doneG p s).1 = 0
      · obtain ⟨_, hr⟩ := step_right h (by omega)
        obtain ⟨l', h'⟩ : ∃ l', Ok p (doneG p s).2 l' := by
          rcases hr with ⟨_, h⟩ | h
          · exact h
          · omega
        rw [runG_on p s n h0 e, runG_on _ s n h0 (by rw [hd]; exact e), hd, run_snoc n h']
      · rw [runG_bad p s n h0 e, runG_bad _ s n h0 (by rw [hd]; exact e), hd]
/-- What was is run as it was. -/
theorem all_snoc {p : List GFunc} {f : GFunc} (hp : progErr p = 0) (hq : progErr (p ++ [f]) = 0) (m : Int) : allG (p ++ [f]) m = allG p m := by
  have hpos := (progErr_zero hp).pos
  have hb : beginG (p ++ [f]) = beginG p := by
    unfold beginG freshFrame
    rw [func_snoc (g := 0) ⟨Int.le_refl _, by omega⟩]
  unfold allG
  by_cases h : ¬ (0 ≤ m ∧ m ≤ 500)
  · rw [if_pos h, if_pos h]
  · rw [if_neg h, if_neg h, if_neg (fun k => k hq), if_neg (fun k => k hp), hb, run_snoc m.toNat (begin_ok hp)]
/-- A forged function may stand behind any right program. -/
theorem forge_fit {p : List GFunc} {t : ETree} {n : Nat} (hp : progErr p = 0) (hl : p.length < 5) (ht : t.fits) (hn : t.nodes n) (h9 : t.flat.length ≤ 9) (h4 : n ≤ 4) : progErr (p ++ [t.func n]) = 0 ∧ ∀ m, allG (p ++ [t.func n]) m = allG p m := by
  have hF := func_fits (p ++ [t.func n]) t n ht hn h9 h4
  have hq := prog_snoc hp hl hF.ops hF.len hF.sized (by rw [hF.hts]; rfl)
  exact ⟨hq, all_snoc hp hq⟩
end Go.Proofs.Ytgahbngbpfilgaa
end
section
/- Plain facts of forged programs for the laws: what is put out, the heights, and how it fits behind others. No program in sight; no condition. -/
namespace Go.Proofs.Ytgahbngbpfilgaa
open Go Go.RowKit

theorem forge_prog {es : List GNode} {vals : List Int} (h : forgeErr es vals = 0) : ∃ t : ETree, t.fits ∧ t.nodes vals.length ∧ t.flat.length ≤ 9 ∧ vals.length ≤ 4 ∧ (∀ v ∈ vals, 0 ≤ v ∧ v ≤ 999) ∧ es = t.flat ∧ forgePr es vals = [mainF vals, t.func vals.length] := by
  obtain ⟨h0, hv⟩ := forgeErr_zero h
  obtain ⟨t, ht, he, htr, h9, hl0, hl4, ho⟩ := exprErr_tree h0
  rw [Int.toNat_natCast] at ho
  refine ⟨t, ht, ho, h9, by omega, hv, he, ?_⟩
  unfold forgePr
  rw [h, if_pos rfl, htr]
theorem wrap64_i64 (n : Int) : I64 (wrap64 n) := by unfold I64 wrap64; omega
theorem valT_i64 (vals : List Int) (hv : ∀ v ∈ vals, 0 ≤ v ∧ v ≤ 999) : ∀ t : ETree, t.nodes vals.length → I64 (valT vals t)
  | .leaf x, ho => by
    have h := ho x (by simp [ETree.flat])
    unfold valT
    split
    · rename_i hk
      have : x.n ≤ 999 := by have := h.2.2.2; unfold mostN at this; rw [if_pos hk] at this; exact this
      exact I64.small (by omega) (by omega)
    · split
      · by_cases hl : x.n.toNat < vals.length
        · rw [show vals.getD x.n.toNat 0 = vals[x.n.toNat] by simp [List.getD, List.getElem?_eq_getElem hl]]
          have := hv _ (List.getElem_mem hl)
          exact I64.small (by omega) (by omega)
        · rw [show vals.getD x.n.toNat 0 = 0 by rw [List.getD_eq_getElem?_getD, List.getElem?_eq_none (by omega)]; rfl]
          exact I64.small (by decide) (by decide)
      · exact I64.small (by decide) (by decide)
  | .two x a b, ho => by
    unfold valT reckN
    split
    · exact wrap64_i64 _
    split
    · exact wrap64_i64 _
    split
    · exact wrap64_i64 _
    split
    · split <;> exact I64.small (by decide) (by decide)
    split
    · split <;> exact I64.small (by decide) (by decide)
    · exact I64.small (by decide) (by decide)
  | .three x a b c, ho => by
    unfold valT
    split
    · exact valT_i64 vals hv c ho.three.2.2
    · exact valT_i64 vals hv b ho.three.2.1
/-- What the program of an expression puts out. -/
theorem forge_all {es : List GNode} {vals : List Int} (h : forgeErr es vals = 0) : exprErr es vals.length = 0 ∧ I64 (valErr es vals) ∧ ∃ n : Nat, n < 60 ∧ allG (forgePr es vals) 500 = ([valErr es vals], (n : Int), 0) := by
  have h0 := (forgeErr_zero h).1
  obtain ⟨t, ht, ho, h9, h4, hv, he, hp⟩ := forge_prog h
  have hval : valErr es vals = valT vals t := by
    subst he
    exact valErr_flat ht h0
  refine ⟨h0, by rw [hval]; exact valT_i64 vals hv t ho, ?_⟩
  obtain ⟨n, hn, hr⟩ := forge_runs t vals ht ho h9 h4
  refine ⟨n, hn, ?_⟩
  have hP := progErr_ok (forge_right t vals ht ho h9 h4 hv)
  rw [hp, hval]
  unfold allG
  rw [if_neg (by omega), if_neg (fun k => k hP), show ((500 : Int).toNat) = 500 from rfl, hr]
/-- A function's heights: none is missing, and the last one is 1. -/
structure TopsF (p : List GFunc) (f : Int) (m : Nat) : Prop where
  err : hErr p f = 0
  len : (hList p f).length = m + 1
  last : (hList p f).getD m 0 = 1
  low : ∀ k, k < m + 1 → 0 ≤ (hList p f).getD k 0
theorem tops_of {p : List GFunc} {f : Int} {l : List Int} {m : Nat} (hf : funcErr p f = 0) (hh : hts p (p.getD f.toNat default).code = some l) (hl : l.length = m + 1) (h1 : l.getD m 0 = 1) (h0 : ∀ x ∈ l, 0 ≤ x) : TopsF p f m := by
  obtain ⟨e1, e2⟩ := hErr_some hf hh
  refine ⟨e1, by rw [e2]; exact hl, by rw [e2]; exact h1, fun k hk => ?_⟩
  rw [e2, show l.getD k 0 = l[k] by simp [List.getD, List.getElem?_eq_getElem (show k < l.length by omega)]]
  exact h0 _ (List.getElem_mem _)
theorem forge_tops {es : List GNode} {vals : List Int} (h : forgeErr es vals = 0) : progErr (forgePr es vals) = 0 ∧ (forgePr es vals).length = 2 ∧ ∀ f : Nat, f < 2 → ∃ m, m ≤ 30 ∧ TopsF (forgePr es vals) f m := by
  obtain ⟨t, ht, ho, h9, h4, hv, he, hp⟩ := forge_prog h
  have hR := forge_right t vals ht ho h9 h4 hv
  have hc := t.cost_le
  rw [hp]
  refine ⟨progErr_ok hR, rfl, fun f hf => ?_⟩
  have hf2 : f = 0 ∨ f = 1 := by omega
  rcases hf2 with rfl | rfl
  · refine ⟨vals.length + 1, by omega, tops_of (hR.func 0 (by simp)) (main_hts vals h4 rfl) (by simp [mainH]) (by simp [mainH, List.getD]) (fun x hx => ?_)⟩
    simp only [mainH, List.mem_append, List.mem_map, List.mem_cons, List.not_mem_nil, or_false] at hx
    rcases hx with ⟨i, _, rfl⟩ | rfl | rfl <;> omega
  · have hF := func_fits [mainF vals, t.func vals.length] t vals.length ht ho h9 h4
    refine ⟨t.cost, by omega, tops_of (hR.func 1 (by simp)) hF.hts (by simp [t.high_len]) ?_ (fun x hx => ?_)⟩
    · rw [← t.high_len 0]; simp [List.getD]
    · rcases List.mem_append.1 hx with hx | hx
      · exact t.high_nonneg 0 (by omega) x hx
      · rw [List.mem_singleton.1 hx]; omega
/-- A forged function stands behind any right program. -/
theorem forge_behind {p : List GFunc} {es : List GNode} {locals : Int} (hp : progErr p = 0) (hl : p.length < 5) (he : exprErr es locals = 0) : progErr (p ++ [forgeFn es locals]) = 0 ∧ ∀ m, allG (p ++ [forgeFn es locals]) m = allG p m := by
  obtain ⟨t, ht, _, htr, h9, hl0, hl4, ho⟩ := exprErr_tree he
  obtain ⟨n, rfl⟩ : ∃ n : Nat, locals = n := ⟨locals.toNat, by omega⟩
  rw [Int.toNat_natCast] at ho
  have e : forgeFn es (n : Int) = t.func n := by unfold forgeFn; rw [if_pos he, htr]
  rw [e]
  exact forge_fit hp hl ht ho h9 (by omega)
end Go.Proofs.Ytgahbngbpfilgaa
end
