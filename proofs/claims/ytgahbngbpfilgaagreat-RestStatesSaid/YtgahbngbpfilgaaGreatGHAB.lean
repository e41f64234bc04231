/- Merged texts: contracts and plain facts, one part behind another; each part begins with what it says. -/
import Derived.Test.YtgahbngbpfilgaaGreatGHAA
import Derived.Test.YtgahbngbpfilgaaGreatProg
section
set_option maxHeartbeats 400000
set_option maxRecDepth 100000
namespace Go.Proofs.YtgahbngbpfilgaaGreat
open Go Go.RowKit Go.Deep Go.ChangeShapes Go.WideShapes Go.ChangeAt
theorem intsS_of_trod {H : Type} {enc : TypeId × Value → H} {w : World} {fuel : Nat} {v : Value} {x : DataW H × List MemPlace}
  (h : DataW.trod enc Tryz.prog w 0 (fun _ => true) true fuel 24 [v] = some x) (hw : ∀ n ∈ x.1.weights Tryz.prog 24, n ≤ reachBytes) : ∃ l, Ints w (fun _ => True) v l :=
 ints_of_trod (e := 3) (by kernel_rfl) (by kernel_rfl) (by kernel_rfl) (by kernel_rfl) h hw
theorem frames_of_trod {H : Type} {enc : TypeId × Value → H} {w : World} {fuel : Nat} {v : Value} {x : DataW H × List MemPlace}
  (h : DataW.trod enc Tryz.prog w 0 (fun _ => true) true fuel 39 [v] = some x) (hw : ∀ n ∈ x.1.weights Tryz.prog 39, n ≤ reachBytes) : ∃ l, Frames w (fun _ => True) v l :=
 sl_of_trod (e := 43) (by kernel_rfl) (by kernel_rfl) (by decide) (by kernel_rfl) (by decide) h hw fun b o cs n y hl hc hy hwy => by
  obtain ⟨f0, f1, f2, f3, hs, e0, o0, e1, o1, e2, o2, e3, o3⟩ : ∃ f0 f1 f2 f3, Tryz.prog.underlying 43 = some (.struct #[f0, f1, f2, f3]) ∧ f0.type = 3 ∧ f0.offset = 0 ∧ f1.type = 3 ∧ f1.offset = 1 ∧ f2.type = 24 ∧ f2.offset = 2 ∧ f3.type = 24 ∧ f3.offset = 3 :=
   ⟨_, _, _, _, Tryz.underlying43, rfl, rfl, rfl, rfl, rfl, rfl, rfl, rfl⟩
  obtain ⟨y0, y1, y2, y3, m, rfl, _, t0, t1, t2, t3⟩ := Go.Joins.trod_struct4 hs hy
  have hI : Tryz.prog.underlying 3 = some (.int .i64) := by kernel_rfl
  have h1 : Tryz.prog.cellsOf 3 = 1 := by kernel_rfl
  have h2 : Tryz.prog.cellsOf 24 = 1 := by kernel_rfl
  rw [e0, o0, h1] at t0
  rw [e1, o1, h1] at t1
  rw [e2, o2, h2] at t2
  rw [e3, o3, h2] at t3
  match cs, hl with
  | [c0, c1, c2, c3], _ =>
   obtain ⟨k, hk⟩ := intC_of_trod hI rfl (by simpa using hc 0 (by decide)) t0
   obtain ⟨a, ha⟩ := intC_of_trod (b := b) (o := o + 1) hI rfl (by simpa using hc 1 (by decide)) t1
   obtain ⟨l2, hl2⟩ := intsS_of_trod (v := c2) (by simpa using t2) (fun n hn => hwy n (by simp [DataW.weights, hs, DataW.weightsEach, e2]; simp_all))
   obtain ⟨l3, hl3⟩ := intsS_of_trod (v := c3) (by simpa using t3) (fun n hn => hwy n (by simp [DataW.weights, hs, DataW.weightsEach, e3]; simp_all))
   exact ⟨⟨k, a, l2, l3⟩, hk, ha, ⟨c2, by simpa using hc 2 (by decide), hl2⟩, c3, by simpa using hc 3 (by decide), hl3⟩
theorem fibers_of_trod {H : Type} {enc : TypeId × Value → H} {w : World} {fuel : Nat} {v : Value} {x : DataW H × List MemPlace}
  (h : DataW.trod enc Tryz.prog w 0 (fun _ => true) true fuel 23 [v] = some x) (hw : ∀ n ∈ x.1.weights Tryz.prog 23, n ≤ reachBytes) : ∃ l, Fibers w (fun _ => True) v l :=
 sl_of_trod (e := 41) (by kernel_rfl) (by kernel_rfl) (by decide) (by kernel_rfl) (by decide) h hw fun b o cs n y hl hc hy hwy => by
  obtain ⟨f0, f1, hs, e0, o0, e1, o1⟩ : ∃ f0 f1, Tryz.prog.underlying 41 = some (.struct #[f0, f1]) ∧ f0.type = 39 ∧ f0.offset = 0 ∧ f1.type = 3 ∧ f1.offset = 1 :=
   ⟨_, _, Tryz.underlying41, rfl, rfl, rfl, rfl⟩
  obtain ⟨y0, y1, m, rfl, _, t0, t1⟩ := trod_struct2 hs hy
  have hI : Tryz.prog.underlying 3 = some (.int .i64) := by kernel_rfl
  have h1 : Tryz.prog.cellsOf 3 = 1 := by kernel_rfl
  have h2 : Tryz.prog.cellsOf 39 = 1 := by kernel_rfl
  rw [e0, o0, h2] at t0
  rw [e1, o1, h1] at t1
  match cs, hl with
  | [c0, c1], _ =>
   obtain ⟨l0, hl0⟩ := frames_of_trod (v := c0) (by simpa using t0) (fun n hn => hwy n (by simp [DataW.weights, hs, DataW.weightsEach, e0]; simp_all))
   obtain ⟨a, ha⟩ := intC_of_trod (b := b) (o := o + 1) hI rfl (by simpa using hc 1 (by decide)) t1
   exact ⟨⟨l0, a⟩, ⟨c0, by simpa using hc 0 (by decide), hl0⟩, ha⟩
theorem state_of_trod {H : Type} {enc : TypeId × Value → H} {w : World} {r : Reach} {b0 : Nat} {v : Value} {d : DataW H} {ps : List MemPlace}
  (hv : Value.okWide Tryz.prog w r b0 26 v) (h : DataW.Trod enc Tryz.prog w 0 (fun _ => true) true 26 v d ps) (hw : ∀ n ∈ d.weights Tryz.prog 26, n ≤ reachBytes) :
  ∃ x : GState, StateV w (fun _ => True) v x := by
 have hI : Tryz.prog.underlying 3 = some (.int .i64) := by kernel_rfl
 obtain ⟨f0, f1, f2, hs, e0, e1, e2⟩ : ∃ f0 f1 f2, Tryz.prog.underlying 26 = some (.struct #[f0, f1, f2]) ∧ f0.type = 23 ∧ f1.type = 3 ∧ f2.type = 24 ∧ oneCellFields Tryz.prog #[f0, f1, f2] = true :=
  ⟨_, _, _, Tryz.underlying26, rfl, rfl, rfl, by kernel_rfl⟩
 obtain ⟨e2, hone⟩ := e2
 obtain ⟨c0, c1, c2, y0, y1, y2, m, rfl, rfl, _, t0, t1, t2⟩ := Go.Joins.open_agg3 hs hone (by kernel_rfl) hv h
 rw [e0] at t0
 rw [e1] at t1
 rw [e2] at t2
 obtain ⟨l0, h0⟩ := fibers_of_trod t0 (fun n hn => hw n (by simp [DataW.weights, hs, DataW.weightsEach, e0]; simp_all))
 obtain ⟨k, e3, _, hk⟩ := DataW.trod_int hI t1
 obtain ⟨l2, h2⟩ := intsS_of_trod t2 (fun n hn => hw n (by simp [DataW.weights, hs, DataW.weightsEach, e2]; simp_all))
 have e3 : c1 = .int .i64 k := by simpa using e3
 subst e3
 exact ⟨⟨l0, k, l2⟩, c0, c2, rfl, h0, i64_of_wf hk, h2⟩
end Go.Proofs.YtgahbngbpfilgaaGreat
end
section
namespace Go.Proofs.YtgahbngbpfilgaaGreat
def nx (x : GOp) (k : Nat) : List Nat :=
 (if x.kind = 9 ∨ x.kind = 10 then [x.a.toNat] else []) ++ (if x.kind = 9 ∨ x.kind = 12 then [] else [k + 1])
def nOf (p : List GFunc) (x : GOp) (h : Int) : Int := h - takesOf p x + leavesOf x
def badB (p : List GFunc) (x : GOp) (h : Int) : Bool := decide (h < takesOf p x) || (decide (8 < nOf p x h) || (decide (x.kind = 12) && decide (0 < nOf p x h)))
def goOn (len : Nat) (n : Int) : List Nat → List Int → List Nat → Option (List Int × List Nat)
 | [], out, work => some (out, work)
 | i :: is, out, work =>
  if i = len ∨ (0 ≤ out.getD i 0 ∧ out.getD i 0 ≠ n) then none
  else if out.getD i 0 < 0 then goOn len n is (out.set i n) (work ++ [i])
  else goOn len n is out work
def wl (p : List GFunc) (code : List GOp) : Nat → List Int → List Nat → Option (List Int)
 | 0, _, _ => none
 | _ + 1, out, [] => some out
 | f + 1, out, k :: work =>
  if badB p (code.getD k default) (out.getD k 0) then none
  else match goOn code.length (nOf p (code.getD k default) (out.getD k 0)) (nx (code.getD k default) k) out work with
   | none => none
   | some (o, w) => wl p code f o w
def out0 (n : Nat) : List Int := (List.replicate n (-1)).set 0 0
def hts (p : List GFunc) (code : List GOp) : Option (List Int) :=
 if code = [] then none else wl p code (code.length + 1) (out0 code.length) [0]
def putAll (len : Nat) (n : Int) : List Nat → List Int → Option (List Int)
 | [], out => some out
 | i :: is, out => if i = len ∨ (0 ≤ out.getD i 0 ∧ out.getD i 0 ≠ n) then none else putAll len n is (out.set i n)
def one1 (p : List GFunc) (code : List GOp) (k : Nat) (out : List Int) : Option (List Int) :=
 if out.getD k 0 < 0 then some out
 else if badB p (code.getD k default) (out.getD k 0) then none
 else putAll code.length (nOf p (code.getD k default) (out.getD k 0)) (nx (code.getD k default) k) out
def oneR (p : List GFunc) (code : List GOp) : List Nat → List Int → Option (List Int)
 | [], out => some out
 | k :: ks, out => match one1 p code k out with
  | none => none
  | some o => oneR p code ks o
def rounds (p : List GFunc) (code : List GOp) : Nat → List Int → Option (List Int)
 | 0, out => some out
 | r + 1, out => match oneR p code (List.range code.length) out with
  | none => none
  | some o => rounds p code r o
def htsR (p : List GFunc) (code : List GOp) : Option (List Int) :=
 if code = [] then none else rounds p code (code.length + 1) (out0 code.length)
inductive Come (p : List GFunc) (code : List GOp) : Nat → Int → Prop
 | start : Come p code 0 0
 | next {k : Nat} {h : Int} {j : Nat} : Come p code k h → k < code.length → j ∈ nx (code.getD k default) k → Come p code j (nOf p (code.getD k default) h)
def Bad (p : List GFunc) (code : List GOp) : Prop :=
 ∃ k h, Come p code k h ∧ (code.length ≤ k ∨ badB p (code.getD k default) h = true ∨ ∃ h', Come p code k h' ∧ h' ≠ h)
structure Inv (p : List GFunc) (code : List GOp) (out : List Int) : Prop where
 len : out.length = code.length
 low : ∀ k, k < code.length → -1 ≤ out.getD k 0
 come : ∀ k, k < code.length → 0 ≤ out.getD k 0 → Come p code k (out.getD k 0)
def Thru (p : List GFunc) (code : List GOp) (out : List Int) (k : Nat) : Prop :=
 badB p (code.getD k default) (out.getD k 0) = false ∧ ∀ i ∈ nx (code.getD k default) k, i < code.length ∧ out.getD i 0 = nOf p (code.getD k default) (out.getD k 0)
structure Full (p : List GFunc) (code : List GOp) (out : List Int) : Prop extends Inv p code out where
 zero : 0 < code.length ∧ out.getD 0 0 = 0
 thru : ∀ k, k < code.length → 0 ≤ out.getD k 0 → Thru p code out k
theorem badB_low {p : List GFunc} {x : GOp} {h : Int} (hb : badB p x h = false) : takesOf p x ≤ h ∧ nOf p x h ≤ 8 ∧ (x.kind = 12 → nOf p x h ≤ 0) := by
 unfold badB at hb
 simp only [Bool.or_eq_false_iff, Bool.and_eq_false_iff, decide_eq_false_iff_not] at hb
 refine ⟨by omega, by omega, fun hk => ?_⟩
 rcases hb.2.2 with h | h
 ·exact absurd hk h
 ·omega
theorem leavesOf_nonneg (x : GOp) : 0 ≤ leavesOf x := by unfold leavesOf; split <;> omega
theorem nOf_nonneg {p : List GFunc} {x : GOp} {h : Int} (hb : badB p x h = false) : 0 ≤ nOf p x h := by
 have := (badB_low hb).1
 have := leavesOf_nonneg x
 unfold nOf; omega
theorem Full.come_eq {p : List GFunc} {code : List GOp} {out : List Int} (hf : Full p code out) {k : Nat} {h : Int} (hc : Come p code k h) : k < code.length ∧ out.getD k 0 = h ∧ 0 ≤ h := by
 induction hc with
 | start => exact ⟨hf.zero.1, hf.zero.2, by omega⟩
 | next hc hk hj ih =>
  obtain ⟨h1, h2, h3⟩ := ih
  obtain ⟨t1, t2⟩ := hf.thru _ h1 (by omega)
  obtain ⟨a, b⟩ := t2 _ hj
  rw [h2] at t1 b
  exact ⟨a, b, nOf_nonneg t1⟩
theorem Full.not_bad {p : List GFunc} {code : List GOp} {out : List Int} (hf : Full p code out) : ¬ Bad p code := by
 rintro ⟨k, h, hc, hb⟩
 obtain ⟨h1, h2, h3⟩ := hf.come_eq hc
 rcases hb with hb | hb | ⟨h', hc', hb⟩
 ·omega
 ·obtain ⟨t1, _⟩ := hf.thru _ h1 (by omega)
  rw [h2, hb] at t1
  cases t1
 ·have := (hf.come_eq hc').2.1
  omega
theorem Full.eq {p : List GFunc} {code : List GOp} {o1 o2 : List Int} (h1 : Full p code o1) (h2 : Full p code o2) : o1 = o2 := by
 have l1 := h1.len
 have l2 := h2.len
 apply List.ext_getElem (by omega)
 intro k hk hk'
 have a1 := h1.low k (by omega)
 have a2 := h2.low k (by omega)
 have e1 : o1.getD k 0 = o1[k] := by simp [List.getD, List.getElem?_eq_getElem hk]
 have e2 : o2.getD k 0 = o2[k] := by simp [List.getD, List.getElem?_eq_getElem hk']
 rw [← e1, ← e2]
 by_cases c1 : 0 ≤ o1.getD k 0
 ·exact (h2.come_eq (h1.come k (by omega) c1)).2.1.symm
 ·by_cases c2 : 0 ≤ o2.getD k 0
  ·exact (h1.come_eq (h2.come k (by omega) c2)).2.1
  ·omega
def Finds (p : List GFunc) (code : List GOp) : Option (List Int) → Prop
 | none => Bad p code
 | some out => Full p code out
theorem Finds.eq {p : List GFunc} {code : List GOp} {a b : Option (List Int)} (ha : Finds p code a) (hb : Finds p code b) : a = b := by
 cases a with
 | none => cases b with
  | none => rfl
  | some o => exact absurd ha (Full.not_bad hb)
 | some o => cases b with
  | none => exact absurd hb (Full.not_bad ha)
  | some o' => rw [Full.eq ha hb]
theorem Finds.empty {p : List GFunc} : Finds p [] none := ⟨0, 0, .start, .inl (by simp)⟩
def Jumps (code : List GOp) : Prop := ∀ k, k < code.length → (code.getD k default).kind = 9 ∨ (code.getD k default).kind = 10 → (code.getD k default).a.toNat < code.length
theorem nx_le {code : List GOp} (hj : Jumps code) {k : Nat} (hk : k < code.length) : ∀ i ∈ nx (code.getD k default) k, i ≤ code.length := by
 intro i hi
 unfold nx at hi
 rcases List.mem_append.1 hi with hi | hi
 ·split at hi
  ·rename_i h
   have := hj k hk h
   simp at hi
   rw [hi]; exact Nat.le_of_lt this
  ·simp at hi
 ·split at hi
  ·simp at hi
  ·simp at hi; omega
theorem getD_set_same {l : List Int} {i : Nat} {n : Int} (h : i < l.length) : (l.set i n).getD i 0 = n := by simp [List.getD, h]
theorem getD_set_other {l : List Int} {i j : Nat} {n : Int} (h : i ≠ j) : (l.set i n).getD j 0 = l.getD j 0 := by simp [List.getD, h]
theorem Inv.set {p : List GFunc} {code : List GOp} {out : List Int} (hi : Inv p code out) {i : Nat} {n : Int} (h0 : -1 ≤ n) (hc : Come p code i n) : Inv p code (out.set i n) := by
 refine ⟨by simp [hi.len], fun k hk => ?_, fun k hk hk0 => ?_⟩
 ·by_cases e : i = k
  ·subst e; rw [getD_set_same (by rw [hi.len]; exact hk)]; exact h0
  ·rw [getD_set_other e]; exact hi.low k hk
 ·by_cases e : i = k
  ·subst e; rw [getD_set_same (by rw [hi.len]; exact hk)]; exact hc
  ·rw [getD_set_other e] at hk0 ⊢; exact hi.come k hk hk0
def More (len : Nat) (a b : List Int) : Prop := ∀ k, k < len → 0 ≤ a.getD k 0 → b.getD k 0 = a.getD k 0
theorem More.refl (len : Nat) (a : List Int) : More len a a := fun _ _ _ => rfl
theorem More.trans {len : Nat} {a b c : List Int} (h : More len a b) (k : More len b c) : More len a c := fun i hi h0 => by
 have := h i hi h0
 rw [k i hi (by omega), this]
theorem More.set {len : Nat} {a : List Int} {i : Nat} {n : Int} (hl : a.length = len) (h : ¬ (0 ≤ a.getD i 0 ∧ a.getD i 0 ≠ n)) : More len a (a.set i n) := by
 intro k hk h0
 by_cases e : i = k
 ·subst e
  rw [getD_set_same (by omega)]
  by_cases h2 : a.getD i 0 = n
  ·exact h2.symm
  ·exact absurd ⟨h0, h2⟩ h
 ·rw [getD_set_other e]
theorem Thru.more {p : List GFunc} {code : List GOp} {a b : List Int} {k : Nat} (hm : More code.length a b) (hk : k < code.length) (h0 : 0 ≤ a.getD k 0) (h : Thru p code a k) : Thru p code b k := by
 have e := hm k hk h0
 refine ⟨by rw [e]; exact h.1, fun i hi => ?_⟩
 obtain ⟨h1, h2⟩ := h.2 i hi
 have := nOf_nonneg h.1
 refine ⟨h1, ?_⟩
 rw [e, hm i h1 (by omega), h2]
theorem bad_way {p : List GFunc} {code : List GOp} {out : List Int} (hi : Inv p code out) {i : Nat} {n : Int} (hc : Come p code i n) (hle : i ≤ code.length) (h : i = code.length ∨ (0 ≤ out.getD i 0 ∧ out.getD i 0 ≠ n)) : Bad p code := by
 by_cases hlt : i < code.length
 ·obtain ⟨h1, h2⟩ : 0 ≤ out.getD i 0 ∧ out.getD i 0 ≠ n := by
   rcases h with h | h
   ·omega
   ·exact h
  exact ⟨i, n, hc, .inr (.inr ⟨_, hi.come i hlt h1, h2⟩)⟩
 ·exact ⟨i, n, hc, .inl (by omega)⟩
theorem goOn_ok {p : List GFunc} {code : List GOp} {n : Int} (hn : 0 ≤ n) : ∀ (is : List Nat) (out : List Int) (work : List Nat), Inv p code out → (∀ i ∈ is, Come p code i n ∧ i ≤ code.length) →
  match goOn code.length n is out work with
  | none => Bad p code
  | some (o, w) => Inv p code o ∧ More code.length out o ∧ (∀ i ∈ is, i < code.length ∧ o.getD i 0 = n) ∧ (∃ new, w = work ++ new ∧ (∀ j, j < code.length → out.getD j 0 < 0 → 0 ≤ o.getD j 0 → j ∈ new) ∧ (∀ j ∈ new, j < code.length ∧ 0 ≤ o.getD j 0))
 | [], out, work, hi, _ => by
  simp only [goOn]
  exact ⟨hi, More.refl _ _, by simp, [], by simp, fun j _ h1 h2 => by omega, by simp⟩
 | i :: is, out, work, hi, hc => by
  obtain ⟨hci, hle⟩ := hc i (by simp)
  unfold goOn
  by_cases hb : i = code.length ∨ (0 ≤ out.getD i 0 ∧ out.getD i 0 ≠ n)
  ·rw [if_pos hb]
   exact bad_way hi hci hle hb
  ·rw [if_neg hb]
   have hlt : i < code.length := by omega
   have hlen := hi.len
   by_cases h0 : out.getD i 0 < 0
   ·rw [if_pos h0]
    have IH := goOn_ok hn is (out.set i n) (work ++ [i]) (hi.set (by omega) hci) (fun j hj => hc j (by simp [hj]))
    revert IH
    cases goOn code.length n is (out.set i n) (work ++ [i]) with
    | none => exact id
    | some r =>
     obtain ⟨o, w⟩ := r
     rintro ⟨a1, a2, a3, new, a4, a5, a6⟩
     have hm : More code.length out o := (More.set hlen (fun h => hb (.inr h))).trans a2
     have hio : o.getD i 0 = n := by rw [a2 i hlt (by rw [getD_set_same (by omega)]; exact hn), getD_set_same (by omega)]
     refine ⟨a1, hm, ?_, i :: new, by simp [a4], ?_, ?_⟩
     ·intro j hj
      rcases List.mem_cons.1 hj with rfl | hj
      ·exact ⟨hlt, hio⟩
      ·exact a3 j hj
     ·intro j hj h1 h2
      by_cases e : i = j
      ·subst e; simp
      ·exact List.mem_cons_of_mem _ (a5 j hj (by rw [getD_set_other e]; exact h1) h2)
     ·intro j hj
      rcases List.mem_cons.1 hj with rfl | hj
      ·exact ⟨hlt, by omega⟩
      ·exact a6 j hj
   ·rw [if_neg h0]
    have IH := goOn_ok hn is out work hi (fun j hj => hc j (by simp [hj]))
    revert IH
    cases goOn code.length n is out work with
    | none => exact id
    | some r =>
     obtain ⟨o, w⟩ := r
     rintro ⟨a1, a2, a3, new, a4, a5, a6⟩
     refine ⟨a1, a2, ?_, new, a4, a5, a6⟩
     intro j hj
     rcases List.mem_cons.1 hj with rfl | hj
     ·refine ⟨hlt, ?_⟩
      rw [a2 j hlt (by omega)]
      by_cases h2 : out.getD j 0 = n
      ·exact h2
      ·exact absurd (.inr ⟨by omega, h2⟩) hb
     ·exact a3 j hj
def unk (l : List Int) : Nat := l.countP (fun x => decide (x < 0))
theorem unk_set {l : List Int} {i : Nat} {n : Int} (hi : i < l.length) (h0 : l.getD i 0 < 0) (hn : 0 ≤ n) : unk (l.set i n) + 1 = unk l := by
 induction l generalizing i with
 | nil => simp at hi
 | cons x l ih =>
  cases i with
  | zero =>
   simp [List.getD] at h0
   simp [unk, List.countP_cons, h0]
   omega
  | succ i =>
   have := ih (i := i) (by simpa using hi) (by simpa [List.getD] using h0)
   simp only [unk, List.set_cons_succ, List.countP_cons] at this ⊢
   omega
theorem goOn_unk {len : Nat} {n : Int} (hn : 0 ≤ n) : ∀ (is : List Nat) (out : List Int) (work : List Nat) (o : List Int) (w : List Nat), out.length = len → (∀ i ∈ is, i ≤ len) → goOn len n is out work = some (o, w) → unk o + w.length = unk out + work.length ∧ o.length = len
 | [], out, work, o, w, hl, _, h => by simp [goOn] at h; obtain ⟨rfl, rfl⟩ := h; exact ⟨rfl, hl⟩
 | i :: is, out, work, o, w, hl, hle, h => by
  unfold goOn at h
  split at h
  ·cases h
  ·rename_i hb
   have := hle i (by simp)
   split at h
   ·rename_i h0
    have ih := goOn_unk hn is _ _ o w (by simpa using hl) (fun j hj => hle j (by simp [hj])) h
    have := unk_set (l := out) (i := i) (n := n) (by omega) h0 hn
    simp at ih
    omega
   ·exact goOn_unk hn is _ _ o w hl (fun j hj => hle j (by simp [hj])) h
theorem wl_ok {p : List GFunc} {code : List GOp} (hj : Jumps code) : ∀ (f : Nat) (out : List Int) (work : List Nat), Inv p code out → 0 < code.length ∧ out.getD 0 0 = 0 → (∀ k ∈ work, k < code.length ∧ 0 ≤ out.getD k 0) →
  (∀ k, k < code.length → 0 ≤ out.getD k 0 → k ∈ work ∨ Thru p code out k) → unk out + work.length < f → Finds p code (wl p code f out work)
 | 0, _, _, _, _, _, _, hf => by omega
 | f + 1, out, [], hi, hz, _, ht, _ => by
  simp only [wl]
  exact ⟨hi, hz, fun k hk h0 => (ht k hk h0).resolve_left (by simp)⟩
 | f + 1, out, k :: work, hi, hz, hw, ht, hf => by
  obtain ⟨hk, hk0⟩ := hw k (by simp)
  have hck := hi.come k hk hk0
  unfold wl
  cases hb : badB p (code.getD k default) (out.getD k 0) with
  | true =>
   rw [if_pos rfl]
   exact ⟨k, _, hck, .inr (.inl hb)⟩
  | false =>
   rw [if_neg (by simp)]
   have hn := nOf_nonneg hb
   have hle := nx_le hj hk
   have G := goOn_ok (p := p) hn (nx (code.getD k default) k) out work hi (fun i hin => ⟨.next hck hk hin, hle i hin⟩)
   have U := goOn_unk (len := code.length) hn (nx (code.getD k default) k) out work
   revert G U
   cases goOn code.length (nOf p (code.getD k default) (out.getD k 0)) (nx (code.getD k default) k) out work with
   | none => intro G _; exact G
   | some r =>
    obtain ⟨o, w⟩ := r
    rintro ⟨a1, a2, a3, new, a4, a5, a6⟩ U
    obtain ⟨u1, u2⟩ := U o w hi.len hle rfl
    have ek := a2 k hk hk0
    refine wl_ok hj f o w a1 ⟨hz.1, by rw [a2 0 hz.1 (by omega)]; exact hz.2⟩ ?_ ?_ (by simp at hf; omega)
    ·intro j hjw
     rw [a4] at hjw
     rcases List.mem_append.1 hjw with h | h
     ·obtain ⟨b1, b2⟩ := hw j (by simp [h])
      exact ⟨b1, by rw [a2 j b1 b2]; exact b2⟩
     ·exact a6 j h
    ·intro j hjl hj0
     by_cases hjo : 0 ≤ out.getD j 0
     ·rcases ht j hjl hjo with h | h
      ·rcases List.mem_cons.1 h with rfl | h
       ·right
        exact ⟨by rw [ek]; exact hb, fun i hin => by rw [ek]; exact a3 i hin⟩
       ·left; rw [a4]; simp [h]
      ·right; exact h.more a2 hjl hjo
     ·left; rw [a4]; simp [a5 j hjl (by omega) hj0]
theorem out0_getD (n k : Nat) (hk : k < n) : (out0 n).getD k 0 = if k = 0 then 0 else -1 := by
 unfold out0
 by_cases e : k = 0
 ·subst e; rw [getD_set_same (by simp; omega)]; simp
 ·rw [getD_set_other (by omega), if_neg e]; simp [List.getD, hk]
theorem out0_inv {p : List GFunc} {code : List GOp} : Inv p code (out0 code.length) := by
 refine ⟨by simp [out0], fun k hk => ?_, fun k hk h0 => ?_⟩
 ·rw [out0_getD _ _ hk]; split <;> omega
 ·rw [out0_getD _ _ hk] at h0 ⊢
  split
  ·rename_i e; subst e; exact .start
  ·rename_i e; rw [if_neg e] at h0; omega
theorem unk_out0 (n : Nat) (hn : 0 < n) : unk (out0 n) + 1 = n := by
 have h := unk_set (l := List.replicate n (-1)) (i := 0) (n := 0) (by simpa using hn) (by simp [List.getD, hn]) (by omega)
 have : unk (List.replicate n (-1)) = n := by simp [unk, List.countP_replicate]
 unfold out0
 omega
theorem hts_finds {p : List GFunc} {code : List GOp} (hj : Jumps code) : Finds p code (hts p code) := by
 unfold hts
 by_cases hc : code = []
 ·rw [if_pos hc, hc]; exact Finds.empty
 ·rw [if_neg hc]
  have hl : 0 < code.length := List.length_pos_iff.2 hc
  refine wl_ok hj _ _ _ out0_inv ⟨hl, by rw [out0_getD _ _ hl]; rfl⟩ ?_ ?_ (by have := unk_out0 _ hl; simp; omega)
  ·intro k hk
   simp at hk; subst hk
   exact ⟨hl, by rw [out0_getD _ _ hl]; simp⟩
  ·intro k hk h0
   rw [out0_getD _ _ hk] at h0
   split at h0
   ·rename_i e; left; simp [e]
   ·omega
theorem putAll_ok {p : List GFunc} {code : List GOp} {n : Int} (hn : 0 ≤ n) : ∀ (is : List Nat) (out : List Int), Inv p code out → (∀ i ∈ is, Come p code i n ∧ i ≤ code.length) →
  match putAll code.length n is out with
  | none => Bad p code
  | some o => Inv p code o ∧ More code.length out o ∧ (∀ i ∈ is, i < code.length ∧ o.getD i 0 = n)
 | [], out, hi, _ => by
  simp only [putAll]
  exact ⟨hi, More.refl _ _, by simp⟩
 | i :: is, out, hi, hc => by
  obtain ⟨hci, hle⟩ := hc i (by simp)
  unfold putAll
  by_cases hb : i = code.length ∨ (0 ≤ out.getD i 0 ∧ out.getD i 0 ≠ n)
  ·rw [if_pos hb]
   exact bad_way hi hci hle hb
  ·rw [if_neg hb]
   have hlt : i < code.length := by omega
   have hlen := hi.len
   have IH := putAll_ok hn is (out.set i n) (hi.set (by omega) hci) (fun j hj => hc j (by simp [hj]))
   revert IH
   cases putAll code.length n is (out.set i n) with
   | none => exact id
   | some o =>
    rintro ⟨a1, a2, a3⟩
    refine ⟨a1, (More.set hlen (fun h => hb (.inr h))).trans a2, ?_⟩
    intro j hj
    rcases List.mem_cons.1 hj with rfl | hj
    ·exact ⟨hlt, by rw [a2 j hlt (by rw [getD_set_same (by omega)]; exact hn), getD_set_same (by omega)]⟩
    ·exact a3 j hj
theorem oneR_ok {p : List GFunc} {code : List GOp} (hj : Jumps code) : ∀ (ks : List Nat) (out : List Int), (∀ k ∈ ks, k < code.length) → Inv p code out →
  match oneR p code ks out with
  | none => Bad p code
  | some o => Inv p code o ∧ More code.length out o ∧ (∀ k ∈ ks, 0 ≤ out.getD k 0 → Thru p code o k)
 | [], out, _, hi => by
  simp only [oneR]
  exact ⟨hi, More.refl _ _, by simp⟩
 | k :: ks, out, hks, hi => by
  have hk := hks k (by simp)
  have A : match one1 p code k out with
    | none => Bad p code
    | some o => Inv p code o ∧ More code.length out o ∧ (0 ≤ out.getD k 0 → Thru p code o k) := by
   unfold one1
   by_cases h0 : out.getD k 0 < 0
   ·rw [if_pos h0]
    exact ⟨hi, More.refl _ _, fun h => by omega⟩
   ·rw [if_neg h0]
    have hk0 : 0 ≤ out.getD k 0 := by omega
    have hck := hi.come k hk hk0
    cases hb : badB p (code.getD k default) (out.getD k 0) with
    | true =>
     rw [if_pos rfl]
     exact ⟨k, _, hck, .inr (.inl hb)⟩
    | false =>
     rw [if_neg (by simp)]
     have G := putAll_ok (p := p) (nOf_nonneg hb) (nx (code.getD k default) k) out hi (fun i hin => ⟨.next hck hk hin, nx_le hj hk i hin⟩)
     revert G
     cases putAll code.length (nOf p (code.getD k default) (out.getD k 0)) (nx (code.getD k default) k) out with
     | none => exact id
     | some o =>
      rintro ⟨a1, a2, a3⟩
      have ek := a2 k hk hk0
      exact ⟨a1, a2, fun _ => ⟨by rw [ek]; exact hb, fun i hin => by rw [ek]; exact a3 i hin⟩⟩
  unfold oneR
  revert A
  cases one1 p code k out with
  | none => exact id
  | some o =>
   rintro ⟨a1, a2, a3⟩
   have IH := oneR_ok hj ks o (fun j hjk => hks j (by simp [hjk])) a1
   show match oneR p code ks o with
    | none => Bad p code
    | some o => Inv p code o ∧ More code.length out o ∧ (∀ j ∈ k :: ks, 0 ≤ out.getD j 0 → Thru p code o j)
   revert IH
   cases oneR p code ks o with
   | none => exact id
   | some o2 =>
    rintro ⟨b1, b2, b3⟩
    refine ⟨b1, a2.trans b2, fun j hjk h0 => ?_⟩
    rcases List.mem_cons.1 hjk with rfl | hjk
    ·exact (a3 h0).more b2 hk (by rw [a2 j hk h0]; exact h0)
    ·exact b3 j hjk (by rw [a2 j (hks j (by simp [hjk])) h0]; exact h0)
theorem unk_more : ∀ {a b : List Int}, a.length = b.length → (∀ k, k < a.length → -1 ≤ a.getD k 0) → (∀ k, k < b.length → -1 ≤ b.getD k 0) → More a.length a b → unk b ≤ unk a ∧ (unk b = unk a → a = b)
 | [], [], _, _, _, _ => by simp
 | [], _ :: _, h, _, _, _ => by simp at h
 | _ :: _, [], h, _, _, _ => by simp at h
 | x :: a, y :: b, h, ha, hb, hm => by
  obtain ⟨i1, i2⟩ := unk_more (a := a) (b := b) (by simpa using h) (fun k hk => by simpa [List.getD] using ha (k + 1) (by simpa using hk)) (fun k hk => by simpa [List.getD] using hb (k + 1) (by simpa using hk))
   (fun k hk h0 => by simpa [List.getD] using hm (k + 1) (by simpa using hk) (by simpa [List.getD] using h0))
  have m0 := hm 0 (by simp)
  have xa := ha 0 (by simp)
  have xb := hb 0 (by simp)
  simp [List.getD] at m0 xa xb
  simp only [unk, List.countP_cons] at i1 i2 ⊢
  by_cases hx : x < 0
  ·by_cases hy : y < 0
   ·simp [hx, hy]
    exact ⟨i1, fun e => ⟨by omega, i2 e⟩⟩
   ·simp [hx, hy]
    exact ⟨by omega, fun e => by omega⟩
  ·have := m0 (by omega)
   subst this
   simp [hx]
   exact ⟨i1, i2⟩
theorem rounds_ok {p : List GFunc} {code : List GOp} (hj : Jumps code) : ∀ (r : Nat) (out : List Int), Inv p code out → 0 < code.length ∧ out.getD 0 0 = 0 → ((∀ k, k < code.length → 0 ≤ out.getD k 0 → Thru p code out k) ∨ unk out < r) → Finds p code (rounds p code r out)
 | 0, out, hi, hz, ht => by
  simp only [rounds]
  exact ⟨hi, hz, ht.resolve_right (by omega)⟩
 | r + 1, out, hi, hz, ht => by
  unfold rounds
  have G := oneR_ok hj (List.range code.length) out (by simp) hi
  revert G
  cases oneR p code (List.range code.length) out with
  | none => exact id
  | some o =>
   rintro ⟨a1, a2, a3⟩
   refine rounds_ok hj r o a1 ⟨hz.1, by rw [a2 0 hz.1 (by omega)]; exact hz.2⟩ ?_
   obtain ⟨u1, u2⟩ := unk_more (a := out) (b := o) (by rw [hi.len, a1.len]) (fun k hk => hi.low k (by rw [← hi.len]; exact hk)) (fun k hk => a1.low k (by rw [← a1.len]; exact hk)) (by rw [hi.len]; exact a2)
   by_cases hu : unk o = unk out
   ·left
    have e := u2 hu
    subst e
    exact fun k hk h0 => a3 k (by simpa using hk) h0
   ·rcases ht with ht | ht
    ·left
     intro k hk h0
     by_cases hk0 : 0 ≤ out.getD k 0
     ·exact (ht k hk hk0).more a2 hk hk0
     ·exfalso
      have hfull : Full p code out := ⟨hi, hz, ht⟩
      have := (hfull.come_eq (a1.come k hk h0)).2.1
      omega
    ·right; omega
theorem htsR_finds {p : List GFunc} {code : List GOp} (hj : Jumps code) : Finds p code (htsR p code) := by
 unfold htsR
 by_cases hc : code = []
 ·rw [if_pos hc, hc]; exact Finds.empty
 ·rw [if_neg hc]
  have hl : 0 < code.length := List.length_pos_iff.2 hc
  refine rounds_ok hj _ _ out0_inv ⟨hl, by rw [out0_getD _ _ hl]; rfl⟩ (.inr ?_)
  have := unk_out0 _ hl
  omega
theorem htsR_eq {p : List GFunc} {code : List GOp} (hj : Jumps code) : htsR p code = hts p code := (htsR_finds hj).eq (hts_finds hj)
theorem hts_full {p : List GFunc} {code : List GOp} (hj : Jumps code) {l : List Int} (h : hts p code = some l) : Full p code l := by
 have := hts_finds (p := p) hj
 rw [h] at this
 exact this
theorem Come.from {p : List GFunc} {code : List GOp} {j : Nat} {n : Int} (h : Come p code j n) : (j = 0 ∧ n = 0) ∨ ∃ k h, Come p code k h ∧ k < code.length ∧ j ∈ nx (code.getD k default) k ∧ n = nOf p (code.getD k default) h := by
 cases h with
 | start => exact .inl ⟨rfl, rfl⟩
 | next a b c => exact .inr ⟨_, _, a, b, c, rfl⟩
end Go.Proofs.YtgahbngbpfilgaaGreat
end
section
set_option maxHeartbeats 400000
set_option maxRecDepth 100000
namespace Go.Proofs.YtgahbngbpfilgaaGreat
open Go Go.RowKit
theorem known_any (k : Int) (w : World) :
  Calls Tryz.prog 87 #[.int .i64 k] w fun e w' => e = .returned (.bool (knownB k)) ∧ w = w' := by
 unfold knownB
 go_enter Tryz.func87, Tryz.ntmps87
 go_wp2
 all_goals (go_ret; refine ⟨ret_bool ?_, rfl⟩; rw [Bool.eq_iff_iff]; simp <;> omega)
theorem within_any (k a b : Int) (w : World) :
  Calls Tryz.prog 21 #[.int .i64 k, .int .i64 a, .int .i64 b] w fun e w' => e = .returned (.bool (decide (a ≤ k ∧ k ≤ b))) ∧ w = w' := by
 go_enter Tryz.func21, Tryz.ntmps21
 go_wp2
 all_goals (go_ret; refine ⟨ret_bool ?_, rfl⟩; rw [Bool.eq_iff_iff]; simp <;> omega)
theorem sized_any (a l : Int) (s : Value) (code : List GOp) (w : World) :
  Calls Tryz.prog 85 #[.agg #[.int .i64 a, .int .i64 l, s]] w fun e w' => e = .returned (.bool (sizedB ⟨a, l, code⟩)) ∧ Ext w w' := by
 unfold sizedB
 go_enter Tryz.func85, Tryz.ntmps85
 go_wp2
 all_goals (go_ret; refine ⟨ret_bool ?_, (Ext.refl _).alloc _⟩; rw [Bool.eq_iff_iff]; simp <;> omega)
theorem badArgs_any (a l : Int) (s : Value) (code : List GOp) (w : World) :
  Calls Tryz.prog 63 #[.agg #[.int .i64 a, .int .i64 l, s]] w fun e w' => e = .returned (.bool (!sizedB ⟨a, l, code⟩)) ∧ Ext w w' := by
 unfold sizedB
 go_enter Tryz.func63, Tryz.ntmps63
 go_wp2
 all_goals (go_ret; refine ⟨ret_bool ?_, (Ext.refl _).alloc _⟩; rw [Bool.eq_iff_iff]; simp <;> omega)
def kindRow : Array Value := #[.int .i64 0, .int .i64 1, .func (.func 112) #[] #[], .int .i64 1, .int .i64 0, .func (.func 111) #[] #[], .int .i64 0, .int .i64 1, .func (.func 113) #[] #[], .int .i64 1, .int .i64 0, .func (.func 113) #[] #[], .int .i64 2, .int .i64 1, .func (.func 111) #[] #[], .int .i64 2, .int .i64 1, .func (.func 111) #[] #[], .int .i64 2, .int .i64 1, .func (.func 111) #[] #[], .int .i64 2, .int .i64 1, .func (.func 111) #[] #[], .int .i64 2, .int .i64 1, .func (.func 111) #[] #[], .int .i64 0, .int .i64 0, .func (.func 114) #[] #[], .int .i64 1, .int .i64 0, .func (.func 114) #[] #[], .int .i64 0, .int .i64 1, .func (.func 115) #[] #[], .int .i64 1, .int .i64 0, .func (.func 111) #[] #[], .int .i64 0, .int .i64 1, .func (.func 115) #[] #[], .int .i64 2, .int .i64 1, .func (.func 111) #[] #[], .int .i64 1, .int .i64 1, .func (.func 111) #[] #[], .int .i64 1, .int .i64 0, .func (.func 111) #[] #[]]
def kindFn : List Nat := [112, 111, 113, 113, 111, 111, 111, 111, 111, 114, 114, 115, 111, 115, 111, 111, 111]
def kindTakes : List Int := [0, 1, 0, 1, 2, 2, 2, 2, 2, 0, 1, 0, 1, 0, 2, 1, 1]
def kindLeaves : List Int := [1, 0, 1, 0, 1, 1, 1, 1, 1, 0, 0, 1, 0, 1, 1, 1, 0]
theorem wpList_build_to {P : Program} {ops : Array Oper} {rest : List Oper} {o : Oper} {a : Act} {w : World} {Q : Exit → Act → World → Prop} (hg : o.guard = none) (t : TypeId) (parts : Array (Nat × Operand)) (ho : o.op = .build t parts)
  (cells : Array Value) (hf : P.built t (parts.map fun (i, x) => (i, a.eval x)).toList = some cells)
  (h : wpList P ops Q rest (a.put o.dst (.agg cells)) w) : wpList P ops Q (o :: rest) a w :=
 wpList_build hg t parts ho (by rw [hf]; rfl) (by rw [hf]; exact h)
set_option maxHeartbeats 2000000 in
theorem kinds_any (w : World) :
  Calls Tryz.prog 86 #[] w fun e w' => e = .returned (.agg kindRow) ∧ Ext w w' := by
 obtain ⟨R, hR⟩ : ∃ R : Array Value, Hid (kindRow = R) := ⟨_, rfl⟩
 rw [hR.out]
 go_enter Tryz.func86, Tryz.ntmps86
 go_wp2_with (first | (refine wpList_build_to rfl 127 _ rfl R ?c1 ?_; case c1 => (rw [← hR.out]; kernel_rfl)) | (refine wpList_store_row rfl 127 _ _ rfl w.heap.size R rfl rfl _ _ (heap_alloc2_old _ _ _) (by rw [← hR.out]; kernel_rfl) (by rw [← hR.out]; rfl) (by rw [← hR.out]; kernel_rfl) ?_))
 refine bodyPost_ret (v := .agg R) (results_cell_row rfl _ _ w.heap.size _ R (0, 0) _ rfl (setRow_heap _ _ _ _ _ _ (heap_alloc2_old _ _ _)) rfl rfl (by rw [← hR.out]; kernel_rfl)) rfl ⟨rfl, ?_⟩
 exact (((Ext.refl _).alloc _).alloc _).setRow (Nat.le_refl _) _
theorem kinds1_any (a : Option Addr) (len cap : Nat) (A L : Int) (c : Option Addr) (n m : Nat) (w : World) :
  Calls Tryz.prog 111 #[.slice a len cap, .agg #[.int .i64 A, .int .i64 L, .slice c n m]] w fun e w' => e = .returned (.int .i64 0) ∧ Ext w w' := by
 go_enter Tryz.func111, Tryz.ntmps111
 go_wp2
 go_ret
 exact ⟨rfl, (Ext.refl _).alloc _⟩
theorem kinds2_any (a : Option Addr) (len cap : Nat) (A L : Int) (c : Option Addr) (n m : Nat) (w : World) :
  Calls Tryz.prog 112 #[.slice a len cap, .agg #[.int .i64 A, .int .i64 L, .slice c n m]] w fun e w' => e = .returned (.int .i64 999) ∧ Ext w w' := by
 go_enter Tryz.func112, Tryz.ntmps112
 go_wp2
 go_ret
 exact ⟨rfl, (Ext.refl _).alloc _⟩
theorem kinds3_any (a : Option Addr) (len cap : Nat) (A L : Int) (c : Option Addr) (n m : Nat) (h0 : 0 ≤ L) (h1 : L ≤ 4) (w : World) :
  Calls Tryz.prog 113 #[.slice a len cap, .agg #[.int .i64 A, .int .i64 L, .slice c n m]] w fun e w' => e = .returned (.int .i64 (L - 1)) ∧ Ext w w' := by
 go_enter Tryz.func113, Tryz.ntmps113
 go_wp2
 go_ret
 exact ⟨rfl, (Ext.refl _).alloc _⟩
theorem kinds4_any (a : Option Addr) (len cap : Nat) (A L : Int) (c : Option Addr) (n m : Nat) (h0 : n ≤ 24) (w : World) :
  Calls Tryz.prog 114 #[.slice a len cap, .agg #[.int .i64 A, .int .i64 L, .slice c n m]] w fun e w' => e = .returned (.int .i64 ((n : Int) - 1)) ∧ Ext w w' := by
 go_enter Tryz.func114, Tryz.ntmps114
 go_wp2
 go_ret
 exact ⟨rfl, (Ext.refl _).alloc _⟩
theorem kinds5_any (a : Option Addr) (len cap : Nat) (A L : Int) (c : Option Addr) (n m : Nat) (h0 : len ≤ 140737488355328) (w : World) :
  Calls Tryz.prog 115 #[.slice a len cap, .agg #[.int .i64 A, .int .i64 L, .slice c n m]] w fun e w' => e = .returned (.int .i64 ((len : Int) - 1)) ∧ Ext w w' := by
 go_enter Tryz.func115, Tryz.ntmps115
 go_wp2
 go_ret
 exact ⟨rfl, (Ext.refl _).alloc _⟩
theorem most_any (k : Int) (hk0 : 0 ≤ k) (hk : k ≤ 16) (f : GFunc) (p : List GFunc) (a : Option Addr) (cap : Nat) (hl : p.length ≤ 140737488355328)
  (A : Int) (c : Option Addr) (m : Nat) (h0 : 0 ≤ f.locals) (h1 : f.locals ≤ 4) (hn : f.code.length ≤ 24) (w : World) :
  Calls Tryz.prog (kindFn.getD k.toNat 0) #[.slice a p.length cap, .agg #[.int .i64 A, .int .i64 f.locals, .slice c f.code.length m]] w fun e w' => e = .returned (.int .i64 (mostOf p f k)) ∧ Ext w w' := by
 obtain ⟨j, rfl⟩ := Int.eq_ofNat_of_zero_le hk0
 have hj : j < 17 := by omega
 match j, hj with
 | 0, _ => exact kinds2_any a p.length cap A f.locals c f.code.length m w
 | 1, _ => exact kinds1_any a p.length cap A f.locals c f.code.length m w
 | 2, _ => exact kinds3_any a p.length cap A f.locals c f.code.length m h0 h1 w
 | 3, _ => exact kinds3_any a p.length cap A f.locals c f.code.length m h0 h1 w
 | 4, _ => exact kinds1_any a p.length cap A f.locals c f.code.length m w
 | 5, _ => exact kinds1_any a p.length cap A f.locals c f.code.length m w
 | 6, _ => exact kinds1_any a p.length cap A f.locals c f.code.length m w
 | 7, _ => exact kinds1_any a p.length cap A f.locals c f.code.length m w
 | 8, _ => exact kinds1_any a p.length cap A f.locals c f.code.length m w
 | 9, _ => exact kinds4_any a p.length cap A f.locals c f.code.length m hn w
 | 10, _ => exact kinds4_any a p.length cap A f.locals c f.code.length m hn w
 | 11, _ => exact kinds5_any a p.length cap A f.locals c f.code.length m hl w
 | 12, _ => exact kinds1_any a p.length cap A f.locals c f.code.length m w
 | 13, _ => exact kinds5_any a p.length cap A f.locals c f.code.length m hl w
 | 14, _ => exact kinds1_any a p.length cap A f.locals c f.code.length m w
 | 15, _ => exact kinds1_any a p.length cap A f.locals c f.code.length m w
 | 16, _ => exact kinds1_any a p.length cap A f.locals c f.code.length m w
 | (_ + 17), h => omega
end Go.Proofs.YtgahbngbpfilgaaGreat
end
section
set_option maxHeartbeats 400000
set_option maxRecDepth 100000
namespace Go.Proofs.YtgahbngbpfilgaaGreat
open Go Go.RowKit
theorem kind_at (k : Nat) (hk : k < 17) (w : World) : (Instr.index 127 (.agg kindRow) (.int .i64 k)).run Tryz.prog w =
  .ok (.agg #[.int .i64 (kindTakes.getD k 0), .int .i64 (kindLeaves.getD k 0), .func (.func (kindFn.getD k 0)) #[] #[]]) w := by
 match k, hk with
 | 0, _ => (show _ = _; kernel_rfl)
 | 1, _ => (show _ = _; kernel_rfl)
 | 2, _ => (show _ = _; kernel_rfl)
 | 3, _ => (show _ = _; kernel_rfl)
 | 4, _ => (show _ = _; kernel_rfl)
 | 5, _ => (show _ = _; kernel_rfl)
 | 6, _ => (show _ = _; kernel_rfl)
 | 7, _ => (show _ = _; kernel_rfl)
 | 8, _ => (show _ = _; kernel_rfl)
 | 9, _ => (show _ = _; kernel_rfl)
 | 10, _ => (show _ = _; kernel_rfl)
 | 11, _ => (show _ = _; kernel_rfl)
 | 12, _ => (show _ = _; kernel_rfl)
 | 13, _ => (show _ = _; kernel_rfl)
 | 14, _ => (show _ = _; kernel_rfl)
 | 15, _ => (show _ = _; kernel_rfl)
 | 16, _ => (show _ = _; kernel_rfl)
 | (_ + 17), h => omega
theorem kindRow_at (k : Nat) (hk : k < 17) : kindRow[k * 3 + 2]? = some (.func (.func (kindFn.getD k 0)) #[] #[]) := by
 match k, hk with
 | 0, _ => rfl
 | 1, _ => rfl
 | 2, _ => rfl
 | 3, _ => rfl
 | 4, _ => rfl
 | 5, _ => rfl
 | 6, _ => rfl
 | 7, _ => rfl
 | 8, _ => rfl
 | 9, _ => rfl
 | 10, _ => rfl
 | 11, _ => rfl
 | 12, _ => rfl
 | 13, _ => rfl
 | 14, _ => rfl
 | 15, _ => rfl
 | 16, _ => rfl
 | (_ + 17), h => omega
theorem kind_call (k : Nat) (hk : k < 17) (args : Array Value) (w : World) : (callFunc (kindFn[k]?.getD 0) args).run Tryz.prog w = .ok (.enter (kindFn[k]?.getD 0) args) w := by
 match k, hk with
 | 0, _ => (show _ = _; kernel_rfl)
 | 1, _ => (show _ = _; kernel_rfl)
 | 2, _ => (show _ = _; kernel_rfl)
 | 3, _ => (show _ = _; kernel_rfl)
 | 4, _ => (show _ = _; kernel_rfl)
 | 5, _ => (show _ = _; kernel_rfl)
 | 6, _ => (show _ = _; kernel_rfl)
 | 7, _ => (show _ = _; kernel_rfl)
 | 8, _ => (show _ = _; kernel_rfl)
 | 9, _ => (show _ = _; kernel_rfl)
 | 10, _ => (show _ = _; kernel_rfl)
 | 11, _ => (show _ = _; kernel_rfl)
 | 12, _ => (show _ = _; kernel_rfl)
 | 13, _ => (show _ = _; kernel_rfl)
 | 14, _ => (show _ = _; kernel_rfl)
 | 15, _ => (show _ = _; kernel_rfl)
 | 16, _ => (show _ = _; kernel_rfl)
 | (_ + 17), h => omega
theorem takes_at (p : List GFunc) (x : GOp) (hk : 0 ≤ x.kind) (hk' : x.kind ≤ 16) (h : x.kind ≠ 11) : kindTakes.getD x.kind.toNat 0 = takesOf p x := by
 obtain ⟨k, a⟩ := x
 obtain ⟨j, rfl⟩ := Int.eq_ofNat_of_zero_le hk
 have hj : j < 17 := by simp at hk'; omega
 match j, hj with
 | 0, _ => rfl
 | 1, _ => rfl
 | 2, _ => rfl
 | 3, _ => rfl
 | 4, _ => rfl
 | 5, _ => rfl
 | 6, _ => rfl
 | 7, _ => rfl
 | 8, _ => rfl
 | 9, _ => rfl
 | 10, _ => rfl
 | 11, _ => simp at h
 | 12, _ => rfl
 | 13, _ => rfl
 | 14, _ => rfl
 | 15, _ => rfl
 | 16, _ => rfl
 | (_ + 17), h => omega
theorem leaves_at (x : GOp) (hk : 0 ≤ x.kind) (hk' : x.kind ≤ 16) : kindLeaves.getD x.kind.toNat 0 = leavesOf x := by
 obtain ⟨k, a⟩ := x
 obtain ⟨j, rfl⟩ := Int.eq_ofNat_of_zero_le hk
 have hj : j < 17 := by simp at hk'; omega
 match j, hj with
 | 0, _ => rfl
 | 1, _ => rfl
 | 2, _ => rfl
 | 3, _ => rfl
 | 4, _ => rfl
 | 5, _ => rfl
 | 6, _ => rfl
 | 7, _ => rfl
 | 8, _ => rfl
 | 9, _ => rfl
 | 10, _ => rfl
 | 11, _ => rfl
 | 12, _ => rfl
 | 13, _ => rfl
 | 14, _ => rfl
 | 15, _ => rfl
 | 16, _ => rfl
 | (_ + 17), h => omega
theorem kinds_at (k : Int) (hk : 0 ≤ k) (hk' : k ≤ 16) (w : World) :
  Calls Tryz.prog 86 #[] w fun e w' => (∃ R, e = .returned (.agg R) ∧ ∀ w, (Instr.index 127 (.agg R) (.int .i64 k)).run Tryz.prog w =
   .ok (.agg #[.int .i64 (kindTakes.getD k.toNat 0), .int .i64 (kindLeaves.getD k.toNat 0), .func (.func (kindFn.getD k.toNat 0)) #[] #[]]) w) ∧ Ext w w' := by
 refine (kinds_any w).mono fun e w' ⟨he, hb⟩ => ⟨⟨_, he, fun w => ?_⟩, hb⟩
 obtain ⟨j, rfl⟩ := Int.eq_ofNat_of_zero_le hk
 exact kind_at j (by omega) w
theorem opOf_any (p : List GFunc) (v : Value) (S : Nat → Prop) (x : GOp) (w : World) (hp : Funcs w S v p) (hk : 0 ≤ x.kind) (hk' : x.kind ≤ 16) (ha : x.kind = 11 → 0 ≤ x.a ∧ x.a < p.length) :
    Calls Tryz.prog 89 #[v, .agg #[.int .i64 x.kind, .int .i64 x.a]] w fun e w' => e = .returned (.tuple #[.int .i64 (takesOf p x), .int .i64 (leavesOf x)]) ∧ Ext w w' := by
  have hl := leaves_at x hk hk'
  have ht := takes_at p x hk hk'
  have RA := alloc_keep
  go_enter Tryz.func89, Tryz.ntmps89
  go_wp2_with fail
  go_cut [6] (fun v6 wr => ∃ g, v6 = .pointer (some ⟨g, 0, none⟩) ∧ w.heap.size < g ∧ Ext w wr ∧ wr.cell? ⟨g, 0, none⟩ = some (.int .i64 (kindTakes[x.kind.toNat]?.getD 0)) ∧ wr.cell? ⟨g, 1, none⟩ = some (.int .i64 (kindLeaves[x.kind.toNat]?.getD 0)) ∧ wr.frozen? ⟨g, 0, none⟩ = false
     ∧ wr.cell? ⟨w.heap.size, 0, none⟩ = some (.int .i64 x.kind) ∧ wr.cell? ⟨w.heap.size, 1, none⟩ = some (.int .i64 x.a))
  case first =>
    have e0 : Ext w (w.alloc (.cells #[.int .i64 x.kind, .int .i64 x.a] 59)) := (Ext.refl w).alloc _
    clear hl ht
    go_region_held3 (fun w' => Ext (w.alloc (.cells #[.int .i64 x.kind, .int .i64 x.a] 59)) w' ∧ ∀ a, ((w.alloc (.cells #[.int .i64 x.kind, .int .i64 x.a] 59)).cell? a).isSome = true → w'.cell? a = (w.alloc (.cells #[.int .i64 x.kind, .int .i64 x.a] 59)).cell? a)
      ((refine ext_both ?_; ((repeat (first | assumption | exact Ext.refl _ | (exact And.left (by assumption)) | refine Ext.alloc ?_ _ | refine Ext.drew ?_ | refine Ext.drewN ?_ _ | refine Ext.setCell ?_ (by simp) _ | refine Ext.setCell ?_ (by simp; omega) _ | refine Ext.trans ?_ (by assumption))); done)))
      ((go_at_call 86; refine (kinds_at x.kind hk hk' _).mono ?_; rintro e w1 ⟨⟨R, rfl, hR⟩, hb⟩; have hc := Ext.keep hb; have hf := Ext.keepF hb; have hz : w.heap.size < w1.heap.size := (by have := Ext.size hb; simp at this; omega)))
    all_goals (go_wp2_with fail; go_meet; refine ⟨_, rfl, ?_, ?_, ?_, ?_, ?_, ?_, ?_⟩)
    all_goals first
      | exact hz
      | (simp; done)
      | (go_simp; done)
      | ((repeat (first | assumption | exact Ext.refl _ | (exact And.left (by assumption)) | refine Ext.alloc ?_ _ | refine Ext.drew ?_ | refine Ext.drewN ?_ _ | refine Ext.setCell ?_ (by simp) _ | refine Ext.setCell ?_ (by simp; omega) _ | refine Ext.trans ?_ (by assumption))); done)
  case rest =>
    obtain ⟨g, rfl, hg, hb, c0, c1, f0, x0, x1⟩ := hcut
    have HB := Lib.hid hb
    clear hb RA
    by_cases h11 : x.kind = 11
    · obtain ⟨h0, h1⟩ := ha h11
      obtain ⟨b, o, cap, rfl, hcap, _, hf0, _⟩ := hp.get (i := x.a.toNat) (by omega)
      have hff := Ext.cell HB.out hf0.2.1
      have HT := Lib.hid (show takesOf p x = p[x.a.toNat].args by unfold takesOf; simp [h11]; rw [List.getElem?_eq_getElem (by omega)]; rfl)
      have HL := Lib.hid hl
      clear hp hf0 ha ht hl
      go_wp2
      go_quiet (fail)
      go_wp2
      go_ret2
      refine ⟨?_, Ext.drewN (Ext.setCell HB.out (by simp; omega) _) _⟩
      rw [HT.out, ← HL.out]
      simp [h11]
    · have HT := Lib.hid (ht h11)
      have HL := Lib.hid hl
      clear hp ha ht hl
      go_wp2
      go_quiet (fail)
      go_wp2
      go_ret2
      refine ⟨?_, Ext.drewN HB.out _⟩
      rw [← HT.out, ← HL.out]
      simp
end Go.Proofs.YtgahbngbpfilgaaGreat
end
