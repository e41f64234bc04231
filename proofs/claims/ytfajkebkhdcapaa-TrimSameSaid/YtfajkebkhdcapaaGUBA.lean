/- Merged texts: contracts and plain facts, one part behind another; each part begins with what it says. -/
import Derived.Test.YtfajkebkhdcapaaGUAG
import Derived.Test.YtfajkebkhdcapaaGUAO
import Derived.Test.YtfajkebkhdcapaaGUAP
import Derived.Test.YtfajkebkhdcapaaGUAZ
section
/- Contracts of step.Do and run.Run, All: what they answer, whatever they are handed. -/
set_option maxHeartbeats 4000000
set_option maxRecDepth 100000
namespace Go.Proofs.Ytfajkebkhdcapaa
open Go Go.RowKit

def doS (p : List GFunc) (s : GState) : Int × GState := if stateErr p s ≠ 0 then (stateErr p s, ⟨[], 0, []⟩) else stepG p s
def allG (p : List GFunc) (fuel : Int) : List Int × Int × Int :=
  if ¬ (0 ≤ fuel ∧ fuel ≤ 500) then ([], 0, 3) else if progErr p ≠ 0 then ([], 0, progErr p) else ((runG p fuel.toNat (beginG p)).1.out, (runG p fuel.toNat (beginG p)).2.1, (runG p fuel.toNat (beginG p)).2.2)

theorem fuelled_any (n : Int) (w : World) : Calls Try.prog 31 #[.int .i64 n] w fun e w' => e = .returned (.bool (decide (0 ≤ n ∧ n ≤ 500))) ∧ w = w' := by
  by_cases h : 0 ≤ n
  · have T1 : decide (0 ≤ n) = true := decide_eq_true h
    have e : decide (0 ≤ n ∧ n ≤ 500) = decide (n ≤ 500) := decide_eq_decide.2 ⟨fun k => k.2, fun k => ⟨h, k⟩⟩
    rw [e]
    clear h e
    go_enter Try.func31, Try.ntmps31
    go_wp2_with fail
    go_ret
    exact ⟨rfl, rfl⟩
  · have T1 : decide (0 ≤ n) = false := decide_eq_false h
    have e : decide (0 ≤ n ∧ n ≤ 500) = false := decide_eq_false (fun k => h k.1)
    rw [e]
    clear h e
    go_enter Try.func31, Try.ntmps31
    go_wp2_with fail
    go_ret
    exact ⟨rfl, rfl⟩

end Go.Proofs.Ytfajkebkhdcapaa
end
section
/- Plain facts of what Do and Run answer, for the laws. -/
namespace Go.Proofs.Ytfajkebkhdcapaa
set_option maxHeartbeats 1000000

/-- Where running stops. -/
structure EndF (p : List GFunc) (m : Int) (r : GState × Int × Int) : Prop where
  err : stateErr p r.1 = 0
  low : 0 ≤ r.2.1
  high : r.2.1 ≤ m
  bad : r.2.2 ≠ 0 → r.2.1 < m ∧ 0 ≤ r.1.now ∧ (doS p r.1).1 = r.2.2
  fine : r.2.2 = 0 → r.2.1 = m ∨ (r.1.now = -1 ∧ (doS p r.1).1 = 8)
open Go Go.RowKit
theorem Sl.front {α : Type} {E : Nat → Nat → α → Prop} {sz bytes n cap : Nat} {a : Option Addr} {l r : List α} (h : Sl E sz bytes (.slice a n cap) l) {k : Nat} (hk : k ≤ n) (hr : l.take k = r) : Sl E sz bytes (.slice a k cap) r := by
  obtain ⟨a', cap', e, h1, h2, h3⟩ := h
  simp only [Value.slice.injEq] at e
  obtain ⟨rfl, rfl, rfl⟩ := e
  subst hr
  refine ⟨a, cap, by rw [List.length_take, Nat.min_eq_left hk], by rw [List.length_take]; omega, ⟨Nat.le_trans (Nat.mul_le_mul_right _ (by rw [List.length_take]; omega)) h2.1, h2.2⟩, fun i hi => ?_⟩
  rw [List.length_take] at hi
  obtain ⟨b, o, e, hE⟩ := h3 i (by omega)
  exact ⟨b, o, e, by rw [List.getElem_take]; exact hE⟩
theorem Ints.front {w : World} {S : Nat → Prop} {n cap : Nat} {a : Option Addr} {l r : List Int} (h : Ints w S (.slice a n cap) l) {k : Nat} (hk : k ≤ n) (hr : l.take k = r) : Ints w S (.slice a k cap) r := Sl.front h hk hr
/-- With more fuel no less is done. -/
structure FarF (m n : Int) (r q : List Int × Int × Int) : Prop where
  low : 0 ≤ r.2.1 ∧ r.2.1 ≤ m
  high : q.2.1 ≤ m + n
  le : r.2.1 ≤ q.2.1
  len : r.1.length ≤ q.1.length
  pre : q.1.take r.1.length = r.1
  err : r.2.2 = 0 ∨ (r.2.2 ≠ 0 ∧ r.2.2 = q.2.2 ∧ r.2.1 = q.2.1)
/-- Running on in two goes: r the first, q the second, a at one go. -/
structure SplitF (p : List GFunc) (m n : Int) (r q a : GState × Int × Int) : Prop where
  i0 : 0 ≤ r.2.1
  i1 : r.2.1 ≤ m
  j0 : 0 ≤ q.2.1
  j1 : q.2.1 ≤ n
  bad : r.2.2 ≠ 0 → a = r ∧ q.1 = r.1 ∧ q.2.1 = 0 ∧ ((n = 0 ∧ q.2.2 = 0) ∨ (0 < n ∧ q.2.2 = r.2.2))
  fine : r.2.2 = 0 → a = (q.1, r.2.1 + q.2.1, q.2.2) ∧ stateErr p q.1 = 0 ∧ (r.2.1 = m ∨ r.1.now = -1)
/-- A slice's own fiber, as a slice of one. -/
theorem Fibers.one {w : World} {S : Nat → Prop} {b o n cap : Nat} {l : List GFiber} (h : Fibers w S (.slice (some ⟨b, o, none⟩) n cap) l) {i : Nat} (hi : i < l.length) : StateV w S (.agg #[.slice (some ⟨b, o + i * 2, none⟩) 1 (cap - i), .int .i64 0, .slice none 0 0]) ⟨[l.getD i default], 0, []⟩ := by
  obtain ⟨a', cap', e, h1, h2, h3⟩ := h
  simp only [Value.slice.injEq] at e
  obtain ⟨rfl, rfl, rfl⟩ := e
  obtain ⟨b', o', e, hE⟩ := h3 i hi
  simp only [Option.some.injEq, Addr.mk.injEq, and_true] at e
  obtain ⟨rfl, rfl⟩ := e
  refine ⟨_, _, rfl, ⟨_, _, rfl, by simp only [List.length_singleton]; omega, ⟨by simp, by omega⟩, fun j hj => ⟨b, o + i * 2, rfl, ?_⟩⟩, I64.zero, Sl.nil _ _ _⟩
  have hj0 : j = 0 := by simpa using hj
  subst hj0
  rw [List.getElem_cons_zero, List.getD_eq_getElem?_getD, List.getElem?_eq_getElem hi]
  exact hE
theorem StateV.bd {w : World} {S : Nat → Prop} {a b : Option Addr} {n m c d : Nat} {k : Int} {s : GState} (h : StateV w S (.agg #[.slice a n c, .int .i64 k, .slice b m d]) s) :
    (n = s.fibers.length ∧ n ≤ c ∧ n * 32 ≤ 140737488355328 ∧ c ≤ 9223372036854775807) ∧ m = s.out.length ∧ m ≤ d ∧ m * 8 ≤ 140737488355328 ∧ d ≤ 9223372036854775807 := by
  obtain ⟨_, _, e, ⟨a1, c1, rfl, h1, h2, _⟩, _, ⟨a2, c2, rfl, h3, h4, _⟩⟩ := h
  simp only [Value.agg.injEq, Array.mk.injEq, List.cons.injEq, and_true, Value.slice.injEq] at e
  obtain ⟨⟨-, rfl, rfl⟩, -, -, rfl, rfl⟩ := e
  exact ⟨⟨rfl, h1, h2.1, h2.2⟩, rfl, h3, h4.1, h4.2⟩
end Go.Proofs.Ytfajkebkhdcapaa
end
section
/- Plain: trimmed, the same is put out, by as many steps, with the same error. No program in sight; no condition. -/
namespace Go.Proofs.Ytfajkebkhdcapaa
set_option maxHeartbeats 1000000

/-- Where a frame stands in the trimmed function. -/
def posM (p : List GFunc) (f a : Int) : Int := (keepN (hgt p f) a.toNat : Int)
theorem posM_zero (p : List GFunc) (f : Int) : posM p f 0 = 0 := by unfold posM; rw [Int.toNat_zero, keepN_zero]; rfl

/-- What a right function's ops are, and what is left of them. -/
structure PosF (p : List GFunc) (f : Int) (l : List Int) : Prop where
  h : hgt p f = l
  len : l.length = (funcOf p f).code.length
  zero : 0 ≤ l.getD 0 0
  code : (funcOf (p.map (trimG p)) f).code = trimC (funcOf p f).code l
theorem posF {p : List GFunc} (hp : progErr p = 0) {f : Int} (f0 : 0 ≤ f) (f1 : f < p.length) : ∃ l, PosF p f l := by
  obtain ⟨k, rfl⟩ := Int.eq_ofNat_of_zero_le f0
  have hk : k < p.length := by omega
  obtain ⟨l, hF⟩ := trim_facts hp k hk
  have e := trim_at k hk
  have hfull := hts_full hF.right.jumps hF.h
  refine ⟨l, ?_, ?_, ?_, ?_⟩
  · unfold hgt; rw [Int.toNat_natCast, e.2, hF.h]; rfl
  · unfold funcOf; rw [Int.toNat_natCast, e.2]; exact hfull.len
  · rw [hfull.zero.2]; exact Int.le_refl _
  · unfold funcOf; rw [Int.toNat_natCast, e.1, e.2, hF.g]

theorem pos_step {p : List GFunc} {f : Int} {l : List Int} (h : PosF p f l) {a : Int} (a0 : 0 ≤ a) (a1 : a < (funcOf p f).code.length) (ha : 0 ≤ l.getD a.toNat 0) : posM p f (a + 1) = posM p f a + 1 := by
  unfold posM
  rw [h.h, show (a + 1).toNat = a.toNat + 1 by omega, keepN_succ (by rw [h.len]; omega), if_pos ha]
  omega
theorem pos_up {p : List GFunc} {f : Int} {l : List Int} (h : PosF p f l) {a : Int} (a0 : 0 < a) (a1 : a ≤ (funcOf p f).code.length) : posM p f a ≠ 0 := by
  unfold posM
  rw [h.h]
  have := keepN_lt (l := l) (a := 0) (b := a.toNat) (by omega) (by rw [h.len]; omega) h.zero
  omega
theorem op_map {p : List GFunc} {x : GFrame} {l : List Int} (h : PosF p x.func l) (a0 : 0 ≤ x.at_) (a1 : x.at_ < (funcOf p x.func).code.length) (ha : 0 ≤ l.getD x.at_.toNat 0) :
    opAt (p.map (trimG p)) (mapFr (posM p) x) = trimOp l (opAt p x) := by
  unfold opAt
  show (funcOf (p.map (trimG p)) x.func).code.getD (posM p x.func x.at_).toNat default = _
  rw [h.code]
  unfold posM
  rw [h.h, Int.toNat_natCast, List.getD_eq_getElem?_getD, trimC_at h.len (by omega) ha, List.getD_eq_getElem?_getD, List.getElem?_eq_getElem (by omega)]
  rfl

theorem trim_done {p : List GFunc} {s : GState} {l : List Int} (h : Ok p s l) (h0 : 0 ≤ s.now) : doneG (p.map (trimG p)) (mapSt (posM p) s) = ((doneG p s).1, mapSt (posM p) (doneG p s).2) := by
  obtain ⟨k, fs, x, r, hR⟩ := h.runs h0
  obtain ⟨hA, hN, _⟩ := hR.adv
  have hF := opF_of (progErr_zero h.prog) hR.frame hR.full
  have hx : curX s = x := hR.at_.curX
  have hk : (k : Int).toNat = k := Int.toNat_natCast k
  obtain ⟨hl, hP⟩ := posF h.prog hF.fn.1 hF.fn.2
  obtain ⟨_, _, _, hht⟩ := frameB_facts hR.frame
  have hht : 0 ≤ hl.getD x.at_.toNat 0 := by rw [← hP.h]; exact hht
  have eo := op_map hP hF.at_.1 hF.at_.2 hht
  unfold doneG
  rw [curX_map (posM p) (posM_zero p), hx, eo, advG_map (posM p) (posM_zero p) s (by rw [hx]; exact pos_step hP hF.at_.1 hF.at_.2 hht), trimOp_kind]
  have hA2 : At (popG (advG s)) k fs { { x with at_ := x.at_ + 1 } with stack := x.stack.dropLast } := hA.top _ hA.now
  have hN2 : Near s (popG (advG s)) k := hN.top hR.at_.lt _ hA.now
  have hA3 : At (popG (popG (advG s))) k fs { { x with at_ := x.at_ + 1 } with stack := x.stack.dropLast.dropLast } := hA2.top _ hA2.now
  have hN3 : Near s (popG (popG (advG s))) k := hN2.top hR.at_.lt _ hA2.now
  refine workG_map (posM p) (posM_zero p) (fun a => ?_) (advG s) _ _ _ (fun e => ?_) (fun e => ?_) (fun e1 e2 => ?_) (fun _ n hn hfr hat => ?_)
  · exact trim_args p a.toNat
  · rw [hA.curX]
    show posM p x.func _ = _
    unfold posM trimOp
    rw [if_pos (.inl e), hP.h]
  · rw [hA2.curX]
    show posM p x.func _ = _
    unfold posM trimOp
    rw [if_pos (.inr e), hP.h]
  · unfold trimOp
    rw [if_neg (by omega)]
  · have hns : n < s.fibers.length := by rw [← hN.len]; exact hn
    by_cases e : n = k
    · subst e
      have et : topOf ((popG (popG (advG s))).fibers.getD n default) = { { x with at_ := x.at_ + 1 } with stack := x.stack.dropLast.dropLast } := by
        unfold topOf
        rw [hA3.frames]
        simp
      rw [et]
      exact pos_up hP (by show 0 < x.at_ + 1; have := hF.at_.1; omega) (by show x.at_ + 1 ≤ _; have := hF.at_.2; omega)
    · rw [hN3.other n hns e] at hfr hat ⊢
      have hb := h.fib n hns
      obtain ⟨fs', y, ef, _, hfy, _⟩ := fiber_split hb (fun e => by rw [e] at hfr; simp at hfr)
      have et : topOf (s.fibers.getD n default) = y := by
        unfold topOf
        rw [ef]
        simp
      rw [et] at hat ⊢
      obtain ⟨y1, _, y3, _⟩ := frameB_facts hfy
      obtain ⟨_, hPy⟩ := posF h.prog y1.1 y1.2
      exact pos_up hPy (by omega) (by omega)

theorem trim_run {p : List GFunc} : ∀ (n : Nat) {s : GState} {l : List Int}, Ok p s l → runG (p.map (trimG p)) n (mapSt (posM p) s) = (mapSt (posM p) (runG p n s).1, (runG p n s).2)
  | 0, s, l, _ => by rw [runG0, runG0]
  | n + 1, s, l, h => by
    by_cases h0 : s.now < 0
    · rw [runG_over p s n h0, runG_over _ (mapSt (posM p) s) n h0]
    · have hd := trim_done h (by omega)
      by_cases e : (doneG p s).1 = 0
      · obtain ⟨_, hr⟩ := step_right h (by omega)
        obtain ⟨l', h'⟩ : ∃ l', Ok p (doneG p s).2 l' := by
          rcases hr with ⟨_, h⟩ | h
          · exact h
          · omega
        rw [runG_on p s n h0 e, runG_on _ (mapSt (posM p) s) n h0 (by rw [hd]; exact e), hd]
        dsimp only
        rw [trim_run n h']
      · rw [runG_bad p s n h0 e, runG_bad _ (mapSt (posM p) s) n h0 (by rw [hd]; exact e), hd]
theorem trim_begin (p : List GFunc) : beginG (p.map (trimG p)) = mapSt (posM p) (beginG p) := by
  unfold beginG mapSt mapFib mapFr freshFrame
  have e := trim_args p 0
  simp only [List.map_cons, List.map_nil, posM_zero]
  have e2 : (funcOf (p.map (trimG p)) 0).locals = (funcOf p 0).locals := e.2
  rw [e2]
theorem trim_all {p : List GFunc} (hp : progErr p = 0) (m : Int) : allG (p.map (trimG p)) m = allG p m := by
  unfold allG
  by_cases h : ¬ (0 ≤ m ∧ m ≤ 500)
  · rw [if_pos h, if_pos h]
  · rw [if_neg h, if_neg h, if_neg (fun k => k (trim_right hp)), if_neg (fun k => k hp), trim_begin, trim_run m.toNat (begin_ok hp)]
    rfl
end Go.Proofs.Ytfajkebkhdcapaa
end
section
/- Contracts of run.All and of the document's RunAll. -/
set_option maxHeartbeats 4000000
set_option maxRecDepth 100000
namespace Go.Proofs.Ytfajkebkhdcapaa
open Go Go.RowKit

theorem runAll_any (p : List GFunc) (v : Value) (S : Nat → Prop) (fuel : Int) (w : World) (hp : Funcs w S v p) :
    Calls Try.prog 14 #[v, .int .i64 fuel] w fun e w' => (∃ x, e = .returned (.tuple #[x, .int .i64 (allG p fuel).2.1, .int .i64 (allG p fuel).2.2]) ∧ Ints w' (fun _ => True) x (allG p fuel).1) ∧ Ext w w' := by
  have HP := Lib.hid hp
  obtain ⟨ap, cp, rfl, _, _, _⟩ := hp
  have RA := alloc_keep
  by_cases hfu : 0 ≤ fuel ∧ fuel ≤ 500
  · have HW : Hid (decide (0 ≤ fuel ∧ fuel ≤ 500) = true) := decide_eq_true hfu
    obtain ⟨fn, hfn⟩ : ∃ n : Nat, fuel = n := ⟨fuel.toNat, by omega⟩
    subst hfn
    by_cases hz : progErr p = 0
    · have HG : Hid (allG p fn = ((runG p fn (beginG p)).1.out, (runG p fn (beginG p)).2.1, (runG p fn (beginG p)).2.2)) := by unfold Hid allG; rw [if_neg (fun h => h hfu), if_neg (fun h => h hz), Int.toNat_natCast]
      have HOK := Lib.hid (begin_ok hz)
      have HZ := Lib.hid hz
      clear hz
      go_enter Try.func14, Try.ntmps14
      go_wp2_with (first
        | (go_at_call 31; (with_reducible refine (fuelled_any _ _).mono ?_); rintro e w4 ⟨rfl, rfl⟩; rw [HW.out])
        | (go_at_call 24; (with_reducible refine (progCheck_any p _ _ _ HP.out).mono ?_); rintro e w5 ⟨rfl, hx5⟩; rw [HZ.out]; have HX5 := Lib.hid hx5; clear hx5)
        | (go_at_call 33; (with_reducible refine (first_any p _ _ _ (Funcs.stays (Ext.stays HX5.out) HP.out) HZ.out).mono ?_); rintro e w6 ⟨⟨x, rfl, hx⟩, hx6⟩; have HX6 := Lib.hid (HX5.out.trans hx6); have HXS := Lib.hid hx; clear hx hx6)
        | (go_at_call 32; (with_reducible refine (on_any p _ _ _ (beginG p) [0] _ fn _ (Funcs.stays (Ext.stays HX6.out) HP.out) HXS.out HOK.out (by omega)).mono ?_); rintro e w7 ⟨⟨y, rfl, hy⟩, hx7⟩; have HYS := Lib.hid hy.state; obtain ⟨ax, cx, bx, dx, rfl⟩ := hy.few; have HX7 := Lib.hid hx7; clear hy hx7))
      go_ret3
      rw [HG.out]
      obtain ⟨u, z, e, _, _, ho⟩ := HYS.out
      simp only [Value.agg.injEq, Array.mk.injEq, List.cons.injEq, and_true, true_and] at e
      obtain ⟨-, e⟩ := e
      rw [← e] at ho
      refine ⟨⟨_, rfl, Ints.stays (fun b o v _ hc => ⟨Ext.cell ((Ext.refl w7).alloc _) hc, trivial⟩) ho⟩, (HX6.out.trans HX7.out).alloc _⟩
    · have HG : Hid (allG p fn = ([], 0, progErr p)) := by unfold Hid allG; rw [if_neg (fun h => h hfu), if_pos hz]
      have TE : (progErr p != 0) = true := bne_iff_ne.2 hz
      obtain ⟨re, hre⟩ : ∃ re, progErr p = re := ⟨_, rfl⟩
      rw [hre] at TE HG
      have HRE := Lib.hid hre
      clear hz hre
      go_enter Try.func14, Try.ntmps14
      go_wp2_with (first
        | (go_at_call 31; (with_reducible refine (fuelled_any _ _).mono ?_); rintro e w4 ⟨rfl, rfl⟩; rw [HW.out])
        | (go_at_call 24; (with_reducible refine (progCheck_any p _ _ _ HP.out).mono ?_); rintro e w5 ⟨rfl, hx5⟩; rw [HRE.out]; have HX5 := Lib.hid hx5; clear hx5))
      go_ret3
      rw [HG.out]
      exact ⟨⟨_, rfl, Sl.nil _ _ _⟩, HX5.out⟩
  · have HW : Hid (decide (0 ≤ fuel ∧ fuel ≤ 500) = false) := decide_eq_false hfu
    have HG : Hid (allG p fuel = ([], 0, 3)) := by unfold Hid allG; rw [if_pos hfu]
    clear hfu
    go_enter Try.func14, Try.ntmps14
    go_wp2_with (first
      | (go_at_call 31; (with_reducible refine (fuelled_any _ _).mono ?_); rintro e w4 ⟨rfl, rfl⟩; rw [HW.out]))
    go_ret3
    rw [HG.out]
    exact ⟨⟨_, rfl, Sl.nil _ _ _⟩, Ext.refl _⟩
end Go.Proofs.Ytfajkebkhdcapaa
end
