/- Merged texts: contracts and plain facts, one part behind another; each part begins with what it says. -/
import Derived.Test.YtfajkebkhdcapaaGSAJ
import Derived.Test.YtfajkebkhdcapaaGSAK
import Derived.Test.YtfajkebkhdcapaaGSAS
section
/- Plain data: what a step of a right state does, for the laws of steps. No program in sight; no condition. -/
set_option maxHeartbeats 1000000
namespace Go.Proofs.Ytfajkebkhdcapaa
open Go Go.RowKit

theorem RightS.err {p : List GFunc} {s : GState} {l : List Int} (h : RightS p s l) : stateErr p s = 0 := by
  have e1 : allK s.fibers.length (framesFew s) = true := allK_true fun k hk => decide_eq_true (h.frames k hk)
  have e2 : allK s.fibers.length (callersB s) = true := allK_true fun k hk => decide_eq_true (h.callers.all k hk)
  have e3 : allK s.fibers.length (fibK p s l) = true := allK_true h.fib
  have := h.few
  have := h.out
  have := h.pos
  unfold stateErr
  rw [if_neg (fun k => k h.prog), if_neg (by omega), e1, if_neg (by decide), if_neg (by omega), if_neg (fun k => k h.callers.now), e2, if_neg (by decide)]
  unfold lineErr
  rw [h.line]
  simp only
  rw [h.ends, if_neg (by decide), if_neg h.done, e3, if_neg (by decide)]
theorem Ok.err {p : List GFunc} {s : GState} {l : List Int} (h : Ok p s l) : stateErr p s = 0 := h.right.err
theorem ok_of_err {p : List GFunc} {s : GState} (h : stateErr p s = 0) : ∃ l, Ok p s l := by
  obtain ⟨l, hl⟩ := stateErr_zero h
  exact ⟨l, hl.ok⟩

/-- As s was, but for two fibers. -/
structure Off (s u : GState) (n m : Int) : Prop where
  len : u.fibers.length = s.fibers.length
  out : u.out = s.out
  keep : ∀ j, j < s.fibers.length → (j : Int) ≠ n → (j : Int) ≠ m → u.fibers.getD j default = s.fibers.getD j default
theorem Off.refl (s : GState) (n m : Int) : Off s s n m := ⟨rfl, rfl, fun _ _ _ _ => rfl⟩
theorem Off.fib {s u : GState} {n m : Int} (h : Off s u n m) {i : Int} (hi : i = n ∨ i = m) (h0 : 0 ≤ i) (g : GFiber → GFiber) : Off s (modFib u i g) n m := by
  refine ⟨(modFib_len _ _ _).trans h.len, h.out, fun j hj h1 h2 => ?_⟩
  rw [modFib_get _ _ _ _ (by rw [h.len]; exact hj), if_neg (fun e => by
    have : (j : Int) = i := by omega
    rcases hi with hi | hi
    · exact h1 (this.trans hi)
    · exact h2 (this.trans hi))]
  exact h.keep j hj h1 h2
theorem Off.top {s u : GState} {n m : Int} (h : Off s u n m) {i : Int} (hi : i = n ∨ i = m) (h0 : 0 ≤ i) (g : GFrame → GFrame) : Off s (modTop u i g) n m := h.fib hi h0 _
theorem Off.now {s u : GState} {n m : Int} (h : Off s u n m) (k : Int) : Off s { u with now := k } n m := ⟨h.len, h.out, h.keep⟩

/-- What a step leaves as it was. -/
structure OneS (s t : GState) : Prop where
  len : s.fibers.length ≤ t.fibers.length ∧ t.fibers.length ≤ s.fibers.length + 1
  out : t.out = s.out ∨ ∃ v, t.out = s.out ++ [v]
  keep : ∀ j, j < s.fibers.length → (j : Int) ≠ s.now → (j : Int) ≠ t.now → t.fibers.getD j default = s.fibers.getD j default
theorem Off.one {s u : GState} (h : Off s u s.now u.now) : OneS s u := ⟨by rw [h.len]; omega, .inl h.out, h.keep⟩

theorem back_one {s u : GState} (h : Off s u s.now (curF u).caller) (hn : u.now = s.now) (h0 : 0 ≤ s.now) (hc : 0 ≤ (curF u).caller) (v : Int) : OneS s (backG u v) := by
  have h1 : Off s { modFib u u.now (fun f => { f with caller := -1 }) with now := (curF u).caller } s.now (curF u).caller := (h.fib (.inl hn) (by rw [hn]; exact h0) _).now _
  exact (h1.top (.inr rfl) hc fun x => { x with stack := x.stack ++ [v] }).one
theorem put_one {s u : GState} (h : ∀ m, Off s u s.now m) (v : Int) (e : (putG u v).1 = 0) : OneS s (putG u v).2 := by
  unfold putG at e ⊢
  by_cases h1 : u.out.length = 30
  · rw [if_pos h1] at e; cases e
  · rw [if_neg h1]
    have h2 := h u.now
    exact ⟨by show s.fibers.length ≤ u.fibers.length ∧ u.fibers.length ≤ _; rw [h2.len]; omega, .inr ⟨v, by show u.out ++ [v] = _; rw [h2.out]⟩, fun j hj a b => h2.keep j hj a b⟩
theorem work_one {p : List GFunc} {s t : GState} {k a : Int} (h0 : 0 ≤ s.now) (ht : ∀ m, Off s t s.now m) (hn : t.now = s.now) (e : (workG p t k a).1 = 0) : OneS s (workG p t k a).2 := by
  have hz : 0 ≤ t.now := by rw [hn]; exact h0
  have tp : ∀ {u : GState}, (∀ m, Off s u s.now m) → ∀ {i : Int}, i = s.now → ∀ (g : GFrame → GFrame) m, Off s (modTop u i g) s.now m := fun hu i hi g m => (hu m).top (.inl hi) (by omega) g
  have pp : ∀ m, Off s (popG t) s.now m := tp ht hn _
  have pp2 : ∀ m, Off s (popG (popG t)) s.now m := tp pp hn _
  have one : ∀ {u : GState}, (∀ m, Off s u s.now m) → OneS s u := fun hu => (hu _).one
  unfold workG at e ⊢
  by_cases k0 : k = 0
  · rw [if_pos k0]; exact one (tp ht hn _)
  rw [if_neg k0] at e ⊢
  by_cases k0 : k = 1
  · rw [if_pos k0]; exact one pp
  rw [if_neg k0] at e ⊢
  by_cases k0 : k = 2
  · rw [if_pos k0]; exact one (tp ht hn _)
  rw [if_neg k0] at e ⊢
  by_cases k0 : k = 3
  · rw [if_pos k0]; exact one (tp pp hn _)
  rw [if_neg k0] at e ⊢
  by_cases k0 : k = 9
  · rw [if_pos k0]; exact one (tp ht hn _)
  rw [if_neg k0] at e ⊢
  by_cases k0 : k = 10
  · rw [if_pos k0]
    by_cases hl : lastV t = 0
    · rw [if_pos hl]; exact one (tp pp hn _)
    · rw [if_neg hl]; exact one pp
  rw [if_neg k0] at e ⊢
  by_cases k0 : k = 11
  · rw [if_pos k0] at e ⊢
    unfold callG at e ⊢
    by_cases h6 : (curF t).frames.length = 6
    · rw [if_pos h6] at e; cases e
    · rw [if_neg h6]
      exact one fun m => (tp ht hn _ m).fib (.inl hn) (by omega) _
  rw [if_neg k0] at e ⊢
  by_cases k0 : k = 12
  · rw [if_pos k0] at e ⊢
    have dp : ∀ m, Off s (dropG (popG t)) s.now m := fun m => (pp m).fib (.inl hn) (by show 0 ≤ t.now; omega) _
    unfold returnG at e ⊢
    by_cases h1 : 0 < (curF (dropG (popG t))).frames.length
    · rw [if_pos h1]; exact one (tp dp hn _)
    · rw [if_neg h1] at e ⊢
      by_cases h2 : (curF (dropG (popG t))).caller < 0
      · rw [if_pos h2] at e ⊢; exact put_one (fun m => (dp m).now _) _ e
      · rw [if_neg h2]; exact back_one (dp _) hn h0 (by omega) _
  rw [if_neg k0] at e ⊢
  by_cases k0 : k = 13
  · rw [if_pos k0] at e ⊢
    unfold makeG at e ⊢
    by_cases h5 : t.fibers.length = 5
    · rw [if_pos h5] at e; cases e
    · rw [if_neg h5]
      have h1 := tp ht hn (fun x => { x with stack := x.stack ++ [(t.fibers.length : Int)] }) t.now
      have hl : (pushG t t.now t.fibers.length).fibers.length = s.fibers.length := h1.len
      refine ⟨?_, .inl h1.out, fun j hj a b => ?_⟩
      · show s.fibers.length ≤ ((pushG t t.now t.fibers.length).fibers ++ _).length ∧ ((pushG t t.now t.fibers.length).fibers ++ _).length ≤ _
        rw [List.length_append, hl]; simp
      · show ((pushG t t.now t.fibers.length).fibers ++ _).getD j default = _
        rw [getD_front (by rw [hl]; exact hj)]
        exact h1.keep j hj a b
  rw [if_neg k0] at e ⊢
  by_cases k0 : k = 14
  · rw [if_pos k0] at e ⊢
    unfold resumeG at e ⊢
    by_cases h1 : 0 ≤ lastV (popG t) ∧ lastV (popG t) < t.fibers.length
    · rw [if_neg (fun h => h h1)] at e ⊢
      by_cases h2 : lastV (popG t) ∈ lineLL (popG (popG t)) ∨ ((popG (popG t)).fibers.getD (lastV (popG t)).toNat default).frames.length = 0
      · rw [if_pos h2] at e; cases e
      · rw [if_neg h2]
        generalize lastV (popG t) = n at *
        have h3 : Off s { modFib (popG (popG t)) n (fun f => { f with caller := (popG (popG t)).now }) with now := n } s.now n := ((pp2 n).fib (.inr rfl) h1.1 _).now _
        unfold wakeG
        show OneS s (if _ then _ else _)
        by_cases h4 : (topOf ((popG (popG t)).fibers.getD n.toNat default)).at_ = 0
        · rw [if_pos h4]; exact (h3.top (.inr rfl) h1.1 _).one
        · rw [if_neg h4]; exact (h3.top (.inr rfl) h1.1 _).one
    · rw [if_pos h1] at e; cases e
  rw [if_neg k0] at e ⊢
  by_cases k0 : k = 15
  · rw [if_pos k0] at e ⊢
    unfold yieldG at e ⊢
    by_cases h2 : (curF (popG t)).caller < 0
    · rw [if_pos h2] at e; cases e
    · rw [if_neg h2]; exact back_one (pp _) hn h0 (by omega) _
  rw [if_neg k0] at e ⊢
  by_cases k0 : k = 16
  · rw [if_pos k0] at e ⊢; exact put_one pp _ e
  rw [if_neg k0]
  exact one (tp pp2 hn _)
theorem done_one {p : List GFunc} {s : GState} (h0 : 0 ≤ s.now) (e : (doneG p s).1 = 0) : OneS s (doneG p s).2 :=
  work_one h0 (fun m => (Off.refl s s.now m).top (.inl rfl) h0 _) rfl e

/-- What an op that stays in its frame gives. -/
def StayR (p : List GFunc) (s : GState) (k : Nat) (fs : List GFrame) (x : GFrame) (o : GOp) (r : Int × GState) : Prop :=
  r.1 = 0 ∧ Near s r.2 k ∧ r.2.out = s.out ∧ ∃ x', At r.2 k fs x' ∧ x'.func = x.func ∧ (∃ i ∈ nx o x.at_.toNat, x'.at_ = (i : Nat)) ∧ (x'.stack.length : Int) = nOf p o x.stack.length
theorem stays_one {p : List GFunc} {s t : GState} {l r : List Int} {k : Nat} {fs : List GFrame} {x : GFrame} {o : GOp} (hR : Runs p s l k fs x r) (hF : OpF p x o)
    (hN : Near s t k) (hA : At t k fs { x with at_ := x.at_ + 1 }) (hO : t.out = s.out) (hk : o.kind ≤ 10) : StayR p s k fs x o (workG p t o.kind o.a) := by
  have hx : curX t = { x with at_ := x.at_ + 1 } := hA.curX
  have ht := hF.takes
  have hk0 := hF.kind.1
  have ha0 := hF.a.1
  have hlt := hR.at_.lt
  have hat := hF.at_
  have cases9 : o.kind = 0 ∨ o.kind = 1 ∨ o.kind = 2 ∨ o.kind = 3 ∨ o.kind = 9 ∨ o.kind = 10 ∨ (4 ≤ o.kind ∧ o.kind ≤ 8) := by omega
  have hi1 : x.at_ + 1 = ((x.at_.toNat + 1 : Nat) : Int) := by omega
  rcases cases9 with e | e | e | e | e | e | e
  · have w : workG p t o.kind o.a = (0, pushG t t.now o.a) := by rw [e]; simp [workG]
    rw [w]
    refine ⟨rfl, hN.top hlt _ hA.now, hO, _, hA.top _ hA.now, rfl, ⟨_, nx_next (by omega) (by omega), hi1⟩, ?_⟩
    simp [nOf, takesOf, leavesOf, e]
  · have w : workG p t o.kind o.a = (0, popG t) := by rw [e]; simp [workG]
    have tk : takesOf p o = 1 := by simp [takesOf, e]
    rw [w]
    refine ⟨rfl, hN.top hlt _ hA.now, hO, _, hA.top _ hA.now, rfl, ⟨_, nx_next (by omega) (by omega), hi1⟩, ?_⟩
    simp [nOf, tk, leavesOf, e]
    omega
  · have w : workG p t o.kind o.a = (0, pushG t t.now ((curX t).locals.getD o.a.toNat 0)) := by rw [e]; simp [workG]
    rw [w]
    refine ⟨rfl, hN.top hlt _ hA.now, hO, _, hA.top _ hA.now, rfl, ⟨_, nx_next (by omega) (by omega), hi1⟩, ?_⟩
    simp [nOf, takesOf, leavesOf, e]
  · have w : workG p t o.kind o.a = (0, modTop (popG t) t.now fun x => { x with locals := x.locals.set o.a.toNat (lastV t) }) := by rw [e]; simp [workG]
    have tk : takesOf p o = 1 := by simp [takesOf, e]
    rw [w]
    refine ⟨rfl, (hN.top hlt _ hA.now).top hlt _ hA.now, hO, _, (hA.top _ hA.now).top _ hA.now, rfl, ⟨_, nx_next (by omega) (by omega), hi1⟩, ?_⟩
    simp [nOf, tk, leavesOf, e]
    omega
  · have w : workG p t o.kind o.a = (0, setAtG t o.a) := by rw [e]; simp [workG]
    rw [w]
    refine ⟨rfl, hN.top hlt _ hA.now, hO, _, hA.top _ hA.now, rfl, ⟨_, nx_jump (.inl e), by show o.a = _; omega⟩, ?_⟩
    simp [nOf, takesOf, leavesOf, e]
  · have w : workG p t o.kind o.a = (0, if lastV t = 0 then setAtG (popG t) o.a else popG t) := by rw [e]; simp [workG]
    have tk : takesOf p o = 1 := by simp [takesOf, e]
    rw [w]
    by_cases hl : lastV t = 0
    · rw [if_pos hl]
      refine ⟨rfl, (hN.top hlt _ hA.now).top hlt _ hA.now, hO, _, (hA.top _ hA.now).top _ hA.now, rfl, ⟨_, nx_jump (.inr e), by show o.a = _; omega⟩, ?_⟩
      simp [nOf, tk, leavesOf, e]
      omega
    · rw [if_neg hl]
      refine ⟨rfl, hN.top hlt _ hA.now, hO, _, hA.top _ hA.now, rfl, ⟨_, nx_next (by omega) (by omega), hi1⟩, ?_⟩
      simp [nOf, tk, leavesOf, e]
      omega
  · have w : workG p t o.kind o.a = (0, pushG (popG (popG t)) t.now (reckG o.kind (lastV (popG t)) (lastV t))) := by
      unfold workG
      rw [if_neg (by omega), if_neg (by omega), if_neg (by omega), if_neg (by omega), if_neg (by omega), if_neg (by omega), if_neg (by omega), if_neg (by omega), if_neg (by omega), if_neg (by omega), if_neg (by omega), if_neg (by omega)]
    have tk : takesOf p o = 2 := by unfold takesOf; rw [if_pos (by omega)]
    have lv : leavesOf o = 1 := by unfold leavesOf; rw [if_neg (by omega)]
    rw [w]
    refine ⟨rfl, ((hN.top hlt _ hA.now).top hlt _ hA.now).top hlt _ hA.now, hO, _, ((hA.top _ hA.now).top _ hA.now).top _ hA.now, rfl, ⟨_, nx_next (by omega) (by omega), hi1⟩, ?_⟩
    simp [nOf, tk, lv]
    omega
/-- The start of a step, in a right state. -/
theorem Runs.adv {p : List GFunc} {s : GState} {l r : List Int} {k : Nat} {fs : List GFrame} {x : GFrame} (hR : Runs p s l k fs x r) :
    At (advG s) k fs { x with at_ := x.at_ + 1 } ∧ Near s (advG s) k ∧ doneG p s = workG p (advG s) (opAt p x).kind (opAt p x).a := by
  have hA := hR.at_
  exact ⟨hA.top _ hA.now, (Near.refl s k).top hA.lt _ hA.now, by unfold doneG; rw [hA.curX]⟩
/-- The fiber that is gone back to. -/
structure BackF (s t : GState) (k m : Nat) (gs : List GFrame) (y : GFrame) (v : Int) : Prop where
  caller : (s.fibers.getD k default).caller = (m : Nat)
  lt : m < s.fibers.length
  was : (s.fibers.getD m default).frames = gs ++ [y]
  now : t.now = (m : Nat)
  is_ : (t.fibers.getD m default).frames = gs ++ [{ y with stack := y.stack ++ [v] }]
  gone : (t.fibers.getD k default).caller = -1
  len : t.fibers.length = s.fibers.length
theorem Ok.back_top {p : List GFunc} {s u : GState} {l r : List Int} {k : Nat} {fs : List GFrame} {x : GFrame} (h : Ok p s l) (hR : Runs p s l k fs x r) (hN : Near s u k) (hc : 0 ≤ (s.fibers.getD k default).caller) (v : Int) :
    ∃ m gs y, BackF s (backG u v) k m gs y v := by
  have hlt := hR.at_.lt
  have hu : u.now = k := hN.now.trans hR.at_.now
  obtain ⟨m, hm⟩ := Int.eq_ofNat_of_zero_le hc
  have hm : (s.fibers.getD k default).caller = (m : Nat) := hm
  have hcu : (Proofs.Ytfajkebkhdcapaa.curF u).caller = (m : Nat) := by
    unfold Proofs.Ytfajkebkhdcapaa.curF
    rw [hu, Int.toNat_natCast, hN.caller, hm]
  have hml : m < s.fibers.length := by have := h.callers k hlt; omega
  have hlk := hR.lk
  rw [hm] at hlk
  obtain ⟨r', hr⟩ : ∃ r', r = (m : Int) :: r' := by
    cases r with
    | nil => exact absurd hlk (by show ¬ (m : Int) < 0; omega)
    | cons a r' => exact ⟨r', by rw [hlk.1]⟩
  have hmr : (m : Int) ∈ r := by rw [hr]; simp
  have hkr : (k : Int) ∉ r := by rw [← hR.at_.now]; exact hR.notin
  have hmk : m ≠ k := fun e => hkr (by rw [← e]; exact hmr)
  have hmf := h.fib m hml
  have hml' : (m : Int) ∈ l := by rw [hR.line]; simp [hmr]
  rw [decide_eq_true hml', decide_eq_false (show ¬ (m : Int) = s.now by rw [hR.at_.now]; omega)] at hmf
  have hne : (s.fibers.getD m default).frames ≠ [] := by
    intro e
    unfold fiberB at hmf
    rw [if_pos (by rw [e]; rfl)] at hmf
    cases hmf
  obtain ⟨gs, y, ey, _⟩ := fiber_split hmf hne
  obtain ⟨U, hU⟩ : ∃ U, U = { modFib u u.now (fun f => { f with caller := -1 }) with now := (Proofs.Ytfajkebkhdcapaa.curF u).caller } := ⟨_, rfl⟩
  have Ulen : U.fibers.length = s.fibers.length := by rw [hU]; exact (modFib_len _ _ _).trans hN.len
  have Uget : ∀ j, j < s.fibers.length → U.fibers.getD j default = if k = j then { (u.fibers.getD j default) with caller := -1 } else s.fibers.getD j default := fun j hj => by
    rw [hU]
    show (modFib u u.now _).fibers.getD j default = _
    rw [modFib_get _ _ _ _ (by rw [hN.len]; exact hj), hu, Int.toNat_natCast]
    by_cases e : k = j
    · rw [if_pos e, if_pos e]
    · rw [if_neg e, if_neg e, hN.other j hj (fun e2 => e e2.symm)]
  have Unow : U.now = m := by rw [hU]; exact hcu
  have hAU : At U m gs y := ⟨Unow, by rw [Ulen]; exact hml, by rw [Uget m hml, if_neg (fun e => hmk e.symm)]; exact ey⟩
  have eB : backG u v = pushG U (m : Nat) v := by unfold backG; rw [← hU, hcu]
  have hAB : At (pushG U (m : Nat) v) m gs { y with stack := y.stack ++ [v] } := hAU.top _ rfl
  have hNB : Near U (pushG U (m : Nat) v) m := (Near.refl U m).top hAU.lt _ rfl
  refine ⟨m, gs, y, hm, hml, ey, ?_, ?_, ?_, ?_⟩
  · rw [eB]; exact hAB.now
  · rw [eB]; exact hAB.frames
  · rw [eB, hNB.other k (by rw [Ulen]; exact hlt) (fun e => hmk e.symm), Uget k hlt, if_pos rfl]
  · rw [eB]; exact hNB.len.trans Ulen

/-- Who is resumed. -/
structure WakeF (s t : GState) (m : Nat) : Prop where
  lt : m < s.fibers.length
  now : t.now = (m : Nat)
  is_ : (t.fibers.getD m default).caller = s.now
  was : (s.fibers.getD m default).caller = -1
  len : t.fibers.length = s.fibers.length
theorem off_caller {p : List GFunc} {f : GFiber} (h : fiberB p f false false = true) : f.caller = -1 := by
  unfold fiberB at h
  by_cases h0 : f.frames.length = 0
  · rw [if_pos h0] at h; simpa using h
  · rw [if_neg h0, Bool.and_eq_true] at h
    have h2 := h.2
    unfold topB at h2
    rw [if_neg (by decide), if_neg (by decide), Bool.and_eq_true] at h2
    exact of_decide_eq_true h2.1
theorem step_back {p : List GFunc} {s : GState} {l : List Int} (h : Ok p s l) (h0 : 0 ≤ s.now) (e0 : (doneG p s).1 = 0) (hne : (doneG p s).2.now ≠ s.now) (ht : 0 ≤ (doneG p s).2.now) :
    ∃ k m, s.now = (k : Nat) ∧ k < s.fibers.length ∧ ((∃ gs y v, BackF s (doneG p s).2 k m gs y v) ∨ (WakeF s (doneG p s).2 m ∧ (s.fibers.getD k default).caller ≠ (m : Nat))) := by
  obtain ⟨k, fs, x, r, hR⟩ := h.runs h0
  obtain ⟨hA, hN, e1⟩ := hR.adv
  have hF := opF_of (progErr_zero h.prog) hR.frame hR.full
  have hlt := hR.at_.lt
  rw [e1] at e0 hne ht ⊢
  generalize opAt p x = o at *
  generalize ht' : advG s = t at *
  have hO : t.out = s.out := by rw [← ht']; rfl
  have hn : t.now = s.now := hN.now
  clear ht' e1
  refine ⟨k, ?_⟩
  have hh : o.kind ≤ 10 ∨ o.kind = 11 ∨ o.kind = 12 ∨ o.kind = 13 ∨ o.kind = 14 ∨ o.kind = 15 ∨ o.kind = 16 := by have := hF.kind; omega
  have hN1 : Near s (popG t) k := hN.top hlt _ hA.now
  have hA1 : At (popG t) k fs _ := hA.top _ hA.now
  rcases hh with e | e | e | e | e | e | e
  · exact absurd (stays_one hR hF hN hA hO e).2.1.now hne
  · have w : workG p t o.kind o.a = callG p t o.a := by rw [e]; simp [workG]
    rw [w] at e0 hne
    unfold callG at e0 hne
    by_cases h6 : (curF t).frames.length = 6
    · rw [if_pos h6] at e0; cases e0
    · rw [if_neg h6] at hne; exact absurd hn hne
  · have w : workG p t o.kind o.a = returnG t := by rw [e]; simp [workG]
    rw [w] at e0 hne ht ⊢
    have hN2 : Near s (dropG (popG t)) k := hN1.fib hlt rfl hA1.now
    unfold returnG at e0 hne ht ⊢
    by_cases h1 : 0 < (curF (dropG (popG t))).frames.length
    · rw [if_pos h1] at hne; exact absurd hn hne
    · rw [if_neg h1] at e0 hne ht ⊢
      by_cases h2 : (curF (dropG (popG t))).caller < 0
      · rw [if_pos h2] at e0 ht
        unfold putG at e0 ht
        by_cases h3 : ({ dropG (popG t) with now := -1 } : GState).out.length = 30
        · rw [if_pos h3] at e0; cases e0
        · rw [if_neg h3] at ht; exact absurd ht (by show ¬ (0 : Int) ≤ -1; decide)
      · rw [if_neg h2]
        have hcu : (curF (dropG (popG t))).caller = (s.fibers.getD k default).caller := by
          unfold curF
          rw [hN2.now.trans hR.at_.now, Int.toNat_natCast, hN2.caller]
        obtain ⟨m, gs, y, hB⟩ := h.back_top hR hN2 (by omega) (lastV t)
        exact ⟨m, hR.at_.now, hlt, .inl ⟨gs, y, _, hB⟩⟩
  · have w : workG p t o.kind o.a = makeG p t o.a := by rw [e]; simp [workG]
    rw [w] at e0 hne
    unfold makeG at e0 hne
    by_cases h5 : t.fibers.length = 5
    · rw [if_pos h5] at e0; cases e0
    · rw [if_neg h5] at hne; exact absurd hn hne
  · have w : workG p t o.kind o.a = resumeG t := by rw [e]; simp [workG]
    rw [w] at e0 hne ht ⊢
    have hN2 : Near s (popG (popG t)) k := hN1.top hlt _ hA1.now
    have hcu : ∀ j, j < s.fibers.length → ((popG (popG t)).fibers.getD j default).caller = (s.fibers.getD j default).caller := fun j hj => by
      by_cases ej : j = k
      · rw [ej]; exact hN2.caller
      · rw [hN2.other j hj ej]
    have hrg := lk_range (fun k hk => (h.callers k hk).2) h.lk h.now.2
    have hll : lineLL (popG (popG t)) = l := by
      have hlk : Lk (popG (popG t)).fibers s.now l := lk_congr (fun z hz => by
        have := hrg z hz
        unfold callerOf
        rw [hcu _ (by omega)]) h.lk
      have hl : l.length ≤ (popG (popG t)).fibers.length := by rw [hN2.len]; exact nodup_len _ _ (lk_nodup h.lk) hrg
      unfold lineLL
      rw [lineS_of (by rw [hN2.now]; exact hlk) hl]
      rfl
    generalize hu : popG (popG t) = u at *
    have hrs : resumeG t = if ¬ (0 ≤ lastV (popG t) ∧ lastV (popG t) < t.fibers.length) then (5, t)
        else if lastV (popG t) ∈ lineLL u ∨ (u.fibers.getD (lastV (popG t)).toNat default).frames.length = 0 then (6, t) else (0, wakeG u (lastV (popG t)) (lastV t)) := by rw [← hu]; rfl
    rw [hrs] at e0 hne ht ⊢
    generalize lastV (popG t) = n at *
    by_cases h1 : 0 ≤ n ∧ n < t.fibers.length
    · rw [if_neg (fun h => h h1)] at e0 hne ht ⊢
      by_cases h2 : n ∈ lineLL u ∨ (u.fibers.getD n.toNat default).frames.length = 0
      · rw [if_pos h2] at e0; cases e0
      · rw [if_neg h2] at hne ⊢
        obtain ⟨m, rfl⟩ := Int.eq_ofNat_of_zero_le h1.1
        have hml : m < s.fibers.length := by have := h1.2; rw [hN.len] at this; simp at this; omega
        rw [hll] at h2
        have hnl : (m : Int) ∉ l := fun hh => h2 (.inl hh)
        have hkl : (k : Int) ∈ l := by rw [hR.line, hR.at_.now]; simp
        have hmk : m ≠ k := fun em => hnl (by rw [em]; exact hkl)
        have hoff := h.fib m hml
        rw [decide_eq_false hnl, decide_eq_false (show ¬ (m : Int) = s.now by rw [hR.at_.now]; omega)] at hoff
        refine ⟨m, hR.at_.now, hlt, .inr ⟨⟨hml, ?_, ?_, off_caller hoff, ?_⟩, fun ec => ?_⟩⟩
        · show (wakeG u ((m : Nat) : Int) _).now = _
          unfold wakeG
          split <;> rfl
        · show ((wakeG u ((m : Nat) : Int) _).fibers.getD m default).caller = _
          have hg : ∀ g : GFrame → GFrame, ((modTop { modFib u ((m : Nat) : Int) (fun f => { f with caller := u.now }) with now := ((m : Nat) : Int) } ((m : Nat) : Int) g).fibers.getD m default).caller = s.now := fun g => by
            unfold modTop
            have hl1 : ({ modFib u ((m : Nat) : Int) (fun f => { f with caller := u.now }) with now := ((m : Nat) : Int) } : GState).fibers.length = s.fibers.length := (modFib_len _ _ _).trans hN2.len
            rw [modFib_get _ _ _ _ (by rw [hl1]; exact hml), Int.toNat_natCast, if_pos rfl]
            show ((modFib u ((m : Nat) : Int) (fun f => { f with caller := u.now })).fibers.getD m default).caller = s.now
            rw [modFib_get _ _ _ _ (by rw [hN2.len]; exact hml), Int.toNat_natCast, if_pos rfl]
            exact hN2.now
          unfold wakeG
          split
          · exact hg _
          · exact hg _
        · show (wakeG u ((m : Nat) : Int) _).fibers.length = _
          unfold wakeG
          split
          · exact (modFib_len _ _ _).trans ((modFib_len _ _ _).trans hN2.len)
          · exact (modFib_len _ _ _).trans ((modFib_len _ _ _).trans hN2.len)
        · have hlk := hR.lk
          rw [ec] at hlk
          cases r with
          | nil => exact absurd hlk (by show ¬ ((m : Nat) : Int) < 0; omega)
          | cons a r' => exact hnl (by rw [hR.line, hlk.1]; simp)
    · rw [if_pos h1] at e0; cases e0
  · have w : workG p t o.kind o.a = yieldG t := by rw [e]; simp [workG]
    rw [w] at e0 hne ht ⊢
    unfold yieldG at e0 hne ht ⊢
    by_cases h2 : (curF (popG t)).caller < 0
    · rw [if_pos h2] at e0; cases e0
    · rw [if_neg h2]
      have hcu : (curF (popG t)).caller = (s.fibers.getD k default).caller := by
        unfold curF
        rw [hN1.now.trans hR.at_.now, Int.toNat_natCast, hN1.caller]
      obtain ⟨m, gs, y, hB⟩ := h.back_top hR hN1 (by omega) (lastV t)
      exact ⟨m, hR.at_.now, hlt, .inl ⟨gs, y, _, hB⟩⟩
  · have w : workG p t o.kind o.a = putG (popG t) (lastV t) := by rw [e]; simp [workG]
    rw [w] at e0 hne
    unfold putG at e0 hne
    by_cases h3 : (popG t).out.length = 30
    · rw [if_pos h3] at e0; cases e0
    · rw [if_neg h3] at hne; exact absurd hn hne
end Go.Proofs.Ytfajkebkhdcapaa
end
section
/- Plain data: what running gives, for the laws of runs. No program in sight; no condition. -/
set_option maxHeartbeats 1000000
namespace Go.Proofs.Ytfajkebkhdcapaa
open Go Go.RowKit

theorem runG0 (p : List GFunc) (s : GState) : runG p 0 s = (s, 0, 0) := by rw [runG]
theorem runG_over (p : List GFunc) (s : GState) (k : Nat) (h : s.now < 0) : runG p (k + 1) s = (s, 0, 0) := by rw [runG, if_pos h]
theorem runG_bad (p : List GFunc) (s : GState) (k : Nat) (h : ¬ s.now < 0) (e : (doneG p s).1 ≠ 0) : runG p (k + 1) s = (s, 0, (doneG p s).1) := by rw [runG, if_neg h, if_pos e]
theorem runG_on (p : List GFunc) (s : GState) (k : Nat) (h : ¬ s.now < 0) (e : (doneG p s).1 = 0) : runG p (k + 1) s = ((runG p k (doneG p s).2).1, (runG p k (doneG p s).2).2.1 + 1, (runG p k (doneG p s).2).2.2) := by rw [runG, if_neg h, if_neg (fun k => k e)]

theorem run_count (p : List GFunc) : ∀ (n : Nat) (s : GState), 0 ≤ (runG p n s).2.1 ∧ (runG p n s).2.1 ≤ n
  | 0, s => by rw [runG0]; simp
  | n + 1, s => by
    by_cases h : s.now < 0
    · rw [runG_over p s n h]; simp; omega
    · by_cases e : (doneG p s).1 = 0
      · rw [runG_on p s n h e]
        have := run_count p n (doneG p s).2
        simp only
        omega
      · rw [runG_bad p s n h e]; simp; omega

/-- Where running has stopped. -/
structure RanF (p : List GFunc) (n : Nat) (r : GState × Int × Int) : Prop where
  right : ∃ l, Ok p r.1 l
  fine : r.2.2 = 0 → r.2.1 = n ∨ r.1.now = -1
  bad : r.2.2 ≠ 0 → r.2.1 < n ∧ 0 ≤ r.1.now ∧ (doneG p r.1).1 = r.2.2
theorem run_ran {p : List GFunc} : ∀ (n : Nat) {s : GState} {l : List Int}, Ok p s l → RanF p n (runG p n s)
  | 0, s, l, h => by rw [runG0]; exact ⟨⟨l, h⟩, fun _ => .inl rfl, fun h => absurd rfl h⟩
  | n + 1, s, l, h => by
    by_cases h0 : s.now < 0
    · rw [runG_over p s n h0]
      exact ⟨⟨l, h⟩, fun _ => .inr (by have := h.now; show s.now = -1; omega), fun h => absurd rfl h⟩
    · by_cases e : (doneG p s).1 = 0
      · rw [runG_on p s n h0 e]
        obtain ⟨_, hr⟩ := step_right h (by omega)
        obtain ⟨l', h'⟩ : ∃ l', Ok p (doneG p s).2 l' := by
          rcases hr with ⟨_, h⟩ | h
          · exact h
          · omega
        obtain ⟨a, b, c⟩ := run_ran n h'
        refine ⟨a, fun h => (b h).imp (fun h => ?_) id, fun h => ?_⟩
        · simp only; omega
        · obtain ⟨c1, c2, c3⟩ := c h
          exact ⟨by simp only; omega, c2, c3⟩
      · rw [runG_bad p s n h0 e]
        exact ⟨⟨l, h⟩, fun h => absurd h e, fun _ => ⟨by simp only; omega, by simp only; omega, rfl⟩⟩

theorem run_split (p : List GFunc) (n : Nat) : ∀ (m : Nat) (s : GState), (runG p m s).2.2 = 0 → (runG p (m + n) s) = ((runG p n (runG p m s).1).1, (runG p m s).2.1 + (runG p n (runG p m s).1).2.1, (runG p n (runG p m s).1).2.2)
  | 0, s, _ => by rw [runG0, Nat.zero_add]; simp
  | m + 1, s, h => by
    rw [show m + 1 + n = (m + n) + 1 by omega]
    by_cases h0 : s.now < 0
    · rw [runG_over p s m h0, runG_over p s _ h0]
      cases n with
      | zero => rw [runG0]; simp
      | succ n => rw [runG_over p s n h0]; simp
    · by_cases e : (doneG p s).1 = 0
      · rw [runG_on p s m h0 e] at h ⊢
        rw [runG_on p s _ h0 e, run_split p n m _ h]
        simp only [Prod.mk.injEq, true_and, and_true]
        omega
      · rw [runG_bad p s m h0 e] at h; exact absurd h e
theorem run_split_bad (p : List GFunc) (n : Nat) : ∀ (m : Nat) (s : GState), (runG p m s).2.2 ≠ 0 → runG p (m + n) s = runG p m s
  | 0, s, h => by rw [runG0] at h; exact absurd rfl h
  | m + 1, s, h => by
    rw [show m + 1 + n = (m + n) + 1 by omega]
    by_cases h0 : s.now < 0
    · rw [runG_over p s m h0] at h; exact absurd rfl h
    · by_cases e : (doneG p s).1 = 0
      · rw [runG_on p s m h0 e] at h ⊢
        rw [runG_on p s _ h0 e, run_split_bad p n m _ h]
      · rw [runG_bad p s m h0 e, runG_bad p s _ h0 e]
/-- Where one can't go on, one still can't. -/
theorem run_stuck {p : List GFunc} {s : GState} (h0 : 0 ≤ s.now) (e : (doneG p s).1 ≠ 0) (n : Nat) : runG p n s = (s, 0, if n = 0 then 0 else (doneG p s).1) := by
  cases n with
  | zero => rw [runG0]; simp
  | succ n => rw [runG_bad p s n (by omega) e]; simp
theorem run_out (p : List GFunc) : ∀ (n : Nat) (s : GState), ∃ v, (runG p n s).1.out = s.out ++ v
  | 0, s => ⟨[], by rw [runG0]; simp⟩
  | n + 1, s => by
    by_cases h0 : s.now < 0
    · exact ⟨[], by rw [runG_over p s n h0]; simp⟩
    · by_cases e : (doneG p s).1 = 0
      · rw [runG_on p s n h0 e]
        obtain ⟨v, hv⟩ := run_out p n (doneG p s).2
        rcases (done_one (by omega) e).out with h1 | ⟨u, h1⟩
        · exact ⟨v, by show (runG p n (doneG p s).2).1.out = _; rw [hv, h1]⟩
        · exact ⟨u :: v, by show (runG p n (doneG p s).2).1.out = _; rw [hv, h1]; simp⟩
      · exact ⟨[], by rw [runG_bad p s n h0 e]; simp⟩
/-- A program's first state is right. -/
theorem begin_ok {p : List GFunc} (h : progErr p = 0) : Ok p (beginG p) [0] := by
  have hP := progErr_zero h
  have hpos := hP.pos
  obtain ⟨_, _, hr⟩ := funcErr_zero (hP.func 0 hpos)
  have hl := (hr hpos).locals
  have hF : funcOf p 0 = p[0] := by unfold funcOf; simp [List.getD, List.getElem?_eq_getElem hpos]
  have hloc : ((List.replicate (funcOf p 0).locals.toNat (0 : Int)).length : Int) = (funcOf p 0).locals := by rw [List.length_replicate, hF]; have e1 : p[0] = p[(((0 : Nat) : Int)).toNat] := rfl; rw [e1]; omega
  obtain ⟨n1, n2⟩ := new_full hP (f := 0) (Int.le_refl 0) (by omega) hloc
  have key : ∀ k, k < 1 → k = 0 := fun k hk => by omega
  refine ⟨h, by show 1 ≤ 5; omega, by show 0 ≤ 30; omega, fun k hk => ?_, by show 0 < 1; omega, by show (-1 : Int) ≤ 0 ∧ (0 : Int) ≤ ((1 : Nat) : Int) - 1; omega, fun k hk => ?_, ?_, by decide, fun h0 => absurd (by simp) h0, fun k hk => ?_⟩
  · obtain rfl := key k hk
    show 1 ≤ 6; omega
  · obtain rfl := key k hk
    show (-1 : Int) ≤ -1 ∧ (-1 : Int) ≤ ((1 : Nat) : Int) - 1; omega
  · exact ⟨rfl, Int.le_refl 0, by simp, show (-1 : Int) < 0 by decide⟩
  · obtain rfl := key k hk
    show fiberB p ⟨[freshFrame p 0], -1⟩ (decide (((0 : Nat) : Int) ∈ [(0 : Int)])) (decide (((0 : Nat) : Int) = 0)) = true
    rw [decide_eq_true (show ((0 : Nat) : Int) ∈ [(0 : Int)] by simp), decide_eq_true (show ((0 : Nat) : Int) = 0 by rfl)]
    exact fiber_join (fs := []) (x := freshFrame p 0) rfl (fun j hj => absurd hj (by simp)) n1 (topB_runs n2)
end Go.Proofs.Ytfajkebkhdcapaa
end
section
/- The engine of package step: its box, and its top frame. -/
set_option maxHeartbeats 4000000
set_option maxRecDepth 100000
namespace Go.Proofs.Ytfajkebkhdcapaa
open Go Go.RowKit

/-- An engine's box: where its state lies, and the program. -/
structure Eng (w : World) (eb b : Nat) (p : List GFunc) (a : Option Addr) (cap : Nat) : Prop where
  e0 : Cx w eb 0 (.pointer (some ⟨b, 0, none⟩))
  e1 : Cx w eb 1 (.slice a p.length cap)
theorem Eng.ext {w w' : World} {eb b : Nat} {p : List GFunc} {a : Option Addr} {cap : Nat} (h : Eng w eb b p a cap) (he : Ext w w') : Eng w' eb b p a cap := ⟨h.e0.ext he, h.e1.ext he⟩

theorem engTop_any {P : PState} {L R : List PFiber} {y : PFiber} {F : List PFrame} {x : PFrame} {w : World} {B b g o cap : Nat} {eb : Nat} {p : List GFunc} {a : Option Addr} {cp : Nat} (h : OwnS w B b P)
    (hE : Eng w eb b p a cp) (hs : Spot P L y R F x) (hv : y.vf = .slice (some ⟨g, o, none⟩) (F ++ [x]).length cap) (hnow : P.now = (L.length : Int)) :
    Calls Try.prog 73 #[.pointer (some ⟨eb, 0, none⟩)] w fun e w' => e = .returned (.pointer (some ⟨g, o + F.length * 4, none⟩)) ∧ Ext w w' := by
  have hrow := h.row
  have hfew := h.few
  rw [hs.fs] at hrow hfew
  obtain ⟨⟨c0, -⟩, ⟨c1, -⟩, -⟩ := (⟨h.c0, h.c1, h.c2⟩ : _ ∧ _ ∧ _)
  obtain ⟨⟨x0, -⟩, -⟩ := hE
  rw [hnow] at c1
  obtain ⟨g0, o0, cap0, e0, hb0, hc0, hm0, hx0⟩ := RowAt.place fiberF (fun _ => rfl) hrow
  rw [e0] at c0
  obtain ⟨d0, -⟩ := hx0 0 _ (by decide) rfl
  rw [hv, Nat.add_zero] at d0
  have hnk : L.length < (L ++ y :: R).length := by simp
  have hfr : (F ++ [x]).length ≤ 1000 := by
    have := (h.fs y (by rw [hs.fs]; simp)).few
    rwa [hs.fr] at this
  have hm1 : (F ++ [x]).length = F.length + 1 := by simp
  have hmN : F.length < (F ++ [x]).length := by omega
  have KK : IntKind.i64.wrap (((F ++ [x]).length : Int) - 1) = (F.length : Int) := by
    have e : (((F ++ [x]).length : Int) - 1) = (F.length : Int) := by omega
    rw [e]; exact IntWalk.i64_in _ (by omega)
  clear hrow hx0 hb0 hm0 hm1 hs hv hnow
  have RA := alloc_keep
  generalize L.length = n at *
  generalize F.length = m at *
  generalize (L ++ y :: R).length = nk at *
  generalize (F ++ [x]).length = mk at *
  go_enter Try.func73, Try.ntmps73
  go_upto_region 1 with fail
  refine wp_region_ext (by kernel_rfl) (by kernel_rfl) ?_
  repeat (first
    | go_big_quiet_skip
    | (go_big_quiet_want
       unfold Oper.quiet
       apply Exists.intro
       refine ⟨fun w' hw' => ?_, ?_⟩
       focus
         have hcq := Ext.keep hw'
         go_simp
         first
           | with_reducible rfl
           
       (try dsimp only [Act.put])
       (try simp only [List.setIfInBounds_toArray, List.set_cons_succ, List.set_cons_zero])
       go_big_quiet_on))
  refine wpQuiet_nil ?_
  intro wq hq
  go_wp2_with fail
  go_ret
  exact ⟨rfl, hq⟩
end Go.Proofs.Ytfajkebkhdcapaa
end
section
/- The engine of package step: push. -/
set_option maxHeartbeats 4000000
set_option maxRecDepth 100000
namespace Go.Proofs.Ytfajkebkhdcapaa
open Go Go.RowKit

theorem src_given {w : World} {b o c : Nat} {v : Int} (h : w.cell? ⟨b, o, none⟩ = some (.int .i64 v)) : SrcSl w 1 (.slice (some ⟨b, o, none⟩) 1 c) 1 (ints [v]) := by
  refine ⟨_, _, rfl, by simp [ints], fun u hu => by simp [ints] at hu; subst hu; rfl, .inr ⟨_, rfl, fun j u hj => ?_⟩⟩
  cases j with
  | zero => simp [ints] at hj; subst hj; exact h
  | succ j => simp [ints] at hj

theorem engPush_at {P : PState} {L R : List PFiber} {y : PFiber} {F : List PFrame} {x : PFrame} {w : World} {B b eb : Nat} {p : List GFunc} {a : Option Addr} {cp lb lo lc : Nat} (h : OwnS w B b P) (hE : Eng w eb b p a cp) (hs : Spot P L y R F x) (hnow : P.now = (L.length : Int)) (v : Int) (hv : I64 v) (hlen : x.f.stack.length < 1000) (hc : w.cell? ⟨lb, lo, none⟩ = some (.int .i64 v)) :
    Calls Try.prog 74 #[.pointer (some ⟨eb, 0, none⟩), .slice (some ⟨lb, lo, none⟩) 1 lc] w fun e w' => e = .returned (.tuple #[]) ∧ (∃ v1, OwnS w' B b (replTop P L y R F ⟨{ x.f with stack := x.f.stack ++ [v] }, x.vl, v1⟩) ∧ (rowBlock v1 = rowBlock x.vs ∨ ∀ k, rowBlock v1 = some k → w.heap.size ≤ k)) ∧
      Chg (fun k => rowBlock y.vf = some k ∨ rowBlock x.vs = some k) w w' := by
  obtain ⟨g, o, cap, e1, hcap, hmax, -, -, -, d3, hbl⟩ := h.spot hs
  have hx := (h.fs y (by rw [hs.fs]; simp)).fr x (by rw [hs.fr]; simp)
  have H := Lib.hid h
  have HB : Hid (B ≤ w.heap.size) := Nat.le_trans h.le (Nat.le_of_lt h.c0.lt)
  have HX := Lib.hid hx
  have D3 := Lib.hid d3
  have HE1 := Lib.hid e1
  obtain ⟨i0, hi0, hz0, hz1, hz2⟩ := info_parts infoI
  have RA := alloc_keep
  obtain ⟨as_, cs, es, hcs, hms⟩ := hx.s.shape
  have HES := Lib.hid es
  have HENG := Lib.hid hE
  have HC := Lib.hid hc
  have HXS : Hid (RowAt w B 1 (.slice as_ x.f.stack.length cs) x.f.stack.length (ints x.f.stack)) := by unfold Hid; rw [← es]; exact hx.s
  have HGX : Hid (¬ rowBlock (.slice as_ x.f.stack.length cs) = some g) := by unfold Hid; rw [← es]; exact fun e => (h.sep hs).1 g hbl (by unfold PFrame.bl; simp [e])
  clear hc hE h hx d3 e1 hcap hmax es hcs hms
  go_enter Try.func74, Try.ntmps74
  go_upto_region 1 with (first
    | (go_at_call 73; (with_reducible refine (engTop_any H.out HENG.out hs HE1.out hnow).mono ?_); rintro e w2 ⟨rfl, hx2⟩))
  have HX2 := Lib.hid hx2
  obtain ⟨d3, d3'⟩ := D3.out.ext hx2
  rw [HES.out] at d3
  have HS2 : Hid (B ≤ w2.heap.size) := Nat.le_trans HB.out hx2.size
  clear hx2
  go_wp2_with (first
    | (at_builtin; refine wpList_append_row rfl _ _ 27 rfl B 3 i0 (.int .i64 0) 1 8 Try.underlying27 hi0 hz0 hz1 hz2 rfl (by decide) _ _ _ rfl (by exact (HXS.out.ext (HX2.out) (by decide))) 1 (ints [v]) (src_given (Ext.cell HX2.out HC.out)) (by unfold maxLen; omega) (by omega) (by exact Nat.le_trans HS2.out (Nat.le_refl _)) ?_; intro v1 Wv1 rv1; have RV := Lib.hid rv1; obtain ⟨k0, k0'⟩ := (D3.out.ext (HX2.out)).chg rv1.2.1 HGX.out; obtain ⟨a9, cap9, rfl, _, _⟩ := rv1.1.shape; clear rv1))
  go_end0
  have hRV : NewRow w2 Wv1 B 1 (.slice as_ x.f.stack.length cs) (.slice a9 (x.f.stack.length + 1) cap9) (x.f.stack.length + 1) (ints x.f.stack ++ ints [v]) := RV.out
  have hA : Ext w w2 := HX2.out
  obtain ⟨r1, r2, r3⟩ := hRV
  have hfin := H.out.stack hs HE1.out (W1 := Wv1) (st := x.f.stack ++ [v]) (v1 := .slice a9 (x.f.stack.length + 1) cap9)
    ((Chg.of_ext hA).trans (r2.mono (fun k _ e => by rw [HES.out]; exact e)))
    (by rw [List.length_append, List.length_singleton, ints_app]; exact r1) (fun k hk => by rcases List.mem_append.1 hk with h1 | h1; exact HX.out.i.2.2.2 k h1; rw [List.mem_singleton.1 h1]; exact hv)
    (by rw [List.length_append, List.length_singleton]; omega) (r3.imp (fun e => by rw [HES.out]; exact e) (fun e k hk => Nat.le_trans hA.size (e k hk)))
  exact ⟨rfl, ⟨_, hfin.1, r3.imp (fun e => by rw [HES.out]; exact e) (fun e k hk => Nat.le_trans hA.size (e k hk))⟩, hfin.2⟩

end Go.Proofs.Ytfajkebkhdcapaa
end
