/- Merged texts: contracts and plain facts, one part behind another; each part begins with what it says. -/
import Derived.Test.YtfajkebkhdcapaaGUAN
import Derived.Test.YtfajkebkhdcapaaGUAO
section
/- Plain data: what running gives, for the laws of runs. No program in sight; no condition. -/
set_option maxHeartbeats 1000000
namespace Go.Proofs.Ytfajkebkhdcapaa
open Go Go.RowKit

theorem runG0 (p : List GFunc) (s : GState) : runG p 0 s = (s, 0, 0) := by rw [runG]
theorem runG_over (p : List GFunc) (s : GState) (k : Nat) (h : s.now < 0) : runG p (k + 1) s = (s, 0, 0) := by rw [runG, if_pos h]
theorem runG_bad (p : List GFunc) (s : GState) (k : Nat) (h : ¬ s.now < 0) (e : (doneG p s).1 ≠ 0) : runG p (k + 1) s = (s, 0, (doneG p s).1) := by rw [runG, if_neg h, if_pos e]
theorem runG_on (p : List GFunc) (s : GState) (k : Nat) (h : ¬ s.now < 0) (e : (doneG p s).1 = 0) : runG p (k + 1) s = ((runG p k (doneG p s).2).1, (runG p k (doneG p s).2).2.1 + 1, (runG p k (doneG p s).2).2.2) := by rw [runG, if_neg h, if_neg (fun k => k e)]

/-- Where running has stopped. -/
structure RanF (p : List GFunc) (n : Nat) (r : GState × Int × Int) : Prop where
  right : ∃ l, Ok p r.1 l
  fine : r.2.2 = 0 → r.2.1 = n ∨ r.1.now = -1
  bad : r.2.2 ≠ 0 → r.2.1 < n ∧ 0 ≤ r.1.now ∧ (doneG p r.1).1 = r.2.2
/-- A program's first state is right. -/
theorem begin_ok {p : List GFunc} (h : progErr p = 0) : Ok p (beginG p) [0] := by
  have hP := progErr_zero h
  have hpos := hP.pos
  obtain ⟨_, _, hr⟩ := funcErr_zero (hP.func 0 hpos)
  have hl := (hr hpos).locals
  have hF : funcOf p 0 = p[0] := by unfold funcOf; simp [List.getD, List.getElem?_eq_getElem hpos]
  have hloc : ((List.replicate (funcOf p 0).locals.toNat (0 : Int)).length : Int) = (funcOf p 0).locals := by rw [List.length_replicate, hF]; have e1 : p[0] = p[(((0 : Nat) : Int)).toNat] := rfl; rw [e1]; omega
  obtain ⟨n1, n2⟩ := new_full hP (f := 0) (Int.le_refl 0) (by omega) hloc
  have key : ∀ k, k < 1 → k = 0 := fun k hk => by omega
  refine ⟨h, by show 1 ≤ 5; omega, by show 0 ≤ 30; omega, fun k hk => ?_, by show 0 < 1; omega, by show (-1 : Int) ≤ 0 ∧ (0 : Int) ≤ ((1 : Nat) : Int) - 1; omega, fun k hk => ?_, ?_, by decide, fun h0 => absurd (by simp) h0, fun k hk => ?_⟩
  · obtain rfl := key k hk
    show 1 ≤ 6; omega
  · obtain rfl := key k hk
    show (-1 : Int) ≤ -1 ∧ (-1 : Int) ≤ ((1 : Nat) : Int) - 1; omega
  · exact ⟨rfl, Int.le_refl 0, by simp, show (-1 : Int) < 0 by decide⟩
  · obtain rfl := key k hk
    show fiberB p ⟨[freshFrame p 0], -1⟩ (decide (((0 : Nat) : Int) ∈ [(0 : Int)])) (decide (((0 : Nat) : Int) = 0)) = true
    rw [decide_eq_true (show ((0 : Nat) : Int) ∈ [(0 : Int)] by simp), decide_eq_true (show ((0 : Nat) : Int) = 0 by rfl)]
    exact fiber_join (fs := []) (x := freshFrame p 0) rfl (fun j hj => absurd hj (by simp)) n1 (topB_runs n2)
end Go.Proofs.Ytfajkebkhdcapaa
end
section
/- Plain: a program whose frames stand elsewhere, but do the same, runs the same. No program in sight; no condition. -/
namespace Go.Proofs.Ytfajkebkhdcapaa
set_option maxHeartbeats 1000000

theorem getD_map {α β : Type} (g : α → β) (l : List α) (i : Nat) (d : α) : (l.map g).getD i (g d) = g (l.getD i d) := by
  simp only [List.getD, List.getElem?_map]
  cases l[i]? <;> rfl
theorem modify_map {α β : Type} (g : α → β) (u : α → α) (u' : β → β) : ∀ (l : List α) (i : Nat), (∀ h : i < l.length, u' (g l[i]) = g (u l[i])) → (l.map g).modify i u' = (l.modify i u).map g
  | [], i, _ => by cases i <;> rfl
  | a :: l, 0, h => by
    have := h (by simp)
    rw [List.getElem_cons_zero] at this
    rw [List.map_cons, List.modify_zero_cons, List.modify_zero_cons, List.map_cons, this]
  | a :: l, i + 1, h => by
    have := modify_map g u u' l i (fun hi => by have := h (by simpa using hi); rw [List.getElem_cons_succ] at this; exact this)
    rw [List.map_cons, List.modify_succ_cons, List.modify_succ_cons, List.map_cons, this]

section
variable (m : Int → Int → Int)
def mapFr (x : GFrame) : GFrame := { x with at_ := m x.func x.at_ }
def mapFib (f : GFiber) : GFiber := { f with frames := f.frames.map (mapFr m) }
def mapSt (s : GState) : GState := { s with fibers := s.fibers.map (mapFib m) }

variable (h0 : ∀ f, m f 0 = 0)
include h0
theorem mapFr_default : mapFr m default = default := by
  show (⟨(0 : Int), m 0 0, [], []⟩ : GFrame) = ⟨0, 0, [], []⟩
  rw [h0]
theorem topOf_map (f : GFiber) : topOf (mapFib m f) = mapFr m (topOf f) := by
  unfold topOf mapFib
  rw [List.length_map, ← getD_map (mapFr m), mapFr_default m h0]
theorem fibAt_map (s : GState) (n : Nat) : (mapSt m s).fibers.getD n default = mapFib m (s.fibers.getD n default) := have _ := h0; getD_map (mapFib m) s.fibers n default
theorem curF_map (s : GState) : curF (mapSt m s) = mapFib m (curF s) := fibAt_map m h0 s _
theorem curX_map (s : GState) : curX (mapSt m s) = mapFr m (curX s) := by unfold curX; rw [curF_map m h0, topOf_map m h0]
theorem lastV_map (s : GState) : lastV (mapSt m s) = lastV s := by unfold lastV; rw [curX_map m h0]; rfl

theorem modFib_map (s : GState) (n : Int) (u u' : GFiber → GFiber) (h : n.toNat < s.fibers.length → u' (mapFib m (s.fibers.getD n.toNat default)) = mapFib m (u (s.fibers.getD n.toNat default))) : modFib (mapSt m s) n u' = mapSt m (modFib s n u) := by
  have _ := h0
  unfold modFib mapSt
  have e := modify_map (mapFib m) u u' s.fibers n.toNat (fun hi => by
    have := h hi
    rw [List.getD_eq_getElem?_getD, List.getElem?_eq_getElem hi] at this
    exact this)
  simp only [e]
theorem modTop_map (s : GState) (n : Int) (u u' : GFrame → GFrame) (h : n.toNat < s.fibers.length → 0 < (s.fibers.getD n.toNat default).frames.length → u' (mapFr m (topOf (s.fibers.getD n.toNat default))) = mapFr m (u (topOf (s.fibers.getD n.toNat default)))) : modTop (mapSt m s) n u' = mapSt m (modTop s n u) := by
  unfold modTop
  refine modFib_map m h0 s n _ _ fun hn => ?_
  unfold mapFib
  simp only [List.length_map]
  congr 1
  refine modify_map (mapFr m) u u' _ _ fun hi => ?_
  have := h hn (by omega)
  unfold topOf at this
  rw [List.getD_eq_getElem?_getD, List.getElem?_eq_getElem hi] at this
  exact this
theorem modTop_all (s : GState) (n : Int) (u : GFrame → GFrame) (h : ∀ x, u (mapFr m x) = mapFr m (u x)) : modTop (mapSt m s) n u = mapSt m (modTop s n u) := modTop_map m h0 s n u u fun _ _ => h _
theorem modFib_all (s : GState) (n : Int) (u : GFiber → GFiber) (h : ∀ x, u (mapFib m x) = mapFib m (u x)) : modFib (mapSt m s) n u = mapSt m (modFib s n u) := modFib_map m h0 s n u u fun _ => h _
theorem pushG_map (s : GState) (n v : Int) : pushG (mapSt m s) n v = mapSt m (pushG s n v) := modTop_all m h0 s n _ fun _ => rfl
theorem popG_map (s : GState) : popG (mapSt m s) = mapSt m (popG s) := modTop_all m h0 s _ _ fun _ => rfl
theorem putG_map (s : GState) (v : Int) : putG (mapSt m s) v = ((putG s v).1, mapSt m (putG s v).2) := by
  have _ := h0
  unfold putG
  show (if s.out.length = 30 then _ else _) = _
  by_cases h : s.out.length = 30
  · rw [if_pos h, if_pos h]
  · rw [if_neg h, if_neg h]; rfl
theorem now_map (s : GState) (n : Int) : { mapSt m s with now := n } = mapSt m { s with now := n } := have _ := h0; rfl
theorem backG_map (s : GState) (v : Int) : backG (mapSt m s) v = mapSt m (backG s v) := by
  unfold backG
  rw [curF_map m h0]
  show pushG { modFib (mapSt m s) s.now (fun f => { f with caller := -1 }) with now := (curF s).caller } (curF s).caller v = _
  rw [modFib_all m h0 s s.now (fun f => { f with caller := -1 }) fun _ => rfl, now_map m h0, pushG_map m h0]
theorem dropG_map (s : GState) : dropG (mapSt m s) = mapSt m (dropG s) := modFib_all m h0 s _ _ fun f => by
  unfold mapFib
  simp only [List.map_dropLast]
theorem returnG_map (s : GState) : returnG (mapSt m s) = ((returnG s).1, mapSt m (returnG s).2) := by
  unfold returnG
  rw [popG_map m h0, dropG_map m h0, curF_map m h0, lastV_map m h0]
  show (if 0 < ((curF (dropG (popG s))).frames.map (mapFr m)).length then _ else if (curF (dropG (popG s))).caller < 0 then _ else _) = _
  rw [List.length_map]
  by_cases h1 : 0 < (curF (dropG (popG s))).frames.length
  · rw [if_pos h1, if_pos h1]
    show (0, pushG (mapSt m (dropG (popG s))) s.now (lastV s)) = _
    rw [pushG_map m h0]
  · rw [if_neg h1, if_neg h1]
    by_cases h2 : (curF (dropG (popG s))).caller < 0
    · rw [if_pos h2, if_pos h2, now_map m h0, putG_map m h0]
    · rw [if_neg h2, if_neg h2, backG_map m h0]
theorem yieldG_map (s : GState) : yieldG (mapSt m s) = ((yieldG s).1, mapSt m (yieldG s).2) := by
  unfold yieldG
  rw [popG_map m h0, curF_map m h0, lastV_map m h0]
  show (if (curF (popG s)).caller < 0 then _ else _) = _
  by_cases h2 : (curF (popG s)).caller < 0
  · rw [if_pos h2, if_pos h2]
  · rw [if_neg h2, if_neg h2, backG_map m h0]
theorem lineGo_map (fs : List GFiber) : ∀ (k : Nat) (n : Int) (out : List Int), lineGo (fs.map (mapFib m)) k n out = lineGo fs k n out
  | 0, _, _ => have _ := h0; rfl
  | k + 1, n, out => by
    have e : callerOf (fs.map (mapFib m)) n = callerOf fs n := by
      unfold callerOf
      have := getD_map (mapFib m) fs n.toNat default
      rw [show (mapFib m default : GFiber) = default from rfl] at this
      rw [this]; rfl
    unfold lineGo
    rw [e, lineGo_map fs k]
theorem lineLL_map (s : GState) : lineLL (mapSt m s) = lineLL s := by
  unfold lineLL lineS
  show (lineGo (s.fibers.map (mapFib m)) ((s.fibers.map (mapFib m)).length + 2) s.now []).getD [] = _
  rw [lineGo_map m h0, List.length_map]
theorem wakeG_map (s : GState) (n v : Int) (hz : (topOf (s.fibers.getD n.toNat default)).at_ ≠ 0 → m (topOf (s.fibers.getD n.toNat default)).func (topOf (s.fibers.getD n.toNat default)).at_ ≠ 0) : wakeG (mapSt m s) n v = mapSt m (wakeG s n v) := by
  unfold wakeG
  rw [fibAt_map m h0, topOf_map m h0]
  have e : ({ modFib (mapSt m s) n (fun f => { f with caller := s.now }) with now := n } : GState) = mapSt m { modFib s n (fun f => { f with caller := s.now }) with now := n } := by
    rw [modFib_all m h0 s n (fun f => { f with caller := s.now }) fun _ => rfl]; rfl
  show (if m (topOf (s.fibers.getD n.toNat default)).func (topOf (s.fibers.getD n.toNat default)).at_ = 0 then modTop { modFib (mapSt m s) n (fun f => { f with caller := s.now }) with now := n } n (fun x => { x with locals := x.locals.set 0 v }) else pushG { modFib (mapSt m s) n (fun f => { f with caller := s.now }) with now := n } n v) =
    mapSt m (if (topOf (s.fibers.getD n.toNat default)).at_ = 0 then modTop { modFib s n (fun f => { f with caller := s.now }) with now := n } n (fun x => { x with locals := x.locals.set 0 v }) else pushG { modFib s n (fun f => { f with caller := s.now }) with now := n } n v)
  rw [e]
  generalize ({ modFib s n (fun f => { f with caller := s.now }) with now := n } : GState) = U
  by_cases h : (topOf (s.fibers.getD n.toNat default)).at_ = 0
  · rw [if_pos h, if_pos (by rw [h, h0])]
    exact modTop_all m h0 U n (fun x => { x with locals := x.locals.set 0 v }) fun _ => rfl
  · rw [if_neg h, if_neg (hz h), pushG_map m h0]
theorem resumeG_map (s : GState) (hz : ∀ n : Nat, n < s.fibers.length → 0 < ((popG (popG s)).fibers.getD n default).frames.length → (topOf ((popG (popG s)).fibers.getD n default)).at_ ≠ 0 → m (topOf ((popG (popG s)).fibers.getD n default)).func (topOf ((popG (popG s)).fibers.getD n default)).at_ ≠ 0) :
    resumeG (mapSt m s) = ((resumeG s).1, mapSt m (resumeG s).2) := by
  unfold resumeG
  rw [popG_map m h0, popG_map m h0, lastV_map m h0, lastV_map m h0, lineLL_map m h0, fibAt_map m h0]
  show (if ¬ (0 ≤ lastV (popG s) ∧ lastV (popG s) < (s.fibers.map (mapFib m)).length) then _ else if lastV (popG s) ∈ lineLL (popG (popG s)) ∨ (((popG (popG s)).fibers.getD (lastV (popG s)).toNat default).frames.map (mapFr m)).length = 0 then _ else _) = _
  rw [List.length_map, List.length_map]
  by_cases h1 : 0 ≤ lastV (popG s) ∧ lastV (popG s) < s.fibers.length
  · have n1 : ¬ ¬ (0 ≤ lastV (popG s) ∧ lastV (popG s) < s.fibers.length) := fun k => k h1
    rw [if_neg n1, if_neg n1]
    by_cases h2 : lastV (popG s) ∈ lineLL (popG (popG s)) ∨ ((popG (popG s)).fibers.getD (lastV (popG s)).toNat default).frames.length = 0
    · rw [if_pos h2, if_pos h2]
    · rw [if_neg h2, if_neg h2]
      rw [wakeG_map m h0]
      exact hz _ (by omega) (by have := fun k => h2 (.inr k); omega)
  · have n1 : ¬ (0 ≤ lastV (popG s) ∧ lastV (popG s) < s.fibers.length) := h1
    rw [if_pos n1, if_pos n1]
theorem advG_map (s : GState) (h : m (curX s).func ((curX s).at_ + 1) = m (curX s).func (curX s).at_ + 1) : advG (mapSt m s) = mapSt m (advG s) := by
  refine modTop_map m h0 s s.now _ _ fun _ _ => ?_
  show ({ mapFr m (curX s) with at_ := m (curX s).func (curX s).at_ + 1 } : GFrame) = { curX s with at_ := m (curX s).func ((curX s).at_ + 1) }
  rw [h]; rfl
theorem setAtG_map (s : GState) {a a' : Int} (h : m (curX s).func a = a') : setAtG (mapSt m s) a' = mapSt m (setAtG s a) := by
  refine modTop_map m h0 s s.now _ _ fun _ _ => ?_
  show ({ mapFr m (curX s) with at_ := a' } : GFrame) = { curX s with at_ := m (curX s).func a }
  rw [h]; rfl
theorem leaveG_map (s : GState) (n : Nat) : leaveG (mapSt m s) n = mapSt m (leaveG s n) := modTop_all m h0 s _ (fun x => { x with stack := x.stack.take (x.stack.length - n) }) fun _ => rfl
variable {p q : List GFunc} (hq : ∀ a, (funcOf q a).args = (funcOf p a).args ∧ (funcOf q a).locals = (funcOf p a).locals)
include hq
theorem argsOf_map (s : GState) (a : Int) (n : Nat) : argsOf q (mapSt m s) a n = argsOf p s a n := by
  unfold argsOf
  rw [curX_map m h0, (hq a).1, (hq a).2]
  rfl
theorem callG_map (s : GState) (a : Int) : callG q (mapSt m s) a = ((callG p s a).1, mapSt m (callG p s a).2) := by
  unfold callG
  rw [curF_map m h0, (hq a).1, argsOf_map m h0 hq, leaveG_map m h0]
  show (if ((curF s).frames.map (mapFr m)).length = 6 then _ else _) = _
  rw [List.length_map]
  by_cases h : (curF s).frames.length = 6
  · rw [if_pos h, if_pos h]
  · rw [if_neg h, if_neg h]
    show ((0 : Int), modFib (mapSt m (leaveG s (funcOf p a).args.toNat)) s.now (fun f => { f with frames := f.frames ++ [⟨a, 0, argsOf p s a (funcOf p a).args.toNat, []⟩] })) = _
    rw [modFib_all m h0 (leaveG s (funcOf p a).args.toNat) s.now (fun f => { f with frames := f.frames ++ [⟨a, 0, argsOf p s a (funcOf p a).args.toNat, []⟩] }) fun f => ?_]
    unfold mapFib mapFr
    simp [h0]
theorem makeG_map (s : GState) (a : Int) : makeG q (mapSt m s) a = ((makeG p s a).1, mapSt m (makeG p s a).2) := by
  have e : freshFrame q a = freshFrame p a := by unfold freshFrame; rw [(hq a).2]
  unfold makeG
  rw [e]
  show (if (s.fibers.map (mapFib m)).length = 5 then _ else ((0 : Int), ({ pushG (mapSt m s) s.now (s.fibers.map (mapFib m)).length with fibers := (pushG (mapSt m s) s.now (s.fibers.map (mapFib m)).length).fibers ++ [(⟨[freshFrame p a], -1⟩ : GFiber)] } : GState))) = _
  rw [List.length_map]
  by_cases h : s.fibers.length = 5
  · rw [if_pos h, if_pos h]
  · rw [if_neg h, if_neg h, pushG_map m h0]
    have e2 : mapFib m ⟨[freshFrame p a], -1⟩ = ⟨[freshFrame p a], -1⟩ := by unfold mapFib mapFr freshFrame; simp [h0]
    have e3 : ((pushG s s.now s.fibers.length).fibers ++ [(⟨[freshFrame p a], -1⟩ : GFiber)]).map (mapFib m) = (pushG s s.now s.fibers.length).fibers.map (mapFib m) ++ [(⟨[freshFrame p a], -1⟩ : GFiber)] := by rw [List.map_append, List.map_singleton, e2]
    unfold mapSt
    simp only [e3]
/-- One op's work. -/
theorem workG_map (s : GState) (k a a' : Int) (h9 : k = 9 → m (curX s).func a = a') (h10 : k = 10 → m (curX (popG s)).func a = a') (ha : k ≠ 9 → k ≠ 10 → a' = a)
    (hz : k = 14 → ∀ n : Nat, n < s.fibers.length → 0 < ((popG (popG s)).fibers.getD n default).frames.length → (topOf ((popG (popG s)).fibers.getD n default)).at_ ≠ 0 → m (topOf ((popG (popG s)).fibers.getD n default)).func (topOf ((popG (popG s)).fibers.getD n default)).at_ ≠ 0) :
    workG q (mapSt m s) k a' = ((workG p s k a).1, mapSt m (workG p s k a).2) := by
  unfold workG
  show (if k = 0 then ((0 : Int), pushG (mapSt m s) s.now a') else _) = _
  by_cases c : k = 0
  · rw [if_pos c, if_pos c, pushG_map m h0, ha (by omega) (by omega)]
  rw [if_neg c, if_neg c]
  clear c
  by_cases c : k = 1
  · rw [if_pos c, if_pos c, popG_map m h0]
  rw [if_neg c, if_neg c]
  clear c
  by_cases c : k = 2
  · rw [if_pos c, if_pos c, curX_map m h0, ha (by omega) (by omega)]
    show ((0 : Int), pushG (mapSt m s) s.now ((curX s).locals.getD a.toNat 0)) = _
    rw [pushG_map m h0]
  rw [if_neg c, if_neg c]
  clear c
  by_cases c : k = 3
  · rw [if_pos c, if_pos c, popG_map m h0, lastV_map m h0, ha (by omega) (by omega)]
    show ((0 : Int), modTop (mapSt m (popG s)) s.now (fun x => { x with locals := x.locals.set a.toNat (lastV s) })) = _
    rw [modTop_all m h0 (popG s) s.now (fun x => { x with locals := x.locals.set a.toNat (lastV s) }) fun _ => rfl]
  rw [if_neg c, if_neg c]
  clear c
  by_cases c : k = 9
  · rw [if_pos c, if_pos c, setAtG_map m h0 s (h9 c)]
  rw [if_neg c, if_neg c]
  by_cases d : k = 10
  · rw [if_pos d, if_pos d, lastV_map m h0, popG_map m h0]
    by_cases e : lastV s = 0
    · rw [if_pos e, if_pos e, setAtG_map m h0 (popG s) (h10 d)]
    · rw [if_neg e, if_neg e]
  rw [if_neg d, if_neg d, ha c d]
  clear c d
  by_cases c : k = 11
  · rw [if_pos c, if_pos c, callG_map m h0 hq]
  rw [if_neg c, if_neg c]
  clear c
  by_cases c : k = 12
  · rw [if_pos c, if_pos c, returnG_map m h0]
  rw [if_neg c, if_neg c]
  clear c
  by_cases c : k = 13
  · rw [if_pos c, if_pos c, makeG_map m h0 hq]
  rw [if_neg c, if_neg c]
  clear c
  by_cases c : k = 14
  · rw [if_pos c, if_pos c, resumeG_map m h0 s (hz c)]
  rw [if_neg c, if_neg c]
  clear c
  by_cases c : k = 15
  · rw [if_pos c, if_pos c, yieldG_map m h0]
  rw [if_neg c, if_neg c]
  clear c
  by_cases c : k = 16
  · rw [if_pos c, if_pos c, popG_map m h0, lastV_map m h0, putG_map m h0]
  rw [if_neg c, if_neg c]
  rw [popG_map m h0, popG_map m h0, lastV_map m h0, lastV_map m h0]
  show ((0 : Int), pushG (mapSt m (popG (popG s))) s.now (reckG k (lastV (popG s)) (lastV s))) = _
  rw [pushG_map m h0]
end
end Go.Proofs.Ytfajkebkhdcapaa
end
section
/- The engine of package step: its box, and its top frame. -/
set_option maxHeartbeats 4000000
set_option maxRecDepth 100000
namespace Go.Proofs.Ytfajkebkhdcapaa
open Go Go.RowKit

/-- An engine's box: where its state lies, and the program. -/
structure Eng (w : World) (eb b : Nat) (p : List GFunc) (a : Option Addr) (cap : Nat) : Prop where
  e0 : Cx w eb 0 (.pointer (some ⟨b, 0, none⟩))
  e1 : Cx w eb 1 (.slice a p.length cap)
theorem Eng.ext {w w' : World} {eb b : Nat} {p : List GFunc} {a : Option Addr} {cap : Nat} (h : Eng w eb b p a cap) (he : Ext w w') : Eng w' eb b p a cap := ⟨h.e0.ext he, h.e1.ext he⟩

theorem engTop_any {P : PState} {L R : List PFiber} {y : PFiber} {F : List PFrame} {x : PFrame} {w : World} {B b g o cap : Nat} {eb : Nat} {p : List GFunc} {a : Option Addr} {cp : Nat} (h : OwnS w B b P)
    (hE : Eng w eb b p a cp) (hs : Spot P L y R F x) (hv : y.vf = .slice (some ⟨g, o, none⟩) (F ++ [x]).length cap) (hnow : P.now = (L.length : Int)) :
    Calls Try.prog 73 #[.pointer (some ⟨eb, 0, none⟩)] w fun e w' => e = .returned (.pointer (some ⟨g, o + F.length * 4, none⟩)) ∧ Ext w w' := by
  have hrow := h.row
  have hfew := h.few
  rw [hs.fs] at hrow hfew
  obtain ⟨⟨c0, -⟩, ⟨c1, -⟩, -⟩ := (⟨h.c0, h.c1, h.c2⟩ : _ ∧ _ ∧ _)
  obtain ⟨⟨x0, -⟩, -⟩ := hE
  rw [hnow] at c1
  obtain ⟨g0, o0, cap0, e0, hb0, hc0, hm0, hx0⟩ := RowAt.place fiberF (fun _ => rfl) hrow
  rw [e0] at c0
  obtain ⟨d0, -⟩ := hx0 0 _ (by decide) rfl
  rw [hv, Nat.add_zero] at d0
  have hnk : L.length < (L ++ y :: R).length := by simp
  have hfr : (F ++ [x]).length ≤ 1000 := by
    have := (h.fs y (by rw [hs.fs]; simp)).few
    rwa [hs.fr] at this
  have hm1 : (F ++ [x]).length = F.length + 1 := by simp
  have hmN : F.length < (F ++ [x]).length := by omega
  have KK : IntKind.i64.wrap (((F ++ [x]).length : Int) - 1) = (F.length : Int) := by
    have e : (((F ++ [x]).length : Int) - 1) = (F.length : Int) := by omega
    rw [e]; exact IntWalk.i64_in _ (by omega)
  clear hrow hx0 hb0 hm0 hm1 hs hv hnow
  have RA := alloc_keep
  generalize L.length = n at *
  generalize F.length = m at *
  generalize (L ++ y :: R).length = nk at *
  generalize (F ++ [x]).length = mk at *
  go_enter Try.func73, Try.ntmps73
  go_upto_region 1 with fail
  refine wp_region_ext (by kernel_rfl) (by kernel_rfl) ?_
  repeat (first
    | go_big_quiet_skip
    | (go_big_quiet_want
       unfold Oper.quiet
       apply Exists.intro
       refine ⟨fun w' hw' => ?_, ?_⟩
       focus
         have hcq := Ext.keep hw'
         go_simp
         first
           | with_reducible rfl
           
       (try dsimp only [Act.put])
       (try simp only [List.setIfInBounds_toArray, List.set_cons_succ, List.set_cons_zero])
       go_big_quiet_on))
  refine wpQuiet_nil ?_
  intro wq hq
  go_wp2_with fail
  go_ret
  exact ⟨rfl, hq⟩
end Go.Proofs.Ytfajkebkhdcapaa
end
section
/- A state in own memory: another At, another local value. Plain facts of steps. No condition. -/
set_option maxHeartbeats 1000000
namespace Go.Proofs.Ytfajkebkhdcapaa
open Go Go.RowKit

theorem OwnS.setAt {P : PState} {L R : List PFiber} {y : PFiber} {F : List PFrame} {x : PFrame} {W : World} {B b g o n cap : Nat} (h : OwnS W B b P) (hs : Spot P L y R F x) (hv : y.vf = .slice (some ⟨g, o, none⟩) n cap) (a : Int) (hI : I64 a) :
    OwnS (W.setCell ⟨g, o + F.length * 4 + 1, none⟩ (.int .i64 a)) B b (replTop P L y R F ⟨{ x.f with at_ := a }, x.vl, x.vs⟩) ∧ Chg (· ∈ b :: P.bl) W (W.setCell ⟨g, o + F.length * 4 + 1, none⟩ (.int .i64 a)) := by
  obtain ⟨s1, s2, s3⟩ := h.sep hs
  have hy := h.fs y (by rw [hs.fs]; simp)
  have hx := hy.fr x (by rw [hs.fr]; simp)
  have hrow := hy.row
  rw [hs.fr] at hrow
  obtain ⟨g', o', cap', e1, hbl, _⟩ := RowAt.place frameF (fun _ => rfl) hrow
  rw [hv] at e1
  simp only [Value.slice.injEq, Option.some.injEq, Addr.mk.injEq] at e1
  obtain ⟨⟨rfl, rfl, -⟩, -, rfl⟩ := e1
  have hCh := chg_one W g (o + F.length * 4 + 1) (.int .i64 a)
  have hgx : ∀ k ∈ x.bl, ¬ k = g := fun k hk e => by subst e; exact s1 _ hbl hk
  have hx' := hx.chg hCh hgx
  refine ⟨h.frame hs.fs hs.fr hCh (fun k hk _ => .inl (by rw [show k = g from hk]; exact hbl)) ⟨⟨hx.i.1, hI, hx.i.2.2⟩, hx'.l, hx'.s, hx.few⟩ ?_ s3 (fun k hk => .inl hk), hCh.mono (fun k _ hk => List.mem_cons_of_mem _ (hs.bl (.inl (by rw [show k = g from hk]; exact hbl))))⟩
  rw [hv] at hrow ⊢
  exact hrow.storeAt frameF (fun _ => rfl) (by decide) rfl

theorem OwnS.setLocal {P : PState} {L R : List PFiber} {y : PFiber} {F : List PFrame} {x : PFrame} {W : World} {B b g o n cap : Nat} (h : OwnS W B b P) (hs : Spot P L y R F x) (hv : x.vl = .slice (some ⟨g, o, none⟩) n cap) (i : Nat) (hi : i < x.f.locals.length) (v : Int) (hI : I64 v) :
    OwnS (W.setCell ⟨g, o + i, none⟩ (.int .i64 v)) B b (replTop P L y R F ⟨{ x.f with locals := x.f.locals.set i v }, x.vl, x.vs⟩) ∧ Chg (· ∈ b :: P.bl) W (W.setCell ⟨g, o + i, none⟩ (.int .i64 v)) := by
  obtain ⟨s1, s2, s3⟩ := h.sep hs
  have hy := h.fs y (by rw [hs.fs]; simp)
  have hx := hy.fr x (by rw [hs.fr]; simp)
  have hl := hx.l
  obtain ⟨a1, c1, e1, _, _⟩ := hl.shape
  have e2 := hv
  rw [e1] at e2
  simp only [Value.slice.injEq] at e2
  obtain ⟨rfl, rfl, rfl⟩ := e2
  rw [e1] at hl
  obtain ⟨g', o', e3, hbk, hcell⟩ := hl.cell (by omega)
  simp only [Option.some.injEq, Addr.mk.injEq] at e3
  obtain ⟨rfl, rfl, -⟩ := e3
  have hcap : c1 ≠ 0 := by
    intro e; subst e
    obtain ⟨_, _, _, e4, h5, _⟩ := hl
    simp only [Value.slice.injEq] at e4
    omega
  have hbl : rowBlock x.vl = some g := by rw [e1]; exact rowBlock_some _ _ _ _ hcap
  have hgm : g ∈ x.bl := by unfold PFrame.bl; simp [hbl]
  have hCh := chg_one W g (o + i) (.int .i64 v)
  refine ⟨h.frame hs.fs hs.fr hCh (fun k hk _ => .inr (by rw [show k = g from hk]; exact hgm)) ⟨⟨hx.i.1, hx.i.2.1, fun k hk => ?_, hx.i.2.2.2⟩, ?_, ?_, ?_, hx.few.2⟩ ?_ s3 (fun k hk => .inl hk), hCh.mono (fun k _ hk => List.mem_cons_of_mem _ (hs.bl (.inr (by rw [show k = g from hk]; exact hgm))))⟩
  · rcases List.mem_or_eq_of_mem_set hk with h1 | h1
    · exact hx.i.2.2.1 k h1
    · rw [h1]; exact hI
  · show RowAt _ B 1 x.vl (x.f.locals.set i v).length (ints (x.f.locals.set i v))
    rw [← ints_set, List.length_set]
    have := hl.store (j := i) (by omega) (.int .i64 v)
    rw [e1]
    exact this
  · exact hx.s.chg hCh (fun k hk e => s2 g hbl (by rw [show k = g from e] at hk; exact hk)) (by decide)
  · show (x.f.locals.set i v).length ≤ 1000
    rw [List.length_set]; exact hx.few.1
  · have hrow := hy.row
    rw [hs.fr] at hrow
    have h2 := hrow.chg hCh (fun k hk e => s1 k hk (by rw [show k = g from e]; exact hgm)) (by decide)
    simp only [List.flatMap_append, List.length_append, List.length_cons, List.flatMap_cons] at h2 ⊢
    exact h2

theorem topOf_mod (f : GFiber) (h : 0 < f.frames.length) (g : GFrame → GFrame) : topOf { f with frames := f.frames.modify (f.frames.length - 1) g } = g (topOf f) := by
  unfold topOf
  obtain ⟨F, x, hf⟩ := split_last f.frames h
  simp only [hf, List.length_modify]
  rw [modify_last _ _ _ _ rfl]
  have e : (F ++ [g x]).length = (F ++ [x]).length := by simp
  rw [← e, getD_last _ _ _ _ rfl, e, getD_last _ _ _ _ rfl]
theorem curF_mod (s : GState) (h : 0 ≤ s.now ∧ s.now < s.fibers.length) (g : GFiber → GFiber) : curF (modFib s s.now g) = g (curF s) := by
  unfold curF
  show (modFib s s.now g).fibers.getD s.now.toNat default = _
  rw [modFib_get _ _ _ _ (by omega), if_pos rfl]
theorem curX_mod (s : GState) (h : HasTop s s.now) (g : GFrame → GFrame) : curX (modTop s s.now g) = g (curX s) := by
  unfold curX modTop
  rw [curF_mod s ⟨h.1, h.2.1⟩]
  exact topOf_mod _ h.2.2 g
theorem curX_pop (s : GState) (h : HasTop s s.now) : curX (popG s) = { curX s with stack := (curX s).stack.dropLast } := curX_mod s h _
/-- What lineOf hands back, in one form. -/
theorem LineRet.ll {B : Nat} {s : GState} {e : Ending} {w : World} (h : LineRet B s e w) : ∃ a c ok, e = .returned (.tuple #[.slice a (lineLL s).length c, .bool ok]) ∧ Ints w (B ≤ ·) (.slice a (lineLL s).length c) (lineLL s) := by
  unfold LineRet at h
  unfold lineLL
  cases hl : lineS s with
  | none => rw [hl] at h; exact ⟨none, 0, false, h, Sl.nil _ _ _⟩
  | some l => rw [hl] at h; obtain ⟨a, c, h1, h2⟩ := h; exact ⟨a, c, _, h1, h2⟩
theorem CallersOk.callers {s : GState} (h : CallersOk s) (hf : s.fibers.length ≤ 1000) : Callers s :=
  ⟨h.1, fun k hk => by
    rw [List.getD_eq_getElem?_getD, List.getElem?_eq_getElem hk]
    exact h.2 _ (List.getElem_mem _), hf⟩
end Go.Proofs.Ytfajkebkhdcapaa
end
