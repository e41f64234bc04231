/- Merged texts: contracts and plain facts, one part behind another; each part begins with what it says. -/
import Derived.Test.YtgahbngbpfilgaaGFAC
import Derived.Test.YtgahbngbpfilgaaGFAD
import Derived.Test.YtgahbngbpfilgaaGFAE
import Derived.Test.YtgahbngbpfilgaaGFAF
import Derived.Test.YtgahbngbpfilgaaGFAG
import Derived.Test.YtgahbngbpfilgaaGFAH
section
/- Contracts of the document's has, frameFine, waits and fresh. -/
set_option maxHeartbeats 4000000
set_option maxRecDepth 100000
namespace Go.Proofs.Ytgahbngbpfilgaa
open Go Go.RowKit

theorem funcOf_nat {p : List GFunc} {k : Nat} (hk : k < p.length) : funcOf p k = p[k] := by
  unfold funcOf
  rw [show (k : Int).toNat = k by omega]
  simp [List.getD, List.getElem?_eq_getElem hk]

theorem Ints.at' {w : World} {S : Nat → Prop} {a : Option Addr} {l : List Int} {n c : Nat} (h : Ints w S (.slice a n c) l) {m : Nat} (hm : m < l.length) : ∃ b o, a = some ⟨b, o, none⟩ ∧ w.cell? ⟨b, o + m, none⟩ = some (.int .i64 (l.getD m 0)) := by
  obtain ⟨b, o, _, e1, _, _, _, x0, _⟩ := h.get hm
  simp only [Value.slice.injEq] at e1
  obtain ⟨rfl, -, rfl⟩ := e1
  rw [Nat.mul_one] at x0
  refine ⟨b, o, rfl, ?_⟩
  rw [x0]
  simp [List.getD, List.getElem?_eq_getElem hm]

end Go.Proofs.Ytgahbngbpfilgaa
end
section
/- Contract of the document's lineOf. -/
set_option maxHeartbeats 4000000
set_option maxRecDepth 100000
namespace Go.Proofs.Ytgahbngbpfilgaa
open Go Go.RowKit

def lenV : Value → Nat
  | .slice _ n _ => n
  | _ => 0

/-- What lineOf hands back. -/
def LineRet (B : Nat) (s : GState) (e : Ending) (w' : World) : Prop :=
  match lineS s with
  | none => e = .returned (.tuple #[.slice none 0 0, .bool false])
  | some l => ∃ a c, e = .returned (.tuple #[.slice a l.length c, .bool (lineEnd l)]) ∧ Ints w' (B ≤ ·) (.slice a l.length c) l

theorem lineGo_neg {fs : List GFiber} {k : Nat} {n : Int} {out : List Int} (h : n < 0) : lineGo fs (k + 1) n out = some out := by unfold lineGo; rw [if_pos h]
theorem lineGo_mem {fs : List GFiber} {k : Nat} {n : Int} {out : List Int} (h : ¬ n < 0) (hm : n ∈ out) : lineGo fs (k + 1) n out = none := by unfold lineGo; rw [if_neg h, if_pos hm]
theorem lineGo_next {fs : List GFiber} {k : Nat} {n : Int} {out : List Int} (h : ¬ n < 0) (hm : n ∉ out) : lineGo fs (k + 1) n out = lineGo fs k (callerOf fs n) (out ++ [n]) := by rw [lineGo, if_neg h, if_neg hm]

structure Callers (s : GState) : Prop where
  now : -1 ≤ s.now ∧ s.now ≤ (s.fibers.length : Int) - 1
  all : ∀ k, k < s.fibers.length → -1 ≤ (s.fibers.getD k default).caller ∧ (s.fibers.getD k default).caller ≤ (s.fibers.length : Int) - 1
  few : s.fibers.length ≤ 1000

end Go.Proofs.Ytgahbngbpfilgaa
end
section
/- Plain data: what a step does to a state, and what must hold that it can be done. No program in sight; no condition. -/
namespace Go.Proofs.Ytgahbngbpfilgaa
open Go Go.RowKit

def topOf (f : GFiber) : GFrame := f.frames.getD (f.frames.length - 1) default
def curF (s : GState) : GFiber := s.fibers.getD s.now.toNat default
def curX (s : GState) : GFrame := topOf (curF s)
def modFib (s : GState) (n : Int) (g : GFiber → GFiber) : GState := { s with fibers := s.fibers.modify n.toNat g }
def modTop (s : GState) (n : Int) (g : GFrame → GFrame) : GState := modFib s n fun f => { f with frames := f.frames.modify (f.frames.length - 1) g }
def pushG (s : GState) (n v : Int) : GState := modTop s n fun x => { x with stack := x.stack ++ [v] }
def popG (s : GState) : GState := modTop s s.now fun x => { x with stack := x.stack.dropLast }
def lastV (s : GState) : Int := (curX s).stack.getD ((curX s).stack.length - 1) 0
def putG (s : GState) (v : Int) : Int × GState := if s.out.length = 30 then (2, s) else (0, { s with out := s.out ++ [v] })
def advG (s : GState) : GState := modTop s s.now fun x => { x with at_ := x.at_ + 1 }
def setAtG (s : GState) (a : Int) : GState := modTop s s.now fun x => { x with at_ := a }
/-- The one that runs hands a value to its caller. -/
def backG (s : GState) (v : Int) : GState := pushG { modFib s s.now (fun f => { f with caller := -1 }) with now := (curF s).caller } (curF s).caller v
def dropG (s : GState) : GState := modFib s s.now fun f => { f with frames := f.frames.dropLast }
def returnG (s : GState) : Int × GState :=
  if 0 < (curF (dropG (popG s))).frames.length then (0, pushG (dropG (popG s)) s.now (lastV s))
  else if (curF (dropG (popG s))).caller < 0 then putG { dropG (popG s) with now := -1 } (lastV s)
  else (0, backG (dropG (popG s)) (lastV s))
def yieldG (s : GState) : Int × GState := if (curF (popG s)).caller < 0 then (7, s) else (0, backG (popG s) (lastV s))
def lineLL (s : GState) : List Int := (lineS s).getD []
/-- The one that is resumed runs. -/
def wakeG (s : GState) (n v : Int) : GState :=
  if (topOf (s.fibers.getD n.toNat default)).at_ = 0 then modTop { modFib s n (fun f => { f with caller := s.now }) with now := n } n (fun x => { x with locals := x.locals.set 0 v })
  else pushG { modFib s n (fun f => { f with caller := s.now }) with now := n } n v
def resumeG (s : GState) : Int × GState :=
  if ¬ (0 ≤ lastV (popG s) ∧ lastV (popG s) < s.fibers.length) then (5, s)
  else if lastV (popG s) ∈ lineLL (popG (popG s)) ∨ ((popG (popG s)).fibers.getD (lastV (popG s)).toNat default).frames.length = 0 then (6, s)
  else (0, wakeG (popG (popG s)) (lastV (popG s)) (lastV s))
/-- What is left of the caller, and the frame that is called: m args. -/
def leaveG (s : GState) (m : Nat) : GState := modTop s s.now fun x => { x with stack := x.stack.take (x.stack.length - m) }
def argsOf (p : List GFunc) (s : GState) (a : Int) (m : Nat) : List Int := List.replicate ((funcOf p a).args.toNat - m) 0 ++ (curX s).stack.drop ((curX s).stack.length - m) ++ List.replicate ((funcOf p a).locals.toNat - (funcOf p a).args.toNat) 0
def callG (p : List GFunc) (s : GState) (a : Int) : Int × GState :=
  if (curF s).frames.length = 6 then (2, s)
  else (0, modFib (leaveG s (funcOf p a).args.toNat) s.now fun f => { f with frames := f.frames ++ [⟨a, 0, argsOf p s a (funcOf p a).args.toNat, []⟩] })
def truthG (b : Bool) : Int := if b then 1 else 0
def reckG (k a b : Int) : Int :=
  if k = 4 then wrap64 (a + b) else if k = 5 then wrap64 (a - b) else if k = 6 then wrap64 (a * b) else if k = 7 then truthG (decide (a < b)) else truthG (decide (a = b))
def makeG (p : List GFunc) (s : GState) (a : Int) : Int × GState :=
  if s.fibers.length = 5 then (2, s) else (0, { pushG s s.now s.fibers.length with fibers := (pushG s s.now s.fibers.length).fibers ++ [⟨[freshFrame p a], -1⟩] })
def opAt (p : List GFunc) (x : GFrame) : GOp := (funcOf p x.func).code.getD x.at_.toNat default
/-- An op's work, its At already one on. -/
def workG (p : List GFunc) (s : GState) (k a : Int) : Int × GState :=
  if k = 0 then (0, pushG s s.now a)
  else if k = 1 then (0, popG s)
  else if k = 2 then (0, pushG s s.now ((curX s).locals.getD a.toNat 0))
  else if k = 3 then (0, modTop (popG s) s.now fun x => { x with locals := x.locals.set a.toNat (lastV s) })
  else if k = 9 then (0, setAtG s a)
  else if k = 10 then (0, if lastV s = 0 then setAtG (popG s) a else popG s)
  else if k = 11 then callG p s a
  else if k = 12 then returnG s
  else if k = 13 then makeG p s a
  else if k = 14 then resumeG s
  else if k = 15 then yieldG s
  else if k = 16 then putG (popG s) (lastV s)
  else (0, pushG (popG (popG s)) s.now (reckG k (lastV (popG s)) (lastV s)))
def doneG (p : List GFunc) (s : GState) : Int × GState := workG p (advG s) (opAt p (curX s)).kind (opAt p (curX s)).a
/-- Running: the state, how many steps, the error. -/
def runG (p : List GFunc) : Nat → GState → GState × Int × Int
  | 0, s => (s, 0, 0)
  | k + 1, s => if s.now < 0 then (s, 0, 0) else if (doneG p s).1 ≠ 0 then (s, 0, (doneG p s).1) else ((runG p k (doneG p s).2).1, (runG p k (doneG p s).2).2.1 + 1, (runG p k (doneG p s).2).2.2)

/-- There is room. -/
def FewF (f : GFiber) : Prop := f.frames.length ≤ 900 ∧ ∀ x ∈ f.frames, x.locals.length ≤ 900 ∧ x.stack.length ≤ 900
def FewS (s : GState) : Prop := s.fibers.length ≤ 900 ∧ s.out.length ≤ 900 ∧ ∀ f ∈ s.fibers, FewF f
/-- A fiber has a frame. -/
def HasTop (s : GState) (n : Int) : Prop := 0 ≤ n ∧ n < s.fibers.length ∧ 0 < (s.fibers.getD n.toNat default).frames.length
def NowTop (p : List GFunc) (s : GState) : Prop := HasTop s s.now ∧ 0 ≤ (curX s).func ∧ (curX s).func < p.length ∧ 0 ≤ (curX s).at_ ∧ (curX s).at_ < (funcOf p (curX s).func).code.length
def CallFit (p : List GFunc) (s : GState) (a : Int) : Prop := 0 ≤ a ∧ a < p.length ∧ 0 ≤ (funcOf p a).args ∧ (funcOf p a).args ≤ (funcOf p a).locals ∧ (funcOf p a).locals ≤ 900 ∧ (funcOf p a).args ≤ (curX s).stack.length
def BackFit (s : GState) : Prop := (curF s).caller < 0 ∨ HasTop { modFib s s.now (fun f => { f with caller := -1 }) with now := (curF s).caller } (curF s).caller
def ReturnFit (s : GState) : Prop := 1 ≤ (curX s).stack.length ∧ (0 < (curF (dropG (popG s))).frames.length ∨ BackFit (dropG (popG s)))
def MakeFit (p : List GFunc) (a : Int) : Prop := 0 ≤ a ∧ a < p.length ∧ 0 ≤ (funcOf p a).locals ∧ (funcOf p a).locals ≤ 900
def CallersOk (s : GState) : Prop := (-1 ≤ s.now ∧ s.now ≤ (s.fibers.length : Int) - 1) ∧ ∀ f ∈ s.fibers, -1 ≤ f.caller ∧ f.caller ≤ (s.fibers.length : Int) - 1
def ResumeFit (s : GState) : Prop := 2 ≤ (curX s).stack.length ∧ CallersOk (popG (popG s)) ∧
  (0 ≤ lastV (popG s) ∧ lastV (popG s) < (popG (popG s)).fibers.length ∧ 0 < ((popG (popG s)).fibers.getD (lastV (popG s)).toNat default).frames.length →
    (topOf ((popG (popG s)).fibers.getD (lastV (popG s)).toNat default)).at_ = 0 → 0 < (topOf ((popG (popG s)).fibers.getD (lastV (popG s)).toNat default)).locals.length)
def WorkFit (p : List GFunc) (s : GState) (k a : Int) : Prop :=
  if k = 0 then True
  else if k = 1 then 1 ≤ (curX s).stack.length
  else if k = 2 then 0 ≤ a ∧ a < (curX s).locals.length
  else if k = 3 then 0 ≤ a ∧ a < (curX s).locals.length ∧ 1 ≤ (curX s).stack.length
  else if k = 9 then True
  else if k = 10 then 1 ≤ (curX s).stack.length
  else if k = 11 then CallFit p s a
  else if k = 12 then ReturnFit s
  else if k = 13 then MakeFit p a
  else if k = 14 then ResumeFit s
  else if k = 15 then 1 ≤ (curX s).stack.length ∧ BackFit (popG s)
  else if k = 16 then 1 ≤ (curX s).stack.length
  else 2 ≤ (curX s).stack.length
def OpFit (p : List GFunc) (s : GState) : Prop := NowTop p s ∧ WorkFit p (advG s) (opAt p (curX s)).kind (opAt p (curX s)).a
def RunFit (p : List GFunc) : Nat → GState → Prop
  | 0, s => FewS s
  | k + 1, s => FewS s ∧ (s.now < 0 ∨ (OpFit p s ∧ ((doneG p s).1 ≠ 0 ∨ RunFit p k (doneG p s).2)))

instance (f : GFiber) : Decidable (FewF f) := by unfold FewF; infer_instance
instance (s : GState) : Decidable (FewS s) := by unfold FewS; infer_instance
instance (s : GState) (n : Int) : Decidable (HasTop s n) := by unfold HasTop; infer_instance
instance (p : List GFunc) (s : GState) : Decidable (NowTop p s) := by unfold NowTop; infer_instance
instance (p : List GFunc) (s : GState) (a : Int) : Decidable (CallFit p s a) := by unfold CallFit; infer_instance
instance (s : GState) : Decidable (BackFit s) := by unfold BackFit; infer_instance
instance (s : GState) : Decidable (ReturnFit s) := by unfold ReturnFit; infer_instance
instance (p : List GFunc) (a : Int) : Decidable (MakeFit p a) := by unfold MakeFit; infer_instance
instance (s : GState) : Decidable (CallersOk s) := by unfold CallersOk; infer_instance
instance (s : GState) : Decidable (ResumeFit s) := by unfold ResumeFit; infer_instance
instance (p : List GFunc) (s : GState) (k a : Int) : Decidable (WorkFit p s k a) := by unfold WorkFit; infer_instance
instance (p : List GFunc) (s : GState) : Decidable (OpFit p s) := by unfold OpFit; infer_instance
instance decRunFit (p : List GFunc) : (k : Nat) → (s : GState) → Decidable (RunFit p k s)
  | 0, s => by unfold RunFit; infer_instance
  | k + 1, s => by
    have := decRunFit p k
    unfold RunFit
    infer_instance
end Go.Proofs.Ytgahbngbpfilgaa
end
section
/- Rows of the call's own at a place: reading and storing a cell. Contracts of the document's top, push, pull, put. -/
set_option maxHeartbeats 4000000
set_option maxRecDepth 100000
namespace Go.Proofs.Ytgahbngbpfilgaa
open Go Go.RowKit

section
variable {α : Type} (f : α → List Value) {sz : Nat} (hf : ∀ y, (f y).length = sz)
include hf
theorem flat_len (l : List α) : (l.flatMap f).length = l.length * sz := by
  induction l with
  | nil => simp
  | cons y l ih => simp [ih, hf, Nat.add_mul]; omega
theorem flat_at (L : List α) (y : α) (R : List α) {r : Nat} (hr : r < sz) : ((L ++ y :: R).flatMap f)[L.length * sz + r]? = (f y)[r]? := by
  rw [List.flatMap_append, List.flatMap_cons, List.getElem?_append_right (by rw [flat_len f hf]; omega), flat_len f hf, Nat.add_sub_cancel_left, List.getElem?_append_left (by rw [hf]; exact hr)]
theorem flat_set (L : List α) (y y' : α) (R : List α) {r : Nat} (hr : r < sz) {u : Value} (h : f y' = (f y).set r u) : ((L ++ y :: R).flatMap f).set (L.length * sz + r) u = (L ++ y' :: R).flatMap f := by
  rw [List.flatMap_append, List.flatMap_cons, List.flatMap_append, List.flatMap_cons, List.set_append_right _ _ (by rw [flat_len f hf]; omega), flat_len f hf, Nat.add_sub_cancel_left, List.set_append_left _ _ (by rw [hf]; exact hr), h]
/-- A place of a row: its cells. -/
theorem RowAt.place {W : World} {B : Nat} {v : Value} {L R : List α} {y : α} (h : RowAt W B sz v (L ++ y :: R).length ((L ++ y :: R).flatMap f)) :
    ∃ g o cap, v = .slice (some ⟨g, o, none⟩) (L ++ y :: R).length cap ∧ rowBlock v = some g ∧ (L ++ y :: R).length ≤ cap ∧ cap ≤ maxLen ∧ ∀ r u, r < sz → (f y)[r]? = some u → Cx W g (o + L.length * sz + r) u := by
  obtain ⟨hl, a, cap, rfl, h1, h2, h3⟩ := h
  have hn : 0 < (L ++ y :: R).length := by simp only [List.length_append, List.length_cons]; omega
  obtain ⟨g, o, rfl, hb, hc, ht⟩ := h3.resolve_left (by omega)
  refine ⟨g, o, cap, rfl, rowBlock_some _ _ _ _ (by omega), h1, h2, fun r u hr hu => ?_⟩
  have hlt : L.length * sz + r < (L ++ y :: R).length * sz := by
    rw [List.length_append, List.length_cons, Nat.add_mul, Nat.add_mul, Nat.one_mul]; omega
  have hcap : (L ++ y :: R).length * sz ≤ cap * sz := Nat.mul_le_mul_right _ h1
  rw [Nat.add_assoc]
  exact ⟨(hc _ hlt).trans ((flat_at f hf L y R hr).trans hu), (ht _ (by omega)).2⟩
/-- A cell at a place is stored. -/
theorem RowAt.storeAt {W : World} {B : Nat} {L R : List α} {y y' : α} {g o n cap : Nat} (h : RowAt W B sz (.slice (some ⟨g, o, none⟩) n cap) (L ++ y :: R).length ((L ++ y :: R).flatMap f)) {r : Nat} (hr : r < sz) {u : Value} (hu : f y' = (f y).set r u) :
    RowAt (W.setCell ⟨g, o + L.length * sz + r, none⟩ u) B sz (.slice (some ⟨g, o, none⟩) n cap) (L ++ y' :: R).length ((L ++ y' :: R).flatMap f) := by
  have e : n = (L ++ y :: R).length := by obtain ⟨a, c, e, _⟩ := h.shape; simp only [Value.slice.injEq] at e; exact e.2.1
  subst e
  have hlt : L.length * sz + r < (L ++ y :: R).length * sz := by
    rw [List.length_append, List.length_cons, Nat.add_mul, Nat.add_mul, Nat.one_mul]; omega
  have := RowAt.store h hlt u
  rw [flat_set f hf L y y' R hr hu, ← Nat.add_assoc] at this
  rw [show (L ++ y' :: R).length = (L ++ y :: R).length by simp]
  exact this
end

/-- A state's fiber and its top frame, at a place. -/
structure Spot (P : PState) (L : List PFiber) (y : PFiber) (R : List PFiber) (F : List PFrame) (x : PFrame) : Prop where
  fs : P.fs = L ++ y :: R
  fr : y.fr = F ++ [x]
def replTop (P : PState) (L : List PFiber) (y : PFiber) (R : List PFiber) (F : List PFrame) (x : PFrame) : PState := { P with fs := L ++ { y with fr := F ++ [x] } :: R }

end Go.Proofs.Ytgahbngbpfilgaa
end
