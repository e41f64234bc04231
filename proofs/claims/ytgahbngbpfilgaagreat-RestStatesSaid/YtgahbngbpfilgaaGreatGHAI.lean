/- Merged texts: contracts and plain facts, one part behind another; each part begins with what it says. -/
import Derived.Test.YtgahbngbpfilgaaGreatGHAE
import Derived.Test.YtgahbngbpfilgaaGreatGHAH
section
namespace Go.Proofs.YtgahbngbpfilgaaGreat
open Go Go.RowKit
def topOf (f : GFiber) : GFrame := f.frames.getD (f.frames.length - 1) default
def curF (s : GState) : GFiber := s.fibers.getD s.now.toNat default
def curX (s : GState) : GFrame := topOf (curF s)
def modFib (s : GState) (n : Int) (g : GFiber → GFiber) : GState := { s with fibers := s.fibers.modify n.toNat g }
def modTop (s : GState) (n : Int) (g : GFrame → GFrame) : GState := modFib s n fun f => { f with frames := f.frames.modify (f.frames.length - 1) g }
def pushG (s : GState) (n v : Int) : GState := modTop s n fun x => { x with stack := x.stack ++ [v] }
def popG (s : GState) : GState := modTop s s.now fun x => { x with stack := x.stack.dropLast }
def lastV (s : GState) : Int := (curX s).stack.getD ((curX s).stack.length - 1) 0
def putG (s : GState) (v : Int) : Int × GState := if s.out.length = 30 then (2, s) else (0, { s with out := s.out ++ [v] })
def advG (s : GState) : GState := modTop s s.now fun x => { x with at_ := x.at_ + 1 }
def setAtG (s : GState) (a : Int) : GState := modTop s s.now fun x => { x with at_ := a }
def backG (s : GState) (v : Int) : GState := pushG { modFib s s.now (fun f => { f with caller := -1 }) with now := (curF s).caller } (curF s).caller v
def dropG (s : GState) : GState := modFib s s.now fun f => { f with frames := f.frames.dropLast }
def returnG (s : GState) : Int × GState :=
 if 0 < (curF (dropG (popG s))).frames.length then (0, pushG (dropG (popG s)) s.now (lastV s))
 else if (curF (dropG (popG s))).caller < 0 then putG { dropG (popG s) with now := -1 } (lastV s)
 else (0, backG (dropG (popG s)) (lastV s))
def yieldG (s : GState) : Int × GState := if (curF (popG s)).caller < 0 then (7, s) else (0, backG (popG s) (lastV s))
def lineLL (s : GState) : List Int := (lineS s).getD []
def wakeG (s : GState) (n v : Int) : GState :=
 if (topOf (s.fibers.getD n.toNat default)).at_ = 0 then modTop { modFib s n (fun f => { f with caller := s.now }) with now := n } n (fun x => { x with locals := x.locals.set 0 v })
 else pushG { modFib s n (fun f => { f with caller := s.now }) with now := n } n v
def resumeG (s : GState) : Int × GState :=
 if ¬ (0 ≤ lastV (popG s) ∧ lastV (popG s) < s.fibers.length) then (5, s)
 else if lastV (popG s) ∈ lineLL (popG (popG s)) ∨ ((popG (popG s)).fibers.getD (lastV (popG s)).toNat default).frames.length = 0 then (6, s)
 else (0, wakeG (popG (popG s)) (lastV (popG s)) (lastV s))
def leaveG (s : GState) (m : Nat) : GState := modTop s s.now fun x => { x with stack := x.stack.take (x.stack.length - m) }
def argsOf (p : List GFunc) (s : GState) (a : Int) (m : Nat) : List Int := List.replicate ((funcOf p a).args.toNat - m) 0 ++ (curX s).stack.drop ((curX s).stack.length - m) ++ List.replicate ((funcOf p a).locals.toNat - (funcOf p a).args.toNat) 0
def callG (p : List GFunc) (s : GState) (a : Int) : Int × GState :=
 if (curF s).frames.length = 6 then (2, s)
 else (0, modFib (leaveG s (funcOf p a).args.toNat) s.now fun f => { f with frames := f.frames ++ [⟨a, 0, argsOf p s a (funcOf p a).args.toNat, []⟩] })
def truthG (b : Bool) : Int := if b then 1 else 0
def reckG (k a b : Int) : Int :=
 if k = 4 then wrap64 (a + b) else if k = 5 then wrap64 (a - b) else if k = 6 then wrap64 (a * b) else if k = 7 then truthG (decide (a < b)) else truthG (decide (a = b))
def makeG (p : List GFunc) (s : GState) (a : Int) : Int × GState :=
 if s.fibers.length = 5 then (2, s) else (0, { pushG s s.now s.fibers.length with fibers := (pushG s s.now s.fibers.length).fibers ++ [⟨[freshFrame p a], -1⟩] })
def opAt (p : List GFunc) (x : GFrame) : GOp := (funcOf p x.func).code.getD x.at_.toNat default
def workG (p : List GFunc) (s : GState) (k a : Int) : Int × GState :=
 if k = 0 then (0, pushG s s.now a)
 else if k = 1 then (0, popG s)
 else if k = 2 then (0, pushG s s.now ((curX s).locals.getD a.toNat 0))
 else if k = 3 then (0, modTop (popG s) s.now fun x => { x with locals := x.locals.set a.toNat (lastV s) })
 else if k = 9 then (0, setAtG s a)
 else if k = 10 then (0, if lastV s = 0 then setAtG (popG s) a else popG s)
 else if k = 11 then callG p s a
 else if k = 12 then returnG s
 else if k = 13 then makeG p s a
 else if k = 14 then resumeG s
 else if k = 15 then yieldG s
 else if k = 16 then putG (popG s) (lastV s)
 else (0, pushG (popG (popG s)) s.now (reckG k (lastV (popG s)) (lastV s)))
def doneG (p : List GFunc) (s : GState) : Int × GState := workG p (advG s) (opAt p (curX s)).kind (opAt p (curX s)).a
def runG (p : List GFunc) : Nat → GState → GState × Int × Int
 | 0, s => (s, 0, 0)
 | k + 1, s => if s.now < 0 then (s, 0, 0) else if (doneG p s).1 ≠ 0 then (s, 0, (doneG p s).1) else ((runG p k (doneG p s).2).1, (runG p k (doneG p s).2).2.1 + 1, (runG p k (doneG p s).2).2.2)
def FewF (f : GFiber) : Prop := f.frames.length ≤ 900 ∧ ∀ x ∈ f.frames, x.locals.length ≤ 900 ∧ x.stack.length ≤ 900
def FewS (s : GState) : Prop := s.fibers.length ≤ 900 ∧ s.out.length ≤ 900 ∧ ∀ f ∈ s.fibers, FewF f
def HasTop (s : GState) (n : Int) : Prop := 0 ≤ n ∧ n < s.fibers.length ∧ 0 < (s.fibers.getD n.toNat default).frames.length
def NowTop (p : List GFunc) (s : GState) : Prop := HasTop s s.now ∧ 0 ≤ (curX s).func ∧ (curX s).func < p.length ∧ 0 ≤ (curX s).at_ ∧ (curX s).at_ < (funcOf p (curX s).func).code.length
def CallFit (p : List GFunc) (s : GState) (a : Int) : Prop := 0 ≤ a ∧ a < p.length ∧ 0 ≤ (funcOf p a).args ∧ (funcOf p a).args ≤ (funcOf p a).locals ∧ (funcOf p a).locals ≤ 900 ∧ (funcOf p a).args ≤ (curX s).stack.length
def BackFit (s : GState) : Prop := (curF s).caller < 0 ∨ HasTop { modFib s s.now (fun f => { f with caller := -1 }) with now := (curF s).caller } (curF s).caller
def ReturnFit (s : GState) : Prop := 1 ≤ (curX s).stack.length ∧ (0 < (curF (dropG (popG s))).frames.length ∨ BackFit (dropG (popG s)))
def MakeFit (p : List GFunc) (a : Int) : Prop := 0 ≤ a ∧ a < p.length ∧ 0 ≤ (funcOf p a).locals ∧ (funcOf p a).locals ≤ 900
def CallersOk (s : GState) : Prop := (-1 ≤ s.now ∧ s.now ≤ (s.fibers.length : Int) - 1) ∧ ∀ f ∈ s.fibers, -1 ≤ f.caller ∧ f.caller ≤ (s.fibers.length : Int) - 1
def ResumeFit (s : GState) : Prop := 2 ≤ (curX s).stack.length ∧ CallersOk (popG (popG s)) ∧
 (0 ≤ lastV (popG s) ∧ lastV (popG s) < (popG (popG s)).fibers.length ∧ 0 < ((popG (popG s)).fibers.getD (lastV (popG s)).toNat default).frames.length →
  (topOf ((popG (popG s)).fibers.getD (lastV (popG s)).toNat default)).at_ = 0 → 0 < (topOf ((popG (popG s)).fibers.getD (lastV (popG s)).toNat default)).locals.length)
def WorkFit (p : List GFunc) (s : GState) (k a : Int) : Prop :=
 if k = 0 then True
 else if k = 1 then 1 ≤ (curX s).stack.length
 else if k = 2 then 0 ≤ a ∧ a < (curX s).locals.length
 else if k = 3 then 0 ≤ a ∧ a < (curX s).locals.length ∧ 1 ≤ (curX s).stack.length
 else if k = 9 then True
 else if k = 10 then 1 ≤ (curX s).stack.length
 else if k = 11 then CallFit p s a
 else if k = 12 then ReturnFit s
 else if k = 13 then MakeFit p a
 else if k = 14 then ResumeFit s
 else if k = 15 then 1 ≤ (curX s).stack.length ∧ BackFit (popG s)
 else if k = 16 then 1 ≤ (curX s).stack.length
 else 2 ≤ (curX s).stack.length
def OpFit (p : List GFunc) (s : GState) : Prop := NowTop p s ∧ WorkFit p (advG s) (opAt p (curX s)).kind (opAt p (curX s)).a
def RunFit (p : List GFunc) : Nat → GState → Prop
 | 0, s => FewS s
 | k + 1, s => FewS s ∧ (s.now < 0 ∨ (OpFit p s ∧ ((doneG p s).1 ≠ 0 ∨ RunFit p k (doneG p s).2)))
instance (f : GFiber) : Decidable (FewF f) := by unfold FewF; infer_instance
instance (s : GState) : Decidable (FewS s) := by unfold FewS; infer_instance
instance (s : GState) (n : Int) : Decidable (HasTop s n) := by unfold HasTop; infer_instance
instance (p : List GFunc) (s : GState) : Decidable (NowTop p s) := by unfold NowTop; infer_instance
instance (p : List GFunc) (s : GState) (a : Int) : Decidable (CallFit p s a) := by unfold CallFit; infer_instance
instance (s : GState) : Decidable (BackFit s) := by unfold BackFit; infer_instance
instance (s : GState) : Decidable (ReturnFit s) := by unfold ReturnFit; infer_instance
instance (p : List GFunc) (a : Int) : Decidable (MakeFit p a) := by unfold MakeFit; infer_instance
instance (s : GState) : Decidable (CallersOk s) := by unfold CallersOk; infer_instance
instance (s : GState) : Decidable (ResumeFit s) := by unfold ResumeFit; infer_instance
instance (p : List GFunc) (s : GState) (k a : Int) : Decidable (WorkFit p s k a) := by unfold WorkFit; infer_instance
instance (p : List GFunc) (s : GState) : Decidable (OpFit p s) := by unfold OpFit; infer_instance
instance decRunFit (p : List GFunc) : (k : Nat) → (s : GState) → Decidable (RunFit p k s)
 | 0, s => by unfold RunFit; infer_instance
 | k + 1, s => by
  have := decRunFit p k
  unfold RunFit
  infer_instance
end Go.Proofs.YtgahbngbpfilgaaGreat
end
section
set_option maxHeartbeats 4000000
set_option maxRecDepth 100000
namespace Go.Proofs.YtgahbngbpfilgaaGreat
open Go Go.RowKit
section
variable {α : Type} (f : α → List Value) {sz : Nat} (hf : ∀ y, (f y).length = sz)
include hf
theorem flat_len (l : List α) : (l.flatMap f).length = l.length * sz := by
 induction l with
 | nil => simp
 | cons y l ih => simp [ih, hf, Nat.add_mul]; omega
theorem flat_at (L : List α) (y : α) (R : List α) {r : Nat} (hr : r < sz) : ((L ++ y :: R).flatMap f)[L.length * sz + r]? = (f y)[r]? := by
 rw [List.flatMap_append, List.flatMap_cons, List.getElem?_append_right (by rw [flat_len f hf]; omega), flat_len f hf, Nat.add_sub_cancel_left, List.getElem?_append_left (by rw [hf]; exact hr)]
theorem flat_set (L : List α) (y y' : α) (R : List α) {r : Nat} (hr : r < sz) {u : Value} (h : f y' = (f y).set r u) : ((L ++ y :: R).flatMap f).set (L.length * sz + r) u = (L ++ y' :: R).flatMap f := by
 rw [List.flatMap_append, List.flatMap_cons, List.flatMap_append, List.flatMap_cons, List.set_append_right _ _ (by rw [flat_len f hf]; omega), flat_len f hf, Nat.add_sub_cancel_left, List.set_append_left _ _ (by rw [hf]; exact hr), h]
theorem RowAt.place {W : World} {B : Nat} {v : Value} {L R : List α} {y : α} (h : RowAt W B sz v (L ++ y :: R).length ((L ++ y :: R).flatMap f)) :
  ∃ g o cap, v = .slice (some ⟨g, o, none⟩) (L ++ y :: R).length cap ∧ rowBlock v = some g ∧ (L ++ y :: R).length ≤ cap ∧ cap ≤ maxLen ∧ ∀ r u, r < sz → (f y)[r]? = some u → Cx W g (o + L.length * sz + r) u := by
 obtain ⟨hl, a, cap, rfl, h1, h2, h3⟩ := h
 have hn : 0 < (L ++ y :: R).length := by simp only [List.length_append, List.length_cons]; omega
 obtain ⟨g, o, rfl, hb, hc, ht⟩ := h3.resolve_left (by omega)
 refine ⟨g, o, cap, rfl, rowBlock_some _ _ _ _ (by omega), h1, h2, fun r u hr hu => ?_⟩
 have hlt : L.length * sz + r < (L ++ y :: R).length * sz := by
  rw [List.length_append, List.length_cons, Nat.add_mul, Nat.add_mul, Nat.one_mul]; omega
 have hcap : (L ++ y :: R).length * sz ≤ cap * sz := Nat.mul_le_mul_right _ h1
 rw [Nat.add_assoc]
 exact ⟨(hc _ hlt).trans ((flat_at f hf L y R hr).trans hu), (ht _ (by omega)).2⟩
theorem RowAt.storeAt {W : World} {B : Nat} {L R : List α} {y y' : α} {g o n cap : Nat} (h : RowAt W B sz (.slice (some ⟨g, o, none⟩) n cap) (L ++ y :: R).length ((L ++ y :: R).flatMap f)) {r : Nat} (hr : r < sz) {u : Value} (hu : f y' = (f y).set r u) :
  RowAt (W.setCell ⟨g, o + L.length * sz + r, none⟩ u) B sz (.slice (some ⟨g, o, none⟩) n cap) (L ++ y' :: R).length ((L ++ y' :: R).flatMap f) := by
 have e : n = (L ++ y :: R).length := by obtain ⟨a, c, e, _⟩ := h.shape; simp only [Value.slice.injEq] at e; exact e.2.1
 subst e
 have hlt : L.length * sz + r < (L ++ y :: R).length * sz := by
  rw [List.length_append, List.length_cons, Nat.add_mul, Nat.add_mul, Nat.one_mul]; omega
 have := RowAt.store h hlt u
 rw [flat_set f hf L y y' R hr hu, ← Nat.add_assoc] at this
 rw [show (L ++ y' :: R).length = (L ++ y :: R).length by simp]
 exact this
end
structure Spot (P : PState) (L : List PFiber) (y : PFiber) (R : List PFiber) (F : List PFrame) (x : PFrame) : Prop where
 fs : P.fs = L ++ y :: R
 fr : y.fr = F ++ [x]
def replTop (P : PState) (L : List PFiber) (y : PFiber) (R : List PFiber) (F : List PFrame) (x : PFrame) : PState := { P with fs := L ++ { y with fr := F ++ [x] } :: R }
theorem top_any {P : PState} {L R : List PFiber} {y : PFiber} {F : List PFrame} {x : PFrame} {w : World} {B b g o cap : Nat} (h : OwnS w B b P) (hs : Spot P L y R F x) (hv : y.vf = .slice (some ⟨g, o, none⟩) (F ++ [x]).length cap) (n : Nat) (hn : n = L.length) :
    Calls Tryz.prog 91 #[.pointer (some ⟨b, 0, none⟩), .int .i64 n] w fun e w' => e = .returned (.pointer (some ⟨g, o + F.length * 4, none⟩)) ∧ Ext w w' := by
  have hrow := h.row
  have hfew := h.few
  rw [hs.fs] at hrow hfew
  obtain ⟨⟨c0, -⟩, -, -⟩ := (⟨h.c0, h.c1, h.c2⟩ : _ ∧ _ ∧ _)
  obtain ⟨g0, o0, cap0, e0, hb0, hc0, hm0, hx0⟩ := RowAt.place fiberF (fun _ => rfl) hrow
  rw [e0] at c0
  obtain ⟨d0, -⟩ := hx0 0 _ (by decide) rfl
  rw [hv, Nat.add_zero] at d0
  have hnk : L.length < (L ++ y :: R).length := by simp
  have hfr : (F ++ [x]).length ≤ 1000 := by
    have := (h.fs y (by rw [hs.fs]; simp)).few
    rwa [hs.fr] at this
  have hm1 : (F ++ [x]).length = F.length + 1 := by simp
  have hmN : F.length < (F ++ [x]).length := by omega
  have KK : IntKind.i64.wrap (((F ++ [x]).length : Int) - 1) = (F.length : Int) := by
    have e : (((F ++ [x]).length : Int) - 1) = (F.length : Int) := by omega
    rw [e]; exact IntWalk.i64_in _ (by omega)
  subst hn
  clear hrow hx0 hb0 hm0 hm1 hs hv
  have RA := alloc_keep
  generalize L.length = n at *
  generalize F.length = m at *
  generalize (L ++ y :: R).length = nk at *
  generalize (F ++ [x]).length = mk at *
  go_enter Tryz.func91, Tryz.ntmps91
  go_upto_region 2 with fail
  refine wp_region_ext (by kernel_rfl) (by kernel_rfl) ?_
  repeat (first
    | go_big_quiet_skip
    | (go_big_quiet_want
       unfold Oper.quiet
       apply Exists.intro
       refine ⟨fun w' hw' => ?_, ?_⟩
       focus
         have hcq := Ext.keep hw'
         go_simp
         first
           | with_reducible rfl
       (try dsimp only [Act.put])
       (try simp only [List.setIfInBounds_toArray, List.set_cons_succ, List.set_cons_zero])
       go_big_quiet_on))
  refine wpQuiet_nil ?_
  intro wq hq
  go_wp2_with fail
  go_ret
  exact ⟨rfl, hq⟩
end Go.Proofs.YtgahbngbpfilgaaGreat
end
section
set_option maxHeartbeats 4000000
set_option maxRecDepth 100000
namespace Go.Proofs.YtgahbngbpfilgaaGreat
open Go Go.RowKit
theorem OwnS.sep {P : PState} {L R : List PFiber} {y : PFiber} {F : List PFrame} {x : PFrame} {W : World} {B b : Nat} (h : OwnS W B b P) (hs : Spot P L y R F x) :
  (∀ k, rowBlock y.vf = some k → k ∉ x.bl) ∧ (∀ k, rowBlock x.vl = some k → rowBlock x.vs ≠ some k) ∧ x.bl.Nodup := by
 have h1 := (List.nodup_cons.1 h.nodup).2
 unfold PState.bl at h1
 rw [hs.fs, List.flatMap_append, List.flatMap_cons] at h1
 have h4 := (List.nodup_append.1 (List.nodup_append.1 (List.nodup_append.1 h1).2.1).2.1).1
 unfold PFiber.bl at h4
 rw [hs.fr, List.flatMap_append] at h4
 obtain ⟨_, h5, h6⟩ := List.nodup_append.1 h4
 have h7 := (List.nodup_append.1 h5).2.1
 rw [List.flatMap_cons, List.flatMap_nil, List.append_nil] at h7
 refine ⟨fun k hk hx => h6 k (by simp [hk]) k (by simp [hx]) rfl, fun k hk hv => ?_, h7⟩
 unfold PFrame.bl at h7
 exact (List.nodup_append.1 h7).2.2 k (by simp [hk]) k (by simp [hv]) rfl
theorem OwnS.stack {P : PState} {L R : List PFiber} {y : PFiber} {F : List PFrame} {x : PFrame} {W W1 : World} {B b g o n cap : Nat} (h : OwnS W B b P) (hs : Spot P L y R F x) (hv : y.vf = .slice (some ⟨g, o, none⟩) n cap)
  {st : List Int} {v1 : Value} (hc : Chg (fun k => rowBlock x.vs = some k) W W1) (hr : RowAt W1 B 1 v1 st.length (ints st)) (hI : ∀ k ∈ st, I64 k) (hl : st.length ≤ 1000) (hb : rowBlock v1 = rowBlock x.vs ∨ ∀ k, rowBlock v1 = some k → W.heap.size ≤ k) :
  OwnS (W1.setCell ⟨g, o + F.length * 4 + 3, none⟩ v1) B b (replTop P L y R F ⟨{ x.f with stack := st }, x.vl, v1⟩) ∧ Chg (fun k => rowBlock y.vf = some k ∨ rowBlock x.vs = some k) W (W1.setCell ⟨g, o + F.length * 4 + 3, none⟩ v1) := by
 obtain ⟨s1, s2, s3⟩ := h.sep hs
 have hy := h.fs y (by rw [hs.fs]; simp)
 have hx := hy.fr x (by rw [hs.fr]; simp)
 have hrow := hy.row
 rw [hs.fr] at hrow
 obtain ⟨g', o', cap', e1, hbl, _⟩ := RowAt.place frameF (fun _ => rfl) hrow
 rw [hv] at e1
 simp only [Value.slice.injEq, Option.some.injEq, Addr.mk.injEq] at e1
 obtain ⟨⟨rfl, rfl, -⟩, -, rfl⟩ := e1
 have hgs : g < W.heap.size := hy.lt g (by unfold PFiber.bl; simp [hbl])
 have hgx : rowBlock x.vs ≠ some g := fun e => s1 g hbl (by unfold PFrame.bl; simp [e])
 have hgl : rowBlock x.vl ≠ some g := fun e => s1 g hbl (by unfold PFrame.bl; simp [e])
 have hg1 : ∀ k, rowBlock v1 = some k → k ≠ g := fun k hk e => by
  subst e
  rcases hb with h1 | h1
  ·exact hgx (h1 ▸ hk)
  ·have := h1 k hk; omega
 have hCh : Chg (fun k => rowBlock y.vf = some k ∨ rowBlock x.vs = some k) W (W1.setCell ⟨g, o + F.length * 4 + 3, none⟩ v1) := (hc.mono (fun _ _ e => .inr e)).setCell (p := ⟨g, o + F.length * 4 + 3, none⟩) (.inl (.inl hbl)) v1
 refine ⟨h.frame hs.fs hs.fr hCh (fun k hk _ => hk.imp id (fun e => by unfold PFrame.bl; simp [e])) ⟨⟨hx.i.1, hx.i.2.1, hx.i.2.2.1, hI⟩, ?_, ?_, hx.few.1, hl⟩ ?_ ?_ ?_, hCh⟩
 ·refine hx.l.chg hCh (fun k hk hm => ?_) (by decide)
  rcases hm with h1 | h1
  ·rw [hbl] at h1; cases h1; exact hgl hk
  ·exact s2 k hk h1
 ·exact hr.chg (chg_one W1 g (o + F.length * 4 + 3) v1) (fun k hk e => hg1 k hk e) (by decide)
 ·have hrow1 := hrow.chg hc (fun k hk e => by rw [hbl] at hk; cases hk; exact hgx e) (by decide)
  rw [hv] at hrow1 ⊢
  exact hrow1.storeAt frameF (fun _ => rfl) (by decide) rfl
 ·unfold PFrame.bl
  rw [List.nodup_append]
  refine ⟨by cases rowBlock x.vl <;> simp, by cases rowBlock v1 <;> simp, fun a ha c hc' e => ?_⟩
  subst e
  have ha' : rowBlock x.vl = some a := by simpa using ha
  have hc2 : rowBlock v1 = some a := by simpa using hc'
  rcases hb with h1 | h1
  ·exact s2 a ha' (h1 ▸ hc2)
  ·have h2 := h1 a hc2
   have h3 := hx.lt a (by unfold PFrame.bl; simp [ha'])
   omega
 ·intro k hk
  unfold PFrame.bl at hk ⊢
  rcases List.mem_append.1 hk with h1 | h1
  ·exact .inl (List.mem_append.2 (.inl h1))
  ·have h2 : rowBlock v1 = some k := by simpa using h1
   rcases hb with h3 | h3
   ·exact .inl (List.mem_append.2 (.inr (by rw [← h3]; exact h1)))
   ·exact .inr (h3 k h2)
theorem OwnS.spot {P : PState} {L R : List PFiber} {y : PFiber} {F : List PFrame} {x : PFrame} {W : World} {B b : Nat} (h : OwnS W B b P) (hs : Spot P L y R F x) :
  ∃ g o cap, y.vf = .slice (some ⟨g, o, none⟩) (F ++ [x]).length cap ∧ (F ++ [x]).length ≤ cap ∧ cap ≤ maxLen ∧ Cx W g (o + F.length * 4) (.int .i64 x.f.func) ∧ Cx W g (o + F.length * 4 + 1) (.int .i64 x.f.at_) ∧ Cx W g (o + F.length * 4 + 2) x.vl ∧ Cx W g (o + F.length * 4 + 3) x.vs ∧ rowBlock y.vf = some g := by
 have hy := h.fs y (by rw [hs.fs]; simp)
 have hrow := hy.row
 rw [hs.fr] at hrow
 obtain ⟨g, o, cap, e1, hbl, hc, hm, hx⟩ := RowAt.place frameF (fun _ => rfl) hrow
 exact ⟨g, o, cap, e1, hc, hm, hx 0 _ (by decide) rfl, hx 1 _ (by decide) rfl, hx 2 _ (by decide) rfl, hx 3 _ (by decide) rfl, hbl⟩
theorem push_at {P : PState} {L R : List PFiber} {y : PFiber} {F : List PFrame} {x : PFrame} {w : World} {B b : Nat} (h : OwnS w B b P) (hs : Spot P L y R F x) (n : Nat) (hn : n = L.length) (v : Int) (hv : I64 v) (hlen : x.f.stack.length < 1000) :
  Calls Tryz.prog 92 #[.pointer (some ⟨b, 0, none⟩), .int .i64 n, .int .i64 v] w fun e w' => e = .returned (.tuple #[]) ∧ (∃ v1, OwnS w' B b (replTop P L y R F ⟨{ x.f with stack := x.f.stack ++ [v] }, x.vl, v1⟩) ∧ (rowBlock v1 = rowBlock x.vs ∨ ∀ k, rowBlock v1 = some k → w.heap.size ≤ k)) ∧
   Chg (fun k => rowBlock y.vf = some k ∨ rowBlock x.vs = some k) w w' := by
 obtain ⟨g, o, cap, e1, hcap, hmax, -, -, -, d3, hbl⟩ := h.spot hs
 have hx := (h.fs y (by rw [hs.fs]; simp)).fr x (by rw [hs.fr]; simp)
 have H := Lib.hid h
 have HB : Hid (B ≤ w.heap.size) := Nat.le_trans h.le (Nat.le_of_lt h.c0.lt)
 have HX := Lib.hid hx
 have D3 := Lib.hid d3
 have HE1 := Lib.hid e1
 obtain ⟨i0, hi0, hz0, hz1, hz2⟩ := info_parts infoI
 have RA := alloc_keep
 obtain ⟨as_, cs, es, hcs, hms⟩ := hx.s.shape
 have HES := Lib.hid es
 have HN := Lib.hid hn
 have HXS : Hid (RowAt w B 1 (.slice as_ x.f.stack.length cs) x.f.stack.length (ints x.f.stack)) := by unfold Hid; rw [← es]; exact hx.s
 have HGX : Hid (¬ rowBlock (.slice as_ x.f.stack.length cs) = some g) := by unfold Hid; rw [← es]; exact fun e => (h.sep hs).1 g hbl (by unfold PFrame.bl; simp [e])
 clear hn h hx d3 e1 hcap hmax es hcs hms
 go_enter Tryz.func92, Tryz.ntmps92
 go_upto_region 1 with (first
  | (go_at_call 91; (with_reducible refine (top_any H.out hs HE1.out n HN.out).mono ?_); rintro e w2 ⟨rfl, hx2⟩))
 have HX2 := Lib.hid hx2
 obtain ⟨d3, d3'⟩ := D3.out.ext hx2
 rw [HES.out] at d3
 have HS2 : Hid (B ≤ w2.heap.size) := Nat.le_trans HB.out hx2.size
 clear hx2
 go_wp2_with (first
  | (at_builtin; refine wpList_append_row rfl _ _ 24 rfl B 3 i0 (.int .i64 0) 1 8 Tryz.underlying24 hi0 hz0 hz1 hz2 rfl (by decide) _ _ _ rfl (by exact (HXS.out.ext (HX2.out.alloc _) (by decide))) 1 (ints [v]) (src_one _ _ _) (by unfold maxLen; omega) (by omega) (by exact Nat.le_trans HS2.out (Ext.size ((Ext.refl _).alloc _))) ?_; intro v1 Wv1 rv1; have RV := Lib.hid rv1; obtain ⟨k0, k0'⟩ := (D3.out.ext (HX2.out.alloc _)).chg rv1.2.1 HGX.out; obtain ⟨a9, cap9, rfl, _, _⟩ := rv1.1.shape; clear rv1))
 go_end0
 have hRV : NewRow (w2.alloc (.cells #[.int .i64 v] 3)) Wv1 B 1 (.slice as_ x.f.stack.length cs) (.slice a9 (x.f.stack.length + 1) cap9) (x.f.stack.length + 1) (ints x.f.stack ++ ints [v]) := RV.out
 have hA : Ext w (w2.alloc (.cells #[.int .i64 v] 3)) := HX2.out.alloc _
 obtain ⟨r1, r2, r3⟩ := hRV
 have hfin := H.out.stack hs HE1.out (W1 := Wv1) (st := x.f.stack ++ [v]) (v1 := .slice a9 (x.f.stack.length + 1) cap9)
  ((Chg.of_ext hA).trans (r2.mono (fun k _ e => by rw [HES.out]; exact e)))
  (by rw [List.length_append, List.length_singleton, ints_app]; exact r1) (fun k hk => by rcases List.mem_append.1 hk with h1 | h1; exact HX.out.i.2.2.2 k h1; rw [List.mem_singleton.1 h1]; exact hv)
  (by rw [List.length_append, List.length_singleton]; omega) (r3.imp (fun e => by rw [HES.out]; exact e) (fun e k hk => Nat.le_trans hA.size (e k hk)))
 exact ⟨rfl, ⟨_, hfin.1, r3.imp (fun e => by rw [HES.out]; exact e) (fun e k hk => Nat.le_trans hA.size (e k hk))⟩, hfin.2⟩
theorem RowAt.cut {w : World} {base n cap : Nat} {a : Option Addr} {l : List Int} {u : Int} (h : RowAt w base 1 (.slice a (l ++ [u]).length cap) (l ++ [u]).length (ints (l ++ [u]))) (hn : n = l.length) : RowAt w base 1 (.slice a n cap) l.length (ints l) := by
 obtain ⟨hl, a', cap', e, h1, h2, h3⟩ := h
 simp only [Value.slice.injEq] at e
 obtain ⟨rfl, -, rfl⟩ := e
 subst hn
 rw [List.length_append, List.length_singleton] at h1
 refine ⟨by rw [ints_len]; omega, _, _, rfl, by omega, h2, h3.imp id ?_⟩
 rintro ⟨g, o, rfl, hb, hc, ht⟩
 refine ⟨g, o, rfl, hb, fun j hj => ?_, ht⟩
 rw [hc j (by rw [List.length_append, List.length_singleton]; omega), ints_app, List.getElem?_append_left (by rw [ints_len]; omega)]
theorem pull_at {P : PState} {L R : List PFiber} {y : PFiber} {F : List PFrame} {x : PFrame} {w : World} {B b : Nat} (h : OwnS w B b P) (hs : Spot P L y R F x) (hn : P.now = (L.length : Int)) (st : List Int) (u : Int) (hst : x.f.stack = st ++ [u]) :
    Calls Tryz.prog 93 #[.pointer (some ⟨b, 0, none⟩)] w fun e w' => e = .returned (.int .i64 u) ∧ (∃ v1, OwnS w' B b (replTop P L y R F ⟨{ x.f with stack := st }, x.vl, v1⟩) ∧ rowBlock v1 = rowBlock x.vs) ∧
      Chg (fun k => rowBlock y.vf = some k ∨ rowBlock x.vs = some k) w w' := by
  obtain ⟨g, o, cap, e1, hcap, hmax, -, -, -, d3, hbl⟩ := h.spot hs
  have hx := (h.fs y (by rw [hs.fs]; simp)).fr x (by rw [hs.fr]; simp)
  have hrow := hx.s
  rw [hst] at hrow
  obtain ⟨as_, cs, es, hcs, hms⟩ := hrow.shape
  rw [es] at hrow
  obtain ⟨g2, o2, rfl, _, hcell⟩ := hrow.cell (by simp)
  have hlen : (st ++ [u]).length = st.length + 1 := by simp
  have d4 := (hcell st.length (by omega)).1
  rw [ints_app, List.getElem?_append_right (by rw [ints_len]; exact Nat.le_refl _), ints_len, Nat.sub_self] at d4
  have d4 : w.cell? ⟨g2, o2 + st.length, none⟩ = some (.int .i64 u) := d4
  have hfew : (st ++ [u]).length ≤ 1000 := by rw [← hst]; exact hx.few.2
  have hmN : st.length < (st ++ [u]).length := by omega
  have KK : IntKind.i64.wrap (((st ++ [u]).length : Int) - 1) = (st.length : Int) := by
    have e : (((st ++ [u]).length : Int) - 1) = (st.length : Int) := by omega
    rw [e]; exact IntWalk.i64_in _ (by omega)
  have H := Lib.hid h
  have HX := Lib.hid hx
  have D3 : Hid (Cx w g (o + F.length * 4 + 3) (.slice (some ⟨g2, o2, none⟩) (st ++ [u]).length cs)) := by unfold Hid; rw [← es]; exact d3
  have D4 := Lib.hid d4
  have HE1 := Lib.hid e1
  have HROW := Lib.hid hrow
  have HES := Lib.hid es
  obtain ⟨c1, -⟩ := h.c1
  rw [hn] at c1
  have HGX : Hid (¬ rowBlock x.vs = some g) := fun e => (h.sep hs).1 g hbl (by unfold PFrame.bl; simp [e])
  have HST := Lib.hid hst
  clear hn h hx d3 d4 e1 hcap hmax es hms hst hrow hcell hlen
  have RA := alloc_keep
  go_enter Tryz.func93, Tryz.ntmps93
  go_upto_region 2 with (first
    | (go_at_call 91; (with_reducible refine (top_any H.out hs HE1.out L.length rfl).mono ?_); rintro e w2 ⟨rfl, hx2⟩))
  have HX2 := Lib.hid hx2
  obtain ⟨d3, d3'⟩ := D3.out.ext hx2
  have d4 := Ext.cell hx2 D4.out
  generalize hm : st.length = m at *
  generalize hN : (st ++ [u]).length = N at *
  have HM := Lib.hid hm
  have HN := Lib.hid hN
  clear hx2 hm hN
  refine wp_region_ext (by kernel_rfl) (by kernel_rfl) ?_
  repeat (first
    | go_big_quiet_skip
    | (go_big_quiet_want
       unfold Oper.quiet
       apply Exists.intro
       refine ⟨fun w' hw' => ?_, ?_⟩
       focus
         have hcq := Ext.keep hw'
         go_simp
         first
           | with_reducible rfl
       (try dsimp only [Act.put])
       (try simp only [List.setIfInBounds_toArray, List.set_cons_succ, List.set_cons_zero])
       go_big_quiet_on))
  refine wpQuiet_nil ?_
  intro wq hq
  go_upto_region 3 with fail
  have HQ := Lib.hid hq
  have D3q := Lib.hid (Cx.ext (W := w2) ⟨d3, d3'⟩ hq)
  clear d3 d3' d4 hq
  obtain ⟨d3, d3'⟩ := D3q.out
  go_region
  go_wp2_with fail
  go_ret
  have hE : Ext w wq := HX2.out.trans HQ.out
  have hbk : rowBlock (.slice (some ⟨g2, o2, none⟩) m cs) = rowBlock x.vs := by rw [HES.out]; rfl
  have hrow : RowAt w B 1 (.slice (some ⟨g2, o2, none⟩) (st ++ [u]).length cs) (st ++ [u]).length (ints (st ++ [u])) := by rw [HN.out]; exact HROW.out
  have hst := HST.out
  have hfin := H.out.stack hs HE1.out (W1 := wq) (st := st) (v1 := .slice (some ⟨g2, o2, none⟩) m cs)
    (Chg.of_ext hE) (hrow.cut HM.out.symm |>.ext hE (by decide)) (fun k hk => HX.out.i.2.2.2 k (by rw [hst]; simp [hk])) (by have := HX.out.few.2; rw [hst] at this; simp at this; omega) (.inl hbk)
  exact ⟨rfl, ⟨_, hfin.1.ext (Ext.refl _).drew, hbk⟩, hfin.2.drew⟩
end Go.Proofs.YtgahbngbpfilgaaGreat
end
section
set_option maxHeartbeats 1000000
namespace Go.Proofs.YtgahbngbpfilgaaGreat
open Go Go.RowKit
theorem OwnS.dis {P : PState} {W : World} {B b : Nat} (h : OwnS W B b P) :
  b ∉ P.bl ∧ (∀ g, rowBlock P.vfs = some g → rowBlock P.vo ≠ some g ∧ ∀ y ∈ P.fs, g ∉ y.bl) ∧ (∀ g, rowBlock P.vo = some g → ∀ y ∈ P.fs, g ∉ y.bl) := by
 obtain ⟨h0, h1⟩ := List.nodup_cons.1 h.nodup
 refine ⟨h0, fun g hg => ⟨fun e => ?_, fun y hy hm => ?_⟩, fun g hg y hy hm => ?_⟩
 ·unfold PState.bl at h1
  have h2 := (List.nodup_append.1 h1).1
  exact (List.nodup_append.1 h2).2.2 g (by simp [hg]) g (by simp [e]) rfl
 ·unfold PState.bl at h1
  exact (List.nodup_append.1 h1).2.2 g (by simp [hg]) g (List.mem_flatMap.2 ⟨y, hy, hm⟩) rfl
 ·unfold PState.bl at h1
  exact (List.nodup_append.1 h1).2.2 g (by simp [hg]) g (List.mem_flatMap.2 ⟨y, hy, hm⟩) rfl
theorem PState.mem_vfs {P : PState} {g : Nat} (h : rowBlock P.vfs = some g) : g ∈ P.bl := by unfold PState.bl; simp [h]
theorem PState.mem_vo {P : PState} {g : Nat} (h : rowBlock P.vo = some g) : g ∈ P.bl := by unfold PState.bl; simp [h]
theorem PState.mem_fs {P : PState} {g : Nat} {y : PFiber} (hy : y ∈ P.fs) (h : g ∈ y.bl) : g ∈ P.bl := by
 unfold PState.bl; exact List.mem_append.2 (.inr (List.mem_flatMap.2 ⟨y, hy, h⟩))
theorem OwnS.fiber' {W W' : World} {B b : Nat} {P : PState} {L R : List PFiber} {y y' : PFiber} {M : Nat → Prop} (h : OwnS W B b P) (hP : P.fs = L ++ y :: R)
  (hc : Chg M W W') (hM : ∀ g, M g → g < W.heap.size → rowBlock P.vfs = some g ∨ g ∈ y.bl) (hy : FiberO W' B y') (hrow : RowAt W' B 2 P.vfs (L ++ y' :: R).length ((L ++ y' :: R).flatMap fiberF))
  (hn : y'.bl.Nodup) (hs : ∀ g ∈ y'.bl, g ∈ y.bl ∨ g ∉ b :: P.bl) : OwnS W' B b { P with fs := L ++ y' :: R } := by
 have hlt := h.lt
 obtain ⟨d0, d1, d2⟩ := h.dis
 have hym : y ∈ P.fs := by rw [hP]; simp
 let A := b :: ((rowBlock P.vfs).toList ++ (rowBlock P.vo).toList ++ L.flatMap PFiber.bl)
 let C := R.flatMap PFiber.bl
 have hbl : b :: P.bl = A ++ y.bl ++ C := by
  show b :: P.bl = b :: _ ++ y.bl ++ C
  unfold PState.bl
  rw [hP, List.flatMap_append, List.flatMap_cons]
  simp [C, List.append_assoc]
 have hnd := h.nodup
 rw [hbl] at hnd
 have hbl' : b :: PState.bl { P with fs := L ++ y' :: R } = A ++ y'.bl ++ C := by
  show b :: _ = b :: _ ++ y'.bl ++ C
  unfold PState.bl
  simp only [List.flatMap_append, List.flatMap_cons]
  simp [C, List.append_assoc]
 have hltA : ∀ g ∈ A ++ C, g < W.heap.size := fun g hg => hlt g (by rw [hbl]; rcases List.mem_append.1 hg with h1 | h1 <;> simp [h1])
 have hny : ∀ g ∈ A ++ C, g ∉ y.bl := fun g hg hm => by
  rw [List.append_assoc, List.nodup_append] at hnd
  obtain ⟨_, h2, h3⟩ := hnd
  rw [List.nodup_append] at h2
  rcases List.mem_append.1 hg with h4 | h4
  ·exact h3 g h4 g (by simp [hm]) rfl
  ·exact h2.2.2 g hm g h4 rfl
 have ne : ∀ g, g ∈ A ++ C → rowBlock P.vfs ≠ some g → ¬ M g := fun g hg hv hm => by
  rcases hM g hm (hltA g hg) with h1 | h1
  ·exact hv h1
  ·exact hny g hg h1
 have hA : ∀ g, g ∈ A → g ∈ A ++ C := fun g h => List.mem_append.2 (.inl h)
 have hb : ¬ M b := ne b (hA _ (by simp [A])) (fun e => d0 (PState.mem_vfs e))
 have hz : ∀ z, z ∈ L ∨ z ∈ R → ∀ g ∈ z.bl, ¬ M g := fun z hz g hg => by
  have hzm : z ∈ P.fs := by rw [hP]; rcases hz with h1 | h1 <;> simp [h1]
  refine ne g ?_ (fun e => (d1 g e).2 z hzm hg)
  rcases hz with h1 | h1
  ·exact hA _ (List.mem_cons_of_mem _ (List.mem_append.2 (.inr (List.mem_flatMap.2 ⟨z, h1, hg⟩))))
  ·exact List.mem_append.2 (.inr (List.mem_flatMap.2 ⟨z, h1, hg⟩))
 refine ⟨h.c0.chg hc hb, h.c1.chg hc hb, h.c2.chg hc hb, h.i, hrow, h.out.chg hc (fun g e => ne g (hA _ (by simp [A, e])) (fun e2 => (d1 g e2).1 e)) (by decide), fun z hz' => ?_, h.le, ?_, ?_⟩
 ·have hz'' : z ∈ L ++ y' :: R := hz'
  rcases List.mem_append.1 hz'' with h1 | h1
  ·exact (h.fs z (by rw [hP]; simp [h1])).chg hc (hz z (.inl h1))
  ·rcases List.mem_cons.1 h1 with rfl | h1
   ·exact hy
   ·exact (h.fs z (by rw [hP]; simp [h1])).chg hc (hz z (.inr h1))
 ·have := h.few
  rw [hP] at this
  show (L ++ y' :: R).length ≤ 1000 ∧ P.out.length ≤ 1000
  simpa using this
 ·rw [hbl']
  exact nodup_swap' hnd hn fun g hg => (hs g hg).imp id fun h1 h2 => h1 (by
   rw [hbl]
   rcases List.mem_append.1 h2 with h3 | h3 <;> simp [h3])
theorem OwnS.fiber {W W' : World} {B b : Nat} {P : PState} {L R : List PFiber} {y y' : PFiber} {M : Nat → Prop} (h : OwnS W B b P) (hP : P.fs = L ++ y :: R)
  (hc : Chg M W W') (hM : ∀ g, M g → g < W.heap.size → rowBlock P.vfs = some g ∨ g ∈ y.bl) (hy : FiberO W' B y') (hrow : RowAt W' B 2 P.vfs (L ++ y' :: R).length ((L ++ y' :: R).flatMap fiberF))
  (hn : y'.bl.Nodup) (hs : ∀ g ∈ y'.bl, g ∈ y.bl ∨ W.heap.size ≤ g) : OwnS W' B b { P with fs := L ++ y' :: R } :=
 h.fiber' hP hc hM hy hrow hn fun g hg => (hs g hg).imp id fun h1 h2 => by have := h.lt g h2; omega
theorem OwnS.place {P : PState} {L R : List PFiber} {y : PFiber} {W : World} {B b : Nat} (h : OwnS W B b P) (hP : P.fs = L ++ y :: R) :
  ∃ g o cap, P.vfs = .slice (some ⟨g, o, none⟩) P.fs.length cap ∧ L.length < P.fs.length ∧ Cx W g (o + L.length * 2) y.vf ∧ Cx W g (o + L.length * 2 + 1) (.int .i64 y.caller) ∧ rowBlock P.vfs = some g := by
 have hrow := h.row
 rw [hP] at hrow
 obtain ⟨g, o, cap, e1, hbl, hc, hm, hx⟩ := RowAt.place fiberF (fun _ => rfl) hrow
 exact ⟨g, o, cap, by rw [hP]; exact e1, by rw [hP]; simp, hx 0 _ (by decide) rfl, hx 1 _ (by decide) rfl, hbl⟩
theorem OwnS.setCaller {P : PState} {L R : List PFiber} {y : PFiber} {W : World} {B b g o n cap : Nat} (h : OwnS W B b P) (hP : P.fs = L ++ y :: R) (hv : P.vfs = .slice (some ⟨g, o, none⟩) n cap) (c : Int) (hI : I64 c) :
  OwnS (W.setCell ⟨g, o + L.length * 2 + 1, none⟩ (.int .i64 c)) B b { P with fs := L ++ { y with caller := c } :: R } ∧ Chg (· ∈ P.bl) W (W.setCell ⟨g, o + L.length * 2 + 1, none⟩ (.int .i64 c)) := by
 obtain ⟨d0, d1, d2⟩ := h.dis
 have hym : y ∈ P.fs := by rw [hP]; simp
 have hrow := h.row
 rw [hP, hv] at hrow
 obtain ⟨g', o', cap', e1, hbl, _⟩ := RowAt.place fiberF (fun _ => rfl) hrow
 simp only [Value.slice.injEq, Option.some.injEq, Addr.mk.injEq] at e1
 obtain ⟨⟨rfl, rfl, -⟩, -, rfl⟩ := e1
 rw [← hv] at hbl
 have hy := h.fs y hym
 have hCh := chg_one W g (o + L.length * 2 + 1) (.int .i64 c)
 have hyc := hy.chg hCh (fun k hk e => by subst e; exact (d1 _ hbl).2 y hym hk)
 refine ⟨h.fiber hP hCh (fun k hk _ => .inl (by rw [hbl, show k = g from hk])) ⟨hI, hyc.row, hyc.fr, hyc.few⟩ ?_ ?_ ?_, hCh.mono (fun k _ hk => by rw [show k = g from hk]; exact PState.mem_vfs hbl)⟩
 ·rw [hv]
  exact hrow.storeAt fiberF (fun _ => rfl) (by decide) rfl
 ·have h1 := (List.nodup_cons.1 h.nodup).2
  unfold PState.bl at h1
  rw [hP, List.flatMap_append, List.flatMap_cons] at h1
  exact (List.nodup_append.1 (List.nodup_append.1 (List.nodup_append.1 h1).2.1).2.1).1
 ·exact fun k hk => .inl hk
theorem OwnS.setFrames' {P : PState} {L R : List PFiber} {y y' : PFiber} {W W1 : World} {B b g o n cap : Nat} (h : OwnS W B b P) (hP : P.fs = L ++ y :: R) (hv : P.vfs = .slice (some ⟨g, o, none⟩) n cap)
  (hc : Chg (fun k => rowBlock y.vf = some k) W W1) (hcl : y'.caller = y.caller) (hy : FiberO W1 B y') (hn : y'.bl.Nodup) (hs : ∀ g ∈ y'.bl, g ∈ y.bl ∨ g ∉ b :: P.bl) :
  OwnS (W1.setCell ⟨g, o + L.length * 2, none⟩ y'.vf) B b { P with fs := L ++ y' :: R } ∧ Chg (· ∈ P.bl) W (W1.setCell ⟨g, o + L.length * 2, none⟩ y'.vf) := by
 obtain ⟨d0, d1, d2⟩ := h.dis
 have hym : y ∈ P.fs := by rw [hP]; simp
 have hrow := h.row
 rw [hP, hv] at hrow
 obtain ⟨g', o', cap', e1, hbl, _⟩ := RowAt.place fiberF (fun _ => rfl) hrow
 simp only [Value.slice.injEq, Option.some.injEq, Addr.mk.injEq] at e1
 obtain ⟨⟨rfl, rfl, -⟩, -, rfl⟩ := e1
 rw [← hv] at hbl
 have hgs : g < W.heap.size := h.lt g (List.mem_cons_of_mem _ (PState.mem_vfs hbl))
 have hyv : ∀ k, rowBlock y.vf = some k → k ∈ y.bl := fun k hk => by unfold PFiber.bl; simp [hk]
 have hgy : rowBlock y.vf ≠ some g := fun e => (d1 g hbl).2 y hym (hyv g e)
 have hCh : Chg (fun k => rowBlock y.vf = some k ∨ k = g) W (W1.setCell ⟨g, o + L.length * 2, none⟩ y'.vf) := (hc.mono (fun _ _ e => .inl e)).setCell (p := ⟨g, o + L.length * 2, none⟩) (.inl (.inr rfl)) _
 refine ⟨h.fiber' hP hCh (fun k hk _ => by rcases hk with h1 | h1; exact .inr (hyv k h1); exact .inl (by rw [h1]; exact hbl)) (hy.chg (chg_one W1 g (o + L.length * 2) y'.vf) fun k hk e => ?_) ?_ hn hs, hCh.mono (fun k _ hk => ?_)⟩
 ·subst e
  rcases hs k hk with h1 | h1
  ·exact (d1 k hbl).2 y hym h1
  ·exact h1 (List.mem_cons_of_mem _ (PState.mem_vfs hbl))
 ·have hrow1 := hrow.chg hc (fun k hk e => by rw [← hv, hbl] at hk; cases hk; exact hgy e) (by decide)
  rw [hv]
  have := hrow1.storeAt (y' := y') (r := 0) (u := y'.vf) fiberF (fun _ => rfl) (by decide) (by unfold fiberF; rw [hcl]; rfl)
  rwa [Nat.add_zero] at this
 ·rcases hk with h1 | h1
  ·exact PState.mem_fs hym (hyv k h1)
  ·rw [h1]; exact PState.mem_vfs hbl
theorem OwnS.setFrames {P : PState} {L R : List PFiber} {y y' : PFiber} {W W1 : World} {B b g o n cap : Nat} (h : OwnS W B b P) (hP : P.fs = L ++ y :: R) (hv : P.vfs = .slice (some ⟨g, o, none⟩) n cap)
  (hc : Chg (fun k => rowBlock y.vf = some k) W W1) (hcl : y'.caller = y.caller) (hy : FiberO W1 B y') (hn : y'.bl.Nodup) (hs : ∀ g ∈ y'.bl, g ∈ y.bl ∨ W.heap.size ≤ g) :
  OwnS (W1.setCell ⟨g, o + L.length * 2, none⟩ y'.vf) B b { P with fs := L ++ y' :: R } ∧ Chg (· ∈ P.bl) W (W1.setCell ⟨g, o + L.length * 2, none⟩ y'.vf) :=
 h.setFrames' hP hv hc hcl hy hn fun g hg => (hs g hg).imp id fun h1 h2 => by have := h.lt g h2; omega
theorem OwnS.setNow {P : PState} {W : World} {B b : Nat} (h : OwnS W B b P) (n : Int) (hI : I64 n) :
  OwnS (W.setCell ⟨b, 1, none⟩ (.int .i64 n)) B b { P with now := n } := by
 have d0 := h.dis.1
 have hCh := chg_one W b 1 (.int .i64 n)
 have ne : ∀ g ∈ P.bl, ¬ g = b := fun g hg e => d0 (e ▸ hg)
 exact ⟨h.c0.other (.inr (by decide)) _, h.c1.set _, h.c2.other (.inr (by decide)) _, ⟨hI, h.i.2⟩, h.row.chg hCh (fun g e => ne g (PState.mem_vfs e)) (by decide), h.out.chg hCh (fun g e => ne g (PState.mem_vo e)) (by decide),
  fun y hy => (h.fs y hy).chg hCh (fun g hg => ne g (PState.mem_fs hy hg)), h.le, h.few, h.nodup⟩
theorem OwnS.setOut {P : PState} {W W1 : World} {B b : Nat} (h : OwnS W B b P) {out : List Int} {v1 : Value} (hc : Chg (fun k => rowBlock P.vo = some k) W W1) (hr : RowAt W1 B 1 v1 out.length (ints out)) (hI : ∀ k ∈ out, I64 k) (hl : out.length ≤ 1000)
  (hv : rowBlock v1 = rowBlock P.vo ∨ ∀ k, rowBlock v1 = some k → W.heap.size ≤ k) : OwnS (W1.setCell ⟨b, 2, none⟩ v1) B b { P with out := out, vo := v1 } ∧ Chg (· ∈ b :: P.bl) W (W1.setCell ⟨b, 2, none⟩ v1) := by
 obtain ⟨d0, d1, d2⟩ := h.dis
 have hlt := h.lt
 have hCh : Chg (fun k => rowBlock P.vo = some k ∨ k = b) W (W1.setCell ⟨b, 2, none⟩ v1) := (hc.mono (fun _ _ e => .inl e)).setCell (p := ⟨b, 2, none⟩) (.inl (.inr rfl)) _
 have hbo : ¬ rowBlock P.vo = some b := fun e => d0 (PState.mem_vo e)
 refine ⟨⟨(h.c0.chg hc hbo).other (.inr (by decide)) _, (h.c1.chg hc hbo).other (.inr (by decide)) _, (h.c2.chg hc hbo).set _, ⟨h.i.1, hI⟩, h.row.chg hCh (fun g e => ?_) (by decide), hr.chg (chg_one W1 b 2 v1) (fun g e => ?_) (by decide), fun y hy => (h.fs y hy).chg hCh (fun g hg => ?_), h.le, ⟨h.few.1, hl⟩, ?_⟩, hCh.mono (fun k _ hk => ?_)⟩
 ·rintro (h1 | h1)
  ·exact (d1 g e).1 h1
  ·subst h1; exact d0 (PState.mem_vfs e)
 ·rintro rfl
  rcases hv with h1 | h1
  ·exact hbo (h1 ▸ e)
  ·have := h1 g e
   have := h.c0.lt
   omega
 ·rintro (h1 | h1)
  ·exact d2 g h1 y hy hg
  ·subst h1; exact d0 (PState.mem_fs hy hg)
 ·have hnd := h.nodup
  have e1 : b :: P.bl = (b :: (rowBlock P.vfs).toList) ++ (rowBlock P.vo).toList ++ P.fs.flatMap PFiber.bl := by unfold PState.bl; simp
  have e2 : b :: PState.bl { P with out := out, vo := v1 } = (b :: (rowBlock P.vfs).toList) ++ (rowBlock v1).toList ++ P.fs.flatMap PFiber.bl := by unfold PState.bl; simp
  rw [e2]
  rw [e1] at hnd hlt
  refine nodup_swap hnd (by cases rowBlock v1 <;> simp) (fun g hg => ?_) (fun g hg => hlt g (by rcases List.mem_append.1 hg with h1 | h1; exact List.mem_append.2 (.inl (List.mem_append.2 (.inl h1))); exact List.mem_append.2 (.inr h1)))
  have hg' : rowBlock v1 = some g := by simpa using hg
  rcases hv with h1 | h1
  ·exact .inl (by rw [← h1]; exact hg)
  ·exact .inr (h1 g hg')
 ·rcases hk with h1 | h1
  ·exact List.mem_cons_of_mem _ (PState.mem_vo h1)
  ·rw [h1]; exact List.mem_cons_self
theorem OwnS.addFiber {P : PState} {W W1 : World} {B b : Nat} {y : PFiber} (h : OwnS W B b P) {v1 : Value} (hc : Chg (fun k => rowBlock P.vfs = some k) W W1) (hr : RowAt W1 B 2 v1 (P.fs ++ [y]).length ((P.fs ++ [y]).flatMap fiberF)) (hy : FiberO W1 B y) (hl : P.fs.length < 1000)
  (hv : rowBlock v1 = rowBlock P.vfs ∨ ∀ k, rowBlock v1 = some k → W.heap.size ≤ k) (hn : y.bl.Nodup) (hf : ∀ k ∈ y.bl, W.heap.size ≤ k ∧ rowBlock v1 ≠ some k) :
  OwnS (W1.setCell ⟨b, 0, none⟩ v1) B b { P with fs := P.fs ++ [y], vfs := v1 } ∧ Chg (· ∈ b :: P.bl) W (W1.setCell ⟨b, 0, none⟩ v1) := by
 obtain ⟨d0, d1, d2⟩ := h.dis
 have hlt := h.lt
 have hCh : Chg (fun k => rowBlock P.vfs = some k ∨ k = b) W (W1.setCell ⟨b, 0, none⟩ v1) := (hc.mono (fun _ _ e => .inl e)).setCell (p := ⟨b, 0, none⟩) (.inl (.inr rfl)) _
 have hbo : ¬ rowBlock P.vfs = some b := fun e => d0 (PState.mem_vfs e)
 have hbs := h.c0.lt
 refine ⟨⟨(h.c0.chg hc hbo).set _, (h.c1.chg hc hbo).other (.inr (by decide)) _, (h.c2.chg hc hbo).other (.inr (by decide)) _, h.i, hr.chg (chg_one W1 b 0 v1) (fun g e => ?_) (by decide), h.out.chg hCh (fun g e => ?_) (by decide), fun z hz => ?_, h.le, ⟨?_, h.few.2⟩, ?_⟩, hCh.mono (fun k _ hk => ?_)⟩
 ·rintro rfl
  rcases hv with h1 | h1
  ·exact hbo (h1 ▸ e)
  ·have := h1 g e; omega
 ·rintro (h1 | h1)
  ·exact (d1 g h1).1 e
  ·subst h1; exact d0 (PState.mem_vo e)
 ·have hz' : z ∈ P.fs ++ [y] := hz
  rcases List.mem_append.1 hz' with h1 | h1
  ·refine (h.fs z h1).chg hCh (fun g hg => ?_)
   rintro (h2 | h2)
   ·exact (d1 g h2).2 z h1 hg
   ·subst h2; exact d0 (PState.mem_fs h1 hg)
  ·rw [List.mem_singleton] at h1
   subst h1
   exact hy.chg (chg_one W1 b 0 v1) (fun g hg e => by subst e; have := (hf _ hg).1; omega)
 ·show (P.fs ++ [y]).length ≤ 1000
  simp; omega
 ·have hnd := h.nodup
  have e1 : b :: P.bl = [b] ++ (rowBlock P.vfs).toList ++ ((rowBlock P.vo).toList ++ P.fs.flatMap PFiber.bl) := by unfold PState.bl; simp
  have e2 : b :: PState.bl { P with fs := P.fs ++ [y], vfs := v1 } = ([b] ++ (rowBlock v1).toList ++ ((rowBlock P.vo).toList ++ P.fs.flatMap PFiber.bl)) ++ y.bl := by unfold PState.bl; simp
  rw [e2]
  rw [e1] at hnd hlt
  rw [List.nodup_append]
  refine ⟨nodup_swap (n := W.heap.size) hnd (by cases rowBlock v1 <;> simp) (fun g hg => ?_) (fun g hg => hlt g (by rcases List.mem_append.1 hg with h1 | h1; exact List.mem_append.2 (.inl (List.mem_append.2 (.inl h1))); exact List.mem_append.2 (.inr h1))), hn, fun a ha c hc' e => ?_⟩
  ·have hg' : rowBlock v1 = some g := by simpa using hg
   rcases hv with h1 | h1
   ·exact .inl (by rw [← h1]; exact hg)
   ·exact .inr (h1 g hg')
  ·subst e
   obtain ⟨f1, f2⟩ := hf a hc'
   rcases List.mem_append.1 ha with h1 | h1
   ·rcases List.mem_append.1 h1 with h2 | h2
    ·have := hlt a (List.mem_append.2 (.inl (List.mem_append.2 (.inl h2)))); omega
    ·exact f2 (by simpa using h2)
   ·have := hlt a (List.mem_append.2 (.inr h1)); omega
 ·rcases hk with h1 | h1
  ·exact List.mem_cons_of_mem _ (PState.mem_vfs h1)
  ·rw [h1]; exact List.mem_cons_self
end Go.Proofs.YtgahbngbpfilgaaGreat
end
