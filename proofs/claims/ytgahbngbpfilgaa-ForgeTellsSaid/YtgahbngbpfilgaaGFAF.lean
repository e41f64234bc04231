/- Merged texts: contracts and plain facts, one part behind another; each part begins with what it says. -/
import Derived.Test.YtgahbngbpfilgaaGFAB
import Derived.Test.YtgahbngbpfilgaaGFAD
import Derived.Test.YtgahbngbpfilgaaGFAE
import Derived.LoopIn
import Derived.LoopNIn
import Derived.OwnWalkIn
import Derived.RangeFuncBound
import Derived.RangeFuncCalls
import Derived.RangeFuncLeaves
import Derived.RangeFuncNested
import Derived.Shelf.Abstract
import Derived.Shelf.RegionOpen
import Derived.TacticsInMore
section
/- Plain data of states: which are right, and the error. No program in sight; no condition. -/
namespace Go.Proofs.Ytgahbngbpfilgaa

/-- The heights of a program's function. -/
def hgt (p : List GFunc) (f : Int) : List Int := (hts p (p.getD f.toNat default).code).getD []
def funcOf (p : List GFunc) (f : Int) : GFunc := p.getD f.toNat default
def frameB (p : List GFunc) (x : GFrame) : Bool :=
  decide (0 ≤ x.func ∧ x.func < p.length) && decide ((x.locals.length : Int) = (funcOf p x.func).locals) && decide (0 ≤ x.at_ ∧ x.at_ < (funcOf p x.func).code.length) && decide (0 ≤ (hgt p x.func).getD x.at_.toNat 0)
/-- The op ahead of a frame's next one. -/
def opBack (p : List GFunc) (x : GFrame) : GOp := (funcOf p x.func).code.getD (x.at_ - 1).toNat default
def waitB (p : List GFunc) (x : GFrame) (kind a : Int) : Bool :=
  !decide (x.at_ = 0) && decide ((x.stack.length : Int) = (hgt p x.func).getD x.at_.toNat 0 - 1) && (decide ((opBack p x).kind = kind) && (!decide (kind = 11) || decide ((opBack p x).a = a)))
def fullB (p : List GFunc) (x : GFrame) : Bool := decide ((x.stack.length : Int) = (hgt p x.func).getD x.at_.toNat 0)
def allK (n : Nat) (g : Nat → Bool) : Bool := decide (∀ k, k < n → g k = true)
theorem allK_true {n : Nat} {g : Nat → Bool} (h : ∀ k, k < n → g k = true) : allK n g = true := decide_eq_true h
theorem allK_of {n : Nat} {g : Nat → Bool} (h : allK n g = true) : ∀ k, k < n → g k = true := of_decide_eq_true h
def freshB (p : List GFunc) (f : GFiber) : Bool :=
  decide (f.frames.length = 1) && decide ((f.frames.getD 0 default).at_ = 0) && decide ((funcOf p (f.frames.getD 0 default).func).args = 1) && decide ((f.frames.getD 0 default).stack.length = 0) && allK (f.frames.getD 0 default).locals.length (fun k => decide ((f.frames.getD 0 default).locals.getD k 0 = 0))
/-- Is a fiber's frame fine, and does it call the one above it? -/
def onB (p : List GFunc) (l : List GFrame) (k : Nat) : Bool :=
  frameB p (l.getD k default) && (!decide (k + 1 < l.length) || (decide (0 ≤ (l.getD (k + 1) default).func ∧ (l.getD (k + 1) default).func < p.length) && waitB p (l.getD k default) 11 (l.getD (k + 1) default).func))
def topB (p : List GFunc) (f : GFiber) (on runs : Bool) (x : GFrame) : Bool :=
  if runs then fullB p x else if on then waitB p x 14 0 else decide (f.caller = -1) && (freshB p f || waitB p x 15 0)
def fiberB (p : List GFunc) (f : GFiber) (on runs : Bool) : Bool :=
  if f.frames.length = 0 then !on && decide (f.caller = -1) else allK f.frames.length (onB p f.frames) && topB p f on runs (f.frames.getD (f.frames.length - 1) default)

/-- The fibers that go on: none where they go round. -/
def callerOf (fs : List GFiber) (n : Int) : Int := (fs.getD n.toNat default).caller
def lineGo (fs : List GFiber) : Nat → Int → List Int → Option (List Int)
  | 0, _, _ => none
  | k + 1, n, out => if n < 0 then some out else if n ∈ out then none else lineGo fs k (callerOf fs n) (out ++ [n])
def lineS (s : GState) : Option (List Int) := lineGo s.fibers (s.fibers.length + 2) s.now []
def lineEnd (l : List Int) : Bool := decide (l.length = 0) || decide (l.getD (l.length - 1) 0 = 0)

/-- A fiber of a state, its number and the line given. -/
def fibK (p : List GFunc) (s : GState) (line : List Int) (k : Nat) : Bool :=
  fiberB p (s.fibers.getD k default) (decide ((k : Int) ∈ line)) (decide ((k : Int) = s.now)) && !(decide (k = 0) && !decide ((0 : Int) ∈ line) && decide (0 < (s.fibers.getD 0 default).frames.length))
def callersB (s : GState) (k : Nat) : Bool := decide (-1 ≤ (s.fibers.getD k default).caller ∧ (s.fibers.getD k default).caller ≤ (s.fibers.length : Int) - 1)
def framesFew (s : GState) (k : Nat) : Bool := decide ((s.fibers.getD k default).frames.length ≤ 6)
def lineErr (p : List GFunc) (s : GState) : Int :=
  match lineS s with
  | none => 1
  | some l => if lineEnd l = false then 1 else if s.now = -1 ∧ 0 < (s.fibers.getD 0 default).frames.length then 1 else if allK s.fibers.length (fibK p s l) = false then 1 else 0
/-- A state's error. -/
def stateErr (p : List GFunc) (s : GState) : Int :=
  if progErr p ≠ 0 then progErr p else if 5 < s.fibers.length ∨ 30 < s.out.length then 2 else if allK s.fibers.length (framesFew s) = false then 2 else if s.fibers.length = 0 then 5
  else if ¬ (-1 ≤ s.now ∧ s.now ≤ (s.fibers.length : Int) - 1) then 3 else if allK s.fibers.length (callersB s) = false then 3 else lineErr p s

/-- The line so far: distinct numbers of fibers. -/
structure LineOn (fs : List GFiber) (n : Int) (out : List Int) : Prop where
  now : -1 ≤ n ∧ n ≤ (fs.length : Int) - 1
  nodup : out.Nodup
  range : ∀ x ∈ out, 0 ≤ x ∧ x < fs.length
theorem nodup_len : ∀ (m : Nat) (out : List Int), out.Nodup → (∀ x ∈ out, 0 ≤ x ∧ x < m) → out.length ≤ m
  | 0, out, _, h => by
    cases out with
    | nil => simp
    | cons x l => have := h x (by simp); omega
  | m + 1, out, hn, h => by
    have h1 := nodup_len m (out.filter (fun x => decide (x ≠ (m : Int)))) (hn.filter _) (fun x hx => by
      obtain ⟨hx1, hx2⟩ := List.mem_filter.1 hx
      have := h x hx1
      have : x ≠ (m : Int) := by simpa using hx2
      omega)
    have h2 : out.length ≤ (out.filter (fun x => decide (x ≠ (m : Int)))).length + 1 := by
      clear h h1
      induction out with
      | nil => simp
      | cons x l ih =>
        obtain ⟨hx, hl⟩ := List.nodup_cons.1 hn
        by_cases e : x = (m : Int)
        · have : l.filter (fun x => decide (x ≠ (m : Int))) = l := List.filter_eq_self.2 (fun y hy => by
            have : y ≠ (m : Int) := fun e2 => hx (by rw [e, ← e2]; exact hy)
            simpa using this)
          rw [List.filter_cons_of_neg (by simp [e]), this]
          simp
        · rw [List.filter_cons_of_pos (by simp [e])]
          have := ih hl
          simp only [List.length_cons]
          omega
    omega
theorem LineOn.len {fs : List GFiber} {n : Int} {out : List Int} (h : LineOn fs n out) : out.length ≤ fs.length := nodup_len _ _ h.nodup h.range
theorem LineOn.next {fs : List GFiber} {n : Int} {out : List Int} (h : LineOn fs n out) (h0 : 0 ≤ n) (hn : n ∉ out) (hc : ∀ k, k < fs.length → -1 ≤ (fs.getD k default).caller ∧ (fs.getD k default).caller ≤ (fs.length : Int) - 1) : LineOn fs (callerOf fs n) (out ++ [n]) := by
  have := h.now
  refine ⟨hc _ (by omega), ?_, fun x hx => ?_⟩
  · rw [List.nodup_append]
    exact ⟨h.nodup, by simp, fun a ha b hb e => by rw [List.mem_singleton] at hb; subst hb; subst e; exact hn ha⟩
  · rcases List.mem_append.1 hx with h1 | h1
    · exact h.range x h1
    · rw [List.mem_singleton] at h1; omega
end Go.Proofs.Ytgahbngbpfilgaa
end
section
/- A state in the call's own memory: rows in pairwise different blocks. No condition. -/
set_option maxHeartbeats 400000
namespace Go.Proofs.Ytgahbngbpfilgaa
open Go Go.RowKit

structure PFrame where
  f : GFrame
  vl : Value
  vs : Value
structure PFiber where
  fr : List PFrame
  caller : Int
  vf : Value
structure PState where
  fs : List PFiber
  now : Int
  out : List Int
  vfs : Value
  vo : Value
def PFiber.g (y : PFiber) : GFiber := ⟨y.fr.map PFrame.f, y.caller⟩
def PState.g (P : PState) : GState := ⟨P.fs.map PFiber.g, P.now, P.out⟩
def frameF (x : PFrame) : List Value := [.int .i64 x.f.func, .int .i64 x.f.at_, x.vl, x.vs]
def fiberF (y : PFiber) : List Value := [y.vf, .int .i64 y.caller]
/-- The blocks of its rows. -/
def PFrame.bl (x : PFrame) : List Nat := (rowBlock x.vl).toList ++ (rowBlock x.vs).toList
def PFiber.bl (y : PFiber) : List Nat := (rowBlock y.vf).toList ++ y.fr.flatMap PFrame.bl
def PState.bl (P : PState) : List Nat := (rowBlock P.vfs).toList ++ (rowBlock P.vo).toList ++ P.fs.flatMap PFiber.bl

structure FrameO (W : World) (B : Nat) (x : PFrame) : Prop where
  i : I64 x.f.func ∧ I64 x.f.at_ ∧ (∀ n ∈ x.f.locals, I64 n) ∧ (∀ n ∈ x.f.stack, I64 n)
  l : RowAt W B 1 x.vl x.f.locals.length (ints x.f.locals)
  s : RowAt W B 1 x.vs x.f.stack.length (ints x.f.stack)
  few : x.f.locals.length ≤ 1000 ∧ x.f.stack.length ≤ 1000
structure FiberO (W : World) (B : Nat) (y : PFiber) : Prop where
  i : I64 y.caller
  row : RowAt W B 4 y.vf y.fr.length (y.fr.flatMap frameF)
  fr : ∀ x ∈ y.fr, FrameO W B x
  few : y.fr.length ≤ 1000
structure OwnS (W : World) (B b : Nat) (P : PState) : Prop where
  c0 : Cx W b 0 P.vfs
  c1 : Cx W b 1 (.int .i64 P.now)
  c2 : Cx W b 2 P.vo
  i : I64 P.now ∧ ∀ n ∈ P.out, I64 n
  row : RowAt W B 2 P.vfs P.fs.length (P.fs.flatMap fiberF)
  out : RowAt W B 1 P.vo P.out.length (ints P.out)
  fs : ∀ y ∈ P.fs, FiberO W B y
  le : B ≤ b
  few : P.fs.length ≤ 1000 ∧ P.out.length ≤ 1000
  nodup : (b :: P.bl).Nodup

theorem FrameO.chg {M : Nat → Prop} {W W' : World} {B : Nat} {x : PFrame} (h : FrameO W B x) (hc : Chg M W W') (hM : ∀ g ∈ x.bl, ¬ M g) : FrameO W' B x :=
  ⟨h.i, h.l.chg hc (fun g e => hM g (by unfold PFrame.bl; simp [e])) (by decide), h.s.chg hc (fun g e => hM g (by unfold PFrame.bl; simp [e])) (by decide), h.few⟩
theorem FiberO.chg {M : Nat → Prop} {W W' : World} {B : Nat} {y : PFiber} (h : FiberO W B y) (hc : Chg M W W') (hM : ∀ g ∈ y.bl, ¬ M g) : FiberO W' B y :=
  ⟨h.i, h.row.chg hc (fun g e => hM g (by unfold PFiber.bl; simp [e])) (by decide), fun x hx => (h.fr x hx).chg hc (fun g hg => hM g (by unfold PFiber.bl; exact List.mem_append.2 (.inr (List.mem_flatMap.2 ⟨x, hx, hg⟩)))), h.few⟩
theorem OwnS.chg {M : Nat → Prop} {W W' : World} {B b : Nat} {P : PState} (h : OwnS W B b P) (hc : Chg M W W') (hb : ¬ M b) (hM : ∀ g ∈ P.bl, ¬ M g) : OwnS W' B b P :=
  ⟨h.c0.chg hc hb, h.c1.chg hc hb, h.c2.chg hc hb, h.i, h.row.chg hc (fun g e => hM g (by unfold PState.bl; simp [e])) (by decide), h.out.chg hc (fun g e => hM g (by unfold PState.bl; simp [e])) (by decide),
    fun y hy => (h.fs y hy).chg hc (fun g hg => hM g (by unfold PState.bl; exact List.mem_append.2 (.inr (List.mem_flatMap.2 ⟨y, hy, hg⟩)))), h.le, h.few, h.nodup⟩
theorem OwnS.ext {W W' : World} {B b : Nat} {P : PState} (h : OwnS W B b P) (he : Ext W W') : OwnS W' B b P := h.chg (M := fun _ => False) (Chg.of_ext he) (fun h => h) (fun _ _ h => h)

/-- Its frames, its fibers, the state as readings. -/
theorem FrameO.ints {W : World} {B : Nat} {x : PFrame} (h : FrameO W B x) (S : Nat → Prop) (hS : ∀ g, B ≤ g → S g) : Ints W S x.vl x.f.locals ∧ Ints W S x.vs x.f.stack := by
  have f := h.few
  exact ⟨Ints.of_row (by rw [flatMap_intF]; exact h.l) (by omega) h.i.2.2.1 S (fun b hb _ => hS b hb), Ints.of_row (by rw [flatMap_intF]; exact h.s) (by omega) h.i.2.2.2 S (fun b hb _ => hS b hb)⟩
theorem Sl.map' {α β : Type} {E : Nat → Nat → β → Prop} {sz bytes : Nat} {v : Value} {l : List α} (f : α → β) (h : Sl (fun b o y => E b o (f y)) sz bytes v l) : Sl E sz bytes v (l.map f) := by
  obtain ⟨a, cap, rfl, h1, h2, h3⟩ := h
  refine ⟨a, cap, by rw [List.length_map], by rw [List.length_map]; exact h1, by rw [List.length_map]; exact h2, fun i hi => ?_⟩
  obtain ⟨b, o, e, h4⟩ := h3 i (by rwa [List.length_map] at hi)
  exact ⟨b, o, e, by rw [List.getElem_map]; exact h4⟩
theorem FiberO.frames {W : World} {B : Nat} {y : PFiber} (h : FiberO W B y) (S : Nat → Prop) (hS : ∀ g, B ≤ g → S g) : Frames W S y.vf (y.fr.map PFrame.f) := by
  have f := h.few
  refine Sl.map' PFrame.f (Sl.of_row frameF h.row (fun _ => rfl) (by omega) fun b o x hb _ hx hc => ?_)
  have hx' := h.fr x hx
  exact ⟨⟨hS b hb, hc 0 _ rfl, hx'.i.1⟩, ⟨hS b hb, hc 1 _ rfl, hx'.i.2.1⟩, ⟨_, hc 2 _ rfl, (hx'.ints S hS).1⟩, _, hc 3 _ rfl, (hx'.ints S hS).2⟩
theorem OwnS.state {W : World} {B b : Nat} {P : PState} (h : OwnS W B b P) (S : Nat → Prop) (hS : ∀ g, B ≤ g → S g) : StateV W S (.agg #[P.vfs, .int .i64 P.now, P.vo]) P.g := by
  have f := h.few
  refine ⟨_, _, rfl, Sl.map' PFiber.g (Sl.of_row fiberF h.row (fun _ => rfl) (by omega) fun b o y hb _ hy hc => ?_), h.i.1, Ints.of_row (by rw [flatMap_intF]; exact h.out) (show P.out.length * 8 ≤ _ by omega) h.i.2 S (fun b hb _ => hS b hb)⟩
  have hy' := h.fs y hy
  exact ⟨⟨_, hc 0 _ rfl, hy'.frames S hS⟩, hS b hb, hc 1 _ rfl, hy'.i⟩
end Go.Proofs.Ytgahbngbpfilgaa
end
section
/- A state in the call's own memory: what a change of one frame leaves. No condition. -/
set_option maxHeartbeats 400000
namespace Go.Proofs.Ytgahbngbpfilgaa
open Go Go.RowKit

theorem nodup_swap {A X X' C : List Nat} {n : Nat} (h : (A ++ X ++ C).Nodup) (hX : X'.Nodup) (hs : ∀ g ∈ X', g ∈ X ∨ n ≤ g) (hlt : ∀ g ∈ A ++ C, g < n) : (A ++ X' ++ C).Nodup := by
  rw [List.append_assoc, List.nodup_append] at h ⊢
  obtain ⟨hA, hXC, hd⟩ := h
  rw [List.nodup_append] at hXC ⊢
  obtain ⟨_, hC, hd2⟩ := hXC
  refine ⟨hA, ⟨hX, hC, fun a ha c hc e => ?_⟩, fun a ha c hc e => ?_⟩
  · rcases hs a ha with h1 | h1
    · exact hd2 a h1 c hc e
    · have := hlt c (List.mem_append.2 (.inr hc))
      omega
  · rcases List.mem_append.1 hc with h1 | h1
    · rcases hs c h1 with h2 | h2
      · exact hd a ha c (List.mem_append.2 (.inl h2)) e
      · have := hlt a (List.mem_append.2 (.inl ha))
        omega
    · exact hd a ha c (List.mem_append.2 (.inr h1)) e

theorem nodup_swap' {A X X' C : List Nat} (h : (A ++ X ++ C).Nodup) (hX : X'.Nodup) (hs : ∀ g ∈ X', g ∈ X ∨ g ∉ A ++ C) : (A ++ X' ++ C).Nodup := by
  rw [List.append_assoc, List.nodup_append] at h ⊢
  obtain ⟨hA, hXC, hd⟩ := h
  rw [List.nodup_append] at hXC ⊢
  obtain ⟨_, hC, hd2⟩ := hXC
  refine ⟨hA, ⟨hX, hC, fun a ha c hc e => ?_⟩, fun a ha c hc e => ?_⟩
  · rcases hs a ha with h1 | h1
    · exact hd2 a h1 c hc e
    · exact h1 (List.mem_append.2 (.inr (e ▸ hc)))
  · rcases List.mem_append.1 hc with h1 | h1
    · rcases hs c h1 with h2 | h2
      · exact hd a ha c (List.mem_append.2 (.inl h2)) e
      · exact h2 (List.mem_append.2 (.inl (e ▸ ha)))
    · exact hd a ha c (List.mem_append.2 (.inr h1)) e

theorem RowAt.lt2 {w : World} {base size : Nat} {v : Value} {n : Nat} {xs : List Value} (h : RowAt w base size v n xs) (hs : 0 < size) : ∀ g, rowBlock v = some g → g < w.heap.size := by
  obtain ⟨_, a, cap, rfl, _, _, h3⟩ := h
  intro g hg
  rcases h3 with h0 | ⟨g', o, rfl, _, _, ht⟩
  · subst h0; cases a <;> simp [rowBlock] at hg
  · by_cases hc : cap = 0
    · subst hc; simp [rowBlock] at hg
    · rw [rowBlock_some g' o n cap hc] at hg
      cases hg
      obtain ⟨v, hv⟩ := Option.isSome_iff_exists.1 (ht 0 (Nat.mul_pos (by omega) hs)).1
      exact lt_of_cell hv

theorem FrameO.lt {W : World} {B : Nat} {x : PFrame} (h : FrameO W B x) : ∀ g ∈ x.bl, g < W.heap.size := by
  intro g hg
  unfold PFrame.bl at hg
  rcases List.mem_append.1 hg with h1 | h1
  · exact h.l.lt2 (by decide) g (by simpa using h1)
  · exact h.s.lt2 (by decide) g (by simpa using h1)
theorem FiberO.lt {W : World} {B : Nat} {y : PFiber} (h : FiberO W B y) : ∀ g ∈ y.bl, g < W.heap.size := by
  intro g hg
  unfold PFiber.bl at hg
  rcases List.mem_append.1 hg with h1 | h1
  · exact h.row.lt2 (by decide) g (by simpa using h1)
  · obtain ⟨x, hx, h2⟩ := List.mem_flatMap.1 h1
    exact (h.fr x hx).lt g h2
theorem OwnS.lt {W : World} {B b : Nat} {P : PState} (h : OwnS W B b P) : ∀ g ∈ b :: P.bl, g < W.heap.size := by
  intro g hg
  rcases List.mem_cons.1 hg with rfl | hg
  · exact h.c0.lt
  · unfold PState.bl at hg
    rcases List.mem_append.1 hg with h1 | h1
    · rcases List.mem_append.1 h1 with h2 | h2
      · exact h.row.lt2 (by decide) g (by simpa using h2)
      · exact h.out.lt2 (by decide) g (by simpa using h2)
    · obtain ⟨y, hy, h2⟩ := List.mem_flatMap.1 h1
      exact (h.fs y hy).lt g h2

/-- One frame is another one, in its row and in its own rows; all else stays. -/
theorem OwnS.frame {W W' : World} {B b : Nat} {P : PState} {L R : List PFiber} {F G : List PFrame} {y : PFiber} {x x' : PFrame} {M : Nat → Prop} (h : OwnS W B b P) (hP : P.fs = L ++ y :: R) (hy : y.fr = F ++ x :: G)
    (hc : Chg M W W') (hM : ∀ g, M g → g < W.heap.size → rowBlock y.vf = some g ∨ g ∈ x.bl) (hx : FrameO W' B x') (hrow : RowAt W' B 4 y.vf (F ++ x' :: G).length ((F ++ x' :: G).flatMap frameF))
    (hn : x'.bl.Nodup) (hs : ∀ g ∈ x'.bl, g ∈ x.bl ∨ W.heap.size ≤ g) :
    OwnS W' B b { P with fs := L ++ { y with fr := F ++ x' :: G } :: R } := by
  have hlt := h.lt
  have hyO := h.fs y (by rw [hP]; simp)
  let A := b :: ((rowBlock P.vfs).toList ++ (rowBlock P.vo).toList ++ L.flatMap PFiber.bl ++ (rowBlock y.vf).toList ++ F.flatMap PFrame.bl)
  let C := G.flatMap PFrame.bl ++ R.flatMap PFiber.bl
  have hbl : b :: P.bl = A ++ x.bl ++ C := by
    show b :: P.bl = b :: _ ++ x.bl ++ C
    unfold PState.bl
    rw [hP, List.flatMap_append, List.flatMap_cons]
    have : y.bl = (rowBlock y.vf).toList ++ (F.flatMap PFrame.bl ++ (x.bl ++ G.flatMap PFrame.bl)) := by unfold PFiber.bl; rw [hy, List.flatMap_append, List.flatMap_cons]
    rw [this]
    simp [C, List.append_assoc]
  have hnd := h.nodup
  rw [hbl] at hnd hlt
  -- who else is not written
  have hfree : ∀ g, g ∈ A ++ C → rowBlock y.vf ≠ some g → ¬ M g := fun g hg hvf hm => by
    rcases hM g hm (hlt g (by rcases List.mem_append.1 hg with h1 | h1 <;> simp [h1])) with h1 | h1
    · exact hvf h1
    · rw [List.append_assoc, List.nodup_append] at hnd
      obtain ⟨_, h2, h3⟩ := hnd
      rw [List.nodup_append] at h2
      rcases List.mem_append.1 hg with h4 | h4
      · exact h3 g h4 g (by simp [h1]) rfl
      · exact h2.2.2 g h1 g h4 rfl
  have hnot : ∀ g, rowBlock y.vf = some g → ∀ g', g' ∈ (b :: ((rowBlock P.vfs).toList ++ (rowBlock P.vo).toList ++ L.flatMap PFiber.bl)) ∨ g' ∈ F.flatMap PFrame.bl ++ C → g ≠ g' := fun g hg g' h1 e => by
    subst e
    have hA : A = (b :: ((rowBlock P.vfs).toList ++ (rowBlock P.vo).toList ++ L.flatMap PFiber.bl)) ++ (rowBlock y.vf).toList ++ F.flatMap PFrame.bl := by simp [A, List.append_assoc]
    rw [hA, List.append_assoc, List.append_assoc, List.append_assoc, List.nodup_append] at hnd
    obtain ⟨_, h2, h3⟩ := hnd
    rcases h1 with h1 | h1
    · exact h3 g h1 g (by simp [hg]) rfl
    · rw [List.nodup_append] at h2
      refine h2.2.2 g (by simp [hg]) g ?_ rfl
      rcases List.mem_append.1 h1 with h4 | h4 <;> simp [h4]
  have hA' : A = (b :: ((rowBlock P.vfs).toList ++ (rowBlock P.vo).toList ++ L.flatMap PFiber.bl)) ++ (rowBlock y.vf).toList ++ F.flatMap PFrame.bl := by simp [A, List.append_assoc]
  have ne : ∀ g, (g ∈ (b :: ((rowBlock P.vfs).toList ++ (rowBlock P.vo).toList ++ L.flatMap PFiber.bl)) ∨ g ∈ F.flatMap PFrame.bl ++ C) → ¬ M g := fun g hg => by
    refine hfree g ?_ (fun e => hnot g e g hg rfl)
    rcases hg with h1 | h1
    · exact List.mem_append.2 (.inl (by rw [hA', List.append_assoc]; exact List.mem_append.2 (.inl h1)))
    · rcases List.mem_append.1 h1 with h2 | h2
      · exact List.mem_append.2 (.inl (by simp only [A]; simp [h2]))
      · exact List.mem_append.2 (.inr h2)
  have hb : ¬ M b := ne b (.inl (by simp))
  have hcells : (L ++ { y with fr := F ++ x' :: G } :: R).flatMap fiberF = P.fs.flatMap fiberF := by rw [hP, List.flatMap_append, List.flatMap_append, List.flatMap_cons, List.flatMap_cons]; rfl
  have hlen : (L ++ { y with fr := F ++ x' :: G } :: R).length = P.fs.length := by rw [hP]; simp
  have hflen : (F ++ x' :: G).length = y.fr.length := by rw [hy]; simp
  have hbl' : b :: PState.bl { P with fs := L ++ { y with fr := F ++ x' :: G } :: R } = A ++ x'.bl ++ C := by
    show b :: _ = b :: _ ++ x'.bl ++ C
    unfold PState.bl
    simp only [List.flatMap_append, List.flatMap_cons]
    have : PFiber.bl { y with fr := F ++ x' :: G } = (rowBlock y.vf).toList ++ (F.flatMap PFrame.bl ++ (x'.bl ++ G.flatMap PFrame.bl)) := by unfold PFiber.bl; simp only [List.flatMap_append, List.flatMap_cons]
    rw [this]
    simp [C, List.append_assoc]
  refine ⟨h.c0.chg hc hb, h.c1.chg hc hb, h.c2.chg hc hb, h.i, ?_, h.out.chg hc (fun g e => ne g (.inl (by simp [e]))) (by decide), fun z hz => ?_, h.le, ?_, ?_⟩
  · show RowAt W' B 2 P.vfs (L ++ { y with fr := F ++ x' :: G } :: R).length ((L ++ { y with fr := F ++ x' :: G } :: R).flatMap fiberF)
    rw [hcells, hlen]
    exact h.row.chg hc (fun g e => ne g (.inl (by simp [e]))) (by decide)
  · have hz' : z ∈ L ++ { y with fr := F ++ x' :: G } :: R := hz
    rcases List.mem_append.1 hz' with h1 | h1
    · refine (h.fs z (by rw [hP]; simp [h1])).chg hc fun g hg => ne g (.inl ?_)
      exact List.mem_cons_of_mem _ (List.mem_append.2 (.inr (List.mem_flatMap.2 ⟨z, h1, hg⟩)))
    · rcases List.mem_cons.1 h1 with rfl | h1
      · refine ⟨hyO.i, hrow, fun u hu => ?_, by show (F ++ x' :: G).length ≤ 1000; rw [hflen]; exact hyO.few⟩
        have hu' : u ∈ F ++ x' :: G := hu
        rcases List.mem_append.1 hu' with h2 | h2
        · exact (hyO.fr u (by rw [hy]; simp [h2])).chg hc fun g hg => ne g (.inr (List.mem_append.2 (.inl (List.mem_flatMap.2 ⟨u, h2, hg⟩))))
        · rcases List.mem_cons.1 h2 with rfl | h2
          · exact hx
          · exact (hyO.fr u (by rw [hy]; simp [h2])).chg hc fun g hg => ne g (.inr (List.mem_append.2 (.inr (List.mem_append.2 (.inl (List.mem_flatMap.2 ⟨u, h2, hg⟩))))))
      · exact (h.fs z (by rw [hP]; simp [h1])).chg hc fun g hg => ne g (.inr (List.mem_append.2 (.inr (List.mem_append.2 (.inr (List.mem_flatMap.2 ⟨z, h1, hg⟩))))))
  · show (L ++ { y with fr := F ++ x' :: G } :: R).length ≤ 1000 ∧ P.out.length ≤ 1000
    rw [hlen]
    exact h.few
  · rw [hbl']
    exact nodup_swap hnd hn hs fun g hg => hlt g (by rcases List.mem_append.1 hg with h1 | h1 <;> simp [h1])
end Go.Proofs.Ytgahbngbpfilgaa
end
section
/- Contract of flow.Next, and of the iterator that it hands back: for every body that keeps what it says. -/
set_option maxHeartbeats 2000000
set_option maxRecDepth 100000
namespace Go.Proofs.Ytgahbngbpfilgaa
open Go Go.RowKit Go.Shelf

attribute [local go_sem] Oper.semAt_some

/-- The block in which the row lies that box bw names. -/
def RowB (W : World) (bw b : Nat) : Prop := ∃ v, W.cell? ⟨bw, 0, none⟩ = some v ∧ rowBlock v = some b

/-- What a round keeps: all cells, but those of fx and of the row that box bw names. -/
structure KpF (fx : Nat → Prop) (bw : Nat) (A B : World) : Prop where
  size : A.heap.size ≤ B.heap.size
  same : ∀ b o, ¬ fx b → ¬ RowB A bw b → A.heap[b]? = some o → o.isCells = true → B.heap[b]? = some o
  row : ∀ b, RowB B bw b → RowB A bw b ∨ A.heap.size ≤ b

theorem KpF.trans {fx : Nat → Prop} {bw : Nat} {A B C : World} (h : KpF fx bw A B) (k : KpF fx bw B C) : KpF fx bw A C where
  size := Nat.le_trans h.size k.size
  same b o hf hr ho hc := k.same b o hf (fun hb => (h.row b hb).elim hr (fun hle => by have := (Array.getElem?_eq_some_iff.1 ho).1; omega)) (h.same b o hf hr ho hc) hc
  row b hb := (k.row b hb).elim (h.row b) (fun hle => .inr (Nat.le_trans h.size hle))

theorem KpF.put {fx : Nat → Prop} {bw : Nat} {w : World} (hbw : bw < w.heap.size) (W : World) (l : Nat) (o o' : Obj) (hl : w.heap.size ≤ l) (ho : W.heap[l]? = some o) (hc : o.isCells = false) (_ : o.isWalk = false) : KpF fx bw W (W.putObj l o') where
  size := by simp
  same b o'' _ _ hb hcb := by
    have : b ≠ l := fun e => by subst e; rw [ho] at hb; cases hb; rw [hc] at hcb; cases hcb
    exact (World.putObj_heap_other this).trans hb
  row b hb := by
    obtain ⟨v, hv, hr⟩ := hb
    refine .inl ⟨v, ?_, hr⟩
    rw [← hv]
    exact (World.cell?_of_block (World.putObj_heap_other (by show bw ≠ l; omega))).symm

theorem KpF.cell {fx : Nat → Prop} {bw : Nat} {A B : World} (h : KpF fx bw A B) {b o : Nat} {v : Value} (hf : ¬ fx b) (hr : ¬ RowB A bw b) (hc : A.cell? ⟨b, o, none⟩ = some v) : B.cell? ⟨b, o, none⟩ = some v := by
  obtain ⟨ob, ho, hcc⟩ := cells_of_cell hc
  have := h.same b ob hf hr ho hcc
  rw [← hc]
  exact World.cell?_of_block (this.trans ho.symm)

theorem RowB.of_below {w W : World} {bw b : Nat} (hW : Below w.heap.size w W) (hbw : bw < w.heap.size) (h : RowB W bw b) : RowB w bw b := by
  obtain ⟨v, hv, hr⟩ := h
  exact ⟨v, by rw [← hv]; exact (hW.cell (p := ⟨bw, 0, none⟩) hbw).symm, hr⟩

theorem next_any (ca : Option Addr) (cn ccap : Nat) (k : Int) (w : World) :
    Calls Try.prog 93 #[.slice ca cn ccap, .int .i64 k] w fun e w' => e = .returned (.func (.func 112) #[] #[.pointer (some ⟨w.heap.size, 0, none⟩), .pointer (some ⟨w.heap.size + 1, 0, none⟩)]) ∧ w' = (w.alloc (.cells #[.slice ca cn ccap] 41)).alloc (.cells #[.int .i64 k] 3) := by
  go_enter Try.func93, Try.ntmps93
  go_wp2_with fail
  go_ret
  exact ⟨rfl, rfl⟩


/-- What has come when the iterator runs to its end. -/
theorem next_stops (n : Nat) (hn : 1 ≤ n) (fx : Nat → Prop) (bw b2 b3 : Nat) (cb co cn ccap : Nat) (x : GOp) (k : Nat) (w : World)
    (hk : k < cn) (hk24 : cn ≤ 24) (h2 : w.cell? ⟨b2, 0, none⟩ = some (.slice (some ⟨cb, co, none⟩) cn ccap)) (h3 : w.cell? ⟨b3, 0, none⟩ = some (.int .i64 k))
    (hx0 : w.cell? ⟨cb, co + k * 2, none⟩ = some (.int .i64 x.kind)) (hx1 : w.cell? ⟨cb, co + k * 2 + 1, none⟩ = some (.int .i64 x.a)) (ha : 0 ≤ x.a) (hle : ∀ i ∈ nx x k, i ≤ cn)
    (hfx : ∀ b, fx b → b < w.heap.size ∧ b ≠ b3) (hbw : bw < w.heap.size) (hrow : ∀ b, RowB w bw b → b < w.heap.size ∧ b ≠ b3) :
    SeqStopsK Fence.wide n Try.prog 112 #[.pointer (some ⟨b2, 0, none⟩), .pointer (some ⟨b3, 0, none⟩)] (fun i : { i : Nat // i ≤ cn } => #[Value.int .i64 i.1]) (KpF fx bw) (fun xs => xs.map (·.1) = nx x k) (fun pre => pre.map (·.1) <+: nx x k) 2 w := by
  intro l J Jx W hW hJ hJx hY h0
  have y2 : W.cell? ⟨b2, 0, none⟩ = some (.slice (some ⟨cb, co, none⟩) cn ccap) := Ext.cell hW h2
  have y3 : W.cell? ⟨b3, 0, none⟩ = some (.int .i64 k) := Ext.cell hW h3
  have z0 : W.cell? ⟨cb, co + k * 2, none⟩ = some (.int .i64 x.kind) := Ext.cell hW hx0
  have z1 : W.cell? ⟨cb, co + k * 2 + 1, none⟩ = some (.int .i64 x.a) := Ext.cell hW hx1
  have hJ0 : J [] (W.alloc (.cells #[.int .i64 x.kind, .int .i64 x.a] 110)) := hJ [] W _ none h0 (World.grownBy_alloc W _ none) (fun r e => by cases e)
  have RA := alloc_keep
  have hsz : w.heap.size ≤ W.heap.size := Ext.size hW
  have hb3 := lt_of_cell h3
  refine callsIn_of_wp Try.func112 rfl trivial ?_ rfl
  simp only [Try.ntmps112, List.size_toArray, List.length_cons, List.length_nil, Nat.reduceAdd, Nat.reduceSub, Array.replicate_succ, Array.replicate_zero, List.push_toArray, List.append_toArray, List.nil_append, List.cons_append]
  have hW1 : Below w.heap.size w (W.alloc (.cells #[.int .i64 x.kind, .int .i64 x.a] 110)) := Ext.alloc hW _
  have hrow1 : ∀ b, RowB (W.alloc (.cells #[.int .i64 x.kind, .int .i64 x.a] 110)) bw b → b < w.heap.size ∧ b ≠ b3 := fun b h => hrow b (RowB.of_below hW1 hbw h)
  have y3' := alloc_keep W (.cells #[.int .i64 x.kind, .int .i64 x.a] 110) ⟨b3, 0, none⟩ (by rw [y3]; rfl)
  rw [y3] at y3'
  have KK : IntKind.i64.wrap ((k : Int) + 1) = (k : Int) + 1 := IntWalk.i64_in _ (by omega)
  have HX0 := Lib.hid (fun W3 (hk3 : KpF fx bw (W.alloc (.cells #[.int .i64 x.kind, .int .i64 x.a] 110)) W3) =>
    KpF.cell hk3 (b := W.heap.size) (o := 0) (fun h => by have := (hfx _ h).1; omega) (fun h => by have := (hrow1 _ h).1; omega) (cell_alloc0 W x.kind x.a 110))
  have HX3 := Lib.hid (fun W3 (hk3 : KpF fx bw (W.alloc (.cells #[.int .i64 x.kind, .int .i64 x.a] 110)) W3) =>
    KpF.cell hk3 (b := b3) (o := 0) (fun h => (hfx _ h).2 rfl) (fun h => (hrow1 _ h).2 rfl) y3')
  by_cases h9 : x.kind = 9
  · have T9 : (x.kind == 9) = true := by simp [h9]
    have hnx : nx x k = [x.a.toNat] := by simp [nx, h9]
    have T9n : (x.kind != 9) = false := by simp [h9]
    clear h9
    obtain ⟨fn, tmps, assign, body, hy, hR⟩ := hY [] ⟨x.a.toNat, hle _ (by rw [hnx]; simp)⟩ _ hJ0 (Nat.succ_pos 1)
    dsimp only at hy
    rw [show ((x.a.toNat : Nat) : Int) = x.a by omega] at hy
    gi_wp2
    refine hR.mono ?_
    rintro e W3 (⟨rfl, hJ3, hk3⟩ | ⟨rfl, hJx3⟩)
    · have q0 := HX0.out _ hk3
      gi_wp2
      go_end0
      refine ⟨⟨_, rfl⟩, .inl ⟨_, ?_, hJ3⟩⟩
      exact hnx.symm
    · gi_wp2
      refine bodyPost_ret (results_none rfl _ _ _) rfl ?_
      refine ⟨⟨_, rfl⟩, .inr ⟨_, ?_, hJx3⟩⟩
      have hp := List.prefix_refl (nx x k)
      exact (congrArg (· <+: nx x k) hnx).mp hp
  · have T9 : (x.kind == 9) = false := by simp [h9]
    have T9n : (x.kind != 9) = true := by simp [h9]
    by_cases h10 : x.kind = 10
    · have T10 : (x.kind == 10) = true := by simp [h10]
      have T12 : (x.kind != 12) = true := by simp [h10]
      have hnx : nx x k = [x.a.toNat, k + 1] := by simp [nx, h10]
      clear h9 h10
      obtain ⟨fn, tmps, assign, body, hy, hR⟩ := hY [] ⟨x.a.toNat, hle _ (by rw [hnx]; simp)⟩ _ hJ0 (Nat.succ_pos 1)
      dsimp only at hy
      rw [show ((x.a.toNat : Nat) : Int) = x.a by omega] at hy
      gi_wp2
      refine hR.mono ?_
      rintro e W3 (⟨rfl, hJ3, hk3⟩ | ⟨rfl, hJx3⟩)
      · have q0 := HX0.out _ hk3
        have q3 := HX3.out _ hk3
        clear hy hR
        obtain ⟨fn, tmps, assign, body, hy, hR⟩ := hY [⟨x.a.toNat, hle _ (by rw [hnx]; simp)⟩] ⟨k + 1, hle _ (by rw [hnx]; simp)⟩ _ hJ3 (Nat.lt_succ_self 1)
        rw [show ((k + 1 : Nat) : Int) = (k : Int) + 1 by omega] at hy
        gi_wp2
        refine hR.mono ?_
        rintro e W4 (⟨rfl, hJ4, hk4⟩ | ⟨rfl, hJx4⟩)
        · gi_wp2
          go_end0
          refine ⟨⟨_, rfl⟩, .inl ⟨_, ?_, hJ4⟩⟩
          exact hnx.symm
        · gi_wp2
          go_end0
          refine ⟨⟨_, rfl⟩, .inr ⟨_, ?_, hJx4⟩⟩
          have hp := List.prefix_refl (nx x k)
          exact (congrArg (· <+: nx x k) hnx).mp hp
      · gi_wp2
        refine bodyPost_ret (results_none rfl _ _ _) rfl ?_
        refine ⟨⟨_, rfl⟩, .inr ⟨_, ?_, hJx3⟩⟩
        exact ⟨[k + 1], hnx.symm⟩
    · have T10 : (x.kind == 10) = false := by simp [h10]
      by_cases h12 : x.kind = 12
      · have T12 : (x.kind != 12) = false := by simp [h12]
        have hnx : nx x k = [] := by simp [nx, h12]
        clear h9 h10 h12
        gi_wp2
        refine ⟨fun _ h => (by cases h), ?_⟩
        gi_wp2
        go_end0
        refine ⟨⟨_, rfl⟩, .inl ⟨_, ?_, hJ0⟩⟩
        exact hnx.symm
      · have T12 : (x.kind != 12) = true := by simp [h12]
        have hnx : nx x k = [k + 1] := by simp [nx, h9, h10, h12]
        clear h9 h10 h12
        obtain ⟨fn, tmps, assign, body, hy, hR⟩ := hY [] ⟨k + 1, hle _ (by rw [hnx]; simp)⟩ _ hJ0 (Nat.succ_pos 1)
        dsimp only at hy
        rw [show ((k + 1 : Nat) : Int) = (k : Int) + 1 by omega] at hy
        gi_wp2
        refine ⟨fun _ h => (by cases h), ?_⟩
        gi_wp2
        refine hR.mono ?_
        rintro e W4 (⟨rfl, hJ4, hk4⟩ | ⟨rfl, hJx4⟩)
        · gi_wp2
          go_end0
          refine ⟨⟨_, rfl⟩, .inl ⟨_, ?_, hJ4⟩⟩
          exact hnx.symm
        · gi_wp2
          go_end0
          refine ⟨⟨_, rfl⟩, .inr ⟨_, ?_, hJx4⟩⟩
          have hp := List.prefix_refl (nx x k)
          exact (congrArg (· <+: nx x k) hnx).mp hp

/-- The law on a range over a function, the round's frame found by the walk. -/
theorem rangeF_ex {F : Fence} {n : Nat} {P : Program} {α : Type} {g : Operand} {ps : Array Tmp} {assign body : Code} {Q : Exit → Act → World → Prop} {a : Act} {w : World}
    (hro : F.round = none) (h1 : 1 ≤ n) {gf : Nat} {lb : Array Value} (hg : a.eval g = .func (.func gf) #[] lb) (hFg : F.fn gf) (eg : ∀ args w, (callFunc gf args).run P w = .ok (.enter gf args) w)
    {encs : α → Array Value} {Kp : World → World → Prop} {S Sp : List α → Prop} {N : Nat} {w0 : World} (hseq : SeqStopsK F (n - 1) P gf lb encs Kp S Sp N w0)
    (hKt : ∀ {A B C : World}, Kp A B → Kp B C → Kp A C) (hKb : ∀ (W : World) (l : Nat) (o o' : Obj), w.heap.size ≤ l → W.heap[l]? = some o → o.isCells = false → o.isWalk = false → Kp W (W.putObj l o')) (hb0 : Below w0.heap.size w0 w) (hps : ∀ x, (encs x).size = ps.size)
    (I : List α → World → Prop) (Ix : Code → List α → World → Prop) (hI : OwnFrom w.heap.size I) (hIx : ∀ c, OwnFrom w.heap.size (Ix c)) (h0 : I [] w)
    (hab : ∃ a₁ : α → Act, (∀ (l : Nat) (x : α) (W : World) (K : Act → World → Prop), K (a₁ x) W →
      assign.wpIn (F.inRound l) (n - 1 - 1) P (Exit.then K (fun _ _ _ => False)) { tmps := (ps.zip (encs x)).foldl (fun t (p, v) => t.setIfInBounds p v) a.tmps, defers := [] } W) ∧
      (∀ (l : Nat) (pre : List α) (x : α) (W : World), I pre W → pre.length < N → body.wpIn (F.inRound l) (n - 1 - 1) P (ownPostK Kp I Ix (pre ++ [x]) W) (a₁ x) W))
    (hdone : ∀ (D : Nat) (xs : List α) (W : World), w.heap.size ≤ D → S xs → I xs W → W.heap[D]? = some (.deferred (some [])) → Q .normal { a with defers := { target := .collected D, args := #[] } :: a.defers } W)
    (hstop : ∀ (D : Nat) (c : Code) (pre : List α) (W : World), w.heap.size ≤ D → Sp pre → Ix c pre W → W.heap[D]? = some (.deferred (some [])) → c.wpIn F n P Q { a with defers := { target := .collected D, args := #[] } :: a.defers } W) :
    (Code.rangeFunc g ps assign body).wpIn F n P Q a w := by
  obtain ⟨a₁, h1a, h1b⟩ := hab
  exact wpIn_rangeFunc_ownF hro h1 hg hFg eg hseq hKt hKb hb0 hps I Ix hI hIx h0 a₁ h1a h1b hdone hstop
end Go.Proofs.Ytgahbngbpfilgaa
end
