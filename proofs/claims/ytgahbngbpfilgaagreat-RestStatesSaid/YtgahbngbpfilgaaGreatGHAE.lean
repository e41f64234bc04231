/- Merged texts: contracts and plain facts, one part behind another; each part begins with what it says. -/
import Derived.Test.YtgahbngbpfilgaaGreatGHAC
import Derived.Test.YtgahbngbpfilgaaGreatGHAD
import Derived.Deep.MidRow
import Derived.Laws.ResultCell
section
set_option maxHeartbeats 400000
namespace Go.Proofs.YtgahbngbpfilgaaGreat
open Go Go.RowKit
def Cx (W : World) (b j : Nat) (v : Value) : Prop := W.cell? ⟨b, j, none⟩ = some v ∧ W.frozen? ⟨b, j, none⟩ = false
theorem Cx.lt {W : World} {b j : Nat} {v : Value} (h : Cx W b j v) : b < W.heap.size := lt_of_cell h.1
theorem Cx.new (W : World) (vs : List Value) (t : TypeId) {j : Nat} {v : Value} (hj : vs[j]? = some v) : Cx (W.alloc (.cells vs.toArray t)) W.heap.size j v := by
 refine ⟨?_, World.frozen?_alloc_new W vs.toArray t j⟩
 have := World.cell?_alloc_new W vs.toArray t j
 rw [this, List.getElem?_toArray, hj]
theorem Cx.ext {W W' : World} {b j : Nat} {v : Value} (h : Cx W b j v) (he : Ext W W') : Cx W' b j v :=
 ⟨Ext.cell he h.1, by rw [Ext.keepF he _ (by rw [h.1]; rfl)]; exact h.2⟩
theorem Cx.chg {M : Nat → Prop} {W W' : World} {b j : Nat} {v : Value} (h : Cx W b j v) (hc : Chg M W W') (hM : ¬ M b) : Cx W' b j v :=
 ⟨Chg.cell hc hM h.1, by rw [Chg.frozen hc hM h.lt]; exact h.2⟩
theorem Cx.set {W : World} {b j : Nat} {v : Value} (h : Cx W b j v) (u : Value) : Cx (W.setCell ⟨b, j, none⟩ u) b j u :=
 ⟨World.cell?_setCell_same' _ _ _ (by rw [h.1]; rfl), by rw [World.frozen?_setCell]; exact h.2⟩
theorem Cx.other {W : World} {b j b' j' : Nat} {v : Value} (h : Cx W b j v) (hne : b ≠ b' ∨ j ≠ j') (u : Value) : Cx (W.setCell ⟨b', j', none⟩ u) b j v :=
 ⟨by rw [World.cell?_setCell_other (a := ⟨b', j', none⟩) (b := ⟨b, j, none⟩) (h := by intro e; simp only [Addr.mk.injEq] at e; omega)]; exact h.1, by rw [World.frozen?_setCell]; exact h.2⟩
theorem results_cell_mid {P : Program} {fn : Func} {p : Tmp} {ty : TypeId} (h : fn.results = #[.cell p ty]) (tmps : Array Value) (w : World) (b o : Nat) (cs : List Value) (d : TypeDesc)
  (hp : tmps.getD p undef = .pointer (some ⟨b, o, none⟩)) (hc : w.rangeAt b o cs) (hu : P.underlying ty = some d) (hd : d.isRow = true) (hi : (P.info? ty).map (·.size) = some cs.length) :
  (results fn tmps).run P w = .ok (.agg cs.toArray) w := by
 have hp' : tmps[p]?.getD undef = .pointer (some ⟨b, o, none⟩) := by simpa using hp
 simp [results, h, hp', asAddr, run_loadVar_mid w b o ty cs d hc hu hd hi]
theorem range3 {w : World} {b : Nat} {x y z : Value} (h0 : w.cell? ⟨b, 0, none⟩ = some x) (h1 : w.cell? ⟨b, 1, none⟩ = some y) (h2 : w.cell? ⟨b, 2, none⟩ = some z) : w.rangeAt b 0 [x, y, z] := by
 intro j v hj
 rw [Nat.zero_add]
 match j, hj with
 | 0, hj => cases hj; exact h0
 | 1, hj => cases hj; exact h1
 | 2, hj => cases hj; exact h2
end Go.Proofs.YtgahbngbpfilgaaGreat
end
section
set_option maxHeartbeats 400000
namespace Go.Proofs.YtgahbngbpfilgaaGreat
open Go Go.RowKit
structure PFrame where
 f : GFrame
 vl : Value
 vs : Value
structure PFiber where
 fr : List PFrame
 caller : Int
 vf : Value
structure PState where
 fs : List PFiber
 now : Int
 out : List Int
 vfs : Value
 vo : Value
def PFiber.g (y : PFiber) : GFiber := ⟨y.fr.map PFrame.f, y.caller⟩
def PState.g (P : PState) : GState := ⟨P.fs.map PFiber.g, P.now, P.out⟩
def frameF (x : PFrame) : List Value := [.int .i64 x.f.func, .int .i64 x.f.at_, x.vl, x.vs]
def fiberF (y : PFiber) : List Value := [y.vf, .int .i64 y.caller]
def PFrame.bl (x : PFrame) : List Nat := (rowBlock x.vl).toList ++ (rowBlock x.vs).toList
def PFiber.bl (y : PFiber) : List Nat := (rowBlock y.vf).toList ++ y.fr.flatMap PFrame.bl
def PState.bl (P : PState) : List Nat := (rowBlock P.vfs).toList ++ (rowBlock P.vo).toList ++ P.fs.flatMap PFiber.bl
structure FrameO (W : World) (B : Nat) (x : PFrame) : Prop where
 i : I64 x.f.func ∧ I64 x.f.at_ ∧ (∀ n ∈ x.f.locals, I64 n) ∧ (∀ n ∈ x.f.stack, I64 n)
 l : RowAt W B 1 x.vl x.f.locals.length (ints x.f.locals)
 s : RowAt W B 1 x.vs x.f.stack.length (ints x.f.stack)
 few : x.f.locals.length ≤ 1000 ∧ x.f.stack.length ≤ 1000
structure FiberO (W : World) (B : Nat) (y : PFiber) : Prop where
 i : I64 y.caller
 row : RowAt W B 4 y.vf y.fr.length (y.fr.flatMap frameF)
 fr : ∀ x ∈ y.fr, FrameO W B x
 few : y.fr.length ≤ 1000
structure OwnS (W : World) (B b : Nat) (P : PState) : Prop where
 c0 : Cx W b 0 P.vfs
 c1 : Cx W b 1 (.int .i64 P.now)
 c2 : Cx W b 2 P.vo
 i : I64 P.now ∧ ∀ n ∈ P.out, I64 n
 row : RowAt W B 2 P.vfs P.fs.length (P.fs.flatMap fiberF)
 out : RowAt W B 1 P.vo P.out.length (ints P.out)
 fs : ∀ y ∈ P.fs, FiberO W B y
 le : B ≤ b
 few : P.fs.length ≤ 1000 ∧ P.out.length ≤ 1000
 nodup : (b :: P.bl).Nodup
theorem FrameO.chg {M : Nat → Prop} {W W' : World} {B : Nat} {x : PFrame} (h : FrameO W B x) (hc : Chg M W W') (hM : ∀ g ∈ x.bl, ¬ M g) : FrameO W' B x :=
 ⟨h.i, h.l.chg hc (fun g e => hM g (by unfold PFrame.bl; simp [e])) (by decide), h.s.chg hc (fun g e => hM g (by unfold PFrame.bl; simp [e])) (by decide), h.few⟩
theorem FiberO.chg {M : Nat → Prop} {W W' : World} {B : Nat} {y : PFiber} (h : FiberO W B y) (hc : Chg M W W') (hM : ∀ g ∈ y.bl, ¬ M g) : FiberO W' B y :=
 ⟨h.i, h.row.chg hc (fun g e => hM g (by unfold PFiber.bl; simp [e])) (by decide), fun x hx => (h.fr x hx).chg hc (fun g hg => hM g (by unfold PFiber.bl; exact List.mem_append.2 (.inr (List.mem_flatMap.2 ⟨x, hx, hg⟩)))), h.few⟩
theorem OwnS.chg {M : Nat → Prop} {W W' : World} {B b : Nat} {P : PState} (h : OwnS W B b P) (hc : Chg M W W') (hb : ¬ M b) (hM : ∀ g ∈ P.bl, ¬ M g) : OwnS W' B b P :=
 ⟨h.c0.chg hc hb, h.c1.chg hc hb, h.c2.chg hc hb, h.i, h.row.chg hc (fun g e => hM g (by unfold PState.bl; simp [e])) (by decide), h.out.chg hc (fun g e => hM g (by unfold PState.bl; simp [e])) (by decide),
  fun y hy => (h.fs y hy).chg hc (fun g hg => hM g (by unfold PState.bl; exact List.mem_append.2 (.inr (List.mem_flatMap.2 ⟨y, hy, hg⟩)))), h.le, h.few, h.nodup⟩
theorem OwnS.ext {W W' : World} {B b : Nat} {P : PState} (h : OwnS W B b P) (he : Ext W W') : OwnS W' B b P := h.chg (M := fun _ => False) (Chg.of_ext he) (fun h => h) (fun _ _ h => h)
theorem FrameO.ints {W : World} {B : Nat} {x : PFrame} (h : FrameO W B x) (S : Nat → Prop) (hS : ∀ g, B ≤ g → S g) : Ints W S x.vl x.f.locals ∧ Ints W S x.vs x.f.stack := by
 have f := h.few
 exact ⟨Ints.of_row (by rw [flatMap_intF]; exact h.l) (by omega) h.i.2.2.1 S (fun b hb _ => hS b hb), Ints.of_row (by rw [flatMap_intF]; exact h.s) (by omega) h.i.2.2.2 S (fun b hb _ => hS b hb)⟩
theorem Sl.map' {α β : Type} {E : Nat → Nat → β → Prop} {sz bytes : Nat} {v : Value} {l : List α} (f : α → β) (h : Sl (fun b o y => E b o (f y)) sz bytes v l) : Sl E sz bytes v (l.map f) := by
 obtain ⟨a, cap, rfl, h1, h2, h3⟩ := h
 refine ⟨a, cap, by rw [List.length_map], by rw [List.length_map]; exact h1, by rw [List.length_map]; exact h2, fun i hi => ?_⟩
 obtain ⟨b, o, e, h4⟩ := h3 i (by rwa [List.length_map] at hi)
 exact ⟨b, o, e, by rw [List.getElem_map]; exact h4⟩
theorem FiberO.frames {W : World} {B : Nat} {y : PFiber} (h : FiberO W B y) (S : Nat → Prop) (hS : ∀ g, B ≤ g → S g) : Frames W S y.vf (y.fr.map PFrame.f) := by
 have f := h.few
 refine Sl.map' PFrame.f (Sl.of_row frameF h.row (fun _ => rfl) (by omega) fun b o x hb _ hx hc => ?_)
 have hx' := h.fr x hx
 exact ⟨⟨hS b hb, hc 0 _ rfl, hx'.i.1⟩, ⟨hS b hb, hc 1 _ rfl, hx'.i.2.1⟩, ⟨_, hc 2 _ rfl, (hx'.ints S hS).1⟩, _, hc 3 _ rfl, (hx'.ints S hS).2⟩
theorem OwnS.state {W : World} {B b : Nat} {P : PState} (h : OwnS W B b P) (S : Nat → Prop) (hS : ∀ g, B ≤ g → S g) : StateV W S (.agg #[P.vfs, .int .i64 P.now, P.vo]) P.g := by
 have f := h.few
 refine ⟨_, _, rfl, Sl.map' PFiber.g (Sl.of_row fiberF h.row (fun _ => rfl) (by omega) fun b o y hb _ hy hc => ?_), h.i.1, Ints.of_row (by rw [flatMap_intF]; exact h.out) (show P.out.length * 8 ≤ _ by omega) h.i.2 S (fun b hb _ => hS b hb)⟩
 have hy' := h.fs y hy
 exact ⟨⟨_, hc 0 _ rfl, hy'.frames S hS⟩, hS b hb, hc 1 _ rfl, hy'.i⟩
end Go.Proofs.YtgahbngbpfilgaaGreat
end
section
set_option maxHeartbeats 400000
namespace Go.Proofs.YtgahbngbpfilgaaGreat
open Go Go.RowKit
theorem nodup_swap {A X X' C : List Nat} {n : Nat} (h : (A ++ X ++ C).Nodup) (hX : X'.Nodup) (hs : ∀ g ∈ X', g ∈ X ∨ n ≤ g) (hlt : ∀ g ∈ A ++ C, g < n) : (A ++ X' ++ C).Nodup := by
 rw [List.append_assoc, List.nodup_append] at h ⊢
 obtain ⟨hA, hXC, hd⟩ := h
 rw [List.nodup_append] at hXC ⊢
 obtain ⟨_, hC, hd2⟩ := hXC
 refine ⟨hA, ⟨hX, hC, fun a ha c hc e => ?_⟩, fun a ha c hc e => ?_⟩
 ·rcases hs a ha with h1 | h1
  ·exact hd2 a h1 c hc e
  ·have := hlt c (List.mem_append.2 (.inr hc))
   omega
 ·rcases List.mem_append.1 hc with h1 | h1
  ·rcases hs c h1 with h2 | h2
   ·exact hd a ha c (List.mem_append.2 (.inl h2)) e
   ·have := hlt a (List.mem_append.2 (.inl ha))
    omega
  ·exact hd a ha c (List.mem_append.2 (.inr h1)) e
theorem nodup_swap' {A X X' C : List Nat} (h : (A ++ X ++ C).Nodup) (hX : X'.Nodup) (hs : ∀ g ∈ X', g ∈ X ∨ g ∉ A ++ C) : (A ++ X' ++ C).Nodup := by
 rw [List.append_assoc, List.nodup_append] at h ⊢
 obtain ⟨hA, hXC, hd⟩ := h
 rw [List.nodup_append] at hXC ⊢
 obtain ⟨_, hC, hd2⟩ := hXC
 refine ⟨hA, ⟨hX, hC, fun a ha c hc e => ?_⟩, fun a ha c hc e => ?_⟩
 ·rcases hs a ha with h1 | h1
  ·exact hd2 a h1 c hc e
  ·exact h1 (List.mem_append.2 (.inr (e ▸ hc)))
 ·rcases List.mem_append.1 hc with h1 | h1
  ·rcases hs c h1 with h2 | h2
   ·exact hd a ha c (List.mem_append.2 (.inl h2)) e
   ·exact h2 (List.mem_append.2 (.inl (e ▸ ha)))
  ·exact hd a ha c (List.mem_append.2 (.inr h1)) e
theorem RowAt.lt2 {w : World} {base size : Nat} {v : Value} {n : Nat} {xs : List Value} (h : RowAt w base size v n xs) (hs : 0 < size) : ∀ g, rowBlock v = some g → g < w.heap.size := by
 obtain ⟨_, a, cap, rfl, _, _, h3⟩ := h
 intro g hg
 rcases h3 with h0 | ⟨g', o, rfl, _, _, ht⟩
 ·subst h0; cases a <;> simp [rowBlock] at hg
 ·by_cases hc : cap = 0
  ·subst hc; simp [rowBlock] at hg
  ·rw [rowBlock_some g' o n cap hc] at hg
   cases hg
   obtain ⟨v, hv⟩ := Option.isSome_iff_exists.1 (ht 0 (Nat.mul_pos (by omega) hs)).1
   exact lt_of_cell hv
theorem FrameO.lt {W : World} {B : Nat} {x : PFrame} (h : FrameO W B x) : ∀ g ∈ x.bl, g < W.heap.size := by
 intro g hg
 unfold PFrame.bl at hg
 rcases List.mem_append.1 hg with h1 | h1
 ·exact h.l.lt2 (by decide) g (by simpa using h1)
 ·exact h.s.lt2 (by decide) g (by simpa using h1)
theorem FiberO.lt {W : World} {B : Nat} {y : PFiber} (h : FiberO W B y) : ∀ g ∈ y.bl, g < W.heap.size := by
 intro g hg
 unfold PFiber.bl at hg
 rcases List.mem_append.1 hg with h1 | h1
 ·exact h.row.lt2 (by decide) g (by simpa using h1)
 ·obtain ⟨x, hx, h2⟩ := List.mem_flatMap.1 h1
  exact (h.fr x hx).lt g h2
theorem OwnS.lt {W : World} {B b : Nat} {P : PState} (h : OwnS W B b P) : ∀ g ∈ b :: P.bl, g < W.heap.size := by
 intro g hg
 rcases List.mem_cons.1 hg with rfl | hg
 ·exact h.c0.lt
 ·unfold PState.bl at hg
  rcases List.mem_append.1 hg with h1 | h1
  ·rcases List.mem_append.1 h1 with h2 | h2
   ·exact h.row.lt2 (by decide) g (by simpa using h2)
   ·exact h.out.lt2 (by decide) g (by simpa using h2)
  ·obtain ⟨y, hy, h2⟩ := List.mem_flatMap.1 h1
   exact (h.fs y hy).lt g h2
theorem OwnS.frame {W W' : World} {B b : Nat} {P : PState} {L R : List PFiber} {F G : List PFrame} {y : PFiber} {x x' : PFrame} {M : Nat → Prop} (h : OwnS W B b P) (hP : P.fs = L ++ y :: R) (hy : y.fr = F ++ x :: G)
  (hc : Chg M W W') (hM : ∀ g, M g → g < W.heap.size → rowBlock y.vf = some g ∨ g ∈ x.bl) (hx : FrameO W' B x') (hrow : RowAt W' B 4 y.vf (F ++ x' :: G).length ((F ++ x' :: G).flatMap frameF))
  (hn : x'.bl.Nodup) (hs : ∀ g ∈ x'.bl, g ∈ x.bl ∨ W.heap.size ≤ g) :
  OwnS W' B b { P with fs := L ++ { y with fr := F ++ x' :: G } :: R } := by
 have hlt := h.lt
 have hyO := h.fs y (by rw [hP]; simp)
 let A := b :: ((rowBlock P.vfs).toList ++ (rowBlock P.vo).toList ++ L.flatMap PFiber.bl ++ (rowBlock y.vf).toList ++ F.flatMap PFrame.bl)
 let C := G.flatMap PFrame.bl ++ R.flatMap PFiber.bl
 have hbl : b :: P.bl = A ++ x.bl ++ C := by
  show b :: P.bl = b :: _ ++ x.bl ++ C
  unfold PState.bl
  rw [hP, List.flatMap_append, List.flatMap_cons]
  have : y.bl = (rowBlock y.vf).toList ++ (F.flatMap PFrame.bl ++ (x.bl ++ G.flatMap PFrame.bl)) := by unfold PFiber.bl; rw [hy, List.flatMap_append, List.flatMap_cons]
  rw [this]
  simp [C, List.append_assoc]
 have hnd := h.nodup
 rw [hbl] at hnd hlt
 have hfree : ∀ g, g ∈ A ++ C → rowBlock y.vf ≠ some g → ¬ M g := fun g hg hvf hm => by
  rcases hM g hm (hlt g (by rcases List.mem_append.1 hg with h1 | h1 <;> simp [h1])) with h1 | h1
  ·exact hvf h1
  ·rw [List.append_assoc, List.nodup_append] at hnd
   obtain ⟨_, h2, h3⟩ := hnd
   rw [List.nodup_append] at h2
   rcases List.mem_append.1 hg with h4 | h4
   ·exact h3 g h4 g (by simp [h1]) rfl
   ·exact h2.2.2 g h1 g h4 rfl
 have hnot : ∀ g, rowBlock y.vf = some g → ∀ g', g' ∈ (b :: ((rowBlock P.vfs).toList ++ (rowBlock P.vo).toList ++ L.flatMap PFiber.bl)) ∨ g' ∈ F.flatMap PFrame.bl ++ C → g ≠ g' := fun g hg g' h1 e => by
  subst e
  have hA : A = (b :: ((rowBlock P.vfs).toList ++ (rowBlock P.vo).toList ++ L.flatMap PFiber.bl)) ++ (rowBlock y.vf).toList ++ F.flatMap PFrame.bl := by simp [A, List.append_assoc]
  rw [hA, List.append_assoc, List.append_assoc, List.append_assoc, List.nodup_append] at hnd
  obtain ⟨_, h2, h3⟩ := hnd
  rcases h1 with h1 | h1
  ·exact h3 g h1 g (by simp [hg]) rfl
  ·rw [List.nodup_append] at h2
   refine h2.2.2 g (by simp [hg]) g ?_ rfl
   rcases List.mem_append.1 h1 with h4 | h4 <;> simp [h4]
 have hA' : A = (b :: ((rowBlock P.vfs).toList ++ (rowBlock P.vo).toList ++ L.flatMap PFiber.bl)) ++ (rowBlock y.vf).toList ++ F.flatMap PFrame.bl := by simp [A, List.append_assoc]
 have ne : ∀ g, (g ∈ (b :: ((rowBlock P.vfs).toList ++ (rowBlock P.vo).toList ++ L.flatMap PFiber.bl)) ∨ g ∈ F.flatMap PFrame.bl ++ C) → ¬ M g := fun g hg => by
  refine hfree g ?_ (fun e => hnot g e g hg rfl)
  rcases hg with h1 | h1
  ·exact List.mem_append.2 (.inl (by rw [hA', List.append_assoc]; exact List.mem_append.2 (.inl h1)))
  ·rcases List.mem_append.1 h1 with h2 | h2
   ·exact List.mem_append.2 (.inl (by simp only [A]; simp [h2]))
   ·exact List.mem_append.2 (.inr h2)
 have hb : ¬ M b := ne b (.inl (by simp))
 have hcells : (L ++ { y with fr := F ++ x' :: G } :: R).flatMap fiberF = P.fs.flatMap fiberF := by rw [hP, List.flatMap_append, List.flatMap_append, List.flatMap_cons, List.flatMap_cons]; rfl
 have hlen : (L ++ { y with fr := F ++ x' :: G } :: R).length = P.fs.length := by rw [hP]; simp
 have hflen : (F ++ x' :: G).length = y.fr.length := by rw [hy]; simp
 have hbl' : b :: PState.bl { P with fs := L ++ { y with fr := F ++ x' :: G } :: R } = A ++ x'.bl ++ C := by
  show b :: _ = b :: _ ++ x'.bl ++ C
  unfold PState.bl
  simp only [List.flatMap_append, List.flatMap_cons]
  have : PFiber.bl { y with fr := F ++ x' :: G } = (rowBlock y.vf).toList ++ (F.flatMap PFrame.bl ++ (x'.bl ++ G.flatMap PFrame.bl)) := by unfold PFiber.bl; simp only [List.flatMap_append, List.flatMap_cons]
  rw [this]
  simp [C, List.append_assoc]
 refine ⟨h.c0.chg hc hb, h.c1.chg hc hb, h.c2.chg hc hb, h.i, ?_, h.out.chg hc (fun g e => ne g (.inl (by simp [e]))) (by decide), fun z hz => ?_, h.le, ?_, ?_⟩
 ·show RowAt W' B 2 P.vfs (L ++ { y with fr := F ++ x' :: G } :: R).length ((L ++ { y with fr := F ++ x' :: G } :: R).flatMap fiberF)
  rw [hcells, hlen]
  exact h.row.chg hc (fun g e => ne g (.inl (by simp [e]))) (by decide)
 ·have hz' : z ∈ L ++ { y with fr := F ++ x' :: G } :: R := hz
  rcases List.mem_append.1 hz' with h1 | h1
  ·refine (h.fs z (by rw [hP]; simp [h1])).chg hc fun g hg => ne g (.inl ?_)
   exact List.mem_cons_of_mem _ (List.mem_append.2 (.inr (List.mem_flatMap.2 ⟨z, h1, hg⟩)))
  ·rcases List.mem_cons.1 h1 with rfl | h1
   ·refine ⟨hyO.i, hrow, fun u hu => ?_, by show (F ++ x' :: G).length ≤ 1000; rw [hflen]; exact hyO.few⟩
    have hu' : u ∈ F ++ x' :: G := hu
    rcases List.mem_append.1 hu' with h2 | h2
    ·exact (hyO.fr u (by rw [hy]; simp [h2])).chg hc fun g hg => ne g (.inr (List.mem_append.2 (.inl (List.mem_flatMap.2 ⟨u, h2, hg⟩))))
    ·rcases List.mem_cons.1 h2 with rfl | h2
     ·exact hx
     ·exact (hyO.fr u (by rw [hy]; simp [h2])).chg hc fun g hg => ne g (.inr (List.mem_append.2 (.inr (List.mem_append.2 (.inl (List.mem_flatMap.2 ⟨u, h2, hg⟩))))))
   ·exact (h.fs z (by rw [hP]; simp [h1])).chg hc fun g hg => ne g (.inr (List.mem_append.2 (.inr (List.mem_append.2 (.inr (List.mem_flatMap.2 ⟨z, h1, hg⟩))))))
 ·show (L ++ { y with fr := F ++ x' :: G } :: R).length ≤ 1000 ∧ P.out.length ≤ 1000
  rw [hlen]
  exact h.few
 ·rw [hbl']
  exact nodup_swap hnd hn hs fun g hg => hlt g (by rcases List.mem_append.1 hg with h1 | h1 <;> simp [h1])
end Go.Proofs.YtgahbngbpfilgaaGreat
end
section
set_option maxHeartbeats 400000
namespace Go.Proofs.YtgahbngbpfilgaaGreat
open Go Go.RowKit
theorem IRow.made {w : World} {base : Nat} {e : TypeId} {g n : Nat} (h : w.ownsRow base e 1 (.slice (some ⟨g, 0, none⟩) n n) n (madeCells (Value.int .i64 0).cells (n * 1)).toList) : IRow w base g (List.replicate n 0) := by
 have := RowAt.of_own h
 unfold IRow
 rw [List.length_replicate]
 rw [show (Value.int .i64 0).cells = #[.int .i64 0] from rfl, toList_madeCells_one, Nat.mul_one] at this
 rwa [show Proofs.YtgahbngbpfilgaaGreat.ints (List.replicate n 0) = List.replicate n (Value.int .i64 0) by simp [Proofs.YtgahbngbpfilgaaGreat.ints]]
theorem Sl.one {α : Type} {E : Nat → Nat → α → Prop} {sz bytes b o : Nat} {y : α} (h : E b o y) (hb : bytes ≤ 1000) : Sl E sz bytes (.slice (some ⟨b, o, none⟩) 1 1) [y] := by
 refine ⟨_, 1, rfl, Nat.le_refl _, ⟨by simp; omega, by decide⟩, fun i hi => ⟨b, o, rfl, ?_⟩⟩
 have : i = 0 := by simpa using hi
 subst this
 rw [Nat.zero_mul, Nat.add_zero]
 exact h
theorem box3 {W : World} {b : Nat} {u0 u1 u2 : Value} (h0 : Cx W b 0 u0) (h1 : Cx W b 1 u1) (h2 : Cx W b 2 u2) (x y z : Value) :
  (((W.setCell ⟨b, 0, none⟩ x).setCell ⟨b, 1, none⟩ y).setCell ⟨b, 2, none⟩ z).rangeAt b 0 [x, y, z] :=
 range3 (((h0.set x).other (.inr (by decide)) y).other (.inr (by decide)) z).1 (((h1.other (.inr (by decide)) x).set y).other (.inr (by decide)) z).1 (((h2.other (.inr (by decide)) x).other (.inr (by decide)) y).set z).1
theorem chg3 (W : World) (b : Nat) (x y z : Value) : Chg (· = b) W (((W.setCell ⟨b, 0, none⟩ x).setCell ⟨b, 1, none⟩ y).setCell ⟨b, 2, none⟩ z) := ((chg_one _ _ 0 _).trans (chg_one _ _ 1 _)).trans (chg_one _ _ 2 _)
theorem ext3 {w W : World} (h : Ext w W) (x y z : Value) : Ext w (((W.setCell ⟨w.heap.size, 0, none⟩ x).setCell ⟨w.heap.size, 1, none⟩ y).setCell ⟨w.heap.size, 2, none⟩ z) :=
 ((h.setCell (p := ⟨w.heap.size, 0, none⟩) (Nat.le_refl _) _).setCell (p := ⟨w.heap.size, 1, none⟩) (Nat.le_refl _) _).setCell (p := ⟨w.heap.size, 2, none⟩) (Nat.le_refl _) _
theorem results_cell2 {P : Program} {fn : Func} {p u : Tmp} {ty : TypeId} (h : fn.results = #[.cell p ty, .tmp u]) (tmps : Array Value) (w : World) (b o : Nat) (cs : List Value) (d : TypeDesc)
  (hp : tmps.getD p undef = .pointer (some ⟨b, o, none⟩)) (hc : w.rangeAt b o cs) (hu : P.underlying ty = some d) (hd : d.isRow = true) (hi : (P.info? ty).map (·.size) = some cs.length) :
  (results fn tmps).run P w = .ok (.tuple #[.agg cs.toArray, tmps.getD u undef]) w := by
 rw [results_cell_tmp h]
 have hp' : tmps[p]?.getD undef = .pointer (some ⟨b, o, none⟩) := by simpa using hp
 simp [hp', asAddr, run_loadVar_mid w b o ty cs d hc hu hd hi, Result.andThen]
end Go.Proofs.YtgahbngbpfilgaaGreat
end
