/- Merged texts: contracts and plain facts, one part behind another; each part begins with what it says. -/
import Derived.Test.YtgahbngbpfilgaaGreatGEAC
import Derived.Test.YtgahbngbpfilgaaGreatGEAD
import Derived.Test.YtgahbngbpfilgaaGreatGEAF
import Derived.Test.YtgahbngbpfilgaaGreatGEAH
import Derived.Test.YtgahbngbpfilgaaGreatGEAJ
section
set_option maxHeartbeats 1000000
namespace Go.Proofs.YtgahbngbpfilgaaGreat
open Go Go.RowKit
def fnAt (fs : List GFrame) (g : Int) (j : Nat) : Int := if j + 1 < fs.length then (fs.getD (j + 1) default).func else g
def OnL (p : List GFunc) (fs : List GFrame) (g : Int) : Prop := ∀ j, j < fs.length → frameB p (fs.getD j default) = true ∧ waitB p (fs.getD j default) 11 (fnAt fs g j) = true
theorem getD_front {α : Type} [Inhabited α] {fs : List α} {x : α} {j : Nat} (h : j < fs.length) : (fs ++ [x]).getD j default = fs.getD j default := by
 simp [List.getD, List.getElem?_append_left h]
theorem getD_end {α : Type} [Inhabited α] {fs : List α} {x : α} : (fs ++ [x]).getD fs.length default = x := by simp [List.getD]
theorem fn_next (fs : List GFrame) (x : GFrame) {j : Nat} (h : j < fs.length) : ((fs ++ [x]).getD (j + 1) default).func = fnAt fs x.func j := by
 unfold fnAt
 by_cases hj : j + 1 < fs.length
 ·rw [if_pos hj, getD_front hj]
 ·rw [if_neg hj]
  have : j + 1 = fs.length := by omega
  rw [this, getD_end]
theorem frameB_func {p : List GFunc} {x : GFrame} (h : frameB p x = true) : 0 ≤ x.func ∧ x.func < p.length := (frameB_facts h).1
theorem fiber_split {p : List GFunc} {f : GFiber} {on runs : Bool} (h : fiberB p f on runs = true) (h0 : f.frames ≠ []) :
  ∃ fs x, f.frames = fs ++ [x] ∧ OnL p fs x.func ∧ frameB p x = true ∧ topB p f on runs x = true := by
 refine ⟨f.frames.dropLast, f.frames.getLast h0, (List.dropLast_concat_getLast h0).symm, ?_⟩
 have e := (List.dropLast_concat_getLast h0).symm
 generalize f.frames.dropLast = fs at *
 generalize f.frames.getLast h0 = x at *
 unfold fiberB at h
 rw [if_neg (by rw [e]; simp), Bool.and_eq_true] at h
 obtain ⟨h1, h2⟩ := h
 have h1 := allK_of h1
 rw [e] at h1 h2
 rw [List.length_append, List.length_singleton, Nat.add_sub_cancel, getD_end] at h2
 have hx := h1 fs.length (by simp)
 unfold onB at hx
 rw [getD_end, Bool.and_eq_true] at hx
 refine ⟨fun j hj => ?_, hx.1, h2⟩
 have hj1 := h1 j (by simp; omega)
 unfold onB at hj1
 rw [decide_eq_true (show j + 1 < (fs ++ [x]).length by simp; omega), fn_next fs x hj, getD_front hj] at hj1
 simp only [Bool.not_true, Bool.false_or, Bool.and_eq_true] at hj1
 exact ⟨hj1.1, hj1.2.2⟩
theorem fiber_join {p : List GFunc} {f : GFiber} {on runs : Bool} {fs : List GFrame} {x : GFrame} (e : f.frames = fs ++ [x]) (hl : OnL p fs x.func) (hx : frameB p x = true)
  (ht : topB p f on runs x = true) : fiberB p f on runs = true := by
 unfold fiberB
 rw [if_neg (by rw [e]; simp), Bool.and_eq_true]
 rw [e]
 refine ⟨allK_true fun j hj => ?_, ?_⟩
 ·rw [List.length_append, List.length_singleton] at hj
  unfold onB
  by_cases hj1 : j < fs.length
  ·obtain ⟨a1, a2⟩ := hl j hj1
   rw [decide_eq_true (show j + 1 < (fs ++ [x]).length by simp; omega), fn_next fs x hj1, getD_front hj1, a1, a2]
   have : 0 ≤ fnAt fs x.func j ∧ fnAt fs x.func j < p.length := by
    unfold fnAt
    split
    ·exact frameB_func (hl _ (by assumption)).1
    ·exact frameB_func hx
   rw [decide_eq_true this]
   rfl
  ·obtain rfl : j = fs.length := by omega
   rw [getD_end, hx, decide_eq_false (by simp)]
   rfl
 ·rw [List.length_append, List.length_singleton, Nat.add_sub_cancel, getD_end]
  exact ht
def Lk (fs : List GFiber) : Int → List Int → Prop
 | n, [] => n < 0
 | n, k :: r => k = n ∧ 0 ≤ n ∧ n ∉ r ∧ Lk fs (callerOf fs n) r
theorem lk_of_go {fs : List GFiber} : ∀ (k : Nat) (n : Int) (out l : List Int), lineGo fs k n out = some l → ∃ r, l = out ++ r ∧ Lk fs n r ∧ ∀ x ∈ r, x ∉ out
 | 0, _, _, _, h => by cases h
 | k + 1, n, out, l, h => by
  rw [lineGo] at h
  by_cases hn : n < 0
  ·rw [if_pos hn] at h
   cases h
   exact ⟨[], by simp, hn, fun _ h => by cases h⟩
  ·rw [if_neg hn] at h
   by_cases hm : n ∈ out
   ·rw [if_pos hm] at h; cases h
   ·rw [if_neg hm] at h
    obtain ⟨r, e, h1, h2⟩ := lk_of_go k _ _ l h
    refine ⟨n :: r, by rw [e]; simp, ⟨rfl, by omega, fun hin => h2 n hin (by simp), h1⟩, fun x hx => ?_⟩
    rcases List.mem_cons.1 hx with rfl | hx
    ·exact hm
    ·exact fun ho => h2 x hx (by simp [ho])
theorem go_of_lk {fs : List GFiber} : ∀ (r : List Int) (k : Nat) (n : Int) (out : List Int), Lk fs n r → (∀ x ∈ r, x ∉ out) → r.length < k → lineGo fs k n out = some (out ++ r)
 | _, 0, _, _, _, _, h => by omega
 | [], k + 1, n, out, h, _, _ => by
  rw [lineGo, if_pos (show n < 0 from h)]; simp
 | m :: r, k + 1, n, out, ⟨hm, h0, h1, h2⟩, h3, h4 => by
  subst hm
  rw [List.length_cons] at h4
  rw [lineGo, if_neg (by omega), if_neg (h3 _ (by simp)), go_of_lk r k _ _ h2 (fun x hx ho => ?_) (by omega)]
  ·simp
  ·rcases List.mem_append.1 ho with ho | ho
   ·exact h3 x (by simp [hx]) ho
   ·rw [List.mem_singleton] at ho
    subst ho
    exact h1 hx
theorem lk_congr {fs gs : List GFiber} : ∀ {r : List Int} {n : Int}, (∀ x ∈ r, callerOf fs x = callerOf gs x) → Lk fs n r → Lk gs n r
 | [], _, _, h => h
 | m :: r, n, hc, ⟨hm, h0, h1, h2⟩ => by
  subst hm
  exact ⟨rfl, h0, h1, by rw [← hc _ (by simp)]; exact lk_congr (fun x hx => hc x (by simp [hx])) h2⟩
theorem lk_nodup {fs : List GFiber} : ∀ {r : List Int} {n : Int}, Lk fs n r → r.Nodup
 | [], _, _ => by simp
 | m :: r, n, ⟨hm, _, h1, h2⟩ => by
  subst hm
  exact List.nodup_cons.2 ⟨h1, lk_nodup h2⟩
theorem lk_range {fs : List GFiber} (hc : ∀ k, k < fs.length → (fs.getD k default).caller ≤ (fs.length : Int) - 1) : ∀ {r : List Int} {n : Int}, Lk fs n r → n ≤ (fs.length : Int) - 1 → ∀ x ∈ r, 0 ≤ x ∧ x < fs.length
 | [], _, _, _, _, hx => by cases hx
 | m :: r, n, ⟨hm, h0, h1, h2⟩, hn, x, hx => by
  subst hm
  rcases List.mem_cons.1 hx with rfl | hx
  ·omega
  ·exact lk_range hc h2 (hc _ (by omega)) x hx
theorem lineS_of {s : GState} {l : List Int} (h : Lk s.fibers s.now l) (hl : l.length ≤ s.fibers.length) : lineS s = some l := by
 unfold lineS
 rw [go_of_lk l _ _ [] h (fun _ _ h => by cases h) (by omega)]
 rfl
theorem lk_of {s : GState} {l : List Int} (h : lineS s = some l) : Lk s.fibers s.now l := by
 obtain ⟨r, e, h1, _⟩ := lk_of_go _ _ _ _ h
 rw [e]
 simpa using h1
structure Ok (p : List GFunc) (s : GState) (l : List Int) : Prop where
 prog : progErr p = 0
 few : s.fibers.length ≤ 5
 out : s.out.length ≤ 30
 frames : ∀ k, k < s.fibers.length → (s.fibers.getD k default).frames.length ≤ 6
 pos : 0 < s.fibers.length
 now : -1 ≤ s.now ∧ s.now ≤ (s.fibers.length : Int) - 1
 callers : ∀ k, k < s.fibers.length → -1 ≤ (s.fibers.getD k default).caller ∧ (s.fibers.getD k default).caller ≤ (s.fibers.length : Int) - 1
 lk : Lk s.fibers s.now l
 ends : lineEnd l = true
 zero : (0 : Int) ∉ l → (s.fibers.getD 0 default).frames.length = 0
 fib : ∀ k, k < s.fibers.length → fiberB p (s.fibers.getD k default) (decide ((k : Int) ∈ l)) (decide ((k : Int) = s.now)) = true
theorem RightS.ok {p : List GFunc} {s : GState} {l : List Int} (h : RightS p s l) : Ok p s l := by
 refine ⟨h.prog, h.few, h.out, h.frames, h.pos, h.callers.now, h.callers.all, lk_of h.line, h.ends, fun h0 => ?_, fun k hk => ?_⟩
 ·have hb := h.fib 0 h.pos
  unfold fibK at hb
  rw [Bool.and_eq_true] at hb
  have h2 := hb.2
  rw [decide_eq_true rfl, decide_eq_false h0] at h2
  simp only [Bool.not_false, Bool.and_true, Bool.true_and] at h2
  have := of_decide_eq_false (by simpa using h2 : decide (0 < (s.fibers.getD 0 default).frames.length) = false)
  omega
 ·have hb := h.fib k hk
  unfold fibK at hb
  rw [Bool.and_eq_true] at hb
  exact hb.1
theorem Ok.right {p : List GFunc} {s : GState} {l : List Int} (h : Ok p s l) : RightS p s l := by
 have hl : l.length ≤ s.fibers.length := nodup_len _ _ (lk_nodup h.lk) (lk_range (fun k hk => (h.callers k hk).2) h.lk h.now.2)
 refine ⟨h.prog, h.few, h.out, h.frames, h.pos, ⟨h.now, h.callers, by have := h.few; omega⟩, lineS_of h.lk hl, h.ends, fun ⟨h1, h2⟩ => ?_, fun k hk => ?_⟩
 ·have : l = [] := by
   have := h.lk
   cases l with
   | nil => rfl
   | cons a r => obtain ⟨_, h0, _⟩ := this; omega
  have := h.zero (by rw [this]; simp)
  omega
 ·unfold fibK
  rw [h.fib k hk, Bool.true_and]
  by_cases h0 : k = 0
  ·subst h0
   by_cases hz : (0 : Int) ∈ l
   ·rw [decide_eq_true hz]; simp
   ·rw [decide_eq_false (show ¬ 0 < (s.fibers.getD 0 default).frames.length by rw [h.zero hz]; omega)]; simp
  ·rw [decide_eq_false h0]; simp
end Go.Proofs.YtgahbngbpfilgaaGreat
end
section
set_option maxHeartbeats 400000
namespace Go.Proofs.YtgahbngbpfilgaaGreat
open Go Go.RowKit
structure PFrame where
 f : GFrame
 vl : Value
 vs : Value
structure PFiber where
 fr : List PFrame
 caller : Int
 vf : Value
structure PState where
 fs : List PFiber
 now : Int
 out : List Int
 vfs : Value
 vo : Value
def PFiber.g (y : PFiber) : GFiber := ⟨y.fr.map PFrame.f, y.caller⟩
def PState.g (P : PState) : GState := ⟨P.fs.map PFiber.g, P.now, P.out⟩
def frameF (x : PFrame) : List Value := [.int .i64 x.f.func, .int .i64 x.f.at_, x.vl, x.vs]
def fiberF (y : PFiber) : List Value := [y.vf, .int .i64 y.caller]
def PFrame.bl (x : PFrame) : List Nat := (rowBlock x.vl).toList ++ (rowBlock x.vs).toList
def PFiber.bl (y : PFiber) : List Nat := (rowBlock y.vf).toList ++ y.fr.flatMap PFrame.bl
def PState.bl (P : PState) : List Nat := (rowBlock P.vfs).toList ++ (rowBlock P.vo).toList ++ P.fs.flatMap PFiber.bl
structure FrameO (W : World) (B : Nat) (x : PFrame) : Prop where
 i : I64 x.f.func ∧ I64 x.f.at_ ∧ (∀ n ∈ x.f.locals, I64 n) ∧ (∀ n ∈ x.f.stack, I64 n)
 l : RowAt W B 1 x.vl x.f.locals.length (ints x.f.locals)
 s : RowAt W B 1 x.vs x.f.stack.length (ints x.f.stack)
 few : x.f.locals.length ≤ 1000 ∧ x.f.stack.length ≤ 1000
structure FiberO (W : World) (B : Nat) (y : PFiber) : Prop where
 i : I64 y.caller
 row : RowAt W B 4 y.vf y.fr.length (y.fr.flatMap frameF)
 fr : ∀ x ∈ y.fr, FrameO W B x
 few : y.fr.length ≤ 1000
structure OwnS (W : World) (B b : Nat) (P : PState) : Prop where
 c0 : Cx W b 0 P.vfs
 c1 : Cx W b 1 (.int .i64 P.now)
 c2 : Cx W b 2 P.vo
 i : I64 P.now ∧ ∀ n ∈ P.out, I64 n
 row : RowAt W B 2 P.vfs P.fs.length (P.fs.flatMap fiberF)
 out : RowAt W B 1 P.vo P.out.length (ints P.out)
 fs : ∀ y ∈ P.fs, FiberO W B y
 le : B ≤ b
 few : P.fs.length ≤ 1000 ∧ P.out.length ≤ 1000
 nodup : (b :: P.bl).Nodup
theorem FrameO.chg {M : Nat → Prop} {W W' : World} {B : Nat} {x : PFrame} (h : FrameO W B x) (hc : Chg M W W') (hM : ∀ g ∈ x.bl, ¬ M g) : FrameO W' B x :=
 ⟨h.i, h.l.chg hc (fun g e => hM g (by unfold PFrame.bl; simp [e])) (by decide), h.s.chg hc (fun g e => hM g (by unfold PFrame.bl; simp [e])) (by decide), h.few⟩
theorem FiberO.chg {M : Nat → Prop} {W W' : World} {B : Nat} {y : PFiber} (h : FiberO W B y) (hc : Chg M W W') (hM : ∀ g ∈ y.bl, ¬ M g) : FiberO W' B y :=
 ⟨h.i, h.row.chg hc (fun g e => hM g (by unfold PFiber.bl; simp [e])) (by decide), fun x hx => (h.fr x hx).chg hc (fun g hg => hM g (by unfold PFiber.bl; exact List.mem_append.2 (.inr (List.mem_flatMap.2 ⟨x, hx, hg⟩)))), h.few⟩
theorem OwnS.chg {M : Nat → Prop} {W W' : World} {B b : Nat} {P : PState} (h : OwnS W B b P) (hc : Chg M W W') (hb : ¬ M b) (hM : ∀ g ∈ P.bl, ¬ M g) : OwnS W' B b P :=
 ⟨h.c0.chg hc hb, h.c1.chg hc hb, h.c2.chg hc hb, h.i, h.row.chg hc (fun g e => hM g (by unfold PState.bl; simp [e])) (by decide), h.out.chg hc (fun g e => hM g (by unfold PState.bl; simp [e])) (by decide),
  fun y hy => (h.fs y hy).chg hc (fun g hg => hM g (by unfold PState.bl; exact List.mem_append.2 (.inr (List.mem_flatMap.2 ⟨y, hy, hg⟩)))), h.le, h.few, h.nodup⟩
theorem OwnS.ext {W W' : World} {B b : Nat} {P : PState} (h : OwnS W B b P) (he : Ext W W') : OwnS W' B b P := h.chg (M := fun _ => False) (Chg.of_ext he) (fun h => h) (fun _ _ h => h)
theorem FrameO.ints {W : World} {B : Nat} {x : PFrame} (h : FrameO W B x) (S : Nat → Prop) (hS : ∀ g, B ≤ g → S g) : Ints W S x.vl x.f.locals ∧ Ints W S x.vs x.f.stack := by
 have f := h.few
 exact ⟨Ints.of_row (by rw [flatMap_intF]; exact h.l) (by omega) h.i.2.2.1 S (fun b hb _ => hS b hb), Ints.of_row (by rw [flatMap_intF]; exact h.s) (by omega) h.i.2.2.2 S (fun b hb _ => hS b hb)⟩
theorem Sl.map' {α β : Type} {E : Nat → Nat → β → Prop} {sz bytes : Nat} {v : Value} {l : List α} (f : α → β) (h : Sl (fun b o y => E b o (f y)) sz bytes v l) : Sl E sz bytes v (l.map f) := by
 obtain ⟨a, cap, rfl, h1, h2, h3⟩ := h
 refine ⟨a, cap, by rw [List.length_map], by rw [List.length_map]; exact h1, by rw [List.length_map]; exact h2, fun i hi => ?_⟩
 obtain ⟨b, o, e, h4⟩ := h3 i (by rwa [List.length_map] at hi)
 exact ⟨b, o, e, by rw [List.getElem_map]; exact h4⟩
theorem FiberO.frames {W : World} {B : Nat} {y : PFiber} (h : FiberO W B y) (S : Nat → Prop) (hS : ∀ g, B ≤ g → S g) : Frames W S y.vf (y.fr.map PFrame.f) := by
 have f := h.few
 refine Sl.map' PFrame.f (Sl.of_row frameF h.row (fun _ => rfl) (by omega) fun b o x hb _ hx hc => ?_)
 have hx' := h.fr x hx
 exact ⟨⟨hS b hb, hc 0 _ rfl, hx'.i.1⟩, ⟨hS b hb, hc 1 _ rfl, hx'.i.2.1⟩, ⟨_, hc 2 _ rfl, (hx'.ints S hS).1⟩, _, hc 3 _ rfl, (hx'.ints S hS).2⟩
theorem OwnS.state {W : World} {B b : Nat} {P : PState} (h : OwnS W B b P) (S : Nat → Prop) (hS : ∀ g, B ≤ g → S g) : StateV W S (.agg #[P.vfs, .int .i64 P.now, P.vo]) P.g := by
 have f := h.few
 refine ⟨_, _, rfl, Sl.map' PFiber.g (Sl.of_row fiberF h.row (fun _ => rfl) (by omega) fun b o y hb _ hy hc => ?_), h.i.1, Ints.of_row (by rw [flatMap_intF]; exact h.out) (show P.out.length * 8 ≤ _ by omega) h.i.2 S (fun b hb _ => hS b hb)⟩
 have hy' := h.fs y hy
 exact ⟨⟨_, hc 0 _ rfl, hy'.frames S hS⟩, hS b hb, hc 1 _ rfl, hy'.i⟩
end Go.Proofs.YtgahbngbpfilgaaGreat
end
section
set_option maxHeartbeats 400000
namespace Go.Proofs.YtgahbngbpfilgaaGreat
open Go Go.RowKit
theorem nodup_swap {A X X' C : List Nat} {n : Nat} (h : (A ++ X ++ C).Nodup) (hX : X'.Nodup) (hs : ∀ g ∈ X', g ∈ X ∨ n ≤ g) (hlt : ∀ g ∈ A ++ C, g < n) : (A ++ X' ++ C).Nodup := by
 rw [List.append_assoc, List.nodup_append] at h ⊢
 obtain ⟨hA, hXC, hd⟩ := h
 rw [List.nodup_append] at hXC ⊢
 obtain ⟨_, hC, hd2⟩ := hXC
 refine ⟨hA, ⟨hX, hC, fun a ha c hc e => ?_⟩, fun a ha c hc e => ?_⟩
 ·rcases hs a ha with h1 | h1
  ·exact hd2 a h1 c hc e
  ·have := hlt c (List.mem_append.2 (.inr hc))
   omega
 ·rcases List.mem_append.1 hc with h1 | h1
  ·rcases hs c h1 with h2 | h2
   ·exact hd a ha c (List.mem_append.2 (.inl h2)) e
   ·have := hlt a (List.mem_append.2 (.inl ha))
    omega
  ·exact hd a ha c (List.mem_append.2 (.inr h1)) e
theorem nodup_swap' {A X X' C : List Nat} (h : (A ++ X ++ C).Nodup) (hX : X'.Nodup) (hs : ∀ g ∈ X', g ∈ X ∨ g ∉ A ++ C) : (A ++ X' ++ C).Nodup := by
 rw [List.append_assoc, List.nodup_append] at h ⊢
 obtain ⟨hA, hXC, hd⟩ := h
 rw [List.nodup_append] at hXC ⊢
 obtain ⟨_, hC, hd2⟩ := hXC
 refine ⟨hA, ⟨hX, hC, fun a ha c hc e => ?_⟩, fun a ha c hc e => ?_⟩
 ·rcases hs a ha with h1 | h1
  ·exact hd2 a h1 c hc e
  ·exact h1 (List.mem_append.2 (.inr (e ▸ hc)))
 ·rcases List.mem_append.1 hc with h1 | h1
  ·rcases hs c h1 with h2 | h2
   ·exact hd a ha c (List.mem_append.2 (.inl h2)) e
   ·exact h2 (List.mem_append.2 (.inl (e ▸ ha)))
  ·exact hd a ha c (List.mem_append.2 (.inr h1)) e
theorem RowAt.lt2 {w : World} {base size : Nat} {v : Value} {n : Nat} {xs : List Value} (h : RowAt w base size v n xs) (hs : 0 < size) : ∀ g, rowBlock v = some g → g < w.heap.size := by
 obtain ⟨_, a, cap, rfl, _, _, h3⟩ := h
 intro g hg
 rcases h3 with h0 | ⟨g', o, rfl, _, _, ht⟩
 ·subst h0; cases a <;> simp [rowBlock] at hg
 ·by_cases hc : cap = 0
  ·subst hc; simp [rowBlock] at hg
  ·rw [rowBlock_some g' o n cap hc] at hg
   cases hg
   obtain ⟨v, hv⟩ := Option.isSome_iff_exists.1 (ht 0 (Nat.mul_pos (by omega) hs)).1
   exact lt_of_cell hv
theorem FrameO.lt {W : World} {B : Nat} {x : PFrame} (h : FrameO W B x) : ∀ g ∈ x.bl, g < W.heap.size := by
 intro g hg
 unfold PFrame.bl at hg
 rcases List.mem_append.1 hg with h1 | h1
 ·exact h.l.lt2 (by decide) g (by simpa using h1)
 ·exact h.s.lt2 (by decide) g (by simpa using h1)
theorem FiberO.lt {W : World} {B : Nat} {y : PFiber} (h : FiberO W B y) : ∀ g ∈ y.bl, g < W.heap.size := by
 intro g hg
 unfold PFiber.bl at hg
 rcases List.mem_append.1 hg with h1 | h1
 ·exact h.row.lt2 (by decide) g (by simpa using h1)
 ·obtain ⟨x, hx, h2⟩ := List.mem_flatMap.1 h1
  exact (h.fr x hx).lt g h2
theorem OwnS.lt {W : World} {B b : Nat} {P : PState} (h : OwnS W B b P) : ∀ g ∈ b :: P.bl, g < W.heap.size := by
 intro g hg
 rcases List.mem_cons.1 hg with rfl | hg
 ·exact h.c0.lt
 ·unfold PState.bl at hg
  rcases List.mem_append.1 hg with h1 | h1
  ·rcases List.mem_append.1 h1 with h2 | h2
   ·exact h.row.lt2 (by decide) g (by simpa using h2)
   ·exact h.out.lt2 (by decide) g (by simpa using h2)
  ·obtain ⟨y, hy, h2⟩ := List.mem_flatMap.1 h1
   exact (h.fs y hy).lt g h2
theorem OwnS.frame {W W' : World} {B b : Nat} {P : PState} {L R : List PFiber} {F G : List PFrame} {y : PFiber} {x x' : PFrame} {M : Nat → Prop} (h : OwnS W B b P) (hP : P.fs = L ++ y :: R) (hy : y.fr = F ++ x :: G)
  (hc : Chg M W W') (hM : ∀ g, M g → g < W.heap.size → rowBlock y.vf = some g ∨ g ∈ x.bl) (hx : FrameO W' B x') (hrow : RowAt W' B 4 y.vf (F ++ x' :: G).length ((F ++ x' :: G).flatMap frameF))
  (hn : x'.bl.Nodup) (hs : ∀ g ∈ x'.bl, g ∈ x.bl ∨ W.heap.size ≤ g) :
  OwnS W' B b { P with fs := L ++ { y with fr := F ++ x' :: G } :: R } := by
 have hlt := h.lt
 have hyO := h.fs y (by rw [hP]; simp)
 let A := b :: ((rowBlock P.vfs).toList ++ (rowBlock P.vo).toList ++ L.flatMap PFiber.bl ++ (rowBlock y.vf).toList ++ F.flatMap PFrame.bl)
 let C := G.flatMap PFrame.bl ++ R.flatMap PFiber.bl
 have hbl : b :: P.bl = A ++ x.bl ++ C := by
  show b :: P.bl = b :: _ ++ x.bl ++ C
  unfold PState.bl
  rw [hP, List.flatMap_append, List.flatMap_cons]
  have : y.bl = (rowBlock y.vf).toList ++ (F.flatMap PFrame.bl ++ (x.bl ++ G.flatMap PFrame.bl)) := by unfold PFiber.bl; rw [hy, List.flatMap_append, List.flatMap_cons]
  rw [this]
  simp [C, List.append_assoc]
 have hnd := h.nodup
 rw [hbl] at hnd hlt
 have hfree : ∀ g, g ∈ A ++ C → rowBlock y.vf ≠ some g → ¬ M g := fun g hg hvf hm => by
  rcases hM g hm (hlt g (by rcases List.mem_append.1 hg with h1 | h1 <;> simp [h1])) with h1 | h1
  ·exact hvf h1
  ·rw [List.append_assoc, List.nodup_append] at hnd
   obtain ⟨_, h2, h3⟩ := hnd
   rw [List.nodup_append] at h2
   rcases List.mem_append.1 hg with h4 | h4
   ·exact h3 g h4 g (by simp [h1]) rfl
   ·exact h2.2.2 g h1 g h4 rfl
 have hnot : ∀ g, rowBlock y.vf = some g → ∀ g', g' ∈ (b :: ((rowBlock P.vfs).toList ++ (rowBlock P.vo).toList ++ L.flatMap PFiber.bl)) ∨ g' ∈ F.flatMap PFrame.bl ++ C → g ≠ g' := fun g hg g' h1 e => by
  subst e
  have hA : A = (b :: ((rowBlock P.vfs).toList ++ (rowBlock P.vo).toList ++ L.flatMap PFiber.bl)) ++ (rowBlock y.vf).toList ++ F.flatMap PFrame.bl := by simp [A, List.append_assoc]
  rw [hA, List.append_assoc, List.append_assoc, List.append_assoc, List.nodup_append] at hnd
  obtain ⟨_, h2, h3⟩ := hnd
  rcases h1 with h1 | h1
  ·exact h3 g h1 g (by simp [hg]) rfl
  ·rw [List.nodup_append] at h2
   refine h2.2.2 g (by simp [hg]) g ?_ rfl
   rcases List.mem_append.1 h1 with h4 | h4 <;> simp [h4]
 have hA' : A = (b :: ((rowBlock P.vfs).toList ++ (rowBlock P.vo).toList ++ L.flatMap PFiber.bl)) ++ (rowBlock y.vf).toList ++ F.flatMap PFrame.bl := by simp [A, List.append_assoc]
 have ne : ∀ g, (g ∈ (b :: ((rowBlock P.vfs).toList ++ (rowBlock P.vo).toList ++ L.flatMap PFiber.bl)) ∨ g ∈ F.flatMap PFrame.bl ++ C) → ¬ M g := fun g hg => by
  refine hfree g ?_ (fun e => hnot g e g hg rfl)
  rcases hg with h1 | h1
  ·exact List.mem_append.2 (.inl (by rw [hA', List.append_assoc]; exact List.mem_append.2 (.inl h1)))
  ·rcases List.mem_append.1 h1 with h2 | h2
   ·exact List.mem_append.2 (.inl (by simp only [A]; simp [h2]))
   ·exact List.mem_append.2 (.inr h2)
 have hb : ¬ M b := ne b (.inl (by simp))
 have hcells : (L ++ { y with fr := F ++ x' :: G } :: R).flatMap fiberF = P.fs.flatMap fiberF := by rw [hP, List.flatMap_append, List.flatMap_append, List.flatMap_cons, List.flatMap_cons]; rfl
 have hlen : (L ++ { y with fr := F ++ x' :: G } :: R).length = P.fs.length := by rw [hP]; simp
 have hflen : (F ++ x' :: G).length = y.fr.length := by rw [hy]; simp
 have hbl' : b :: PState.bl { P with fs := L ++ { y with fr := F ++ x' :: G } :: R } = A ++ x'.bl ++ C := by
  show b :: _ = b :: _ ++ x'.bl ++ C
  unfold PState.bl
  simp only [List.flatMap_append, List.flatMap_cons]
  have : PFiber.bl { y with fr := F ++ x' :: G } = (rowBlock y.vf).toList ++ (F.flatMap PFrame.bl ++ (x'.bl ++ G.flatMap PFrame.bl)) := by unfold PFiber.bl; simp only [List.flatMap_append, List.flatMap_cons]
  rw [this]
  simp [C, List.append_assoc]
 refine ⟨h.c0.chg hc hb, h.c1.chg hc hb, h.c2.chg hc hb, h.i, ?_, h.out.chg hc (fun g e => ne g (.inl (by simp [e]))) (by decide), fun z hz => ?_, h.le, ?_, ?_⟩
 ·show RowAt W' B 2 P.vfs (L ++ { y with fr := F ++ x' :: G } :: R).length ((L ++ { y with fr := F ++ x' :: G } :: R).flatMap fiberF)
  rw [hcells, hlen]
  exact h.row.chg hc (fun g e => ne g (.inl (by simp [e]))) (by decide)
 ·have hz' : z ∈ L ++ { y with fr := F ++ x' :: G } :: R := hz
  rcases List.mem_append.1 hz' with h1 | h1
  ·refine (h.fs z (by rw [hP]; simp [h1])).chg hc fun g hg => ne g (.inl ?_)
   exact List.mem_cons_of_mem _ (List.mem_append.2 (.inr (List.mem_flatMap.2 ⟨z, h1, hg⟩)))
  ·rcases List.mem_cons.1 h1 with rfl | h1
   ·refine ⟨hyO.i, hrow, fun u hu => ?_, by show (F ++ x' :: G).length ≤ 1000; rw [hflen]; exact hyO.few⟩
    have hu' : u ∈ F ++ x' :: G := hu
    rcases List.mem_append.1 hu' with h2 | h2
    ·exact (hyO.fr u (by rw [hy]; simp [h2])).chg hc fun g hg => ne g (.inr (List.mem_append.2 (.inl (List.mem_flatMap.2 ⟨u, h2, hg⟩))))
    ·rcases List.mem_cons.1 h2 with rfl | h2
     ·exact hx
     ·exact (hyO.fr u (by rw [hy]; simp [h2])).chg hc fun g hg => ne g (.inr (List.mem_append.2 (.inr (List.mem_append.2 (.inl (List.mem_flatMap.2 ⟨u, h2, hg⟩))))))
   ·exact (h.fs z (by rw [hP]; simp [h1])).chg hc fun g hg => ne g (.inr (List.mem_append.2 (.inr (List.mem_append.2 (.inr (List.mem_flatMap.2 ⟨z, h1, hg⟩))))))
 ·show (L ++ { y with fr := F ++ x' :: G } :: R).length ≤ 1000 ∧ P.out.length ≤ 1000
  rw [hlen]
  exact h.few
 ·rw [hbl']
  exact nodup_swap hnd hn hs fun g hg => hlt g (by rcases List.mem_append.1 hg with h1 | h1 <;> simp [h1])
end Go.Proofs.YtgahbngbpfilgaaGreat
end
section
set_option maxHeartbeats 4000000
set_option maxRecDepth 100000
namespace Go.Proofs.YtgahbngbpfilgaaGreat
open Go Go.RowKit
section
variable {α : Type} (f : α → List Value) {sz : Nat} (hf : ∀ y, (f y).length = sz)
include hf
theorem flat_len (l : List α) : (l.flatMap f).length = l.length * sz := by
 induction l with
 | nil => simp
 | cons y l ih => simp [ih, hf, Nat.add_mul]; omega
theorem flat_at (L : List α) (y : α) (R : List α) {r : Nat} (hr : r < sz) : ((L ++ y :: R).flatMap f)[L.length * sz + r]? = (f y)[r]? := by
 rw [List.flatMap_append, List.flatMap_cons, List.getElem?_append_right (by rw [flat_len f hf]; omega), flat_len f hf, Nat.add_sub_cancel_left, List.getElem?_append_left (by rw [hf]; exact hr)]
theorem flat_set (L : List α) (y y' : α) (R : List α) {r : Nat} (hr : r < sz) {u : Value} (h : f y' = (f y).set r u) : ((L ++ y :: R).flatMap f).set (L.length * sz + r) u = (L ++ y' :: R).flatMap f := by
 rw [List.flatMap_append, List.flatMap_cons, List.flatMap_append, List.flatMap_cons, List.set_append_right _ _ (by rw [flat_len f hf]; omega), flat_len f hf, Nat.add_sub_cancel_left, List.set_append_left _ _ (by rw [hf]; exact hr), h]
theorem RowAt.place {W : World} {B : Nat} {v : Value} {L R : List α} {y : α} (h : RowAt W B sz v (L ++ y :: R).length ((L ++ y :: R).flatMap f)) :
  ∃ g o cap, v = .slice (some ⟨g, o, none⟩) (L ++ y :: R).length cap ∧ rowBlock v = some g ∧ (L ++ y :: R).length ≤ cap ∧ cap ≤ maxLen ∧ ∀ r u, r < sz → (f y)[r]? = some u → Cx W g (o + L.length * sz + r) u := by
 obtain ⟨hl, a, cap, rfl, h1, h2, h3⟩ := h
 have hn : 0 < (L ++ y :: R).length := by simp only [List.length_append, List.length_cons]; omega
 obtain ⟨g, o, rfl, hb, hc, ht⟩ := h3.resolve_left (by omega)
 refine ⟨g, o, cap, rfl, rowBlock_some _ _ _ _ (by omega), h1, h2, fun r u hr hu => ?_⟩
 have hlt : L.length * sz + r < (L ++ y :: R).length * sz := by
  rw [List.length_append, List.length_cons, Nat.add_mul, Nat.add_mul, Nat.one_mul]; omega
 have hcap : (L ++ y :: R).length * sz ≤ cap * sz := Nat.mul_le_mul_right _ h1
 rw [Nat.add_assoc]
 exact ⟨(hc _ hlt).trans ((flat_at f hf L y R hr).trans hu), (ht _ (by omega)).2⟩
theorem RowAt.storeAt {W : World} {B : Nat} {L R : List α} {y y' : α} {g o n cap : Nat} (h : RowAt W B sz (.slice (some ⟨g, o, none⟩) n cap) (L ++ y :: R).length ((L ++ y :: R).flatMap f)) {r : Nat} (hr : r < sz) {u : Value} (hu : f y' = (f y).set r u) :
  RowAt (W.setCell ⟨g, o + L.length * sz + r, none⟩ u) B sz (.slice (some ⟨g, o, none⟩) n cap) (L ++ y' :: R).length ((L ++ y' :: R).flatMap f) := by
 have e : n = (L ++ y :: R).length := by obtain ⟨a, c, e, _⟩ := h.shape; simp only [Value.slice.injEq] at e; exact e.2.1
 subst e
 have hlt : L.length * sz + r < (L ++ y :: R).length * sz := by
  rw [List.length_append, List.length_cons, Nat.add_mul, Nat.add_mul, Nat.one_mul]; omega
 have := RowAt.store h hlt u
 rw [flat_set f hf L y y' R hr hu, ← Nat.add_assoc] at this
 rw [show (L ++ y' :: R).length = (L ++ y :: R).length by simp]
 exact this
end
structure Spot (P : PState) (L : List PFiber) (y : PFiber) (R : List PFiber) (F : List PFrame) (x : PFrame) : Prop where
 fs : P.fs = L ++ y :: R
 fr : y.fr = F ++ [x]
def replTop (P : PState) (L : List PFiber) (y : PFiber) (R : List PFiber) (F : List PFrame) (x : PFrame) : PState := { P with fs := L ++ { y with fr := F ++ [x] } :: R }
theorem top_any {P : PState} {L R : List PFiber} {y : PFiber} {F : List PFrame} {x : PFrame} {w : World} {B b g o cap : Nat} (h : OwnS w B b P) (hs : Spot P L y R F x) (hv : y.vf = .slice (some ⟨g, o, none⟩) (F ++ [x]).length cap) (n : Nat) (hn : n = L.length) :
    Calls Tryz.prog 91 #[.pointer (some ⟨b, 0, none⟩), .int .i64 n] w fun e w' => e = .returned (.pointer (some ⟨g, o + F.length * 4, none⟩)) ∧ Ext w w' := by
  have hrow := h.row
  have hfew := h.few
  rw [hs.fs] at hrow hfew
  obtain ⟨⟨c0, -⟩, -, -⟩ := (⟨h.c0, h.c1, h.c2⟩ : _ ∧ _ ∧ _)
  obtain ⟨g0, o0, cap0, e0, hb0, hc0, hm0, hx0⟩ := RowAt.place fiberF (fun _ => rfl) hrow
  rw [e0] at c0
  obtain ⟨d0, -⟩ := hx0 0 _ (by decide) rfl
  rw [hv, Nat.add_zero] at d0
  have hnk : L.length < (L ++ y :: R).length := by simp
  have hfr : (F ++ [x]).length ≤ 1000 := by
    have := (h.fs y (by rw [hs.fs]; simp)).few
    rwa [hs.fr] at this
  have hm1 : (F ++ [x]).length = F.length + 1 := by simp
  have hmN : F.length < (F ++ [x]).length := by omega
  have KK : IntKind.i64.wrap (((F ++ [x]).length : Int) - 1) = (F.length : Int) := by
    have e : (((F ++ [x]).length : Int) - 1) = (F.length : Int) := by omega
    rw [e]; exact IntWalk.i64_in _ (by omega)
  subst hn
  clear hrow hx0 hb0 hm0 hm1 hs hv
  have RA := alloc_keep
  generalize L.length = n at *
  generalize F.length = m at *
  generalize (L ++ y :: R).length = nk at *
  generalize (F ++ [x]).length = mk at *
  go_enter Tryz.func91, Tryz.ntmps91
  go_upto_region 2 with fail
  refine wp_region_ext (by kernel_rfl) (by kernel_rfl) ?_
  repeat (first
    | go_big_quiet_skip
    | (go_big_quiet_want
       unfold Oper.quiet
       apply Exists.intro
       refine ⟨fun w' hw' => ?_, ?_⟩
       focus
         have hcq := Ext.keep hw'
         go_simp
         first
           | with_reducible rfl
       (try dsimp only [Act.put])
       (try simp only [List.setIfInBounds_toArray, List.set_cons_succ, List.set_cons_zero])
       go_big_quiet_on))
  refine wpQuiet_nil ?_
  intro wq hq
  go_wp2_with fail
  go_ret
  exact ⟨rfl, hq⟩
end Go.Proofs.YtgahbngbpfilgaaGreat
end
