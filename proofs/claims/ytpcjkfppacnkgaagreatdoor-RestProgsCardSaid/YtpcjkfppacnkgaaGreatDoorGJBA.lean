/- Merged texts: contracts and plain facts, one part behind another; each part begins with what it says. -/
import Derived.Test.YtpcjkfppacnkgaaGreatDoorGJAJ
import Derived.Test.YtpcjkfppacnkgaaGreatDoorGJAZ
section
/- A state in own memory turned into another: contract of the document's called. -/
set_option maxHeartbeats 4000000
set_option maxRecDepth 100000
namespace Go.Proofs.YtpcjkfppacnkgaaGreatDoor
open Go Go.RowKit

/-- How far the args are pulled. -/
structure CallI (w wr : World) (B b : Nat) (P : PState) (p : List GFunc) (a : Int) (bx gl N j : Nat) (P' : PState) : Prop where
  own : OwnS wr B b P'
  g : P'.g = leaveG P.g j
  bl : ∀ k ∈ P'.bl, k ∈ P.bl ∨ w.heap.size ≤ k
  chg : Chg (· ∈ b :: P.bl) w wr
  nb : bx ∉ b :: P'.bl
  nl : gl ∉ b :: P'.bl
  row : RowAt wr w.heap.size 1 (.slice (some ⟨gl, 0, none⟩) N N) N (ints (argsOf p P.g a j))
  c0 : Cx wr bx 0 (.int .i64 a)
  c1 : Cx wr bx 1 (.int .i64 0)
  c2 : Cx wr bx 2 (.slice (some ⟨gl, 0, none⟩) N N)
  c3 : Cx wr bx 3 (.slice none 0 0)
theorem CallI.ext {w wr wr' : World} {B b : Nat} {P P' : PState} {p : List GFunc} {a : Int} {bx gl N j : Nat} (h : CallI w wr B b P p a bx gl N j P') (he : Ext wr wr') : CallI w wr' B b P p a bx gl N j P' :=
  ⟨h.own.ext he, h.g, h.bl, h.chg.trans (Chg.of_ext he), h.nb, h.nl, h.row.ext he (by decide), h.c0.ext he, h.c1.ext he, h.c2.ext he, h.c3.ext he⟩

theorem CallI.cell {w wr : World} {B b : Nat} {P P' : PState} {p : List GFunc} {a : Int} {bx gl N j : Nat} (h : CallI w wr B b P p a bx gl N j P') {r : Nat} (hr : r < N) (hN : N = (argsOf p P.g a j).length) : ∃ u, Cx wr gl r u := by
  obtain ⟨g, o, e, _, hc⟩ := h.row.cell (by omega)
  simp only [Option.some.injEq, Addr.mk.injEq] at e
  obtain ⟨rfl, rfl, -⟩ := e
  have := hc r (by omega)
  rw [ints_get _ _ (by omega), Nat.zero_add] at this
  exact ⟨_, this⟩
theorem CallI.pull {w wr wr' : World} {B b : Nat} {P P' : PState} {p : List GFunc} {a : Int} {bx gl N j r : Nat} (h : CallI w wr B b P p a bx gl N j P') (ht : HasTop P.g P.g.now) (hgl : w.heap.size ≤ gl) (hne : gl ≠ bx)
    (hj : j < (funcOf p a).args.toNat) (hl : j < (curX P.g).stack.length) (hr : (funcOf p a).args.toNat - j - 1 = r) (hN : r < N) (hNN : N = (argsOf p P.g a j).length) (t : Turn wr wr' B b P' (popG P'.g)) :
    ∃ P'', CallI w (wr'.setCell ⟨gl, r, none⟩ (.int .i64 (lastV P'.g))) B b P p a bx gl N (j + 1) P'' := by
  have hlg : gl < wr.heap.size := by
    obtain ⟨g, o, e, _, hc⟩ := h.row.cell (by omega)
    simp only [Option.some.injEq, Addr.mk.injEq] at e
    obtain ⟨rfl, rfl, -⟩ := e
    have := (hc 0 (by omega)).1
    rw [ints_get _ _ (by omega)] at this
    exact lt_of_cell this
  have hlb := h.c0.lt
  have hNM : ∀ k, k ∉ b :: P'.bl → ¬ (k ∈ b :: P'.bl) := fun k h => h
  obtain ⟨⟨P'', o, e, hs⟩, hc⟩ := t
  have nsub : ∀ k, k < wr.heap.size → k ∉ b :: P'.bl → k ∉ b :: P''.bl := fun k hk hn hm => by
    rcases List.mem_cons.1 hm with rfl | h1
    · exact hn List.mem_cons_self
    · rcases hs k h1 with h2 | h2
      · exact hn (List.mem_cons_of_mem _ h2)
      · omega
  have hnl := nsub gl hlg h.nl
  have hnb := nsub bx hlb h.nb
  have hC := chg_one wr' gl r (.int .i64 (lastV P'.g))
  have hrow : RowAt wr' w.heap.size 1 (.slice (some ⟨gl, 0, none⟩) N N) N (ints (argsOf p P.g a j)) := h.row.chg hc (fun k hk e => by
    have : k = gl := by
      by_cases h0 : N = 0
      · omega
      · rw [rowBlock_some _ _ _ _ h0] at hk; cases hk; rfl
    subst this; exact h.nl e) (by decide)
  refine ⟨P'', o.chg hC (fun e => hnl (by rw [show b = gl from e]; exact List.mem_cons_self)) (fun k hk e => hnl (by rw [← show k = gl from e]; exact List.mem_cons_of_mem _ hk)), ?_, fun k hk => ?_, ?_, hnb, hnl, ?_, ?_, ?_, ?_, ?_⟩
  · rw [e, h.g, ← leave_succ]
  · rcases hs k hk with h1 | h1
    · exact h.bl k h1
    · exact .inr (Nat.le_trans h.chg.size h1)
  · refine (h.chg.trans' hc fun n hn hm => ?_).setCell (p := ⟨gl, r, none⟩) (.inr hgl) _
    rcases List.mem_cons.1 hm with rfl | h1
    · exact List.mem_cons_self
    · rcases h.bl n h1 with h2 | h2
      · exact List.mem_cons_of_mem _ h2
      · omega
  · rw [← argsOf_succ p P.g ht a j hj hl, hr, ← ints_set, ← h.g]
    have h9 := hrow.store (j := r) (by omega) (.int .i64 (lastV P'.g))
    rwa [Nat.zero_add] at h9
  · exact (h.c0.chg hc h.nb).other (.inl (Ne.symm hne)) _
  · exact (h.c1.chg hc h.nb).other (.inl (Ne.symm hne)) _
  · exact (h.c2.chg hc h.nb).other (.inl (Ne.symm hne)) _
  · exact (h.c3.chg hc h.nb).other (.inl (Ne.symm hne)) _

end Go.Proofs.YtpcjkfppacnkgaaGreatDoor
end
section
/- A state in own memory turned into another: contract of the document's done. -/
set_option maxHeartbeats 4000000
set_option maxRecDepth 100000
namespace Go.Proofs.YtpcjkfppacnkgaaGreatDoor
open Go Go.RowKit

theorem OwnS.ge {W : World} {B b : Nat} {P : PState} (h : OwnS W B b P) : ∀ g ∈ b :: P.bl, B ≤ g := by
  intro g hg
  rcases List.mem_cons.1 hg with rfl | hg
  · exact h.le
  · unfold PState.bl at hg
    rcases List.mem_append.1 hg with h1 | h1
    · rcases List.mem_append.1 h1 with h2 | h2
      · exact h.row.le g (by simpa using h2)
      · exact h.out.le g (by simpa using h2)
    · obtain ⟨y, hy, h2⟩ := List.mem_flatMap.1 h1
      unfold PFiber.bl at h2
      rcases List.mem_append.1 h2 with h3 | h3
      · exact (h.fs y hy).row.le g (by simpa using h3)
      · obtain ⟨x, hx, h4⟩ := List.mem_flatMap.1 h3
        unfold PFrame.bl at h4
        rcases List.mem_append.1 h4 with h5 | h5
        · exact ((h.fs y hy).fr x hx).l.le g (by simpa using h5)
        · exact ((h.fs y hy).fr x hx).s.le g (by simpa using h5)
theorem FewS.cur {s : GState} (h : FewS s) (ht : HasTop s s.now) : (curF s).frames.length < 1000 := by
  have hm : curF s ∈ s.fibers := by
    unfold curF
    rw [List.getD_eq_getElem?_getD, List.getElem?_eq_getElem (by have := ht.1; have := ht.2.1; omega)]
    exact List.getElem_mem _
  have := (h.2.2 _ hm).1
  omega

end Go.Proofs.YtpcjkfppacnkgaaGreatDoor
end
section
/- Contract of the document's waits and fresh. -/
set_option maxHeartbeats 4000000
set_option maxRecDepth 100000
namespace Go.Proofs.YtpcjkfppacnkgaaGreatDoor
open Go Go.RowKit

end Go.Proofs.YtpcjkfppacnkgaaGreatDoor
end
section
/- Contract of the document's fiberFine. -/
set_option maxHeartbeats 4000000
set_option maxRecDepth 100000
namespace Go.Proofs.YtpcjkfppacnkgaaGreatDoor
open Go Go.RowKit

/-- A frame in its cells. -/
structure FrameAt (w : World) (b o : Nat) (x : GFrame) (vl vs : Value) : Prop where
  f : w.cell? ⟨b, o, none⟩ = some (.int .i64 x.func)
  a : w.cell? ⟨b, o + 1, none⟩ = some (.int .i64 x.at_)
  l : w.cell? ⟨b, o + 2, none⟩ = some vl
  s : w.cell? ⟨b, o + 3, none⟩ = some vs
theorem FrameAt.ext {w w' : World} {b o : Nat} {x : GFrame} {vl vs : Value} (h : FrameAt w b o x vl vs) (he : Ext w w') : FrameAt w' b o x vl vs := ⟨Ext.cell he h.f, Ext.cell he h.a, Ext.cell he h.l, Ext.cell he h.s⟩
end Go.Proofs.YtpcjkfppacnkgaaGreatDoor
end
