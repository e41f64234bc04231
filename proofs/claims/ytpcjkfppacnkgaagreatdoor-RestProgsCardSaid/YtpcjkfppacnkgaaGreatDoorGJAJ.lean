/- Merged texts: contracts and plain facts, one part behind another; each part begins with what it says. -/
import Derived.Test.YtpcjkfppacnkgaaGreatDoorGJAC
import Derived.Test.YtpcjkfppacnkgaaGreatDoorGJAD
import Derived.Test.YtpcjkfppacnkgaaGreatDoorGJAE
import Derived.Test.YtpcjkfppacnkgaaGreatDoorGJAG
import Derived.Test.YtpcjkfppacnkgaaGreatDoorGJAH
import Derived.Test.YtpcjkfppacnkgaaGreatDoorGJAI
section
/- A state in the call's own memory: what a change of one frame leaves. No condition. -/
set_option maxHeartbeats 400000
namespace Go.Proofs.YtpcjkfppacnkgaaGreatDoor
open Go Go.RowKit

theorem nodup_swap {A X X' C : List Nat} {n : Nat} (h : (A ++ X ++ C).Nodup) (hX : X'.Nodup) (hs : ∀ g ∈ X', g ∈ X ∨ n ≤ g) (hlt : ∀ g ∈ A ++ C, g < n) : (A ++ X' ++ C).Nodup := by
  rw [List.append_assoc, List.nodup_append] at h ⊢
  obtain ⟨hA, hXC, hd⟩ := h
  rw [List.nodup_append] at hXC ⊢
  obtain ⟨_, hC, hd2⟩ := hXC
  refine ⟨hA, ⟨hX, hC, fun a ha c hc e => ?_⟩, fun a ha c hc e => ?_⟩
  · rcases hs a ha with h1 | h1
    · exact hd2 a h1 c hc e
    · have := hlt c (List.mem_append.2 (.inr hc))
      omega
  · rcases List.mem_append.1 hc with h1 | h1
    · rcases hs c h1 with h2 | h2
      · exact hd a ha c (List.mem_append.2 (.inl h2)) e
      · have := hlt a (List.mem_append.2 (.inl ha))
        omega
    · exact hd a ha c (List.mem_append.2 (.inr h1)) e

theorem nodup_swap' {A X X' C : List Nat} (h : (A ++ X ++ C).Nodup) (hX : X'.Nodup) (hs : ∀ g ∈ X', g ∈ X ∨ g ∉ A ++ C) : (A ++ X' ++ C).Nodup := by
  rw [List.append_assoc, List.nodup_append] at h ⊢
  obtain ⟨hA, hXC, hd⟩ := h
  rw [List.nodup_append] at hXC ⊢
  obtain ⟨_, hC, hd2⟩ := hXC
  refine ⟨hA, ⟨hX, hC, fun a ha c hc e => ?_⟩, fun a ha c hc e => ?_⟩
  · rcases hs a ha with h1 | h1
    · exact hd2 a h1 c hc e
    · exact h1 (List.mem_append.2 (.inr (e ▸ hc)))
  · rcases List.mem_append.1 hc with h1 | h1
    · rcases hs c h1 with h2 | h2
      · exact hd a ha c (List.mem_append.2 (.inl h2)) e
      · exact h2 (List.mem_append.2 (.inl (e ▸ ha)))
    · exact hd a ha c (List.mem_append.2 (.inr h1)) e

theorem RowAt.lt2 {w : World} {base size : Nat} {v : Value} {n : Nat} {xs : List Value} (h : RowAt w base size v n xs) (hs : 0 < size) : ∀ g, rowBlock v = some g → g < w.heap.size := by
  obtain ⟨_, a, cap, rfl, _, _, h3⟩ := h
  intro g hg
  rcases h3 with h0 | ⟨g', o, rfl, _, _, ht⟩
  · subst h0; cases a <;> simp [rowBlock] at hg
  · by_cases hc : cap = 0
    · subst hc; simp [rowBlock] at hg
    · rw [rowBlock_some g' o n cap hc] at hg
      cases hg
      obtain ⟨v, hv⟩ := Option.isSome_iff_exists.1 (ht 0 (Nat.mul_pos (by omega) hs)).1
      exact lt_of_cell hv

theorem FrameO.lt {W : World} {B : Nat} {x : PFrame} (h : FrameO W B x) : ∀ g ∈ x.bl, g < W.heap.size := by
  intro g hg
  unfold PFrame.bl at hg
  rcases List.mem_append.1 hg with h1 | h1
  · exact h.l.lt2 (by decide) g (by simpa using h1)
  · exact h.s.lt2 (by decide) g (by simpa using h1)
theorem FiberO.lt {W : World} {B : Nat} {y : PFiber} (h : FiberO W B y) : ∀ g ∈ y.bl, g < W.heap.size := by
  intro g hg
  unfold PFiber.bl at hg
  rcases List.mem_append.1 hg with h1 | h1
  · exact h.row.lt2 (by decide) g (by simpa using h1)
  · obtain ⟨x, hx, h2⟩ := List.mem_flatMap.1 h1
    exact (h.fr x hx).lt g h2
theorem OwnS.lt {W : World} {B b : Nat} {P : PState} (h : OwnS W B b P) : ∀ g ∈ b :: P.bl, g < W.heap.size := by
  intro g hg
  rcases List.mem_cons.1 hg with rfl | hg
  · exact h.c0.lt
  · unfold PState.bl at hg
    rcases List.mem_append.1 hg with h1 | h1
    · rcases List.mem_append.1 h1 with h2 | h2
      · exact h.row.lt2 (by decide) g (by simpa using h2)
      · exact h.out.lt2 (by decide) g (by simpa using h2)
    · obtain ⟨y, hy, h2⟩ := List.mem_flatMap.1 h1
      exact (h.fs y hy).lt g h2

/-- One frame is another one, in its row and in its own rows; all else stays. -/
theorem OwnS.frame {W W' : World} {B b : Nat} {P : PState} {L R : List PFiber} {F G : List PFrame} {y : PFiber} {x x' : PFrame} {M : Nat → Prop} (h : OwnS W B b P) (hP : P.fs = L ++ y :: R) (hy : y.fr = F ++ x :: G)
    (hc : Chg M W W') (hM : ∀ g, M g → g < W.heap.size → rowBlock y.vf = some g ∨ g ∈ x.bl) (hx : FrameO W' B x') (hrow : RowAt W' B 4 y.vf (F ++ x' :: G).length ((F ++ x' :: G).flatMap frameF))
    (hn : x'.bl.Nodup) (hs : ∀ g ∈ x'.bl, g ∈ x.bl ∨ W.heap.size ≤ g) :
    OwnS W' B b { P with fs := L ++ { y with fr := F ++ x' :: G } :: R } := by
  have hlt := h.lt
  have hyO := h.fs y (by rw [hP]; simp)
  let A := b :: ((rowBlock P.vfs).toList ++ (rowBlock P.vo).toList ++ L.flatMap PFiber.bl ++ (rowBlock y.vf).toList ++ F.flatMap PFrame.bl)
  let C := G.flatMap PFrame.bl ++ R.flatMap PFiber.bl
  have hbl : b :: P.bl = A ++ x.bl ++ C := by
    show b :: P.bl = b :: _ ++ x.bl ++ C
    unfold PState.bl
    rw [hP, List.flatMap_append, List.flatMap_cons]
    have : y.bl = (rowBlock y.vf).toList ++ (F.flatMap PFrame.bl ++ (x.bl ++ G.flatMap PFrame.bl)) := by unfold PFiber.bl; rw [hy, List.flatMap_append, List.flatMap_cons]
    rw [this]
    simp [C, List.append_assoc]
  have hnd := h.nodup
  rw [hbl] at hnd hlt
  -- who else is not written
  have hfree : ∀ g, g ∈ A ++ C → rowBlock y.vf ≠ some g → ¬ M g := fun g hg hvf hm => by
    rcases hM g hm (hlt g (by rcases List.mem_append.1 hg with h1 | h1 <;> simp [h1])) with h1 | h1
    · exact hvf h1
    · rw [List.append_assoc, List.nodup_append] at hnd
      obtain ⟨_, h2, h3⟩ := hnd
      rw [List.nodup_append] at h2
      rcases List.mem_append.1 hg with h4 | h4
      · exact h3 g h4 g (by simp [h1]) rfl
      · exact h2.2.2 g h1 g h4 rfl
  have hnot : ∀ g, rowBlock y.vf = some g → ∀ g', g' ∈ (b :: ((rowBlock P.vfs).toList ++ (rowBlock P.vo).toList ++ L.flatMap PFiber.bl)) ∨ g' ∈ F.flatMap PFrame.bl ++ C → g ≠ g' := fun g hg g' h1 e => by
    subst e
    have hA : A = (b :: ((rowBlock P.vfs).toList ++ (rowBlock P.vo).toList ++ L.flatMap PFiber.bl)) ++ (rowBlock y.vf).toList ++ F.flatMap PFrame.bl := by simp [A, List.append_assoc]
    rw [hA, List.append_assoc, List.append_assoc, List.append_assoc, List.nodup_append] at hnd
    obtain ⟨_, h2, h3⟩ := hnd
    rcases h1 with h1 | h1
    · exact h3 g h1 g (by simp [hg]) rfl
    · rw [List.nodup_append] at h2
      refine h2.2.2 g (by simp [hg]) g ?_ rfl
      rcases List.mem_append.1 h1 with h4 | h4 <;> simp [h4]
  have hA' : A = (b :: ((rowBlock P.vfs).toList ++ (rowBlock P.vo).toList ++ L.flatMap PFiber.bl)) ++ (rowBlock y.vf).toList ++ F.flatMap PFrame.bl := by simp [A, List.append_assoc]
  have ne : ∀ g, (g ∈ (b :: ((rowBlock P.vfs).toList ++ (rowBlock P.vo).toList ++ L.flatMap PFiber.bl)) ∨ g ∈ F.flatMap PFrame.bl ++ C) → ¬ M g := fun g hg => by
    refine hfree g ?_ (fun e => hnot g e g hg rfl)
    rcases hg with h1 | h1
    · exact List.mem_append.2 (.inl (by rw [hA', List.append_assoc]; exact List.mem_append.2 (.inl h1)))
    · rcases List.mem_append.1 h1 with h2 | h2
      · exact List.mem_append.2 (.inl (by simp only [A]; simp [h2]))
      · exact List.mem_append.2 (.inr h2)
  have hb : ¬ M b := ne b (.inl (by simp))
  have hcells : (L ++ { y with fr := F ++ x' :: G } :: R).flatMap fiberF = P.fs.flatMap fiberF := by rw [hP, List.flatMap_append, List.flatMap_append, List.flatMap_cons, List.flatMap_cons]; rfl
  have hlen : (L ++ { y with fr := F ++ x' :: G } :: R).length = P.fs.length := by rw [hP]; simp
  have hflen : (F ++ x' :: G).length = y.fr.length := by rw [hy]; simp
  have hbl' : b :: PState.bl { P with fs := L ++ { y with fr := F ++ x' :: G } :: R } = A ++ x'.bl ++ C := by
    show b :: _ = b :: _ ++ x'.bl ++ C
    unfold PState.bl
    simp only [List.flatMap_append, List.flatMap_cons]
    have : PFiber.bl { y with fr := F ++ x' :: G } = (rowBlock y.vf).toList ++ (F.flatMap PFrame.bl ++ (x'.bl ++ G.flatMap PFrame.bl)) := by unfold PFiber.bl; simp only [List.flatMap_append, List.flatMap_cons]
    rw [this]
    simp [C, List.append_assoc]
  refine ⟨h.c0.chg hc hb, h.c1.chg hc hb, h.c2.chg hc hb, h.i, ?_, h.out.chg hc (fun g e => ne g (.inl (by simp [e]))) (by decide), fun z hz => ?_, h.le, ?_, ?_⟩
  · show RowAt W' B 2 P.vfs (L ++ { y with fr := F ++ x' :: G } :: R).length ((L ++ { y with fr := F ++ x' :: G } :: R).flatMap fiberF)
    rw [hcells, hlen]
    exact h.row.chg hc (fun g e => ne g (.inl (by simp [e]))) (by decide)
  · have hz' : z ∈ L ++ { y with fr := F ++ x' :: G } :: R := hz
    rcases List.mem_append.1 hz' with h1 | h1
    · refine (h.fs z (by rw [hP]; simp [h1])).chg hc fun g hg => ne g (.inl ?_)
      exact List.mem_cons_of_mem _ (List.mem_append.2 (.inr (List.mem_flatMap.2 ⟨z, h1, hg⟩)))
    · rcases List.mem_cons.1 h1 with rfl | h1
      · refine ⟨hyO.i, hrow, fun u hu => ?_, by show (F ++ x' :: G).length ≤ 1000; rw [hflen]; exact hyO.few⟩
        have hu' : u ∈ F ++ x' :: G := hu
        rcases List.mem_append.1 hu' with h2 | h2
        · exact (hyO.fr u (by rw [hy]; simp [h2])).chg hc fun g hg => ne g (.inr (List.mem_append.2 (.inl (List.mem_flatMap.2 ⟨u, h2, hg⟩))))
        · rcases List.mem_cons.1 h2 with rfl | h2
          · exact hx
          · exact (hyO.fr u (by rw [hy]; simp [h2])).chg hc fun g hg => ne g (.inr (List.mem_append.2 (.inr (List.mem_append.2 (.inl (List.mem_flatMap.2 ⟨u, h2, hg⟩))))))
      · exact (h.fs z (by rw [hP]; simp [h1])).chg hc fun g hg => ne g (.inr (List.mem_append.2 (.inr (List.mem_append.2 (.inr (List.mem_flatMap.2 ⟨z, h1, hg⟩))))))
  · show (L ++ { y with fr := F ++ x' :: G } :: R).length ≤ 1000 ∧ P.out.length ≤ 1000
    rw [hlen]
    exact h.few
  · rw [hbl']
    exact nodup_swap hnd hn hs fun g hg => hlt g (by rcases List.mem_append.1 hg with h1 | h1 <;> simp [h1])
end Go.Proofs.YtpcjkfppacnkgaaGreatDoor
end
section
/- Contracts of the document's BeginOf, and of state's Frame, First, Begin. -/
set_option maxHeartbeats 4000000
set_option maxRecDepth 100000
namespace Go.Proofs.YtpcjkfppacnkgaaGreatDoor
open Go Go.RowKit

def freshFrame (p : List GFunc) (f : Int) : GFrame := ⟨f, 0, List.replicate (funcOf p f).locals.toNat 0, []⟩
theorem I64.zero : I64 0 := I64.small (by decide) (by decide)
theorem FrameV.cells {w : World} {S : Nat → Prop} {x : GFrame} {sl st : Value} {b o : Nat} (h : FrameV w S (.agg #[.int .i64 x.func, .int .i64 x.at_, sl, st]) x) (hb : S b)
    (h0 : w.cell? ⟨b, o, none⟩ = some (.int .i64 x.func)) (h1 : w.cell? ⟨b, o + 1, none⟩ = some (.int .i64 x.at_)) (h2 : w.cell? ⟨b, o + 2, none⟩ = some sl) (h3 : w.cell? ⟨b, o + 3, none⟩ = some st) : FrameC w S b o x := by
  obtain ⟨s, t, e, i0, i1, hl, hs⟩ := h
  simp only [Value.agg.injEq] at e
  simp at e
  obtain ⟨rfl, rfl⟩ := e
  exact ⟨⟨hb, h0, i0⟩, ⟨hb, h1, i1⟩, ⟨_, h2, hl⟩, _, h3, hs⟩

end Go.Proofs.YtpcjkfppacnkgaaGreatDoor
end
section
/- Contracts of the document's has, frameFine, waits and fresh. -/
set_option maxHeartbeats 4000000
set_option maxRecDepth 100000
namespace Go.Proofs.YtpcjkfppacnkgaaGreatDoor
open Go Go.RowKit

end Go.Proofs.YtpcjkfppacnkgaaGreatDoor
end
section
/- Contract of the document's lineOf. -/
set_option maxHeartbeats 4000000
set_option maxRecDepth 100000
namespace Go.Proofs.YtpcjkfppacnkgaaGreatDoor
open Go Go.RowKit

structure Callers (s : GState) : Prop where
  now : -1 ≤ s.now ∧ s.now ≤ (s.fibers.length : Int) - 1
  all : ∀ k, k < s.fibers.length → -1 ≤ (s.fibers.getD k default).caller ∧ (s.fibers.getD k default).caller ≤ (s.fibers.length : Int) - 1
  few : s.fibers.length ≤ 1000

end Go.Proofs.YtpcjkfppacnkgaaGreatDoor
end
