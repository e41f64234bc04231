/- Merged texts: contracts and plain facts, one part behind another; each part begins with what it says. -/
import Derived.Test.YtpcjkfppacnkgaaGreatDoorGNAC
import Derived.Test.YtpcjkfppacnkgaaGreatDoorGNAD
import Derived.Test.YtpcjkfppacnkgaaGreatDoorGNAE
import Derived.Test.YtpcjkfppacnkgaaGreatDoorGNAG
import Derived.Test.YtpcjkfppacnkgaaGreatDoorGNAH
import Derived.Test.YtpcjkfppacnkgaaGreatDoorGNAI
section
/- A state in the call's own memory: what a change of one frame leaves. No condition. -/
set_option maxHeartbeats 400000
namespace Go.Proofs.YtpcjkfppacnkgaaGreatDoor
open Go Go.RowKit

theorem nodup_swap {A X X' C : List Nat} {n : Nat} (h : (A ++ X ++ C).Nodup) (hX : X'.Nodup) (hs : ∀ g ∈ X', g ∈ X ∨ n ≤ g) (hlt : ∀ g ∈ A ++ C, g < n) : (A ++ X' ++ C).Nodup := by
  rw [List.append_assoc, List.nodup_append] at h ⊢
  obtain ⟨hA, hXC, hd⟩ := h
  rw [List.nodup_append] at hXC ⊢
  obtain ⟨_, hC, hd2⟩ := hXC
  refine ⟨hA, ⟨hX, hC, fun a ha c hc e => ?_⟩, fun a ha c hc e => ?_⟩
  · rcases hs a ha with h1 | h1
    · exact hd2 a h1 c hc e
    · have := hlt c (List.mem_append.2 (.inr hc))
      omega
  · rcases List.mem_append.1 hc with h1 | h1
    · rcases hs c h1 with h2 | h2
      · exact hd a ha c (List.mem_append.2 (.inl h2)) e
      · have := hlt a (List.mem_append.2 (.inl ha))
        omega
    · exact hd a ha c (List.mem_append.2 (.inr h1)) e

theorem nodup_swap' {A X X' C : List Nat} (h : (A ++ X ++ C).Nodup) (hX : X'.Nodup) (hs : ∀ g ∈ X', g ∈ X ∨ g ∉ A ++ C) : (A ++ X' ++ C).Nodup := by
  rw [List.append_assoc, List.nodup_append] at h ⊢
  obtain ⟨hA, hXC, hd⟩ := h
  rw [List.nodup_append] at hXC ⊢
  obtain ⟨_, hC, hd2⟩ := hXC
  refine ⟨hA, ⟨hX, hC, fun a ha c hc e => ?_⟩, fun a ha c hc e => ?_⟩
  · rcases hs a ha with h1 | h1
    · exact hd2 a h1 c hc e
    · exact h1 (List.mem_append.2 (.inr (e ▸ hc)))
  · rcases List.mem_append.1 hc with h1 | h1
    · rcases hs c h1 with h2 | h2
      · exact hd a ha c (List.mem_append.2 (.inl h2)) e
      · exact h2 (List.mem_append.2 (.inl (e ▸ ha)))
    · exact hd a ha c (List.mem_append.2 (.inr h1)) e

theorem RowAt.lt2 {w : World} {base size : Nat} {v : Value} {n : Nat} {xs : List Value} (h : RowAt w base size v n xs) (hs : 0 < size) : ∀ g, rowBlock v = some g → g < w.heap.size := by
  obtain ⟨_, a, cap, rfl, _, _, h3⟩ := h
  intro g hg
  rcases h3 with h0 | ⟨g', o, rfl, _, _, ht⟩
  · subst h0; cases a <;> simp [rowBlock] at hg
  · by_cases hc : cap = 0
    · subst hc; simp [rowBlock] at hg
    · rw [rowBlock_some g' o n cap hc] at hg
      cases hg
      obtain ⟨v, hv⟩ := Option.isSome_iff_exists.1 (ht 0 (Nat.mul_pos (by omega) hs)).1
      exact lt_of_cell hv

theorem FrameO.lt {W : World} {B : Nat} {x : PFrame} (h : FrameO W B x) : ∀ g ∈ x.bl, g < W.heap.size := by
  intro g hg
  unfold PFrame.bl at hg
  rcases List.mem_append.1 hg with h1 | h1
  · exact h.l.lt2 (by decide) g (by simpa using h1)
  · exact h.s.lt2 (by decide) g (by simpa using h1)
theorem FiberO.lt {W : World} {B : Nat} {y : PFiber} (h : FiberO W B y) : ∀ g ∈ y.bl, g < W.heap.size := by
  intro g hg
  unfold PFiber.bl at hg
  rcases List.mem_append.1 hg with h1 | h1
  · exact h.row.lt2 (by decide) g (by simpa using h1)
  · obtain ⟨x, hx, h2⟩ := List.mem_flatMap.1 h1
    exact (h.fr x hx).lt g h2
theorem OwnS.lt {W : World} {B b : Nat} {P : PState} (h : OwnS W B b P) : ∀ g ∈ b :: P.bl, g < W.heap.size := by
  intro g hg
  rcases List.mem_cons.1 hg with rfl | hg
  · exact h.c0.lt
  · unfold PState.bl at hg
    rcases List.mem_append.1 hg with h1 | h1
    · rcases List.mem_append.1 h1 with h2 | h2
      · exact h.row.lt2 (by decide) g (by simpa using h2)
      · exact h.out.lt2 (by decide) g (by simpa using h2)
    · obtain ⟨y, hy, h2⟩ := List.mem_flatMap.1 h1
      exact (h.fs y hy).lt g h2

/-- One frame is another one, in its row and in its own rows; all else stays. -/
theorem OwnS.frame {W W' : World} {B b : Nat} {P : PState} {L R : List PFiber} {F G : List PFrame} {y : PFiber} {x x' : PFrame} {M : Nat → Prop} (h : OwnS W B b P) (hP : P.fs = L ++ y :: R) (hy : y.fr = F ++ x :: G)
    (hc : Chg M W W') (hM : ∀ g, M g → g < W.heap.size → rowBlock y.vf = some g ∨ g ∈ x.bl) (hx : FrameO W' B x') (hrow : RowAt W' B 4 y.vf (F ++ x' :: G).length ((F ++ x' :: G).flatMap frameF))
    (hn : x'.bl.Nodup) (hs : ∀ g ∈ x'.bl, g ∈ x.bl ∨ W.heap.size ≤ g) :
    OwnS W' B b { P with fs := L ++ { y with fr := F ++ x' :: G } :: R } := by
  have hlt := h.lt
  have hyO := h.fs y (by rw [hP]; simp)
  let A := b :: ((rowBlock P.vfs).toList ++ (rowBlock P.vo).toList ++ L.flatMap PFiber.bl ++ (rowBlock y.vf).toList ++ F.flatMap PFrame.bl)
  let C := G.flatMap PFrame.bl ++ R.flatMap PFiber.bl
  have hbl : b :: P.bl = A ++ x.bl ++ C := by
    show b :: P.bl = b :: _ ++ x.bl ++ C
    unfold PState.bl
    rw [hP, List.flatMap_append, List.flatMap_cons]
    have : y.bl = (rowBlock y.vf).toList ++ (F.flatMap PFrame.bl ++ (x.bl ++ G.flatMap PFrame.bl)) := by unfold PFiber.bl; rw [hy, List.flatMap_append, List.flatMap_cons]
    rw [this]
    simp [C, List.append_assoc]
  have hnd := h.nodup
  rw [hbl] at hnd hlt
  -- who else is not written
  have hfree : ∀ g, g ∈ A ++ C → rowBlock y.vf ≠ some g → ¬ M g := fun g hg hvf hm => by
    rcases hM g hm (hlt g (by rcases List.mem_append.1 hg with h1 | h1 <;> simp [h1])) with h1 | h1
    · exact hvf h1
    · rw [List.append_assoc, List.nodup_append] at hnd
      obtain ⟨_, h2, h3⟩ := hnd
      rw [List.nodup_append] at h2
      rcases List.mem_append.1 hg with h4 | h4
      · exact h3 g h4 g (by simp [h1]) rfl
      · exact h2.2.2 g h1 g h4 rfl
  have hnot : ∀ g, rowBlock y.vf = some g → ∀ g', g' ∈ (b :: ((rowBlock P.vfs).toList ++ (rowBlock P.vo).toList ++ L.flatMap PFiber.bl)) ∨ g' ∈ F.flatMap PFrame.bl ++ C → g ≠ g' := fun g hg g' h1 e => by
    subst e
    have hA : A = (b :: ((rowBlock P.vfs).toList ++ (rowBlock P.vo).toList ++ L.flatMap PFiber.bl)) ++ (rowBlock y.vf).toList ++ F.flatMap PFrame.bl := by simp [A, List.append_assoc]
    rw [hA, List.append_assoc, List.append_assoc, List.append_assoc, List.nodup_append] at hnd
    obtain ⟨_, h2, h3⟩ := hnd
    rcases h1 with h1 | h1
    · exact h3 g h1 g (by simp [hg]) rfl
    · rw [List.nodup_append] at h2
      refine h2.2.2 g (by simp [hg]) g ?_ rfl
      rcases List.mem_append.1 h1 with h4 | h4 <;> simp [h4]
  have hA' : A = (b :: ((rowBlock P.vfs).toList ++ (rowBlock P.vo).toList ++ L.flatMap PFiber.bl)) ++ (rowBlock y.vf).toList ++ F.flatMap PFrame.bl := by simp [A, List.append_assoc]
  have ne : ∀ g, (g ∈ (b :: ((rowBlock P.vfs).toList ++ (rowBlock P.vo).toList ++ L.flatMap PFiber.bl)) ∨ g ∈ F.flatMap PFrame.bl ++ C) → ¬ M g := fun g hg => by
    refine hfree g ?_ (fun e => hnot g e g hg rfl)
    rcases hg with h1 | h1
    · exact List.mem_append.2 (.inl (by rw [hA', List.append_assoc]; exact List.mem_append.2 (.inl h1)))
    · rcases List.mem_append.1 h1 with h2 | h2
      · exact List.mem_append.2 (.inl (by simp only [A]; simp [h2]))
      · exact List.mem_append.2 (.inr h2)
  have hb : ¬ M b := ne b (.inl (by simp))
  have hcells : (L ++ { y with fr := F ++ x' :: G } :: R).flatMap fiberF = P.fs.flatMap fiberF := by rw [hP, List.flatMap_append, List.flatMap_append, List.flatMap_cons, List.flatMap_cons]; rfl
  have hlen : (L ++ { y with fr := F ++ x' :: G } :: R).length = P.fs.length := by rw [hP]; simp
  have hflen : (F ++ x' :: G).length = y.fr.length := by rw [hy]; simp
  have hbl' : b :: PState.bl { P with fs := L ++ { y with fr := F ++ x' :: G } :: R } = A ++ x'.bl ++ C := by
    show b :: _ = b :: _ ++ x'.bl ++ C
    unfold PState.bl
    simp only [List.flatMap_append, List.flatMap_cons]
    have : PFiber.bl { y with fr := F ++ x' :: G } = (rowBlock y.vf).toList ++ (F.flatMap PFrame.bl ++ (x'.bl ++ G.flatMap PFrame.bl)) := by unfold PFiber.bl; simp only [List.flatMap_append, List.flatMap_cons]
    rw [this]
    simp [C, List.append_assoc]
  refine ⟨h.c0.chg hc hb, h.c1.chg hc hb, h.c2.chg hc hb, h.i, ?_, h.out.chg hc (fun g e => ne g (.inl (by simp [e]))) (by decide), fun z hz => ?_, h.le, ?_, ?_⟩
  · show RowAt W' B 2 P.vfs (L ++ { y with fr := F ++ x' :: G } :: R).length ((L ++ { y with fr := F ++ x' :: G } :: R).flatMap fiberF)
    rw [hcells, hlen]
    exact h.row.chg hc (fun g e => ne g (.inl (by simp [e]))) (by decide)
  · have hz' : z ∈ L ++ { y with fr := F ++ x' :: G } :: R := hz
    rcases List.mem_append.1 hz' with h1 | h1
    · refine (h.fs z (by rw [hP]; simp [h1])).chg hc fun g hg => ne g (.inl ?_)
      exact List.mem_cons_of_mem _ (List.mem_append.2 (.inr (List.mem_flatMap.2 ⟨z, h1, hg⟩)))
    · rcases List.mem_cons.1 h1 with rfl | h1
      · refine ⟨hyO.i, hrow, fun u hu => ?_, by show (F ++ x' :: G).length ≤ 1000; rw [hflen]; exact hyO.few⟩
        have hu' : u ∈ F ++ x' :: G := hu
        rcases List.mem_append.1 hu' with h2 | h2
        · exact (hyO.fr u (by rw [hy]; simp [h2])).chg hc fun g hg => ne g (.inr (List.mem_append.2 (.inl (List.mem_flatMap.2 ⟨u, h2, hg⟩))))
        · rcases List.mem_cons.1 h2 with rfl | h2
          · exact hx
          · exact (hyO.fr u (by rw [hy]; simp [h2])).chg hc fun g hg => ne g (.inr (List.mem_append.2 (.inr (List.mem_append.2 (.inl (List.mem_flatMap.2 ⟨u, h2, hg⟩))))))
      · exact (h.fs z (by rw [hP]; simp [h1])).chg hc fun g hg => ne g (.inr (List.mem_append.2 (.inr (List.mem_append.2 (.inr (List.mem_flatMap.2 ⟨z, h1, hg⟩))))))
  · show (L ++ { y with fr := F ++ x' :: G } :: R).length ≤ 1000 ∧ P.out.length ≤ 1000
    rw [hlen]
    exact h.few
  · rw [hbl']
    exact nodup_swap hnd hn hs fun g hg => hlt g (by rcases List.mem_append.1 hg with h1 | h1 <;> simp [h1])
end Go.Proofs.YtpcjkfppacnkgaaGreatDoor
end
section
/- Contracts of the document's BeginOf, and of state's Frame, First, Begin. -/
set_option maxHeartbeats 4000000
set_option maxRecDepth 100000
namespace Go.Proofs.YtpcjkfppacnkgaaGreatDoor
open Go Go.RowKit

def freshFrame (p : List GFunc) (f : Int) : GFrame := ⟨f, 0, List.replicate (funcOf p f).locals.toNat 0, []⟩
def beginG (p : List GFunc) : GState := ⟨[⟨[freshFrame p 0], -1⟩], 0, []⟩

theorem I64.zero : I64 0 := I64.small (by decide) (by decide)
theorem I64.neg1 : I64 (-1) := I64.small (by decide) (by decide)
theorem FrameV.cells {w : World} {S : Nat → Prop} {x : GFrame} {sl st : Value} {b o : Nat} (h : FrameV w S (.agg #[.int .i64 x.func, .int .i64 x.at_, sl, st]) x) (hb : S b)
    (h0 : w.cell? ⟨b, o, none⟩ = some (.int .i64 x.func)) (h1 : w.cell? ⟨b, o + 1, none⟩ = some (.int .i64 x.at_)) (h2 : w.cell? ⟨b, o + 2, none⟩ = some sl) (h3 : w.cell? ⟨b, o + 3, none⟩ = some st) : FrameC w S b o x := by
  obtain ⟨s, t, e, i0, i1, hl, hs⟩ := h
  simp only [Value.agg.injEq] at e
  simp at e
  obtain ⟨rfl, rfl⟩ := e
  exact ⟨⟨hb, h0, i0⟩, ⟨hb, h1, i1⟩, ⟨_, h2, hl⟩, _, h3, hs⟩

/-- A first state in its new blocks, handed back in a box of the call. -/
theorem begin_state {w3 : World} {B base bx : Nat} {x : GFrame} {sl st : Value} (t1 t2 : TypeId) (h : FrameV w3 (base ≤ ·) (.agg #[.int .i64 x.func, .int .i64 x.at_, sl, st]) x) (hB : B ≤ bx) (hb : bx < base) (hb3 : bx < w3.heap.size) (u v z : Value) :
    StateV (((((w3.alloc (.cells #[.int .i64 x.func, .int .i64 x.at_, sl, st] t1)).alloc (.cells #[.slice (some ⟨w3.heap.size, 0, none⟩) 1 1, .int .i64 (-1)] t2)).setCell ⟨bx, 0, none⟩ u).setCell ⟨bx, 1, none⟩ v).setCell ⟨bx, 2, none⟩ z) (B ≤ ·)
      (.agg #[.slice (some ⟨w3.heap.size + 1, 0, none⟩) 1 1, .int .i64 0, .slice none 0 0]) ⟨[⟨[x], -1⟩], 0, []⟩ := by
  have hs4 : (w3.alloc (.cells #[.int .i64 x.func, .int .i64 x.at_, sl, st] t1)).heap.size = w3.heap.size + 1 := Array.size_push _
  have hE4 : Ext w3 (w3.alloc (.cells #[.int .i64 x.func, .int .i64 x.at_, sl, st] t1)) := (Ext.refl _).alloc _
  have f0 := Cx.new w3 [.int .i64 x.func, .int .i64 x.at_, sl, st] t1 (j := 0) rfl
  have f1 := Cx.new w3 [.int .i64 x.func, .int .i64 x.at_, sl, st] t1 (j := 1) rfl
  have f2 := Cx.new w3 [.int .i64 x.func, .int .i64 x.at_, sl, st] t1 (j := 2) rfl
  have f3 := Cx.new w3 [.int .i64 x.func, .int .i64 x.at_, sl, st] t1 (j := 3) rfl
  generalize w3.alloc (.cells [.int .i64 x.func, .int .i64 x.at_, sl, st].toArray t1) = w4 at *
  have hE5 : Ext w4 (w4.alloc (.cells #[.slice (some ⟨w3.heap.size, 0, none⟩) 1 1, .int .i64 (-1)] t2)) := (Ext.refl _).alloc _
  have g0 := Cx.new w4 [.slice (some ⟨w3.heap.size, 0, none⟩) 1 1, .int .i64 (-1)] t2 (j := 0) rfl
  have g1 := Cx.new w4 [.slice (some ⟨w3.heap.size, 0, none⟩) 1 1, .int .i64 (-1)] t2 (j := 1) rfl
  rw [hs4] at g0 g1
  generalize w4.alloc (.cells [.slice (some ⟨w3.heap.size, 0, none⟩) 1 1, .int .i64 (-1)].toArray t2) = w5 at *
  have hch := chg3 w5 bx u v z
  generalize ((w5.setCell ⟨bx, 0, none⟩ u).setCell ⟨bx, 1, none⟩ v).setCell ⟨bx, 2, none⟩ z = w6 at *
  have hfr : FrameV w6 (B ≤ ·) (.agg #[.int .i64 x.func, .int .i64 x.at_, sl, st]) x := FrameV.stays (S := (base ≤ ·)) (fun b o u' hb' hc => ⟨hch.cell (by show ¬ b = bx; have : base ≤ b := hb'; omega) (Ext.cell (hE4.trans hE5) hc), by show B ≤ b; have : base ≤ b := hb'; omega⟩) h
  have k : ∀ j u', Cx w4 w3.heap.size j u' → w6.cell? ⟨w3.heap.size, j, none⟩ = some u' := fun j u' h => ((h.ext hE5).chg hch (by omega)).1
  have k' : ∀ j u', Cx w5 (w3.heap.size + 1) j u' → w6.cell? ⟨w3.heap.size + 1, j, none⟩ = some u' := fun j u' h => (h.chg hch (by omega)).1
  refine ⟨_, _, rfl, Sl.one ⟨⟨_, k' _ _ g0, Sl.one (FrameV.cells hfr (by show B ≤ w3.heap.size; omega) (k _ _ f0) (k _ _ f1) (k _ _ f2) (k _ _ f3)) (by decide)⟩, by show B ≤ w3.heap.size + 1; omega, k' _ _ g1, I64.neg1⟩ (by decide), I64.zero, Sl.nil _ _ _⟩

theorem range4 {w : World} {b : Nat} {x y z u : Value} (h0 : w.cell? ⟨b, 0, none⟩ = some x) (h1 : w.cell? ⟨b, 1, none⟩ = some y) (h2 : w.cell? ⟨b, 2, none⟩ = some z) (h3 : w.cell? ⟨b, 3, none⟩ = some u) : w.rangeAt b 0 [x, y, z, u] := by
  intro j v hj
  rw [Nat.zero_add]
  match j, hj with
  | 0, hj => cases hj; exact h0
  | 1, hj => cases hj; exact h1
  | 2, hj => cases hj; exact h2
  | 3, hj => cases hj; exact h3
theorem box4 {W : World} {b : Nat} {u0 u1 u2 u3 : Value} (h0 : Cx W b 0 u0) (h1 : Cx W b 1 u1) (h2 : Cx W b 2 u2) (h3 : Cx W b 3 u3) (x y z u : Value) :
    ((((W.setCell ⟨b, 0, none⟩ x).setCell ⟨b, 1, none⟩ y).setCell ⟨b, 2, none⟩ z).setCell ⟨b, 3, none⟩ u).rangeAt b 0 [x, y, z, u] :=
  range4 ((((h0.set x).other (.inr (by decide)) y).other (.inr (by decide)) z).other (.inr (by decide)) u).1 ((((h1.other (.inr (by decide)) x).set y).other (.inr (by decide)) z).other (.inr (by decide)) u).1
    ((((h2.other (.inr (by decide)) x).other (.inr (by decide)) y).set z).other (.inr (by decide)) u).1 ((((h3.other (.inr (by decide)) x).other (.inr (by decide)) y).other (.inr (by decide)) z).set u).1
theorem chg4 (W : World) (b : Nat) (x y z u : Value) : Chg (· = b) W ((((W.setCell ⟨b, 0, none⟩ x).setCell ⟨b, 1, none⟩ y).setCell ⟨b, 2, none⟩ z).setCell ⟨b, 3, none⟩ u) := (chg3 W b x y z).trans (chg_one _ _ 3 _)
theorem ext4 {w W : World} (h : Ext w W) (x y z u : Value) : Ext w ((((W.setCell ⟨w.heap.size, 0, none⟩ x).setCell ⟨w.heap.size, 1, none⟩ y).setCell ⟨w.heap.size, 2, none⟩ z).setCell ⟨w.heap.size, 3, none⟩ u) :=
  (ext3 h x y z).setCell (p := ⟨w.heap.size, 3, none⟩) (Nat.le_refl _) _

theorem frame_any (p : List GFunc) (v : Value) (S : Nat → Prop) (n : Nat) (w : World) (hp : Funcs w S v p) (hn : n < p.length) (hR : RightF p p[n]) :
    Calls Tryz.prog 68 #[v, .int .i64 n] w fun e w' => (∃ x, e = .returned x ∧ FrameV w' (w.heap.size ≤ ·) x (freshFrame p n)) ∧ Ext w w' := by
  have hloc := hR.locals
  obtain ⟨b, o, cap, rfl, hcap, hby, _, ⟨_, hL, iL⟩, _⟩ := hp.get hn
  obtain ⟨N, hN⟩ : ∃ N : Nat, p[n].locals = N := ⟨p[n].locals.toNat, by omega⟩
  have HG : Hid (freshFrame p n = ⟨n, 0, List.replicate N 0, []⟩) := by
    unfold Hid freshFrame funcOf
    rw [show (n : Int).toNat = n by omega, show p.getD n default = p[n] by simp [List.getD, List.getElem?_eq_getElem hn], hN]
    rfl
  rw [hN] at hL hloc
  have hN4 : N ≤ 4 := by omega
  have hnI : I64 n := I64.nat (by omega)
  obtain ⟨i0, hi0, hz0, hz1, hz2⟩ := info_parts infoI
  have RA := alloc_keep
  have c0 := Lib.hid (Cx.new w [.int .i64 0, .int .i64 0, .slice none 0 0, .slice none 0 0] 108 (j := 0) rfl)
  have c1 := Lib.hid (Cx.new w [.int .i64 0, .int .i64 0, .slice none 0 0, .slice none 0 0] 108 (j := 1) rfl)
  have c2 := Lib.hid (Cx.new w [.int .i64 0, .int .i64 0, .slice none 0 0, .slice none 0 0] 108 (j := 2) rfl)
  have c3 := Lib.hid (Cx.new w [.int .i64 0, .int .i64 0, .slice none 0 0, .slice none 0 0] 108 (j := 3) rfl)
  clear hR hp hN
  go_enter Tryz.func68, Tryz.ntmps68
  go_wp2_with (first
    | (at_make; refine wpList_make_full _ rfl _ _ 30 rfl (w.heap.size + 1) 3 i0 (.int .i64 0) 1 Tryz.underlying30 hi0 hz0 hz1 .i64 .i64 _ _ N rfl rfl rfl rfl (by rw [hz2]; omega) (by unfold maxLen; omega) (by simp) ?_; intro w3 hown3 hgr3; have hE3 := ext_none hgr3; have hrow := IRow.made hown3; obtain ⟨⟨d0, d0'⟩, ⟨d1, d1'⟩, ⟨d2, d2'⟩, ⟨d3, d3'⟩⟩ := (⟨c0.out.ext hE3, c1.out.ext hE3, c2.out.ext hE3, c3.out.ext hE3⟩ : _ ∧ _ ∧ _ ∧ _)))
  have hs1 : (w.alloc (.cells #[.int .i64 0, .int .i64 0, .slice none 0 0, .slice none 0 0] 108)).heap.size = w.heap.size + 1 := Array.size_push _
  rw [hs1] at hrow
  refine bodyPost_ret (results_cell_mid rfl _ _ w.heap.size 0 _ _ rfl (box4 ⟨d0, d0'⟩ ⟨d1, d1'⟩ ⟨d2, d2'⟩ ⟨d3, d3'⟩ _ _ _ _) rfl rfl (by kernel_rfl)) rfl ?_
  refine ⟨⟨_, rfl, ?_⟩, ext4 (((Ext.refl w).alloc _).trans hE3) _ _ _ _⟩
  rw [HG.out]
  refine ⟨_, _, rfl, hnI, I64.zero, ?_, Sl.nil _ _ _⟩
  have := hrow.chg (chg4 w3 w.heap.size (.int .i64 n) (.int .i64 0) (.slice (some ⟨w.heap.size + 1, 0, none⟩) N N) (.slice none 0 0)) (by omega)
  have := this.ints (by rw [List.length_replicate]; omega) (fun x hx => by rw [List.eq_of_mem_replicate hx]; exact I64.zero) (w.heap.size ≤ ·) (fun b h => by show w.heap.size ≤ b; omega)
  rwa [List.length_replicate] at this

theorem first_any (p : List GFunc) (v : Value) (S : Nat → Prop) (w : World) (hp : Funcs w S v p) (hz : progErr p = 0) :
    Calls Tryz.prog 27 #[v] w fun e w' => (∃ x, e = .returned x ∧ StateV w' (w.heap.size ≤ ·) x (beginG p)) ∧ Ext w w' := by
  have HP := Lib.hid hp
  have hRP := progErr_zero hz
  have hpos := hRP.pos
  obtain ⟨_, _, hR'⟩ := funcErr_zero (hRP.func 0 hpos)
  have hR : RightF p p[0] := by have := hR' (by simpa using hpos); simpa using this
  have RA := alloc_keep
  have c0 := Lib.hid (Cx.new w [.slice none 0 0, .int .i64 0, .slice none 0 0] 58 (j := 0) rfl)
  have c1 := Lib.hid (Cx.new w [.slice none 0 0, .int .i64 0, .slice none 0 0] 58 (j := 1) rfl)
  have c2 := Lib.hid (Cx.new w [.slice none 0 0, .int .i64 0, .slice none 0 0] 58 (j := 2) rfl)
  have HS1 : Hid ((w.alloc (.cells #[.slice none 0 0, .int .i64 0, .slice none 0 0] 58)).heap.size = w.heap.size + 1) := Array.size_push _
  obtain ⟨a, cap, rfl, _, _, _⟩ := hp
  obtain ⟨F, hF⟩ : ∃ F, freshFrame p ((0 : Nat) : Int) = F := ⟨_, rfl⟩
  have HF := Lib.hid hF
  have HG : Hid (beginG p = ⟨[⟨[F], -1⟩], 0, []⟩) := by unfold Hid beginG; rw [← hF]; rfl
  rw [HG.out]
  clear hz hRP hF
  go_enter Tryz.func27, Tryz.ntmps27
  go_wp2_with (first
    | (go_at_call 68; refine (frame_any p _ S 0 _ (Funcs.stays (Ext.stays ((Ext.refl w).alloc _)) HP.out) hpos hR).mono ?_; rintro e w3 ⟨⟨x, rfl, hx⟩, hE3⟩; rw [HS1.out, HF.out] at hx; have HX := Lib.hid hx; obtain ⟨sl, st, rfl, _, _, hsl, hst⟩ := hx; obtain ⟨a1, n1, rfl, _, _, _⟩ := hsl; obtain ⟨a2, n2, rfl, _, _, _⟩ := hst; have HE4 := Lib.hid ((hE3.alloc (.cells #[.int .i64 F.func, .int .i64 F.at_, .slice a1 F.locals.length n1, .slice a2 F.stack.length n2] 108)).alloc (.cells #[.slice (some ⟨w3.heap.size, 0, none⟩) 1 1, .int .i64 (-1)] 112)); obtain ⟨⟨d0, d0'⟩, ⟨d1, d1'⟩, ⟨d2, d2'⟩⟩ := (⟨c0.out.ext HE4.out, c1.out.ext HE4.out, c2.out.ext HE4.out⟩ : _ ∧ _ ∧ _)))
  refine bodyPost_ret (results_cell_mid rfl _ _ w.heap.size 0 _ _ rfl (box3 ⟨d0, d0'⟩ ⟨d1, d1'⟩ ⟨d2, d2'⟩ _ _ _) rfl rfl (by kernel_rfl)) rfl ?_
  refine ⟨⟨_, rfl, ?_⟩, ext3 (((Ext.refl w).alloc _).trans (hE3.trans (((Ext.refl _).alloc _).alloc _))) _ _ _⟩
  have hsz := hE3.size
  rw [HS1.out] at hsz
  exact begin_state (x := F) 108 112 HX.out (Nat.le_refl _) (Nat.lt_succ_self _) (by omega) _ _ _

end Go.Proofs.YtpcjkfppacnkgaaGreatDoor
end
section
/- Contracts of the document's has, frameFine, waits and fresh. -/
set_option maxHeartbeats 4000000
set_option maxRecDepth 100000
namespace Go.Proofs.YtpcjkfppacnkgaaGreatDoor
open Go Go.RowKit

theorem funcOf_nat {p : List GFunc} {k : Nat} (hk : k < p.length) : funcOf p k = p[k] := by
  unfold funcOf
  rw [show (k : Int).toNat = k by omega]
  simp [List.getD, List.getElem?_eq_getElem hk]

theorem Ints.at' {w : World} {S : Nat → Prop} {a : Option Addr} {l : List Int} {n c : Nat} (h : Ints w S (.slice a n c) l) {m : Nat} (hm : m < l.length) : ∃ b o, a = some ⟨b, o, none⟩ ∧ w.cell? ⟨b, o + m, none⟩ = some (.int .i64 (l.getD m 0)) := by
  obtain ⟨b, o, _, e1, _, _, _, x0, _⟩ := h.get hm
  simp only [Value.slice.injEq] at e1
  obtain ⟨rfl, -, rfl⟩ := e1
  rw [Nat.mul_one] at x0
  refine ⟨b, o, rfl, ?_⟩
  rw [x0]
  simp [List.getD, List.getElem?_eq_getElem hm]

end Go.Proofs.YtpcjkfppacnkgaaGreatDoor
end
section
/- Contract of the document's lineOf. -/
set_option maxHeartbeats 4000000
set_option maxRecDepth 100000
namespace Go.Proofs.YtpcjkfppacnkgaaGreatDoor
open Go Go.RowKit

def lenV : Value → Nat
  | .slice _ n _ => n
  | _ => 0

/-- What lineOf hands back. -/
def LineRet (B : Nat) (s : GState) (e : Ending) (w' : World) : Prop :=
  match lineS s with
  | none => e = .returned (.tuple #[.slice none 0 0, .bool false])
  | some l => ∃ a c, e = .returned (.tuple #[.slice a l.length c, .bool (lineEnd l)]) ∧ Ints w' (B ≤ ·) (.slice a l.length c) l

theorem lineGo_neg {fs : List GFiber} {k : Nat} {n : Int} {out : List Int} (h : n < 0) : lineGo fs (k + 1) n out = some out := by unfold lineGo; rw [if_pos h]
theorem lineGo_mem {fs : List GFiber} {k : Nat} {n : Int} {out : List Int} (h : ¬ n < 0) (hm : n ∈ out) : lineGo fs (k + 1) n out = none := by unfold lineGo; rw [if_neg h, if_pos hm]
theorem lineGo_next {fs : List GFiber} {k : Nat} {n : Int} {out : List Int} (h : ¬ n < 0) (hm : n ∉ out) : lineGo fs (k + 1) n out = lineGo fs k (callerOf fs n) (out ++ [n]) := by rw [lineGo, if_neg h, if_neg hm]

structure Callers (s : GState) : Prop where
  now : -1 ≤ s.now ∧ s.now ≤ (s.fibers.length : Int) - 1
  all : ∀ k, k < s.fibers.length → -1 ≤ (s.fibers.getD k default).caller ∧ (s.fibers.getD k default).caller ≤ (s.fibers.length : Int) - 1
  few : s.fibers.length ≤ 1000

end Go.Proofs.YtpcjkfppacnkgaaGreatDoor
end
