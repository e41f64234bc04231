/- Merged texts: contracts and plain facts, one part behind another; each part begins with what it says. -/
import Derived.Test.YtpcjkfppacnkgaaGreatDoorGNAR
section
/- A state in own memory: another fiber at a place, another Now, Out, one fiber more. No condition. -/
set_option maxHeartbeats 1000000
namespace Go.Proofs.YtpcjkfppacnkgaaGreatDoor
open Go Go.RowKit

theorem OwnS.dis {P : PState} {W : World} {B b : Nat} (h : OwnS W B b P) :
    b ∉ P.bl ∧ (∀ g, rowBlock P.vfs = some g → rowBlock P.vo ≠ some g ∧ ∀ y ∈ P.fs, g ∉ y.bl) ∧ (∀ g, rowBlock P.vo = some g → ∀ y ∈ P.fs, g ∉ y.bl) := by
  obtain ⟨h0, h1⟩ := List.nodup_cons.1 h.nodup
  refine ⟨h0, fun g hg => ⟨fun e => ?_, fun y hy hm => ?_⟩, fun g hg y hy hm => ?_⟩
  · unfold PState.bl at h1
    have h2 := (List.nodup_append.1 h1).1
    exact (List.nodup_append.1 h2).2.2 g (by simp [hg]) g (by simp [e]) rfl
  · unfold PState.bl at h1
    exact (List.nodup_append.1 h1).2.2 g (by simp [hg]) g (List.mem_flatMap.2 ⟨y, hy, hm⟩) rfl
  · unfold PState.bl at h1
    exact (List.nodup_append.1 h1).2.2 g (by simp [hg]) g (List.mem_flatMap.2 ⟨y, hy, hm⟩) rfl
theorem PState.mem_vfs {P : PState} {g : Nat} (h : rowBlock P.vfs = some g) : g ∈ P.bl := by unfold PState.bl; simp [h]
theorem PState.mem_vo {P : PState} {g : Nat} (h : rowBlock P.vo = some g) : g ∈ P.bl := by unfold PState.bl; simp [h]
theorem PState.mem_fs {P : PState} {g : Nat} {y : PFiber} (hy : y ∈ P.fs) (h : g ∈ y.bl) : g ∈ P.bl := by
  unfold PState.bl; exact List.mem_append.2 (.inr (List.mem_flatMap.2 ⟨y, hy, h⟩))

/-- One fiber is another one. -/
theorem OwnS.fiber' {W W' : World} {B b : Nat} {P : PState} {L R : List PFiber} {y y' : PFiber} {M : Nat → Prop} (h : OwnS W B b P) (hP : P.fs = L ++ y :: R)
    (hc : Chg M W W') (hM : ∀ g, M g → g < W.heap.size → rowBlock P.vfs = some g ∨ g ∈ y.bl) (hy : FiberO W' B y') (hrow : RowAt W' B 2 P.vfs (L ++ y' :: R).length ((L ++ y' :: R).flatMap fiberF))
    (hn : y'.bl.Nodup) (hs : ∀ g ∈ y'.bl, g ∈ y.bl ∨ g ∉ b :: P.bl) : OwnS W' B b { P with fs := L ++ y' :: R } := by
  have hlt := h.lt
  obtain ⟨d0, d1, d2⟩ := h.dis
  have hym : y ∈ P.fs := by rw [hP]; simp
  let A := b :: ((rowBlock P.vfs).toList ++ (rowBlock P.vo).toList ++ L.flatMap PFiber.bl)
  let C := R.flatMap PFiber.bl
  have hbl : b :: P.bl = A ++ y.bl ++ C := by
    show b :: P.bl = b :: _ ++ y.bl ++ C
    unfold PState.bl
    rw [hP, List.flatMap_append, List.flatMap_cons]
    simp [C, List.append_assoc]
  have hnd := h.nodup
  rw [hbl] at hnd
  have hbl' : b :: PState.bl { P with fs := L ++ y' :: R } = A ++ y'.bl ++ C := by
    show b :: _ = b :: _ ++ y'.bl ++ C
    unfold PState.bl
    simp only [List.flatMap_append, List.flatMap_cons]
    simp [C, List.append_assoc]
  have hltA : ∀ g ∈ A ++ C, g < W.heap.size := fun g hg => hlt g (by rw [hbl]; rcases List.mem_append.1 hg with h1 | h1 <;> simp [h1])
  have hny : ∀ g ∈ A ++ C, g ∉ y.bl := fun g hg hm => by
    rw [List.append_assoc, List.nodup_append] at hnd
    obtain ⟨_, h2, h3⟩ := hnd
    rw [List.nodup_append] at h2
    rcases List.mem_append.1 hg with h4 | h4
    · exact h3 g h4 g (by simp [hm]) rfl
    · exact h2.2.2 g hm g h4 rfl
  have ne : ∀ g, g ∈ A ++ C → rowBlock P.vfs ≠ some g → ¬ M g := fun g hg hv hm => by
    rcases hM g hm (hltA g hg) with h1 | h1
    · exact hv h1
    · exact hny g hg h1
  have hA : ∀ g, g ∈ A → g ∈ A ++ C := fun g h => List.mem_append.2 (.inl h)
  have hb : ¬ M b := ne b (hA _ (by simp [A])) (fun e => d0 (PState.mem_vfs e))
  have hz : ∀ z, z ∈ L ∨ z ∈ R → ∀ g ∈ z.bl, ¬ M g := fun z hz g hg => by
    have hzm : z ∈ P.fs := by rw [hP]; rcases hz with h1 | h1 <;> simp [h1]
    refine ne g ?_ (fun e => (d1 g e).2 z hzm hg)
    rcases hz with h1 | h1
    · exact hA _ (List.mem_cons_of_mem _ (List.mem_append.2 (.inr (List.mem_flatMap.2 ⟨z, h1, hg⟩))))
    · exact List.mem_append.2 (.inr (List.mem_flatMap.2 ⟨z, h1, hg⟩))
  refine ⟨h.c0.chg hc hb, h.c1.chg hc hb, h.c2.chg hc hb, h.i, hrow, h.out.chg hc (fun g e => ne g (hA _ (by simp [A, e])) (fun e2 => (d1 g e2).1 e)) (by decide), fun z hz' => ?_, h.le, ?_, ?_⟩
  · have hz'' : z ∈ L ++ y' :: R := hz'
    rcases List.mem_append.1 hz'' with h1 | h1
    · exact (h.fs z (by rw [hP]; simp [h1])).chg hc (hz z (.inl h1))
    · rcases List.mem_cons.1 h1 with rfl | h1
      · exact hy
      · exact (h.fs z (by rw [hP]; simp [h1])).chg hc (hz z (.inr h1))
  · have := h.few
    rw [hP] at this
    show (L ++ y' :: R).length ≤ 1000 ∧ P.out.length ≤ 1000
    simpa using this
  · rw [hbl']
    exact nodup_swap' hnd hn fun g hg => (hs g hg).imp id fun h1 h2 => h1 (by
      rw [hbl]
      rcases List.mem_append.1 h2 with h3 | h3 <;> simp [h3])
theorem OwnS.fiber {W W' : World} {B b : Nat} {P : PState} {L R : List PFiber} {y y' : PFiber} {M : Nat → Prop} (h : OwnS W B b P) (hP : P.fs = L ++ y :: R)
    (hc : Chg M W W') (hM : ∀ g, M g → g < W.heap.size → rowBlock P.vfs = some g ∨ g ∈ y.bl) (hy : FiberO W' B y') (hrow : RowAt W' B 2 P.vfs (L ++ y' :: R).length ((L ++ y' :: R).flatMap fiberF))
    (hn : y'.bl.Nodup) (hs : ∀ g ∈ y'.bl, g ∈ y.bl ∨ W.heap.size ≤ g) : OwnS W' B b { P with fs := L ++ y' :: R } :=
  h.fiber' hP hc hM hy hrow hn fun g hg => (hs g hg).imp id fun h1 h2 => by have := h.lt g h2; omega

/-- A fiber's cells. -/
theorem OwnS.place {P : PState} {L R : List PFiber} {y : PFiber} {W : World} {B b : Nat} (h : OwnS W B b P) (hP : P.fs = L ++ y :: R) :
    ∃ g o cap, P.vfs = .slice (some ⟨g, o, none⟩) P.fs.length cap ∧ L.length < P.fs.length ∧ Cx W g (o + L.length * 2) y.vf ∧ Cx W g (o + L.length * 2 + 1) (.int .i64 y.caller) ∧ rowBlock P.vfs = some g := by
  have hrow := h.row
  rw [hP] at hrow
  obtain ⟨g, o, cap, e1, hbl, hc, hm, hx⟩ := RowAt.place fiberF (fun _ => rfl) hrow
  exact ⟨g, o, cap, by rw [hP]; exact e1, by rw [hP]; simp, hx 0 _ (by decide) rfl, hx 1 _ (by decide) rfl, hbl⟩

/-- A fiber has another caller. -/
theorem OwnS.setCaller {P : PState} {L R : List PFiber} {y : PFiber} {W : World} {B b g o n cap : Nat} (h : OwnS W B b P) (hP : P.fs = L ++ y :: R) (hv : P.vfs = .slice (some ⟨g, o, none⟩) n cap) (c : Int) (hI : I64 c) :
    OwnS (W.setCell ⟨g, o + L.length * 2 + 1, none⟩ (.int .i64 c)) B b { P with fs := L ++ { y with caller := c } :: R } ∧ Chg (· ∈ P.bl) W (W.setCell ⟨g, o + L.length * 2 + 1, none⟩ (.int .i64 c)) := by
  obtain ⟨d0, d1, d2⟩ := h.dis
  have hym : y ∈ P.fs := by rw [hP]; simp
  have hrow := h.row
  rw [hP, hv] at hrow
  obtain ⟨g', o', cap', e1, hbl, _⟩ := RowAt.place fiberF (fun _ => rfl) hrow
  simp only [Value.slice.injEq, Option.some.injEq, Addr.mk.injEq] at e1
  obtain ⟨⟨rfl, rfl, -⟩, -, rfl⟩ := e1
  rw [← hv] at hbl
  have hy := h.fs y hym
  have hCh := chg_one W g (o + L.length * 2 + 1) (.int .i64 c)
  have hyc := hy.chg hCh (fun k hk e => by subst e; exact (d1 _ hbl).2 y hym hk)
  refine ⟨h.fiber hP hCh (fun k hk _ => .inl (by rw [hbl, show k = g from hk])) ⟨hI, hyc.row, hyc.fr, hyc.few⟩ ?_ ?_ ?_, hCh.mono (fun k _ hk => by rw [show k = g from hk]; exact PState.mem_vfs hbl)⟩
  · rw [hv]
    exact hrow.storeAt fiberF (fun _ => rfl) (by decide) rfl
  · have h1 := (List.nodup_cons.1 h.nodup).2
    unfold PState.bl at h1
    rw [hP, List.flatMap_append, List.flatMap_cons] at h1
    exact (List.nodup_append.1 (List.nodup_append.1 (List.nodup_append.1 h1).2.1).2.1).1
  · exact fun k hk => .inl hk

/-- A fiber has another row of frames. -/
theorem OwnS.setFrames' {P : PState} {L R : List PFiber} {y y' : PFiber} {W W1 : World} {B b g o n cap : Nat} (h : OwnS W B b P) (hP : P.fs = L ++ y :: R) (hv : P.vfs = .slice (some ⟨g, o, none⟩) n cap)
    (hc : Chg (fun k => rowBlock y.vf = some k) W W1) (hcl : y'.caller = y.caller) (hy : FiberO W1 B y') (hn : y'.bl.Nodup) (hs : ∀ g ∈ y'.bl, g ∈ y.bl ∨ g ∉ b :: P.bl) :
    OwnS (W1.setCell ⟨g, o + L.length * 2, none⟩ y'.vf) B b { P with fs := L ++ y' :: R } ∧ Chg (· ∈ P.bl) W (W1.setCell ⟨g, o + L.length * 2, none⟩ y'.vf) := by
  obtain ⟨d0, d1, d2⟩ := h.dis
  have hym : y ∈ P.fs := by rw [hP]; simp
  have hrow := h.row
  rw [hP, hv] at hrow
  obtain ⟨g', o', cap', e1, hbl, _⟩ := RowAt.place fiberF (fun _ => rfl) hrow
  simp only [Value.slice.injEq, Option.some.injEq, Addr.mk.injEq] at e1
  obtain ⟨⟨rfl, rfl, -⟩, -, rfl⟩ := e1
  rw [← hv] at hbl
  have hgs : g < W.heap.size := h.lt g (List.mem_cons_of_mem _ (PState.mem_vfs hbl))
  have hyv : ∀ k, rowBlock y.vf = some k → k ∈ y.bl := fun k hk => by unfold PFiber.bl; simp [hk]
  have hgy : rowBlock y.vf ≠ some g := fun e => (d1 g hbl).2 y hym (hyv g e)
  have hCh : Chg (fun k => rowBlock y.vf = some k ∨ k = g) W (W1.setCell ⟨g, o + L.length * 2, none⟩ y'.vf) := (hc.mono (fun _ _ e => .inl e)).setCell (p := ⟨g, o + L.length * 2, none⟩) (.inl (.inr rfl)) _
  refine ⟨h.fiber' hP hCh (fun k hk _ => by rcases hk with h1 | h1; exact .inr (hyv k h1); exact .inl (by rw [h1]; exact hbl)) (hy.chg (chg_one W1 g (o + L.length * 2) y'.vf) fun k hk e => ?_) ?_ hn hs, hCh.mono (fun k _ hk => ?_)⟩
  · subst e
    rcases hs k hk with h1 | h1
    · exact (d1 k hbl).2 y hym h1
    · exact h1 (List.mem_cons_of_mem _ (PState.mem_vfs hbl))
  · have hrow1 := hrow.chg hc (fun k hk e => by rw [← hv, hbl] at hk; cases hk; exact hgy e) (by decide)
    rw [hv]
    have := hrow1.storeAt (y' := y') (r := 0) (u := y'.vf) fiberF (fun _ => rfl) (by decide) (by unfold fiberF; rw [hcl]; rfl)
    rwa [Nat.add_zero] at this
  · rcases hk with h1 | h1
    · exact PState.mem_fs hym (hyv k h1)
    · rw [h1]; exact PState.mem_vfs hbl
theorem OwnS.setFrames {P : PState} {L R : List PFiber} {y y' : PFiber} {W W1 : World} {B b g o n cap : Nat} (h : OwnS W B b P) (hP : P.fs = L ++ y :: R) (hv : P.vfs = .slice (some ⟨g, o, none⟩) n cap)
    (hc : Chg (fun k => rowBlock y.vf = some k) W W1) (hcl : y'.caller = y.caller) (hy : FiberO W1 B y') (hn : y'.bl.Nodup) (hs : ∀ g ∈ y'.bl, g ∈ y.bl ∨ W.heap.size ≤ g) :
    OwnS (W1.setCell ⟨g, o + L.length * 2, none⟩ y'.vf) B b { P with fs := L ++ y' :: R } ∧ Chg (· ∈ P.bl) W (W1.setCell ⟨g, o + L.length * 2, none⟩ y'.vf) :=
  h.setFrames' hP hv hc hcl hy hn fun g hg => (hs g hg).imp id fun h1 h2 => by have := h.lt g h2; omega

theorem OwnS.setNow {P : PState} {W : World} {B b : Nat} (h : OwnS W B b P) (n : Int) (hI : I64 n) :
    OwnS (W.setCell ⟨b, 1, none⟩ (.int .i64 n)) B b { P with now := n } := by
  have d0 := h.dis.1
  have hCh := chg_one W b 1 (.int .i64 n)
  have ne : ∀ g ∈ P.bl, ¬ g = b := fun g hg e => d0 (e ▸ hg)
  exact ⟨h.c0.other (.inr (by decide)) _, h.c1.set _, h.c2.other (.inr (by decide)) _, ⟨hI, h.i.2⟩, h.row.chg hCh (fun g e => ne g (PState.mem_vfs e)) (by decide), h.out.chg hCh (fun g e => ne g (PState.mem_vo e)) (by decide),
    fun y hy => (h.fs y hy).chg hCh (fun g hg => ne g (PState.mem_fs hy hg)), h.le, h.few, h.nodup⟩

theorem OwnS.setOut {P : PState} {W W1 : World} {B b : Nat} (h : OwnS W B b P) {out : List Int} {v1 : Value} (hc : Chg (fun k => rowBlock P.vo = some k) W W1) (hr : RowAt W1 B 1 v1 out.length (ints out)) (hI : ∀ k ∈ out, I64 k) (hl : out.length ≤ 1000)
    (hv : rowBlock v1 = rowBlock P.vo ∨ ∀ k, rowBlock v1 = some k → W.heap.size ≤ k) : OwnS (W1.setCell ⟨b, 2, none⟩ v1) B b { P with out := out, vo := v1 } ∧ Chg (· ∈ b :: P.bl) W (W1.setCell ⟨b, 2, none⟩ v1) := by
  obtain ⟨d0, d1, d2⟩ := h.dis
  have hlt := h.lt
  have hCh : Chg (fun k => rowBlock P.vo = some k ∨ k = b) W (W1.setCell ⟨b, 2, none⟩ v1) := (hc.mono (fun _ _ e => .inl e)).setCell (p := ⟨b, 2, none⟩) (.inl (.inr rfl)) _
  have hbo : ¬ rowBlock P.vo = some b := fun e => d0 (PState.mem_vo e)
  refine ⟨⟨(h.c0.chg hc hbo).other (.inr (by decide)) _, (h.c1.chg hc hbo).other (.inr (by decide)) _, (h.c2.chg hc hbo).set _, ⟨h.i.1, hI⟩, h.row.chg hCh (fun g e => ?_) (by decide), hr.chg (chg_one W1 b 2 v1) (fun g e => ?_) (by decide), fun y hy => (h.fs y hy).chg hCh (fun g hg => ?_), h.le, ⟨h.few.1, hl⟩, ?_⟩, hCh.mono (fun k _ hk => ?_)⟩
  · rintro (h1 | h1)
    · exact (d1 g e).1 h1
    · subst h1; exact d0 (PState.mem_vfs e)
  · rintro rfl
    rcases hv with h1 | h1
    · exact hbo (h1 ▸ e)
    · have := h1 g e
      have := h.c0.lt
      omega
  · rintro (h1 | h1)
    · exact d2 g h1 y hy hg
    · subst h1; exact d0 (PState.mem_fs hy hg)
  · have hnd := h.nodup
    have e1 : b :: P.bl = (b :: (rowBlock P.vfs).toList) ++ (rowBlock P.vo).toList ++ P.fs.flatMap PFiber.bl := by unfold PState.bl; simp
    have e2 : b :: PState.bl { P with out := out, vo := v1 } = (b :: (rowBlock P.vfs).toList) ++ (rowBlock v1).toList ++ P.fs.flatMap PFiber.bl := by unfold PState.bl; simp
    rw [e2]
    rw [e1] at hnd hlt
    refine nodup_swap hnd (by cases rowBlock v1 <;> simp) (fun g hg => ?_) (fun g hg => hlt g (by rcases List.mem_append.1 hg with h1 | h1; exact List.mem_append.2 (.inl (List.mem_append.2 (.inl h1))); exact List.mem_append.2 (.inr h1)))
    have hg' : rowBlock v1 = some g := by simpa using hg
    rcases hv with h1 | h1
    · exact .inl (by rw [← h1]; exact hg)
    · exact .inr (h1 g hg')
  · rcases hk with h1 | h1
    · exact List.mem_cons_of_mem _ (PState.mem_vo h1)
    · rw [h1]; exact List.mem_cons_self

theorem OwnS.addFiber {P : PState} {W W1 : World} {B b : Nat} {y : PFiber} (h : OwnS W B b P) {v1 : Value} (hc : Chg (fun k => rowBlock P.vfs = some k) W W1) (hr : RowAt W1 B 2 v1 (P.fs ++ [y]).length ((P.fs ++ [y]).flatMap fiberF)) (hy : FiberO W1 B y) (hl : P.fs.length < 1000)
    (hv : rowBlock v1 = rowBlock P.vfs ∨ ∀ k, rowBlock v1 = some k → W.heap.size ≤ k) (hn : y.bl.Nodup) (hf : ∀ k ∈ y.bl, W.heap.size ≤ k ∧ rowBlock v1 ≠ some k) :
    OwnS (W1.setCell ⟨b, 0, none⟩ v1) B b { P with fs := P.fs ++ [y], vfs := v1 } ∧ Chg (· ∈ b :: P.bl) W (W1.setCell ⟨b, 0, none⟩ v1) := by
  obtain ⟨d0, d1, d2⟩ := h.dis
  have hlt := h.lt
  have hCh : Chg (fun k => rowBlock P.vfs = some k ∨ k = b) W (W1.setCell ⟨b, 0, none⟩ v1) := (hc.mono (fun _ _ e => .inl e)).setCell (p := ⟨b, 0, none⟩) (.inl (.inr rfl)) _
  have hbo : ¬ rowBlock P.vfs = some b := fun e => d0 (PState.mem_vfs e)
  have hbs := h.c0.lt
  refine ⟨⟨(h.c0.chg hc hbo).set _, (h.c1.chg hc hbo).other (.inr (by decide)) _, (h.c2.chg hc hbo).other (.inr (by decide)) _, h.i, hr.chg (chg_one W1 b 0 v1) (fun g e => ?_) (by decide), h.out.chg hCh (fun g e => ?_) (by decide), fun z hz => ?_, h.le, ⟨?_, h.few.2⟩, ?_⟩, hCh.mono (fun k _ hk => ?_)⟩
  · rintro rfl
    rcases hv with h1 | h1
    · exact hbo (h1 ▸ e)
    · have := h1 g e; omega
  · rintro (h1 | h1)
    · exact (d1 g h1).1 e
    · subst h1; exact d0 (PState.mem_vo e)
  · have hz' : z ∈ P.fs ++ [y] := hz
    rcases List.mem_append.1 hz' with h1 | h1
    · refine (h.fs z h1).chg hCh (fun g hg => ?_)
      rintro (h2 | h2)
      · exact (d1 g h2).2 z h1 hg
      · subst h2; exact d0 (PState.mem_fs h1 hg)
    · rw [List.mem_singleton] at h1
      subst h1
      exact hy.chg (chg_one W1 b 0 v1) (fun g hg e => by subst e; have := (hf _ hg).1; omega)
  · show (P.fs ++ [y]).length ≤ 1000
    simp; omega
  · have hnd := h.nodup
    have e1 : b :: P.bl = [b] ++ (rowBlock P.vfs).toList ++ ((rowBlock P.vo).toList ++ P.fs.flatMap PFiber.bl) := by unfold PState.bl; simp
    have e2 : b :: PState.bl { P with fs := P.fs ++ [y], vfs := v1 } = ([b] ++ (rowBlock v1).toList ++ ((rowBlock P.vo).toList ++ P.fs.flatMap PFiber.bl)) ++ y.bl := by unfold PState.bl; simp
    rw [e2]
    rw [e1] at hnd hlt
    rw [List.nodup_append]
    refine ⟨nodup_swap (n := W.heap.size) hnd (by cases rowBlock v1 <;> simp) (fun g hg => ?_) (fun g hg => hlt g (by rcases List.mem_append.1 hg with h1 | h1; exact List.mem_append.2 (.inl (List.mem_append.2 (.inl h1))); exact List.mem_append.2 (.inr h1))), hn, fun a ha c hc' e => ?_⟩
    · have hg' : rowBlock v1 = some g := by simpa using hg
      rcases hv with h1 | h1
      · exact .inl (by rw [← h1]; exact hg)
      · exact .inr (h1 g hg')
    · subst e
      obtain ⟨f1, f2⟩ := hf a hc'
      rcases List.mem_append.1 ha with h1 | h1
      · rcases List.mem_append.1 h1 with h2 | h2
        · have := hlt a (List.mem_append.2 (.inl (List.mem_append.2 (.inl h2)))); omega
        · exact f2 (by simpa using h2)
      · have := hlt a (List.mem_append.2 (.inr h1)); omega
  · rcases hk with h1 | h1
    · exact List.mem_cons_of_mem _ (PState.mem_vfs h1)
    · rw [h1]; exact List.mem_cons_self
end Go.Proofs.YtpcjkfppacnkgaaGreatDoor
end
section
/- A state in own memory turned into another: by number. Contracts of the document's push, pull, put, truth, reckoned. -/
set_option maxHeartbeats 4000000
set_option maxRecDepth 100000
namespace Go.Proofs.YtpcjkfppacnkgaaGreatDoor
open Go Go.RowKit

theorem split_at {α : Type} (l : List α) (n : Nat) (h : n < l.length) : ∃ L y R, l = L ++ y :: R ∧ L.length = n :=
  ⟨l.take n, l[n], l.drop (n + 1), by rw [List.getElem_cons_drop, List.take_append_drop], by rw [List.length_take]; omega⟩
theorem split_last {α : Type} (l : List α) (h : 0 < l.length) : ∃ F x, l = F ++ [x] :=
  ⟨l.dropLast, l.getLast (by intro e; subst e; simp at h), (List.dropLast_concat_getLast _).symm⟩
theorem getD_mid {α : Type} (L : List α) (y : α) (R : List α) (d : α) : (L ++ y :: R).getD L.length d = y := by simp [List.getD]
theorem getD_last {α : Type} (F : List α) (x : α) (d : α) (n : Nat) (h : n = (F ++ [x]).length - 1) : (F ++ [x]).getD n d = x := by
  subst h; simp [List.getD]
theorem modify_mid {α : Type} (L : List α) (y : α) (R : List α) (g : α → α) : (L ++ y :: R).modify L.length g = L ++ g y :: R := by
  induction L with
  | nil => rfl
  | cons a L ih => simp only [List.cons_append, List.length_cons, List.modify_succ_cons, ih]
theorem modify_last {α : Type} (F : List α) (x : α) (g : α → α) (n : Nat) (h : n = (F ++ [x]).length - 1) : (F ++ [x]).modify n g = F ++ [g x] := by
  have : n = F.length := by simp at h; exact h
  subst this
  exact modify_mid F x [] g
theorem mem_modify' {α : Type} (g : α → α) : ∀ (l : List α) (n : Nat) (y : α), y ∈ l.modify n g → y ∈ l ∨ ∃ x ∈ l, y = g x
  | [], n, y, h => by cases n <;> simp at h
  | a :: l, 0, y, h => by
    simp only [List.modify_zero_cons, List.mem_cons] at h
    rcases h with rfl | h
    · exact .inr ⟨a, by simp, rfl⟩
    · exact .inl (by simp [h])
  | a :: l, n + 1, y, h => by
    simp only [List.modify_succ_cons, List.mem_cons] at h
    rcases h with rfl | h
    · exact .inl (by simp)
    · rcases mem_modify' g l n y h with h | ⟨x, hx, e⟩
      · exact .inl (by simp [h])
      · exact .inr ⟨x, by simp [hx], e⟩

section
variable {P : PState} {L R : List PFiber} {y : PFiber} {F : List PFrame} {x : PFrame}
theorem fib_at (hP : P.fs = L ++ y :: R) : P.g.fibers.getD L.length default = y.g := by
  show (P.fs.map PFiber.g).getD L.length default = y.g
  rw [hP, List.map_append, List.map_cons]
  have := getD_mid (L.map PFiber.g) y.g (R.map PFiber.g) default
  rwa [List.length_map] at this
theorem top_at (hf : y.fr = F ++ [x]) : topOf y.g = x.f := by
  unfold topOf
  show (y.fr.map PFrame.f).getD ((y.fr.map PFrame.f).length - 1) default = x.f
  rw [hf, List.map_append, List.map_cons, List.map_nil]
  exact getD_last _ _ _ _ rfl
theorem modFib_at (hP : P.fs = L ++ y :: R) {n : Int} (hn : n = L.length) {y' : PFiber} {g : GFiber → GFiber} (h : y'.g = g y.g) : modFib P.g n g = PState.g { P with fs := L ++ y' :: R } := by
  subst hn
  unfold modFib PState.g
  simp only [GState.mk.injEq, and_true]
  rw [hP, List.map_append, List.map_cons, List.map_append, List.map_cons, Int.toNat_natCast]
  have := modify_mid (L.map PFiber.g) y.g (R.map PFiber.g) g
  rw [List.length_map] at this
  rw [this, h]
theorem modTop_at (hs : Spot P L y R F x) {n : Int} (hn : n = L.length) {x' : PFrame} {g : GFrame → GFrame} (h : x'.f = g x.f) : modTop P.g n g = (replTop P L y R F x').g := by
  unfold modTop replTop
  refine modFib_at hs.fs hn ?_
  unfold PFiber.g
  simp only [GFiber.mk.injEq, and_true]
  rw [hs.fr, List.map_append, List.map_append, List.map_cons, List.map_cons, List.map_nil, modify_last _ _ _ _ rfl, h]
theorem curF_at (hP : P.fs = L ++ y :: R) (hn : P.now = L.length) : curF P.g = y.g := by
  unfold curF
  rw [show P.g.now = P.now from rfl, hn, Int.toNat_natCast]
  exact fib_at hP
theorem curX_at (hs : Spot P L y R F x) (hn : P.now = L.length) : curX P.g = x.f := by
  unfold curX
  rw [curF_at hs.fs hn, top_at hs.fr]
end

theorem hasFib {P : PState} {n : Int} (h : 0 ≤ n ∧ n < P.fs.length) : ∃ L y R, P.fs = L ++ y :: R ∧ n = (L.length : Int) := by
  obtain ⟨L, y, R, e, hl⟩ := split_at P.fs n.toNat (by omega)
  exact ⟨L, y, R, e, by omega⟩
theorem hasSpot {P : PState} {n : Int} (h : HasTop P.g n) : ∃ L y R F x, Spot P L y R F x ∧ n = (L.length : Int) := by
  obtain ⟨h0, h1, h2⟩ := h
  have h1' : n < P.fs.length := by simpa [PState.g] using h1
  obtain ⟨L, y, R, e, hl⟩ := hasFib ⟨h0, h1'⟩
  rw [hl, Int.toNat_natCast, fib_at e] at h2
  obtain ⟨F, x, hf⟩ := split_last y.fr (by simpa [PFiber.g] using h2)
  exact ⟨L, y, R, F, x, ⟨e, hf⟩, hl⟩

/-- The state has become s'. -/
structure Turn (W W' : World) (B b : Nat) (P : PState) (s' : GState) : Prop where
  own : ∃ P', OwnS W' B b P' ∧ P'.g = s' ∧ ∀ g ∈ P'.bl, g ∈ P.bl ∨ W.heap.size ≤ g
  chg : Chg (· ∈ b :: P.bl) W W'
theorem Turn.refl {W : World} {B b : Nat} {P : PState} (h : OwnS W B b P) : Turn W W B b P P.g := ⟨⟨P, h, rfl, fun _ h => .inl h⟩, Chg.refl _ _⟩
theorem Turn.step {W W1 W2 : World} {B b : Nat} {P P1 : PState} {s2 : GState} (hc : Chg (· ∈ b :: P.bl) W W1) (hs : ∀ g ∈ P1.bl, g ∈ P.bl ∨ W.heap.size ≤ g) (h : Turn W1 W2 B b P1 s2) : Turn W W2 B b P s2 := by
  obtain ⟨⟨P2, o2, g2, s2'⟩, c2⟩ := h
  refine ⟨⟨P2, o2, g2, fun g hg => ?_⟩, hc.trans' c2 fun n hn hm => ?_⟩
  · rcases s2' g hg with h1 | h1
    · exact hs g h1
    · exact .inr (Nat.le_trans hc.size h1)
  · rcases List.mem_cons.1 hm with rfl | h1
    · exact List.mem_cons_self
    · rcases hs n h1 with h2 | h2
      · exact List.mem_cons_of_mem _ h2
      · omega
theorem Turn.ext {W W1 : World} {B b : Nat} {P : PState} {s : GState} (h : Turn W W1 B b P s) {W2 : World} (he : Ext W1 W2) : Turn W W2 B b P s := by
  obtain ⟨⟨P1, o1, g1, s1⟩, c1⟩ := h
  exact ⟨⟨P1, o1.ext he, g1, s1⟩, c1.trans (Chg.of_ext he)⟩
theorem Turn.pre {W W1 W2 : World} {B b : Nat} {P : PState} {s : GState} (he : Ext W W1) (h : Turn W1 W2 B b P s) : Turn W W2 B b P s :=
  Turn.step (Chg.of_ext he) (fun _ h => .inl h) h

/-- A call on the state has answered an error, or the state has become another. -/
structure Did (W W' : World) (B b : Nat) (P : PState) (r : Int × GState) : Prop where
  chg : Chg (· ∈ b :: P.bl) W W'
  turn : r.1 = 0 → Turn W W' B b P r.2
theorem Did.of {W W' : World} {B b : Nat} {P : PState} {s : GState} (h : Turn W W' B b P s) : Did W W' B b P (0, s) := ⟨h.chg, fun _ => h⟩
theorem Did.step {W W1 W2 : World} {B b : Nat} {P P1 : PState} {r : Int × GState} (hc : Chg (· ∈ b :: P.bl) W W1) (hs : ∀ g ∈ P1.bl, g ∈ P.bl ∨ W.heap.size ≤ g) (h : Did W1 W2 B b P1 r) : Did W W2 B b P r := by
  refine ⟨hc.trans' h.chg fun n hn hm => ?_, fun h0 => Turn.step hc hs (h.turn h0)⟩
  rcases List.mem_cons.1 hm with rfl | h1
  · exact List.mem_cons_self
  · rcases hs n h1 with h2 | h2
    · exact List.mem_cons_of_mem _ h2
    · omega

theorem Spot.bl {P : PState} {L R : List PFiber} {y : PFiber} {F : List PFrame} {x : PFrame} (hs : Spot P L y R F x) {g : Nat} : (rowBlock y.vf = some g ∨ g ∈ x.bl) → g ∈ P.bl := by
  intro h
  refine PState.mem_fs (y := y) (by rw [hs.fs]; simp) ?_
  unfold PFiber.bl
  rcases h with h | h
  · simp [h]
  · exact List.mem_append.2 (.inr (List.mem_flatMap.2 ⟨x, by rw [hs.fr]; simp, h⟩))
theorem repl_bl {P : PState} {L R : List PFiber} {y : PFiber} {F : List PFrame} {x x' : PFrame} (hs : Spot P L y R F x) {n : Nat} (h : ∀ g ∈ x'.bl, g ∈ x.bl ∨ n ≤ g) : ∀ g ∈ (replTop P L y R F x').bl, g ∈ P.bl ∨ n ≤ g := by
  intro g hg
  unfold replTop PState.bl at hg
  simp only [List.flatMap_append, List.flatMap_cons, List.mem_append] at hg
  have e : PFiber.bl { y with fr := F ++ [x'] } = (rowBlock y.vf).toList ++ (F.flatMap PFrame.bl ++ x'.bl) := by unfold PFiber.bl; simp
  rw [e] at hg
  simp only [List.mem_append] at hg
  have hL : ∀ z ∈ P.fs, g ∈ z.bl → g ∈ P.bl := fun z hz h => PState.mem_fs hz h
  have hfm : ∀ (l : List PFiber), (∀ z ∈ l, z ∈ P.fs) → g ∈ l.flatMap PFiber.bl → g ∈ P.bl := fun l hl h => by
    obtain ⟨z, hz, h2⟩ := List.mem_flatMap.1 h
    exact hL z (hl z hz) h2
  rcases hg with (h1 | h1) | h1 | (h1 | h1 | h1) | h1
  · exact .inl (PState.mem_vfs (by simpa using h1))
  · exact .inl (PState.mem_vo (by simpa using h1))
  · exact .inl (hfm L (fun z hz => by rw [hs.fs]; simp [hz]) h1)
  · exact .inl (hs.bl (.inl (by simpa using h1)))
  · obtain ⟨z, hz, h2⟩ := List.mem_flatMap.1 h1
    refine .inl (hL y (by rw [hs.fs]; simp) ?_)
    unfold PFiber.bl
    exact List.mem_append.2 (.inr (List.mem_flatMap.2 ⟨z, by rw [hs.fr]; simp [hz], h2⟩))
  · rcases h g h1 with h2 | h2
    · exact .inl (hs.bl (.inr h2))
    · exact .inr h2
  · exact .inl (hfm R (fun z hz => by rw [hs.fs]; simp [hz]) h1)
theorem frame_bl {x : PFrame} {f : GFrame} {v1 : Value} {n : Nat} (h : rowBlock v1 = rowBlock x.vs ∨ ∀ k, rowBlock v1 = some k → n ≤ k) : ∀ g ∈ PFrame.bl ⟨f, x.vl, v1⟩, g ∈ x.bl ∨ n ≤ g := by
  intro g hg
  unfold PFrame.bl at hg ⊢
  rcases List.mem_append.1 hg with h1 | h1
  · exact .inl (List.mem_append.2 (.inl h1))
  · rcases h with h | h
    · exact .inl (List.mem_append.2 (.inr (by rw [← h]; exact h1)))
    · exact .inr (h g (by simpa using h1))
theorem chg_spot {P : PState} {L R : List PFiber} {y : PFiber} {F : List PFrame} {x : PFrame} {b : Nat} (hs : Spot P L y R F x) {W W' : World} (h : Chg (fun k => rowBlock y.vf = some k ∨ rowBlock x.vs = some k) W W') : Chg (· ∈ b :: P.bl) W W' :=
  h.mono (fun k _ hk => List.mem_cons_of_mem _ (hs.bl (hk.imp id (fun e => by unfold PFrame.bl; simp [e]))))

/-- There is room for one value more, on all frames. -/
def Room (s : GState) : Prop := ∀ f ∈ s.fibers, ∀ x ∈ f.frames, x.stack.length < 1000
theorem Room.fib {s : GState} (h : Room s) (n : Int) {g : GFiber → GFiber} (hg : ∀ f, (∀ x ∈ f.frames, x.stack.length < 1000) → ∀ x ∈ (g f).frames, x.stack.length < 1000) : Room (modFib s n g) := by
  intro f hf
  rcases mem_modify' g _ _ _ hf with h1 | ⟨z, h1, rfl⟩
  · exact h f h1
  · exact hg z (h z h1)
theorem Room.top {s : GState} (h : Room s) (n : Int) {g : GFrame → GFrame} (hg : ∀ x, (g x).stack.length ≤ x.stack.length) : Room (modTop s n g) :=
  h.fib n fun f hf x hx => by
    rcases mem_modify' g _ _ _ hx with h1 | ⟨z, h1, rfl⟩
    · exact hf x h1
    · exact Nat.lt_of_le_of_lt (hg z) (hf z h1)
theorem Room.pop {s : GState} (h : Room s) : Room (popG s) := h.top _ fun _ => by simp
theorem Room.drop {s : GState} (h : Room s) : Room (dropG s) := h.fib _ fun _ hf x hx => hf x (List.dropLast_subset _ hx)
theorem Room.caller {s : GState} (h : Room s) (n c : Int) : Room (modFib s n fun f => { f with caller := c }) := h.fib n fun _ hf x hx => hf x hx
theorem Room.now {s : GState} (h : Room s) (n : Int) : Room { s with now := n } := h
theorem FewS.room {s : GState} (h : FewS s) : Room s := fun f hf x hx => by have := ((h.2.2 f hf).2 x hx).2; omega

/-- Values on a state's top frame. -/
theorem OwnS.i64s {P : PState} {w : World} {B b : Nat} (h : OwnS w B b P) (ht : HasTop P.g P.g.now) : (∀ k ∈ (curX P.g).stack, I64 k) ∧ (∀ k ∈ (curX P.g).locals, I64 k) := by
  obtain ⟨L, y, R, F, x, hs, hn⟩ := hasSpot ht
  rw [curX_at hs hn]
  have hx := (h.fs y (by rw [hs.fs]; simp)).fr x (by rw [hs.fr]; simp)
  exact ⟨hx.i.2.2.2, hx.i.2.2.1⟩
theorem OwnS.lastI {P : PState} {w : World} {B b : Nat} (h : OwnS w B b P) (ht : HasTop P.g P.g.now) (hl : 1 ≤ (curX P.g).stack.length) : I64 (lastV P.g) := by
  refine (h.i64s ht).1 _ ?_
  unfold lastV
  rw [List.getD_eq_getElem?_getD, List.getElem?_eq_getElem (by omega)]
  exact List.getElem_mem _

theorem beq_dec (a c : Int) : (a == c) = decide (a = c) := by
  by_cases e : a = c
  · rw [decide_eq_true e, e]; exact beq_self_eq_true c
  · rw [beq_false_of_ne e, decide_eq_false e]
end Go.Proofs.YtpcjkfppacnkgaaGreatDoor
end
section
/- A state in own memory turned into another: contracts of the document's yielded and given. -/
set_option maxHeartbeats 4000000
set_option maxRecDepth 100000
namespace Go.Proofs.YtpcjkfppacnkgaaGreatDoor
open Go Go.RowKit

theorem modFib_len (s : GState) (n : Int) (g : GFiber → GFiber) : (modFib s n g).fibers.length = s.fibers.length := by unfold modFib; simp
theorem modFib_get (s : GState) (n : Int) (g : GFiber → GFiber) (m : Nat) (hm : m < s.fibers.length) : (modFib s n g).fibers.getD m default = if n.toNat = m then g (s.fibers.getD m default) else s.fibers.getD m default := by
  unfold modFib
  show (s.fibers.modify n.toNat g).getD m default = _
  rw [List.getD_eq_getElem?_getD, List.getElem?_modify, List.getD_eq_getElem?_getD, List.getElem?_eq_getElem hm]
  by_cases h : n.toNat = m <;> simp [h]
theorem HasTop.fib {s : GState} {n : Int} (h : HasTop s n) (m : Int) {g : GFiber → GFiber} (hg : ∀ f, 0 < f.frames.length → 0 < (g f).frames.length) : HasTop (modFib s m g) n := by
  obtain ⟨h0, h1, h2⟩ := h
  refine ⟨h0, by rw [modFib_len]; exact h1, ?_⟩
  rw [modFib_get _ _ _ _ (by omega)]
  split
  · exact hg _ h2
  · exact h2
theorem HasTop.top {s : GState} {n : Int} (h : HasTop s n) (m : Int) {g : GFrame → GFrame} : HasTop (modTop s m g) n := h.fib m fun f hf => by simpa using hf
theorem HasTop.pop {s : GState} {n : Int} (h : HasTop s n) : HasTop (popG s) n := h.top _

/-- The one that runs hands over to its caller: what is stored. -/
theorem OwnS.back {P : PState} {L R : List PFiber} {y : PFiber} {W : World} {B b g o n cap : Nat} (h : OwnS W B b P) (hP : P.fs = L ++ y :: R) (hn : P.now = L.length) (hv : P.vfs = .slice (some ⟨g, o, none⟩) n cap) :
    ∃ P1, OwnS ((W.setCell ⟨b, 1, none⟩ (.int .i64 y.caller)).setCell ⟨g, o + L.length * 2 + 1, none⟩ (.int .i64 (-1))) B b P1 ∧ P1.g = { modFib P.g P.g.now (fun f => { f with caller := -1 }) with now := y.caller } ∧ (∀ g, g ∈ P1.bl ↔ g ∈ P.bl) ∧
      Chg (· ∈ b :: P.bl) W ((W.setCell ⟨b, 1, none⟩ (.int .i64 y.caller)).setCell ⟨g, o + L.length * 2 + 1, none⟩ (.int .i64 (-1))) := by
  have hym : y ∈ P.fs := by rw [hP]; simp
  have o2 := h.setNow y.caller (h.fs y hym).i
  have o3 := OwnS.setCaller (P := { P with now := y.caller }) o2 hP hv (-1) (by unfold I64; decide)
  refine ⟨_, o3.1, ?_, fun k => ?_, ?_⟩
  · have e := modFib_at hP (n := P.g.now) hn (y' := { y with caller := -1 }) (g := fun f => { f with caller := -1 }) rfl
    rw [e]
    rfl
  · unfold PState.bl
    rw [hP]
    simp only [List.flatMap_append, List.flatMap_cons]
    rfl
  · exact ((chg_one W b 1 (.int .i64 y.caller)).mono (fun k _ hk => by rw [show k = b from hk]; exact List.mem_cons_self)).trans (o3.2.mono fun k _ hk => List.mem_cons_of_mem _ hk)

theorem RowAt.cutF {α : Type} (f : α → List Value) {sz : Nat} (hf : ∀ y, (f y).length = sz) {W : World} {B cap : Nat} {a : Option Addr} {F : List α} {x : α} (h : RowAt W B sz (.slice a (F ++ [x]).length cap) (F ++ [x]).length ((F ++ [x]).flatMap f)) : RowAt W B sz (.slice a F.length cap) F.length (F.flatMap f) := by
  obtain ⟨hl, a', cap', e, h1, h2, h3⟩ := h
  simp only [Value.slice.injEq] at e
  obtain ⟨rfl, -, rfl⟩ := e
  rw [List.length_append, List.length_singleton] at h1
  refine ⟨flat_len f hf F, _, _, rfl, by omega, h2, h3.imp id ?_⟩
  rintro ⟨g, o, rfl, hb, hc, ht⟩
  refine ⟨g, o, rfl, hb, fun j hj => ?_, ht⟩
  rw [hc j (by rw [List.length_append, List.length_singleton, Nat.add_mul]; omega), List.flatMap_append, List.getElem?_append_left (by rw [flat_len f hf]; omega)]

theorem OwnS.fnodup {P : PState} {W : World} {B b : Nat} {L R : List PFiber} {y : PFiber} (h : OwnS W B b P) (hP : P.fs = L ++ y :: R) : y.bl.Nodup := by
  have h1 := (List.nodup_cons.1 h.nodup).2
  unfold PState.bl at h1
  rw [hP, List.flatMap_append, List.flatMap_cons] at h1
  exact (List.nodup_append.1 (List.nodup_append.1 (List.nodup_append.1 h1).2.1).2.1).1

/-- A fiber's top frame is dropped. -/
theorem OwnS.dropTop {P : PState} {L R : List PFiber} {y : PFiber} {F : List PFrame} {x : PFrame} {W : World} {B b g o n cap gf og cf : Nat} (h : OwnS W B b P) (hs : Spot P L y R F x) (hv : P.vfs = .slice (some ⟨g, o, none⟩) n cap) (hf : y.vf = .slice (some ⟨gf, og, none⟩) (F ++ [x]).length cf) :
    OwnS (W.setCell ⟨g, o + L.length * 2, none⟩ (.slice (some ⟨gf, og, none⟩) F.length cf)) B b { P with fs := L ++ ⟨F, y.caller, .slice (some ⟨gf, og, none⟩) F.length cf⟩ :: R } ∧ Chg (· ∈ P.bl) W (W.setCell ⟨g, o + L.length * 2, none⟩ (.slice (some ⟨gf, og, none⟩) F.length cf)) ∧
    ∀ k ∈ PState.bl { P with fs := L ++ ⟨F, y.caller, .slice (some ⟨gf, og, none⟩) F.length cf⟩ :: R }, k ∈ P.bl := by
  have hym : y ∈ P.fs := by rw [hs.fs]; simp
  have hy := h.fs y hym
  have hrow := hy.row
  rw [hs.fr, hf] at hrow
  have hfew := hy.few
  rw [hs.fr] at hfew
  have hrb : rowBlock (.slice (some ⟨gf, og, none⟩) F.length cf) = rowBlock y.vf := by rw [hf]; rfl
  have hbl : PFiber.bl ⟨F, y.caller, .slice (some ⟨gf, og, none⟩) F.length cf⟩ = (rowBlock y.vf).toList ++ F.flatMap PFrame.bl := by unfold PFiber.bl; rw [hrb]
  have hbl2 : y.bl = (rowBlock y.vf).toList ++ F.flatMap PFrame.bl ++ x.bl := by unfold PFiber.bl; rw [hs.fr]; simp
  have hnd := h.fnodup hs.fs
  rw [hbl2] at hnd
  have hsub : ∀ k ∈ PFiber.bl ⟨F, y.caller, .slice (some ⟨gf, og, none⟩) F.length cf⟩, k ∈ y.bl := fun k hk => by rw [hbl] at hk; rw [hbl2]; exact List.mem_append.2 (.inl hk)
  obtain ⟨h1, h2⟩ := h.setFrames (y' := ⟨F, y.caller, .slice (some ⟨gf, og, none⟩) F.length cf⟩) hs.fs hv (W1 := W) (Chg.refl _ _) rfl
    ⟨hy.i, hrow.cutF frameF (fun _ => rfl), fun u hu => hy.fr u (by rw [hs.fr]; simp [show u ∈ F from hu]), by simp at hfew; show F.length ≤ 1000; omega⟩ (by rw [hbl]; exact (List.nodup_append.1 hnd).1) (fun k hk => .inl (hsub k hk))
  refine ⟨h1, h2, fun k hk => ?_⟩
  unfold PState.bl at hk
  simp only [List.flatMap_append, List.flatMap_cons, List.mem_append] at hk
  rcases hk with (h3 | h3) | h3 | h3 | h3
  · exact PState.mem_vfs (by simpa using h3)
  · exact PState.mem_vo (by simpa using h3)
  · obtain ⟨z, hz, h4⟩ := List.mem_flatMap.1 h3
    exact PState.mem_fs (y := z) (by rw [hs.fs]; simp [hz]) h4
  · exact PState.mem_fs hym (hsub k h3)
  · obtain ⟨z, hz, h4⟩ := List.mem_flatMap.1 h3
    exact PState.mem_fs (y := z) (by rw [hs.fs]; simp [hz]) h4

end Go.Proofs.YtpcjkfppacnkgaaGreatDoor
end
section
/- Plain data: a step that turns the frames of the running fiber alone keeps a state right. No program in sight; no condition. -/
set_option maxHeartbeats 1000000
namespace Go.Proofs.YtpcjkfppacnkgaaGreatDoor
open Go Go.RowKit

/-- s is s0 but for the frames of fiber k, and what is put out. -/
structure Near (s0 s : GState) (k : Nat) : Prop where
  now : s.now = s0.now
  len : s.fibers.length = s0.fibers.length
  other : ∀ j, j < s0.fibers.length → j ≠ k → s.fibers.getD j default = s0.fibers.getD j default
  caller : (s.fibers.getD k default).caller = (s0.fibers.getD k default).caller
theorem Near.refl (s : GState) (k : Nat) : Near s s k := ⟨rfl, rfl, fun _ _ _ => rfl, rfl⟩
/-- Fiber k runs; its frames. -/
structure At (s : GState) (k : Nat) (fs : List GFrame) (x : GFrame) : Prop where
  now : s.now = k
  lt : k < s.fibers.length
  frames : (s.fibers.getD k default).frames = fs ++ [x]
theorem Near.fib {s0 s : GState} {k : Nat} (h : Near s0 s k) (hk : k < s0.fibers.length) {g : GFiber → GFiber} (hg : (g (s.fibers.getD k default)).caller = (s.fibers.getD k default).caller) {n : Int} (hn : n = k) : Near s0 (modFib s n g) k := by
  subst hn
  refine ⟨h.now, (modFib_len _ _ _).trans h.len, fun j hj hne => ?_, ?_⟩
  · rw [modFib_get _ _ _ _ (by rw [h.len]; exact hj), Int.toNat_natCast, if_neg (fun e => hne e.symm)]
    exact h.other j hj hne
  · rw [modFib_get _ _ _ _ (by rw [h.len]; exact hk), Int.toNat_natCast, if_pos rfl, hg]
    exact h.caller
theorem At.fib {s : GState} {k : Nat} {fs fs' : List GFrame} {x x' : GFrame} (h : At s k fs x) {g : GFiber → GFiber} (hg : ∀ f, f.frames = fs ++ [x] → (g f).frames = fs' ++ [x']) {n : Int} (hn : n = k) : At (modFib s n g) k fs' x' := by
  subst hn
  refine ⟨h.now, by rw [modFib_len]; exact h.lt, ?_⟩
  rw [modFib_get _ _ _ _ h.lt, Int.toNat_natCast, if_pos rfl]
  exact hg _ h.frames
theorem Near.top {s0 s : GState} {k : Nat} (h : Near s0 s k) (hk : k < s0.fibers.length) (g : GFrame → GFrame) {n : Int} (hn : n = k) : Near s0 (modTop s n g) k := h.fib hk rfl hn
theorem At.top {s : GState} {k : Nat} {fs : List GFrame} {x : GFrame} (h : At s k fs x) (g : GFrame → GFrame) {n : Int} (hn : n = k) : At (modTop s n g) k fs (g x) :=
  h.fib (fun f hf => by
    show f.frames.modify (f.frames.length - 1) g = _
    rw [hf]
    exact modify_last fs x g _ rfl) hn
theorem At.curF {s : GState} {k : Nat} {fs : List GFrame} {x : GFrame} (h : At s k fs x) : (curF s).frames = fs ++ [x] := by
  unfold Proofs.YtpcjkfppacnkgaaGreatDoor.curF
  rw [h.now, Int.toNat_natCast]
  exact h.frames
theorem At.curX {s : GState} {k : Nat} {fs : List GFrame} {x : GFrame} (h : At s k fs x) : curX s = x := by
  unfold Proofs.YtpcjkfppacnkgaaGreatDoor.curX topOf
  rw [h.curF, List.length_append, List.length_singleton, Nat.add_sub_cancel]
  exact getD_end
theorem At.hasTop {s : GState} {k : Nat} {fs : List GFrame} {x : GFrame} (h : At s k fs x) : HasTop s s.now := by
  have := h.lt
  refine ⟨by rw [h.now]; omega, by rw [h.now]; omega, ?_⟩
  rw [h.now, Int.toNat_natCast, h.frames]
  simp
theorem At.last {s : GState} {k : Nat} {fs : List GFrame} {x : GFrame} (h : At s k fs x) : lastV s = x.stack.getD (x.stack.length - 1) 0 := by
  unfold lastV
  rw [h.curX]

/-- Who runs, in a right state. -/
structure Runs (p : List GFunc) (s : GState) (l : List Int) (k : Nat) (fs : List GFrame) (x : GFrame) (r : List Int) : Prop where
  at_ : At s k fs x
  line : l = s.now :: r
  lk : Lk s.fibers (s.fibers.getD k default).caller r
  notin : s.now ∉ r
  zero : (0 : Int) ∈ l
  on : OnL p fs x.func
  frame : frameB p x = true
  full : fullB p x = true
theorem lineEnd_cons {a : Int} {r : List Int} (h : lineEnd (a :: r) = true) : (a :: r).getLast (by simp) = 0 := by
  unfold lineEnd at h
  rw [Bool.or_eq_true] at h
  rcases h with h | h
  · have := of_decide_eq_true h
    simp at this
  · have := of_decide_eq_true h
    rw [List.getLast_eq_getElem]
    simpa [List.getD, List.getElem?_eq_getElem] using this
theorem Ok.runs {p : List GFunc} {s : GState} {l : List Int} (h : Ok p s l) (h0 : 0 ≤ s.now) : ∃ k fs x r, Runs p s l k fs x r := by
  have hlk := h.lk
  cases l with
  | nil => exact absurd hlk (by show ¬ s.now < 0; omega)
  | cons a r =>
    obtain ⟨ha, _, hn, hr⟩ := hlk
    subst ha
    obtain ⟨k, hk⟩ := Int.eq_ofNat_of_zero_le h0
    have hk : s.now = (k : Nat) := hk
    have hlt : k < s.fibers.length := by have := h.now; omega
    have hz : (0 : Int) ∈ s.now :: r := by
      have := lineEnd_cons h.ends
      rw [← this]
      exact List.getLast_mem _
    have hf := h.fib k hlt
    rw [decide_eq_true hk.symm, decide_eq_true (show (k : Int) ∈ s.now :: r by rw [← hk]; simp)] at hf
    have hne : (s.fibers.getD k default).frames ≠ [] := by
      intro e
      unfold fiberB at hf
      rw [if_pos (by rw [e]; rfl)] at hf
      cases hf
    obtain ⟨fs, x, e, h1, h2, h3⟩ := fiber_split hf hne
    unfold callerOf at hr
    rw [hk, Int.toNat_natCast] at hr
    refine ⟨k, fs, x, r, ⟨⟨hk, hlt, e⟩, rfl, hr, hn, hz, h1, h2, ?_⟩⟩
    unfold topB at h3
    rw [if_pos rfl] at h3
    exact h3
theorem topB_runs {p : List GFunc} {f : GFiber} {on : Bool} {x : GFrame} (h : fullB p x = true) : topB p f on true x = true := by unfold topB; rw [if_pos rfl]; exact h

/-- A step that turns the frames of who runs, and no fiber else. -/
theorem Ok.near {p : List GFunc} {s0 s : GState} {l : List Int} {k : Nat} {fs : List GFrame} {x : GFrame} (h : Ok p s0 l) (hn : Near s0 s k) (ha : At s k fs x)
    (hz : (0 : Int) ∈ l) (hl : OnL p fs x.func) (hx : frameB p x = true) (hf : fullB p x = true) (hm : fs.length ≤ 5) (ho : s.out.length ≤ 30) : Ok p s l := by
  have hc : ∀ j, j < s0.fibers.length → (s.fibers.getD j default).caller = (s0.fibers.getD j default).caller := fun j hj => by
    by_cases e : j = k
    · rw [e]; exact hn.caller
    · rw [hn.other j hj e]
  refine ⟨h.prog, by rw [hn.len]; exact h.few, ho, fun j hj => ?_, by rw [hn.len]; exact h.pos, by rw [hn.now, hn.len]; exact h.now, fun j hj => ?_, ?_, h.ends, fun h0 => absurd hz h0, fun j hj => ?_⟩
  · rw [hn.len] at hj
    by_cases e : j = k
    · rw [e, ha.frames]; simp; omega
    · rw [hn.other j hj e]; exact h.frames j hj
  · rw [hn.len] at hj ⊢
    rw [hc j hj]
    exact h.callers j hj
  · rw [hn.now]
    have hr := lk_range (fun k hk => (h.callers k hk).2) h.lk h.now.2
    refine lk_congr (fun y hy => ?_) h.lk
    unfold callerOf
    rw [hc _ (by have := hr y hy; omega)]
  · rw [hn.len] at hj
    by_cases e : j = k
    · subst e
      rw [ha.now, decide_eq_true rfl]
      exact fiber_join ha.frames hl hx (topB_runs hf)
    · rw [hn.other j hj e, hn.now]
      exact h.fib j hj
end Go.Proofs.YtpcjkfppacnkgaaGreatDoor
end
