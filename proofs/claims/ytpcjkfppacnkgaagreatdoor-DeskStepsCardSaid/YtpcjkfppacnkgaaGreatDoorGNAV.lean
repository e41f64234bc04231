/- Merged texts: contracts and plain facts, one part behind another; each part begins with what it says. -/
import Derived.Test.YtpcjkfppacnkgaaGreatDoorGNAG
import Derived.Test.YtpcjkfppacnkgaaGreatDoorGNAL
import Derived.Test.YtpcjkfppacnkgaaGreatDoorGNAO
import Derived.Test.YtpcjkfppacnkgaaGreatDoorGNAU
section
/- A state in own memory: plain facts of a call's args; a frame put on top. No condition. -/
set_option maxHeartbeats 1000000
namespace Go.Proofs.YtpcjkfppacnkgaaGreatDoor
open Go Go.RowKit

theorem modify_same {α : Type} : ∀ (l : List α) (n : Nat) (g : α → α), (∀ x, g x = x) → l.modify n g = l
  | [], n, g, _ => by cases n <;> rfl
  | a :: l, 0, g, h => by rw [List.modify_zero_cons, h]
  | a :: l, n + 1, g, h => by rw [List.modify_succ_cons, modify_same l n g h]
theorem modify_twice {α : Type} : ∀ (l : List α) (n : Nat) (g f : α → α), (l.modify n f).modify n g = l.modify n (fun x => g (f x))
  | [], n, g, f => by cases n <;> rfl
  | a :: l, 0, g, f => by simp only [List.modify_zero_cons]
  | a :: l, n + 1, g, f => by simp only [List.modify_succ_cons, modify_twice l n g f]
theorem modFib_same (s : GState) (n : Int) (g : GFiber → GFiber) (h : ∀ f, g f = f) : modFib s n g = s := by
  unfold modFib; rw [modify_same _ _ _ h]
theorem modFib_twice (s : GState) (n : Int) (g f : GFiber → GFiber) : modFib (modFib s n f) n g = modFib s n fun x => g (f x) := by
  unfold modFib; simp only [modify_twice]
theorem modTop_same (s : GState) (n : Int) (g : GFrame → GFrame) (h : ∀ f, g f = f) : modTop s n g = s :=
  modFib_same s n _ fun f => by rw [modify_same _ _ _ h]
theorem modTop_twice (s : GState) (n : Int) (g f : GFrame → GFrame) : modTop (modTop s n f) n g = modTop s n fun x => g (f x) := by
  unfold modTop
  rw [modFib_twice]
  simp only [List.length_modify, modify_twice]
theorem leave_zero (s : GState) : leaveG s 0 = s := modTop_same s _ _ fun x => by rw [Nat.sub_zero, List.take_length]
theorem leave_succ (s : GState) (j : Nat) : leaveG s (j + 1) = popG (leaveG s j) := by
  unfold leaveG popG
  show _ = modTop (modTop s s.now _) s.now _
  rw [modTop_twice]
  refine congrArg (modTop s s.now) (funext fun x => ?_)
  simp only [GFrame.mk.injEq, true_and]
  rw [List.dropLast_eq_take, List.take_take, List.length_take]
  congr 1
  omega
theorem curX_leave (s : GState) (h : HasTop s s.now) (j : Nat) : curX (leaveG s j) = { curX s with stack := (curX s).stack.take ((curX s).stack.length - j) } := curX_mod s h _
theorem HasTop.leave {s : GState} {n : Int} (h : HasTop s n) (j : Nat) : HasTop (leaveG s j) n := h.top _
theorem Room.leave {s : GState} (h : Room s) (j : Nat) : Room (leaveG s j) := h.top _ fun x => by simp

theorem argsOf_succ (p : List GFunc) (s : GState) (h : HasTop s s.now) (a : Int) (j : Nat) (hj : j < (funcOf p a).args.toNat) (hl : j < (curX s).stack.length) :
    (argsOf p s a j).set ((funcOf p a).args.toNat - j - 1) (lastV (leaveG s j)) = argsOf p s a (j + 1) := by
  obtain ⟨A, hA⟩ : ∃ A, (funcOf p a).args.toNat = A := ⟨_, rfl⟩
  have hlast : lastV (leaveG s j) = (curX s).stack.getD ((curX s).stack.length - (j + 1)) 0 := by
    unfold lastV
    rw [curX_leave s h]
    simp only [List.length_take]
    have e : min ((curX s).stack.length - j) (curX s).stack.length - 1 = (curX s).stack.length - (j + 1) := by omega
    rw [e, List.getD_eq_getElem?_getD, List.getElem?_take_of_lt (by omega), ← List.getD_eq_getElem?_getD]
  have hd : (curX s).stack.drop ((curX s).stack.length - (j + 1)) = (curX s).stack.getD ((curX s).stack.length - (j + 1)) 0 :: (curX s).stack.drop ((curX s).stack.length - j) := by
    have hlt : (curX s).stack.length - (j + 1) < (curX s).stack.length := by omega
    rw [List.drop_eq_getElem_cons hlt, List.getD_eq_getElem?_getD, List.getElem?_eq_getElem hlt]
    congr 2
    omega
  unfold argsOf
  rw [hlast, hd]
  rw [hA] at hj ⊢
  obtain ⟨d, rfl⟩ : ∃ d, A = j + 1 + d := ⟨A - (j + 1), by omega⟩
  have e1 : j + 1 + d - j = d + 1 := by omega
  have e2 : j + 1 + d - (j + 1) = d := by omega
  have e3 : j + 1 + d - j - 1 = d := by omega
  rw [e3, e1, e2, List.replicate_succ']
  simp only [List.append_assoc]
  rw [List.set_append_right _ _ (by rw [List.length_replicate]; exact Nat.le_refl _), List.length_replicate, Nat.sub_self]
  simp
theorem argsOf_i64 (p : List GFunc) (s : GState) (a : Int) (j : Nat) (h : ∀ k ∈ (curX s).stack, I64 k) : ∀ k ∈ argsOf p s a j, I64 k := by
  intro k hk
  unfold argsOf at hk
  simp only [List.mem_append] at hk
  rcases hk with (hk | hk) | hk
  · rw [List.eq_of_mem_replicate hk]; exact I64.zero
  · exact h k (List.drop_subset _ _ hk)
  · rw [List.eq_of_mem_replicate hk]; exact I64.zero

theorem src_cells (w : World) (cs : List Value) (n : Nat) (hn : cs.length = n) (h1 : ∀ u ∈ cs, u.oneCell' = true) (t : TypeId) : SrcSl (w.alloc (.cells cs.toArray t)) n (.slice (some ⟨w.heap.size, 0, none⟩) 1 1) 1 cs := by
  refine ⟨_, 1, rfl, by omega, h1, .inr ⟨_, rfl, fun j u hj => ?_⟩⟩
  rw [show ((⟨w.heap.size, 0, none⟩ : Addr).add j) = ⟨w.heap.size, j, none⟩ by unfold Addr.add; split <;> simp_all, World.cell?_alloc_new, List.getElem?_toArray, hj]
theorem infoFr : (Tryz.prog.info? 108).map (fun i => (i.zero, i.size, i.bytes)) = some (some (.agg #[.int .i64 0, .int .i64 0, .slice none 0 0, .slice none 0 0]), 4, 64) := by kernel_rfl
theorem infoFb : (Tryz.prog.info? 112).map (fun i => (i.zero, i.size, i.bytes)) = some (some (.agg #[.slice none 0 0, .int .i64 0]), 2, 32) := by kernel_rfl

/-- A frame is put on a fiber's row of frames. -/
theorem OwnS.addFrame {P : PState} {L R : List PFiber} {y : PFiber} {x : PFrame} {W W1 : World} {B b g o n cap : Nat} (h : OwnS W B b P) (hP : P.fs = L ++ y :: R) (hv : P.vfs = .slice (some ⟨g, o, none⟩) n cap) {v1 : Value}
    (hc : Chg (fun k => rowBlock y.vf = some k) W W1) (hr : RowAt W1 B 4 v1 (y.fr ++ [x]).length ((y.fr ++ [x]).flatMap frameF)) (hx : FrameO W1 B x) (hl : y.fr.length < 1000)
    (hv1 : rowBlock v1 = rowBlock y.vf ∨ ∀ k, rowBlock v1 = some k → W.heap.size ≤ k) (hn : x.bl.Nodup) (hf : ∀ k ∈ x.bl, k ∉ b :: P.bl ∧ rowBlock v1 ≠ some k) :
    OwnS (W1.setCell ⟨g, o + L.length * 2, none⟩ v1) B b { P with fs := L ++ ⟨y.fr ++ [x], y.caller, v1⟩ :: R } ∧ Chg (· ∈ P.bl) W (W1.setCell ⟨g, o + L.length * 2, none⟩ v1) := by
  have hym : y ∈ P.fs := by rw [hP]; simp
  have hy := h.fs y hym
  have hnd := h.fnodup hP
  have hsub : ∀ k ∈ y.bl, k ∈ P.bl := fun k hk => PState.mem_fs hym hk
  have hbl : y.bl = (rowBlock y.vf).toList ++ y.fr.flatMap PFrame.bl := rfl
  have hbl' : PFiber.bl ⟨y.fr ++ [x], y.caller, v1⟩ = (rowBlock v1).toList ++ (y.fr.flatMap PFrame.bl ++ x.bl) := by unfold PFiber.bl; simp
  rw [hbl] at hnd
  obtain ⟨-, hn2, hn3⟩ := List.nodup_append.1 hnd
  have hfr : ∀ u ∈ y.fr, FrameO W1 B u := fun u hu => (hy.fr u hu).chg hc fun k hk e => by
    have h1 : k ∈ y.fr.flatMap PFrame.bl := List.mem_flatMap.2 ⟨u, hu, hk⟩
    exact hn3 k (by rw [show rowBlock y.vf = some k from e]; simp) k h1 rfl
  refine h.setFrames' (y' := ⟨y.fr ++ [x], y.caller, v1⟩) hP hv hc rfl ⟨hy.i, hr, fun u hu => ?_, ?_⟩ ?_ fun k hk => ?_
  · have hu' : u ∈ y.fr ++ [x] := hu
    rcases List.mem_append.1 hu' with h1 | h1
    · exact hfr u h1
    · rw [List.mem_singleton.1 h1]; exact hx
  · show (y.fr ++ [x]).length ≤ 1000
    rw [List.length_append, List.length_singleton]; omega
  · rw [hbl', List.nodup_append]
    refine ⟨by cases rowBlock v1 <;> simp, List.nodup_append.2 ⟨hn2, hn, fun a ha c hc e => ?_⟩, fun a ha c hc e => ?_⟩
    · subst e
      exact (hf a hc).1 (List.mem_cons_of_mem _ (hsub a (by rw [hbl]; exact List.mem_append.2 (.inr ha))))
    · subst e
      have ha' : rowBlock v1 = some a := by simpa using ha
      rcases List.mem_append.1 hc with h1 | h1
      · rcases hv1 with h2 | h2
        · exact hn3 a (by rw [← h2, ha']; simp) a h1 rfl
        · have h3 := h2 a ha'
          have h4 := h.lt a (List.mem_cons_of_mem _ (hsub a (by rw [hbl]; exact List.mem_append.2 (.inr h1))))
          omega
      · exact (hf a h1).2 ha'
  · rw [hbl'] at hk
    rcases List.mem_append.1 hk with h1 | h1
    · have h1' : rowBlock v1 = some k := by simpa using h1
      rcases hv1 with h2 | h2
      · exact .inl (by rw [hbl, ← h2, h1']; simp)
      · refine .inr fun h3 => ?_
        have h4 := h2 k h1'
        have h5 := h.lt k h3
        omega
    · rcases List.mem_append.1 h1 with h2 | h2
      · exact .inl (by rw [hbl]; exact List.mem_append.2 (.inr h2))
      · exact .inr (hf k h2).1
end Go.Proofs.YtpcjkfppacnkgaaGreatDoor
end
section
/- A state in own memory turned into another: contract of the document's called. -/
set_option maxHeartbeats 4000000
set_option maxRecDepth 100000
namespace Go.Proofs.YtpcjkfppacnkgaaGreatDoor
open Go Go.RowKit

/-- How far the args are pulled. -/
structure CallI (w wr : World) (B b : Nat) (P : PState) (p : List GFunc) (a : Int) (bx gl N j : Nat) (P' : PState) : Prop where
  own : OwnS wr B b P'
  g : P'.g = leaveG P.g j
  bl : ∀ k ∈ P'.bl, k ∈ P.bl ∨ w.heap.size ≤ k
  chg : Chg (· ∈ b :: P.bl) w wr
  nb : bx ∉ b :: P'.bl
  nl : gl ∉ b :: P'.bl
  row : RowAt wr w.heap.size 1 (.slice (some ⟨gl, 0, none⟩) N N) N (ints (argsOf p P.g a j))
  c0 : Cx wr bx 0 (.int .i64 a)
  c1 : Cx wr bx 1 (.int .i64 0)
  c2 : Cx wr bx 2 (.slice (some ⟨gl, 0, none⟩) N N)
  c3 : Cx wr bx 3 (.slice none 0 0)
theorem CallI.ext {w wr wr' : World} {B b : Nat} {P P' : PState} {p : List GFunc} {a : Int} {bx gl N j : Nat} (h : CallI w wr B b P p a bx gl N j P') (he : Ext wr wr') : CallI w wr' B b P p a bx gl N j P' :=
  ⟨h.own.ext he, h.g, h.bl, h.chg.trans (Chg.of_ext he), h.nb, h.nl, h.row.ext he (by decide), h.c0.ext he, h.c1.ext he, h.c2.ext he, h.c3.ext he⟩

theorem CallI.cell {w wr : World} {B b : Nat} {P P' : PState} {p : List GFunc} {a : Int} {bx gl N j : Nat} (h : CallI w wr B b P p a bx gl N j P') {r : Nat} (hr : r < N) (hN : N = (argsOf p P.g a j).length) : ∃ u, Cx wr gl r u := by
  obtain ⟨g, o, e, _, hc⟩ := h.row.cell (by omega)
  simp only [Option.some.injEq, Addr.mk.injEq] at e
  obtain ⟨rfl, rfl, -⟩ := e
  have := hc r (by omega)
  rw [ints_get _ _ (by omega), Nat.zero_add] at this
  exact ⟨_, this⟩
theorem CallI.pull {w wr wr' : World} {B b : Nat} {P P' : PState} {p : List GFunc} {a : Int} {bx gl N j r : Nat} (h : CallI w wr B b P p a bx gl N j P') (ht : HasTop P.g P.g.now) (hgl : w.heap.size ≤ gl) (hne : gl ≠ bx)
    (hj : j < (funcOf p a).args.toNat) (hl : j < (curX P.g).stack.length) (hr : (funcOf p a).args.toNat - j - 1 = r) (hN : r < N) (hNN : N = (argsOf p P.g a j).length) (t : Turn wr wr' B b P' (popG P'.g)) :
    ∃ P'', CallI w (wr'.setCell ⟨gl, r, none⟩ (.int .i64 (lastV P'.g))) B b P p a bx gl N (j + 1) P'' := by
  have hlg : gl < wr.heap.size := by
    obtain ⟨g, o, e, _, hc⟩ := h.row.cell (by omega)
    simp only [Option.some.injEq, Addr.mk.injEq] at e
    obtain ⟨rfl, rfl, -⟩ := e
    have := (hc 0 (by omega)).1
    rw [ints_get _ _ (by omega)] at this
    exact lt_of_cell this
  have hlb := h.c0.lt
  have hNM : ∀ k, k ∉ b :: P'.bl → ¬ (k ∈ b :: P'.bl) := fun k h => h
  obtain ⟨⟨P'', o, e, hs⟩, hc⟩ := t
  have nsub : ∀ k, k < wr.heap.size → k ∉ b :: P'.bl → k ∉ b :: P''.bl := fun k hk hn hm => by
    rcases List.mem_cons.1 hm with rfl | h1
    · exact hn List.mem_cons_self
    · rcases hs k h1 with h2 | h2
      · exact hn (List.mem_cons_of_mem _ h2)
      · omega
  have hnl := nsub gl hlg h.nl
  have hnb := nsub bx hlb h.nb
  have hC := chg_one wr' gl r (.int .i64 (lastV P'.g))
  have hrow : RowAt wr' w.heap.size 1 (.slice (some ⟨gl, 0, none⟩) N N) N (ints (argsOf p P.g a j)) := h.row.chg hc (fun k hk e => by
    have : k = gl := by
      by_cases h0 : N = 0
      · omega
      · rw [rowBlock_some _ _ _ _ h0] at hk; cases hk; rfl
    subst this; exact h.nl e) (by decide)
  refine ⟨P'', o.chg hC (fun e => hnl (by rw [show b = gl from e]; exact List.mem_cons_self)) (fun k hk e => hnl (by rw [← show k = gl from e]; exact List.mem_cons_of_mem _ hk)), ?_, fun k hk => ?_, ?_, hnb, hnl, ?_, ?_, ?_, ?_, ?_⟩
  · rw [e, h.g, ← leave_succ]
  · rcases hs k hk with h1 | h1
    · exact h.bl k h1
    · exact .inr (Nat.le_trans h.chg.size h1)
  · refine (h.chg.trans' hc fun n hn hm => ?_).setCell (p := ⟨gl, r, none⟩) (.inr hgl) _
    rcases List.mem_cons.1 hm with rfl | h1
    · exact List.mem_cons_self
    · rcases h.bl n h1 with h2 | h2
      · exact List.mem_cons_of_mem _ h2
      · omega
  · rw [← argsOf_succ p P.g ht a j hj hl, hr, ← ints_set, ← h.g]
    have h9 := hrow.store (j := r) (by omega) (.int .i64 (lastV P'.g))
    rwa [Nat.zero_add] at h9
  · exact (h.c0.chg hc h.nb).other (.inl (Ne.symm hne)) _
  · exact (h.c1.chg hc h.nb).other (.inl (Ne.symm hne)) _
  · exact (h.c2.chg hc h.nb).other (.inl (Ne.symm hne)) _
  · exact (h.c3.chg hc h.nb).other (.inl (Ne.symm hne)) _

theorem src_drew {w : World} {size : Nat} {x : Value} {m : Nat} {news : List Value} (h : SrcSl w size x m news) : SrcSl w.drew size x m news := h
end Go.Proofs.YtpcjkfppacnkgaaGreatDoor
end
section
/- A state in own memory turned into another: contract of the document's done. -/
set_option maxHeartbeats 4000000
set_option maxRecDepth 100000
namespace Go.Proofs.YtpcjkfppacnkgaaGreatDoor
open Go Go.RowKit

theorem OwnS.ge {W : World} {B b : Nat} {P : PState} (h : OwnS W B b P) : ∀ g ∈ b :: P.bl, B ≤ g := by
  intro g hg
  rcases List.mem_cons.1 hg with rfl | hg
  · exact h.le
  · unfold PState.bl at hg
    rcases List.mem_append.1 hg with h1 | h1
    · rcases List.mem_append.1 h1 with h2 | h2
      · exact h.row.le g (by simpa using h2)
      · exact h.out.le g (by simpa using h2)
    · obtain ⟨y, hy, h2⟩ := List.mem_flatMap.1 h1
      unfold PFiber.bl at h2
      rcases List.mem_append.1 h2 with h3 | h3
      · exact (h.fs y hy).row.le g (by simpa using h3)
      · obtain ⟨x, hx, h4⟩ := List.mem_flatMap.1 h3
        unfold PFrame.bl at h4
        rcases List.mem_append.1 h4 with h5 | h5
        · exact ((h.fs y hy).fr x hx).l.le g (by simpa using h5)
        · exact ((h.fs y hy).fr x hx).s.le g (by simpa using h5)
theorem curF_frames (s : GState) (h : HasTop s s.now) (g : GFrame → GFrame) : (curF (modTop s s.now g)).frames.length = (curF s).frames.length := by
  unfold modTop
  rw [curF_mod s ⟨h.1, h.2.1⟩]
  simp
theorem FewS.cur {s : GState} (h : FewS s) (ht : HasTop s s.now) : (curF s).frames.length < 1000 := by
  have hm : curF s ∈ s.fibers := by
    unfold curF
    rw [List.getD_eq_getElem?_getD, List.getElem?_eq_getElem (by have := ht.1; have := ht.2.1; omega)]
    exact List.getElem_mem _
  have := (h.2.2 _ hm).1
  omega

theorem repl_same {P : PState} {L R : List PFiber} {y : PFiber} {F : List PFrame} {x x' : PFrame} (hs : Spot P L y R F x) (h : x'.bl = x.bl) : ∀ g ∈ (replTop P L y R F x').bl, g ∈ P.bl := by
  intro g hg
  rcases repl_bl (n := g + 1) hs (fun k hk => .inl (h ▸ hk)) g hg with h1 | h1
  · exact h1
  · omega
theorem done_ok {p : List GFunc} {w W4 w' : World} {B b : Nat} {P P1 : PState} {k a : Int} {r : Int × GState} (hD : doneG p P.g = workG p P1.g k a) (hw : workG p P1.g k a = r) (c : Chg (· ∈ b :: P.bl) w W4) (bl : ∀ k ∈ P1.bl, k ∈ P.bl) (d : Did W4 w' B b P1 r) :
    (doneG p P.g).1 = r.1 ∧ Did w w' B b P (doneG p P.g) := by
  rw [hD, hw]
  exact ⟨rfl, Did.step c (fun k hk => .inl (bl k hk)) d⟩
theorem reck_i64 (k a b : Int) : I64 (reckG k a b) := by
  have hw : ∀ n, I64 (wrap64 n) := fun n => by unfold I64 wrap64; omega
  have ht : ∀ t, I64 (truthG t) := fun t => by cases t <;> (unfold I64 truthG; decide)
  unfold reckG
  split
  · exact hw _
  · split
    · exact hw _
    · split
      · exact hw _
      · split <;> exact ht _
end Go.Proofs.YtpcjkfppacnkgaaGreatDoor
end
section
/- The document's OwnState: a state laid anew in own memory. No condition. -/
set_option maxHeartbeats 4000000
set_option maxRecDepth 100000
namespace Go.Proofs.YtpcjkfppacnkgaaGreatDoor
open Go Go.RowKit

/-- The rows of a state of own memory, without its box. -/
structure OwnR (W : World) (B : Nat) (P : PState) : Prop where
  i : I64 P.now ∧ ∀ n ∈ P.out, I64 n
  row : RowAt W B 2 P.vfs P.fs.length (P.fs.flatMap fiberF)
  out : RowAt W B 1 P.vo P.out.length (ints P.out)
  fs : ∀ y ∈ P.fs, FiberO W B y
  few : P.fs.length ≤ 1000 ∧ P.out.length ≤ 1000
  nodup : P.bl.Nodup
theorem OwnS.rows {W : World} {B b : Nat} {P : PState} (h : OwnS W B b P) : OwnR W B P := ⟨h.i, h.row, h.out, h.fs, h.few, (List.nodup_cons.1 h.nodup).2⟩
theorem OwnR.ext {W W' : World} {B : Nat} {P : PState} (h : OwnR W B P) (he : Ext W W') : OwnR W' B P :=
  ⟨h.i, h.row.ext he (by decide), h.out.ext he (by decide), fun y hy => (h.fs y hy).chg (M := fun _ => False) (Chg.of_ext he) (fun _ _ h => h), h.few, h.nodup⟩
theorem FrameO.mono {W : World} {B B' : Nat} {x : PFrame} (h : FrameO W B x) (hb : B' ≤ B) : FrameO W B' x := ⟨h.i, h.l.mono hb, h.s.mono hb, h.few⟩
theorem FiberO.mono {W : World} {B B' : Nat} {y : PFiber} (h : FiberO W B y) (hb : B' ≤ B) : FiberO W B' y := ⟨h.i, h.row.mono hb, fun x hx => (h.fr x hx).mono hb, h.few⟩
theorem OwnR.mono {W : World} {B B' : Nat} {P : PState} (h : OwnR W B P) (hb : B' ≤ B) : OwnR W B' P := ⟨h.i, h.row.mono hb, h.out.mono hb, fun y hy => (h.fs y hy).mono hb, h.few, h.nodup⟩
theorem OwnR.lt {W : World} {B : Nat} {P : PState} (h : OwnR W B P) : ∀ g ∈ P.bl, g < W.heap.size := by
  intro g hg
  unfold PState.bl at hg
  rcases List.mem_append.1 hg with h1 | h1
  · rcases List.mem_append.1 h1 with h2 | h2
    · exact h.row.lt2 (by decide) g (by simpa using h2)
    · exact h.out.lt2 (by decide) g (by simpa using h2)
  · obtain ⟨y, hy, h2⟩ := List.mem_flatMap.1 h1
    exact (h.fs y hy).lt g h2
/-- Rows and a box make a state of own memory. -/
theorem OwnR.box {W : World} {B b : Nat} {P : PState} (h : OwnR W B P) (c0 : Cx W b 0 P.vfs) (c1 : Cx W b 1 (.int .i64 P.now)) (c2 : Cx W b 2 P.vo) (hb : B ≤ b) (hn : b ∉ P.bl) : OwnS W B b P :=
  ⟨c0, c1, c2, h.i, h.row, h.out, h.fs, hb, h.few, List.nodup_cons.2 ⟨hn, h.nodup⟩⟩

theorem SrcSl.up {w w' : World} {size : Nat} {x : Value} {m : Nat} {news : List Value} (h : SrcSl w size x m news) (he : Ext w w') : SrcSl w' size x m news := by
  obtain ⟨a, c, rfl, h1, h2, h3⟩ := h
  refine ⟨a, c, rfl, h1, h2, h3.imp id fun ⟨ad, ha, hc⟩ => ⟨ad, ha, fun j u hj => ?_⟩⟩
  have hcj := hc j u hj
  rw [Ext.keep he _ (by rw [hcj]; rfl)]
  exact hcj

/-- A fiber that is being laid anew, its box f5. -/
structure BuildF (W : World) (base f5 : Nat) (Y : PFiber) : Prop where
  fo : FiberO W base Y
  nodup : Y.bl.Nodup
  c0 : Cx W f5 0 Y.vf
  c1 : Cx W f5 1 (.int .i64 Y.caller)

theorem BuildF.ge {W : World} {base f5 : Nat} {Y : PFiber} (h : BuildF W base f5 Y) : ∀ k ∈ Y.bl, base ≤ k := fun k hk => by
  unfold PFiber.bl at hk
  rcases List.mem_append.1 hk with h1 | h1
  · exact h.fo.row.le k (by simpa using h1)
  · obtain ⟨x, hx, h2⟩ := List.mem_flatMap.1 h1
    unfold PFrame.bl at h2
    rcases List.mem_append.1 h2 with h3 | h3
    · exact (h.fo.fr x hx).l.le k (by simpa using h3)
    · exact (h.fo.fr x hx).s.le k (by simpa using h3)
end Go.Proofs.YtpcjkfppacnkgaaGreatDoor
end
