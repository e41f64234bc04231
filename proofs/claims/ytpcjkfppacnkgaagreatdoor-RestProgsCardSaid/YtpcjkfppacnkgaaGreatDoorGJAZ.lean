/- Merged texts: contracts and plain facts, one part behind another; each part begins with what it says. -/
import Derived.Test.YtpcjkfppacnkgaaGreatDoorGJAG
import Derived.Test.YtpcjkfppacnkgaaGreatDoorGJAL
import Derived.Test.YtpcjkfppacnkgaaGreatDoorGJAY
section
/- A state in own memory turned into another: contracts of the document's yielded and given. -/
set_option maxHeartbeats 4000000
set_option maxRecDepth 100000
namespace Go.Proofs.YtpcjkfppacnkgaaGreatDoor
open Go Go.RowKit

theorem modFib_len (s : GState) (n : Int) (g : GFiber → GFiber) : (modFib s n g).fibers.length = s.fibers.length := by unfold modFib; simp
theorem modFib_get (s : GState) (n : Int) (g : GFiber → GFiber) (m : Nat) (hm : m < s.fibers.length) : (modFib s n g).fibers.getD m default = if n.toNat = m then g (s.fibers.getD m default) else s.fibers.getD m default := by
  unfold modFib
  show (s.fibers.modify n.toNat g).getD m default = _
  rw [List.getD_eq_getElem?_getD, List.getElem?_modify, List.getD_eq_getElem?_getD, List.getElem?_eq_getElem hm]
  by_cases h : n.toNat = m <;> simp [h]
theorem HasTop.fib {s : GState} {n : Int} (h : HasTop s n) (m : Int) {g : GFiber → GFiber} (hg : ∀ f, 0 < f.frames.length → 0 < (g f).frames.length) : HasTop (modFib s m g) n := by
  obtain ⟨h0, h1, h2⟩ := h
  refine ⟨h0, by rw [modFib_len]; exact h1, ?_⟩
  rw [modFib_get _ _ _ _ (by omega)]
  split
  · exact hg _ h2
  · exact h2
theorem HasTop.top {s : GState} {n : Int} (h : HasTop s n) (m : Int) {g : GFrame → GFrame} : HasTop (modTop s m g) n := h.fib m fun f hf => by simpa using hf
/-- The one that runs hands over to its caller: what is stored. -/
theorem OwnS.back {P : PState} {L R : List PFiber} {y : PFiber} {W : World} {B b g o n cap : Nat} (h : OwnS W B b P) (hP : P.fs = L ++ y :: R) (hn : P.now = L.length) (hv : P.vfs = .slice (some ⟨g, o, none⟩) n cap) :
    ∃ P1, OwnS ((W.setCell ⟨b, 1, none⟩ (.int .i64 y.caller)).setCell ⟨g, o + L.length * 2 + 1, none⟩ (.int .i64 (-1))) B b P1 ∧ P1.g = { modFib P.g P.g.now (fun f => { f with caller := -1 }) with now := y.caller } ∧ (∀ g, g ∈ P1.bl ↔ g ∈ P.bl) ∧
      Chg (· ∈ b :: P.bl) W ((W.setCell ⟨b, 1, none⟩ (.int .i64 y.caller)).setCell ⟨g, o + L.length * 2 + 1, none⟩ (.int .i64 (-1))) := by
  have hym : y ∈ P.fs := by rw [hP]; simp
  have o2 := h.setNow y.caller (h.fs y hym).i
  have o3 := OwnS.setCaller (P := { P with now := y.caller }) o2 hP hv (-1) (by unfold I64; decide)
  refine ⟨_, o3.1, ?_, fun k => ?_, ?_⟩
  · have e := modFib_at hP (n := P.g.now) hn (y' := { y with caller := -1 }) (g := fun f => { f with caller := -1 }) rfl
    rw [e]
    rfl
  · unfold PState.bl
    rw [hP]
    simp only [List.flatMap_append, List.flatMap_cons]
    rfl
  · exact ((chg_one W b 1 (.int .i64 y.caller)).mono (fun k _ hk => by rw [show k = b from hk]; exact List.mem_cons_self)).trans (o3.2.mono fun k _ hk => List.mem_cons_of_mem _ hk)

end Go.Proofs.YtpcjkfppacnkgaaGreatDoor
end
section
/- A state in own memory: another At, another local value. Plain facts of steps. No condition. -/
set_option maxHeartbeats 1000000
namespace Go.Proofs.YtpcjkfppacnkgaaGreatDoor
open Go Go.RowKit

theorem topOf_mod (f : GFiber) (h : 0 < f.frames.length) (g : GFrame → GFrame) : topOf { f with frames := f.frames.modify (f.frames.length - 1) g } = g (topOf f) := by
  unfold topOf
  obtain ⟨F, x, hf⟩ := split_last f.frames h
  simp only [hf, List.length_modify]
  rw [modify_last _ _ _ _ rfl]
  have e : (F ++ [g x]).length = (F ++ [x]).length := by simp
  rw [← e, getD_last _ _ _ _ rfl, e, getD_last _ _ _ _ rfl]
theorem curF_mod (s : GState) (h : 0 ≤ s.now ∧ s.now < s.fibers.length) (g : GFiber → GFiber) : curF (modFib s s.now g) = g (curF s) := by
  unfold curF
  show (modFib s s.now g).fibers.getD s.now.toNat default = _
  rw [modFib_get _ _ _ _ (by omega), if_pos rfl]
theorem curX_mod (s : GState) (h : HasTop s s.now) (g : GFrame → GFrame) : curX (modTop s s.now g) = g (curX s) := by
  unfold curX modTop
  rw [curF_mod s ⟨h.1, h.2.1⟩]
  exact topOf_mod _ h.2.2 g
end Go.Proofs.YtpcjkfppacnkgaaGreatDoor
end
section
/- A state in own memory turned into another: contract of the document's resumed. -/
set_option maxHeartbeats 4000000
set_option maxRecDepth 100000
namespace Go.Proofs.YtpcjkfppacnkgaaGreatDoor
open Go Go.RowKit

end Go.Proofs.YtpcjkfppacnkgaaGreatDoor
end
section
/- A state in own memory: plain facts of a call's args; a frame put on top. No condition. -/
set_option maxHeartbeats 1000000
namespace Go.Proofs.YtpcjkfppacnkgaaGreatDoor
open Go Go.RowKit

theorem modify_twice {α : Type} : ∀ (l : List α) (n : Nat) (g f : α → α), (l.modify n f).modify n g = l.modify n (fun x => g (f x))
  | [], n, g, f => by cases n <;> rfl
  | a :: l, 0, g, f => by simp only [List.modify_zero_cons]
  | a :: l, n + 1, g, f => by simp only [List.modify_succ_cons, modify_twice l n g f]
theorem modFib_twice (s : GState) (n : Int) (g f : GFiber → GFiber) : modFib (modFib s n f) n g = modFib s n fun x => g (f x) := by
  unfold modFib; simp only [modify_twice]
theorem modTop_twice (s : GState) (n : Int) (g f : GFrame → GFrame) : modTop (modTop s n f) n g = modTop s n fun x => g (f x) := by
  unfold modTop
  rw [modFib_twice]
  simp only [List.length_modify, modify_twice]
theorem leave_succ (s : GState) (j : Nat) : leaveG s (j + 1) = popG (leaveG s j) := by
  unfold leaveG popG
  show _ = modTop (modTop s s.now _) s.now _
  rw [modTop_twice]
  refine congrArg (modTop s s.now) (funext fun x => ?_)
  simp only [GFrame.mk.injEq, true_and]
  rw [List.dropLast_eq_take, List.take_take, List.length_take]
  congr 1
  omega
theorem curX_leave (s : GState) (h : HasTop s s.now) (j : Nat) : curX (leaveG s j) = { curX s with stack := (curX s).stack.take ((curX s).stack.length - j) } := curX_mod s h _
theorem argsOf_succ (p : List GFunc) (s : GState) (h : HasTop s s.now) (a : Int) (j : Nat) (hj : j < (funcOf p a).args.toNat) (hl : j < (curX s).stack.length) :
    (argsOf p s a j).set ((funcOf p a).args.toNat - j - 1) (lastV (leaveG s j)) = argsOf p s a (j + 1) := by
  obtain ⟨A, hA⟩ : ∃ A, (funcOf p a).args.toNat = A := ⟨_, rfl⟩
  have hlast : lastV (leaveG s j) = (curX s).stack.getD ((curX s).stack.length - (j + 1)) 0 := by
    unfold lastV
    rw [curX_leave s h]
    simp only [List.length_take]
    have e : min ((curX s).stack.length - j) (curX s).stack.length - 1 = (curX s).stack.length - (j + 1) := by omega
    rw [e, List.getD_eq_getElem?_getD, List.getElem?_take_of_lt (by omega), ← List.getD_eq_getElem?_getD]
  have hd : (curX s).stack.drop ((curX s).stack.length - (j + 1)) = (curX s).stack.getD ((curX s).stack.length - (j + 1)) 0 :: (curX s).stack.drop ((curX s).stack.length - j) := by
    have hlt : (curX s).stack.length - (j + 1) < (curX s).stack.length := by omega
    rw [List.drop_eq_getElem_cons hlt, List.getD_eq_getElem?_getD, List.getElem?_eq_getElem hlt]
    congr 2
    omega
  unfold argsOf
  rw [hlast, hd]
  rw [hA] at hj ⊢
  obtain ⟨d, rfl⟩ : ∃ d, A = j + 1 + d := ⟨A - (j + 1), by omega⟩
  have e1 : j + 1 + d - j = d + 1 := by omega
  have e2 : j + 1 + d - (j + 1) = d := by omega
  have e3 : j + 1 + d - j - 1 = d := by omega
  rw [e3, e1, e2, List.replicate_succ']
  simp only [List.append_assoc]
  rw [List.set_append_right _ _ (by rw [List.length_replicate]; exact Nat.le_refl _), List.length_replicate, Nat.sub_self]
  simp
end Go.Proofs.YtpcjkfppacnkgaaGreatDoor
end
