/- Merged texts: contracts and plain facts, one part behind another; each part begins with what it says. -/
import Derived.Test.YtgahbngbpfilgaaGreatGEAH
import Derived.Test.YtgahbngbpfilgaaGreatGEAJ
import Derived.Test.YtgahbngbpfilgaaGreatGEAL
section
set_option maxHeartbeats 4000000
set_option maxRecDepth 100000
namespace Go.Proofs.YtgahbngbpfilgaaGreat
open Go Go.RowKit
structure Eng (w : World) (eb b : Nat) (p : List GFunc) (a : Option Addr) (cap : Nat) : Prop where
 e0 : Cx w eb 0 (.pointer (some ⟨b, 0, none⟩))
 e1 : Cx w eb 1 (.slice a p.length cap)
theorem Eng.ext {w w' : World} {eb b : Nat} {p : List GFunc} {a : Option Addr} {cap : Nat} (h : Eng w eb b p a cap) (he : Ext w w') : Eng w' eb b p a cap := ⟨h.e0.ext he, h.e1.ext he⟩
theorem engTop_any {P : PState} {L R : List PFiber} {y : PFiber} {F : List PFrame} {x : PFrame} {w : World} {B b g o cap : Nat} {eb : Nat} {p : List GFunc} {a : Option Addr} {cp : Nat} (h : OwnS w B b P)
    (hE : Eng w eb b p a cp) (hs : Spot P L y R F x) (hv : y.vf = .slice (some ⟨g, o, none⟩) (F ++ [x]).length cap) (hnow : P.now = (L.length : Int)) :
    Calls Tryz.prog 73 #[.pointer (some ⟨eb, 0, none⟩)] w fun e w' => e = .returned (.pointer (some ⟨g, o + F.length * 4, none⟩)) ∧ Ext w w' := by
  have hrow := h.row
  have hfew := h.few
  rw [hs.fs] at hrow hfew
  obtain ⟨⟨c0, -⟩, ⟨c1, -⟩, -⟩ := (⟨h.c0, h.c1, h.c2⟩ : _ ∧ _ ∧ _)
  obtain ⟨⟨x0, -⟩, -⟩ := hE
  rw [hnow] at c1
  obtain ⟨g0, o0, cap0, e0, hb0, hc0, hm0, hx0⟩ := RowAt.place fiberF (fun _ => rfl) hrow
  rw [e0] at c0
  obtain ⟨d0, -⟩ := hx0 0 _ (by decide) rfl
  rw [hv, Nat.add_zero] at d0
  have hnk : L.length < (L ++ y :: R).length := by simp
  have hfr : (F ++ [x]).length ≤ 1000 := by
    have := (h.fs y (by rw [hs.fs]; simp)).few
    rwa [hs.fr] at this
  have hm1 : (F ++ [x]).length = F.length + 1 := by simp
  have hmN : F.length < (F ++ [x]).length := by omega
  have KK : IntKind.i64.wrap (((F ++ [x]).length : Int) - 1) = (F.length : Int) := by
    have e : (((F ++ [x]).length : Int) - 1) = (F.length : Int) := by omega
    rw [e]; exact IntWalk.i64_in _ (by omega)
  clear hrow hx0 hb0 hm0 hm1 hs hv hnow
  have RA := alloc_keep
  generalize L.length = n at *
  generalize F.length = m at *
  generalize (L ++ y :: R).length = nk at *
  generalize (F ++ [x]).length = mk at *
  go_enter Tryz.func73, Tryz.ntmps73
  go_upto_region 1 with fail
  refine wp_region_ext (by kernel_rfl) (by kernel_rfl) ?_
  repeat (first
    | go_big_quiet_skip
    | (go_big_quiet_want
       unfold Oper.quiet
       apply Exists.intro
       refine ⟨fun w' hw' => ?_, ?_⟩
       focus
         have hcq := Ext.keep hw'
         go_simp
         first
           | with_reducible rfl
       (try dsimp only [Act.put])
       (try simp only [List.setIfInBounds_toArray, List.set_cons_succ, List.set_cons_zero])
       go_big_quiet_on))
  refine wpQuiet_nil ?_
  intro wq hq
  go_wp2_with fail
  go_ret
  exact ⟨rfl, hq⟩
end Go.Proofs.YtgahbngbpfilgaaGreat
end
section
set_option maxHeartbeats 1000000
namespace Go.Proofs.YtgahbngbpfilgaaGreat
open Go Go.RowKit
theorem OwnS.setAt {P : PState} {L R : List PFiber} {y : PFiber} {F : List PFrame} {x : PFrame} {W : World} {B b g o n cap : Nat} (h : OwnS W B b P) (hs : Spot P L y R F x) (hv : y.vf = .slice (some ⟨g, o, none⟩) n cap) (a : Int) (hI : I64 a) :
  OwnS (W.setCell ⟨g, o + F.length * 4 + 1, none⟩ (.int .i64 a)) B b (replTop P L y R F ⟨{ x.f with at_ := a }, x.vl, x.vs⟩) ∧ Chg (· ∈ b :: P.bl) W (W.setCell ⟨g, o + F.length * 4 + 1, none⟩ (.int .i64 a)) := by
 obtain ⟨s1, s2, s3⟩ := h.sep hs
 have hy := h.fs y (by rw [hs.fs]; simp)
 have hx := hy.fr x (by rw [hs.fr]; simp)
 have hrow := hy.row
 rw [hs.fr] at hrow
 obtain ⟨g', o', cap', e1, hbl, _⟩ := RowAt.place frameF (fun _ => rfl) hrow
 rw [hv] at e1
 simp only [Value.slice.injEq, Option.some.injEq, Addr.mk.injEq] at e1
 obtain ⟨⟨rfl, rfl, -⟩, -, rfl⟩ := e1
 have hCh := chg_one W g (o + F.length * 4 + 1) (.int .i64 a)
 have hgx : ∀ k ∈ x.bl, ¬ k = g := fun k hk e => by subst e; exact s1 _ hbl hk
 have hx' := hx.chg hCh hgx
 refine ⟨h.frame hs.fs hs.fr hCh (fun k hk _ => .inl (by rw [show k = g from hk]; exact hbl)) ⟨⟨hx.i.1, hI, hx.i.2.2⟩, hx'.l, hx'.s, hx.few⟩ ?_ s3 (fun k hk => .inl hk), hCh.mono (fun k _ hk => List.mem_cons_of_mem _ (hs.bl (.inl (by rw [show k = g from hk]; exact hbl))))⟩
 rw [hv] at hrow ⊢
 exact hrow.storeAt frameF (fun _ => rfl) (by decide) rfl
theorem OwnS.setLocal {P : PState} {L R : List PFiber} {y : PFiber} {F : List PFrame} {x : PFrame} {W : World} {B b g o n cap : Nat} (h : OwnS W B b P) (hs : Spot P L y R F x) (hv : x.vl = .slice (some ⟨g, o, none⟩) n cap) (i : Nat) (hi : i < x.f.locals.length) (v : Int) (hI : I64 v) :
  OwnS (W.setCell ⟨g, o + i, none⟩ (.int .i64 v)) B b (replTop P L y R F ⟨{ x.f with locals := x.f.locals.set i v }, x.vl, x.vs⟩) ∧ Chg (· ∈ b :: P.bl) W (W.setCell ⟨g, o + i, none⟩ (.int .i64 v)) := by
 obtain ⟨s1, s2, s3⟩ := h.sep hs
 have hy := h.fs y (by rw [hs.fs]; simp)
 have hx := hy.fr x (by rw [hs.fr]; simp)
 have hl := hx.l
 obtain ⟨a1, c1, e1, _, _⟩ := hl.shape
 have e2 := hv
 rw [e1] at e2
 simp only [Value.slice.injEq] at e2
 obtain ⟨rfl, rfl, rfl⟩ := e2
 rw [e1] at hl
 obtain ⟨g', o', e3, hbk, hcell⟩ := hl.cell (by omega)
 simp only [Option.some.injEq, Addr.mk.injEq] at e3
 obtain ⟨rfl, rfl, -⟩ := e3
 have hcap : c1 ≠ 0 := by
  intro e; subst e
  obtain ⟨_, _, _, e4, h5, _⟩ := hl
  simp only [Value.slice.injEq] at e4
  omega
 have hbl : rowBlock x.vl = some g := by rw [e1]; exact rowBlock_some _ _ _ _ hcap
 have hgm : g ∈ x.bl := by unfold PFrame.bl; simp [hbl]
 have hCh := chg_one W g (o + i) (.int .i64 v)
 refine ⟨h.frame hs.fs hs.fr hCh (fun k hk _ => .inr (by rw [show k = g from hk]; exact hgm)) ⟨⟨hx.i.1, hx.i.2.1, fun k hk => ?_, hx.i.2.2.2⟩, ?_, ?_, ?_, hx.few.2⟩ ?_ s3 (fun k hk => .inl hk), hCh.mono (fun k _ hk => List.mem_cons_of_mem _ (hs.bl (.inr (by rw [show k = g from hk]; exact hgm))))⟩
 ·rcases List.mem_or_eq_of_mem_set hk with h1 | h1
  ·exact hx.i.2.2.1 k h1
  ·rw [h1]; exact hI
 ·show RowAt _ B 1 x.vl (x.f.locals.set i v).length (ints (x.f.locals.set i v))
  rw [← ints_set, List.length_set]
  have := hl.store (j := i) (by omega) (.int .i64 v)
  rw [e1]
  exact this
 ·exact hx.s.chg hCh (fun k hk e => s2 g hbl (by rw [show k = g from e] at hk; exact hk)) (by decide)
 ·show (x.f.locals.set i v).length ≤ 1000
  rw [List.length_set]; exact hx.few.1
 ·have hrow := hy.row
  rw [hs.fr] at hrow
  have h2 := hrow.chg hCh (fun k hk e => s1 k hk (by rw [show k = g from e]; exact hgm)) (by decide)
  simp only [List.flatMap_append, List.length_append, List.length_cons, List.flatMap_cons] at h2 ⊢
  exact h2
theorem topOf_mod (f : GFiber) (h : 0 < f.frames.length) (g : GFrame → GFrame) : topOf { f with frames := f.frames.modify (f.frames.length - 1) g } = g (topOf f) := by
 unfold topOf
 obtain ⟨F, x, hf⟩ := split_last f.frames h
 simp only [hf, List.length_modify]
 rw [modify_last _ _ _ _ rfl]
 have e : (F ++ [g x]).length = (F ++ [x]).length := by simp
 rw [← e, getD_last _ _ _ _ rfl, e, getD_last _ _ _ _ rfl]
theorem curF_mod (s : GState) (h : 0 ≤ s.now ∧ s.now < s.fibers.length) (g : GFiber → GFiber) : curF (modFib s s.now g) = g (curF s) := by
 unfold curF
 show (modFib s s.now g).fibers.getD s.now.toNat default = _
 rw [modFib_get _ _ _ _ (by omega), if_pos rfl]
theorem curX_mod (s : GState) (h : HasTop s s.now) (g : GFrame → GFrame) : curX (modTop s s.now g) = g (curX s) := by
 unfold curX modTop
 rw [curF_mod s ⟨h.1, h.2.1⟩]
 exact topOf_mod _ h.2.2 g
theorem curX_pop (s : GState) (h : HasTop s s.now) : curX (popG s) = { curX s with stack := (curX s).stack.dropLast } := curX_mod s h _
theorem LineRet.ll {B : Nat} {s : GState} {e : Ending} {w : World} (h : LineRet B s e w) : ∃ a c ok, e = .returned (.tuple #[.slice a (lineLL s).length c, .bool ok]) ∧ Ints w (B ≤ ·) (.slice a (lineLL s).length c) (lineLL s) := by
 unfold LineRet at h
 unfold lineLL
 cases hl : lineS s with
 | none => rw [hl] at h; exact ⟨none, 0, false, h, Sl.nil _ _ _⟩
 | some l => rw [hl] at h; obtain ⟨a, c, h1, h2⟩ := h; exact ⟨a, c, _, h1, h2⟩
theorem CallersOk.callers {s : GState} (h : CallersOk s) (hf : s.fibers.length ≤ 1000) : Callers s :=
 ⟨h.1, fun k hk => by
  rw [List.getD_eq_getElem?_getD, List.getElem?_eq_getElem hk]
  exact h.2 _ (List.getElem_mem _), hf⟩
end Go.Proofs.YtgahbngbpfilgaaGreat
end
section
set_option maxHeartbeats 1000000
namespace Go.Proofs.YtgahbngbpfilgaaGreat
open Go Go.RowKit
theorem modify_same {α : Type} : ∀ (l : List α) (n : Nat) (g : α → α), (∀ x, g x = x) → l.modify n g = l
 | [], n, g, _ => by cases n <;> rfl
 | a :: l, 0, g, h => by rw [List.modify_zero_cons, h]
 | a :: l, n + 1, g, h => by rw [List.modify_succ_cons, modify_same l n g h]
theorem modify_twice {α : Type} : ∀ (l : List α) (n : Nat) (g f : α → α), (l.modify n f).modify n g = l.modify n (fun x => g (f x))
 | [], n, g, f => by cases n <;> rfl
 | a :: l, 0, g, f => by simp only [List.modify_zero_cons]
 | a :: l, n + 1, g, f => by simp only [List.modify_succ_cons, modify_twice l n g f]
theorem modFib_same (s : GState) (n : Int) (g : GFiber → GFiber) (h : ∀ f, g f = f) : modFib s n g = s := by
 unfold modFib; rw [modify_same _ _ _ h]
theorem modFib_twice (s : GState) (n : Int) (g f : GFiber → GFiber) : modFib (modFib s n f) n g = modFib s n fun x => g (f x) := by
 unfold modFib; simp only [modify_twice]
theorem modTop_same (s : GState) (n : Int) (g : GFrame → GFrame) (h : ∀ f, g f = f) : modTop s n g = s :=
 modFib_same s n _ fun f => by rw [modify_same _ _ _ h]
theorem modTop_twice (s : GState) (n : Int) (g f : GFrame → GFrame) : modTop (modTop s n f) n g = modTop s n fun x => g (f x) := by
 unfold modTop
 rw [modFib_twice]
 simp only [List.length_modify, modify_twice]
theorem leave_zero (s : GState) : leaveG s 0 = s := modTop_same s _ _ fun x => by rw [Nat.sub_zero, List.take_length]
theorem leave_succ (s : GState) (j : Nat) : leaveG s (j + 1) = popG (leaveG s j) := by
 unfold leaveG popG
 show _ = modTop (modTop s s.now _) s.now _
 rw [modTop_twice]
 refine congrArg (modTop s s.now) (funext fun x => ?_)
 simp only [GFrame.mk.injEq, true_and]
 rw [List.dropLast_eq_take, List.take_take, List.length_take]
 congr 1
 omega
theorem curX_leave (s : GState) (h : HasTop s s.now) (j : Nat) : curX (leaveG s j) = { curX s with stack := (curX s).stack.take ((curX s).stack.length - j) } := curX_mod s h _
theorem HasTop.leave {s : GState} {n : Int} (h : HasTop s n) (j : Nat) : HasTop (leaveG s j) n := h.top _
theorem Room.leave {s : GState} (h : Room s) (j : Nat) : Room (leaveG s j) := h.top _ fun x => by simp
theorem argsOf_len (p : List GFunc) (s : GState) (a : Int) (j : Nat) (hj : j ≤ (funcOf p a).args.toNat) (hl : j ≤ (curX s).stack.length) (h0 : 0 ≤ (funcOf p a).args ∧ (funcOf p a).args ≤ (funcOf p a).locals) : (argsOf p s a j).length = (funcOf p a).locals.toNat := by
 unfold argsOf
 simp only [List.length_append, List.length_replicate, List.length_drop]
 omega
theorem argsOf_zero (p : List GFunc) (s : GState) (a : Int) (h0 : 0 ≤ (funcOf p a).args ∧ (funcOf p a).args ≤ (funcOf p a).locals) : argsOf p s a 0 = List.replicate (funcOf p a).locals.toNat 0 := by
 unfold argsOf
 rw [Nat.sub_zero, Nat.sub_zero, List.drop_length, List.append_nil, List.replicate_append_replicate]
 congr 1
 omega
theorem argsOf_succ (p : List GFunc) (s : GState) (h : HasTop s s.now) (a : Int) (j : Nat) (hj : j < (funcOf p a).args.toNat) (hl : j < (curX s).stack.length) :
  (argsOf p s a j).set ((funcOf p a).args.toNat - j - 1) (lastV (leaveG s j)) = argsOf p s a (j + 1) := by
 obtain ⟨A, hA⟩ : ∃ A, (funcOf p a).args.toNat = A := ⟨_, rfl⟩
 have hlast : lastV (leaveG s j) = (curX s).stack.getD ((curX s).stack.length - (j + 1)) 0 := by
  unfold lastV
  rw [curX_leave s h]
  simp only [List.length_take]
  have e : min ((curX s).stack.length - j) (curX s).stack.length - 1 = (curX s).stack.length - (j + 1) := by omega
  rw [e, List.getD_eq_getElem?_getD, List.getElem?_take_of_lt (by omega), ← List.getD_eq_getElem?_getD]
 have hd : (curX s).stack.drop ((curX s).stack.length - (j + 1)) = (curX s).stack.getD ((curX s).stack.length - (j + 1)) 0 :: (curX s).stack.drop ((curX s).stack.length - j) := by
  have hlt : (curX s).stack.length - (j + 1) < (curX s).stack.length := by omega
  rw [List.drop_eq_getElem_cons hlt, List.getD_eq_getElem?_getD, List.getElem?_eq_getElem hlt]
  congr 2
  omega
 unfold argsOf
 rw [hlast, hd]
 rw [hA] at hj ⊢
 obtain ⟨d, rfl⟩ : ∃ d, A = j + 1 + d := ⟨A - (j + 1), by omega⟩
 have e1 : j + 1 + d - j = d + 1 := by omega
 have e2 : j + 1 + d - (j + 1) = d := by omega
 have e3 : j + 1 + d - j - 1 = d := by omega
 rw [e3, e1, e2, List.replicate_succ']
 simp only [List.append_assoc]
 rw [List.set_append_right _ _ (by rw [List.length_replicate]; exact Nat.le_refl _), List.length_replicate, Nat.sub_self]
 simp
theorem argsOf_i64 (p : List GFunc) (s : GState) (a : Int) (j : Nat) (h : ∀ k ∈ (curX s).stack, I64 k) : ∀ k ∈ argsOf p s a j, I64 k := by
 intro k hk
 unfold argsOf at hk
 simp only [List.mem_append] at hk
 rcases hk with (hk | hk) | hk
 ·rw [List.eq_of_mem_replicate hk]; exact I64.zero
 ·exact h k (List.drop_subset _ _ hk)
 ·rw [List.eq_of_mem_replicate hk]; exact I64.zero
theorem src_cells (w : World) (cs : List Value) (n : Nat) (hn : cs.length = n) (h1 : ∀ u ∈ cs, u.oneCell' = true) (t : TypeId) : SrcSl (w.alloc (.cells cs.toArray t)) n (.slice (some ⟨w.heap.size, 0, none⟩) 1 1) 1 cs := by
 refine ⟨_, 1, rfl, by omega, h1, .inr ⟨_, rfl, fun j u hj => ?_⟩⟩
 rw [show ((⟨w.heap.size, 0, none⟩ : Addr).add j) = ⟨w.heap.size, j, none⟩ by unfold Addr.add; split <;> simp_all, World.cell?_alloc_new, List.getElem?_toArray, hj]
theorem infoFr : (Tryz.prog.info? 43).map (fun i => (i.zero, i.size, i.bytes)) = some (some (.agg #[.int .i64 0, .int .i64 0, .slice none 0 0, .slice none 0 0]), 4, 64) := by kernel_rfl
theorem infoFb : (Tryz.prog.info? 41).map (fun i => (i.zero, i.size, i.bytes)) = some (some (.agg #[.slice none 0 0, .int .i64 0]), 2, 32) := by kernel_rfl
theorem OwnS.addFrame {P : PState} {L R : List PFiber} {y : PFiber} {x : PFrame} {W W1 : World} {B b g o n cap : Nat} (h : OwnS W B b P) (hP : P.fs = L ++ y :: R) (hv : P.vfs = .slice (some ⟨g, o, none⟩) n cap) {v1 : Value}
  (hc : Chg (fun k => rowBlock y.vf = some k) W W1) (hr : RowAt W1 B 4 v1 (y.fr ++ [x]).length ((y.fr ++ [x]).flatMap frameF)) (hx : FrameO W1 B x) (hl : y.fr.length < 1000)
  (hv1 : rowBlock v1 = rowBlock y.vf ∨ ∀ k, rowBlock v1 = some k → W.heap.size ≤ k) (hn : x.bl.Nodup) (hf : ∀ k ∈ x.bl, k ∉ b :: P.bl ∧ rowBlock v1 ≠ some k) :
  OwnS (W1.setCell ⟨g, o + L.length * 2, none⟩ v1) B b { P with fs := L ++ ⟨y.fr ++ [x], y.caller, v1⟩ :: R } ∧ Chg (· ∈ P.bl) W (W1.setCell ⟨g, o + L.length * 2, none⟩ v1) := by
 have hym : y ∈ P.fs := by rw [hP]; simp
 have hy := h.fs y hym
 have hnd := h.fnodup hP
 have hsub : ∀ k ∈ y.bl, k ∈ P.bl := fun k hk => PState.mem_fs hym hk
 have hbl : y.bl = (rowBlock y.vf).toList ++ y.fr.flatMap PFrame.bl := rfl
 have hbl' : PFiber.bl ⟨y.fr ++ [x], y.caller, v1⟩ = (rowBlock v1).toList ++ (y.fr.flatMap PFrame.bl ++ x.bl) := by unfold PFiber.bl; simp
 rw [hbl] at hnd
 obtain ⟨-, hn2, hn3⟩ := List.nodup_append.1 hnd
 have hfr : ∀ u ∈ y.fr, FrameO W1 B u := fun u hu => (hy.fr u hu).chg hc fun k hk e => by
  have h1 : k ∈ y.fr.flatMap PFrame.bl := List.mem_flatMap.2 ⟨u, hu, hk⟩
  exact hn3 k (by rw [show rowBlock y.vf = some k from e]; simp) k h1 rfl
 refine h.setFrames' (y' := ⟨y.fr ++ [x], y.caller, v1⟩) hP hv hc rfl ⟨hy.i, hr, fun u hu => ?_, ?_⟩ ?_ fun k hk => ?_
 ·have hu' : u ∈ y.fr ++ [x] := hu
  rcases List.mem_append.1 hu' with h1 | h1
  ·exact hfr u h1
  ·rw [List.mem_singleton.1 h1]; exact hx
 ·show (y.fr ++ [x]).length ≤ 1000
  rw [List.length_append, List.length_singleton]; omega
 ·rw [hbl', List.nodup_append]
  refine ⟨by cases rowBlock v1 <;> simp, List.nodup_append.2 ⟨hn2, hn, fun a ha c hc e => ?_⟩, fun a ha c hc e => ?_⟩
  ·subst e
   exact (hf a hc).1 (List.mem_cons_of_mem _ (hsub a (by rw [hbl]; exact List.mem_append.2 (.inr ha))))
  ·subst e
   have ha' : rowBlock v1 = some a := by simpa using ha
   rcases List.mem_append.1 hc with h1 | h1
   ·rcases hv1 with h2 | h2
    ·exact hn3 a (by rw [← h2, ha']; simp) a h1 rfl
    ·have h3 := h2 a ha'
     have h4 := h.lt a (List.mem_cons_of_mem _ (hsub a (by rw [hbl]; exact List.mem_append.2 (.inr h1))))
     omega
   ·exact (hf a h1).2 ha'
 ·rw [hbl'] at hk
  rcases List.mem_append.1 hk with h1 | h1
  ·have h1' : rowBlock v1 = some k := by simpa using h1
   rcases hv1 with h2 | h2
   ·exact .inl (by rw [hbl, ← h2, h1']; simp)
   ·refine .inr fun h3 => ?_
    have h4 := h2 k h1'
    have h5 := h.lt k h3
    omega
  ·rcases List.mem_append.1 h1 with h2 | h2
   ·exact .inl (by rw [hbl]; exact List.mem_append.2 (.inr h2))
   ·exact .inr (hf k h2).1
end Go.Proofs.YtgahbngbpfilgaaGreat
end
section
set_option maxHeartbeats 4000000
set_option maxRecDepth 100000
namespace Go.Proofs.YtgahbngbpfilgaaGreat
open Go Go.RowKit
theorem src_given {w : World} {b o c : Nat} {v : Int} (h : w.cell? ⟨b, o, none⟩ = some (.int .i64 v)) : SrcSl w 1 (.slice (some ⟨b, o, none⟩) 1 c) 1 (ints [v]) := by
 refine ⟨_, _, rfl, by simp [ints], fun u hu => by simp [ints] at hu; subst hu; rfl, .inr ⟨_, rfl, fun j u hj => ?_⟩⟩
 cases j with
 | zero => simp [ints] at hj; subst hj; exact h
 | succ j => simp [ints] at hj
theorem engPush_at {P : PState} {L R : List PFiber} {y : PFiber} {F : List PFrame} {x : PFrame} {w : World} {B b eb : Nat} {p : List GFunc} {a : Option Addr} {cp lb lo lc : Nat} (h : OwnS w B b P) (hE : Eng w eb b p a cp) (hs : Spot P L y R F x) (hnow : P.now = (L.length : Int)) (v : Int) (hv : I64 v) (hlen : x.f.stack.length < 1000) (hc : w.cell? ⟨lb, lo, none⟩ = some (.int .i64 v)) :
  Calls Tryz.prog 74 #[.pointer (some ⟨eb, 0, none⟩), .slice (some ⟨lb, lo, none⟩) 1 lc] w fun e w' => e = .returned (.tuple #[]) ∧ (∃ v1, OwnS w' B b (replTop P L y R F ⟨{ x.f with stack := x.f.stack ++ [v] }, x.vl, v1⟩) ∧ (rowBlock v1 = rowBlock x.vs ∨ ∀ k, rowBlock v1 = some k → w.heap.size ≤ k)) ∧
   Chg (fun k => rowBlock y.vf = some k ∨ rowBlock x.vs = some k) w w' := by
 obtain ⟨g, o, cap, e1, hcap, hmax, -, -, -, d3, hbl⟩ := h.spot hs
 have hx := (h.fs y (by rw [hs.fs]; simp)).fr x (by rw [hs.fr]; simp)
 have H := Lib.hid h
 have HB : Hid (B ≤ w.heap.size) := Nat.le_trans h.le (Nat.le_of_lt h.c0.lt)
 have HX := Lib.hid hx
 have D3 := Lib.hid d3
 have HE1 := Lib.hid e1
 obtain ⟨i0, hi0, hz0, hz1, hz2⟩ := info_parts infoI
 have RA := alloc_keep
 obtain ⟨as_, cs, es, hcs, hms⟩ := hx.s.shape
 have HES := Lib.hid es
 have HENG := Lib.hid hE
 have HC := Lib.hid hc
 have HXS : Hid (RowAt w B 1 (.slice as_ x.f.stack.length cs) x.f.stack.length (ints x.f.stack)) := by unfold Hid; rw [← es]; exact hx.s
 have HGX : Hid (¬ rowBlock (.slice as_ x.f.stack.length cs) = some g) := by unfold Hid; rw [← es]; exact fun e => (h.sep hs).1 g hbl (by unfold PFrame.bl; simp [e])
 clear hc hE h hx d3 e1 hcap hmax es hcs hms
 go_enter Tryz.func74, Tryz.ntmps74
 go_upto_region 1 with (first
  | (go_at_call 73; (with_reducible refine (engTop_any H.out HENG.out hs HE1.out hnow).mono ?_); rintro e w2 ⟨rfl, hx2⟩))
 have HX2 := Lib.hid hx2
 obtain ⟨d3, d3'⟩ := D3.out.ext hx2
 rw [HES.out] at d3
 have HS2 : Hid (B ≤ w2.heap.size) := Nat.le_trans HB.out hx2.size
 clear hx2
 go_wp2_with (first
  | (at_builtin; refine wpList_append_row rfl _ _ 24 rfl B 3 i0 (.int .i64 0) 1 8 Tryz.underlying24 hi0 hz0 hz1 hz2 rfl (by decide) _ _ _ rfl (by exact (HXS.out.ext (HX2.out) (by decide))) 1 (ints [v]) (src_given (Ext.cell HX2.out HC.out)) (by unfold maxLen; omega) (by omega) (by exact Nat.le_trans HS2.out (Nat.le_refl _)) ?_; intro v1 Wv1 rv1; have RV := Lib.hid rv1; obtain ⟨k0, k0'⟩ := (D3.out.ext (HX2.out)).chg rv1.2.1 HGX.out; obtain ⟨a9, cap9, rfl, _, _⟩ := rv1.1.shape; clear rv1))
 go_end0
 have hRV : NewRow w2 Wv1 B 1 (.slice as_ x.f.stack.length cs) (.slice a9 (x.f.stack.length + 1) cap9) (x.f.stack.length + 1) (ints x.f.stack ++ ints [v]) := RV.out
 have hA : Ext w w2 := HX2.out
 obtain ⟨r1, r2, r3⟩ := hRV
 have hfin := H.out.stack hs HE1.out (W1 := Wv1) (st := x.f.stack ++ [v]) (v1 := .slice a9 (x.f.stack.length + 1) cap9)
  ((Chg.of_ext hA).trans (r2.mono (fun k _ e => by rw [HES.out]; exact e)))
  (by rw [List.length_append, List.length_singleton, ints_app]; exact r1) (fun k hk => by rcases List.mem_append.1 hk with h1 | h1; exact HX.out.i.2.2.2 k h1; rw [List.mem_singleton.1 h1]; exact hv)
  (by rw [List.length_append, List.length_singleton]; omega) (r3.imp (fun e => by rw [HES.out]; exact e) (fun e k hk => Nat.le_trans hA.size (e k hk)))
 exact ⟨rfl, ⟨_, hfin.1, r3.imp (fun e => by rw [HES.out]; exact e) (fun e k hk => Nat.le_trans hA.size (e k hk))⟩, hfin.2⟩
end Go.Proofs.YtgahbngbpfilgaaGreat
end
