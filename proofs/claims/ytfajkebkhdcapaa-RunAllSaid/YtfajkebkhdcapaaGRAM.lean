/- Merged texts: contracts and plain facts, one part behind another; each part begins with what it says. -/
import Derived.Test.YtfajkebkhdcapaaGRAA
import Derived.Test.YtfajkebkhdcapaaGRAK
import Derived.Test.YtfajkebkhdcapaaGRAL
import Derived.StillTail
section
/- Plain data: what running gives, for the laws of runs. No program in sight; no condition. -/
set_option maxHeartbeats 1000000
namespace Go.Proofs.Ytfajkebkhdcapaa
open Go Go.RowKit

theorem runG0 (p : List GFunc) (s : GState) : runG p 0 s = (s, 0, 0) := by rw [runG]
theorem runG_over (p : List GFunc) (s : GState) (k : Nat) (h : s.now < 0) : runG p (k + 1) s = (s, 0, 0) := by rw [runG, if_pos h]
theorem runG_bad (p : List GFunc) (s : GState) (k : Nat) (h : ¬ s.now < 0) (e : (doneG p s).1 ≠ 0) : runG p (k + 1) s = (s, 0, (doneG p s).1) := by rw [runG, if_neg h, if_pos e]
theorem runG_on (p : List GFunc) (s : GState) (k : Nat) (h : ¬ s.now < 0) (e : (doneG p s).1 = 0) : runG p (k + 1) s = ((runG p k (doneG p s).2).1, (runG p k (doneG p s).2).2.1 + 1, (runG p k (doneG p s).2).2.2) := by rw [runG, if_neg h, if_neg (fun k => k e)]

theorem run_count (p : List GFunc) : ∀ (n : Nat) (s : GState), 0 ≤ (runG p n s).2.1 ∧ (runG p n s).2.1 ≤ n
  | 0, s => by rw [runG0]; simp
  | n + 1, s => by
    by_cases h : s.now < 0
    · rw [runG_over p s n h]; simp; omega
    · by_cases e : (doneG p s).1 = 0
      · rw [runG_on p s n h e]
        have := run_count p n (doneG p s).2
        simp only
        omega
      · rw [runG_bad p s n h e]; simp; omega

/-- Where running has stopped. -/
structure RanF (p : List GFunc) (n : Nat) (r : GState × Int × Int) : Prop where
  right : ∃ l, Ok p r.1 l
  fine : r.2.2 = 0 → r.2.1 = n ∨ r.1.now = -1
  bad : r.2.2 ≠ 0 → r.2.1 < n ∧ 0 ≤ r.1.now ∧ (doneG p r.1).1 = r.2.2
theorem run_ran {p : List GFunc} : ∀ (n : Nat) {s : GState} {l : List Int}, Ok p s l → RanF p n (runG p n s)
  | 0, s, l, h => by rw [runG0]; exact ⟨⟨l, h⟩, fun _ => .inl rfl, fun h => absurd rfl h⟩
  | n + 1, s, l, h => by
    by_cases h0 : s.now < 0
    · rw [runG_over p s n h0]
      exact ⟨⟨l, h⟩, fun _ => .inr (by have := h.now; show s.now = -1; omega), fun h => absurd rfl h⟩
    · by_cases e : (doneG p s).1 = 0
      · rw [runG_on p s n h0 e]
        obtain ⟨_, hr⟩ := step_right h (by omega)
        obtain ⟨l', h'⟩ : ∃ l', Ok p (doneG p s).2 l' := by
          rcases hr with ⟨_, h⟩ | h
          · exact h
          · omega
        obtain ⟨a, b, c⟩ := run_ran n h'
        refine ⟨a, fun h => (b h).imp (fun h => ?_) id, fun h => ?_⟩
        · simp only; omega
        · obtain ⟨c1, c2, c3⟩ := c h
          exact ⟨by simp only; omega, c2, c3⟩
      · rw [runG_bad p s n h0 e]
        exact ⟨⟨l, h⟩, fun h => absurd h e, fun _ => ⟨by simp only; omega, by simp only; omega, rfl⟩⟩

theorem run_split (p : List GFunc) (n : Nat) : ∀ (m : Nat) (s : GState), (runG p m s).2.2 = 0 → (runG p (m + n) s) = ((runG p n (runG p m s).1).1, (runG p m s).2.1 + (runG p n (runG p m s).1).2.1, (runG p n (runG p m s).1).2.2)
  | 0, s, _ => by rw [runG0, Nat.zero_add]; simp
  | m + 1, s, h => by
    rw [show m + 1 + n = (m + n) + 1 by omega]
    by_cases h0 : s.now < 0
    · rw [runG_over p s m h0, runG_over p s _ h0]
      cases n with
      | zero => rw [runG0]; simp
      | succ n => rw [runG_over p s n h0]; simp
    · by_cases e : (doneG p s).1 = 0
      · rw [runG_on p s m h0 e] at h ⊢
        rw [runG_on p s _ h0 e, run_split p n m _ h]
        simp only [Prod.mk.injEq, true_and, and_true]
        omega
      · rw [runG_bad p s m h0 e] at h; exact absurd h e
theorem run_split_bad (p : List GFunc) (n : Nat) : ∀ (m : Nat) (s : GState), (runG p m s).2.2 ≠ 0 → runG p (m + n) s = runG p m s
  | 0, s, h => by rw [runG0] at h; exact absurd rfl h
  | m + 1, s, h => by
    rw [show m + 1 + n = (m + n) + 1 by omega]
    by_cases h0 : s.now < 0
    · rw [runG_over p s m h0] at h; exact absurd rfl h
    · by_cases e : (doneG p s).1 = 0
      · rw [runG_on p s m h0 e] at h ⊢
        rw [runG_on p s _ h0 e, run_split_bad p n m _ h]
      · rw [runG_bad p s m h0 e, runG_bad p s _ h0 e]
/-- Where one can't go on, one still can't. -/
theorem run_stuck {p : List GFunc} {s : GState} (h0 : 0 ≤ s.now) (e : (doneG p s).1 ≠ 0) (n : Nat) : runG p n s = (s, 0, if n = 0 then 0 else (doneG p s).1) := by
  cases n with
  | zero => rw [runG0]; simp
  | succ n => rw [runG_bad p s n (by omega) e]; simp
theorem run_out (p : List GFunc) : ∀ (n : Nat) (s : GState), ∃ v, (runG p n s).1.out = s.out ++ v
  | 0, s => ⟨[], by rw [runG0]; simp⟩
  | n + 1, s => by
    by_cases h0 : s.now < 0
    · exact ⟨[], by rw [runG_over p s n h0]; simp⟩
    · by_cases e : (doneG p s).1 = 0
      · rw [runG_on p s n h0 e]
        obtain ⟨v, hv⟩ := run_out p n (doneG p s).2
        rcases (done_one (by omega) e).out with h1 | ⟨u, h1⟩
        · exact ⟨v, by show (runG p n (doneG p s).2).1.out = _; rw [hv, h1]⟩
        · exact ⟨u :: v, by show (runG p n (doneG p s).2).1.out = _; rw [hv, h1]; simp⟩
      · exact ⟨[], by rw [runG_bad p s n h0 e]; simp⟩
/-- A program's first state is right. -/
theorem begin_ok {p : List GFunc} (h : progErr p = 0) : Ok p (beginG p) [0] := by
  have hP := progErr_zero h
  have hpos := hP.pos
  obtain ⟨_, _, hr⟩ := funcErr_zero (hP.func 0 hpos)
  have hl := (hr hpos).locals
  have hF : funcOf p 0 = p[0] := by unfold funcOf; simp [List.getD, List.getElem?_eq_getElem hpos]
  have hloc : ((List.replicate (funcOf p 0).locals.toNat (0 : Int)).length : Int) = (funcOf p 0).locals := by rw [List.length_replicate, hF]; have e1 : p[0] = p[(((0 : Nat) : Int)).toNat] := rfl; rw [e1]; omega
  obtain ⟨n1, n2⟩ := new_full hP (f := 0) (Int.le_refl 0) (by omega) hloc
  have key : ∀ k, k < 1 → k = 0 := fun k hk => by omega
  refine ⟨h, by show 1 ≤ 5; omega, by show 0 ≤ 30; omega, fun k hk => ?_, by show 0 < 1; omega, by show (-1 : Int) ≤ 0 ∧ (0 : Int) ≤ ((1 : Nat) : Int) - 1; omega, fun k hk => ?_, ?_, by decide, fun h0 => absurd (by simp) h0, fun k hk => ?_⟩
  · obtain rfl := key k hk
    show 1 ≤ 6; omega
  · obtain rfl := key k hk
    show (-1 : Int) ≤ -1 ∧ (-1 : Int) ≤ ((1 : Nat) : Int) - 1; omega
  · exact ⟨rfl, Int.le_refl 0, by simp, show (-1 : Int) < 0 by decide⟩
  · obtain rfl := key k hk
    show fiberB p ⟨[freshFrame p 0], -1⟩ (decide (((0 : Nat) : Int) ∈ [(0 : Int)])) (decide (((0 : Nat) : Int) = 0)) = true
    rw [decide_eq_true (show ((0 : Nat) : Int) ∈ [(0 : Int)] by simp), decide_eq_true (show ((0 : Nat) : Int) = 0 by rfl)]
    exact fiber_join (fs := []) (x := freshFrame p 0) rfl (fun j hj => absurd hj (by simp)) n1 (topB_runs n2)
end Go.Proofs.Ytfajkebkhdcapaa
end
section
/- The engine of package step: its box, and its top frame. -/
set_option maxHeartbeats 4000000
set_option maxRecDepth 100000
namespace Go.Proofs.Ytfajkebkhdcapaa
open Go Go.RowKit

/-- An engine's box: where its state lies, and the program. -/
structure Eng (w : World) (eb b : Nat) (p : List GFunc) (a : Option Addr) (cap : Nat) : Prop where
  e0 : Cx w eb 0 (.pointer (some ⟨b, 0, none⟩))
  e1 : Cx w eb 1 (.slice a p.length cap)
theorem Eng.ext {w w' : World} {eb b : Nat} {p : List GFunc} {a : Option Addr} {cap : Nat} (h : Eng w eb b p a cap) (he : Ext w w') : Eng w' eb b p a cap := ⟨h.e0.ext he, h.e1.ext he⟩

theorem engTop_any {P : PState} {L R : List PFiber} {y : PFiber} {F : List PFrame} {x : PFrame} {w : World} {B b g o cap : Nat} {eb : Nat} {p : List GFunc} {a : Option Addr} {cp : Nat} (h : OwnS w B b P)
    (hE : Eng w eb b p a cp) (hs : Spot P L y R F x) (hv : y.vf = .slice (some ⟨g, o, none⟩) (F ++ [x]).length cap) (hnow : P.now = (L.length : Int)) :
    Calls Try.prog 73 #[.pointer (some ⟨eb, 0, none⟩)] w fun e w' => e = .returned (.pointer (some ⟨g, o + F.length * 4, none⟩)) ∧ Ext w w' := by
  have hrow := h.row
  have hfew := h.few
  rw [hs.fs] at hrow hfew
  obtain ⟨⟨c0, -⟩, ⟨c1, -⟩, -⟩ := (⟨h.c0, h.c1, h.c2⟩ : _ ∧ _ ∧ _)
  obtain ⟨⟨x0, -⟩, -⟩ := hE
  rw [hnow] at c1
  obtain ⟨g0, o0, cap0, e0, hb0, hc0, hm0, hx0⟩ := RowAt.place fiberF (fun _ => rfl) hrow
  rw [e0] at c0
  obtain ⟨d0, -⟩ := hx0 0 _ (by decide) rfl
  rw [hv, Nat.add_zero] at d0
  have hnk : L.length < (L ++ y :: R).length := by simp
  have hfr : (F ++ [x]).length ≤ 1000 := by
    have := (h.fs y (by rw [hs.fs]; simp)).few
    rwa [hs.fr] at this
  have hm1 : (F ++ [x]).length = F.length + 1 := by simp
  have hmN : F.length < (F ++ [x]).length := by omega
  have KK : IntKind.i64.wrap (((F ++ [x]).length : Int) - 1) = (F.length : Int) := by
    have e : (((F ++ [x]).length : Int) - 1) = (F.length : Int) := by omega
    rw [e]; exact IntWalk.i64_in _ (by omega)
  clear hrow hx0 hb0 hm0 hm1 hs hv hnow
  have RA := alloc_keep
  generalize L.length = n at *
  generalize F.length = m at *
  generalize (L ++ y :: R).length = nk at *
  generalize (F ++ [x]).length = mk at *
  go_enter Try.func73, Try.ntmps73
  go_upto_region 1 with fail
  refine wp_region_ext (by kernel_rfl) (by kernel_rfl) ?_
  repeat (first
    | go_big_quiet_skip
    | (go_big_quiet_want
       unfold Oper.quiet
       apply Exists.intro
       refine ⟨fun w' hw' => ?_, ?_⟩
       focus
         have hcq := Ext.keep hw'
         go_simp
         first
           | with_reducible rfl
           
       (try dsimp only [Act.put])
       (try simp only [List.setIfInBounds_toArray, List.set_cons_succ, List.set_cons_zero])
       go_big_quiet_on))
  refine wpQuiet_nil ?_
  intro wq hq
  go_wp2_with fail
  go_ret
  exact ⟨rfl, hq⟩
end Go.Proofs.Ytfajkebkhdcapaa
end
section
/- A state in own memory: another At, another local value. Plain facts of steps. No condition. -/
set_option maxHeartbeats 1000000
namespace Go.Proofs.Ytfajkebkhdcapaa
open Go Go.RowKit

theorem OwnS.setAt {P : PState} {L R : List PFiber} {y : PFiber} {F : List PFrame} {x : PFrame} {W : World} {B b g o n cap : Nat} (h : OwnS W B b P) (hs : Spot P L y R F x) (hv : y.vf = .slice (some ⟨g, o, none⟩) n cap) (a : Int) (hI : I64 a) :
    OwnS (W.setCell ⟨g, o + F.length * 4 + 1, none⟩ (.int .i64 a)) B b (replTop P L y R F ⟨{ x.f with at_ := a }, x.vl, x.vs⟩) ∧ Chg (· ∈ b :: P.bl) W (W.setCell ⟨g, o + F.length * 4 + 1, none⟩ (.int .i64 a)) := by
  obtain ⟨s1, s2, s3⟩ := h.sep hs
  have hy := h.fs y (by rw [hs.fs]; simp)
  have hx := hy.fr x (by rw [hs.fr]; simp)
  have hrow := hy.row
  rw [hs.fr] at hrow
  obtain ⟨g', o', cap', e1, hbl, _⟩ := RowAt.place frameF (fun _ => rfl) hrow
  rw [hv] at e1
  simp only [Value.slice.injEq, Option.some.injEq, Addr.mk.injEq] at e1
  obtain ⟨⟨rfl, rfl, -⟩, -, rfl⟩ := e1
  have hCh := chg_one W g (o + F.length * 4 + 1) (.int .i64 a)
  have hgx : ∀ k ∈ x.bl, ¬ k = g := fun k hk e => by subst e; exact s1 _ hbl hk
  have hx' := hx.chg hCh hgx
  refine ⟨h.frame hs.fs hs.fr hCh (fun k hk _ => .inl (by rw [show k = g from hk]; exact hbl)) ⟨⟨hx.i.1, hI, hx.i.2.2⟩, hx'.l, hx'.s, hx.few⟩ ?_ s3 (fun k hk => .inl hk), hCh.mono (fun k _ hk => List.mem_cons_of_mem _ (hs.bl (.inl (by rw [show k = g from hk]; exact hbl))))⟩
  rw [hv] at hrow ⊢
  exact hrow.storeAt frameF (fun _ => rfl) (by decide) rfl

theorem OwnS.setLocal {P : PState} {L R : List PFiber} {y : PFiber} {F : List PFrame} {x : PFrame} {W : World} {B b g o n cap : Nat} (h : OwnS W B b P) (hs : Spot P L y R F x) (hv : x.vl = .slice (some ⟨g, o, none⟩) n cap) (i : Nat) (hi : i < x.f.locals.length) (v : Int) (hI : I64 v) :
    OwnS (W.setCell ⟨g, o + i, none⟩ (.int .i64 v)) B b (replTop P L y R F ⟨{ x.f with locals := x.f.locals.set i v }, x.vl, x.vs⟩) ∧ Chg (· ∈ b :: P.bl) W (W.setCell ⟨g, o + i, none⟩ (.int .i64 v)) := by
  obtain ⟨s1, s2, s3⟩ := h.sep hs
  have hy := h.fs y (by rw [hs.fs]; simp)
  have hx := hy.fr x (by rw [hs.fr]; simp)
  have hl := hx.l
  obtain ⟨a1, c1, e1, _, _⟩ := hl.shape
  have e2 := hv
  rw [e1] at e2
  simp only [Value.slice.injEq] at e2
  obtain ⟨rfl, rfl, rfl⟩ := e2
  rw [e1] at hl
  obtain ⟨g', o', e3, hbk, hcell⟩ := hl.cell (by omega)
  simp only [Option.some.injEq, Addr.mk.injEq] at e3
  obtain ⟨rfl, rfl, -⟩ := e3
  have hcap : c1 ≠ 0 := by
    intro e; subst e
    obtain ⟨_, _, _, e4, h5, _⟩ := hl
    simp only [Value.slice.injEq] at e4
    omega
  have hbl : rowBlock x.vl = some g := by rw [e1]; exact rowBlock_some _ _ _ _ hcap
  have hgm : g ∈ x.bl := by unfold PFrame.bl; simp [hbl]
  have hCh := chg_one W g (o + i) (.int .i64 v)
  refine ⟨h.frame hs.fs hs.fr hCh (fun k hk _ => .inr (by rw [show k = g from hk]; exact hgm)) ⟨⟨hx.i.1, hx.i.2.1, fun k hk => ?_, hx.i.2.2.2⟩, ?_, ?_, ?_, hx.few.2⟩ ?_ s3 (fun k hk => .inl hk), hCh.mono (fun k _ hk => List.mem_cons_of_mem _ (hs.bl (.inr (by rw [show k = g from hk]; exact hgm))))⟩
  · rcases List.mem_or_eq_of_mem_set hk with h1 | h1
    · exact hx.i.2.2.1 k h1
    · rw [h1]; exact hI
  · show RowAt _ B 1 x.vl (x.f.locals.set i v).length (ints (x.f.locals.set i v))
    rw [← ints_set, List.length_set]
    have := hl.store (j := i) (by omega) (.int .i64 v)
    rw [e1]
    exact this
  · exact hx.s.chg hCh (fun k hk e => s2 g hbl (by rw [show k = g from e] at hk; exact hk)) (by decide)
  · show (x.f.locals.set i v).length ≤ 1000
    rw [List.length_set]; exact hx.few.1
  · have hrow := hy.row
    rw [hs.fr] at hrow
    have h2 := hrow.chg hCh (fun k hk e => s1 k hk (by rw [show k = g from e]; exact hgm)) (by decide)
    simp only [List.flatMap_append, List.length_append, List.length_cons, List.flatMap_cons] at h2 ⊢
    exact h2

theorem topOf_mod (f : GFiber) (h : 0 < f.frames.length) (g : GFrame → GFrame) : topOf { f with frames := f.frames.modify (f.frames.length - 1) g } = g (topOf f) := by
  unfold topOf
  obtain ⟨F, x, hf⟩ := split_last f.frames h
  simp only [hf, List.length_modify]
  rw [modify_last _ _ _ _ rfl]
  have e : (F ++ [g x]).length = (F ++ [x]).length := by simp
  rw [← e, getD_last _ _ _ _ rfl, e, getD_last _ _ _ _ rfl]
theorem curF_mod (s : GState) (h : 0 ≤ s.now ∧ s.now < s.fibers.length) (g : GFiber → GFiber) : curF (modFib s s.now g) = g (curF s) := by
  unfold curF
  show (modFib s s.now g).fibers.getD s.now.toNat default = _
  rw [modFib_get _ _ _ _ (by omega), if_pos rfl]
theorem curX_mod (s : GState) (h : HasTop s s.now) (g : GFrame → GFrame) : curX (modTop s s.now g) = g (curX s) := by
  unfold curX modTop
  rw [curF_mod s ⟨h.1, h.2.1⟩]
  exact topOf_mod _ h.2.2 g
theorem curX_pop (s : GState) (h : HasTop s s.now) : curX (popG s) = { curX s with stack := (curX s).stack.dropLast } := curX_mod s h _
theorem pop_now (s : GState) : (popG s).now = s.now := rfl

/-- What lineOf hands back, in one form. -/
theorem LineRet.ll {B : Nat} {s : GState} {e : Ending} {w : World} (h : LineRet B s e w) : ∃ a c ok, e = .returned (.tuple #[.slice a (lineLL s).length c, .bool ok]) ∧ Ints w (B ≤ ·) (.slice a (lineLL s).length c) (lineLL s) := by
  unfold LineRet at h
  unfold lineLL
  cases hl : lineS s with
  | none => rw [hl] at h; exact ⟨none, 0, false, h, Sl.nil _ _ _⟩
  | some l => rw [hl] at h; obtain ⟨a, c, h1, h2⟩ := h; exact ⟨a, c, _, h1, h2⟩
theorem CallersOk.callers {s : GState} (h : CallersOk s) (hf : s.fibers.length ≤ 1000) : Callers s :=
  ⟨h.1, fun k hk => by
    rw [List.getD_eq_getElem?_getD, List.getElem?_eq_getElem hk]
    exact h.2 _ (List.getElem_mem _), hf⟩
end Go.Proofs.Ytfajkebkhdcapaa
end
section
/- A region that draws its order: all but the last operations read, or call what may make memory and gives one value; the last ones come up in one order. No condition. -/
set_option maxHeartbeats 400000
namespace Go.Proofs.Ytfajkebkhdcapaa
open Go

section
variable {P : Program} {md : Region.Mode} {ops : Array Oper} {C : World → Prop}

/-- Whatever order is picked, as long as operations ahead of number n come up: all of them are quiet. -/
def headQ (P : Program) (md : Region.Mode) (ops : Array Oper) (C : World → Prop) (n : Nat) (L : Array Bool → Act → Prop) : Nat → Array Bool → Act → Prop
  | 0, listed, a => L listed a
  | f + 1, listed, a => Region.ready md ops listed ≠ [] ∧ ∀ i ∈ Region.ready md ops listed, i < n ∧ qOp P ops C i (headQ P md ops C n L f (listed.setIfInBounds i true)) a

theorem wpAny_of_headQ {n g : Nat} {L : Array Bool → Act → Prop} {Q' : Exit → Act → World → Prop} (hL : ∀ listed a w, C w → L listed a → wpAny P md ops Q' g listed a w) :
    ∀ (f : Nat) (listed : Array Bool) (a : Act) (w : World), C w → headQ P md ops C n L f listed a → wpAny P md ops Q' (f + g) listed a w
  | 0, listed, a, w, hw, h => by rw [Nat.zero_add]; exact hL _ _ _ hw h
  | f + 1, listed, a, w, hw, h => by
    rw [show f + 1 + g = (f + g) + 1 by omega]
    exact ⟨fun h0 => absurd h0 h.1, fun i hi => wpOp_of_qOp hw (fun a' w' hw' h' => wpAny_of_headQ hL f _ a' w' hw' h') (h.2 i hi).2⟩

theorem headQ_first {n i : Nat} {oi : Oper} {v : Value} {L : Array Bool → Act → Prop} (hi : ops[i]? = some oi) (hsel : ∀ (j : Nat) (o : Oper) cs b, ops[j]? = some o → o.op ≠ .select cs b)
    (hs : Region.sinkB md ops n = true) (hc : Region.chainB md ops n = true) (hn : n < ops.size) (hin : i < n) (hdone : ∀ listed a, L listed a → ∀ j ∈ Region.ready md ops listed, n ≤ j) :
    ∀ (f : Nat) (listed : Array Bool) (a : Act), HeadInv md ops n listed →
      (∀ j oj, ops[j]? = some oj → j ≠ i → listed.getD j true = false → (∀ e ∈ oj.after, Region.binds md e = true → e.on ≠ i) → oi.apart ops oj = true) →
      i ∈ Region.ready md ops listed → YieldsIn P ops C oi v a →
      headQ P md ops C n L f (listed.setIfInBounds i true) (a.put oi.dst v) → headQ P md ops C n L (f + 1) listed a := by
  intro f
  induction f with
  | zero =>
    intro listed a inv _ hr hy H
    have hun := (mem_ready.1 hr).1
    refine ⟨fun h => (by rw [h] at hr; cases hr), fun j hj => ?_⟩
    have hjn : j < n := by
      rcases Nat.lt_or_ge j n with h | h
      · exact h
      · exact absurd hj (tail_waits hs hc hn inv _ i rfl hin hun j h)
    refine ⟨hjn, ?_⟩
    by_cases hji : j = i
    · subst hji; exact hy.qOp hi H
    · have := hdone _ _ H j (ready_mono hj hji)
      omega
  | succ f ih =>
    intro listed a inv hfree hr hy H
    have hun := (mem_ready.1 hr).1
    refine ⟨fun h => (by rw [h] at hr; cases hr), fun j hj => ?_⟩
    have hjn : j < n := by
      rcases Nat.lt_or_ge j n with h | h
      · exact h
      · exact absurd hj (tail_waits hs hc hn inv _ i rfl hin hun j h)
    refine ⟨hjn, ?_⟩
    by_cases hji : j = i
    · subst hji; exact hy.qOp hi H
    · have h1 := (H.2 j (ready_mono hj hji)).2
      obtain ⟨hjun, oj, hoj, hall⟩ := mem_ready.1 hj
      have hnot : ∀ e ∈ oj.after, Region.binds md e = true → e.on ≠ i := fun e he hb heq => by
        have h1 := hall e he hb
        rw [heq, getD_both hun] at h1
        cases h1
      have h2 := qOp_put hoj (hfree j oj hoj hji hjun hnot) (fun cs b => hsel i oi cs b hi) (fun cs b => hsel j oj cs b hoj) hy h1
      have hfree' : ∀ k ok, ops[k]? = some ok → k ≠ i → (listed.setIfInBounds j true).getD k true = false →
          (∀ e ∈ ok.after, Region.binds md e = true → e.on ≠ i) → oi.apart ops ok = true := fun k ok hk hki hun hno => by
        refine hfree k ok hk hki ?_ hno
        by_cases hjk : j = k
        · subst hjk; exact hjun
        · rw [getD_set_ne true hjk] at hun; exact hun
      refine qOp_mono (fun a' h3 => ih (listed.setIfInBounds j true) a' (inv.set hj hjn) hfree' (ready_mono hr (Ne.symm hji)) h3.1 ?_) h2
      rw [Array.setIfInBounds_comm _ _ hji]
      exact h3.2

theorem headQ_lex {n g : Nat} {Lq : Act → Prop} (hsel : Region.noSelect ops = true) (hs : Region.sinkB md ops n = true) (hc : Region.chainB md ops n = true) (hn : n < ops.size) :
    ∀ (l : List Oper) (k : Nat) (listed : Array Bool) (a : Act), (∀ j, j < l.length → l[j]? = ops[k + j]?) → k + l.length = n → HeadInv md ops n listed →
    Region.lexHead md ops g l.length k listed = true → wpQuiet P ops C Lq l a →
    headQ P md ops C n (fun listed' a' => Region.seqB md ops g n listed' = true ∧ Lq a') l.length listed a
  | [], k, listed, a, _, hk, _, hB, h => by
    have : k = n := by simpa using hk
    subst this
    exact ⟨by simpa [Region.lexHead] using hB, h⟩
  | o :: l, k, listed, a, hl, hk, inv, hB, h => by
    have h0 : ops[k]? = some o := by simpa using (hl 0 (by simp)).symm
    simp only [List.length_cons, Region.lexHead, Bool.and_eq_true] at hB
    obtain ⟨⟨hr, hf⟩, hB'⟩ := hB
    have hkn : k < n := by simp only [List.length_cons] at hk; omega
    have hr' : k ∈ Region.ready md ops listed := by simpa using hr
    have hst : qOp P ops C k (wpQuiet P ops C Lq l) a := by unfold qOp; simp only [h0]; exact h
    obtain ⟨v, hy, hK⟩ := yieldsIn_of_qOp h0 hst
    exact headQ_first h0 (Region.noSelect_spec hsel) hs hc hn hkn (fun listed' a' hL => seqB_ready hL.1) l.length listed a inv (Region.free_spec h0 hf) hr' hy
      (headQ_lex hsel hs hc hn l (k + 1) _ _ (fun j hj => by have := hl (j + 1) (by simp; omega); simpa [Nat.add_assoc, Nat.add_comm 1 j] using this) (by simp only [List.length_cons] at hk; omega) (inv.set hr' hkn) hB' hK)

theorem wp_region_ext_tail {id : Nat} {Q : Exit → Act → World → Prop} {a : Act} {w : World} {l : List Oper} (n : Nat) (hm : P.follows .mixedOrders = true) (hB : Region.lexTailB .any l.toArray n = true)
    (h : wpQuiet P l.toArray (Ext w) (fun a' => ∀ w', Ext w w' → wpList P l.toArray Q (l.drop n) a' w') (l.take n) a) : (Code.region id l.toArray true).wp P Q a w := by
  simp only [Region.lexTailB, Bool.and_eq_true, decide_eq_true_eq] at hB
  obtain ⟨⟨⟨⟨hsel, hn⟩, hs⟩, hc⟩, hlex⟩ := hB
  have hn' : n < l.length := by simpa using hn
  have htl : (l.take n).length = n := by simp; omega
  have hdl : (l.drop n).length = l.toArray.size - n := by simp
  have inv0 : HeadInv .any l.toArray n (Array.replicate l.toArray.size false) :=
    ⟨by simp, fun j oj _ hl => (by rw [getD_replicate_false] at hl; cases hl), fun t _ ht => getD_in (by simpa using ht) (getD_replicate_false _ _)⟩
  have H := headQ_lex (md := .any) (g := l.toArray.size - n) hsel hs hc hn (l.take n) 0 _ a (fun j hj => by
    have hj' : j < n := by rw [htl] at hj; exact hj
    simp [hj']) (by simpa using htl) inv0 (by rw [htl]; exact hlex) h
  refine wp_region_any hm ?_
  have := wpAny_of_headQ (Q' := Q) (g := l.toArray.size - n) (fun listed a' w' hw' hL => by
    have := wpAny_of_seq (md := .any) (Q' := Q) (l.drop n) n listed a' w' (fun j => by simp [List.getElem?_drop]) (by rw [hdl]; exact hL.1) (hL.2 w' hw')
    rwa [hdl] at this) _ _ _ _ (Ext.drew (Ext.refl w)) H
  rw [htl, show n + (l.toArray.size - n) = l.toArray.size by omega] at this
  exact this
end
end Go.Proofs.Ytfajkebkhdcapaa
end
