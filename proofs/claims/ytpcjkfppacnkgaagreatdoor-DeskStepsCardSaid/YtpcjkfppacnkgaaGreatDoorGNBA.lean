/- Merged texts: contracts and plain facts, one part behind another; each part begins with what it says. -/
import Derived.Test.YtpcjkfppacnkgaaGreatDoorGNAJ
import Derived.Test.YtpcjkfppacnkgaaGreatDoorGNAT
import Derived.Test.YtpcjkfppacnkgaaGreatDoorGNAV
import Derived.Test.YtpcjkfppacnkgaaGreatDoorGNAZ
import Derived.BigRegion
import Derived.Laws.IdiomCopy
import Derived.WalkSmall
section
/- The engine of package step: must, push by number, two, put, back, yield. -/
set_option maxHeartbeats 4000000
set_option maxRecDepth 100000
namespace Go.Proofs.YtpcjkfppacnkgaaGreatDoor
open Go Go.RowKit

/-- The panic of an error; how a call of the engine ends. -/
def refusalS (r : Int) : List PanicEntry := [{ v := .iface 173 (.agg #[.int .i64 r]), recovered := false }]
def endS (r : Int) : Ending := if r = 0 then .returned (.tuple #[]) else .panicked (refusalS r)
def mustS (c : Bool) (r : Int) : Ending := match c with
  | true => .returned (.tuple #[])
  | false => .panicked (refusalS r)

theorem stepMust_any (c : Bool) (r : Int) (w : World) : Calls Tryz.prog 210 #[.bool c, .int .i64 r] w fun e w' => e = mustS c r ∧ w' = w := by
  have hpn := @run_panic_iface Tryz.prog
  cases c with
  | true =>
    go_enter Tryz.func210, Tryz.ntmps210
    go_wp2_with fail
    go_end0
    exact ⟨rfl, rfl⟩
  | false =>
    go_enter Tryz.func210, Tryz.ntmps210
    go_wp2_with fail
    exact ⟨rfl, rfl, rfl⟩

/-- The engine, its box apart from the state. -/
structure EngS (w : World) (B b eb : Nat) (p : List GFunc) (a : Option Addr) (cp : Nat) (P : PState) : Prop where
  own : OwnS w B b P
  eng : Eng w eb b p a cp
  off : eb ∉ b :: P.bl
theorem EngS.ext {w w' : World} {B b eb : Nat} {p : List GFunc} {a : Option Addr} {cp : Nat} {P : PState} (h : EngS w B b eb p a cp P) (he : Ext w w') : EngS w' B b eb p a cp P := ⟨h.own.ext he, h.eng.ext he, h.off⟩
theorem Eng.chg {M : Nat → Prop} {w w' : World} {eb b : Nat} {p : List GFunc} {a : Option Addr} {cap : Nat} (h : Eng w eb b p a cap) (hc : Chg M w w') (hM : ¬ M eb) : Eng w' eb b p a cap := ⟨h.e0.chg hc hM, h.e1.chg hc hM⟩
theorem EngS.with {w w' : World} {B b eb : Nat} {p : List GFunc} {a : Option Addr} {cp : Nat} {P P' : PState} (h : EngS w B b eb p a cp P) (hc : Chg (· ∈ b :: P.bl) w w') (ho : OwnS w' B b P') (hs : ∀ g ∈ P'.bl, g ∈ P.bl ∨ w.heap.size ≤ g) : EngS w' B b eb p a cp P' :=
  ⟨ho, h.eng.chg hc h.off, not_grown' h.off hs h.eng.e0.lt⟩
where
  not_grown' {P P5 : PState} {b bx n : Nat} (h : bx ∉ b :: P.bl) (hs : ∀ g ∈ P5.bl, g ∈ P.bl ∨ n ≤ g) (hlt : bx < n) : bx ∉ b :: P5.bl := fun hm => by
    rcases List.mem_cons.1 hm with rfl | h1
    · exact h List.mem_cons_self
    · rcases hs bx h1 with h2 | h2
      · exact h (List.mem_cons_of_mem _ h2)
      · omega
theorem EngS.turn {w w' : World} {B b eb : Nat} {p : List GFunc} {a : Option Addr} {cp : Nat} {P : PState} {s : GState} (h : EngS w B b eb p a cp P) (t : Turn w w' B b P s) :
    ∃ P', EngS w' B b eb p a cp P' ∧ P'.g = s ∧ (∀ g ∈ P'.bl, g ∈ P.bl ∨ w.heap.size ≤ g) ∧ Chg (· ∈ b :: P.bl) w w' := by
  obtain ⟨⟨P', o, e, hs⟩, hc⟩ := t
  exact ⟨P', h.with hc o hs, e, hs, hc⟩

theorem engPush_any {P : PState} {w : World} {B b eb : Nat} {p : List GFunc} {a : Option Addr} {cp lb lo lc : Nat} (h : OwnS w B b P) (hE : Eng w eb b p a cp) (ht : HasTop P.g P.g.now) (hr : Room P.g) (v : Int) (hv : I64 v) (hc : w.cell? ⟨lb, lo, none⟩ = some (.int .i64 v)) :
    Calls Tryz.prog 159 #[.pointer (some ⟨eb, 0, none⟩), .slice (some ⟨lb, lo, none⟩) 1 lc] w fun e w' => e = .returned (.tuple #[]) ∧ Turn w w' B b P (pushG P.g P.g.now v) := by
  obtain ⟨L, y, R, F, x, hs, hn⟩ := hasSpot ht
  have hn : P.now = (L.length : Int) := hn
  have hx : x.f.stack.length < 1000 := hr y.g (by unfold PState.g; rw [hs.fs]; simp) x.f (by unfold PFiber.g; rw [hs.fr]; simp)
  refine (engPush_at h hE hs hn v hv hx hc).mono ?_
  rintro e w' ⟨rfl, ⟨v1, o1, hv1⟩, hc⟩
  exact ⟨rfl, ⟨⟨_, o1, (modTop_at hs (show P.g.now = _ from hn) rfl).symm, repl_bl hs (frame_bl hv1)⟩, chg_spot hs hc⟩⟩
/-- A value that was just laid. -/
theorem engPush_new {P : PState} {w : World} {B b eb : Nat} {p : List GFunc} {a : Option Addr} {cp : Nat} (h : OwnS w B b P) (hE : Eng w eb b p a cp) (ht : HasTop P.g P.g.now) (hr : Room P.g) (v : Int) (hv : I64 v) (t : TypeId) :
    Calls Tryz.prog 159 #[.pointer (some ⟨eb, 0, none⟩), .slice (some ⟨w.heap.size, 0, none⟩) 1 1] (w.alloc (.cells #[.int .i64 v] t)) fun e w' => e = .returned (.tuple #[]) ∧ Turn w w' B b P (pushG P.g P.g.now v) := by
  have he : Ext w (w.alloc (.cells #[.int .i64 v] t)) := (Ext.refl _).alloc _
  refine (engPush_any (h.ext he) (hE.ext he) ht hr v hv (by simp)).mono ?_
  rintro e w' ⟨rfl, h⟩
  exact ⟨rfl, Turn.pre he h⟩

theorem drop_two (s : GState) (ht : HasTop s s.now) (h : 2 ≤ (curX s).stack.length) : (curX s).stack.drop ((curX s).stack.length - 2) = [lastV (popG s), lastV s] := by
  obtain ⟨F, y, e⟩ := split_last (curX s).stack (by omega)
  obtain ⟨F', x, e'⟩ := split_last F (by rw [e] at h; simp at h; omega)
  subst e'
  have h1 : lastV s = y := by unfold lastV; rw [e]; exact getD_last _ _ _ _ rfl
  have h2 : lastV (popG s) = x := by
    unfold lastV
    rw [curX_pop s ht]
    show ((curX s).stack.dropLast).getD ((curX s).stack.dropLast.length - 1) 0 = x
    rw [e, List.dropLast_concat]
    exact getD_last _ _ _ _ rfl
  rw [h1, h2, e]
  simp
theorem leave_two (s : GState) : leaveG s 2 = popG (popG s) := by rw [leave_succ, leave_one]
theorem ints_two {w : World} {S : Nat → Prop} {v : Value} {x y : Int} (h : Ints w S v [x, y]) : ∃ b o c, v = .slice (some ⟨b, o, none⟩) 2 c ∧ w.cell? ⟨b, o, none⟩ = some (.int .i64 x) ∧ w.cell? ⟨b, o + 1, none⟩ = some (.int .i64 y) ∧ I64 x ∧ I64 y := by
  obtain ⟨b1, o1, c1, e, _, _, _, h0, i0⟩ := Sl.get h (i := 0) (by simp)
  obtain ⟨b2, o2, c2, e2, _, _, _, h1, i1⟩ := Sl.get h (i := 1) (by simp)
  rw [e] at e2
  simp only [Value.slice.injEq, Option.some.injEq, Addr.mk.injEq] at e2
  obtain ⟨⟨rfl, rfl, -⟩, -, rfl⟩ := e2
  simp only [Nat.zero_mul, Nat.add_zero, Nat.one_mul, List.getElem_cons_zero, List.getElem_cons_succ] at h0 h1 i0 i1
  exact ⟨b1, o1, c1, e, h0, h1, i0, i1⟩

theorem engTwo_any (kd : Int) (k : Nat) (hcf : ∀ (args : Array Value) (W : World), (callFunc k args).run Tryz.prog W = .ok (Next.enter k args) W) (hof : ∀ (x y : Int) (W : World), Calls Tryz.prog k #[.int .i64 x, .int .i64 y] W fun e W' => e = .returned (.int .i64 (reckG kd x y)) ∧ W' = W) (hI : ∀ x y, I64 (reckG kd x y)) {P : PState} {w : World} {B b eb : Nat} {p : List GFunc} {a : Option Addr} {cp : Nat}
    (h : EngS w B b eb p a cp P) (ht : HasTop P.g P.g.now) (hr : Room P.g) (hl : 2 ≤ (curX P.g).stack.length) :
    Calls Tryz.prog 162 #[.pointer (some ⟨eb, 0, none⟩), .func (.func k) #[] #[]] w fun e w' => e = .returned (.tuple #[]) ∧ Turn w w' B b P (pushG (popG (popG P.g)) P.g.now (reckG kd (lastV (popG P.g)) (lastV P.g))) := by
  have H := Lib.hid h
  have HT := Lib.hid ht
  have HL := Lib.hid hl
  have HD := Lib.hid (drop_two _ ht hl)
  have HR := Lib.hid hr
  have HOF := Lib.hid hof
  have HII := Lib.hid hI
  clear h ht hl hr hof hI
  have RA := alloc_keep
  generalize hx : lastV (popG P.g) = x at *
  generalize hy : lastV P.g = y at *
  clear hx hy
  go_enter Tryz.func162, Tryz.ntmps162
  go_upto_region 1 with (first
    | (go_at_call 160; (with_reducible refine (engPull_k H.out.own H.out.eng HT.out 2 HL.out 2 rfl).mono ?_); rintro e w2 ⟨v1, rfl, hv, t2⟩; rw [HD.out] at hv; rw [leave_two] at t2; obtain ⟨b1, o1, c1, rfl, c0, c1', _, _⟩ := ints_two hv))
  obtain ⟨P2, h2, g2, bl2, ch2⟩ := H.out.turn t2
  have H2 := Lib.hid h2
  have HT2 : Hid (HasTop P2.g P2.g.now) := by unfold Hid; rw [g2]; exact HT.out.pop.pop
  have HR2 : Hid (Room P2.g) := by unfold Hid; rw [g2]; exact HR.out.pop.pop
  clear h2 t2 hv
  refine wp_region_rtt (fun w' => w'.cell? ⟨b1, o1, none⟩ = some (.int .i64 x) ∧ w'.cell? ⟨b1, o1 + 1, none⟩ = some (.int .i64 y)) 10 [0, 1, 2, 3, 4, 5, 6, 7] [8, 9, 10] (by kernel_rfl) (by kernel_rfl) (fun _ _ _ _ _ h => h) (by exact ⟨c0, c1'⟩) ?_
  (try simp only [pickOps, List.filterMap_cons, List.filterMap_nil, List.getElem?_cons_zero, List.getElem?_cons_succ])
  repeat (
    refine readsQ_do (by rfl) ?_
    apply Exists.intro
    refine ⟨fun w' hw' => ?_, ?_⟩
    focus
      (try dsimp only at hw')
      go_split_ands
      go_simp
      (try with_reducible rfl)
    (try dsimp only [Act.put])
    (try simp only [List.setIfInBounds_toArray, List.set_cons_succ, List.set_cons_zero]))
  refine readsQ_nil ?_
  refine tailW_step ?_
  go_wp2_with (first
    | ((with_reducible refine (HOF.out x y _).mono ?_); rintro e w3 ⟨rfl, rfl⟩))
  refine nextW_go (by exact ⟨c0, c1'⟩) ?_
  refine tailW_step ?_
  go_wp2_with fail
  refine nextW_go (by constructor <;> simp [*]) ?_
  refine tailW_step ?_
  go_wp2_with (first
    | (go_at_call 159; (with_reducible refine (engPush_any (H2.out.own.ext (by ((repeat (first | assumption | exact Ext.refl _ | (exact And.left (by assumption)) | refine Ext.alloc ?_ _ | refine Ext.drew ?_ | refine Ext.drewN ?_ _ | refine Ext.setCell ?_ (by simp) _ | refine Ext.setCell ?_ (by simp; omega) _ | refine Ext.trans ?_ (by assumption))); done))) (H2.out.eng.ext (by ((repeat (first | assumption | exact Ext.refl _ | (exact And.left (by assumption)) | refine Ext.alloc ?_ _ | refine Ext.drew ?_ | refine Ext.drewN ?_ _ | refine Ext.setCell ?_ (by simp) _ | refine Ext.setCell ?_ (by simp; omega) _ | refine Ext.trans ?_ (by assumption))); done))) HT2.out HR2.out _ (HII.out x y) (by simp)).mono ?_); rintro e w4 ⟨rfl, t4⟩))
  refine nextW_end ?_
  go_end0
  rw [g2] at t4
  exact ⟨rfl, Turn.step ch2 bl2 (Turn.pre (show Ext w2 (w2.alloc (.cells #[.int .i64 (reckG kd x y)] 3)).drew by ((repeat (first | assumption | exact Ext.refl _ | (exact And.left (by assumption)) | refine Ext.alloc ?_ _ | refine Ext.drew ?_ | refine Ext.drewN ?_ _ | refine Ext.setCell ?_ (by simp) _ | refine Ext.setCell ?_ (by simp; omega) _ | refine Ext.trans ?_ (by assumption))); done)) t4)⟩
theorem clos4 (x y : Int) (W : World) : Calls Tryz.prog 163 #[.int .i64 x, .int .i64 y] W fun e W' => e = .returned (.int .i64 (reckG 4 x y)) ∧ W' = W := by
  go_enter Tryz.func163, Tryz.ntmps163
  go_wp2_with fail
  go_ret
  exact ⟨rfl, rfl⟩
theorem clos5 (x y : Int) (W : World) : Calls Tryz.prog 164 #[.int .i64 x, .int .i64 y] W fun e W' => e = .returned (.int .i64 (reckG 5 x y)) ∧ W' = W := by
  go_enter Tryz.func164, Tryz.ntmps164
  go_wp2_with fail
  go_ret
  exact ⟨rfl, rfl⟩
theorem clos6 (x y : Int) (W : World) : Calls Tryz.prog 165 #[.int .i64 x, .int .i64 y] W fun e W' => e = .returned (.int .i64 (reckG 6 x y)) ∧ W' = W := by
  go_enter Tryz.func165, Tryz.ntmps165
  go_wp2_with fail
  go_ret
  exact ⟨rfl, rfl⟩
theorem stepTruth_any (t : Bool) (w : World) : Calls Tryz.prog 167 #[.bool t] w fun e w' => e = .returned (.int .i64 (truthG t)) ∧ w' = w := by
  cases t with
  | true =>
    go_enter Tryz.func167, Tryz.ntmps167
    go_wp2_with fail
    go_ret
    exact ⟨rfl, rfl⟩
  | false =>
    go_enter Tryz.func167, Tryz.ntmps167
    go_wp2_with fail
    go_ret
    exact ⟨rfl, rfl⟩
theorem clos7 (x y : Int) (W : World) : Calls Tryz.prog 166 #[.int .i64 x, .int .i64 y] W fun e W' => e = .returned (.int .i64 (reckG 7 x y)) ∧ W' = W := by
  go_enter Tryz.func166, Tryz.ntmps166
  go_wp2_with (first
    | (go_at_call 167; refine (stepTruth_any _ _).mono ?_; rintro e w2 ⟨rfl, rfl⟩))
  go_ret
  exact ⟨rfl, rfl⟩
theorem clos8 (x y : Int) (W : World) : Calls Tryz.prog 168 #[.int .i64 x, .int .i64 y] W fun e W' => e = .returned (.int .i64 (reckG 8 x y)) ∧ W' = W := by
  go_enter Tryz.func168, Tryz.ntmps168
  go_wp2_with (first
    | (go_at_call 167; refine (stepTruth_any _ _).mono ?_; rintro e w2 ⟨rfl, rfl⟩))
  go_ret
  exact ⟨by show Ending.returned (Value.int .i64 (truthG (x == y))) = .returned (.int .i64 (truthG (decide (x = y)))); rw [beq_dec], rfl⟩

/-- Out has one number more, or there is no room. -/
theorem engPut_any {P : PState} {w : World} {B b eb : Nat} {p : List GFunc} {a : Option Addr} {cp : Nat} (h : EngS w B b eb p a cp P) (hl : P.g.out.length ≤ 30) (v : Int) (hv : I64 v) :
    Calls Tryz.prog 199 #[.pointer (some ⟨eb, 0, none⟩), .int .i64 v] w fun e w' => e = endS (putG P.g v).1 ∧ Did w w' B b P (putG P.g v) := by
  have hl' : P.out.length ≤ 30 := hl
  obtain ⟨ao, co, eo, hco, hmo⟩ := h.own.out.shape
  have HRO : Hid (RowAt w B 1 (.slice ao P.out.length co) P.out.length (ints P.out)) := by unfold Hid; rw [← eo]; exact h.own.out
  obtain ⟨c2, c2'⟩ := h.own.c2
  rw [eo] at c2
  obtain ⟨⟨x0, x0'⟩, -⟩ := h.eng
  have HEO := Lib.hid eo
  have H := Lib.hid h
  have HB : Hid (B ≤ w.heap.size) := Nat.le_trans h.own.le (Nat.le_of_lt h.own.c0.lt)
  have HBO : Hid (∀ k, rowBlock (.slice ao P.out.length co) = some k → k ≠ b ∧ k ≠ eb) := by
    unfold Hid; rw [← eo]
    exact fun k e => ⟨fun e' => h.own.dis.1 (PState.mem_vo (e' ▸ e)), fun e' => h.off (List.mem_cons_of_mem _ (PState.mem_vo (e' ▸ e)))⟩
  obtain ⟨i0, hi0, hz0, hz1, hz2⟩ := info_parts infoI
  have RA := alloc_keep
  by_cases h30 : P.out.length = 30
  · have HG : Hid (putG P.g v = (2, P.g)) := by unfold Hid putG; rw [if_pos (show P.g.out.length = 30 from h30)]
    rw [HG.out]
    have T : decide (((P.out.length : Nat) : Int) < 30) = false := decide_eq_false (by omega)
    clear h eo h30 hl hl' hco hmo
    generalize P.out.length = m at *
    go_enter Tryz.func199, Tryz.ntmps199
    go_wp2_with (first
      | (go_at_call 210; (with_reducible refine (stepMust_any _ _ _).mono ?_); rintro e w2 ⟨he, rfl⟩; simp only [mustS] at he; subst he))
    exact ⟨rfl, rfl, ⟨Chg.refl _ _, fun h => by cases h⟩⟩
  · have HG : Hid (putG P.g v = (0, { P.g with out := P.g.out ++ [v] })) := by unfold Hid putG; rw [if_neg (show ¬ P.g.out.length = 30 from h30)]
    rw [HG.out]
    have T : decide (((P.out.length : Nat) : Int) < 30) = true := decide_eq_true (by omega)
    clear h eo h30 hl hco hmo
    go_enter Tryz.func199, Tryz.ntmps199
    go_upto_region 1 with (first
      | (go_at_call 210; (with_reducible refine (stepMust_any _ _ _).mono ?_); rintro e w2 ⟨he, rfl⟩; simp only [mustS] at he; subst he))
    refine wp_region_rt (fun w' => w'.cell? ⟨eb, 0, none⟩ = some (.pointer (some ⟨b, 0, none⟩)) ∧ w'.cell? ⟨b, 2, none⟩ = some (.slice ao P.out.length co)) 16 [0, 1, 2, 3, 4, 5, 6, 7, 8, 9, 10, 11] [12, 13, 14, 15, 16] (by kernel_rfl) (by kernel_rfl) (fun _ _ _ _ _ h => h) (by refine ⟨?_, ?_⟩ <;> simpa) ?_
    (try simp only [pickOps, List.filterMap_cons, List.filterMap_nil, List.getElem?_cons_zero, List.getElem?_cons_succ])
    repeat (
      refine readsQ_do (by rfl) ?_
      apply Exists.intro
      refine ⟨fun w' hw' => ?_, ?_⟩
      focus
        (try dsimp only at hw')
        go_split_ands
        go_simp
        (try with_reducible rfl)
      (try dsimp only [Act.put])
      (try simp only [List.setIfInBounds_toArray, List.set_cons_succ, List.set_cons_zero]))
    refine readsQ_nil ?_
    refine tailW_step ?_
    go_wp2_with fail
    have RX := Lib.hid (show Ext w2 w2.drew from (Ext.refl _).drew)
    refine nextW_go (by constructor <;> simp [*]) ?_
    refine tailW_step ?_
    go_wp2_with (first
      | (at_builtin; refine wpList_append_row rfl _ _ 30 rfl B 3 i0 (.int .i64 0) 1 8 Tryz.underlying30 hi0 hz0 hz1 hz2 rfl (by decide) _ _ _ rfl (by exact (HRO.out.ext (by ((repeat (first | assumption | exact Ext.refl _ | (exact And.left (by assumption)) | refine Ext.alloc ?_ _ | refine Ext.drew ?_ | refine Ext.drewN ?_ _ | refine Ext.setCell ?_ (by simp) _ | refine Ext.setCell ?_ (by simp; omega) _ | refine Ext.trans ?_ (by assumption))); done)) (by decide))) 1 (ints [v]) (src_one _ _ _) (by unfold maxLen; omega) (by omega) (by exact Nat.le_trans HB.out (Ext.size (show Ext w2 _ by ((repeat (first | assumption | exact Ext.refl _ | (exact And.left (by assumption)) | refine Ext.alloc ?_ _ | refine Ext.drew ?_ | refine Ext.drewN ?_ _ | refine Ext.setCell ?_ (by simp) _ | refine Ext.setCell ?_ (by simp; omega) _ | refine Ext.trans ?_ (by assumption))); done)))) ?_; intro v1 Wv1 rv1; have RV := Lib.hid rv1; obtain ⟨a9, cap9, rfl, _, _⟩ := rv1.1.shape; clear rv1))
    have hRV : NewRow (w2.alloc (.cells #[.int .i64 v] 3)).drew Wv1 B 1 (.slice ao P.out.length co) (.slice a9 (P.out.length + 1) cap9) (P.out.length + 1) (ints P.out ++ ints [v]) := RV.out
    have hA : Ext w2 (w2.alloc (.cells #[.int .i64 v] 3)).drew := by ((repeat (first | assumption | exact Ext.refl _ | (exact And.left (by assumption)) | refine Ext.alloc ?_ _ | refine Ext.drew ?_ | refine Ext.drewN ?_ _ | refine Ext.setCell ?_ (by simp) _ | refine Ext.setCell ?_ (by simp; omega) _ | refine Ext.trans ?_ (by assumption))); done)
    obtain ⟨k0, k0'⟩ := (Cx.ext (W := w2) ⟨c2, c2'⟩ hA).chg hRV.2.1 (fun e => (HBO.out b e).1 rfl)
    obtain ⟨k1, k1'⟩ := (Cx.ext (W := w2) ⟨x0, x0'⟩ hA).chg hRV.2.1 (fun e => (HBO.out eb e).2 rfl)
    refine nextW_go (by exact ⟨k1, k0⟩) ?_
    refine tailW_step ?_
    go_wp2_with fail
    refine nextW_go (by exact ⟨k1, k0⟩) ?_
    refine tailW_step ?_
    go_wp2_with fail
    refine nextW_go (by exact ⟨k1, k0⟩) ?_
    refine tailW_step ?_
    go_wp2_with fail
    refine nextW_end ?_
    go_end0
    obtain ⟨r1, r2, r3⟩ := hRV
    have hfin := H.out.own.setOut (W1 := Wv1) (out := P.out ++ [v]) (v1 := .slice a9 (P.out.length + 1) cap9)
      ((Chg.of_ext hA).trans (r2.mono (fun k _ e => by rw [HEO.out]; exact e)))
      (by rw [List.length_append, List.length_singleton, ints_app]; exact r1) (fun k hk => by rcases List.mem_append.1 hk with h1 | h1; exact H.out.own.i.2 k h1; rw [List.mem_singleton.1 h1]; exact hv)
      (by rw [List.length_append, List.length_singleton]; omega) (r3.imp (fun e => by rw [HEO.out]; exact e) (fun e k hk => Nat.le_trans hA.size (e k hk)))
    refine ⟨rfl, Did.of ⟨⟨_, hfin.1, rfl, fun g hg => ?_⟩, hfin.2⟩⟩
    unfold PState.bl at hg
    rcases List.mem_append.1 hg with h1 | h1
    · rcases List.mem_append.1 h1 with h2 | h2
      · exact .inl (PState.mem_vfs (by simpa using h2))
      · have h3 : rowBlock (.slice a9 (P.out.length + 1) cap9) = some g := by simpa using h2
        rcases r3 with e | e
        · exact .inl (PState.mem_vo (by rw [HEO.out, ← e]; exact h3))
        · exact .inr (Nat.le_trans hA.size (e g h3))
    · obtain ⟨z, hz, h2⟩ := List.mem_flatMap.1 h1
      exact .inl (PState.mem_fs hz h2)

/-- Back to who has resumed the fiber. -/
theorem engBack_any {P : PState} {w : World} {B b eb : Nat} {p : List GFunc} {a : Option Addr} {cp : Nat} (h : EngS w B b eb p a cp P) (ht : 0 ≤ P.g.now ∧ P.g.now < P.g.fibers.length) (hr : Room P.g) (hc : HasTop { modFib P.g P.g.now (fun f => { f with caller := -1 }) with now := (curF P.g).caller } (curF P.g).caller) (v : Int) (hv : I64 v) :
    Calls Tryz.prog 211 #[.pointer (some ⟨eb, 0, none⟩), .int .i64 v] w fun e w' => e = .returned (.tuple #[]) ∧ Turn w w' B b P (backG P.g v) := by
  obtain ⟨L, y, R, hP, hn⟩ := hasFib (P := P) (n := P.now) ⟨ht.1, by have := ht.2; simpa [PState.g] using this⟩
  have hcur : (curF P.g).caller = y.caller := by rw [curF_at hP hn]; rfl
  rw [hcur] at hc
  obtain ⟨g, o, cap, hvf, hlt, d0, ⟨d1, d1'⟩, hbl⟩ := h.own.place hP
  obtain ⟨⟨c0, c0'⟩, ⟨k1, k1'⟩⟩ := (⟨h.own.c0, h.own.c1⟩ : _ ∧ _)
  obtain ⟨⟨x0, x0'⟩, -⟩ := h.eng
  rw [hvf] at c0
  rw [hn] at k1
  have hgb : ¬ g = b := fun e => h.own.dis.1 (e ▸ PState.mem_vfs hbl)
  have hge : ¬ eb = g := fun e => h.off (List.mem_cons_of_mem _ (e ▸ PState.mem_vfs hbl))
  have hbe : ¬ eb = b := fun e => h.off (by rw [e]; exact List.mem_cons_self)
  have hbg : ¬ b = g := fun e => hgb e.symm
  have H := Lib.hid h
  have HP := Lib.hid hP
  have HNW := Lib.hid hn
  have HVF := Lib.hid hvf
  have HC := Lib.hid hc
  have HR := Lib.hid hr
  have HCU := Lib.hid hcur
  clear h d0 hcur hc hr ht hn hP hvf
  have RA := alloc_keep
  generalize hL : L.length = n at *
  generalize hcl : y.caller = cl at *
  have HL := Lib.hid hL
  have HCL := Lib.hid hcl
  clear hL hcl
  go_enter Tryz.func211, Tryz.ntmps211
  go_upto_region 0 with fail
  refine wp_region_ext (by kernel_rfl) (by kernel_rfl) ?_
  repeat (first
    | go_big_quiet_skip
    | (go_big_quiet_want
       unfold Oper.quiet
       apply Exists.intro
       refine ⟨fun w' hw' => ?_, ?_⟩
       focus
         have hcq := Ext.keep hw'
         go_simp
         first
           | with_reducible rfl
           
       (try dsimp only [Act.put])
       (try simp only [List.setIfInBounds_toArray, List.set_cons_succ, List.set_cons_zero])
       go_big_quiet_on))
  refine wpQuiet_nil ?_
  intro wq hq
  obtain ⟨d1, d1'⟩ := Cx.ext (W := w) ⟨d1, d1'⟩ hq
  obtain ⟨k1, k1'⟩ := Cx.ext (W := w) ⟨k1, k1'⟩ hq
  obtain ⟨x0, x0'⟩ := Cx.ext (W := w) ⟨x0, x0'⟩ hq
  have HQ := Lib.hid hq
  clear hq
  go_upto_region 1 with fail
  refine wp_region_rt (fun w' => w'.cell? ⟨eb, 0, none⟩ = some (.pointer (some ⟨b, 0, none⟩)) ∧ w'.cell? ⟨g, o + n * 2 + 1, none⟩ = some (.int .i64 cl)) 14 [0, 1, 2, 3, 4, 5, 6, 7, 8, 9, 10] [11, 12, 13, 14] (by kernel_rfl) (by kernel_rfl) (fun _ _ _ _ _ h => h) (by exact ⟨x0, d1⟩) ?_
  (try simp only [pickOps, List.filterMap_cons, List.filterMap_nil, List.getElem?_cons_zero, List.getElem?_cons_succ])
  repeat (
    refine readsQ_do (by rfl) ?_
    apply Exists.intro
    refine ⟨fun w' hw' => ?_, ?_⟩
    focus
      (try dsimp only at hw')
      go_split_ands
      go_simp
      (try with_reducible rfl)
    (try dsimp only [Act.put])
    (try simp only [List.setIfInBounds_toArray, List.set_cons_succ, List.set_cons_zero]))
  refine readsQ_nil ?_
  refine tailW_step ?_
  go_wp2_with fail
  have e0 := (Cx.other (W := wq.drew) ⟨x0, x0'⟩ (b' := b) (j' := 1) (.inl hbe) (.int .i64 cl)).1
  have e1 := (Cx.other (W := wq.drew) ⟨d1, d1'⟩ (b' := b) (j' := 1) (.inl hgb) (.int .i64 cl)).1
  refine nextW_go (by exact ⟨e0, e1⟩) ?_
  refine tailW_step ?_
  go_wp2_with fail
  refine nextW_go (by exact ⟨e0, e1⟩) ?_
  refine tailW_step ?_
  go_wp2_with fail
  refine nextW_go (by exact ⟨e0, e1⟩) ?_
  refine tailW_step ?_
  go_wp2_with fail
  refine nextW_end ?_
  have hEq := HQ.out
  obtain ⟨P1, o1, g1, b1, ch1⟩ := (H.out.ext hEq).own.back HP.out (by rw [HL.out]; exact HNW.out) HVF.out
  rw [HL.out, HCL.out] at o1 ch1
  rw [HCL.out] at g1
  have hb1 : ∀ k ∈ P1.bl, k ∈ P.bl ∨ wq.heap.size ≤ k := fun k hk => .inl ((b1 k).1 hk)
  have HE1 := Lib.hid ((H.out.ext hEq).with ch1 o1 hb1)
  have CH1 := Lib.hid ((Chg.of_ext hEq).trans ch1)
  have HT1 : Hid (HasTop P1.g P1.g.now) := by unfold Hid; rw [g1]; exact HC.out
  have HR1 : Hid (Room P1.g) := by unfold Hid; rw [g1]; exact HR.out.caller _ _
  have HG : Hid (backG P.g v = pushG P1.g P1.g.now v) := by unfold Hid backG; rw [g1, HCU.out]
  have HB1 : Hid (∀ k ∈ P1.bl, k ∈ P.bl ∨ w.heap.size ≤ k) := fun k hk => .inl ((b1 k).1 hk)
  clear ch1 o1 g1 hb1
  obtain ⟨W0, hW0⟩ : ∃ W0, W0 = (wq.setCell ⟨b, 1, none⟩ (.int .i64 cl)).setCell ⟨g, o + n * 2 + 1, none⟩ (.int .i64 (-1)) := ⟨_, rfl⟩
  rw [← hW0] at HE1 CH1
  simp only [← hW0]
  clear hW0
  go_wp2_with (first
    | (go_at_call 159; (with_reducible refine (engPush_any (HE1.out.own.ext (by ((repeat (first | assumption | exact Ext.refl _ | (exact And.left (by assumption)) | refine Ext.alloc ?_ _ | refine Ext.drew ?_ | refine Ext.drewN ?_ _ | refine Ext.setCell ?_ (by simp) _ | refine Ext.setCell ?_ (by simp; omega) _ | refine Ext.trans ?_ (by assumption))); done))) (HE1.out.eng.ext (by ((repeat (first | assumption | exact Ext.refl _ | (exact And.left (by assumption)) | refine Ext.alloc ?_ _ | refine Ext.drew ?_ | refine Ext.drewN ?_ _ | refine Ext.setCell ?_ (by simp) _ | refine Ext.setCell ?_ (by simp; omega) _ | refine Ext.trans ?_ (by assumption))); done))) HT1.out HR1.out v hv (by simp)).mono ?_); rintro e w4 ⟨rfl, t4⟩))
  go_end0
  rw [HG.out]
  exact ⟨rfl, Turn.step CH1.out HB1.out (Turn.pre (show Ext W0 (W0.alloc (.cells #[.int .i64 v] 3)).drew by ((repeat (first | assumption | exact Ext.refl _ | (exact And.left (by assumption)) | refine Ext.alloc ?_ _ | refine Ext.drew ?_ | refine Ext.drewN ?_ _ | refine Ext.setCell ?_ (by simp) _ | refine Ext.setCell ?_ (by simp; omega) _ | refine Ext.trans ?_ (by assumption))); done)) t4)⟩

/-- Yield: a value to who has resumed the fiber. -/
theorem engYield_any {P : PState} {w : World} {B b eb : Nat} {p : List GFunc} {a : Option Addr} {cp : Nat} (h : EngS w B b eb p a cp P) (ht : HasTop P.g P.g.now) (hr : Room P.g) (hl : 1 ≤ (curX P.g).stack.length) (hb : BackFit (popG P.g)) :
    Calls Tryz.prog 198 #[.pointer (some ⟨eb, 0, none⟩)] w fun e w' => e = endS (yieldG P.g).1 ∧ Did w w' B b P (yieldG P.g) := by
  have hLI := h.own.lastI ht hl
  have H := Lib.hid h
  have HT := Lib.hid ht
  have HL := Lib.hid hl
  clear h
  have RA := alloc_keep
  generalize hv : lastV P.g = v at *
  have HV := Lib.hid hv
  go_enter Tryz.func198, Tryz.ntmps198
  go_upto_region 1 with (first
    | (go_at_call 161; (with_reducible refine (engOne_any H.out.own H.out.eng HT.out HL.out).mono ?_); rintro e w2 ⟨rfl, t2⟩; rw [HV.out]))
  clear hv
  obtain ⟨P1, h1, g1, s1, c1⟩ := H.out.turn t2
  have hr1 : Room P1.g := by rw [g1]; exact hr.pop
  have ht1 : HasTop P1.g P1.g.now := by rw [g1]; exact ht.pop
  rw [← g1] at hb
  have HY : Hid (yieldG P.g = if (curF P1.g).caller < 0 then (7, P.g) else (0, backG P1.g v)) := by unfold Hid yieldG; rw [← g1, HV.out]
  obtain ⟨L, y, R, F, x, hs, hn⟩ := hasSpot ht1
  have hn : P1.now = L.length := hn
  have hP := hs.fs
  have hcur : (curF P1.g).caller = y.caller := by rw [curF_at hP hn]; rfl
  rw [hcur] at HY
  obtain ⟨g, o, cap, hvf, hlt, d0, ⟨d1, d1'⟩, hbl⟩ := h1.own.place hP
  obtain ⟨⟨c0, c0'⟩, ⟨k1, k1'⟩⟩ := (⟨h1.own.c0, h1.own.c1⟩ : _ ∧ _)
  obtain ⟨⟨x0, x0'⟩, -⟩ := h1.eng
  rw [hn] at k1
  rw [hvf] at c0
  have H1 := Lib.hid h1
  have HB := Lib.hid hb
  have HC1 := Lib.hid c1
  have HS1 := Lib.hid s1
  have HR1 := Lib.hid hr1
  have HT1 := Lib.hid ht1
  have HCU := Lib.hid hcur
  clear hcur hvf hb hP hn hs ht1 h1 c1 s1 hr1 d0 hbl g1 hr ht hl HT HL t2
  generalize L.length = n at *
  generalize hcl : y.caller = cl at *
  have HCL := Lib.hid hcl
  clear hcl
  by_cases hc : cl < 0
  · have T : decide (0 ≤ cl) = false := decide_eq_false (by omega)
    have HYE : Hid (yieldG P.g = (7, P.g)) := by unfold Hid; rw [HY.out, if_pos hc]
    clear hc
    refine wp_region_ext_tail 18 (by kernel_rfl) (by kernel_rfl) ?_
    simp only [List.take_succ_cons, List.take_zero, List.drop_succ_cons, List.drop_zero]
    repeat (first
      | go_big_quiet_skip
      | (go_big_quiet_want
         unfold Oper.quiet
         apply Exists.intro
         refine ⟨fun w' hw' => ?_, ?_⟩
         focus
           have hcq := Ext.keep hw'
           go_simp
           first
             | with_reducible rfl
             
         (try dsimp only [Act.put])
         (try simp only [List.setIfInBounds_toArray, List.set_cons_succ, List.set_cons_zero])
         go_big_quiet_on))
    refine wpQuiet_nil ?_
    intro wq hq
    go_wp2_with (first
      | (go_at_call 210; (with_reducible refine (stepMust_any _ _ _).mono ?_); rintro e w3 ⟨he, rfl⟩; simp only [mustS] at he; subst he))
    rw [HYE.out]
    exact ⟨rfl, rfl, ⟨HC1.out.trans (Chg.of_ext hq), fun h => by cases h⟩⟩
  · have T : decide (0 ≤ cl) = true := decide_eq_true (by omega)
    have HYE : Hid (yieldG P.g = (0, backG P1.g v)) := by unfold Hid; rw [HY.out, if_neg hc]
    have hbf := HB.out.resolve_left (by rw [HCU.out]; exact hc)
    have HBF := Lib.hid hbf
    have HTF : Hid (0 ≤ P1.g.now ∧ P1.g.now < P1.g.fibers.length) := ⟨HT1.out.1, HT1.out.2.1⟩
    clear hc hbf
    refine wp_region_ext_tail 18 (by kernel_rfl) (by kernel_rfl) ?_
    simp only [List.take_succ_cons, List.take_zero, List.drop_succ_cons, List.drop_zero]
    repeat (first
      | go_big_quiet_skip
      | (go_big_quiet_want
         unfold Oper.quiet
         apply Exists.intro
         refine ⟨fun w' hw' => ?_, ?_⟩
         focus
           have hcq := Ext.keep hw'
           go_simp
           first
             | with_reducible rfl
             
         (try dsimp only [Act.put])
         (try simp only [List.setIfInBounds_toArray, List.set_cons_succ, List.set_cons_zero])
         go_big_quiet_on))
    refine wpQuiet_nil ?_
    intro wq hq
    have H2 := Lib.hid (H1.out.ext hq)
    go_wp2_with (first
      | (go_at_call 210; (with_reducible refine (stepMust_any _ _ _).mono ?_); rintro e w3 ⟨he, rfl⟩; simp only [mustS] at he; subst he)
      | (go_at_call 211; (with_reducible refine (engBack_any H2.out HTF.out HR1.out HBF.out v hLI).mono ?_); rintro e w4 ⟨rfl, t4⟩))
    go_end0
    rw [HYE.out]
    exact ⟨rfl, Did.of (Turn.step (HC1.out.trans (Chg.of_ext hq)) HS1.out t4)⟩
end Go.Proofs.YtpcjkfppacnkgaaGreatDoor
end
section
/- The engine of package step: a new frame, call. -/
set_option maxHeartbeats 4000000
set_option maxRecDepth 100000
namespace Go.Proofs.YtpcjkfppacnkgaaGreatDoor
open Go Go.RowKit

/-- A frame that is new, its locals of its own. -/
theorem frameO_any (p : List GFunc) (v : Value) (S : Nat → Prop) (n N : Nat) (w : World) (hp : Funcs w S v p) (hn : n < p.length) (hN : (funcOf p n).locals = N) (hN9 : N ≤ 900) :
    Calls Tryz.prog 68 #[v, .int .i64 n] w fun e w' => (∃ g, e = .returned (.agg #[.int .i64 n, .int .i64 0, .slice (some ⟨g, 0, none⟩) N N, .slice none 0 0]) ∧ RowAt w' w.heap.size 1 (.slice (some ⟨g, 0, none⟩) N N) N (ints (List.replicate N 0)) ∧ w.heap.size ≤ g) ∧ Ext w w' := by
  have hF : funcOf p n = p[n] := by unfold funcOf; simp [List.getD, List.getElem?_eq_getElem hn]
  rw [hF] at hN
  obtain ⟨b, o, cap, rfl, hcap, hby, _, ⟨_, hL, iL⟩, _⟩ := hp.get hn
  rw [hN] at hL
  obtain ⟨i0, hi0, hz0, hz1, hz2⟩ := info_parts infoI
  have RA := alloc_keep
  have c0 := Lib.hid (Cx.new w [.int .i64 0, .int .i64 0, .slice none 0 0, .slice none 0 0] 108 (j := 0) rfl)
  have c1 := Lib.hid (Cx.new w [.int .i64 0, .int .i64 0, .slice none 0 0, .slice none 0 0] 108 (j := 1) rfl)
  have c2 := Lib.hid (Cx.new w [.int .i64 0, .int .i64 0, .slice none 0 0, .slice none 0 0] 108 (j := 2) rfl)
  have c3 := Lib.hid (Cx.new w [.int .i64 0, .int .i64 0, .slice none 0 0, .slice none 0 0] 108 (j := 3) rfl)
  clear hp hN hF
  go_enter Tryz.func68, Tryz.ntmps68
  go_wp2_with (first
    | (at_make; refine wpList_make_full _ rfl _ _ 30 rfl (w.heap.size + 1) 3 i0 (.int .i64 0) 1 Tryz.underlying30 hi0 hz0 hz1 .i64 .i64 _ _ N rfl rfl rfl rfl (by rw [hz2]; omega) (by unfold maxLen; omega) (by simp) ?_; intro w3 hown3 hgr3; have hE3 := ext_none hgr3; have hrow := IRow.made hown3; obtain ⟨⟨d0, d0'⟩, ⟨d1, d1'⟩, ⟨d2, d2'⟩, ⟨d3, d3'⟩⟩ := (⟨c0.out.ext hE3, c1.out.ext hE3, c2.out.ext hE3, c3.out.ext hE3⟩ : _ ∧ _ ∧ _ ∧ _)))
  have hs1 : (w.alloc (.cells #[.int .i64 0, .int .i64 0, .slice none 0 0, .slice none 0 0] 108)).heap.size = w.heap.size + 1 := Array.size_push _
  rw [hs1] at hrow
  refine bodyPost_ret (results_cell_mid rfl _ _ w.heap.size 0 _ _ rfl (box4 ⟨d0, d0'⟩ ⟨d1, d1'⟩ ⟨d2, d2'⟩ ⟨d3, d3'⟩ _ _ _ _) rfl rfl (by kernel_rfl)) rfl ?_
  refine ⟨⟨w.heap.size + 1, rfl, ?_, by omega⟩, ext4 (((Ext.refl w).alloc _).trans hE3) _ _ _ _⟩
  have h9 := hrow.chg (chg4 w3 w.heap.size (.int .i64 n) (.int .i64 0) (.slice (some ⟨w.heap.size + 1, 0, none⟩) N N) (.slice none 0 0)) (by omega)
  have h9 := h9.mono (base' := w.heap.size) (by omega)
  unfold IRow at h9
  rwa [List.length_replicate] at h9

/-- copy of ints to the front of a row of ints. -/
theorem copy_row {w : World} {base gl N A c1 : Nat} {a1 : Option Addr} {S : Nat → Prop} {l r : List Int} (hd : RowAt w base 1 (.slice (some ⟨gl, 0, none⟩) N N) N (ints r)) (hs : Ints w S (.slice a1 A c1) l) (hA : A ≤ N) :
    ∃ w9, (∀ ty, (Builtin.copy_ #[30, 30] ty #[.slice (some ⟨gl, 0, none⟩) N N, .slice a1 A c1]).run Tryz.prog w = .ok (goInt A) w9) ∧ RowAt w9 base 1 (.slice (some ⟨gl, 0, none⟩) N N) N (ints (l ++ r.drop A)) ∧ Chg (fun k => k = gl ∧ 0 < A) w w9 := by
  have hsrc := hs.srcV
  obtain ⟨a', c', e, _, _, _⟩ := hs
  simp only [Value.slice.injEq] at e
  obtain ⟨-, hlen, -⟩ := e
  subst hlen
  have hsz : (Tryz.prog.info? 3).map (·.size) = some 1 := infoIs
  rcases Nat.eq_zero_or_pos l.length with h0 | h0
  · have hl : l = [] := List.eq_nil_of_length_eq_zero h0
    subst hl
    refine ⟨w, fun ty => ?_, by simpa using hd, Chg.refl _ _⟩
    exact run_copy_none w _ _ ty _ _ _ _ _ _ _ Tryz.underlying30 hsz (by simp)
  · obtain ⟨a2, c2, e, hnl, hone, hsr⟩ := hsrc
    simp only [Value.slice.injEq, true_and] at e
    obtain ⟨rfl, rfl⟩ := e
    obtain ⟨ad, rfl, hcell⟩ := hsr.resolve_left (by omega)
    obtain ⟨hxl, a3, c3, e, h1, h2, h3⟩ := hd
    simp only [Value.slice.injEq, true_and] at e
    obtain ⟨rfl, rfl⟩ := e
    obtain ⟨g, o, e, hb, hc, ht⟩ := h3.resolve_left (by omega)
    simp only [Option.some.injEq, Addr.mk.injEq] at e
    obtain ⟨rfl, rfl, -⟩ := e
    have hrl : r.length = N := by rw [ints_len] at hxl; omega
    have hsm : ∀ j, j < (ints l).length → (w.cell? ⟨gl, 0 + j, none⟩).isSome = true := fun j hj => (ht j (by rw [ints_len] at hj; omega)).1
    refine ⟨w.setCells gl 0 (ints l), fun ty => ?_, ?_, Chg.setCells (M := fun k => k = gl ∧ 0 < l.length) (Chg.refl _ _) (.inl ⟨rfl, h0⟩) 0 _⟩
    · have := run_copy_cells w 30 30 ty 3 gl 0 N N ad l.length c1 (ints l) Tryz.underlying30 hsz (by rw [ints_len]; exact (Nat.min_eq_left hA).symm) (fun j v hj => hcell j v hj) hsm (fun j hj => (ht j (by rw [ints_len] at hj; omega)).2) hone
      rw [ints_len] at this
      exact this
    · refine ⟨by rw [ints_len, List.length_append, List.length_drop]; omega, _, _, rfl, Nat.le_refl _, h2, .inr ⟨gl, 0, rfl, hb, fun j hj => ?_, fun j hj => ?_⟩⟩
      · rw [ints_app]
        by_cases hjl : j < l.length
        · rw [List.getElem?_append_left (by rw [ints_len]; exact hjl), World.cell?_setCells_in gl (ints l) 0 w hsm j (by rw [ints_len]; exact hjl), List.getElem?_eq_getElem]
        · rw [List.getElem?_append_right (by rw [ints_len]; omega), World.cell?_setCells_out gl (ints l) 0 w ⟨gl, 0 + j, none⟩ (fun _ _ => .inr (by rw [ints_len]; show 0 + l.length ≤ 0 + j; omega)), hc j hj, ints_len]
          unfold Proofs.YtpcjkfppacnkgaaGreatDoor.ints
          rw [List.getElem?_map, List.getElem?_map, List.getElem?_drop]
          congr 2
          omega
      · have := ht j hj
        rw [World.frozen?_setCells]
        refine ⟨?_, this.2⟩
        by_cases hjl : j < l.length
        · rw [World.cell?_setCells_in gl (ints l) 0 w hsm j (by rw [ints_len]; exact hjl)]; rfl
        · rw [World.cell?_setCells_out gl (ints l) 0 w ⟨gl, 0 + j, none⟩ (fun _ _ => .inr (by rw [ints_len]; show 0 + l.length ≤ 0 + j; omega))]; exact this.1
end Go.Proofs.YtpcjkfppacnkgaaGreatDoor
end
section
/- The engine of package step: call. -/
set_option maxHeartbeats 4000000
set_option maxRecDepth 100000
namespace Go.Proofs.YtpcjkfppacnkgaaGreatDoor
open Go Go.RowKit

theorem call_end {w wq Wm Wv : World} {B b : Nat} {P P' : PState} {p : List GFunc} {n : Int} {gl N j : Nat} {L R : List PFiber} {y : PFiber} {F : List PFrame} {x : PFrame} {g o nn cap : Nat} {v1 : Value} (own : OwnS wq B b P') (hg : P'.g = leaveG P.g j) (hbl : ∀ k ∈ P'.bl, k ∈ P.bl ∨ w.heap.size ≤ k) (hch : Chg (· ∈ b :: P.bl) w wq) (nl : 0 < N → gl ∉ b :: P'.bl) (hrow : RowAt wq w.heap.size 1 (.slice (some ⟨gl, 0, none⟩) N N) N (ints (argsOf p P.g n j)))
    (hs : Spot P' L y R F x) (hnw : P'.now = L.length) (hv : P'.vfs = .slice (some ⟨g, o, none⟩) nn cap) (hRV : NewRow Wm Wv B 4 y.vf v1 (y.fr.length + 1) (y.fr.flatMap frameF ++ [.int .i64 n, .int .i64 0, .slice (some ⟨gl, 0, none⟩) N N, .slice none 0 0]))
    (hE : Ext wq Wm) (h9 : y.fr.length < 1000) (hgl : w.heap.size ≤ gl) (hB : B ≤ w.heap.size) (hlg : 0 < N → gl < wq.heap.size) (hI : I64 n) (hA : ∀ k ∈ argsOf p P.g n j, I64 k) (hlen : (argsOf p P.g n j).length = N) (hN : N ≤ 1000) :
    Did w (Wv.setCell ⟨g, o + L.length * 2, none⟩ v1) B b P (0, modFib (leaveG P.g j) P.g.now fun f => { f with frames := f.frames ++ [⟨n, 0, argsOf p P.g n j, []⟩] }) := by
  obtain ⟨r1, r2, r3⟩ := hRV
  have hym : y ∈ P'.fs := by rw [hs.fs]; simp
  have hyb : ∀ k, rowBlock y.vf = some k → k ∈ P'.bl := fun k hk => PState.mem_fs hym (by unfold PFiber.bl; simp [hk])
  have hvb : ∀ k, rowBlock (.slice (some ⟨gl, 0, none⟩) N N) = some k → k = gl ∧ 0 < N := fun k hk => by
    by_cases h0 : N = 0
    · subst h0; simp [rowBlock] at hk
    · rw [rowBlock_some _ _ _ _ h0] at hk; cases hk; exact ⟨rfl, by omega⟩
  let X : PFrame := ⟨⟨n, 0, argsOf p P.g n j, []⟩, .slice (some ⟨gl, 0, none⟩) N N, .slice none 0 0⟩
  have hXbl : ∀ k ∈ X.bl, k = gl ∧ 0 < N := fun k hk => by
    unfold PFrame.bl at hk
    rcases List.mem_append.1 hk with h1 | h1
    · exact hvb k (by simpa using h1)
    · simp [X, rowBlock] at h1
  have hXO : FrameO Wv B X := by
    refine ⟨⟨hI, I64.zero, hA, fun k hk => by cases hk⟩, ?_, RowAt.nil _ _ _ _, ⟨by show (argsOf p P.g n j).length ≤ 1000; omega, by show 0 ≤ 1000; omega⟩⟩
    show RowAt Wv B 1 (.slice (some ⟨gl, 0, none⟩) N N) (argsOf p P.g n j).length (ints (argsOf p P.g n j))
    rw [hlen]
    refine ((hrow.mono hB).ext hE (by decide)).chg r2 (fun k hk e => ?_) (by decide)
    obtain ⟨rfl, h0⟩ := hvb k hk
    exact nl h0 (List.mem_cons_of_mem _ (hyb _ e))
  have hcg : Chg (fun k => rowBlock y.vf = some k) wq Wv := (Chg.of_ext hE).trans r2
  have hv1 : rowBlock v1 = rowBlock y.vf ∨ ∀ k, rowBlock v1 = some k → wq.heap.size ≤ k := r3.imp id fun e k hk => Nat.le_trans hE.size (e k hk)
  obtain ⟨o9, c9⟩ := own.addFrame (x := X) hs.fs hv hcg (by
      have e : (y.fr ++ [X]).flatMap frameF = y.fr.flatMap frameF ++ [.int .i64 n, .int .i64 0, .slice (some ⟨gl, 0, none⟩) N N, .slice none 0 0] := by rw [List.flatMap_append]; rfl
      rw [e, List.length_append, List.length_singleton]; exact r1) hXO h9 hv1 (by
      show ((rowBlock (.slice (some ⟨gl, 0, none⟩) N N)).toList ++ (rowBlock (.slice none 0 0)).toList).Nodup
      cases rowBlock (.slice (some ⟨gl, 0, none⟩) N N) <;> simp [rowBlock]) (fun k hk => by
      obtain ⟨rfl, h0⟩ := hXbl k hk
      refine ⟨nl h0, fun e => ?_⟩
      rcases hv1 with h1 | h1
      · exact nl h0 (List.mem_cons_of_mem _ (hyb _ (h1 ▸ e)))
      · have := h1 _ e; have := hlg h0; omega)
  refine Did.of ⟨⟨_, o9, ?_, fun k hk => ?_⟩, hch.trans' c9 fun k hk hm => ?_⟩
  · rw [← hg]
    refine (modFib_at hs.fs (n := P.g.now) ?_ ?_).symm
    · have e : P'.g.now = P.g.now := by rw [hg]; rfl
      rw [← e]; exact hnw
    · unfold PFiber.g
      simp [X]
  · unfold PState.bl at hk
    simp only [List.flatMap_append, List.flatMap_cons, List.mem_append] at hk
    have hback : k ∈ P'.bl → k ∈ P.bl ∨ w.heap.size ≤ k := hbl k
    rcases hk with (h3 | h3) | h3 | h3 | h3
    · exact hback (PState.mem_vfs (by simpa using h3))
    · exact hback (PState.mem_vo (by simpa using h3))
    · obtain ⟨z, hz, h4⟩ := List.mem_flatMap.1 h3
      exact hback (PState.mem_fs (y := z) (by rw [hs.fs]; simp [hz]) h4)
    · unfold PFiber.bl at h3
      simp only [List.flatMap_append, List.mem_append] at h3
      rcases h3 with h4 | h4 | h4
      · have h5 : rowBlock v1 = some k := by simpa using h4
        rcases hv1 with h6 | h6
        · exact hback (hyb k (h6 ▸ h5))
        · exact .inr (Nat.le_trans hch.size (h6 k h5))
      · refine hback (PState.mem_fs hym ?_)
        unfold PFiber.bl
        exact List.mem_append.2 (.inr h4)
      · have h5 : k ∈ X.bl := by simpa using h4
        exact .inr (by rw [(hXbl k h5).1]; exact hgl)
    · obtain ⟨z, hz, h4⟩ := List.mem_flatMap.1 h3
      exact hback (PState.mem_fs (y := z) (by rw [hs.fs]; simp [hz]) h4)
  · rcases hbl k hm with h1 | h1
    · exact List.mem_cons_of_mem _ h1
    · omega

theorem argsOf_all (p : List GFunc) (s : GState) (a : Int) (A N : Nat) (hA : (funcOf p a).args = A) (hN : (funcOf p a).locals = N) : argsOf p s a A = (curX s).stack.drop ((curX s).stack.length - A) ++ (List.replicate N 0).drop A := by
  unfold argsOf
  rw [hA, hN, List.drop_replicate]
  simp

theorem engCall_any (n : Nat) {P : PState} {w : World} {B b eb : Nat} {p : List GFunc} {a : Option Addr} {cp : Nat} (h : EngS w B b eb p a cp P) (hp : Funcs w (· < B) (.slice a p.length cp) p) (ht : HasTop P.g P.g.now) (h6 : (curF P.g).frames.length ≤ 6) (hb : CallFit p P.g n) :
    Calls Tryz.prog 194 #[.pointer (some ⟨eb, 0, none⟩), .int .i64 n] w fun e w' => e = endS (callG p P.g n).1 ∧ Did w w' B b P (callG p P.g n) := by
  obtain ⟨-, hn, hA0, hAL, hL9, hst⟩ := hb
  have hn : n < p.length := by omega
  have hF : funcOf p n = p[n] := by unfold funcOf; simp [List.getD, List.getElem?_eq_getElem hn]
  obtain ⟨A, hA⟩ : ∃ A : Nat, (funcOf p n).args = A := ⟨(funcOf p n).args.toNat, by omega⟩
  obtain ⟨N, hN⟩ : ∃ N : Nat, (funcOf p n).locals = N := ⟨(funcOf p n).locals.toNat, by omega⟩
  obtain ⟨bp, op, cap, ep, hcap, hby, ⟨hpB, hpA, _⟩, _⟩ := hp.get hn
  simp only [Value.slice.injEq, true_and] at ep
  obtain ⟨rfl, rfl⟩ := ep
  rw [← hF, hA] at hpA
  have hpB : bp < B := hpB
  have hAN : A ≤ N := by omega
  have hAs : A ≤ (curX P.g).stack.length := by omega
  have hN9 : N ≤ 900 := by omega
  have hAt : (funcOf p n).args.toNat = A := by omega
  obtain ⟨L, y, R, F, x, hs, hnw⟩ := hasSpot ht
  have hnw : P.now = L.length := hnw
  obtain ⟨g, o, cap2, hvf, hlt, d0, -, hbl⟩ := h.own.place hs.fs
  have hym : y ∈ P.fs := by rw [hs.fs]; simp
  obtain ⟨ay, cy, ey, hcy, _⟩ := (h.own.fs y hym).row.shape
  rw [ey] at d0
  obtain ⟨d0, d0'⟩ := d0
  obtain ⟨⟨c0, c0'⟩, ⟨k1, k1'⟩⟩ := (⟨h.own.c0, h.own.c1⟩ : _ ∧ _)
  obtain ⟨⟨x0, x0'⟩, ⟨x1, x1'⟩⟩ := h.eng
  rw [hnw] at k1
  rw [hvf] at c0
  have hfl : (curF P.g).frames.length = y.fr.length := by rw [curF_at hs.fs hnw]; unfold PFiber.g; simp
  rw [hfl] at h6
  have hG : callG p P.g n = if y.fr.length = 6 then (2, P.g) else (0, modFib (leaveG P.g A) P.g.now fun f => { f with frames := f.frames ++ [⟨n, 0, argsOf p P.g n A, []⟩] }) := by unfold callG; rw [hfl, hAt]
  have H := Lib.hid h
  have HP := Lib.hid hp
  have HT := Lib.hid ht
  have HA := Lib.hid hA
  have HN := Lib.hid hN
  have HAS := Lib.hid hAs
  have HG := Lib.hid hG
  have HB : Hid (B ≤ w.heap.size) := Nat.le_trans h.own.le (Nat.le_of_lt h.own.c0.lt)
  have HS := Lib.hid hs
  have HNW := Lib.hid hnw
  obtain ⟨i0, hi0, hz0, hz1, hz2⟩ := info_parts infoI
  have RA := alloc_keep
  clear h hp ht hF hA0 hAL hL9 hA hN hAt hst hG hs hnw hvf ey hbl hym hfl hcy hAs
  go_enter Tryz.func194, Tryz.ntmps194
  go_upto_region 0 with fail
  rcases Nat.lt_or_ge y.fr.length 6 with h5 | h5
  · have T6 : decide (((y.fr.length : Nat) : Int) < 6) = true := decide_eq_true (by omega)
    have HGE : Hid (callG p P.g n = (0, modFib (leaveG P.g A) P.g.now fun f => { f with frames := f.frames ++ [⟨n, 0, argsOf p P.g n A, []⟩] })) := by unfold Hid; rw [HG.out, if_neg (by omega)]
    clear h5 HG
    refine wp_region_ext_tail 19 (by kernel_rfl) (by kernel_rfl) ?_
    simp only [List.take_succ_cons, List.take_zero, List.drop_succ_cons, List.drop_zero]
    repeat (first
      | go_big_quiet_skip
      | (go_big_quiet_want
         unfold Oper.quiet
         apply Exists.intro
         refine ⟨fun w' hw' => ?_, ?_⟩
         focus
           have hcq := Ext.keep hw'
           go_simp
           first
             | with_reducible rfl
             
         (try dsimp only [Act.put])
         (try simp only [List.setIfInBounds_toArray, List.set_cons_succ, List.set_cons_zero])
         go_big_quiet_on))
    refine wpQuiet_nil ?_
    intro wq hq
    have HQ := Lib.hid hq
    obtain ⟨y1, y1'⟩ := Cx.ext (W := w) ⟨x1, x1'⟩ hq
    have HPQ := Lib.hid (Funcs.stays (Ext.stays hq) HP.out)
    clear hq
    go_upto_region 2 with (first
      | (go_at_call 210; (with_reducible refine (stepMust_any _ _ _).mono ?_); rintro e w3 ⟨he, rfl⟩; simp only [mustS] at he; subst he)
      | (go_at_call 68; (with_reducible refine (frameO_any p _ (· < B) n N _ HPQ.out hn HN.out hN9).mono ?_); rintro e w4 ⟨⟨gl, rfl, hrow4, hgl4⟩, hx4⟩))
    have hbx4 : 0 < N → gl < w4.heap.size := fun h0 => hrow4.lt2 (by decide) _ (rowBlock_some _ _ _ _ (by omega))
    obtain ⟨W5, hW5⟩ : ∃ W5, W5 = w4.alloc (.cells #[.int .i64 n, .int .i64 0, .slice (some ⟨gl, 0, none⟩) N N, .slice none 0 0] 108) := ⟨_, rfl⟩
    have hE5 : Ext w4 W5 := by rw [hW5]; exact (Ext.refl _).alloc _
    have q0 : Cx W5 w4.heap.size 0 (.int .i64 n) := by rw [hW5]; exact Cx.new w4 [.int .i64 n, .int .i64 0, .slice (some ⟨gl, 0, none⟩) N N, .slice none 0 0] _ (j := 0) rfl
    have q1 : Cx W5 w4.heap.size 1 (.int .i64 0) := by rw [hW5]; exact Cx.new w4 [.int .i64 n, .int .i64 0, .slice (some ⟨gl, 0, none⟩) N N, .slice none 0 0] _ (j := 1) rfl
    have q2 : Cx W5 w4.heap.size 2 (.slice (some ⟨gl, 0, none⟩) N N) := by rw [hW5]; exact Cx.new w4 [.int .i64 n, .int .i64 0, .slice (some ⟨gl, 0, none⟩) N N, .slice none 0 0] _ (j := 2) rfl
    have q3 : Cx W5 w4.heap.size 3 (.slice none 0 0) := by rw [hW5]; exact Cx.new w4 [.int .i64 n, .int .i64 0, .slice (some ⟨gl, 0, none⟩) N N, .slice none 0 0] _ (j := 3) rfl
    simp only [← hW5]
    have HE5 := Lib.hid ((HQ.out.trans hx4).trans hE5)
    have HR5 := Lib.hid (hrow4.ext hE5 (by decide))
    have HGL : Hid (w.heap.size ≤ gl ∧ w.heap.size ≤ w3.heap.size ∧ w.heap.size ≤ w4.heap.size ∧ w4.heap.size < W5.heap.size ∧ (0 < N → gl < w4.heap.size)) := ⟨Nat.le_trans HQ.out.size hgl4, HQ.out.size, (HQ.out.trans hx4).size, q0.lt, hbx4⟩
    have Q5 := Lib.hid (⟨q0, q1, q2, q3⟩ : _ ∧ _ ∧ _ ∧ _)
    clear hW5 hE5 hrow4 hgl4 hx4 hbx4 q0 q1 q3 HPQ y1 y1'
    generalize w4.heap.size = bx at *
    have H5 := Lib.hid (H.out.ext HE5.out)
    obtain ⟨q2, q2'⟩ := q2
    obtain ⟨y1, y1'⟩ := Cx.ext (W := w) ⟨x1, x1'⟩ HE5.out
    have hpA5 := Ext.cell HE5.out hpA
    refine wp_region_rtt (fun w' => w'.cell? ⟨bx, 2, none⟩ = some (.slice (some ⟨gl, 0, none⟩) N N) ∧ w'.cell? ⟨eb, 1, none⟩ = some (.slice (some ⟨bp, op, none⟩) p.length cp) ∧ w'.cell? ⟨bp, op + n * 3, none⟩ = some (.int .i64 A)) 12 [0, 1, 2, 3, 4, 5, 6, 7, 8, 9, 10] [11, 12] (by kernel_rfl) (by kernel_rfl) (fun _ _ _ _ _ h => h) (by exact ⟨q2, y1, hpA5⟩) ?_
    (try simp only [pickOps, List.filterMap_cons, List.filterMap_nil, List.getElem?_cons_zero, List.getElem?_cons_succ])
    repeat (
      refine readsQ_do (by rfl) ?_
      apply Exists.intro
      refine ⟨fun w' hw' => ?_, ?_⟩
      focus
        (try dsimp only at hw')
        go_split_ands
        go_simp
        (try with_reducible rfl)
      (try dsimp only [Act.put])
      (try simp only [List.setIfInBounds_toArray, List.set_cons_succ, List.set_cons_zero]))
    refine readsQ_nil ?_
    have HBXO : Hid (bx ∉ b :: P.bl) := fun hm => by have := H.out.own.lt _ hm; have := HGL.out; omega
    have HBPO : Hid (bp ∉ b :: P.bl) := fun hm => by have := H.out.own.ge _ hm; omega
    refine tailW_step ?_
    go_wp2_with (first
      | (go_at_call 160; (with_reducible refine (engPull_any (H5.out.own.ext (Ext.refl _).drew) (H5.out.eng.ext (Ext.refl _).drew) HT.out A HAS.out).mono ?_); rintro e w6 ⟨v1, rfl, hv1, t6⟩))
    have hd6 : W5.drew.heap.size = W5.heap.size := rfl
    obtain ⟨P2, h2, g2, bl2, ch2⟩ := (H5.out.ext (Ext.refl W5).drew).turn t6
    rw [hd6] at bl2
    have hE6 : Ext W5 W5.drew := (Ext.refl _).drew
    have z2 := Cx.chg (Cx.ext (W := W5) ⟨q2, q2'⟩ hE6) ch2 HBXO.out
    have z1 := Cx.chg (Cx.ext (W := W5) ⟨y1, y1'⟩ hE6) ch2 H.out.off
    have zA := Chg.cell ch2 HBPO.out (Ext.cell hE6 hpA5)
    obtain ⟨a1, c1, e1, _, _, _⟩ := id hv1
    have hdl : ((curX P.g).stack.drop ((curX P.g).stack.length - A)).length = A := by rw [List.length_drop]; have := HAS.out; omega
    rw [hdl] at e1
    subst e1
    have hr6 := (HR5.out.ext hE6 (by decide)).chg ch2 (fun k hk e => by
      have h0 : 0 < N := by
        rcases Nat.eq_zero_or_pos N with h0 | h0
        · subst h0; simp [rowBlock] at hk
        · exact h0
      rw [rowBlock_some _ _ _ _ (by omega)] at hk
      cases hk
      have := H.out.own.lt _ e
      have := HGL.out.1
      omega) (by decide)
    obtain ⟨w9, hcp, hr9, hc9⟩ := copy_row hr6 hv1 hAN
    refine nextW_go (by exact ⟨z2.1, z1.1, zA⟩) ?_
    refine tailW_step ?_
    go_wp2_with fail
    refine nextW_end ?_
    have hgn : ∀ k, k = gl ∧ 0 < A → k ∉ b :: P2.bl ∧ k ≠ eb ∧ k ≠ bx := fun k ⟨hk, h0⟩ => by
      subst hk
      have h1 := HGL.out
      refine ⟨fun hm => ?_, fun e => ?_, by omega⟩
      · rcases List.mem_cons.1 hm with e | e
        · have := H.out.own.lt _ (show k ∈ b :: P.bl by rw [e]; exact List.mem_cons_self); omega
        · rcases bl2 k e with e | e
          · have := H.out.own.lt _ (List.mem_cons_of_mem _ e); omega
          · omega
      · have := H.out.eng.e0.lt; omega
    have hnl : 0 < N → gl ∉ b :: P2.bl := fun h0 hm => by
      have h1 := HGL.out
      rcases List.mem_cons.1 hm with e | e
      · have := H.out.own.lt _ (show gl ∈ b :: P.bl by rw [e]; exact List.mem_cons_self); omega
      · rcases bl2 gl e with e | e
        · have := H.out.own.lt _ (List.mem_cons_of_mem _ e); omega
        · omega
    have h9 : EngS w9 B b eb p (some ⟨bp, op, none⟩) cp P2 := ⟨h2.own.chg hc9 (fun e => (hgn b e).1 List.mem_cons_self) (fun k hk e => (hgn k e).1 (List.mem_cons_of_mem _ hk)), h2.eng.chg hc9 (fun e => (hgn eb e).2.1 rfl), h2.off⟩
    have hch9 : Chg (· ∈ b :: P.bl) w w9 := ((Chg.of_ext (HE5.out.trans hE6)).trans ch2).trans' hc9 (fun k hk e => by have := HGL.out.1; have := e.1; omega)
    obtain ⟨⟨b0, b0'⟩, ⟨b1, b1'⟩, ⟨b2, b2'⟩, ⟨b3, b3'⟩⟩ := (⟨((Q5.out.1.ext hE6).chg ch2 HBXO.out).chg hc9 (fun e => (hgn bx e).2.2 rfl), ((Q5.out.2.1.ext hE6).chg ch2 HBXO.out).chg hc9 (fun e => (hgn bx e).2.2 rfl), ((Q5.out.2.2.1.ext hE6).chg ch2 HBXO.out).chg hc9 (fun e => (hgn bx e).2.2 rfl), ((Q5.out.2.2.2.ext hE6).chg ch2 HBXO.out).chg hc9 (fun e => (hgn bx e).2.2 rfl)⟩ : _ ∧ _ ∧ _ ∧ _)
    have hT2 : HasTop P2.g P2.g.now := by rw [g2]; exact HT.out.leave _
    obtain ⟨L2, y2, R2, F2, x2, hs2, hnw2⟩ := hasSpot hT2
    have hnw2 : P2.now = L2.length := hnw2
    obtain ⟨gv, ov, cap3, hvf2, hlt2, e0, -, hbl2⟩ := h9.own.place hs2.fs
    have hym2 : y2 ∈ P2.fs := by rw [hs2.fs]; simp
    obtain ⟨ay2, cy2, ey2, hcy2, _⟩ := (h9.own.fs y2 hym2).row.shape
    have hfew2 := (h9.own.fs y2 hym2).few
    have hle2 : y2.fr.length < 1000 := by
      have e1 : (curF P2.g).frames.length = y2.fr.length := by rw [curF_at hs2.fs hnw2]; unfold PFiber.g; simp
      have e2 : (curF P2.g).frames.length = (curF P.g).frames.length := by rw [g2]; exact curF_frames P.g HT.out _
      have e3 : (curF P.g).frames.length = y.fr.length := by rw [curF_at HS.out.fs HNW.out]; unfold PFiber.g; simp
      omega
    obtain ⟨⟨f0, f0'⟩, ⟨f1, f1'⟩⟩ := (⟨h9.own.c0, h9.own.c1⟩ : _ ∧ _)
    obtain ⟨⟨u0, u0'⟩, -⟩ := h9.eng
    rw [hnw2] at f1
    rw [hvf2] at f0
    rw [ey2] at e0
    obtain ⟨e0, e0'⟩ := e0
    have H9 := Lib.hid h9
    have G2 := Lib.hid g2
    have BL2 : Hid (∀ k ∈ P2.bl, k ∈ P.bl ∨ w.heap.size ≤ k) := fun k hk => (bl2 k hk).imp id (fun h => by have := HGL.out; omega)
    have CH9 := Lib.hid hch9
    have NL := Lib.hid hnl
    have HR9 := Lib.hid hr9
    have HS2 := Lib.hid hs2
    have HNW2 := Lib.hid hnw2
    have HVF2 := Lib.hid hvf2
    have HEY2 := Lib.hid ey2
    have HROW : Hid (RowAt w9 B 4 (.slice ay2 y2.fr.length cy2) y2.fr.length (y2.fr.flatMap frameF)) := by unfold Hid; rw [← ey2]; exact (h9.own.fs y2 hym2).row
    have HBW : Hid (B ≤ w9.heap.size) := Nat.le_trans HB.out hch9.size
    have HGY : Hid (∀ k, rowBlock (.slice ay2 y2.fr.length cy2) = some k → k ≠ b ∧ k ≠ gv ∧ k ≠ bx ∧ k ≠ eb ∧ k ∈ P2.bl) := by
      unfold Hid
      intro k hk
      rw [← ey2] at hk
      have hm : k ∈ y2.bl := by unfold PFiber.bl; simp [hk]
      have hmp := PState.mem_fs hym2 hm
      obtain ⟨d0, d1, _⟩ := h9.own.dis
      refine ⟨fun e => d0 (e ▸ hmp), fun e => (d1 gv hbl2).2 y2 hym2 (e ▸ hm), fun e => ?_, fun e => h9.off (List.mem_cons_of_mem _ (e ▸ hmp)), hmp⟩
      subst e
      have h1 := HGL.out
      rcases bl2 k hmp with e | e
      · exact HBXO.out (List.mem_cons_of_mem _ e)
      · omega
    obtain ⟨i1, hi1, hz3, hz4, hz5⟩ := info_parts infoFr
    clear hgn hnl h9 hch9 hT2 hs2 hnw2 hvf2 hbl2 hym2 ey2 hcy2 z2 z1 zA h2 bl2 ch2 g2 t6 hr6 hcp hr9 hc9 hv1 hdl c0 c0' k1 k1' x0 x0' x1 x1' d0 d0' y1 y1' q2 q2' hpA hpA5 hd6 hE6
    go_upto_region 3 with fail
    refine wp_region_rt (fun w' => w'.cell? ⟨eb, 0, none⟩ = some (.pointer (some ⟨b, 0, none⟩)) ∧ w'.cell? ⟨b, 0, none⟩ = some (.slice (some ⟨gv, ov, none⟩) P2.fs.length cap3) ∧ w'.cell? ⟨b, 1, none⟩ = some (.int .i64 (L2.length : Int)) ∧ w'.cell? ⟨gv, ov + L2.length * 2, none⟩ = some (.slice ay2 y2.fr.length cy2) ∧
        w'.cell? ⟨bx, 0, none⟩ = some (.int .i64 n) ∧ w'.cell? ⟨bx, 1, none⟩ = some (.int .i64 0) ∧ w'.cell? ⟨bx, 2, none⟩ = some (.slice (some ⟨gl, 0, none⟩) N N) ∧ w'.cell? ⟨bx, 3, none⟩ = some (.slice none 0 0))
      36 [0, 1, 2, 3, 4, 5, 6, 7, 8, 9, 10, 11, 12, 13, 14, 15, 16, 17, 18, 19, 20, 21, 22, 23, 24, 25, 26, 27, 28, 29, 30, 31] [32, 33, 34, 35, 36] (by kernel_rfl) (by kernel_rfl) (fun _ _ _ _ _ h => h) (by exact ⟨u0, f0, f1, e0, b0, b1, b2, b3⟩) ?_
    (try simp only [pickOps, List.filterMap_cons, List.filterMap_nil, List.getElem?_cons_zero, List.getElem?_cons_succ])
    repeat (
      refine readsQ_do (by rfl) ?_
      apply Exists.intro
      refine ⟨fun w' hw' => ?_, ?_⟩
      focus
        (try dsimp only at hw')
        go_split_ands
        go_simp
        (try with_reducible rfl)
      (try dsimp only [Act.put])
      (try simp only [List.setIfInBounds_toArray, List.set_cons_succ, List.set_cons_zero]))
    refine readsQ_nil ?_
    refine tailW_step ?_
    go_wp2_with fail
    have hA9 : Ext w9 (w9.alloc (.cells #[.int .i64 n, .int .i64 0, .slice (some ⟨gl, 0, none⟩) N N, .slice none 0 0] 108)).drew := by ((repeat (first | assumption | exact Ext.refl _ | (exact And.left (by assumption)) | refine Ext.alloc ?_ _ | refine Ext.drew ?_ | refine Ext.drewN ?_ _ | refine Ext.setCell ?_ (by simp) _ | refine Ext.setCell ?_ (by simp; omega) _ | refine Ext.trans ?_ (by assumption))); done)
    have HA9 := Lib.hid hA9
    have S9 := Lib.hid (⟨Ext.cell hA9 u0, Ext.cell hA9 f0, Ext.cell hA9 f1, Ext.cell hA9 e0, Ext.cell hA9 b0, Ext.cell hA9 b1, Ext.cell hA9 b2, Ext.cell hA9 b3⟩ : _ ∧ _ ∧ _ ∧ _ ∧ _ ∧ _ ∧ _ ∧ _)
    clear hA9
    refine nextW_go S9.out ?_
    refine tailW_step ?_
    go_wp2_with (first
      | (at_builtin; refine wpList_append_row rfl _ _ 110 rfl B 108 i1 (.agg #[.int .i64 0, .int .i64 0, .slice none 0 0, .slice none 0 0]) 4 64 Tryz.underlying110 hi1 hz3 hz4 hz5 rfl (by decide) _ _ _ rfl (by exact (HROW.out.ext HA9.out (by decide))) 1 _ (by exact src_drew (src_cells _ _ 4 rfl (by simp [Value.oneCell']) _)) (by unfold maxLen; omega) (by omega) (by exact Nat.le_trans HBW.out (Ext.size HA9.out)) ?_; intro v1 Wv1 rv1; have RV := Lib.hid rv1; obtain ⟨a9, cap9, rfl, _, _⟩ := rv1.1.shape; clear rv1))
    have hRV : NewRow (w9.alloc (.cells #[.int .i64 n, .int .i64 0, .slice (some ⟨gl, 0, none⟩) N N, .slice none 0 0] 108)).drew Wv1 B 4 (.slice ay2 y2.fr.length cy2) (.slice a9 (y2.fr.length + 1) cap9) (y2.fr.length + 1) (y2.fr.flatMap frameF ++ [.int .i64 n, .int .i64 0, .slice (some ⟨gl, 0, none⟩) N N, .slice none 0 0]) := RV.out
    have SS := Lib.hid (⟨Chg.cell hRV.2.1 (fun e => (HGY.out eb e).2.2.2.1 rfl) S9.out.1, Chg.cell hRV.2.1 (fun e => (HGY.out b e).1 rfl) S9.out.2.1, Chg.cell hRV.2.1 (fun e => (HGY.out b e).1 rfl) S9.out.2.2.1, Chg.cell hRV.2.1 (fun e => (HGY.out gv e).2.1 rfl) S9.out.2.2.2.1,
      Chg.cell hRV.2.1 (fun e => (HGY.out bx e).2.2.1 rfl) S9.out.2.2.2.2.1, Chg.cell hRV.2.1 (fun e => (HGY.out bx e).2.2.1 rfl) S9.out.2.2.2.2.2.1, Chg.cell hRV.2.1 (fun e => (HGY.out bx e).2.2.1 rfl) S9.out.2.2.2.2.2.2.1, Chg.cell hRV.2.1 (fun e => (HGY.out bx e).2.2.1 rfl) S9.out.2.2.2.2.2.2.2⟩ : _ ∧ _ ∧ _ ∧ _ ∧ _ ∧ _ ∧ _ ∧ _)
    obtain ⟨v0, v0'⟩ := (Cx.ext (W := w9) ⟨e0, e0'⟩ HA9.out).chg hRV.2.1 (fun e => (HGY.out gv e).2.1 rfl)
    refine nextW_go SS.out ?_
    refine tailW_step ?_
    go_wp2_with fail
    refine nextW_go SS.out ?_
    refine tailW_step ?_
    go_wp2_with fail
    refine nextW_go SS.out ?_
    refine tailW_step ?_
    go_wp2_with fail
    refine nextW_end ?_
    go_end0
    rw [HGE.out]
    have hal : argsOf p P.g n A = (curX P.g).stack.drop ((curX P.g).stack.length - A) ++ (List.replicate N 0).drop A := argsOf_all p P.g n A N HA.out HN.out
    have hln : (argsOf p P.g n A).length = N := by rw [hal, List.length_append, List.length_drop, List.length_drop, List.length_replicate]; have := HAS.out; omega
    have h1 := HGL.out
    have hfin := call_end H9.out.own G2.out BL2.out CH9.out NL.out ((by rw [hal]; exact HR9.out.mono h1.2.1)) HS2.out HNW2.out HVF2.out (by rw [HEY2.out]; exact hRV) HA9.out hle2 h1.1 HB.out (fun h0 => Nat.lt_trans (h1.2.2.2.2 h0) (lt_of_cell b0)) (I64.nat (by omega)) (argsOf_i64 p P.g n _ (H.out.own.i64s HT.out).1) hln (by omega)
    exact ⟨rfl, hfin⟩
  · have T6 : decide (((y.fr.length : Nat) : Int) < 6) = false := decide_eq_false (by omega)
    have HGE : Hid (callG p P.g n = (2, P.g)) := by unfold Hid; rw [HG.out, if_pos (by omega)]
    clear h5 HG
    refine wp_region_ext_tail 19 (by kernel_rfl) (by kernel_rfl) ?_
    simp only [List.take_succ_cons, List.take_zero, List.drop_succ_cons, List.drop_zero]
    repeat (first
      | go_big_quiet_skip
      | (go_big_quiet_want
         unfold Oper.quiet
         apply Exists.intro
         refine ⟨fun w' hw' => ?_, ?_⟩
         focus
           have hcq := Ext.keep hw'
           go_simp
           first
             | with_reducible rfl
             
         (try dsimp only [Act.put])
         (try simp only [List.setIfInBounds_toArray, List.set_cons_succ, List.set_cons_zero])
         go_big_quiet_on))
    refine wpQuiet_nil ?_
    intro wq hq
    go_wp2_with (first
      | (go_at_call 210; (with_reducible refine (stepMust_any _ _ _).mono ?_); rintro e w3 ⟨he, rfl⟩; simp only [mustS] at he; subst he))
    rw [HGE.out]
    exact ⟨rfl, rfl, ⟨Chg.of_ext hq, fun h => by cases h⟩⟩
end Go.Proofs.YtpcjkfppacnkgaaGreatDoor
end
section
/- The engine of package step: give. -/
set_option maxHeartbeats 4000000
set_option maxRecDepth 100000
namespace Go.Proofs.YtpcjkfppacnkgaaGreatDoor
open Go Go.RowKit

theorem Did.pre {W W1 W2 : World} {B b : Nat} {P : PState} {r : Int × GState} (he : Ext W W1) (h : Did W1 W2 B b P r) : Did W W2 B b P r := Did.step (Chg.of_ext he) (fun _ h => .inl h) h
theorem EngS.setNow {w : World} {B b eb : Nat} {p : List GFunc} {a : Option Addr} {cp : Nat} {P : PState} (h : EngS w B b eb p a cp P) (n : Int) (hI : I64 n) : EngS (w.setCell ⟨b, 1, none⟩ (.int .i64 n)) B b eb p a cp { P with now := n } :=
  ⟨h.own.setNow n hI, h.eng.chg (chg_one w b 1 _) (fun e => h.off (by rw [show eb = b from e]; exact List.mem_cons_self)), h.off⟩

theorem engGive_any {P : PState} {w : World} {B b eb : Nat} {p : List GFunc} {a : Option Addr} {cp : Nat} (h : EngS w B b eb p a cp P) (ht : HasTop P.g P.g.now) (hr : Room P.g) (ho : P.g.out.length ≤ 30) (hb : ReturnFit P.g) :
    Calls Tryz.prog 195 #[.pointer (some ⟨eb, 0, none⟩)] w fun e w' => e = endS (returnG P.g).1 ∧ Did w w' B b P (returnG P.g) := by
  obtain ⟨hl, hb⟩ := hb
  have hLI := h.own.lastI ht hl
  have H := Lib.hid h
  have HT := Lib.hid ht
  have HL := Lib.hid hl
  clear h
  have RA := alloc_keep
  generalize hv : lastV P.g = v at *
  have HV := Lib.hid hv
  go_enter Tryz.func195, Tryz.ntmps195
  go_upto_region 1 with (first
    | (go_at_call 161; (with_reducible refine (engOne_any H.out.own H.out.eng HT.out HL.out).mono ?_); rintro e w2 ⟨rfl, t2⟩; rw [HV.out]))
  clear hv
  obtain ⟨P1, h1, g1, s1, c1⟩ := H.out.turn t2
  have hr1 : Room P1.g := by rw [g1]; exact hr.pop
  have ht1 : HasTop P1.g P1.g.now := by rw [g1]; exact ht.pop
  have ho1 : P1.g.out.length ≤ 30 := by rw [g1]; exact ho
  rw [← g1] at hb
  have HY : Hid (returnG P.g = if 0 < (curF (dropG P1.g)).frames.length then (0, pushG (dropG P1.g) P1.g.now v) else if (curF (dropG P1.g)).caller < 0 then putG { dropG P1.g with now := -1 } v else (0, backG (dropG P1.g) v)) := by
    unfold Hid returnG; rw [← g1, HV.out, show P.g.now = P1.g.now from by rw [g1]; rfl]
  obtain ⟨L, y, R, F, x, hs, hn⟩ := hasSpot ht1
  have hn : P1.now = L.length := hn
  have hP := hs.fs
  obtain ⟨g, o, cap, hvf, hlt, d0, -, hbl⟩ := h1.own.place hP
  obtain ⟨gf, og, cf, hyf, hcf, -, -, -, -, -, -⟩ := h1.own.spot hs
  have hym : y ∈ P1.fs := by rw [hP]; simp
  have hfr : (F ++ [x]).length ≤ 1000 := by
    have := (h1.own.fs y hym).few
    rwa [hs.fr] at this
  have hlen : (F ++ [x]).length = F.length + 1 := by simp
  have hmN : F.length < (F ++ [x]).length := by omega
  have KK : IntKind.i64.wrap (((F ++ [x]).length : Int) - 1) = (F.length : Int) := by
    have e : (((F ++ [x]).length : Int) - 1) = (F.length : Int) := by omega
    rw [e]; exact IntWalk.i64_in _ (by omega)
  obtain ⟨⟨c0, c0'⟩, ⟨k1, k1'⟩⟩ := (⟨h1.own.c0, h1.own.c1⟩ : _ ∧ _)
  obtain ⟨⟨x0, x0'⟩, -⟩ := h1.eng
  rw [hn] at k1
  rw [hvf] at c0
  rw [hyf] at d0
  obtain ⟨d0, d0'⟩ := d0
  have HVF := Lib.hid hvf
  have HYF := Lib.hid hyf
  have HB := Lib.hid hb
  have HP := Lib.hid hP
  have HN := Lib.hid hn
  have HS := Lib.hid hs
  have H1 := Lib.hid h1
  have HC1 := Lib.hid c1
  have HS1 := Lib.hid s1
  have HR1 := Lib.hid hr1
  clear hvf hyf hb hP hn hs ht1 h1 c1 s1 hr1 hbl hym g1 hr ht hl HT HL hlen ho t2
  generalize hN : (F ++ [x]).length = N at *
  have HNN := Lib.hid hN
  have hmC : F.length ≤ cf := by omega
  clear hN
  refine wp_region_ext (by kernel_rfl) (by kernel_rfl) ?_
  repeat (first
    | go_big_quiet_skip
    | (go_big_quiet_want
       unfold Oper.quiet
       apply Exists.intro
       refine ⟨fun w' hw' => ?_, ?_⟩
       focus
         have hcq := Ext.keep hw'
         go_simp
         first
           | with_reducible rfl
           
       (try dsimp only [Act.put])
       (try simp only [List.setIfInBounds_toArray, List.set_cons_succ, List.set_cons_zero])
       go_big_quiet_on))
  refine wpQuiet_nil ?_
  intro wq hq
  obtain ⟨d0, d0'⟩ := Cx.ext (W := w2) ⟨d0, d0'⟩ hq
  obtain ⟨x0, x0'⟩ := Cx.ext (W := w2) ⟨x0, x0'⟩ hq
  have HQ := Lib.hid hq
  go_upto_region 2 with fail
  refine wp_region_rtt (fun w' => w'.cell? ⟨g, o + L.length * 2, none⟩ = some (.slice (some ⟨gf, og, none⟩) N cf)) 14 [0, 1, 2, 3, 4, 5, 6, 7, 8, 9, 10, 11, 12, 13] [14] (by kernel_rfl) (by kernel_rfl) (fun _ _ _ _ _ h => h) d0 ?_
  (try simp only [pickOps, List.filterMap_cons, List.filterMap_nil, List.getElem?_cons_zero, List.getElem?_cons_succ])
  repeat (
    refine readsQ_do (by rfl) ?_
    apply Exists.intro
    refine ⟨fun w' hw' => ?_, ?_⟩
    focus
      (try dsimp only at hw')
      go_split_ands
      go_simp
      (try with_reducible rfl)
    (try dsimp only [Act.put])
    (try simp only [List.setIfInBounds_toArray, List.set_cons_succ, List.set_cons_zero]))
  refine readsQ_nil ?_
  refine tailW_step ?_
  go_wp2_with fail
  refine nextW_end ?_
  have H1q := H1.out.ext hq
  have h9 := H1q.own.dropTop HS.out HVF.out (by rw [HNN.out]; exact HYF.out)
  obtain ⟨o3, c3, b3⟩ := h9
  have hE3 : EngS _ B b eb p a cp _ := H1q.with (c3.mono (fun k _ hk => List.mem_cons_of_mem _ hk)) o3 (fun k hk => .inl (b3 k hk))
  have c4 := Lib.hid ((Chg.of_ext hq).trans (c3.mono (M' := fun k => k ∈ b :: P1.bl) (fun k _ hk => List.mem_cons_of_mem _ hk)))
  have HB4 : Hid (∀ k ∈ PState.bl { P1 with fs := L ++ ⟨F, y.caller, .slice (some ⟨gf, og, none⟩) F.length cf⟩ :: R }, k ∈ P1.bl ∨ w2.heap.size ≤ k) := fun k hk => .inl (b3 k hk)
  have hg3 : PState.g { P1 with fs := L ++ ⟨F, y.caller, .slice (some ⟨gf, og, none⟩) F.length cf⟩ :: R } = dropG P1.g := by
    unfold dropG
    refine (modFib_at HP.out (n := P1.g.now) HN.out ?_).symm
    unfold PFiber.g
    simp [HS.out.fr]
  have hf3 : PState.fs { P1 with fs := L ++ ⟨F, y.caller, .slice (some ⟨gf, og, none⟩) F.length cf⟩ :: R } = L ++ ⟨F, y.caller, .slice (some ⟨gf, og, none⟩) F.length cf⟩ :: R := rfl
  have hn3 : PState.now { P1 with fs := L ++ ⟨F, y.caller, .slice (some ⟨gf, og, none⟩) F.length cf⟩ :: R } = L.length := HN.out
  have hv3 : ∃ n, PState.vfs { P1 with fs := L ++ ⟨F, y.caller, .slice (some ⟨gf, og, none⟩) F.length cf⟩ :: R } = .slice (some ⟨g, o, none⟩) n cap := ⟨_, HVF.out⟩
  have ho3 : (PState.g { P1 with fs := L ++ ⟨F, y.caller, .slice (some ⟨gf, og, none⟩) F.length cf⟩ :: R }).out.length ≤ 30 := ho1
  have hr3 : Room (PState.g { P1 with fs := L ++ ⟨F, y.caller, .slice (some ⟨gf, og, none⟩) F.length cf⟩ :: R }) := by rw [hg3]; exact HR1.out.drop
  have hcur : curF (dropG P1.g) = PFiber.g ⟨F, y.caller, .slice (some ⟨gf, og, none⟩) F.length cf⟩ := by rw [← hg3]; exact curF_at hf3 hn3
  have hfl : (curF (dropG P1.g)).frames.length = F.length := by rw [hcur]; show (F.map PFrame.f).length = _; rw [List.length_map]
  have hcl : (curF (dropG P1.g)).caller = y.caller := by rw [hcur]; rfl
  have hnow : P1.g.now = L.length := HN.out
  have hdl : (dropG P1.g).fibers.length = P1.g.fibers.length := modFib_len _ _ _
  have hlt1 : L.length < P1.g.fibers.length := by unfold PState.g; simpa using hlt
  have hht : 0 < F.length → HasTop (dropG P1.g) (dropG P1.g).now := fun h0 => by
    refine ⟨by show 0 ≤ P1.g.now; omega, by rw [hdl]; show P1.g.now < _; omega, ?_⟩
    show 0 < (curF (dropG P1.g)).frames.length
    rw [hfl]; exact h0
  have hfib : 0 ≤ (dropG P1.g).now ∧ (dropG P1.g).now < (dropG P1.g).fibers.length := ⟨by show 0 ≤ P1.g.now; omega, by rw [hdl]; show P1.g.now < _; omega⟩
  have HB' := HB.out
  rw [hfl] at HB'
  have HYL := HY.out
  rw [hfl, hcl, show P1.g.now = (dropG P1.g).now from rfl] at HYL
  generalize ({ P1 with fs := L ++ ⟨F, y.caller, .slice (some ⟨gf, og, none⟩) F.length cf⟩ :: R } : PState) = P3 at *
  rw [← hg3] at hht hfib HB' HYL hcl
  obtain ⟨W3, hW3⟩ : ∃ W3, W3 = wq.setCell ⟨g, o + L.length * 2, none⟩ (.slice (some ⟨gf, og, none⟩) F.length cf) := ⟨_, rfl⟩
  rw [← hW3] at hE3 c4
  simp only [← hW3]
  have hE5 := hE3.ext (Ext.refl W3).drew
  obtain ⟨n3, hv3⟩ := hv3
  obtain ⟨g', o', cap', e3, -, d0, ⟨d1, d1'⟩, -⟩ := hE3.own.place hf3
  rw [hv3] at e3
  simp only [Value.slice.injEq, Option.some.injEq, Addr.mk.injEq] at e3
  obtain ⟨⟨rfl, rfl, -⟩, -, -⟩ := e3
  obtain ⟨d0, d0'⟩ := d0
  obtain ⟨k1, k1'⟩ := hE3.own.c1
  obtain ⟨x0, x0'⟩ := hE3.eng.e0
  rw [hn3] at k1
  have HE3 := Lib.hid hE3
  have HE5 := Lib.hid hE5
  have HT3 := Lib.hid hht
  have HFB := Lib.hid hfib
  have HB3 := Lib.hid HB'
  have HR3 := Lib.hid hr3
  have HCL := Lib.hid hcl
  have HYY := Lib.hid HYL
  clear hE3 hE5 hht hfib HB' hg3 hf3 hn3 hv3 hr3 HYL hcur hfl hcl hnow c3 HY HB KK hmN o3 b3 H1q hW3 hdl hlt1
  generalize hcl : y.caller = cl at *
  have HCC := Lib.hid hcl
  generalize hm : F.length = m at *
  clear hcl hm
  by_cases h0 : 0 < m
  · have T : decide ((m : Int) > 0) = true := decide_eq_true (by omega)
    have T' : decide (0 < (m : Int)) = true := decide_eq_true (by omega)
    have HTT := Lib.hid (HT3.out h0)
    have e := HYY.out
    rw [if_pos h0] at e
    have HE := Lib.hid e
    clear e
    go_wp2_with (first
      | (go_at_call 159; (with_reducible refine (engPush_any (HE3.out.own.ext (by ((repeat (first | assumption | exact Ext.refl _ | (exact And.left (by assumption)) | refine Ext.alloc ?_ _ | refine Ext.drew ?_ | refine Ext.drewN ?_ _ | refine Ext.setCell ?_ (by simp) _ | refine Ext.setCell ?_ (by simp; omega) _ | refine Ext.trans ?_ (by assumption))); done))) (HE3.out.eng.ext (by ((repeat (first | assumption | exact Ext.refl _ | (exact And.left (by assumption)) | refine Ext.alloc ?_ _ | refine Ext.drew ?_ | refine Ext.drewN ?_ _ | refine Ext.setCell ?_ (by simp) _ | refine Ext.setCell ?_ (by simp; omega) _ | refine Ext.trans ?_ (by assumption))); done))) HTT.out HR3.out v hLI (by simp)).mono ?_); rintro e w5 ⟨rfl, t5⟩))
    go_end0
    rw [HE.out]
    exact ⟨rfl, Did.of (Turn.step HC1.out HS1.out (Turn.step c4.out HB4.out (Turn.pre (show Ext W3 (W3.alloc (.cells #[.int .i64 v] 3)).drew by ((repeat (first | assumption | exact Ext.refl _ | (exact And.left (by assumption)) | refine Ext.alloc ?_ _ | refine Ext.drew ?_ | refine Ext.drewN ?_ _ | refine Ext.setCell ?_ (by simp) _ | refine Ext.setCell ?_ (by simp; omega) _ | refine Ext.trans ?_ (by assumption))); done)) t5)))⟩
  · have T : decide ((m : Int) > 0) = false := decide_eq_false (by omega)
    have T' : decide (0 < (m : Int)) = false := decide_eq_false (by omega)
    by_cases hc : cl < 0
    · have T2 : decide (0 ≤ cl) = false := decide_eq_false (by omega)
      have e := HYY.out
      rw [if_neg h0, if_pos hc] at e
      have HE := Lib.hid e
      have HE6 := Lib.hid (((HE3.out).setNow (-1) (by unfold I64; decide)).ext (Ext.refl _).drew)
      have HO4 : Hid ((PState.g { P3 with now := -1 }).out.length ≤ 30) := ho3
      have hfin : ∀ w5, Did (W3.setCell ⟨b, 1, none⟩ (.int .i64 (-1))).drew w5 B b { P3 with now := -1 } (putG { P3.g with now := -1 } v) → Did w w5 B b P (putG { P3.g with now := -1 } v) := fun w5 t5 =>
        Did.step HC1.out HS1.out (Did.step c4.out HB4.out (Did.step (P1 := { P3 with now := -1 }) ((chg_one W3 b 1 (.int .i64 (-1))).mono (fun k _ hk => by rw [show k = b from hk]; exact List.mem_cons_self)) (fun k hk => .inl hk) (Did.pre (Ext.refl _).drew t5)))
      have HFIN := Lib.hid hfin
      clear e hc hfin
      obtain ⟨rz, hrz⟩ : ∃ rz, (putG { P3.g with now := -1 } v).1 = rz := ⟨_, rfl⟩
      have hrz' : (putG (PState.g { P3 with now := -1 }) v).1 = rz := hrz
      have HRZ := Lib.hid hrz
      have HRZ' := Lib.hid hrz'
      clear hrz hrz'
      by_cases hz : rz = 0
      · have HZ : Hid (endS rz = .returned (.tuple #[])) := by unfold Hid endS; rw [if_pos hz]
        clear hz
        go_wp2_with (first
          | (go_at_call 199; (with_reducible refine (engPut_any HE6.out HO4.out v hLI).mono ?_); rintro e w5 ⟨he, t5⟩; rw [HRZ'.out, HZ.out] at he; subst he))
        go_end0
        rw [HE.out, HRZ.out, HZ.out]
        exact ⟨rfl, HFIN.out _ t5⟩
      · have HZ : Hid (endS rz = .panicked (refusalS rz)) := by unfold Hid endS; rw [if_neg hz]
        clear hz
        go_wp2_with (first
          | (go_at_call 199; (with_reducible refine (engPut_any HE6.out HO4.out v hLI).mono ?_); rintro e w5 ⟨he, t5⟩; rw [HRZ'.out, HZ.out] at he; subst he))
        rw [HE.out, HRZ.out, HZ.out]
        exact ⟨rfl, rfl, HFIN.out _ t5⟩
    · have T2 : decide (0 ≤ cl) = true := decide_eq_true (by omega)
      have e := HYY.out
      rw [if_neg h0, if_neg hc] at e
      have HE := Lib.hid e
      have hbk := (HB3.out.resolve_left h0).resolve_left (by rw [HCL.out]; exact hc)
      have HBK := Lib.hid hbk
      clear e hc hbk
      go_wp2_with (first
        | (go_at_call 211; (with_reducible refine (engBack_any HE5.out HFB.out HR3.out HBK.out v hLI).mono ?_); rintro e w5 ⟨rfl, t5⟩))
      go_end0
      rw [HE.out]
      exact ⟨rfl, Did.of (Turn.step HC1.out HS1.out (Turn.step c4.out HB4.out (Turn.pre (Ext.refl W3).drew t5)))⟩
end Go.Proofs.YtpcjkfppacnkgaaGreatDoor
end
