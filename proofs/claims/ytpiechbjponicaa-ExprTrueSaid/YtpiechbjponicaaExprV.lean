/- Contracts of the reader's value and of expr.Value. -/
import Derived.Test.YtpiechbjponicaaExprX
import Derived.Test.YtpiechbjponicaaChg
import Derived.LoopN
set_option maxHeartbeats 1000000
set_option maxRecDepth 100000
namespace Go.Proofs.Ytpiechbjponicaa
open Go Go.RowKit

theorem exprTruth_any (b : Bool) (w : World) : Calls Try.prog 61 #[.bool b] w fun e w' => e = .returned (.int .i64 (if b then 1 else 0)) ∧ w = w' := by
  cases b
  all_goals
    go_enter Try.func61, Try.ntmps61
    go_wp2
    go_ret
    exact ⟨rfl, rfl⟩

/-- What the reader has read, and what is left. -/
def ReadsPost (S : Nat → Prop) (vv : Value) (R : Nat) (rest : List GNode) (w w' : World) : Prop :=
  Chg (· = R) w w' ∧ (∃ v', w'.cell? ⟨R, 0, none⟩ = some v' ∧ Nodes w' S v' rest) ∧ w'.cell? ⟨R, 1, none⟩ = some vv ∧ w'.frozen? ⟨R, 0, none⟩ = false

theorem reads_post {S : Nat → Prop} {vv : Value} {R : Nat} {rest : List GNode} {w W : World} {v' : Value} (hSR : ¬ S R) (hN : Nodes w S v' rest) (E : Chg (· = R) w W) (c0 : W.cell? ⟨R, 0, none⟩ = some v')
    (c1 : W.cell? ⟨R, 1, none⟩ = some vv) (f : W.frozen? ⟨R, 0, none⟩ = false) : ReadsPost S vv R rest w W :=
  ⟨E, ⟨v', c0, Nodes.stays (E.stays (fun _ hb e => hSR (e ▸ hb))) hN⟩, c1, f⟩

def ReadsC (vals : List Int) (S : Nat → Prop) (vv : Value) (t : ETree) : Prop := ∀ (rest : List GNode) (R : Nat) (w : World) (v : Value), (∀ b, S b → b < w.heap.size) → ¬ S R → w.cell? ⟨R, 0, none⟩ = some v → w.cell? ⟨R, 1, none⟩ = some vv → w.frozen? ⟨R, 0, none⟩ = false →
    Nodes w S v (t.flat ++ rest) → Ints w S vv vals →
    Calls Try.prog 47 #[.pointer (some ⟨R, 0, none⟩)] w fun e w' => e = .returned (.int .i64 (valT vals t)) ∧ ReadsPost S vv R rest w w'

theorem reads_call {vals : List Int} {S : Nat → Prop} {vv : Value} {t : ETree} (hC : ReadsC vals S vv t) {rest : List GNode} {R : Nat} {w W : World} (hS : ∀ b, S b → b < w.heap.size) (hSR : ¬ S R) (hi : Ints w S vv vals)
    (h : ReadsPost S vv R (t.flat ++ rest) w W) :
    Calls Try.prog 47 #[.pointer (some ⟨R, 0, none⟩)] W fun e w' => e = .returned (.int .i64 (valT vals t)) ∧ ReadsPost S vv R rest w w' ∧ Chg (· = R) W w' := by
  obtain ⟨E, ⟨v', c0, hN⟩, c1, f⟩ := h
  refine (hC rest R W v' (fun b hb => Nat.lt_of_lt_of_le (hS b hb) E.size) hSR c0 c1 f hN (Ints.stays (E.stays (fun _ hb e => hSR (e ▸ hb))) hi)).mono ?_
  rintro e w' ⟨rfl, E2, h2⟩
  exact ⟨rfl, ⟨E.trans E2, h2⟩, E2⟩

theorem reads_store {S : Nat → Prop} {vv : Value} {rest : List GNode} {R : Nat} {w W : World} (hS : ∀ b, S b → b < w.heap.size) (h : ReadsPost S vv R rest w W) {P : Nat} (hP : w.heap.size ≤ P) (hRP : P ≠ R) (k : Nat) (u : Value) :
    ReadsPost S vv R rest w (W.setCell ⟨P, k, none⟩ u) := by
  obtain ⟨E, ⟨v', c0, hN⟩, c1, f⟩ := h
  have E1 : Chg (· = P) W (W.setCell ⟨P, k, none⟩ u) := Chg.setCell (Chg.refl (· = P) W) (.inl rfl) u
  exact ⟨E.setCell (.inr hP) u, ⟨v', E1.cell (fun e => hRP e.symm) c0, Nodes.stays (E1.stays (fun b hb e => by have := hS b hb; omega)) hN⟩, E1.cell (fun e => hRP e.symm) c1, by
    rw [World.frozen?_setCell]; exact f⟩

theorem reads_drew {S : Nat → Prop} {vv : Value} {rest : List GNode} {R : Nat} {w W : World} (h : ReadsPost S vv R rest w W) : ReadsPost S vv R rest w W.drew := by
  obtain ⟨E, ⟨v', c0, hN⟩, c1, f⟩ := h
  exact ⟨E.drew, ⟨v', c0, Nodes.stays (Ext.refl W).drew.stays hN⟩, c1, f⟩

theorem exprSize_at (k n : Int) (h : (sizeN k : Int) = n) (w : World) : Calls Try.prog 60 #[.int .i64 k] w fun e w' => e = .returned (.int .i64 n) ∧ w = w' := by
  rw [← h]; exact exprSize_any k w

theorem reads_leaf (vals : List Int) (S : Nat → Prop) (vv : Value) (x : GNode) (hx : sizeN x.kind = 0) (ho : nodesOk vals [x]) : ReadsC vals S vv (.leaf x) := by
  intro rest R w v hS hSR r0 r1 rf hv hi
  rw [show (ETree.leaf x).flat ++ rest = x :: rest from rfl] at hv
  have hv0 := hv
  obtain ⟨b, o, cap, rfl, hcap, hby, ⟨sb, g0, _⟩, _, g1, _⟩ := hv.get (i := 0) (by simp)
  have HT := Lib.hid hv0.tail
  have hRb : R ≠ b := fun e => hSR (e ▸ sb)
  have hRl := lt_of_cell r0
  have hr := ho x (by simp)
  have hk : x.kind = 0 ∨ x.kind = 1 := by unfold sizeN at hx; split at hx <;> (try split at hx) <;> omega
  have HZ := Lib.hid (show (sizeN x.kind : Int) = 0 by omega)
  simp only [List.length_cons, Nat.zero_mul, Nat.add_zero, List.getElem_cons_zero] at g0 g1 hcap r0 ⊢
  clear hx hv hv0
  have RA := alloc_keep
  rcases hk with hk | hk
  · have HV : Hid (valT vals (.leaf x) = x.n) := by unfold Hid valT; rw [if_pos hk]
    rw [HV.out]
    have T0 : (x.kind == 0) = true := by simp [hk]
    clear hk hr ho hi
    by_cases hc1 : cap = 1
    all_goals (first | rw [if_neg hc1] at HT | (rw [if_pos hc1] at HT; subst hc1; obtain rfl : rest = [] := List.eq_nil_of_length_eq_zero (by omega)))
    all_goals
      go_enter Try.func47, Try.ntmps47
      go_wp2_with (first
        | (go_at_call 60; (with_reducible refine (exprSize_at _ _ HZ.out _).mono ?_); rintro e w1 ⟨rfl, rfl⟩))
      refine wp_loop_rounds 1 ?_
      rw [rounds_succ]
      go_wp2
      go_region
      go_wp2
      go_ret
      refine ⟨rfl, reads_post hSR HT.out ?_ ?_ ?_ ?_⟩
      · ((repeat (first | assumption | exact Chg.refl _ _ | refine Chg.alloc ?_ _ | refine Chg.drew ?_ | refine Chg.drewN ?_ _ | refine Chg.setCell ?_ (by first | exact .inl rfl | (right; simp; done) | (right; simp; omega)) _ | refine Chg.trans ?_ (by assumption) | refine Chg.trans ?_ (Chg.of_ext (by assumption)))); done)
      · go_simp
      · go_simp
      · go_simp
  · have hm : x.n ≤ vals.length - 1 := by have := hr.2.2.2; rw [mostN, if_neg (by omega), if_pos hk] at this; exact this
    obtain ⟨m, hm'⟩ := Int.eq_ofNat_of_zero_le hr.2.2.1
    have hml : m < vals.length := by omega
    have HV : Hid (valT vals (.leaf x) = vals[m]) := by
      unfold Hid valT
      rw [if_neg (by omega), if_pos hk, hm', List.getD_eq_getElem?_getD]
      simp [hml]
    obtain ⟨b2, o2, cap2, rfl, hcap2, hby2, s2, g2, _⟩ := hi.get hml
    have hRb2 : R ≠ b2 := fun e => hSR (e ▸ s2)
    simp only [Nat.mul_one] at g2
    rw [HV.out]
    have T0 : (x.kind == 0) = false := by simp [hk]
    have T1 : (x.kind == 1) = true := by simp [hk]
    rw [hm'] at g1
    have g3 : ∀ (u : Value) (o1 o2' : Obj), (((w.setCell ⟨R, 0, none⟩ u).alloc o1).alloc o2').cell? ⟨b2, o2 + m, none⟩ = some (.int .i64 vals[m]) := fun u o1 o2' =>
      Ext.cell (((Ext.refl _).alloc o1).alloc o2') (((Chg.refl (· = R) w).setCell (.inl rfl) u).cell (fun e => hRb2 e.symm) g2)
    clear hk hr ho hi hm hm' HV
    by_cases hc1 : cap = 1
    all_goals (first | rw [if_neg hc1] at HT | (rw [if_pos hc1] at HT; subst hc1; obtain rfl : rest = [] := List.eq_nil_of_length_eq_zero (by omega)))
    all_goals
      go_enter Try.func47, Try.ntmps47
      go_wp2_with (first
        | (go_at_call 60; (with_reducible refine (exprSize_at _ _ HZ.out _).mono ?_); rintro e w1 ⟨rfl, rfl⟩))
      refine wp_loop_rounds 1 ?_
      rw [rounds_succ]
      go_wp2
      go_region
      go_wp2
      go_region
      go_wp2
      go_ret
      refine ⟨rfl, reads_post hSR HT.out ?_ ?_ ?_ ?_⟩
      · ((repeat (first | assumption | exact Chg.refl _ _ | refine Chg.alloc ?_ _ | refine Chg.drew ?_ | refine Chg.drewN ?_ _ | refine Chg.setCell ?_ (by first | exact .inl rfl | (right; simp; done) | (right; simp; omega)) _ | refine Chg.trans ?_ (by assumption) | refine Chg.trans ?_ (Chg.of_ext (by assumption)))); done)
      · go_simp
      · go_simp
      · go_simp

theorem reads_two (vals : List Int) (S : Nat → Prop) (vv : Value) (x : GNode) (ta tb : ETree) (hx : 2 ≤ x.kind ∧ x.kind ≤ 6) (ha : ReadsC vals S vv ta) (hb : ReadsC vals S vv tb) : ReadsC vals S vv (.two x ta tb) := by
  intro rest R w v hS hSR r0 r1 rf hv hi
  rw [show (ETree.two x ta tb).flat ++ rest = x :: (ta.flat ++ (tb.flat ++ rest)) by simp [ETree.flat]] at hv
  have hv0 := hv
  obtain ⟨b, o, cap, rfl, hcap, hby, ⟨sb, g0, _⟩, _, g1, _⟩ := hv.get (i := 0) (by simp)
  have HT := Lib.hid hv0.tail
  have hc1 : ¬ cap = 1 := by have := ETree.flat_pos ta; simp at hcap; omega
  rw [if_neg hc1] at HT
  have hRb : R ≠ b := fun e => hSR (e ▸ sb)
  have hRl := lt_of_cell r0
  have HI := Lib.hid hi
  have HA := Lib.hid ha
  have HB := Lib.hid hb
  have HS := Lib.hid hS
  simp only [List.length_cons, Nat.zero_mul, Nat.add_zero, List.getElem_cons_zero] at g0 g1 hcap r0 ⊢
  clear hv hv0 hi ha hb hS
  have RA := alloc_keep
  obtain ⟨k, n⟩ := x
  have HZ : Hid ((sizeN k : Int) = 2) := by unfold Hid sizeN; simp only at hx; rw [if_neg (by omega), if_neg (by omega)]; rfl
  have hk : k = 2 ∨ k = 3 ∨ k = 4 ∨ k = 5 ∨ k = 6 := by simp only at hx; omega
  have HR : Hid (∃ z, z = valT vals (.two ⟨k, n⟩ ta tb) ∧ z = reckN k (valT vals ta) (valT vals tb)) := ⟨_, rfl, rfl⟩
  clear hx
  simp only at g0 g1
  go_enter Try.func47, Try.ntmps47
  go_wp2_with (first
    | (go_at_call 60; (with_reducible refine (exprSize_at _ _ HZ.out _).mono ?_); rintro e w1 ⟨rfl, rfl⟩))
  refine wp_loop_rounds 3 ?_
  rw [rounds_succ]
  go_wp2_with fail
  go_at_call 47
  with_reducible refine (reads_call HA.out HS.out hSR HI.out (reads_post hSR HT.out ?_ ?_ ?_ ?_)).mono ?_
  · ((repeat (first | assumption | exact Chg.refl _ _ | refine Chg.alloc ?_ _ | refine Chg.drew ?_ | refine Chg.drewN ?_ _ | refine Chg.setCell ?_ (by first | exact .inl rfl | (right; simp; done) | (right; simp; omega)) _ | refine Chg.trans ?_ (by assumption) | refine Chg.trans ?_ (Chg.of_ext (by assumption)))); done)
  · go_simp
  · go_simp
  · go_simp
  rintro e w1 ⟨rfl, hr1, hc1⟩
  have hRP : ¬ w.heap.size + 1 = R := by omega
  have hRX : ¬ w.heap.size = R := by omega
  have z1 : w.heap.size + 1 < w1.heap.size := by have := hc1.size; simp at this; omega
  have x1 := hc1.cell hRX (o := 0) (by go_simp; rfl)
  have y0 := hc1.cell hRP (o := 0) (by go_simp; rfl)
  have y1 := hc1.cell hRP (o := 1) (by go_simp; rfl)
  have yf := (hc1.frozen hRP (o := 0) (by simp)).trans (show _ = false by go_simp)
  have yg := (hc1.frozen hRP (o := 1) (by simp)).trans (show _ = false by go_simp)
  have hr2 := Lib.hid (reads_store HS.out hr1 (Nat.le_succ _) hRP 0 (.int .i64 (valT vals ta)))
  clear hr1 hc1
  go_wp2_with fail
  rw [rounds_succ]
  go_wp2_with fail
  go_at_call 47
  with_reducible refine (reads_call HB.out HS.out hSR HI.out hr2.out).mono ?_
  rintro e w2 ⟨rfl, hr3, hc2⟩
  have x2 := hc2.cell hRX (o := 0) (by go_simp; rfl)
  have z2 : w.heap.size + 1 < w2.heap.size := by have := hc2.size; simp at this; omega
  have u0 := hc2.cell hRP (o := 0) (by go_simp; rfl)
  have u1 := hc2.cell hRP (o := 1) (by go_simp; rfl)
  have uf := (hc2.frozen hRP (o := 1) (by simp; omega)).trans (show _ = false by go_simp)
  have hr4 := Lib.hid (reads_drew (reads_store HS.out hr3 (Nat.le_succ _) hRP 1 (.int .i64 (valT vals tb))))
  clear hr2 hr3 hc2 y0 y1 yf x1
  obtain ⟨z, hz, hz'⟩ := HR.out
  have HZZ := Lib.hid hz
  have HZ' := Lib.hid hz'
  clear hz hz' HR
  rcases hk with rfl | rfl | rfl | rfl | rfl
  all_goals
    go_wp2_with fail
    rw [rounds_succ]
    go_wp2_with fail
    go_region
    go_wp2_with (first
      | (go_at_call 61; (with_reducible refine (exprTruth_any _ _).mono ?_); rintro e w3 ⟨rfl, rfl⟩))
  all_goals
    go_ret
    refine ⟨?_, hr4.out⟩
    rw [← HZZ.out, HZ'.out]
    (first | (simp [reckN]; done) | (simp [reckN, *]; done))

theorem reads_three (vals : List Int) (S : Nat → Prop) (vv : Value) (x : GNode) (ta tb tc : ETree) (hx : x.kind = 7) (ha : ReadsC vals S vv ta) (hb : ReadsC vals S vv tb) (hc : ReadsC vals S vv tc) : ReadsC vals S vv (.three x ta tb tc) := by
  intro rest R w v hS hSR r0 r1 rf hv hi
  rw [show (ETree.three x ta tb tc).flat ++ rest = x :: (ta.flat ++ (tb.flat ++ (tc.flat ++ rest))) by simp [ETree.flat]] at hv
  have hv0 := hv
  obtain ⟨b, o, cap, rfl, hcap, hby, ⟨sb, g0, _⟩, _, g1, _⟩ := hv.get (i := 0) (by simp)
  have HT := Lib.hid hv0.tail
  have hc1 : ¬ cap = 1 := by have := ETree.flat_pos ta; simp at hcap; omega
  rw [if_neg hc1] at HT
  have hRb : R ≠ b := fun e => hSR (e ▸ sb)
  have hRl := lt_of_cell r0
  have HI := Lib.hid hi
  have HA := Lib.hid ha
  have HB := Lib.hid hb
  have HC := Lib.hid hc
  have HS := Lib.hid hS
  simp only [List.length_cons, Nat.zero_mul, Nat.add_zero, List.getElem_cons_zero] at g0 g1 hcap r0 ⊢
  clear hv hv0 hi ha hb hc hS
  have RA := alloc_keep
  obtain ⟨k, n⟩ := x
  simp only at hx
  subst hx
  have HZ : Hid ((sizeN 7 : Int) = 3) := rfl
  have HT7 : Hid (valT vals (.three ⟨7, n⟩ ta tb tc) = if valT vals ta = 0 then valT vals tc else valT vals tb) := rfl
  simp only at g0 g1
  rw [HT7.out]
  by_cases hz : valT vals ta = 0
  all_goals
    (first | rw [if_pos hz] | rw [if_neg hz])
    (first | (have TZ : (valT vals ta != 0) = false := by simp [hz]) | (have TZ : (valT vals ta != 0) = true := by simp [hz]))
    clear hz
    go_enter Try.func47, Try.ntmps47
    go_wp2_with (first
      | (go_at_call 60; (with_reducible refine (exprSize_at _ _ HZ.out _).mono ?_); rintro e w1 ⟨rfl, rfl⟩))
    refine wp_loop_rounds 4 ?_
    rw [rounds_succ]
    go_wp2_with fail
    go_at_call 47
    with_reducible refine (reads_call HA.out HS.out hSR HI.out (reads_post hSR HT.out ?_ ?_ ?_ ?_)).mono ?_
    · ((repeat (first | assumption | exact Chg.refl _ _ | refine Chg.alloc ?_ _ | refine Chg.drew ?_ | refine Chg.drewN ?_ _ | refine Chg.setCell ?_ (by first | exact .inl rfl | (right; simp; done) | (right; simp; omega)) _ | refine Chg.trans ?_ (by assumption) | refine Chg.trans ?_ (Chg.of_ext (by assumption)))); done)
    · go_simp
    · go_simp
    · go_simp
    rintro e w1 ⟨rfl, hr1, hc1⟩
    have hRP : ¬ w.heap.size + 1 = R := by omega
    have hRX : ¬ w.heap.size = R := by omega
    have z1 : w.heap.size + 1 < w1.heap.size := by have := hc1.size; simp at this; omega
    have x1 := hc1.cell hRX (o := 0) (by go_simp; rfl)
    have y0 := hc1.cell hRP (o := 0) (by go_simp; rfl)
    have y1 := hc1.cell hRP (o := 1) (by go_simp; rfl)
    have y2 := hc1.cell hRP (o := 2) (by go_simp; rfl)
    have f0 := (hc1.frozen hRP (o := 0) (by simp)).trans (show _ = false by go_simp)
    have f1 := (hc1.frozen hRP (o := 1) (by simp)).trans (show _ = false by go_simp)
    have f2 := (hc1.frozen hRP (o := 2) (by simp)).trans (show _ = false by go_simp)
    have hr2 := Lib.hid (reads_store HS.out hr1 (Nat.le_succ _) hRP 0 (.int .i64 (valT vals ta)))
    clear hr1 hc1
    go_wp2_with fail
    rw [rounds_succ]
    go_wp2_with fail
    go_at_call 47
    with_reducible refine (reads_call HB.out HS.out hSR HI.out hr2.out).mono ?_
    rintro e w2 ⟨rfl, hr3, hc2⟩
    have x2 := hc2.cell hRX (o := 0) (by go_simp; rfl)
    have z2 : w.heap.size + 1 < w2.heap.size := by have := hc2.size; simp at this; omega
    have u0 := hc2.cell hRP (o := 0) (by go_simp; rfl)
    have u1 := hc2.cell hRP (o := 1) (by go_simp; rfl)
    have u2 := hc2.cell hRP (o := 2) (by go_simp; rfl)
    have uf1 := (hc2.frozen hRP (o := 1) (by simp; omega)).trans (show _ = false by go_simp)
    have uf2 := (hc2.frozen hRP (o := 2) (by simp; omega)).trans (show _ = false by go_simp)
    have hr4 := Lib.hid (reads_store HS.out hr3 (Nat.le_succ _) hRP 1 (.int .i64 (valT vals tb)))
    clear hr2 hr3 hc2 y0 y1 y2 f0 f1 f2 x1
    go_wp2_with fail
    rw [rounds_succ]
    go_wp2_with fail
    go_at_call 47
    with_reducible refine (reads_call HC.out HS.out hSR HI.out hr4.out).mono ?_
    rintro e w3 ⟨rfl, hr5, hc3⟩
    have x3 := hc3.cell hRX (o := 0) (by go_simp; rfl)
    have z3 : w.heap.size + 1 < w3.heap.size := by have := hc3.size; simp at this; omega
    have v0 := hc3.cell hRP (o := 0) (by go_simp; rfl)
    have v1 := hc3.cell hRP (o := 1) (by go_simp; rfl)
    have v2 := hc3.cell hRP (o := 2) (by go_simp; rfl)
    have vf2 := (hc3.frozen hRP (o := 2) (by simp; omega)).trans (show _ = false by go_simp)
    have hr6 := Lib.hid (reads_drew (reads_store HS.out hr5 (Nat.le_succ _) hRP 2 (.int .i64 (valT vals tc))))
    clear hr4 hr5 hc3 u0 u1 u2 uf1 uf2 x2
    go_wp2_with fail
    rw [rounds_succ]
    go_wp2_with fail
    go_region
    go_wp2_with (first
      | (go_at_call 61; (with_reducible refine (exprTruth_any _ _).mono ?_); rintro e w4 ⟨rfl, rfl⟩))
    go_ret
    exact ⟨rfl, hr6.out⟩

theorem reads_any (vals : List Int) (S : Nat → Prop) (vv : Value) : ∀ t : ETree, t.fits → nodesOk vals t.flat → ReadsC vals S vv t
  | .leaf x, hf, ho => reads_leaf vals S vv x hf ho
  | .two x a b, hf, ho => by
    have hr := ho.root
    refine reads_two vals S vv x a b ?_ (reads_any vals S vv a hf.2.1 (ho.part a (by simp [ETree.parts]))) (reads_any vals S vv b hf.2.2 (ho.part b (by simp [ETree.parts])))
    have h1 := hf.1
    unfold sizeN at h1
    simp only [ETree.root] at hr
    split at h1
    · omega
    · split at h1 <;> omega
  | .three x a b c, hf, ho => by
    refine reads_three vals S vv x a b c ?_ (reads_any vals S vv a hf.2.1 (ho.part a (by simp [ETree.parts]))) (reads_any vals S vv b hf.2.2.1 (ho.part b (by simp [ETree.parts]))) (reads_any vals S vv c hf.2.2.2 (ho.part c (by simp [ETree.parts])))
    have h1 := hf.1
    unfold sizeN at h1
    split at h1
    · omega
    · split at h1 <;> omega

theorem exprValue_any (e : List GNode) (v : Value) (vals : List Int) (vv : Value) (w : World) (hp : Nodes w (fun _ => True) v e) (hv : Ints w (fun _ => True) vv vals) :
    Calls Try.prog 19 #[v, vv] w fun e' w' => e' = .returned (.tuple #[.int .i64 (valErr e vals), .int .i64 (exprErr e vals.length)]) ∧ Ext w w' := by
  have hI : I64 vals.length := by obtain ⟨a, cap, _, hcap, hby, _⟩ := id hv; unfold I64; omega
  have HC := Lib.hid (fun w' (h : Nodes w' (fun _ => True) v e) => exprCheck_any e v (fun _ => True) vals.length w' h hI)
  have hp' : Nodes w (· < w.heap.size) v e := Nodes.stays (S := fun _ => True) (fun b o u _ hc => ⟨hc, lt_of_cell hc⟩) hp
  have hv' : Ints w (· < w.heap.size) vv vals := Ints.stays (S := fun _ => True) (fun b o u _ hc => ⟨hc, lt_of_cell hc⟩) hv
  obtain ⟨a, cap, rfl, hcap, hby, _⟩ := id hv
  by_cases h0 : exprErr e vals.length = 0
  · obtain ⟨h4, h9, hok, hop⟩ := exprErr_zero h0
    obtain ⟨t, ht, rfl⟩ := (openOk_one e).1 hop
    have HE : Hid (valErr t.flat vals = valT vals t) := by unfold Hid valErr; rw [if_pos h0, valOf_flat vals t ht]
    rw [h0] at HC
    rw [HE.out, h0]
    have HR := Lib.hid (fun rest R W v => reads_any vals (· < w.heap.size) (.slice a vals.length cap) t ht hok rest R W v)
    obtain ⟨na, ncap, rfl, _⟩ := id hp
    have HP := Lib.hid hp
    have HP' := Lib.hid hp'
    have HV' := Lib.hid hv'
    clear h0 hok hop hp hv h9 hp' hv' hI
    go_enter Try.func19, Try.ntmps19
    go_wp2_with (first
      | (go_at_call 22; (with_reducible refine (HC.out _ HP.out).mono ?_); rintro e w1 ⟨rfl, hb1⟩))
    have hz := Ext.size hb1
    go_at_call 47
    have E1 : Ext w (w1.alloc (.cells #[.slice na t.flat.length ncap, .slice a vals.length cap] 73)) := hb1.alloc _
    with_reducible refine (HR.out [] w1.heap.size _ (.slice na t.flat.length ncap) ?_ ?_ ?_ ?_ ?_ ?_ ?_).mono ?_
    · intro b hb; have := Ext.size E1; omega
    · omega
    · simp
    · simp
    · simp
    · rw [List.append_nil]; exact Nodes.stays E1.stays HP'.out
    · exact Ints.stays E1.stays HV'.out
    rintro e w2 ⟨rfl, hr⟩
    go_wp2_with fail
    go_ret2
    exact ⟨rfl, Chg.ext_from E1 hr.1 (fun n hn => by omega)⟩
  · have HE : Hid (valErr e vals = 0) := by unfold Hid valErr; rw [if_neg h0]
    have TE : (exprErr e vals.length != 0) = true := bne_iff_ne.2 h0
    rw [HE.out]
    have HP := Lib.hid hp
    clear h0 hp hv hp' hv' hI
    go_enter Try.func19, Try.ntmps19
    go_wp2_with (first
      | (go_at_call 22; (with_reducible refine (HC.out _ HP.out).mono ?_); rintro e w1 ⟨rfl, hb1⟩))
    go_ret2
    exact ⟨rfl, hb1⟩
end Go.Proofs.Ytpiechbjponicaa
