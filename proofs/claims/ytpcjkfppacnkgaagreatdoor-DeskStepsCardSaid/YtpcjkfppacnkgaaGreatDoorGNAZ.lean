/- Merged texts: contracts and plain facts, one part behind another; each part begins with what it says. -/
import Derived.Test.YtpcjkfppacnkgaaGreatDoorGNAS
import Derived.Test.YtpcjkfppacnkgaaGreatDoorGNAV
import Derived.Test.YtpcjkfppacnkgaaGreatDoorGNAY
section
/- Plain data: what running gives, for the laws of runs. No program in sight; no condition. -/
set_option maxHeartbeats 1000000
namespace Go.Proofs.YtpcjkfppacnkgaaGreatDoor
open Go Go.RowKit

theorem runG0 (p : List GFunc) (s : GState) : runG p 0 s = (s, 0, 0) := by rw [runG]
theorem runG_over (p : List GFunc) (s : GState) (k : Nat) (h : s.now < 0) : runG p (k + 1) s = (s, 0, 0) := by rw [runG, if_pos h]
theorem runG_bad (p : List GFunc) (s : GState) (k : Nat) (h : ¬ s.now < 0) (e : (doneG p s).1 ≠ 0) : runG p (k + 1) s = (s, 0, (doneG p s).1) := by rw [runG, if_neg h, if_pos e]
theorem runG_on (p : List GFunc) (s : GState) (k : Nat) (h : ¬ s.now < 0) (e : (doneG p s).1 = 0) : runG p (k + 1) s = ((runG p k (doneG p s).2).1, (runG p k (doneG p s).2).2.1 + 1, (runG p k (doneG p s).2).2.2) := by rw [runG, if_neg h, if_neg (fun k => k e)]

theorem run_count (p : List GFunc) : ∀ (n : Nat) (s : GState), 0 ≤ (runG p n s).2.1 ∧ (runG p n s).2.1 ≤ n
  | 0, s => by rw [runG0]; simp
  | n + 1, s => by
    by_cases h : s.now < 0
    · rw [runG_over p s n h]; simp; omega
    · by_cases e : (doneG p s).1 = 0
      · rw [runG_on p s n h e]
        have := run_count p n (doneG p s).2
        simp only
        omega
      · rw [runG_bad p s n h e]; simp; omega

/-- Where running has stopped. -/
structure RanF (p : List GFunc) (n : Nat) (r : GState × Int × Int) : Prop where
  right : ∃ l, Ok p r.1 l
  fine : r.2.2 = 0 → r.2.1 = n ∨ r.1.now = -1
  bad : r.2.2 ≠ 0 → r.2.1 < n ∧ 0 ≤ r.1.now ∧ (doneG p r.1).1 = r.2.2
theorem run_ran {p : List GFunc} : ∀ (n : Nat) {s : GState} {l : List Int}, Ok p s l → RanF p n (runG p n s)
  | 0, s, l, h => by rw [runG0]; exact ⟨⟨l, h⟩, fun _ => .inl rfl, fun h => absurd rfl h⟩
  | n + 1, s, l, h => by
    by_cases h0 : s.now < 0
    · rw [runG_over p s n h0]
      exact ⟨⟨l, h⟩, fun _ => .inr (by have := h.now; show s.now = -1; omega), fun h => absurd rfl h⟩
    · by_cases e : (doneG p s).1 = 0
      · rw [runG_on p s n h0 e]
        obtain ⟨_, hr⟩ := step_right h (by omega)
        obtain ⟨l', h'⟩ : ∃ l', Ok p (doneG p s).2 l' := by
          rcases hr with ⟨_, h⟩ | h
          · exact h
          · omega
        obtain ⟨a, b, c⟩ := run_ran n h'
        refine ⟨a, fun h => (b h).imp (fun h => ?_) id, fun h => ?_⟩
        · simp only; omega
        · obtain ⟨c1, c2, c3⟩ := c h
          exact ⟨by simp only; omega, c2, c3⟩
      · rw [runG_bad p s n h0 e]
        exact ⟨⟨l, h⟩, fun h => absurd h e, fun _ => ⟨by simp only; omega, by simp only; omega, rfl⟩⟩

/-- A program's first state is right. -/
theorem begin_ok {p : List GFunc} (h : progErr p = 0) : Ok p (beginG p) [0] := by
  have hP := progErr_zero h
  have hpos := hP.pos
  obtain ⟨_, _, hr⟩ := funcErr_zero (hP.func 0 hpos)
  have hl := (hr hpos).locals
  have hF : funcOf p 0 = p[0] := by unfold funcOf; simp [List.getD, List.getElem?_eq_getElem hpos]
  have hloc : ((List.replicate (funcOf p 0).locals.toNat (0 : Int)).length : Int) = (funcOf p 0).locals := by rw [List.length_replicate, hF]; have e1 : p[0] = p[(((0 : Nat) : Int)).toNat] := rfl; rw [e1]; omega
  obtain ⟨n1, n2⟩ := new_full hP (f := 0) (Int.le_refl 0) (by omega) hloc
  have key : ∀ k, k < 1 → k = 0 := fun k hk => by omega
  refine ⟨h, by show 1 ≤ 5; omega, by show 0 ≤ 30; omega, fun k hk => ?_, by show 0 < 1; omega, by show (-1 : Int) ≤ 0 ∧ (0 : Int) ≤ ((1 : Nat) : Int) - 1; omega, fun k hk => ?_, ?_, by decide, fun h0 => absurd (by simp) h0, fun k hk => ?_⟩
  · obtain rfl := key k hk
    show 1 ≤ 6; omega
  · obtain rfl := key k hk
    show (-1 : Int) ≤ -1 ∧ (-1 : Int) ≤ ((1 : Nat) : Int) - 1; omega
  · exact ⟨rfl, Int.le_refl 0, by simp, show (-1 : Int) < 0 by decide⟩
  · obtain rfl := key k hk
    show fiberB p ⟨[freshFrame p 0], -1⟩ (decide (((0 : Nat) : Int) ∈ [(0 : Int)])) (decide (((0 : Nat) : Int) = 0)) = true
    rw [decide_eq_true (show ((0 : Nat) : Int) ∈ [(0 : Int)] by simp), decide_eq_true (show ((0 : Nat) : Int) = 0 by rfl)]
    exact fiber_join (fs := []) (x := freshFrame p 0) rfl (fun j hj => absurd hj (by simp)) n1 (topB_runs n2)
end Go.Proofs.YtpcjkfppacnkgaaGreatDoor
end
section
/- The engine of package step: its box, and its top frame. -/
set_option maxHeartbeats 4000000
set_option maxRecDepth 100000
namespace Go.Proofs.YtpcjkfppacnkgaaGreatDoor
open Go Go.RowKit

/-- An engine's box: where its state lies, and the program. -/
structure Eng (w : World) (eb b : Nat) (p : List GFunc) (a : Option Addr) (cap : Nat) : Prop where
  e0 : Cx w eb 0 (.pointer (some ⟨b, 0, none⟩))
  e1 : Cx w eb 1 (.slice a p.length cap)
theorem Eng.ext {w w' : World} {eb b : Nat} {p : List GFunc} {a : Option Addr} {cap : Nat} (h : Eng w eb b p a cap) (he : Ext w w') : Eng w' eb b p a cap := ⟨h.e0.ext he, h.e1.ext he⟩

theorem engTop_any {P : PState} {L R : List PFiber} {y : PFiber} {F : List PFrame} {x : PFrame} {w : World} {B b g o cap : Nat} {eb : Nat} {p : List GFunc} {a : Option Addr} {cp : Nat} (h : OwnS w B b P)
    (hE : Eng w eb b p a cp) (hs : Spot P L y R F x) (hv : y.vf = .slice (some ⟨g, o, none⟩) (F ++ [x]).length cap) (hnow : P.now = (L.length : Int)) :
    Calls Tryz.prog 158 #[.pointer (some ⟨eb, 0, none⟩)] w fun e w' => e = .returned (.pointer (some ⟨g, o + F.length * 4, none⟩)) ∧ Ext w w' := by
  have hrow := h.row
  have hfew := h.few
  rw [hs.fs] at hrow hfew
  obtain ⟨⟨c0, -⟩, ⟨c1, -⟩, -⟩ := (⟨h.c0, h.c1, h.c2⟩ : _ ∧ _ ∧ _)
  obtain ⟨⟨x0, -⟩, -⟩ := hE
  rw [hnow] at c1
  obtain ⟨g0, o0, cap0, e0, hb0, hc0, hm0, hx0⟩ := RowAt.place fiberF (fun _ => rfl) hrow
  rw [e0] at c0
  obtain ⟨d0, -⟩ := hx0 0 _ (by decide) rfl
  rw [hv, Nat.add_zero] at d0
  have hnk : L.length < (L ++ y :: R).length := by simp
  have hfr : (F ++ [x]).length ≤ 1000 := by
    have := (h.fs y (by rw [hs.fs]; simp)).few
    rwa [hs.fr] at this
  have hm1 : (F ++ [x]).length = F.length + 1 := by simp
  have hmN : F.length < (F ++ [x]).length := by omega
  have KK : IntKind.i64.wrap (((F ++ [x]).length : Int) - 1) = (F.length : Int) := by
    have e : (((F ++ [x]).length : Int) - 1) = (F.length : Int) := by omega
    rw [e]; exact IntWalk.i64_in _ (by omega)
  clear hrow hx0 hb0 hm0 hm1 hs hv hnow
  have RA := alloc_keep
  generalize L.length = n at *
  generalize F.length = m at *
  generalize (L ++ y :: R).length = nk at *
  generalize (F ++ [x]).length = mk at *
  go_enter Tryz.func158, Tryz.ntmps158
  go_upto_region 1 with fail
  refine wp_region_ext (by kernel_rfl) (by kernel_rfl) ?_
  repeat (first
    | go_big_quiet_skip
    | (go_big_quiet_want
       unfold Oper.quiet
       apply Exists.intro
       refine ⟨fun w' hw' => ?_, ?_⟩
       focus
         have hcq := Ext.keep hw'
         go_simp
         first
           | with_reducible rfl
           
       (try dsimp only [Act.put])
       (try simp only [List.setIfInBounds_toArray, List.set_cons_succ, List.set_cons_zero])
       go_big_quiet_on))
  refine wpQuiet_nil ?_
  intro wq hq
  go_wp2_with fail
  go_ret
  exact ⟨rfl, hq⟩
end Go.Proofs.YtpcjkfppacnkgaaGreatDoor
end
section
/- The engine of package step: push. -/
set_option maxHeartbeats 4000000
set_option maxRecDepth 100000
namespace Go.Proofs.YtpcjkfppacnkgaaGreatDoor
open Go Go.RowKit

theorem src_given {w : World} {b o c : Nat} {v : Int} (h : w.cell? ⟨b, o, none⟩ = some (.int .i64 v)) : SrcSl w 1 (.slice (some ⟨b, o, none⟩) 1 c) 1 (ints [v]) := by
  refine ⟨_, _, rfl, by simp [ints], fun u hu => by simp [ints] at hu; subst hu; rfl, .inr ⟨_, rfl, fun j u hj => ?_⟩⟩
  cases j with
  | zero => simp [ints] at hj; subst hj; exact h
  | succ j => simp [ints] at hj

theorem engPush_at {P : PState} {L R : List PFiber} {y : PFiber} {F : List PFrame} {x : PFrame} {w : World} {B b eb : Nat} {p : List GFunc} {a : Option Addr} {cp lb lo lc : Nat} (h : OwnS w B b P) (hE : Eng w eb b p a cp) (hs : Spot P L y R F x) (hnow : P.now = (L.length : Int)) (v : Int) (hv : I64 v) (hlen : x.f.stack.length < 1000) (hc : w.cell? ⟨lb, lo, none⟩ = some (.int .i64 v)) :
    Calls Tryz.prog 159 #[.pointer (some ⟨eb, 0, none⟩), .slice (some ⟨lb, lo, none⟩) 1 lc] w fun e w' => e = .returned (.tuple #[]) ∧ (∃ v1, OwnS w' B b (replTop P L y R F ⟨{ x.f with stack := x.f.stack ++ [v] }, x.vl, v1⟩) ∧ (rowBlock v1 = rowBlock x.vs ∨ ∀ k, rowBlock v1 = some k → w.heap.size ≤ k)) ∧
      Chg (fun k => rowBlock y.vf = some k ∨ rowBlock x.vs = some k) w w' := by
  obtain ⟨g, o, cap, e1, hcap, hmax, -, -, -, d3, hbl⟩ := h.spot hs
  have hx := (h.fs y (by rw [hs.fs]; simp)).fr x (by rw [hs.fr]; simp)
  have H := Lib.hid h
  have HB : Hid (B ≤ w.heap.size) := Nat.le_trans h.le (Nat.le_of_lt h.c0.lt)
  have HX := Lib.hid hx
  have D3 := Lib.hid d3
  have HE1 := Lib.hid e1
  obtain ⟨i0, hi0, hz0, hz1, hz2⟩ := info_parts infoI
  have RA := alloc_keep
  obtain ⟨as_, cs, es, hcs, hms⟩ := hx.s.shape
  have HES := Lib.hid es
  have HENG := Lib.hid hE
  have HC := Lib.hid hc
  have HXS : Hid (RowAt w B 1 (.slice as_ x.f.stack.length cs) x.f.stack.length (ints x.f.stack)) := by unfold Hid; rw [← es]; exact hx.s
  have HGX : Hid (¬ rowBlock (.slice as_ x.f.stack.length cs) = some g) := by unfold Hid; rw [← es]; exact fun e => (h.sep hs).1 g hbl (by unfold PFrame.bl; simp [e])
  clear hc hE h hx d3 e1 hcap hmax es hcs hms
  go_enter Tryz.func159, Tryz.ntmps159
  go_upto_region 1 with (first
    | (go_at_call 158; (with_reducible refine (engTop_any H.out HENG.out hs HE1.out hnow).mono ?_); rintro e w2 ⟨rfl, hx2⟩))
  have HX2 := Lib.hid hx2
  obtain ⟨d3, d3'⟩ := D3.out.ext hx2
  rw [HES.out] at d3
  have HS2 : Hid (B ≤ w2.heap.size) := Nat.le_trans HB.out hx2.size
  clear hx2
  go_wp2_with (first
    | (at_builtin; refine wpList_append_row rfl _ _ 30 rfl B 3 i0 (.int .i64 0) 1 8 Tryz.underlying30 hi0 hz0 hz1 hz2 rfl (by decide) _ _ _ rfl (by exact (HXS.out.ext (HX2.out) (by decide))) 1 (ints [v]) (src_given (Ext.cell HX2.out HC.out)) (by unfold maxLen; omega) (by omega) (by exact Nat.le_trans HS2.out (Nat.le_refl _)) ?_; intro v1 Wv1 rv1; have RV := Lib.hid rv1; obtain ⟨k0, k0'⟩ := (D3.out.ext (HX2.out)).chg rv1.2.1 HGX.out; obtain ⟨a9, cap9, rfl, _, _⟩ := rv1.1.shape; clear rv1))
  go_end0
  have hRV : NewRow w2 Wv1 B 1 (.slice as_ x.f.stack.length cs) (.slice a9 (x.f.stack.length + 1) cap9) (x.f.stack.length + 1) (ints x.f.stack ++ ints [v]) := RV.out
  have hA : Ext w w2 := HX2.out
  obtain ⟨r1, r2, r3⟩ := hRV
  have hfin := H.out.stack hs HE1.out (W1 := Wv1) (st := x.f.stack ++ [v]) (v1 := .slice a9 (x.f.stack.length + 1) cap9)
    ((Chg.of_ext hA).trans (r2.mono (fun k _ e => by rw [HES.out]; exact e)))
    (by rw [List.length_append, List.length_singleton, ints_app]; exact r1) (fun k hk => by rcases List.mem_append.1 hk with h1 | h1; exact HX.out.i.2.2.2 k h1; rw [List.mem_singleton.1 h1]; exact hv)
    (by rw [List.length_append, List.length_singleton]; omega) (r3.imp (fun e => by rw [HES.out]; exact e) (fun e k hk => Nat.le_trans hA.size (e k hk)))
  exact ⟨rfl, ⟨_, hfin.1, r3.imp (fun e => by rw [HES.out]; exact e) (fun e k hk => Nat.le_trans hA.size (e k hk))⟩, hfin.2⟩

end Go.Proofs.YtpcjkfppacnkgaaGreatDoor
end
section
/- The engine of package step: slices.Clone of a row of ints, pull, one. -/
set_option maxHeartbeats 4000000
set_option maxRecDepth 100000
namespace Go.Proofs.YtpcjkfppacnkgaaGreatDoor
open Go Go.RowKit

theorem Ints.srcV {w : World} {S : Nat → Prop} {v : Value} {l : List Int} (h : Ints w S v l) : SrcSl w 1 v l.length (ints l) := by have := h.src; rwa [flatMap_intF] at this
theorem src_up {w w' : World} {size : Nat} {x : Value} {m : Nat} {news : List Value} (h : SrcSl w size x m news) (he : Ext w w') : SrcSl w' size x m news := by
  obtain ⟨a, c, rfl, h1, h2, h3⟩ := h
  refine ⟨a, c, rfl, h1, h2, h3.imp id fun ⟨ad, ha, hc⟩ => ⟨ad, ha, fun j u hj => ?_⟩⟩
  have hcj := hc j u hj
  exact (Ext.keep he _ (by rw [hcj]; rfl)).trans hcj
theorem row_ext {W W' : World} {base size n : Nat} {a : Option Addr} {v' : Value} {xs : List Value} (h : NewRow W W' base size (.slice a 0 0) v' n xs) : Ext W W' := h.2.1.ext (fun k _ e => by cases a <;> simp [rowBlock] at e)

theorem cloneI_any (l : List Int) (v : Value) (S : Nat → Prop) (w : World) (hl : Ints w S v l) (hn : l.length ≤ 1000) :
    Calls Tryz.prog 129 #[v] w fun e w' => (∃ v1, e = .returned v1 ∧ RowAt w' w.heap.size 1 v1 l.length (ints l)) ∧ Ext w w' := by
  have HSRC := Lib.hid hl.srcV
  obtain ⟨a, c, rfl, hc, hb, hel⟩ := hl
  obtain ⟨i0, hi0, hz0, hz1, hz2⟩ := info_parts infoI
  have RA := alloc_keep
  cases a with
  | none =>
    have hl0 : l = [] := by
      cases l with
      | nil => rfl
      | cons x l => obtain ⟨b, o, e, _⟩ := hel 0 (by simp); cases e
    subst hl0
    have hbn : ∀ w, (binOp .eql 30 (.slice none 0 c) (.slice none 0 0)).run Tryz.prog w = .ok (.bool true) w := fun w => by kernel_rfl
    clear hel hc hb
    go_enter Tryz.func129, Tryz.ntmps129
    go_wp2_with fail
    go_ret
    exact ⟨⟨_, rfl, RowAt.nil _ _ _ _⟩, Ext.refl _⟩
  | some ad =>
    have hbn : ∀ w, (binOp .eql 30 (.slice (some ad) l.length c) (.slice none 0 0)).run Tryz.prog w = .ok (.bool false) w := fun w => by kernel_rfl
    clear hel
    go_enter Tryz.func129, Tryz.ntmps129
    go_wp2_with (first
      | (at_builtin; refine wpList_append_row rfl _ _ 30 rfl w.heap.size 3 i0 (.int .i64 0) 1 8 Tryz.underlying30 hi0 hz0 hz1 hz2 rfl (by decide) _ _ _ rfl (RowAt.nil _ _ _ _) l.length (ints l) (src_up HSRC.out (by ((repeat (first | assumption | exact Ext.refl _ | (exact And.left (by assumption)) | refine Ext.alloc ?_ _ | refine Ext.drew ?_ | refine Ext.drewN ?_ _ | refine Ext.setCell ?_ (by simp) _ | refine Ext.setCell ?_ (by simp; omega) _ | refine Ext.trans ?_ (by assumption))); done))) (by unfold maxLen; omega) (by omega) (by exact Ext.size (by ((repeat (first | assumption | exact Ext.refl _ | (exact And.left (by assumption)) | refine Ext.alloc ?_ _ | refine Ext.drew ?_ | refine Ext.drewN ?_ _ | refine Ext.setCell ?_ (by simp) _ | refine Ext.setCell ?_ (by simp; omega) _ | refine Ext.trans ?_ (by assumption))); done))) ?_; intro v1 Wv1 rv1; have RV := Lib.hid rv1; have hxv := row_ext rv1; obtain ⟨a9, cap9, rfl, _, _⟩ := rv1.1.shape; clear rv1))
    go_ret
    have hR := RV.out
    rw [Nat.zero_add, List.nil_append] at hR
    exact ⟨⟨_, rfl, hR.1⟩, by ((repeat (first | assumption | exact Ext.refl _ | (exact And.left (by assumption)) | refine Ext.alloc ?_ _ | refine Ext.drew ?_ | refine Ext.drewN ?_ _ | refine Ext.setCell ?_ (by simp) _ | refine Ext.setCell ?_ (by simp; omega) _ | refine Ext.trans ?_ (by assumption))); done)⟩

/-- The tail of a row, as a slice. -/
theorem RowAt.hind {w : World} {base : Nat} {a : Option Addr} {n cap : Nat} {l : List Int} (h : RowAt w base 1 (.slice a n cap) l.length (ints l)) (hI : ∀ k ∈ l, I64 k) (hl : l.length ≤ 1000) (m : Nat) (hm : m ≤ l.length) :
    Ints w (fun _ => True) (.slice (if cap = m then a else a.map (·.add m)) (n - m) (cap - m)) (l.drop m) := by
  obtain ⟨_, a', cap', e, h1, h2, h3⟩ := h
  simp only [Value.slice.injEq] at e
  obtain ⟨rfl, rfl, rfl⟩ := e
  unfold maxLen at h2
  refine ⟨_, cap - m, by rw [List.length_drop], by rw [List.length_drop]; omega, ⟨by rw [List.length_drop]; omega, by omega⟩, fun i hi => ?_⟩
  rw [List.length_drop] at hi
  obtain ⟨g, o, rfl, _, hc, _⟩ := h3.resolve_left (by omega)
  rw [if_neg (by omega)]
  refine ⟨g, o + m, by simp [Addr.add], trivial, ?_, hI _ (List.mem_of_mem_drop (List.getElem_mem _))⟩
  have := hc (m + i) (by omega)
  rw [← Nat.add_assoc] at this
  rw [Nat.mul_one, this, List.getElem_drop]
  unfold Proofs.YtpcjkfppacnkgaaGreatDoor.ints
  rw [List.getElem?_map, List.getElem?_eq_getElem (by omega)]
  rfl
theorem RowAt.front {w : World} {base n cap : Nat} {a : Option Addr} {l : List Int} (h : RowAt w base 1 (.slice a n cap) l.length (ints l)) (m : Nat) (hm : m ≤ l.length) : RowAt w base 1 (.slice a m cap) (l.take m).length (ints (l.take m)) := by
  obtain ⟨hl, a', cap', e, h1, h2, h3⟩ := h
  simp only [Value.slice.injEq] at e
  obtain ⟨rfl, rfl, rfl⟩ := e
  have hlen : (l.take m).length = m := by rw [List.length_take]; omega
  refine ⟨by rw [ints_len, Nat.mul_one], _, _, by rw [hlen], by rw [hlen]; omega, h2, ?_⟩
  rcases h3 with h3 | ⟨g, o, rfl, hb, hc, ht⟩
  · exact .inl h3
  · refine .inr ⟨g, o, rfl, hb, fun j hj => ?_, ht⟩
    rw [hlen, Nat.mul_one] at hj
    rw [hc j (by omega)]
    unfold Proofs.YtpcjkfppacnkgaaGreatDoor.ints
    rw [List.getElem?_map, List.getElem?_map, List.getElem?_take, if_pos hj]

theorem engPull_at {P : PState} {L R : List PFiber} {y : PFiber} {F : List PFrame} {x : PFrame} {w : World} {B b eb : Nat} {p : List GFunc} {a : Option Addr} {cp : Nat} (h : OwnS w B b P) (hE : Eng w eb b p a cp) (hs : Spot P L y R F x) (hnw : P.now = (L.length : Int)) (n : Nat) (hn : n ≤ x.f.stack.length) :
    Calls Tryz.prog 160 #[.pointer (some ⟨eb, 0, none⟩), .int .i64 n] w fun e w' => ∃ v1, e = .returned v1 ∧ Ints w' (w.heap.size ≤ ·) v1 (x.f.stack.drop (x.f.stack.length - n)) ∧
      (∃ v2, OwnS w' B b (replTop P L y R F ⟨{ x.f with stack := x.f.stack.take (x.f.stack.length - n) }, x.vl, v2⟩) ∧ rowBlock v2 = rowBlock x.vs) ∧ Chg (fun k => rowBlock y.vf = some k ∨ rowBlock x.vs = some k) w w' := by
  obtain ⟨g, o, cap, e1, hcap, hmax, -, -, -, d3, hbl⟩ := h.spot hs
  have hx := (h.fs y (by rw [hs.fs]; simp)).fr x (by rw [hs.fr]; simp)
  have hrow := hx.s
  obtain ⟨as_, cs, es, hcs, hms⟩ := hrow.shape
  rw [es] at hrow
  rw [es] at d3
  have hfew := hx.few.2
  obtain ⟨m, hm⟩ : ∃ m, x.f.stack.length - n = m := ⟨_, rfl⟩
  have hmn : m + n = x.f.stack.length := by omega
  have htail := hrow.hind hx.i.2.2.2 hfew m (by omega)
  have hfront := hrow.front m (by omega)
  have KK : IntKind.i64.wrap ((x.f.stack.length : Int) - (n : Int)) = (m : Int) := by
    have e : ((x.f.stack.length : Int) - (n : Int)) = (m : Int) := by omega
    rw [e]; exact IntWalk.i64_in _ (by omega)
  have H := Lib.hid h
  have HX := Lib.hid hx
  have HE := Lib.hid hE
  have D3 := Lib.hid d3
  have HE1 := Lib.hid e1
  have HES := Lib.hid es
  have HT := Lib.hid htail
  have HFR := Lib.hid hfront
  have HDL : Hid ((x.f.stack.drop m).length = n) := by unfold Hid; rw [List.length_drop]; omega
  have HBK : Hid (rowBlock (.slice as_ m cs) = rowBlock x.vs) := by unfold Hid; rw [es]; cases as_ <;> rfl
  have HDE : Hid ((x.f.stack.drop m).length ≤ 1000) := by unfold Hid; rw [List.length_drop]; omega
  have HTL : Hid ((x.f.stack.take m).length = m) := by unfold Hid; rw [List.length_take]; omega
  have HMM : Hid (x.f.stack.length - n = m) := hm
  have hmN : m ≤ x.f.stack.length := by omega
  have hmC : m ≤ cs := by omega
  rw [hm]
  clear h hx hE d3 e1 hcap hmax es hrow htail hfront hm hmn hn
  have RA := alloc_keep
  generalize hN : x.f.stack.length = N at *
  have HN := Lib.hid hN
  clear hN
  go_enter Tryz.func160, Tryz.ntmps160
  go_upto_region 2 with (first
    | (go_at_call 158; (with_reducible refine (engTop_any H.out HE.out hs HE1.out hnw).mono ?_); rintro e w2 ⟨rfl, hx2⟩))
  have HX2 := Lib.hid hx2
  obtain ⟨d3, d3'⟩ := D3.out.ext hx2
  have HT2 := Lib.hid (Ints.stays (Ext.stays hx2) HT.out)
  clear hx2
  rcases Classical.em (cs = m) with hcm | hcm
  all_goals (first | (subst hcm; (obtain rfl : N = cs := by omega); rw [if_pos rfl, Nat.sub_self] at HT2) | rw [if_neg hcm] at HT2)
  all_goals (
    go_upto_region 4 with (first
      | (go_at_call 129; (with_reducible refine (cloneI_any (x.f.stack.drop _) _ (fun _ => True) _ HT2.out HDE.out).mono ?_); rintro e w3 ⟨⟨v1, rfl, hr3⟩, hx3⟩))
    have HX3 := Lib.hid hx3
    have HR3 := Lib.hid hr3
    obtain ⟨d4, d4'⟩ := Cx.ext (W := w2) ⟨d3, d3'⟩ hx3
    clear d3 d3' hx3 hr3
    go_wp2_with fail
    go_ret
    have hE : Ext w w3 := HX2.out.trans HX3.out
    have hgw : g < w2.heap.size := lt_of_cell (HX2.out.cell (D3.out.1))
    have hrow := fun u => HR3.out.chg (chg_one w3 g (o + F.length * 4 + 3) u) (fun k hk e => by have e : k = g := e; have := HR3.out.le k hk; omega) (by decide)
    have hfin := H.out.stack hs HE1.out (W1 := w3) (Chg.of_ext hE) (HFR.out.ext hE (by decide)) (fun k hk => HX.out.i.2.2.2 k (List.mem_of_mem_take hk)) (by rw [HTL.out]; omega) (.inl HBK.out)
    refine ⟨v1, rfl, ?_, ⟨_, hfin.1, HBK.out⟩, hfin.2⟩
    exact Ints.of_row (by rw [flatMap_intF]; exact hrow _) (by have := HDE.out; omega) (fun k hk => HX.out.i.2.2.2 k (List.mem_of_mem_drop hk)) _ (fun k hk _ => Nat.le_trans HX2.out.size hk))

theorem engPull_any {P : PState} {w : World} {B b eb : Nat} {p : List GFunc} {a : Option Addr} {cp : Nat} (h : OwnS w B b P) (hE : Eng w eb b p a cp) (ht : HasTop P.g P.g.now) (n : Nat) (hn : n ≤ (curX P.g).stack.length) :
    Calls Tryz.prog 160 #[.pointer (some ⟨eb, 0, none⟩), .int .i64 n] w fun e w' => ∃ v1, e = .returned v1 ∧ Ints w' (w.heap.size ≤ ·) v1 ((curX P.g).stack.drop ((curX P.g).stack.length - n)) ∧ Turn w w' B b P (leaveG P.g n) := by
  obtain ⟨L, y, R, F, x, hs, hnw⟩ := hasSpot ht
  have hnw : P.now = (L.length : Int) := hnw
  have hcx := curX_at hs hnw
  rw [hcx] at hn ⊢
  refine (engPull_at h hE hs hnw n hn).mono ?_
  rintro e w' ⟨v1, rfl, hv, ⟨v2, o2, hb2⟩, hc⟩
  exact ⟨v1, rfl, hv, ⟨⟨_, o2, (modTop_at hs hnw rfl).symm, repl_bl hs (frame_bl (.inl hb2))⟩, chg_spot hs hc⟩⟩
theorem engPull_k {P : PState} {w : World} {B b eb : Nat} {p : List GFunc} {a : Option Addr} {cp : Nat} (h : OwnS w B b P) (hE : Eng w eb b p a cp) (ht : HasTop P.g P.g.now) (n : Nat) (hn : n ≤ (curX P.g).stack.length) (k : Int) (hk : k = n) :
    Calls Tryz.prog 160 #[.pointer (some ⟨eb, 0, none⟩), .int .i64 k] w fun e w' => ∃ v1, e = .returned v1 ∧ Ints w' (w.heap.size ≤ ·) v1 ((curX P.g).stack.drop ((curX P.g).stack.length - n)) ∧ Turn w w' B b P (leaveG P.g n) := by
  subst hk
  exact engPull_any h hE ht n hn
theorem leave_one (s : GState) : leaveG s 1 = popG s := by rw [leave_succ, leave_zero]
theorem drop_last (l : List Int) (h : 1 ≤ l.length) : l.drop (l.length - 1) = [l.getD (l.length - 1) 0] := by
  obtain ⟨F, x, rfl⟩ := split_last l (by omega)
  rw [getD_last _ _ _ _ rfl]
  simp
theorem engOne_any {P : PState} {w : World} {B b eb : Nat} {p : List GFunc} {a : Option Addr} {cp : Nat} (h : OwnS w B b P) (hE : Eng w eb b p a cp) (ht : HasTop P.g P.g.now) (hn : 1 ≤ (curX P.g).stack.length) :
    Calls Tryz.prog 161 #[.pointer (some ⟨eb, 0, none⟩)] w fun e w' => e = .returned (.int .i64 (lastV P.g)) ∧ Turn w w' B b P (popG P.g) := by
  have H := Lib.hid h
  have HE := Lib.hid hE
  have HT := Lib.hid ht
  have HN := Lib.hid hn
  have HD := Lib.hid (drop_last _ hn)
  clear h hE ht hn
  have RA := alloc_keep
  go_enter Tryz.func161, Tryz.ntmps161
  go_wp2_with (first
    | (go_at_call 160; (with_reducible refine (engPull_k H.out HE.out HT.out 1 HN.out 1 rfl).mono ?_); rintro e w2 ⟨v1, rfl, hv, t2⟩; rw [HD.out] at hv; rw [leave_one] at t2; obtain ⟨b1, o1, c1, rfl, _, _, _, hc1, _⟩ := Sl.get hv (i := 0) (by simp); simp only [Nat.zero_mul, Nat.add_zero, List.getElem_cons_zero] at hc1))
  go_ret
  exact ⟨rfl, t2⟩

/-- One value is pulled: where it stood. -/
theorem engOne_at {P : PState} {L R : List PFiber} {y : PFiber} {F : List PFrame} {x : PFrame} {w : World} {B b eb : Nat} {p : List GFunc} {a : Option Addr} {cp : Nat} (h : OwnS w B b P) (hE : Eng w eb b p a cp) (hs : Spot P L y R F x) (hnw : P.now = (L.length : Int)) (hn : 1 ≤ x.f.stack.length) :
    Calls Tryz.prog 161 #[.pointer (some ⟨eb, 0, none⟩)] w fun e w' => e = .returned (.int .i64 (x.f.stack.getD (x.f.stack.length - 1) 0)) ∧
      (∃ v2, OwnS w' B b (replTop P L y R F ⟨{ x.f with stack := x.f.stack.dropLast }, x.vl, v2⟩) ∧ rowBlock v2 = rowBlock x.vs) ∧ Chg (fun k => rowBlock y.vf = some k ∨ rowBlock x.vs = some k) w w' := by
  have H := Lib.hid h
  have HE := Lib.hid hE
  have HS := Lib.hid hs
  have HNW := Lib.hid hnw
  have HN := Lib.hid hn
  have HD := Lib.hid (drop_last _ hn)
  clear h hE hs hnw hn
  have RA := alloc_keep
  have pk := fun (W : World) (h : OwnS W B b P) (hE : Eng W eb b p a cp) => engPull_at h hE HS.out HNW.out 1 HN.out
  have PK := Lib.hid pk
  clear pk
  go_enter Tryz.func161, Tryz.ntmps161
  go_wp2_with (first
    | (go_at_call 160; (refine (PK.out _ H.out HE.out).mono ?_); rintro e w2 ⟨v1, rfl, hv, t2, c2⟩; rw [HD.out] at hv; obtain ⟨b1, o1, c1, rfl, _, _, _, hc1, _⟩ := Sl.get hv (i := 0) (by simp); simp only [Nat.zero_mul, Nat.add_zero, List.getElem_cons_zero] at hc1; have HT2 := Lib.hid t2; clear t2))
  go_ret
  obtain ⟨v2, o2, hb2⟩ := HT2.out
  rw [← List.dropLast_eq_take] at o2
  exact ⟨rfl, ⟨v2, o2, hb2⟩, c2⟩
end Go.Proofs.YtpcjkfppacnkgaaGreatDoor
end
