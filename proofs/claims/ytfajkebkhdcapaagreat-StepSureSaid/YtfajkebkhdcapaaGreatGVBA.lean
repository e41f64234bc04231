/- Merged texts: contracts and plain facts, one part behind another; each part begins with what it says. -/
import Derived.Test.YtfajkebkhdcapaaGreatGVAC
import Derived.Test.YtfajkebkhdcapaaGreatGVAP
import Derived.Test.YtfajkebkhdcapaaGreatGVAZ
section
/- Plain facts of a step that stays in its frame, for the law StepSure. -/
namespace Go.Proofs.YtfajkebkhdcapaaGreat
set_option maxHeartbeats 1000000

/-- What a step does that stays in its frame. -/
structure SureF (p : List GFunc) (s t : GState) (k : Nat) (fs : List GFrame) (x x' : GFrame) : Prop where
  eq : doS p s = (0, t)
  now : t.now = k
  len : t.fibers.length = s.fibers.length
  frames : (t.fibers.getD k default).frames = fs ++ [x']
  func : x'.func = x.func
  goes : ∃ i ∈ nx (opAt p x) x.at_.toNat, x'.at_ = (i : Nat)
  stack : (x'.stack.length : Int) = nOf p (opAt p x) x.stack.length
  out : t.out.length = s.out.length
theorem sureS {p : List GFunc} {s : GState} (hz : stateErr p s = 0) (h0 : 0 ≤ s.now) : ∃ (k : Nat) (fs : List GFrame) (x : GFrame), s.now = k ∧ k < s.fibers.length ∧ (s.fibers.getD k default).frames = fs ++ [x] ∧ s.fibers.length ≤ 5 ∧ fs.length ≤ 5 ∧ s.out.length ≤ 30 ∧
    (funcOf p x.func).code.length ≤ 24 ∧ OpF p x (opAt p x) ∧ ((opAt p x).kind ≤ 10 → ∃ t x', SureF p s t k fs x x') := by
  obtain ⟨l, hl⟩ := ok_of_err hz
  obtain ⟨k, fs, x, hA, hF, hS⟩ := step_stays hl h0
  have h6 := hl.frames k hA.lt
  rw [hA.frames] at h6
  simp only [List.length_append, List.length_singleton] at h6
  have h24 := (right_hf (progErr_zero hl.prog) hF.fn.1 hF.fn.2).1.len
  refine ⟨k, fs, x, hA.now, hA.lt, hA.frames, hl.few, by omega, hl.out, h24, hF, fun hk => ?_⟩
  obtain ⟨a1, a2, a3, x', a4, a5, ⟨i, hi, a6⟩, a7⟩ := hS hk
  have hd : doS p s = (0, (doneG p s).2) := by
    rcases doS_on hz h0 with ⟨b1, _, b3, _⟩ | ⟨_, b2, b3⟩
    · exact Prod.ext b1 b3
    · omega
  exact ⟨_, x', hd, a4.now, a2.len, a4.frames, a5, ⟨i, hi, a6⟩, a7, by rw [a3]⟩

/-- What a right op has to say of Effect. -/
theorem OpF.effect {p : List GFunc} {x : GFrame} {o : GOp} (h : OpF p x o) (hk : o.kind ≤ 10) : effErr p o = 0 ∧ effTakes p o = takesOf p o ∧ effLeaves p o = leavesOf o := by
  have e : effErr p o = 0 := by
    have := h.kind
    unfold effErr
    rw [if_neg (by omega), if_neg (by omega)]
  unfold effTakes effLeaves
  rw [if_pos e, if_pos e]
  exact ⟨e, rfl, rfl⟩
end Go.Proofs.YtfajkebkhdcapaaGreat
end
section
/- Plain facts and readings for StepBack. -/
namespace Go.Proofs.YtfajkebkhdcapaaGreat
set_option maxHeartbeats 1000000
open Go Go.RowKit

theorem few3 {w : World} {S : Nat → Prop} {v : Value} {f : List GFiber} {n : Int} {o : List Int} (h : StateV w S v ⟨f, n, o⟩) : ∃ a c b d, v = .agg #[.slice a f.length c, .int .i64 n, .slice b o.length d] := h.few
theorem fewO {w : World} {B : Nat} {v : Value} {f : List GFiber} {n : Int} {o : List Int} (h : StateO w B v ⟨f, n, o⟩) : ∃ a c b d, v = .agg #[.slice a f.length c, .int .i64 n, .slice b o.length d] := h.few

/-- A fiber of a row: its frames, its caller. -/
theorem Fibers.cells {w : World} {S : Nat → Prop} {a : Option Addr} {n c : Nat} {l : List GFiber} (h : Fibers w S (.slice a n c) l) {i : Nat} (hi : i < l.length) :
    ∃ g o, a = some ⟨g, o, none⟩ ∧ (∃ vf, w.cell? ⟨g, o + i * 2, none⟩ = some vf ∧ Frames w S vf (l.getD i default).frames) ∧ w.cell? ⟨g, o + i * 2 + 1, none⟩ = some (.int .i64 (l.getD i default).caller) := by
  obtain ⟨g, o, cap, e, _, _, h1, _, h2, _⟩ := h.get hi
  simp only [Value.slice.injEq] at e
  have e2 : l.getD i default = l[i] := by rw [List.getD_eq_getElem?_getD, List.getElem?_eq_getElem hi]; rfl
  rw [e2]
  exact ⟨g, o, e.1, h1, h2⟩
/-- The top frame of a row of frames. -/
theorem Frames.last {w : World} {S : Nat → Prop} {v : Value} {gs : List GFrame} {y : GFrame} (h : Frames w S v (gs ++ [y])) {J N : Nat} (hJ : gs.length = J) (hN : J + 1 = N) :
    ∃ g o c, v = .slice (some ⟨g, o, none⟩) N c ∧ N ≤ c ∧ N * 64 ≤ 140737488355328 ∧ w.cell? ⟨g, o + J * 4, none⟩ = some (.int .i64 y.func) ∧ w.cell? ⟨g, o + J * 4 + 1, none⟩ = some (.int .i64 y.at_) ∧
      (∃ la lc, w.cell? ⟨g, o + J * 4 + 2, none⟩ = some (.slice la y.locals.length lc)) ∧ ∃ sa sc, w.cell? ⟨g, o + J * 4 + 3, none⟩ = some (.slice sa y.stack.length sc) ∧ Ints w S (.slice sa y.stack.length sc) y.stack := by
  subst hJ hN
  have hl : (gs ++ [y]).length = gs.length + 1 := by simp
  obtain ⟨g, o, c, rfl, h1, h2, ⟨_, f1, _⟩, ⟨_, f2, _⟩, ⟨vl, f3, ⟨la, lc, rfl, _⟩⟩, vs, f4, f5⟩ := h.get (i := gs.length) (by rw [hl]; omega)
  have e : (gs ++ [y])[gs.length]'(by rw [hl]; omega) = y := by simp
  rw [e] at f1 f2 f3 f5
  rw [hl] at h1 h2
  have f6 := f5
  obtain ⟨sa, sc, rfl, _⟩ := f5
  exact ⟨g, o, c, by rw [hl], h1, h2.1, f1, f2, ⟨la, lc, f3⟩, sa, sc, f4, f6⟩

theorem Ints.bd {w : World} {S : Nat → Prop} {a : Option Addr} {n c : Nat} {l : List Int} (h : Ints w S (.slice a n c) l) : n ≤ c ∧ n * 8 ≤ 140737488355328 := by
  obtain ⟨a', c', e, h1, h2, _⟩ := h
  simp only [Value.slice.injEq] at e
  obtain ⟨-, rfl, rfl⟩ := e
  exact ⟨h1, h2.1⟩
theorem two_boxes (W : World) (a b : List Value) (t : TypeId) {x1 x3 y1 y3 : Value} (ha1 : a[1]? = some x1) (ha3 : a[3]? = some x3) (hb1 : b[1]? = some y1) (hb3 : b[3]? = some y3) :
    ((W.alloc (.cells a.toArray t)).alloc (.cells b.toArray t)).drew.cell? ⟨W.heap.size, 1, none⟩ = some x1 ∧ ((W.alloc (.cells a.toArray t)).alloc (.cells b.toArray t)).drew.cell? ⟨W.heap.size, 3, none⟩ = some x3 ∧
      ((W.alloc (.cells a.toArray t)).alloc (.cells b.toArray t)).drew.cell? ⟨W.heap.size + 1, 1, none⟩ = some y1 ∧ ((W.alloc (.cells a.toArray t)).alloc (.cells b.toArray t)).drew.cell? ⟨W.heap.size + 1, 3, none⟩ = some y3 := by
  have hs : (W.alloc (.cells a.toArray t)).heap.size = W.heap.size + 1 := Array.size_push _
  have e1 : Ext (W.alloc (.cells a.toArray t)) (((W.alloc (.cells a.toArray t)).alloc (.cells b.toArray t)).drew) := ((Ext.refl _).alloc _).drew
  have e2 : Ext ((W.alloc (.cells a.toArray t)).alloc (.cells b.toArray t)) (((W.alloc (.cells a.toArray t)).alloc (.cells b.toArray t)).drew) := (Ext.refl _).drew
  have c1 := ((Cx.new W a t ha1).ext e1).1
  have c3 := ((Cx.new W a t ha3).ext e1).1
  have d1 := ((Cx.new (W.alloc (.cells a.toArray t)) b t hb1).ext e2).1
  have d3 := ((Cx.new (W.alloc (.cells a.toArray t)) b t hb3).ext e2).1
  rw [hs] at d1 d3
  exact ⟨c1, c3, d1, d3⟩
end Go.Proofs.YtfajkebkhdcapaaGreat
end
section
/- Contract of op.Effect. -/
set_option maxHeartbeats 400000
set_option maxRecDepth 100000
namespace Go.Proofs.YtfajkebkhdcapaaGreat
open Go Go.RowKit

theorem effect_any (p : List GFunc) (v : Value) (S : Nat → Prop) (x : GOp) (w : World) (hp : Funcs w S v p) :
    Calls Tryz.prog 11 #[v, .agg #[.int .i64 x.kind, .int .i64 x.a]] w fun e w' => e = .returned (.tuple #[.int .i64 (effTakes p x), .int .i64 (effLeaves p x), .int .i64 (effErr p x)]) ∧ Ext w w' := by
  have e0 : Ext w (w.alloc (.cells #[.int .i64 x.kind, .int .i64 x.a] 43)) := (Ext.refl w).alloc _
  have hp0 := hp
  obtain ⟨a, cap, rfl, hcap, hby, hp⟩ := hp
  clear hp
  have HE : effErr p x = effErr p x := rfl
  conv at HE => rhs; unfold effErr
  unfold effTakes effLeaves
  by_cases hk : 0 ≤ x.kind ∧ x.kind ≤ 16
  · have KT := known_true hk.1 hk.2
    rw [if_neg (by omega)] at HE
    obtain ⟨hk, hk'⟩ := hk
    by_cases h11 : x.kind = 11 ∧ ¬ (0 ≤ x.a ∧ x.a < p.length)
    · rw [if_pos h11] at HE
      rw [HE, if_neg (by decide), if_neg (by decide)]
      obtain ⟨h11, hr⟩ := h11
      have T11 : (x.kind == 11) = true := by simp [h11]
      clear HE h11
      by_cases h0 : x.a < 0
      · go_enter Tryz.func11, Tryz.ntmps11
        go_wp2_with (first
          | (go_at_call 26; refine (known_any _ _).mono ?_; rintro e w1 ⟨rfl, rfl⟩))
        go_ret3
        exact ⟨rfl, e0⟩
      · have h1 : (p.length : Int) ≤ x.a := by omega
        go_enter Tryz.func11, Tryz.ntmps11
        go_wp2_with (first
          | (go_at_call 26; refine (known_any _ _).mono ?_; rintro e w1 ⟨rfl, rfl⟩))
        go_ret3
        exact ⟨rfl, e0⟩
    · rw [if_neg h11] at HE
      rw [HE, if_pos rfl, if_pos rfl]
      clear HE
      have hA : x.kind = 11 → 0 ≤ x.a ∧ x.a < p.length := fun h => by
        by_cases hr : 0 ≤ x.a ∧ x.a < p.length
        · exact hr
        · exact absurd ⟨h, hr⟩ h11
      have HA := Lib.hid hA
      clear h11
      by_cases h11 : x.kind = 11
      · obtain ⟨hr0, hr1⟩ := hA h11
        have T11 : (x.kind == 11) = true := by simp [h11]
        clear hA h11
        go_enter Tryz.func11, Tryz.ntmps11
        go_wp2_with (first
          | (go_at_call 26; refine (known_any _ _).mono ?_; rintro e w1 ⟨rfl, rfl⟩)
          | (go_at_call 27; refine (opOf_any p _ S x _ (Funcs.stays e0.stays hp0) hk hk' HA.out).mono ?_; rintro e w1 ⟨rfl, hb⟩))
        go_ret3
        exact ⟨rfl, by ((repeat (first | assumption | exact Ext.refl _ | (exact And.left (by assumption)) | refine Ext.alloc ?_ _ | refine Ext.drew ?_ | refine Ext.drewN ?_ _ | refine Ext.setCell ?_ (by simp) _ | refine Ext.setCell ?_ (by simp; omega) _ | refine Ext.trans ?_ (by assumption))); done)⟩
      · have T11 : (x.kind == 11) = false := by simp [h11]
        clear hA h11
        go_enter Tryz.func11, Tryz.ntmps11
        go_wp2_with (first
          | (go_at_call 26; refine (known_any _ _).mono ?_; rintro e w1 ⟨rfl, rfl⟩)
          | (go_at_call 27; refine (opOf_any p _ S x _ (Funcs.stays e0.stays hp0) hk hk' HA.out).mono ?_; rintro e w1 ⟨rfl, hb⟩))
        go_ret3
        exact ⟨rfl, by ((repeat (first | assumption | exact Ext.refl _ | (exact And.left (by assumption)) | refine Ext.alloc ?_ _ | refine Ext.drew ?_ | refine Ext.drewN ?_ _ | refine Ext.setCell ?_ (by simp) _ | refine Ext.setCell ?_ (by simp; omega) _ | refine Ext.trans ?_ (by assumption))); done)⟩
  · have KT := known_false hk
    rw [if_pos hk] at HE
    rw [HE, if_neg (by decide), if_neg (by decide)]
    clear HE
    go_enter Tryz.func11, Tryz.ntmps11
    go_wp2_with (first
          | (go_at_call 26; refine (known_any _ _).mono ?_; rintro e w1 ⟨rfl, rfl⟩))
    go_ret3
    exact ⟨rfl, e0⟩

end Go.Proofs.YtfajkebkhdcapaaGreat
end
section
/- Contract of the law's next. -/
set_option maxHeartbeats 2000000
set_option maxRecDepth 100000
namespace Go.Proofs.YtfajkebkhdcapaaGreat
open Go Go.RowKit

/-- Ops behind one, as next says. -/
def nextL (x : GOp) (k : Int) : List Int := if x.kind = 9 then [x.a] else if x.kind = 10 then [x.a, k + 1] else if x.kind = 12 then [] else [k + 1]

theorem next_law (x : GOp) (k : Int) (w : World) (hk0 : 0 ≤ k) (hk1 : k ≤ 1000) (hx : I64 x.a) :
    Calls Tryz.prog 12 #[.agg #[.int .i64 x.kind, .int .i64 x.a], .int .i64 k] w fun e w' => (∃ v, e = .returned v ∧ Ints w' (w.heap.size ≤ ·) v (nextL x k)) ∧ Ext w w' := by
  have RA := alloc_keep
  have KK : IntKind.i64.wrap (k + 1) = k + 1 := IntWalk.i64_in _ (by omega)
  have hk2 : I64 (k + 1) := by unfold I64; omega
  by_cases h9 : x.kind = 9
  · have T9 : (x.kind == 9) = true := by simp [h9]
    have e : nextL x k = [x.a] := by unfold nextL; rw [if_pos h9]
    rw [e]
    clear h9 e
    go_enter Tryz.func12, Tryz.ntmps12
    go_wp2_with fail
    go_ret
    refine ⟨⟨_, rfl, ?_⟩, by ((repeat (first | assumption | exact Ext.refl _ | (exact And.left (by assumption)) | refine Ext.alloc ?_ _ | refine Ext.drew ?_ | refine Ext.drewN ?_ _ | refine Ext.setCell ?_ (by simp) _ | refine Ext.setCell ?_ (by simp; omega) _ | refine Ext.trans ?_ (by assumption))); done)⟩
    refine ⟨_, _, rfl, Nat.le_refl _, by simp, fun i hi => ⟨_, 0, rfl, ?_⟩⟩
    match i, hi with
    | 0, _ => exact ⟨by (first | exact Nat.le_refl _ | (simp; done) | (simp; omega)), by go_simp, hx⟩
  · have T9 : (x.kind == 9) = false := by simp [h9]
    by_cases h10 : x.kind = 10
    · have T10 : (x.kind == 10) = true := by simp [h10]
      have e : nextL x k = [x.a, k + 1] := by unfold nextL; rw [if_neg h9, if_pos h10]
      rw [e]
      clear h9 h10 e
      go_enter Tryz.func12, Tryz.ntmps12
      go_wp2_with fail
      go_ret
      refine ⟨⟨_, rfl, ?_⟩, by ((repeat (first | assumption | exact Ext.refl _ | (exact And.left (by assumption)) | refine Ext.alloc ?_ _ | refine Ext.drew ?_ | refine Ext.drewN ?_ _ | refine Ext.setCell ?_ (by simp) _ | refine Ext.setCell ?_ (by simp; omega) _ | refine Ext.trans ?_ (by assumption))); done)⟩
      refine ⟨_, _, rfl, Nat.le_refl _, by simp, fun i hi => ⟨_, 0, rfl, ?_⟩⟩
      match i, hi with
      | 0, _ => exact ⟨by (first | exact Nat.le_refl _ | (simp; done) | (simp; omega)), by go_simp, hx⟩
      | 1, _ => exact ⟨by (first | exact Nat.le_refl _ | (simp; done) | (simp; omega)), by go_simp, hk2⟩
    · have T10 : (x.kind == 10) = false := by simp [h10]
      by_cases h12 : x.kind = 12
      · have T12 : (x.kind == 12) = true := by simp [h12]
        have e : nextL x k = [] := by unfold nextL; rw [if_neg h9, if_neg h10, if_pos h12]
        rw [e]
        clear h9 h10 h12 e
        go_enter Tryz.func12, Tryz.ntmps12
        go_wp2_with fail
        go_ret
        exact ⟨⟨_, rfl, Sl.nil _ _ _⟩, by ((repeat (first | assumption | exact Ext.refl _ | (exact And.left (by assumption)) | refine Ext.alloc ?_ _ | refine Ext.drew ?_ | refine Ext.drewN ?_ _ | refine Ext.setCell ?_ (by simp) _ | refine Ext.setCell ?_ (by simp; omega) _ | refine Ext.trans ?_ (by assumption))); done)⟩
      · have T12 : (x.kind == 12) = false := by simp [h12]
        have e : nextL x k = [k + 1] := by unfold nextL; rw [if_neg h9, if_neg h10, if_neg h12]
        rw [e]
        clear h9 h10 h12 e
        go_enter Tryz.func12, Tryz.ntmps12
        go_wp2_with fail
        go_ret
        refine ⟨⟨_, rfl, ?_⟩, by ((repeat (first | assumption | exact Ext.refl _ | (exact And.left (by assumption)) | refine Ext.alloc ?_ _ | refine Ext.drew ?_ | refine Ext.drewN ?_ _ | refine Ext.setCell ?_ (by simp) _ | refine Ext.setCell ?_ (by simp; omega) _ | refine Ext.trans ?_ (by assumption))); done)⟩
        refine ⟨_, _, rfl, Nat.le_refl _, by simp, fun i hi => ⟨_, 0, rfl, ?_⟩⟩
        match i, hi with
        | 0, _ => exact ⟨by (first | exact Nat.le_refl _ | (simp; done) | (simp; omega)), by go_simp, hk2⟩
end Go.Proofs.YtfajkebkhdcapaaGreat
end
