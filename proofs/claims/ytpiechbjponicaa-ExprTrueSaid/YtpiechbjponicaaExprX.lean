/- Contracts of the document's worth. -/
import Derived.Test.YtpiechbjponicaaExpr3
import Derived.Test.YtpiechbjponicaaExprW
set_option maxHeartbeats 1000000
set_option maxRecDepth 100000
namespace Go.Proofs.Ytpiechbjponicaa
open Go Go.RowKit

theorem refTruth_any (b : Bool) (w : World) : Calls Try.prog 62 #[.bool b] w fun e w' => e = .returned (.int .i64 (if b then 1 else 0)) ∧ w = w' := by
  cases b
  all_goals
    go_enter Try.func62, Try.ntmps62
    go_wp2
    go_ret
    exact ⟨rfl, rfl⟩

theorem Nodes.tail {w : World} {S : Nat → Prop} {b o n cap : Nat} {x : GNode} {l : List GNode} (h : Nodes w S (.slice (some ⟨b, o, none⟩) n cap) (x :: l)) :
    Nodes w S (.slice (if cap = 1 then some ⟨b, o, none⟩ else some ⟨b, o + 2, none⟩) l.length (cap - 1)) l := by
  obtain ⟨a, cap', e, h1, h2, h3⟩ := h
  simp only [Value.slice.injEq] at e
  obtain ⟨rfl, rfl, rfl⟩ := e
  refine ⟨_, cap - 1, rfl, by simp at h1; omega, ⟨by have := h2.1; rw [List.length_cons] at this; omega, by have := h2.2; omega⟩, fun i hi => ?_⟩
  have hc : cap ≠ 1 := by simp at h1; omega
  obtain ⟨b', o', e, hE⟩ := h3 (i + 1) (by simp; omega)
  simp only [Option.some.injEq, Addr.mk.injEq] at e
  obtain ⟨rfl, rfl, _⟩ := e
  refine ⟨b, o + 2, by rw [if_neg hc], ?_⟩
  simpa [Nat.add_mul, Nat.add_assoc, Nat.add_comm 2] using hE


def WorthC (vals : List Int) (S : Nat → Prop) (vv : Value) (t : ETree) : Prop := ∀ (rest : List GNode) (w : World) (v : Value), Nodes w S v (t.flat ++ rest) → Ints w S vv vals →
    Calls Try.prog 48 #[v, vv] w fun e w' => (∃ v', e = .returned (.tuple #[.int .i64 (valT vals t), v']) ∧ Nodes w' S v' rest) ∧ Ext w w'

theorem worth_leaf (vals : List Int) (S : Nat → Prop) (vv : Value) (x : GNode) (hx : sizeN x.kind = 0) (ho : nodesOk vals [x]) : WorthC vals S vv (.leaf x) := by
  intro rest w v hv hi
  have e0 : Ext w (w.alloc (.cells #[.int .i64 x.kind, .int .i64 x.n] 44)) := (Ext.refl w).alloc _
  rw [show (ETree.leaf x).flat ++ rest = x :: rest from rfl] at hv
  obtain ⟨b, o, cap, rfl, hcap, hby, ⟨_, g0, _⟩, _, g1, _⟩ := hv.get (i := 0) (by simp)
  have HV := Lib.hid (Nodes.stays (T := S) e0.drew.stays hv.tail)
  have hr := ho x (by simp)
  have hk : x.kind = 0 ∨ x.kind = 1 := by unfold sizeN at hx; split at hx <;> (try split at hx) <;> omega
  clear hx hv
  have RA := alloc_keep
  simp only [List.length_cons, Nat.zero_mul, Nat.add_zero, List.getElem_cons_zero] at g0 g1 hcap ⊢
  rcases hk with hk | hk
  · have HT : Hid (valT vals (.leaf x) = x.n) := by unfold Hid valT; rw [if_pos hk]
    rw [HT.out]
    have T0 : (x.kind == 0) = true := by simp [hk]
    clear hk hr ho hi
    by_cases hc1 : cap = 1
    all_goals (first | rw [if_neg hc1] at HV | (rw [if_pos hc1] at HV; subst hc1; obtain rfl : rest = [] := List.eq_nil_of_length_eq_zero (by omega)))
    all_goals
      go_enter Try.func48, Try.ntmps48
      go_wp2
      go_region
      go_wp2
      go_ret2
      exact ⟨⟨_, rfl, HV.out⟩, e0.drew⟩
  · have hm : x.n ≤ vals.length - 1 := by have := hr.2.2.2; rw [mostN, if_neg (by omega), if_pos hk] at this; exact this
    obtain ⟨m, hm'⟩ := Int.eq_ofNat_of_zero_le hr.2.2.1
    have hml : m < vals.length := by omega
    have HT : Hid (valT vals (.leaf x) = vals[m]) := by
      unfold Hid valT
      rw [if_neg (by omega), if_pos hk, hm', List.getD_eq_getElem?_getD]
      simp [hml]
    obtain ⟨b2, o2, cap2, rfl, hcap2, hby2, _, g2, _⟩ := hi.get hml
    simp only [Nat.mul_one] at g2
    rw [HT.out]
    have T0 : (x.kind == 0) = false := by simp [hk]
    have T1 : (x.kind == 1) = true := by simp [hk]
    rw [hm'] at g1 HV e0
    clear hk hr ho hi hm hm' HT
    have g2' := (e0.drew).cell g2
    by_cases hc1 : cap = 1
    all_goals (first | rw [if_neg hc1] at HV | (rw [if_pos hc1] at HV; subst hc1; obtain rfl : rest = [] := List.eq_nil_of_length_eq_zero (by omega)))
    all_goals
      go_enter Try.func48, Try.ntmps48
      go_wp2
      go_region
      go_wp2
      go_ret2
      exact ⟨⟨_, rfl, HV.out⟩, e0.drew⟩

theorem worth_two (vals : List Int) (S : Nat → Prop) (vv : Value) (x : GNode) (ta tb : ETree) (hx : 2 ≤ x.kind ∧ x.kind ≤ 6) (ha : WorthC vals S vv ta) (hb : WorthC vals S vv tb) : WorthC vals S vv (.two x ta tb) := by
  intro rest w v hv hi
  have e0 : Ext w (w.alloc (.cells #[.int .i64 x.kind, .int .i64 x.n] 44)) := (Ext.refl w).alloc _
  rw [show (ETree.two x ta tb).flat ++ rest = x :: (ta.flat ++ (tb.flat ++ rest)) by simp [ETree.flat]] at hv
  obtain ⟨b, o, cap, rfl, hcap, hby, ⟨_, g0, _⟩, _, g1, _⟩ := hv.get (i := 0) (by simp)
  have HV := Lib.hid (Nodes.stays (T := S) e0.drew.stays hv.tail)
  have HI := Lib.hid hi
  have hc1 : ¬ cap = 1 := by have := ETree.flat_pos ta; simp at hcap; omega
  rw [if_neg hc1] at HV
  have RA := alloc_keep
  have HA := Lib.hid (fun r w v (h : Nodes w S v (ta.flat ++ r)) => ha r w v h)
  have HB := Lib.hid (fun r w v (h : Nodes w S v (tb.flat ++ r)) => hb r w v h)
  simp only [Nat.zero_mul, Nat.add_zero, List.getElem_cons_zero] at g0 g1 hcap
  simp only [List.length_append] at HV
  simp only [List.length_cons]
  clear hv ha hb hi
  obtain ⟨k, n⟩ := x
  have hk : k = 2 ∨ k = 3 ∨ k = 4 ∨ k = 5 ∨ k = 6 := by simp only at hx; omega
  have HR : Hid (∃ z, z = valT vals (.two ⟨k, n⟩ ta tb) ∧ z = reckN k (valT vals ta) (valT vals tb)) := ⟨_, rfl, rfl⟩
  clear hx
  simp only at g0 g1 HV e0
  rcases hk with rfl | rfl | rfl | rfl | rfl
  all_goals
    go_enter Try.func48, Try.ntmps48
    go_wp2
    go_region
    go_wp2_with (first
      | (go_at_call 48; (with_reducible refine (HB.out _ _ _ hv1 (Ints.stays (e0.drew.trans hb1).stays HI.out)).mono ?_); rintro e w2 ⟨⟨v2, rfl, hv2⟩, hb2⟩; have hc2 := Ext.keep hb2)
      | (go_at_call 48; (with_reducible refine (HA.out _ _ _ HV.out (Ints.stays e0.drew.stays HI.out)).mono ?_); rintro e w1 ⟨⟨v1, rfl, hv1⟩, hb1⟩; have hc1 := Ext.keep hb1)
      | (go_at_call 62; (with_reducible refine (refTruth_any _ _).mono ?_); rintro e w3 ⟨rfl, rfl⟩))
  all_goals
    go_ret2
    obtain ⟨z, hz, hz'⟩ := HR.out
    refine ⟨⟨v2, ?_, hv2⟩, (e0.drew.trans hb1).trans hb2⟩
    simp only [← hz]
    rw [hz']
    (first | (simp [reckN]; done) | (simp [reckN, *]; done))

theorem worth_three (vals : List Int) (S : Nat → Prop) (vv : Value) (x : GNode) (ta tb tc : ETree) (hx : x.kind = 7) (ha : WorthC vals S vv ta) (hb : WorthC vals S vv tb) (hc : WorthC vals S vv tc) : WorthC vals S vv (.three x ta tb tc) := by
  intro rest w v hv hi
  have e0 : Ext w (w.alloc (.cells #[.int .i64 x.kind, .int .i64 x.n] 44)) := (Ext.refl w).alloc _
  rw [show (ETree.three x ta tb tc).flat ++ rest = x :: (ta.flat ++ (tb.flat ++ (tc.flat ++ rest))) by simp [ETree.flat]] at hv
  obtain ⟨b, o, cap, rfl, hcap, hby, ⟨_, g0, _⟩, _, g1, _⟩ := hv.get (i := 0) (by simp)
  have HV := Lib.hid (Nodes.stays (T := S) e0.drew.stays hv.tail)
  have HI := Lib.hid hi
  have hc1 : ¬ cap = 1 := by have := ETree.flat_pos ta; simp at hcap; omega
  rw [if_neg hc1] at HV
  have RA := alloc_keep
  have HA := Lib.hid (fun r w v (h : Nodes w S v (ta.flat ++ r)) => ha r w v h)
  have HB := Lib.hid (fun r w v (h : Nodes w S v (tb.flat ++ r)) => hb r w v h)
  have HC := Lib.hid (fun r w v (h : Nodes w S v (tc.flat ++ r)) => hc r w v h)
  simp only [Nat.zero_mul, Nat.add_zero, List.getElem_cons_zero] at g0 g1 hcap
  simp only [List.length_append] at HV
  simp only [List.length_cons]
  clear hv ha hb hc hi
  obtain ⟨k, n⟩ := x
  simp only at hx
  subst hx
  simp only at g0 g1 HV e0
  have HT : Hid (valT vals (.three ⟨7, n⟩ ta tb tc) = if valT vals ta = 0 then valT vals tc else valT vals tb) := rfl
  rw [HT.out]
  by_cases hz : valT vals ta = 0
  all_goals
    (first | rw [if_pos hz] | rw [if_neg hz])
    (first | (have TZ : (valT vals ta != 0) = false := by simp [hz]) | (have TZ : (valT vals ta != 0) = true := by simp [hz]))
    clear hz
    go_enter Try.func48, Try.ntmps48
    go_wp2
    go_region
    go_wp2_with (first
      | (go_at_call 48; (with_reducible refine (HC.out _ _ _ hv2 (Ints.stays ((e0.drew.trans hb1).trans hb2).stays HI.out)).mono ?_); rintro e w3 ⟨⟨v3, rfl, hv3⟩, hb3⟩; have hc3 := Ext.keep hb3)
      | (go_at_call 48; (with_reducible refine (HB.out _ _ _ hv1 (Ints.stays (e0.drew.trans hb1).stays HI.out)).mono ?_); rintro e w2 ⟨⟨v2, rfl, hv2⟩, hb2⟩; have hc2 := Ext.keep hb2)
      | (go_at_call 48; (with_reducible refine (HA.out _ _ _ HV.out (Ints.stays e0.drew.stays HI.out)).mono ?_); rintro e w1 ⟨⟨v1, rfl, hv1⟩, hb1⟩; have hc1 := Ext.keep hb1))
  all_goals
    go_ret2
    exact ⟨⟨v3, rfl, hv3⟩, ((e0.drew.trans hb1).trans hb2).trans hb3⟩

theorem worth_any (vals : List Int) (S : Nat → Prop) (vv : Value) : ∀ t : ETree, t.fits → nodesOk vals t.flat → WorthC vals S vv t
  | .leaf x, hf, ho => worth_leaf vals S vv x hf ho
  | .two x a b, hf, ho => by
    have hr := ho.root
    refine worth_two vals S vv x a b ?_ (worth_any vals S vv a hf.2.1 (ho.part a (by simp [ETree.parts]))) (worth_any vals S vv b hf.2.2 (ho.part b (by simp [ETree.parts])))
    have h1 := hf.1
    unfold sizeN at h1
    simp only [ETree.root] at hr
    split at h1
    · omega
    · split at h1 <;> omega
  | .three x a b c, hf, ho => by
    refine worth_three vals S vv x a b c ?_ (worth_any vals S vv a hf.2.1 (ho.part a (by simp [ETree.parts]))) (worth_any vals S vv b hf.2.2.1 (ho.part b (by simp [ETree.parts]))) (worth_any vals S vv c hf.2.2.2 (ho.part c (by simp [ETree.parts])))
    have h1 := hf.1
    unfold sizeN at h1
    split at h1
    · omega
    · split at h1 <;> omega

/-- What Value answers. -/
noncomputable def valErr (e : List GNode) (vals : List Int) : Int := if exprErr e vals.length = 0 then valOf vals e else 0

theorem valueOf_any (e : List GNode) (v : Value) (vals : List Int) (vv : Value) (S : Nat → Prop) (w : World) (hp : Nodes w S v e) (hv : Ints w S vv vals) :
    Calls Try.prog 20 #[v, vv] w fun e' w' => e' = .returned (.tuple #[.int .i64 (valErr e vals), .int .i64 (exprErr e vals.length)]) ∧ Ext w w' := by
  obtain ⟨a, cap, rfl, hcap, hby, _⟩ := id hv
  by_cases h0 : exprErr e vals.length = 0
  · obtain ⟨h4, h9, hok, hop⟩ := exprErr_zero h0
    obtain ⟨t, ht, rfl⟩ := (openOk_one e).1 hop
    have HE : Hid (valErr t.flat vals = valT vals t) := by unfold Hid valErr; rw [if_pos h0, valOf_flat vals t ht]
    have HC := Lib.hid (exprError_any t.flat v S vals.length w hp)
    rw [h0] at HC
    rw [HE.out, h0]
    have HW := Lib.hid (worth_any vals S (.slice a vals.length cap) t ht hok [] w v (by simpa using hp) hv)
    clear h0 hok hop hp hv h9
    go_enter Try.func20, Try.ntmps20
    go_wp2_with (first
      | (go_at_call 23; (with_reducible refine HC.out.mono ?_); rintro e w1 ⟨rfl, rfl⟩)
      | (go_at_call 48; (with_reducible refine HW.out.mono ?_); rintro e w2 ⟨⟨v2, rfl, hv2⟩, hb2⟩))
    go_ret2
    exact ⟨rfl, hb2⟩
  · have HE : Hid (valErr e vals = 0) := by unfold Hid valErr; rw [if_neg h0]
    have TE : (exprErr e vals.length != 0) = true := bne_iff_ne.2 h0
    have HC := Lib.hid (exprError_any e v S vals.length w hp)
    rw [HE.out]
    clear h0 hp hv
    go_enter Try.func20, Try.ntmps20
    go_wp2_with (first
      | (go_at_call 23; (with_reducible refine HC.out.mono ?_); rintro e w1 ⟨rfl, rfl⟩))
    go_ret2
    exact ⟨rfl, Ext.refl _⟩
end Go.Proofs.Ytpiechbjponicaa
