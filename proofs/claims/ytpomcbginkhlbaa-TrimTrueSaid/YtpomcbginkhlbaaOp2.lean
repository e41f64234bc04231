/- Contracts of package op and of the document's answers on ops, second part. -/
import Derived.Test.YtpomcbginkhlbaaOp
set_option maxHeartbeats 400000
set_option maxRecDepth 100000
namespace Go.Proofs.Ytpomcbginkhlbaa
open Go Go.RowKit

theorem kind_at (k : Nat) (hk : k < 17) (w : World) : (Instr.index 93 (.agg kindRow) (.int .i64 k)).run Try.prog w =
    .ok (.agg #[.int .i64 (kindTakes.getD k 0), .int .i64 (kindLeaves.getD k 0), .func (.func (kindFn.getD k 0)) #[] #[]]) w := by
  match k, hk with
  | 0, _ => (show _ = _; kernel_rfl)
  | 1, _ => (show _ = _; kernel_rfl)
  | 2, _ => (show _ = _; kernel_rfl)
  | 3, _ => (show _ = _; kernel_rfl)
  | 4, _ => (show _ = _; kernel_rfl)
  | 5, _ => (show _ = _; kernel_rfl)
  | 6, _ => (show _ = _; kernel_rfl)
  | 7, _ => (show _ = _; kernel_rfl)
  | 8, _ => (show _ = _; kernel_rfl)
  | 9, _ => (show _ = _; kernel_rfl)
  | 10, _ => (show _ = _; kernel_rfl)
  | 11, _ => (show _ = _; kernel_rfl)
  | 12, _ => (show _ = _; kernel_rfl)
  | 13, _ => (show _ = _; kernel_rfl)
  | 14, _ => (show _ = _; kernel_rfl)
  | 15, _ => (show _ = _; kernel_rfl)
  | 16, _ => (show _ = _; kernel_rfl)
  | (_ + 17), h => omega

theorem kindRow_at (k : Nat) (hk : k < 17) : kindRow[k * 3 + 2]? = some (.func (.func (kindFn.getD k 0)) #[] #[]) := by
  match k, hk with
  | 0, _ => rfl
  | 1, _ => rfl
  | 2, _ => rfl
  | 3, _ => rfl
  | 4, _ => rfl
  | 5, _ => rfl
  | 6, _ => rfl
  | 7, _ => rfl
  | 8, _ => rfl
  | 9, _ => rfl
  | 10, _ => rfl
  | 11, _ => rfl
  | 12, _ => rfl
  | 13, _ => rfl
  | 14, _ => rfl
  | 15, _ => rfl
  | 16, _ => rfl
  | (_ + 17), h => omega

theorem kind_call (k : Nat) (hk : k < 17) (args : Array Value) (w : World) : (callFunc (kindFn[k]?.getD 0) args).run Try.prog w = .ok (.enter (kindFn[k]?.getD 0) args) w := by
  match k, hk with
  | 0, _ => (show _ = _; kernel_rfl)
  | 1, _ => (show _ = _; kernel_rfl)
  | 2, _ => (show _ = _; kernel_rfl)
  | 3, _ => (show _ = _; kernel_rfl)
  | 4, _ => (show _ = _; kernel_rfl)
  | 5, _ => (show _ = _; kernel_rfl)
  | 6, _ => (show _ = _; kernel_rfl)
  | 7, _ => (show _ = _; kernel_rfl)
  | 8, _ => (show _ = _; kernel_rfl)
  | 9, _ => (show _ = _; kernel_rfl)
  | 10, _ => (show _ = _; kernel_rfl)
  | 11, _ => (show _ = _; kernel_rfl)
  | 12, _ => (show _ = _; kernel_rfl)
  | 13, _ => (show _ = _; kernel_rfl)
  | 14, _ => (show _ = _; kernel_rfl)
  | 15, _ => (show _ = _; kernel_rfl)
  | 16, _ => (show _ = _; kernel_rfl)
  | (_ + 17), h => omega

theorem takes_at (p : List GFunc) (x : GOp) (hk : 0 ≤ x.kind) (hk' : x.kind ≤ 16) (h : x.kind ≠ 11) : kindTakes.getD x.kind.toNat 0 = takesOf p x := by
  obtain ⟨k, a⟩ := x
  obtain ⟨j, rfl⟩ := Int.eq_ofNat_of_zero_le hk
  have hj : j < 17 := by simp at hk'; omega
  match j, hj with
  | 0, _ => rfl
  | 1, _ => rfl
  | 2, _ => rfl
  | 3, _ => rfl
  | 4, _ => rfl
  | 5, _ => rfl
  | 6, _ => rfl
  | 7, _ => rfl
  | 8, _ => rfl
  | 9, _ => rfl
  | 10, _ => rfl
  | 11, _ => simp at h
  | 12, _ => rfl
  | 13, _ => rfl
  | 14, _ => rfl
  | 15, _ => rfl
  | 16, _ => rfl
  | (_ + 17), h => omega

theorem leaves_at (x : GOp) (hk : 0 ≤ x.kind) (hk' : x.kind ≤ 16) : kindLeaves.getD x.kind.toNat 0 = leavesOf x := by
  obtain ⟨k, a⟩ := x
  obtain ⟨j, rfl⟩ := Int.eq_ofNat_of_zero_le hk
  have hj : j < 17 := by simp at hk'; omega
  match j, hj with
  | 0, _ => rfl
  | 1, _ => rfl
  | 2, _ => rfl
  | 3, _ => rfl
  | 4, _ => rfl
  | 5, _ => rfl
  | 6, _ => rfl
  | 7, _ => rfl
  | 8, _ => rfl
  | 9, _ => rfl
  | 10, _ => rfl
  | 11, _ => rfl
  | 12, _ => rfl
  | 13, _ => rfl
  | 14, _ => rfl
  | 15, _ => rfl
  | 16, _ => rfl
  | (_ + 17), h => omega

/-- The table, as what it gives at a kind. -/
theorem kinds_at (k : Int) (hk : 0 ≤ k) (hk' : k ≤ 16) (w : World) :
    Calls Try.prog 57 #[] w fun e w' => (∃ R, e = .returned (.agg R) ∧ ∀ w, (Instr.index 93 (.agg R) (.int .i64 k)).run Try.prog w =
      .ok (.agg #[.int .i64 (kindTakes.getD k.toNat 0), .int .i64 (kindLeaves.getD k.toNat 0), .func (.func (kindFn.getD k.toNat 0)) #[] #[]]) w) ∧ Ext w w' := by
  refine (kinds_any w).mono fun e w' ⟨he, hb⟩ => ⟨⟨_, he, fun w => ?_⟩, hb⟩
  obtain ⟨j, rfl⟩ := Int.eq_ofNat_of_zero_le hk
  exact kind_at j (by omega) w

theorem opOf_any (p : List GFunc) (v : Value) (S : Nat → Prop) (x : GOp) (w : World) (hp : Funcs w S v p) (hk : 0 ≤ x.kind) (hk' : x.kind ≤ 16) (ha : x.kind = 11 → 0 ≤ x.a ∧ x.a < p.length) :
    Calls Try.prog 51 #[v, .agg #[.int .i64 x.kind, .int .i64 x.a]] w fun e w' => e = .returned (.tuple #[.int .i64 (takesOf p x), .int .i64 (leavesOf x)]) ∧ Ext w w' := by
  have hl := leaves_at x hk hk'
  have ht := takes_at p x hk hk'
  have RA := alloc_keep
  go_enter Try.func51, Try.ntmps51
  go_wp2_with fail
  go_cut [6] (fun v6 wr => ∃ g, v6 = .pointer (some ⟨g, 0, none⟩) ∧ w.heap.size < g ∧ Ext w wr ∧ wr.cell? ⟨g, 0, none⟩ = some (.int .i64 (kindTakes[x.kind.toNat]?.getD 0)) ∧ wr.cell? ⟨g, 1, none⟩ = some (.int .i64 (kindLeaves[x.kind.toNat]?.getD 0)) ∧ wr.frozen? ⟨g, 0, none⟩ = false
     ∧ wr.cell? ⟨w.heap.size, 0, none⟩ = some (.int .i64 x.kind) ∧ wr.cell? ⟨w.heap.size, 1, none⟩ = some (.int .i64 x.a))
  case first =>
    have e0 : Ext w (w.alloc (.cells #[.int .i64 x.kind, .int .i64 x.a] 58)) := (Ext.refl w).alloc _
    clear hl ht
    go_region_held3 (fun w' => Ext (w.alloc (.cells #[.int .i64 x.kind, .int .i64 x.a] 58)) w' ∧ ∀ a, ((w.alloc (.cells #[.int .i64 x.kind, .int .i64 x.a] 58)).cell? a).isSome = true → w'.cell? a = (w.alloc (.cells #[.int .i64 x.kind, .int .i64 x.a] 58)).cell? a)
      ((refine ext_both ?_; ((repeat (first | assumption | exact Ext.refl _ | (exact And.left (by assumption)) | refine Ext.alloc ?_ _ | refine Ext.drew ?_ | refine Ext.drewN ?_ _ | refine Ext.setCell ?_ (by simp) _ | refine Ext.setCell ?_ (by simp; omega) _ | refine Ext.trans ?_ (by assumption))); done)))
      ((go_at_call 57; refine (kinds_at x.kind hk hk' _).mono ?_; rintro e w1 ⟨⟨R, rfl, hR⟩, hb⟩; have hc := Ext.keep hb; have hf := Ext.keepF hb; have hz : w.heap.size < w1.heap.size := (by have := Ext.size hb; simp at this; omega)))
    all_goals (go_wp2_with fail; go_meet; refine ⟨_, rfl, ?_, ?_, ?_, ?_, ?_, ?_, ?_⟩)
    all_goals first
      | exact hz
      | (simp; done)
      | (go_simp; done)
      | ((repeat (first | assumption | exact Ext.refl _ | (exact And.left (by assumption)) | refine Ext.alloc ?_ _ | refine Ext.drew ?_ | refine Ext.drewN ?_ _ | refine Ext.setCell ?_ (by simp) _ | refine Ext.setCell ?_ (by simp; omega) _ | refine Ext.trans ?_ (by assumption))); done)
  case rest =>
    obtain ⟨g, rfl, hg, hb, c0, c1, f0, x0, x1⟩ := hcut
    have HB := Lib.hid hb
    clear hb RA
    by_cases h11 : x.kind = 11
    · obtain ⟨h0, h1⟩ := ha h11
      obtain ⟨b, o, cap, rfl, hcap, _, hf0, _⟩ := hp.get (i := x.a.toNat) (by omega)
      have hff := Ext.cell HB.out hf0.2.1
      have HT := Lib.hid (show takesOf p x = p[x.a.toNat].args by unfold takesOf; simp [h11]; rw [List.getElem?_eq_getElem (by omega)]; rfl)
      have HL := Lib.hid hl
      clear hp hf0 ha ht hl
      go_wp2
      go_quiet (fail)
      go_wp2
      go_ret2
      refine ⟨?_, Ext.drewN (Ext.setCell HB.out (by simp; omega) _) _⟩
      rw [HT.out, ← HL.out]
      simp [h11]
    · have HT := Lib.hid (ht h11)
      have HL := Lib.hid hl
      clear hp ha ht hl
      go_wp2
      go_quiet (fail)
      go_wp2
      go_ret2
      refine ⟨?_, Ext.drewN HB.out _⟩
      rw [← HT.out, ← HL.out]
      simp
end Go.Proofs.Ytpomcbginkhlbaa
