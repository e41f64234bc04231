/- Contracts of prog.Calls and the document's CallsError. -/
import Derived.Test.YtpiechbjponicaaCalls
import Derived.Test.YtpiechbjponicaaFlowO
set_option maxHeartbeats 4000000
set_option maxRecDepth 100000
namespace Go.Proofs.Ytpiechbjponicaa
open Go Go.RowKit

def cErr (p : List GFunc) (f : Int) : Int := if progErr p ≠ 0 then progErr p else if 0 ≤ f ∧ f < p.length then 0 else 5
/-- What Calls hands back. -/
def CallsIs (p : List GFunc) (f : Int) (o : List Bool) : Prop := if cErr p f = 0 then IsCalls p f.toNat o else o = []

theorem cErr_bad {p : List GFunc} (h : progErr p ≠ 0) (f : Int) : cErr p f = progErr p := by unfold cErr; rw [if_pos h]
theorem cErr_out {p : List GFunc} {f : Int} (h : progErr p = 0) (hf : ¬ (0 ≤ f ∧ f < p.length)) : cErr p f = 5 := by unfold cErr; rw [if_neg (fun k => k h), if_neg hf]
theorem cErr_in {p : List GFunc} {f : Int} (h : progErr p = 0) (hf : 0 ≤ f ∧ f < p.length) : cErr p f = 0 := by unfold cErr; rw [if_neg (fun k => k h), if_pos hf]

theorem callsError_any (p : List GFunc) (v : Value) (S : Nat → Prop) (f : Int) (w : World) (hp : Funcs w S v p) :
    Calls Try.prog 30 #[v, .int .i64 f] w fun e w' => e = .returned (.int .i64 (cErr p f)) ∧ Ext w w' := by
  have HP := Lib.hid hp
  obtain ⟨a, cap, rfl, hcap, hby, _⟩ := hp
  obtain ⟨r, hr⟩ : ∃ r, progErr p = r := ⟨_, rfl⟩
  have HR := Lib.hid hr
  by_cases hz : r = 0
  · subst hz
    by_cases hf : 0 ≤ f ∧ f < p.length
    · have TW : decide (0 ≤ f ∧ f ≤ (p.length : Int) - 1) = true := decide_eq_true (by omega)
      rw [cErr_in hr hf]
      clear hr hf
      go_enter Try.func30, Try.ntmps30
      go_wp2_with (first
        | (go_at_call 34; (with_reducible refine (progError_any p _ S _ HP.out).mono ?_); rintro e w1 ⟨rfl, hb⟩; rw [HR.out])
        | (go_at_call 38; (with_reducible refine (within_any _ _ _ _).mono ?_); rintro e w2 ⟨rfl, rfl⟩; rw [TW]))
      go_ret
      exact ⟨rfl, hb⟩
    · have TW : decide (0 ≤ f ∧ f ≤ (p.length : Int) - 1) = false := decide_eq_false (by omega)
      rw [cErr_out hr hf]
      clear hr hf
      go_enter Try.func30, Try.ntmps30
      go_wp2_with (first
        | (go_at_call 34; (with_reducible refine (progError_any p _ S _ HP.out).mono ?_); rintro e w1 ⟨rfl, hb⟩; rw [HR.out])
        | (go_at_call 38; (with_reducible refine (within_any _ _ _ _).mono ?_); rintro e w2 ⟨rfl, rfl⟩; rw [TW]))
      go_ret
      exact ⟨rfl, hb⟩
  · have TB : (r != 0) = true := bne_iff_ne.2 hz
    rw [cErr_bad (by rw [hr]; exact hz), hr]
    clear hr hz
    go_enter Try.func30, Try.ntmps30
    go_wp2_with (first
      | (go_at_call 34; (with_reducible refine (progError_any p _ S _ HP.out).mono ?_); rintro e w1 ⟨rfl, hb⟩; rw [HR.out]))
    go_ret
    exact ⟨rfl, hb⟩

theorem progCalls_any (p : List GFunc) (v : Value) (S : Nat → Prop) (f : Int) (w : World) (hp : Funcs w S v p) :
    Calls Try.prog 29 #[v, .int .i64 f] w fun e w' => (∃ a cap o, e = .returned (.tuple #[.slice a o.length cap, .int .i64 (cErr p f)]) ∧ Bools w' (fun _ => True) (.slice a o.length cap) o ∧ CallsIs p f o) ∧ Ext w w' := by
  have HP := Lib.hid hp
  have RA := alloc_keep
  obtain ⟨a, cap, rfl, hcap, hby, _⟩ := hp
  obtain ⟨r, hr⟩ : ∃ r, progErr p = r := ⟨_, rfl⟩
  have HR := Lib.hid hr
  have e0 : Ext w (w.alloc (.cells #[.slice a p.length cap] 22)) := (Ext.refl w).alloc _
  by_cases hz : r = 0
  · subst hz
    by_cases hf : 0 ≤ f ∧ f < p.length
    · have hRP := progErr_zero hr
      have hx := cErr_in hr hf
      obtain ⟨n, rfl⟩ : ∃ n : Nat, f = n := ⟨f.toNat, by omega⟩
      have hn : n < p.length := by omega
      have h5 := hRP.most
      have TN0 : decide ((n : Int) < 0) = false := decide_eq_false (by omega)
      obtain ⟨i0, hi0, hz0, hz1, hz2⟩ := info_parts infoB
      clear hr hf
      go_enter Try.func29, Try.ntmps29
      go_upto_region 7 with (first
        | (go_at_call 33; (with_reducible refine (progCheck_any p _ S _ (Funcs.stays e0.stays HP.out)).mono ?_); rintro e w1 ⟨rfl, hb⟩; rw [HR.out]; have hc := Ext.keep hb)
        | (at_make; refine wpList_make_full _ rfl _ _ 50 rfl w.heap.size 4 i0 (.bool false) 1 Try.underlying50 hi0 hz0 hz1 .i64 .i64 _ _ p.length rfl rfl rfl rfl (by rw [hz2]; omega) (by unfold maxLen; omega) (by have := (e0.trans hb).size; omega) ?_; intro w2 hown hgr))
      have hE2 : Ext w1 w2 := ext_none hgr
      have hrow := BRow.made hown
      go_upto_region 9 with fail
      have q2 := (Ext.keep (hb.trans hE2) ⟨w.heap.size, 0, none⟩ (by simp)).trans (show _ = some (Value.slice a p.length cap) by simp)
      have hsz1 : w.heap.size < w1.heap.size := by have := hb.size; simp at this; omega
      have hsz2 := hE2.size
      obtain ⟨w5, hw5⟩ : ∃ w5, (w2.alloc (.cells #[.slice (some ⟨w1.heap.size, 0, none⟩) p.length p.length] 50)).alloc (.cells #[.func (.func 54) #[] #[.pointer (some ⟨w2.heap.size, 0, none⟩), .pointer (some ⟨w.heap.size, 0, none⟩), .pointer (some ⟨w2.heap.size + 1, 0, none⟩)]] 83) = w5 := ⟨_, rfl⟩
      have he5 : Ext w2 w5 := by rw [← hw5]; exact ((Ext.refl _).alloc _).alloc _
      have c7 : w5.cell? ⟨w2.heap.size, 0, none⟩ = some (.slice (some ⟨w1.heap.size, 0, none⟩) p.length p.length) := by
        rw [← hw5]
        exact ((Bx.new w2 _ 50).ext ((Ext.refl _).alloc _)).1
      have c8 : w5.cell? ⟨w2.heap.size + 1, 0, none⟩ = some (.func (.func 54) #[] #[.pointer (some ⟨w2.heap.size, 0, none⟩), .pointer (some ⟨w.heap.size, 0, none⟩), .pointer (some ⟨w2.heap.size + 1, 0, none⟩)]) := by
        have := (Bx.new (w2.alloc (.cells #[.slice (some ⟨w1.heap.size, 0, none⟩) p.length p.length] 50)) (.func (.func 54) #[] #[.pointer (some ⟨w2.heap.size, 0, none⟩), .pointer (some ⟨w.heap.size, 0, none⟩), .pointer (some ⟨w2.heap.size + 1, 0, none⟩)]) 83).1
        rw [World.size_alloc] at this
        rw [← hw5]
        exact this
      have hw : Ext w w5 := ((e0.trans hb).trans hE2).trans he5
      have hg1 : w1.heap.size < w2.heap.size := by
        obtain ⟨cc, _, _⟩ := hrow.at (k := 0) (by simp; omega)
        exact lt_of_cell cc
      have hV : VEnv p (.slice a p.length cap) w2.heap.size w.heap.size (w2.heap.size + 1) w1.heap.size w.heap.size w5 (List.replicate p.length false) :=
        ⟨c7, Ext.cell he5 q2, c8, by omega, by omega, by omega, Funcs.stays (fun b o v _ hc => ⟨Ext.cell hw hc, by have := lt_of_cell hc; omega⟩) HP.out, by simp, hrow.ext he5⟩
      have HV := Lib.hid hV
      have HWE := Lib.hid hw
      rw [hw5]
      clear hw5 hV hrow hown hgr hE2 he5 hw hb hc q2 e0
      go_wp2_with (first
        | (go_at_call 54; refine (visit_any p _ _ _ _ _ _ hRP _ _ n _ (Nat.lt_succ_self _) hn HV.out).mono ?_; rintro e w6 ⟨⟨v6, rfl⟩, o6, hv6, hr6, hc6⟩; have c7' := Chg.cell hc6 HV.out.n7 c7))
      go_ret2
      have hco := hv6.calls rfl
      refine ⟨⟨_, _, o6, by rw [hx, hco.len]; rfl, ?_, by unfold CallsIs; rw [hx, if_pos rfl]; simpa using hco⟩, Chg.ext_from HWE.out hc6 (fun b hb => by omega)⟩
      have := hr6.bools (by rw [hco.len]; omega) (fun _ => True) (fun _ _ => trivial)
      rwa [hco.len] at this ⊢
    · have hx := cErr_out hr hf
      by_cases hf0 : f < 0
      · clear hr hf
        go_enter Try.func29, Try.ntmps29
        go_wp2_with (first
          | (go_at_call 33; (with_reducible refine (progCheck_any p _ S _ (Funcs.stays e0.stays HP.out)).mono ?_); rintro e w1 ⟨rfl, hb⟩; rw [HR.out]; have hc := Ext.keep hb))
        go_ret2
        exact ⟨⟨_, _, [], by rw [hx]; rfl, Sl.nil _ _ _, by unfold CallsIs; rw [hx, if_neg (by decide)]⟩, e0.trans hb⟩
      · have hf1 : (p.length : Int) ≤ f := by omega
        have hf2 : 0 ≤ f := by omega
        clear hr hf hf0
        go_enter Try.func29, Try.ntmps29
        go_wp2_with (first
          | (go_at_call 33; (with_reducible refine (progCheck_any p _ S _ (Funcs.stays e0.stays HP.out)).mono ?_); rintro e w1 ⟨rfl, hb⟩; rw [HR.out]; have hc := Ext.keep hb))
        go_ret2
        exact ⟨⟨_, _, [], by rw [hx]; rfl, Sl.nil _ _ _, by unfold CallsIs; rw [hx, if_neg (by decide)]⟩, e0.trans hb⟩
  · have TB : (r != 0) = true := bne_iff_ne.2 hz
    have hx := cErr_bad (p := p) (by rw [hr]; exact hz) f
    rw [hr] at hx
    have hcz : CallsIs p f [] := by unfold CallsIs; rw [hx, if_neg hz]
    clear hr hz
    go_enter Try.func29, Try.ntmps29
    go_wp2_with (first
      | (go_at_call 33; (with_reducible refine (progCheck_any p _ S _ (Funcs.stays e0.stays HP.out)).mono ?_); rintro e w1 ⟨rfl, hb⟩; rw [HR.out]; have hc := Ext.keep hb))
    go_ret2
    exact ⟨⟨_, _, [], by rw [hx]; rfl, Sl.nil _ _ _, hcz⟩, e0.trans hb⟩
end Go.Proofs.Ytpiechbjponicaa
