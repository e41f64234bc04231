/- Merged texts: contracts and plain facts, one part behind another; each part begins with what it says. -/
import Derived.Test.YtgahbngbpfilgaaGreatGEAD
import Derived.Test.YtgahbngbpfilgaaGreatGEAN
import Derived.Test.YtgahbngbpfilgaaGreatGEAS
import Derived.Test.YtgahbngbpfilgaaGreatGEAT
import Derived.Test.YtgahbngbpfilgaaGreatGEAU
import Derived.StillTailTactics
import Derived.WalkSmall
section
set_option maxHeartbeats 1000000
namespace Go.Proofs.YtgahbngbpfilgaaGreat
open Go Go.RowKit
theorem top_end {f : GFiber} {gs : List GFrame} {y : GFrame} (ef : f.frames = gs ++ [y]) : topOf f = y := by
 unfold topOf
 rw [ef, List.length_append, List.length_singleton, Nat.add_sub_cancel]
 exact getD_end
theorem ok_fresh {p : List GFunc} {s : GState} {l : List Int} (h : Ok p s l) (h0 : 0 ≤ s.now) : FreshFit p (advG s) := by
 obtain ⟨k, fs, x, r, hR⟩ := h.runs h0
 obtain ⟨hA, hN, _⟩ := hR.adv
 have hlt := hR.at_.lt
 generalize advG s = t at *
 have hN1 : Near s (popG t) k := hN.top hlt _ hA.now
 have hA1 : At (popG t) k fs _ := hA.top _ hA.now
 have hN2 : Near s (popG (popG t)) k := hN1.top hlt _ hA1.now
 have hcu : ∀ j, j < s.fibers.length → ((popG (popG t)).fibers.getD j default).caller = (s.fibers.getD j default).caller := fun j hj => by
  by_cases ej : j = k
  ·rw [ej]; exact hN2.caller
  ·rw [hN2.other j hj ej]
 have hrg := lk_range (fun k hk => (h.callers k hk).2) h.lk h.now.2
 have hll : lineLL (popG (popG t)) = l := by
  have hlk : Lk (popG (popG t)).fibers s.now l := lk_congr (fun z hz => by
   have := hrg z hz
   unfold callerOf
   rw [hcu _ (by omega)]) h.lk
  have hl : l.length ≤ (popG (popG t)).fibers.length := by rw [hN2.len]; exact nodup_len _ _ (lk_nodup h.lk) hrg
  unfold lineLL
  rw [lineS_of (by rw [hN2.now]; exact hlk) hl]
  rfl
 intro f hf hn0 hn1 hnl hpos
 rw [hll] at hnl
 rw [hN2.len] at hn1
 obtain ⟨m, hm⟩ := Int.eq_ofNat_of_zero_le hn0
 have hm : lastV (popG t) = (m : Nat) := hm
 rw [hm] at hf hn1 hnl
 rw [Int.toNat_natCast] at hf
 have hml : m < s.fibers.length := by omega
 have hkl : (k : Int) ∈ l := by rw [hR.line, hR.at_.now]; simp
 have hmk : m ≠ k := fun em => hnl (by rw [em]; exact hkl)
 rw [hN2.other m hml hmk] at hf
 subst hf
 have hb := h.fib m hml
 rw [decide_eq_false hnl, decide_eq_false (show ¬ (m : Int) = s.now by rw [hR.at_.now]; omega)] at hb
 obtain ⟨gs, y, ey, y1, y2, y3⟩ := fiber_split hb (fun e0 => by rw [e0] at hpos; exact absurd hpos (by simp))
 unfold topB at y3
 rw [if_neg (by decide), if_neg (by decide), Bool.and_eq_true, Bool.or_eq_true] at y3
 refine ⟨?_, fun h9 => fibK_frames (h.right.fib m hml) h9⟩
 rw [top_end ey]
 rcases y3.2 with y4 | y4
 ·rw [y4, decide_eq_true (freshB_facts y4 ey).1]
 ·have hne := waitB_at y4
  rw [decide_eq_false hne]
  cases hfb : freshB p (s.fibers.getD m default) with
  | false => rfl
  | true => exact absurd (freshB_facts hfb ey).1 hne
theorem ok_imp {p : List GFunc} {s : GState} {l : List Int} (h : Ok p s l) (h0 : 0 ≤ s.now) : ImpFit p s := by
 obtain ⟨hop, _⟩ := step_right h h0
 obtain ⟨k, fs, x, r, hR⟩ := h.runs h0
 have hF := opF_of (progErr_zero h.prog) hR.frame hR.full
 obtain ⟨hA, hN, _⟩ := hR.adv
 have hx : curX s = x := hR.at_.curX
 unfold ImpFit
 rw [hx]
 refine ⟨hop, ⟨h.out, by rw [hN.len]; exact h.few, ?_, fun _ => ok_fresh h h0⟩, hF.kind⟩
 rw [hA.curF, List.length_append, List.length_singleton]
 have := h.few5 hR
 omega
theorem ok_step {p : List GFunc} {s : GState} {l : List Int} (h : Ok p s l) : s.now < 0 ∨ ImpFit p s := by
 by_cases h0 : s.now < 0
 ·exact .inl h0
 ·exact .inr (ok_imp h (by omega))
end Go.Proofs.YtgahbngbpfilgaaGreat
end
section
set_option maxHeartbeats 4000000
set_option maxRecDepth 100000
namespace Go.Proofs.YtgahbngbpfilgaaGreat
open Go Go.RowKit
theorem results_cell3 {P : Program} {fn : Func} {p u u' : Tmp} {ty : TypeId} (h : fn.results = #[.cell p ty, .tmp u, .tmp u']) (tmps : Array Value) (w : World) (b o : Nat) (cs : List Value) (d : TypeDesc)
  (hp : tmps.getD p undef = .pointer (some ⟨b, o, none⟩)) (hc : w.rangeAt b o cs) (hu : P.underlying ty = some d) (hd : d.isRow = true) (hi : (P.info? ty).map (·.size) = some cs.length) :
  (results fn tmps).run P w = .ok (.tuple #[.agg cs.toArray, tmps.getD u undef, tmps.getD u' undef]) w := by
 have h1 : (results fn tmps).run P w = ((asAddr (tmps.getD p undef)).run P w).andThen fun a w₁ => ((loadVar ty a).run P w₁).andThen fun v w₂ => .ok (.tuple #[v, tmps.getD u undef, tmps.getD u' undef]) w₂ := by
  simp only [results, h]
  simp [Sem.run_bind, Result.andThen]
 rw [h1]
 have hp' : tmps[p]?.getD undef = .pointer (some ⟨b, o, none⟩) := by simpa using hp
 simp [hp', asAddr, run_loadVar_mid w b o ty cs d hc hu hd hi, Result.andThen]
theorem runG_zero (p : List GFunc) (s : GState) : runG p 0 s = (s, 0, 0) := rfl
theorem runG_done (p : List GFunc) (s : GState) (k : Nat) (h : s.now < 0) : runG p k s = (s, 0, 0) := by
 cases k with
 | zero => rfl
 | succ k => rw [runG, if_pos h]
theorem runG_err (p : List GFunc) (s : GState) (k : Nat) (h : ¬ s.now < 0) (he : (doneG p s).1 ≠ 0) : runG p (k + 1) s = (s, 0, (doneG p s).1) := by rw [runG, if_neg h, if_pos he]
theorem runG_step (p : List GFunc) (s : GState) (k : Nat) (h : ¬ s.now < 0) (he : (doneG p s).1 = 0) : runG p (k + 1) s = ((runG p k (doneG p s).2).1, (runG p k (doneG p s).2).2.1 + 1, (runG p k (doneG p s).2).2.2) := by rw [runG, if_neg h, if_neg (by simpa using he)]
theorem StateO.few0 {w : World} {B : Nat} {v : Value} (h : StateO w B v ⟨[], 0, []⟩) : ∃ a c b d, v = .agg #[.slice a 0 c, .int .i64 0, .slice b 0 d] := h.few
structure Boxed (w : World) (B b : Nat) (s : GState) : Prop where
 ex : ∃ a c d e, Cx w b 0 (.slice a s.fibers.length c) ∧ Cx w b 1 (.int .i64 s.now) ∧ Cx w b 2 (.slice d s.out.length e) ∧ StateO w B (.agg #[.slice a s.fibers.length c, .int .i64 s.now, .slice d s.out.length e]) s
theorem Boxed.ext {w w' : World} {B b : Nat} {s : GState} (h : Boxed w B b s) (he : Ext w w') : Boxed w' B b s := by
 obtain ⟨a, c, d, e, h1, h2, h3, h4⟩ := h.ex
 exact ⟨a, c, d, e, h1.ext he, h2.ext he, h3.ext he, h4.ext he⟩
theorem Boxed.store {w : World} {B b : Nat} {u0 u1 u2 x0 x1 x2 : Value} {s : GState} (h0 : Cx w b 0 u0) (h1 : Cx w b 1 u1) (h2 : Cx w b 2 u2) (h : StateO w B (.agg #[x0, x1, x2]) s) (hb : b < B) : Boxed (((w.setCell ⟨b, 0, none⟩ x0).setCell ⟨b, 1, none⟩ x1).setCell ⟨b, 2, none⟩ x2) B b s := by
 obtain ⟨a, c, d, e, he⟩ := h.few
 simp only [Value.agg.injEq, Array.mk.injEq, List.cons.injEq, and_true] at he
 obtain ⟨rfl, rfl, rfl⟩ := he
 refine ⟨a, c, d, e, ((h0.set _).other (.inr (by decide)) _).other (.inr (by decide)) _, ((h1.other (.inr (by decide)) _).set _).other (.inr (by decide)) _, ((h2.other (.inr (by decide)) _).other (.inr (by decide)) _).set _, h.chg (chg3 w b _ _ _) (fun k hk e => by have : k = b := e; omega)⟩
theorem ret_state {w wr : World} {x : Value} {s : GState} (h : StateO wr (w.heap.size + 2) x s) (a b c : Value) : StateO (((wr.setCell ⟨w.heap.size + 1, 0, none⟩ a).setCell ⟨w.heap.size + 1, 1, none⟩ b).setCell ⟨w.heap.size + 1, 2, none⟩ c) w.heap.size x s :=
 (h.chg (chg3 wr (w.heap.size + 1) a b c) (fun g hg e => by have : g = w.heap.size + 1 := e; omega)).mono (by omega)
theorem ret_ext {w wr : World} (h : Ext w wr) (a b c : Value) : Ext w (((wr.setCell ⟨w.heap.size + 1, 0, none⟩ a).setCell ⟨w.heap.size + 1, 1, none⟩ b).setCell ⟨w.heap.size + 1, 2, none⟩ c) :=
 ((h.setCell (p := ⟨w.heap.size + 1, 0, none⟩) (Nat.le_succ _) _).setCell (p := ⟨w.heap.size + 1, 1, none⟩) (Nat.le_succ _) _).setCell (p := ⟨w.heap.size + 1, 2, none⟩) (Nat.le_succ _) _
theorem run_any (p : List GFunc) (v : Value) (S T : Nat → Prop) (s : GState) (vs : Value) (fuel : Nat) (w : World) (hp : Funcs w S v p) (hs : StateV w T vs s) (hfit : RunFit p fuel s) (hfu : fuel ≤ 1000000) :
  Calls Tryz.prog 36 #[v, vs, .int .i64 fuel] w fun e w' => (∃ x, e = .returned (.tuple #[x, .int .i64 (runG p fuel s).2.1, .int .i64 (runG p fuel s).2.2]) ∧ StateO w' w.heap.size x (runG p fuel s).1) ∧ Ext w w' := by
 have hfew : FewS s := by cases fuel with | zero => exact hfit | succ k => exact hfit.1
 have HP := Lib.hid hp
 have HS := Lib.hid hs
 have HFEW := Lib.hid hfew
 have HFIT := Lib.hid hfit
 obtain ⟨a, c, b, d, rfl⟩ := hs.few
 obtain ⟨ap, cp, rfl, _, _, _⟩ := hp
 have RA := alloc_keep
 have hs0 : (w.alloc (.cells #[.slice a s.fibers.length c, .int .i64 s.now, .slice b s.out.length d] 26)).heap.size = w.heap.size + 1 := Array.size_push _
 have r0 := Cx.new (w.alloc (.cells #[.slice a s.fibers.length c, .int .i64 s.now, .slice b s.out.length d] 26)) [.slice none 0 0, .int .i64 0, .slice none 0 0] 26 (j := 0) rfl
 have r1 := Cx.new (w.alloc (.cells #[.slice a s.fibers.length c, .int .i64 s.now, .slice b s.out.length d] 26)) [.slice none 0 0, .int .i64 0, .slice none 0 0] 26 (j := 1) rfl
 have r2 := Cx.new (w.alloc (.cells #[.slice a s.fibers.length c, .int .i64 s.now, .slice b s.out.length d] 26)) [.slice none 0 0, .int .i64 0, .slice none 0 0] 26 (j := 2) rfl
 rw [hs0] at r0 r1 r2
 have HR := Lib.hid (⟨r0, r1, r2⟩ : _ ∧ _ ∧ _)
 have HQ := Lib.hid (⟨(Cx.new w [.slice a s.fibers.length c, .int .i64 s.now, .slice b s.out.length d] 26 (j := 0) rfl).ext ((Ext.refl _).alloc (.cells #[.slice none 0 0, .int .i64 0, .slice none 0 0] 26)), (Cx.new w [.slice a s.fibers.length c, .int .i64 s.now, .slice b s.out.length d] 26 (j := 1) rfl).ext ((Ext.refl _).alloc (.cells #[.slice none 0 0, .int .i64 0, .slice none 0 0] 26)), (Cx.new w [.slice a s.fibers.length c, .int .i64 s.now, .slice b s.out.length d] 26 (j := 2) rfl).ext ((Ext.refl _).alloc (.cells #[.slice none 0 0, .int .i64 0, .slice none 0 0] 26))⟩ : _ ∧ _ ∧ _)
 have HE1 : Hid (Ext w ((w.alloc (.cells #[.slice a s.fibers.length c, .int .i64 s.now, .slice b s.out.length d] 26)).alloc (.cells #[.slice none 0 0, .int .i64 0, .slice none 0 0] 26))) := ((Ext.refl w).alloc _).alloc _
 have HS1 : Hid (((w.alloc (.cells #[.slice a s.fibers.length c, .int .i64 s.now, .slice b s.out.length d] 26)).alloc (.cells #[.slice none 0 0, .int .i64 0, .slice none 0 0] 26)).heap.size = w.heap.size + 2) := by unfold Hid; simp
 clear hs0 r0 r1 r2 hfit hfew
 go_enter Tryz.func36, Tryz.ntmps36
 go_upto_region 1 with fail
 go_cut [12] (fun _ wr => Boxed wr (w.heap.size + 2) w.heap.size s ∧ Ext w wr ∧ Cx wr (w.heap.size + 1) 0 (.slice none 0 0) ∧ Cx wr (w.heap.size + 1) 1 (.int .i64 0) ∧ Cx wr (w.heap.size + 1) 2 (.slice none 0 0))
 case first =>
  go_wp2_with (first
   | (go_at_call 7; (with_reducible refine (ownState_any s _ T _ (StateV.stays (Ext.stays (by ((repeat (first | assumption | exact Ext.refl _ | (exact And.left (by assumption)) | refine Ext.alloc ?_ _ | refine Ext.drew ?_ | refine Ext.drewN ?_ _ | refine Ext.setCell ?_ (by simp) _ | refine Ext.setCell ?_ (by simp; omega) _ | refine Ext.trans ?_ (by assumption))); done))) HS.out) HFEW.out).mono ?_); rintro e w2 ⟨⟨P, rfl, hO, hg⟩, hx2⟩; rw [HS1.out] at hO; obtain ⟨q0, q0'⟩ := (HQ.out).1.ext hx2; obtain ⟨q1, q1'⟩ := (HQ.out).2.1.ext hx2; obtain ⟨q2, q2'⟩ := (HQ.out).2.2.ext hx2; obtain ⟨av, cv, ev, _, _⟩ := hO.row.shape; obtain ⟨ao, co, eo, _, _⟩ := hO.out.shape; have hst : StateO w2 (w.heap.size + 2) _ _ := ⟨P, rfl, hO, hg⟩; rw [ev, eo] at hst ⊢; have HST := Lib.hid hst; have HX2 := Lib.hid hx2; clear hO hg hx2 ev eo hst))
  go_meet
  have hr := HR.out
  refine ⟨Boxed.store ⟨q0, q0'⟩ ⟨q1, q1'⟩ ⟨q2, q2'⟩ HST.out (by omega), (((HE1.out.trans HX2.out).setCell (p := ⟨w.heap.size, 0, none⟩) (Nat.le_refl _) _).setCell (p := ⟨w.heap.size, 1, none⟩) (Nat.le_refl _) _).setCell (p := ⟨w.heap.size, 2, none⟩) (Nat.le_refl _) _, ?_, ?_, ?_⟩
  ·exact (hr.1.ext HX2.out).chg (chg3 w2 w.heap.size _ _ _) (by omega)
  ·exact (hr.2.1.ext HX2.out).chg (chg3 w2 w.heap.size _ _ _) (by omega)
  ·exact (hr.2.2.ext HX2.out).chg (chg3 w2 w.heap.size _ _ _) (by omega)
 case rest =>
  rename World => w2
  obtain ⟨hB2, hE2, hR2⟩ := hcut
  have HB2 := Lib.hid hB2
  have HE2 := Lib.hid hE2
  have HR2 := Lib.hid hR2
  clear hB2 hE2 hR2 HR HQ HE1 HS1 HS HFEW
  go_wp2_with fail
  go_loopw [9] (fun q9 wr => ∃ (n k : Nat) (s' : GState), n + k = fuel ∧ q9 = .int .i64 n ∧ (n = 0 ∨ (0 < k ∧ ¬ s'.now < 0)) ∧ RunFit p k s' ∧ runG p fuel s = ((runG p k s').1, (runG p k s').2.1 + n, (runG p k s').2.2) ∧
    Boxed wr (w.heap.size + 2) w.heap.size s' ∧ Ext w wr ∧ Cx wr (w.heap.size + 1) 0 (.slice none 0 0) ∧ Cx wr (w.heap.size + 1) 1 (.int .i64 0) ∧ Cx wr (w.heap.size + 1) 2 (.slice none 0 0)) (fun q _ => fuel - (intOf q).toNat)
  case atStart => exact ⟨0, fuel, s, Nat.zero_add _, rfl, .inl rfl, HFIT.out, by simp, HB2.out, HE2.out, HR2.out⟩
  case round =>
   obtain ⟨n, k, s', hnk, rfl, hgo, hfit, hrun, hbx, hE, hR⟩ := hrel
   have HGO := Lib.hid hgo
   have HFITK := Lib.hid hfit
   have HRUN := Lib.hid hrun
   have HEK := Lib.hid hE
   have HRK := Lib.hid hR
   have HBXK := Lib.hid hbx
   obtain ⟨ax, cx, dx, ex, ⟨b0, b0'⟩, ⟨b1, b1'⟩, ⟨b2, b2'⟩, hst⟩ := hbx.ex
   have HST := Lib.hid hst
   obtain ⟨⟨r0, r0'⟩, ⟨r1, r1'⟩, ⟨r2, r2'⟩⟩ := hR
   clear hgo hfit hrun hbx hE hst
   rename World => wr
   have hexit : k = 0 ∨ s'.now < 0 → n = 0 := fun h => by rcases HGO.out with h1 | h1; exact h1; rcases h with h2 | h2; omega; exact absurd h2 h1.2
   by_cases hk : k = 0
   ·subst hk
    have hn0 := hexit (.inl rfl)
    subst hn0
    have TF : decide (((0 : Nat) : Int) < (fuel : Int)) = false := decide_eq_false (by omega)
    have TF' : decide ((0 : Int) < (fuel : Int)) = false := decide_eq_false (by omega)
    have HRES : Hid (runG p fuel s = (s', 0, 0)) := HRUN.out
    go_wp2_with fail
    refine bodyPost_ret (results_cell3 rfl _ _ (w.heap.size + 1) 0 _ _ rfl (box3 ⟨r0, r0'⟩ ⟨r1, r1'⟩ ⟨r2, r2'⟩ _ _ _) rfl rfl (by kernel_rfl)) rfl ?_
    rw [HRES.out]
    exact ⟨⟨_, by rfl, ret_state HST.out _ _ _⟩, ret_ext HEK.out _ _ _⟩
   ·obtain ⟨k, rfl⟩ : ∃ j, k = j + 1 := ⟨k - 1, by omega⟩
    have TF : decide ((n : Int) < (fuel : Int)) = true := decide_eq_true (by omega)
    by_cases hneg : s'.now < 0
    ·have hn0 := hexit (.inr hneg)
     subst hn0
     have TF' : decide ((0 : Int) < (fuel : Int)) = true := decide_eq_true (by omega)
     have TN : decide ((0 : Int) ≤ s'.now) = false := decide_eq_false (by omega)
     have HRES : Hid (runG p fuel s = (s', 0, 0)) := by
      have h := HRUN.out
      rw [runG_done p s' _ hneg] at h
      exact h
     go_wp2_with fail
     refine bodyPost_ret (results_cell3 rfl _ _ (w.heap.size + 1) 0 _ _ rfl (box3 ⟨r0, r0'⟩ ⟨r1, r1'⟩ ⟨r2, r2'⟩ _ _ _) rfl rfl (by kernel_rfl)) rfl ?_
     rw [HRES.out]
     exact ⟨⟨_, by rfl, ret_state HST.out _ _ _⟩, ret_ext HEK.out _ _ _⟩
    ·have TN : decide ((0 : Int) ≤ s'.now) = true := decide_eq_true (by omega)
     have hfk := HFITK.out
     rw [RunFit] at hfk
     obtain ⟨hfewk, hopk⟩ := hfk
     obtain ⟨hopk, hnext⟩ := hopk.resolve_left hneg
     have HFEWK := Lib.hid hfewk
     have HOPK : Hid (s'.now < 0 ∨ OpFit p s') := Lib.hid (.inr hopk)
     have HNEXT := Lib.hid hnext
     have HNEG := Lib.hid hneg
     clear hfewk hopk hnext hexit hk
     by_cases he : (doneG p s').1 = 0
     ·have hsg : stepG p s' = (0, (doneG p s').2) := by unfold stepG; rw [if_neg hneg, if_pos he]
      have hnx := HNEXT.out.resolve_left (fun h => h he)
      have hrn := HRUN.out
      rw [runG_step p s' k hneg he] at hrn
      obtain ⟨t, ht⟩ : ∃ t, (doneG p s').2 = t := ⟨_, rfl⟩
      rw [ht] at hsg hnx hrn
      have HSG := Lib.hid hsg
      have HNX := Lib.hid hnx
      have HRN := Lib.hid hrn
      clear hsg hnx hrn ht he hneg
      go_upto_region 9 with (first
       | (go_at_call 35; (with_reducible refine (stepped_any p _ S _ s' _ _ (Funcs.stays (Ext.stays HEK.out) HP.out) HST.out.state HFEWK.out HOPK.out).mono ?_); rintro e w3 ⟨⟨x, rfl, hx⟩, hx3⟩; rw [HSG.out] at hx ⊢; obtain ⟨ax3, cx3, dx3, ex3, rfl⟩ := hx.few; obtain ⟨hq0, hq0'⟩ := (Cx.ext (W := wr) ⟨b0, b0'⟩ hx3).ext ((Ext.refl w3).alloc (.cells #[.slice ax3 t.fibers.length cx3, .int .i64 t.now, .slice dx3 t.out.length ex3] 26)); obtain ⟨hq1, hq1'⟩ := (Cx.ext (W := wr) ⟨b1, b1'⟩ hx3).ext ((Ext.refl w3).alloc (.cells #[.slice ax3 t.fibers.length cx3, .int .i64 t.now, .slice dx3 t.out.length ex3] 26)); obtain ⟨hq2, hq2'⟩ := (Cx.ext (W := wr) ⟨b2, b2'⟩ hx3).ext ((Ext.refl w3).alloc (.cells #[.slice ax3 t.fibers.length cx3, .int .i64 t.now, .slice dx3 t.out.length ex3] 26)); have hr0 := (Cx.ext (W := wr) ⟨r0, r0'⟩ hx3).ext ((Ext.refl w3).alloc (.cells #[.slice ax3 t.fibers.length cx3, .int .i64 t.now, .slice dx3 t.out.length ex3] 26)); have hr1 := (Cx.ext (W := wr) ⟨r1, r1'⟩ hx3).ext ((Ext.refl w3).alloc (.cells #[.slice ax3 t.fibers.length cx3, .int .i64 t.now, .slice dx3 t.out.length ex3] 26)); have hr2 := (Cx.ext (W := wr) ⟨r2, r2'⟩ hx3).ext ((Ext.refl w3).alloc (.cells #[.slice ax3 t.fibers.length cx3, .int .i64 t.now, .slice dx3 t.out.length ex3] 26)); have HX3 := Lib.hid hx3; have HXS := Lib.hid hx; clear hx hx3))
      have HR3 := Lib.hid (⟨hr0, hr1, hr2⟩ : _ ∧ _ ∧ _)
      have hrs : w.heap.size + 2 ≤ wr.heap.size := by have := Cx.lt (W := wr) ⟨r0, r0'⟩; omega
      have hB5 := Boxed.store (w := w3.alloc (.cells #[.slice ax3 t.fibers.length cx3, .int .i64 t.now, .slice dx3 t.out.length ex3] 26)) (B := w.heap.size + 2) ⟨hq0, hq0'⟩ ⟨hq1, hq1'⟩ ⟨hq2, hq2'⟩ ((HXS.out.ext ((Ext.refl _).alloc _)).mono hrs) (by omega)
      obtain ⟨W5, hW5⟩ : ∃ W5, W5 = (((w3.alloc (.cells #[.slice ax3 t.fibers.length cx3, .int .i64 t.now, .slice dx3 t.out.length ex3] 26)).setCell ⟨w.heap.size, 0, none⟩ (.slice ax3 t.fibers.length cx3)).setCell ⟨w.heap.size, 1, none⟩ (.int .i64 t.now)).setCell ⟨w.heap.size, 2, none⟩ (.slice dx3 t.out.length ex3) := ⟨_, rfl⟩
      rw [← hW5] at hB5 ⊢
      have HE5 : Hid (Ext w W5) := by
       rw [hW5]
       exact ((((HEK.out.trans HX3.out).alloc _).setCell (p := ⟨w.heap.size, 0, none⟩) (Nat.le_refl _) _).setCell (p := ⟨w.heap.size, 1, none⟩) (Nat.le_refl _) _).setCell (p := ⟨w.heap.size, 2, none⟩) (Nat.le_refl _) _
      have HR5 : Hid (Cx W5 (w.heap.size + 1) 0 (.slice none 0 0) ∧ Cx W5 (w.heap.size + 1) 1 (.int .i64 0) ∧ Cx W5 (w.heap.size + 1) 2 (.slice none 0 0)) := by
       rw [hW5]
       exact ⟨(HR3.out).1.chg (chg3 _ w.heap.size _ _ _) (by omega), (HR3.out).2.1.chg (chg3 _ w.heap.size _ _ _) (by omega), (HR3.out).2.2.chg (chg3 _ w.heap.size _ _ _) (by omega)⟩
      have HB5 := Lib.hid hB5
      obtain ⟨ay, cy, dy, ey, ⟨y0, y0'⟩, ⟨y1, y1'⟩, ⟨y2, y2'⟩, hsty⟩ := hB5.ex
      have HSTY := Lib.hid hsty
      obtain ⟨⟨p0, p0'⟩, ⟨p1, p1'⟩, ⟨p2, p2'⟩⟩ := HR5.out
      have KN : IntKind.i64.wrap ((n : Int) + 1) = (n : Int) + 1 := IntWalk.i64_in _ (by omega)
      clear hW5 hB5 hsty hq0 hq0' hq1 hq1' hq2 hq2' hr0 hr1 hr2 HR3 HXS b0 b0' b1 b1' b2 b2' r0 r0' r1 r1' r2 r2' HBXK HST HRK hrs
      rename World => w5
      by_cases hk0 : k = 0
      ·subst hk0
       have TF9 : ((n : Int) + 1 == (fuel : Int)) = true := by simp; omega
       have HRES : Hid (runG p fuel s = (t, (n : Int) + 1, 0)) := by
        have h := HRN.out
        rw [runG_zero] at h
        unfold Hid
        rw [h]
        simp; omega
       go_wp2_with fail
       refine bodyPost_ret (results_cell3 rfl _ _ (w.heap.size + 1) 0 _ _ rfl (box3 ⟨p0, p0'⟩ ⟨p1, p1'⟩ ⟨p2, p2'⟩ _ _ _) rfl rfl (by kernel_rfl)) rfl ?_
       rw [HRES.out]
       exact ⟨⟨_, rfl, ret_state HSTY.out _ _ _⟩, ret_ext HE5.out _ _ _⟩
      ·have TF9 : ((n : Int) + 1 == (fuel : Int)) = false := by simp; omega
       by_cases hneg : t.now < 0
       ·have TN9 : decide (t.now < 0) = true := decide_eq_true hneg
        have HRES : Hid (runG p fuel s = (t, (n : Int) + 1, 0)) := by
         have h := HRN.out
         rw [runG_done p t k hneg] at h
         unfold Hid
         rw [h]
         simp; omega
        go_wp2_with fail
        refine bodyPost_ret (results_cell3 rfl _ _ (w.heap.size + 1) 0 _ _ rfl (box3 ⟨p0, p0'⟩ ⟨p1, p1'⟩ ⟨p2, p2'⟩ _ _ _) rfl rfl (by kernel_rfl)) rfl ?_
        rw [HRES.out]
        exact ⟨⟨_, rfl, ret_state HSTY.out _ _ _⟩, ret_ext HE5.out _ _ _⟩
       ·have TN9 : decide (t.now < 0) = false := decide_eq_false hneg
        go_wp2_with fail
        go_roundw
        case rel => exact ⟨n + 1, k, t, by omega, by go_num, .inr ⟨by omega, hneg⟩, HNX.out, by rw [HRN.out]; simp; omega, HB5.out, HE5.out, HR5.out⟩
        case measure => simp [intOf]; omega
     ·have hsg : stepG p s' = ((doneG p s').1, ⟨[], 0, []⟩) := by unfold stepG; rw [if_neg hneg, if_neg he]
      have TE : ((doneG p s').1 != 0) = true := bne_iff_ne.2 he
      have hrn := HRUN.out
      rw [runG_err p s' k hneg he] at hrn
      obtain ⟨re, hre⟩ : ∃ re, (doneG p s').1 = re := ⟨_, rfl⟩
      rw [hre] at TE hsg hrn
      have HSG := Lib.hid hsg
      have HRN := Lib.hid hrn
      clear hsg hrn hre he hneg
      go_wp2_with (first
       | (go_at_call 35; (with_reducible refine (stepped_any p _ S _ s' _ _ (Funcs.stays (Ext.stays HEK.out) HP.out) HST.out.state HFEWK.out HOPK.out).mono ?_); rintro e w3 ⟨⟨x, rfl, hx⟩, hx3⟩; rw [HSG.out] at hx ⊢; obtain ⟨ax3, cx3, dx3, ex3, rfl⟩ := hx.few0; obtain ⟨hq0, hq0'⟩ := (Cx.ext (W := wr) ⟨b0, b0'⟩ hx3).ext ((Ext.refl w3).alloc (.cells #[.slice ax3 0 cx3, .int .i64 0, .slice dx3 0 ex3] 26)); obtain ⟨hq1, hq1'⟩ := (Cx.ext (W := wr) ⟨b1, b1'⟩ hx3).ext ((Ext.refl w3).alloc (.cells #[.slice ax3 0 cx3, .int .i64 0, .slice dx3 0 ex3] 26)); obtain ⟨hq2, hq2'⟩ := (Cx.ext (W := wr) ⟨b2, b2'⟩ hx3).ext ((Ext.refl w3).alloc (.cells #[.slice ax3 0 cx3, .int .i64 0, .slice dx3 0 ex3] 26)); have hr0 := (Cx.ext (W := wr) ⟨r0, r0'⟩ hx3).ext ((Ext.refl w3).alloc (.cells #[.slice ax3 0 cx3, .int .i64 0, .slice dx3 0 ex3] 26)); have hr1 := (Cx.ext (W := wr) ⟨r1, r1'⟩ hx3).ext ((Ext.refl w3).alloc (.cells #[.slice ax3 0 cx3, .int .i64 0, .slice dx3 0 ex3] 26)); have hr2 := (Cx.ext (W := wr) ⟨r2, r2'⟩ hx3).ext ((Ext.refl w3).alloc (.cells #[.slice ax3 0 cx3, .int .i64 0, .slice dx3 0 ex3] 26)); obtain ⟨p0, p0'⟩ := hr0; obtain ⟨p1, p1'⟩ := hr1; obtain ⟨p2, p2'⟩ := hr2; have HX3 := Lib.hid hx3; clear hx hx3))
      have HRES : Hid (runG p fuel s = (s', (n : Int), re)) := by
       have h := HRN.out
       unfold Hid
       rw [h]
       simp
      refine bodyPost_ret (results_cell3 rfl _ _ (w.heap.size + 1) 0 _ _ rfl (box3 ⟨p0, p0'⟩ ⟨p1, p1'⟩ ⟨p2, p2'⟩ _ _ _) rfl rfl (by kernel_rfl)) rfl ?_
      rw [HRES.out]
      exact ⟨⟨_, rfl, ret_state (HST.out.ext (HX3.out.alloc _)) _ _ _⟩, ret_ext ((HEK.out.trans HX3.out).alloc _) _ _ _⟩
end Go.Proofs.YtgahbngbpfilgaaGreat
end
section
set_option maxHeartbeats 2000000
set_option maxRecDepth 100000
namespace Go.Proofs.YtgahbngbpfilgaaGreat
open Go Go.RowKit
theorem Bools.at' {w : World} {S : Nat → Prop} {a : Option Addr} {l : List Bool} {n c : Nat} (h : Bools w S (.slice a n c) l) {m : Nat} (hm : m < l.length) : ∃ b o, a = some ⟨b, o, none⟩ ∧ w.cell? ⟨b, o + m, none⟩ = some (.bool l[m]) := by
 obtain ⟨b, o, _, e1, _, _, _, x0⟩ := h.get hm
 simp only [Value.slice.injEq] at e1
 obtain ⟨rfl, -, rfl⟩ := e1
 rw [Nat.mul_one] at x0
 exact ⟨b, o, rfl, x0⟩
theorem indexB_any (l : List Bool) (v : Value) (S : Nat → Prop) (w : World) (hl : Bools w S v l) :
  Calls Tryz.prog 119 #[v, .bool false] w fun e w' => (∃ i : Int, e = .returned (.int .i64 i) ∧ (0 ≤ i ↔ false ∈ l)) ∧ Ext w w' := by
 have HL := Lib.hid hl
 obtain ⟨pa, ca, rfl, hca, hba, _⟩ := hl
 go_enter Tryz.func119, Tryz.ntmps119
 go_wp2_with fail
 go_loopw [8] (fun q wr => ∃ k : Nat, k ≤ l.length ∧ q = .int .i64 k ∧ Ext w wr ∧ false ∉ l.take k) (fun q _ => l.length - (intOf q).toNat)
 case atStart => exact ⟨0, Nat.zero_le _, rfl, Ext.refl _, by simp⟩
 case round =>
  obtain ⟨k, hk, rfl, hb3, htk⟩ := hrel
  have HB3 := Lib.hid hb3
  have HTK := Lib.hid htk
  clear hb3 htk
  by_cases hlt : k < l.length
  ·obtain ⟨ba, oa, rfl, x0⟩ := HL.out.at' hlt
   have x1 := Ext.cell HB3.out x0
   have HM : Hid (l[k] ∈ l) := List.getElem_mem hlt
   have HS : Hid (l.take (k + 1) = l.take k ++ [l[k]]) := List.take_succ_eq_append_getElem hlt
   clear x0
   generalize l[k] = u at *
   cases u with
   | false =>
    go_wp2_with fail
    go_ret
    exact ⟨⟨k, rfl, ⟨fun _ => HM.out, fun _ => by omega⟩⟩, HB3.out⟩
   | true =>
    have HX : Hid (false ∉ l.take (k + 1)) := by unfold Hid; rw [HS.out, List.mem_append, List.mem_singleton]; exact fun h => h.elim HTK.out (by decide)
    go_wp2_with fail
    go_roundw
    case rel => exact ⟨k + 1, by omega, by go_num, HB3.out, HX.out⟩
    case measure => simp [intOf]; omega
  ·obtain rfl : k = l.length := by omega
   have HX : Hid (false ∉ l) := by have := HTK.out; rwa [List.take_length] at this
   go_wp2_with fail
   go_ret
   exact ⟨⟨-1, rfl, ⟨fun h => by omega, fun h => (HX.out h).elim⟩⟩, HB3.out⟩
theorem containsB_any (l : List Bool) (v : Value) (S : Nat → Prop) (w : World) (hl : Bools w S v l) :
  Calls Tryz.prog 100 #[v, .bool false] w fun e w' => e = .returned (.bool (decide (false ∈ l))) ∧ Ext w w' := by
 have HL := Lib.hid hl
 obtain ⟨pa, ca, rfl, hca, hba, _⟩ := hl
 obtain ⟨t, ht⟩ : ∃ t, decide (false ∈ l) = t := ⟨_, rfl⟩
 rw [ht]
 have HT := Lib.hid ht
 clear ht
 go_enter Tryz.func100, Tryz.ntmps100
 go_wp2_with (first
  | (go_at_call 119; (with_reducible refine (indexB_any l _ S _ HL.out).mono ?_); rintro e w2 ⟨⟨i, rfl, hi⟩, hx⟩; have HI := Lib.hid hi; clear hi))
 go_ret
 refine ⟨?_, hx⟩
 exact congrArg (fun b => Ending.returned (.bool b)) ((decide_eq_decide.2 HI.out).trans HT.out)
def refusal (r : Int) : List PanicEntry := [{ v := .iface 89 (.agg #[.int .i64 r]), recovered := false }]
theorem must_ok (l : List Bool) (r : Int) (v : Value) (S : Nat → Prop) (w : World) (hl : Bools w S v l) (h : false ∉ l) :
  Calls Tryz.prog 67 #[.int .i64 r, v] w fun e w' => e = .returned (.tuple #[]) ∧ Ext w w' := by
 have HL := Lib.hid hl
 have HT : Hid (decide (false ∈ l) = false) := decide_eq_false h
 obtain ⟨pa, ca, rfl, _, _, _⟩ := hl
 clear h
 go_enter Tryz.func67, Tryz.ntmps67
 go_wp2_with (first
  | (go_at_call 100; (with_reducible refine (containsB_any l _ S _ HL.out).mono ?_); rintro e w2 ⟨rfl, hx⟩; rw [HT.out]))
 go_end0
 exact ⟨rfl, hx⟩
theorem must_bad (l : List Bool) (r : Int) (v : Value) (S : Nat → Prop) (w : World) (hl : Bools w S v l) (h : false ∈ l) :
  Calls Tryz.prog 67 #[.int .i64 r, v] w fun e w' => e = .panicked (refusal r) ∧ Ext w w' := by
 have HL := Lib.hid hl
 have hpn := @run_panic_iface Tryz.prog
 have HT : Hid (decide (false ∈ l) = true) := decide_eq_true h
 obtain ⟨pa, ca, rfl, _, _, _⟩ := hl
 clear h
 go_enter Tryz.func67, Tryz.ntmps67
 go_wp2_with (first
  | (go_at_call 100; (with_reducible refine (containsB_any l _ S _ HL.out).mono ?_); rintro e w2 ⟨rfl, hx⟩; rw [HT.out]))
 exact ⟨rfl, rfl, hx⟩
def mustE (c : Bool) (r : Int) : Ending := match c with
 | true => .returned (.tuple #[])
 | false => .panicked (refusal r)
theorem must_all (l : List Bool) (r : Int) (v : Value) (S : Nat → Prop) (w : World) (hl : Bools w S v l) (c : Bool) (hc : c = l.all id) :
  Calls Tryz.prog 67 #[.int .i64 r, v] w fun e w' => e = mustE c r ∧ Ext w w' := by
 cases c with
 | true => exact must_ok l r v S w hl (fun h => by
   have h2 := List.all_eq_true.1 hc.symm _ h
   cases h2)
 | false => exact must_bad l r v S w hl (by
   have h2 : ¬ l.all id = true := by rw [← hc]; decide
   rw [List.all_eq_true] at h2
   refine Classical.byContradiction fun h3 => h2 fun x hx => ?_
   cases x with
   | true => rfl
   | false => exact absurd hx h3)
theorem bools_new (w : World) (l : List Bool) (t : TypeId) (hl : l.length ≤ 1000) : Bools (w.alloc (.cells (l.map Value.bool).toArray t)) (fun _ => True) (.slice (some ⟨w.heap.size, 0, none⟩) l.length l.length) l := by
 refine ⟨_, _, rfl, Nat.le_refl _, ⟨by omega, by omega⟩, fun i hi => ⟨w.heap.size, 0, rfl, trivial, ?_⟩⟩
 rw [Nat.mul_one, Nat.zero_add, World.cell?_alloc_new, List.getElem?_toArray, List.getElem?_map, List.getElem?_eq_getElem hi]
 rfl
theorem must1 (a : Bool) (r : Int) (w : World) (t : TypeId) : Calls Tryz.prog 67 #[.int .i64 r, .slice (some ⟨w.heap.size, 0, none⟩) 1 1] (w.alloc (.cells #[.bool a] t)) fun e w' => e = mustE a r ∧ Ext (w.alloc (.cells #[.bool a] t)) w' :=
 must_all [a] r _ _ _ (bools_new w [a] t (by simp)) a (by simp)
theorem must2 (a b : Bool) (r : Int) (w : World) (t : TypeId) : Calls Tryz.prog 67 #[.int .i64 r, .slice (some ⟨w.heap.size, 0, none⟩) 2 2] (w.alloc (.cells #[.bool a, .bool b] t)) fun e w' => e = mustE (a && b) r ∧ Ext (w.alloc (.cells #[.bool a, .bool b] t)) w' :=
 must_all [a, b] r _ _ _ (bools_new w [a, b] t (by simp)) _ (by simp)
theorem must3 (a b c : Bool) (r : Int) (w : World) (t : TypeId) : Calls Tryz.prog 67 #[.int .i64 r, .slice (some ⟨w.heap.size, 0, none⟩) 3 3] (w.alloc (.cells #[.bool a, .bool b, .bool c] t)) fun e w' => e = mustE (a && b && c) r ∧ Ext (w.alloc (.cells #[.bool a, .bool b, .bool c] t)) w' :=
 must_all [a, b, c] r _ _ _ (bools_new w [a, b, c] t (by simp)) _ (by simp [Bool.and_assoc])
end Go.Proofs.YtgahbngbpfilgaaGreat
end
section
set_option maxHeartbeats 4000000
set_option maxRecDepth 100000
set_option linter.unusedSimpArgs false
namespace Go.Proofs.YtgahbngbpfilgaaGreat
open Go Go.RowKit
def HtsL (w : World) : Value → List (List Int) → Prop := Sl (fun b o l => ∃ v, w.cell? ⟨b, o, none⟩ = some v ∧ Ints w (fun _ => True) v l) 1 24
theorem HtsL.ext {w w' : World} {v : Value} {l : List (List Int)} (h : HtsL w v l) (he : Ext w w') : HtsL w' v l :=
 Sl.mono h fun _ _ _ ⟨v, h1, h2⟩ => ⟨v, Ext.cell he h1, Ints.stays (Ext.stays he) h2⟩
structure Judge (w : World) (b : Nat) (p : List GFunc) (s : GState) (line : List Int) : Prop where
 fs : ∃ a c, w.cell? ⟨b, 0, none⟩ = some (.slice a s.fibers.length c) ∧ Fibers w (fun _ => True) (.slice a s.fibers.length c) s.fibers
 now : w.cell? ⟨b, 1, none⟩ = some (.int .i64 s.now)
 pr : ∃ a c, w.cell? ⟨b, 3, none⟩ = some (.slice a p.length c) ∧ Funcs w (fun _ => True) (.slice a p.length c) p
 hts : ∃ a c, w.cell? ⟨b, 4, none⟩ = some (.slice a p.length c) ∧ HtsL w (.slice a p.length c) ((List.range p.length).map (fun k : Nat => hgt p k))
 ln : ∃ a c, w.cell? ⟨b, 5, none⟩ = some (.slice a line.length c) ∧ Ints w (fun _ => True) (.slice a line.length c) line
theorem Judge.ext {w w' : World} {b : Nat} {p : List GFunc} {s : GState} {line : List Int} (h : Judge w b p s line) (he : Ext w w') : Judge w' b p s line := by
 obtain ⟨a1, c1, h1, h2⟩ := h.fs
 obtain ⟨a3, c3, h5, h6⟩ := h.pr
 obtain ⟨a4, c4, h7, h8⟩ := h.hts
 obtain ⟨a5, c5, h9, h10⟩ := h.ln
 exact ⟨⟨a1, c1, Ext.cell he h1, Fibers.stays (Ext.stays he) h2⟩, Ext.cell he h.now, ⟨a3, c3, Ext.cell he h5, Funcs.stays (Ext.stays he) h6⟩, ⟨a4, c4, Ext.cell he h7, h8.ext he⟩, ⟨a5, c5, Ext.cell he h9, Ints.stays (Ext.stays he) h10⟩⟩
theorem Judge.at' {w : World} {p : List GFunc} {a : Option Addr} {n c : Nat} (h : HtsL w (.slice a n c) ((List.range p.length).map (fun k : Nat => hgt p k))) {k : Nat} (hk : k < p.length) :
  ∃ b o a' c', a = some ⟨b, o, none⟩ ∧ w.cell? ⟨b, o + k, none⟩ = some (.slice a' (hgt p k).length c') ∧ Ints w (fun _ => True) (.slice a' (hgt p k).length c') (hgt p k) := by
 obtain ⟨b, o, _, e1, _, _, v, x0, hi⟩ := h.get (i := k) (by simpa using hk)
 simp only [Value.slice.injEq] at e1
 obtain ⟨rfl, -, -⟩ := e1
 rw [Nat.mul_one] at x0
 simp only [List.getElem_map, List.getElem_range] at hi
 have hi2 := hi
 obtain ⟨a', c', rfl, _, _, _⟩ := hi
 exact ⟨b, o, a', c', rfl, x0, hi2⟩
theorem jframe_any (p : List GFunc) (s : GState) (line : List Int) (jb : Nat) (T : Nat → Prop) (x : GFrame) (vx : Value) (w : World) (hj : Judge w jb p s line) (hz : progErr p = 0) (hx : FrameV w T vx x) :
  Calls Tryz.prog 102 #[.pointer (some ⟨jb, 0, none⟩), vx] w fun e w' => e = mustE (frameB p x) 1 ∧ Ext w w' := by
 have HJ := Lib.hid hj
 have HZ := Lib.hid hz
 obtain ⟨fn, at_, ls, st⟩ := x
 obtain ⟨vs, vt, rfl, _, _, hls, hst⟩ := hx
 obtain ⟨a1, c1, rfl, _, _, _⟩ := hls
 obtain ⟨a2, c2, rfl, _, _, _⟩ := hst
 simp only at *
 have RA := alloc_keep
 have hlen5 := (progErr_zero hz).most
 obtain ⟨ap, cp, j3, hp⟩ := hj.pr
 obtain ⟨ah, ch, j4, hh⟩ := hj.hts
 have bx := Lib.hid (⟨Cx.new w [.int .i64 fn, .int .i64 at_, .slice a1 ls.length c1, .slice a2 st.length c2] 43 (j := 0) rfl, Cx.new w [.int .i64 fn, .int .i64 at_, .slice a1 ls.length c1, .slice a2 st.length c2] 43 (j := 1) rfl, Cx.new w [.int .i64 fn, .int .i64 at_, .slice a1 ls.length c1, .slice a2 st.length c2] 43 (j := 2) rfl⟩ : _ ∧ _ ∧ _)
 have hE1 : Ext w (w.alloc (.cells #[.int .i64 fn, .int .i64 at_, .slice a1 ls.length c1, .slice a2 st.length c2] 43)) := (Ext.refl w).alloc _
 have HE1 := Lib.hid hE1
 have k3 := Ext.cell hE1 j3
 have k4 := Ext.cell hE1 j4
 have HP := Lib.hid hp
 have HH := Lib.hid hh
 clear hp hh hj j3 j4
 by_cases h1 : 0 ≤ fn ∧ fn < p.length
 ·obtain ⟨n, rfl⟩ : ∃ n : Nat, fn = n := ⟨fn.toNat, by omega⟩
  have hn : n < p.length := by omega
  have hlm := hgt_len hz hn
  have hmax := (rightAt hz hn).1.len
  have hF := funcOf_nat hn
  obtain ⟨b, o, cap, e1, hcap, hby, _, ⟨_, hL, iL⟩, vc, hC, hcode⟩ := HP.out.get hn
  simp only [Value.slice.injEq] at e1
  obtain ⟨rfl, -, rfl⟩ := e1
  obtain ⟨ca, ccap, rfl, hcc, hcby, _⟩ := hcode
  have hL1 := Ext.cell hE1 hL
  have hC1 := Ext.cell hE1 hC
  have T2 : decide ((n : Int) < (p.length : Int)) = true := decide_eq_true (by omega)
  go_enter Tryz.func102, Tryz.ntmps102
  go_upto_region 1 with fail
  obtain ⟨⟨b0, -⟩, ⟨b1, -⟩, ⟨b2, -⟩⟩ := bx.out
  generalize w.alloc (.cells #[.int .i64 n, .int .i64 at_, .slice a1 ls.length c1, .slice a2 st.length c2] 43) = w1 at *
  go_still_tail 11, (by kernel_rfl)
  change wpList _ _ _ _ _ w1.drew
  have hE2 : Ext w1 w1.drew := (Ext.refl _).drew
  generalize w1.drew = w2 at *
  go_upto_region 2 with (first
   | (go_at_call 67; refine (must2 _ _ _ _ _ ).mono ?_; rintro e w3 ⟨rfl, hx3⟩; rw [Bool.and_true, show mustE true 1 = .returned (.tuple #[]) from rfl]))
  have hE3 : Ext w1 w3 := hE2.trans (((Ext.refl _).alloc _).trans hx3)
  have HE3 := Lib.hid (HE1.out.trans hE3)
  have d0 := Ext.cell hE3 b0
  have d1 := Ext.cell hE3 b1
  have d2 := Ext.cell hE3 b2
  have d3 := Ext.cell hE3 k3
  have d4 := Ext.cell hE3 k4
  have d5 := Ext.cell hE3 hL1
  have d6 := Ext.cell hE3 hC1
  clear hx3 hE2 b0 b1 b2 k3 k4 hL1 hC1 hE1 hE3
  rename World => w3
  have HBX := Lib.hid (⟨d0, d1, d4⟩ : _ ∧ _ ∧ _)
  by_cases h2 : (ls.length : Int) = p[n].locals
  ·have HLs : Hid (((ls.length : Int) == p[n].locals) = true) := by unfold Hid; simp [h2]
   by_cases h3 : 0 ≤ at_ ∧ at_ < p[n].code.length
   ·obtain ⟨m, rfl⟩ : ∃ m : Nat, at_ = m := ⟨at_.toNat, by omega⟩
    have hm : m < p[n].code.length := by omega
    have hml : m < (hgt p n).length := by omega
    obtain ⟨u, hu⟩ : ∃ u, (hgt p n).getD m 0 = u := ⟨_, rfl⟩
    have HR : Hid (frameB p ⟨n, m, ls, st⟩ = decide (0 ≤ u)) := by
     unfold Hid frameB
     simp only [hF]
     rw [decide_eq_true h1, decide_eq_true h2, decide_eq_true h3, show (m : Int).toNat = m by omega, hu]
     simp
    have HU := Lib.hid hu
    obtain ⟨bh, oh, ah2, ch2, rfl, hh0, hhi⟩ := Judge.at' HH.out hn
    obtain ⟨bl, ol, rfl, hl0⟩ := Ints.at' hhi hml
    rw [HU.out] at hl0
    have HHI := Lib.hid (⟨hh0, hl0⟩ : _ ∧ _)
    clear h1 h2 h3 hu hhi hh0 hl0
    go_still_tail 29, (by kernel_rfl)
    change wpList _ _ _ _ _ w3.drew
    have hE4 : Ext w3 w3.drew := (Ext.refl _).drew
    generalize w3.drew = w4 at *
    go_upto_region 3 with (first
     | (go_at_call 67; refine (must3 _ _ _ _ _ _ ).mono ?_; rintro e w5 ⟨he, hx5⟩; rw [HLs.out] at he; simp only [Bool.and_true, Bool.true_and, Bool.and_false, Bool.false_and, Bool.and_self, mustE] at he; subst he))
    have hE5 : Ext w3 w5 := hE4.trans (((Ext.refl _).alloc _).trans hx5)
    have HE5 := Lib.hid (HE3.out.trans hE5)
    have d0' := Ext.cell hE5 d0
    have d1' := Ext.cell hE5 d1
    have d4' := Ext.cell hE5 d4
    have d7 := Ext.cell HE5.out HHI.out.1
    have d8 := Ext.cell HE5.out HHI.out.2
    clear hx5 hE4 hE5 d0 d1 d2 d3 d4 d5 d6
    rename World => w5
    go_still_tail 13, (by kernel_rfl)
    change wpList _ _ _ _ _ w5.drew
    have hE6 : Ext w5 w5.drew := (Ext.refl _).drew
    generalize w5.drew = w6 at *
    by_cases h0 : 0 ≤ u
    ·have HU0 : Hid (decide (0 ≤ u) = true) := decide_eq_true h0
     clear h0
     go_wp2_with (first
      | (go_at_call 67; refine (must1 _ _ _ _ ).mono ?_; rintro e w7 ⟨he, hx7⟩; rw [HU0.out] at he; simp only [Bool.and_true, Bool.true_and, Bool.and_false, Bool.false_and, Bool.and_self, mustE] at he; subst he))
     go_end0
     exact ⟨by rw [HR.out, HU0.out]; rfl, (HE5.out.trans hE6).trans (((Ext.refl _).alloc _).trans hx7)⟩
    ·have HU0 : Hid (decide (0 ≤ u) = false) := decide_eq_false h0
     clear h0
     go_wp2_with (first
      | (go_at_call 67; refine (must1 _ _ _ _ ).mono ?_; rintro e w7 ⟨he, hx7⟩; rw [HU0.out] at he; simp only [Bool.and_true, Bool.true_and, Bool.and_false, Bool.false_and, Bool.and_self, mustE] at he; subst he))
     exact ⟨rfl, by rw [HR.out, HU0.out]; rfl, (HE5.out.trans hE6).trans (((Ext.refl _).alloc _).trans hx7)⟩
   ·have HR : Hid (frameB p ⟨n, at_, ls, st⟩ = false) := by
     unfold Hid frameB
     simp only [hF]
     rw [decide_eq_false h3]
     simp
    by_cases h4 : at_ < 0
    ·have T4 : decide (0 ≤ at_) = false := decide_eq_false (by omega)
     clear h1 h2 h3 h4
     go_still_tail 29, (by kernel_rfl)
     change wpList _ _ _ _ _ w3.drew
     have hE4 : Ext w3 w3.drew := (Ext.refl _).drew
     generalize w3.drew = w4 at *
     go_wp2_with (first
      | (go_at_call 67; refine (must3 _ _ _ _ _ _ ).mono ?_; rintro e w5 ⟨he, hx5⟩; (try rw [T4] at he); simp only [Bool.and_true, Bool.true_and, Bool.and_false, Bool.false_and, Bool.and_self, mustE] at he; subst he))
     exact ⟨rfl, by rw [HR.out]; rfl, (HE3.out.trans hE4).trans (((Ext.refl _).alloc _).trans hx5)⟩
    ·have T4 : decide (0 ≤ at_) = true := decide_eq_true (by omega)
     have T5 : decide (at_ < (p[n].code.length : Int)) = false := decide_eq_false (by omega)
     clear h1 h2 h3 h4
     go_still_tail 29, (by kernel_rfl)
     change wpList _ _ _ _ _ w3.drew
     have hE4 : Ext w3 w3.drew := (Ext.refl _).drew
     generalize w3.drew = w4 at *
     go_wp2_with (first
      | (go_at_call 67; refine (must3 _ _ _ _ _ _ ).mono ?_; rintro e w5 ⟨he, hx5⟩; (try rw [T5] at he); simp only [Bool.and_true, Bool.true_and, Bool.and_false, Bool.false_and, Bool.and_self, mustE] at he; subst he))
     exact ⟨rfl, by rw [HR.out]; rfl, (HE3.out.trans hE4).trans (((Ext.refl _).alloc _).trans hx5)⟩
  ·have HLs : Hid (((ls.length : Int) == p[n].locals) = false) := by unfold Hid; simp [h2]
   have HR : Hid (frameB p ⟨n, at_, ls, st⟩ = false) := by
    unfold Hid frameB
    simp only [hF]
    rw [decide_eq_false h2]
    simp
   clear h1 h2
   go_still_tail 29, (by kernel_rfl)
   change wpList _ _ _ _ _ w3.drew
   have hE4 : Ext w3 w3.drew := (Ext.refl _).drew
   generalize w3.drew = w4 at *
   go_wp2_with (first
    | (go_at_call 67; refine (must3 _ _ _ _ _ _ ).mono ?_; rintro e w5 ⟨he, hx5⟩; rw [HLs.out] at he; simp only [Bool.and_true, Bool.true_and, Bool.and_false, Bool.false_and, Bool.and_self, mustE] at he; subst he))
   exact ⟨rfl, by rw [HR.out]; rfl, (HE3.out.trans hE4).trans (((Ext.refl _).alloc _).trans hx5)⟩
 ·have HR : Hid (frameB p ⟨fn, at_, ls, st⟩ = false) := by
   unfold Hid frameB
   simp only
   rw [decide_eq_false h1]
   simp
  by_cases h2 : fn < 0
  ·have T1 : decide (0 ≤ fn) = false := decide_eq_false (by omega)
   clear h1 h2 hz
   go_enter Tryz.func102, Tryz.ntmps102
   go_upto_region 1 with fail
   obtain ⟨⟨b0, -⟩, ⟨b1, -⟩, ⟨b2, -⟩⟩ := bx.out
   generalize w.alloc (.cells #[.int .i64 fn, .int .i64 at_, .slice a1 ls.length c1, .slice a2 st.length c2] 43) = w1 at *
   go_still_tail 11, (by kernel_rfl)
   change wpList _ _ _ _ _ w1.drew
   have hE2 : Ext w1 w1.drew := (Ext.refl _).drew
   generalize w1.drew = w2 at *
   go_wp2_with (first
    | (go_at_call 67; refine (must2 _ _ _ _ _ ).mono ?_; rintro e w3 ⟨rfl, hx3⟩; rw [Bool.false_and, show mustE false 1 = .panicked (refusal 1) from rfl]))
   exact ⟨rfl, by rw [HR.out]; rfl, (HE1.out.trans hE2).trans (((Ext.refl _).alloc _).trans hx3)⟩
  ·have T1 : decide (0 ≤ fn) = true := decide_eq_true (by omega)
   have T2 : decide (fn < (p.length : Int)) = false := decide_eq_false (by omega)
   clear h1 h2 hz
   go_enter Tryz.func102, Tryz.ntmps102
   go_upto_region 1 with fail
   obtain ⟨⟨b0, -⟩, ⟨b1, -⟩, ⟨b2, -⟩⟩ := bx.out
   generalize w.alloc (.cells #[.int .i64 fn, .int .i64 at_, .slice a1 ls.length c1, .slice a2 st.length c2] 43) = w1 at *
   go_still_tail 11, (by kernel_rfl)
   change wpList _ _ _ _ _ w1.drew
   have hE2 : Ext w1 w1.drew := (Ext.refl _).drew
   generalize w1.drew = w2 at *
   go_wp2_with (first
    | (go_at_call 67; refine (must2 _ _ _ _ _ ).mono ?_; rintro e w3 ⟨rfl, hx3⟩; rw [Bool.and_false, show mustE false 1 = .panicked (refusal 1) from rfl]))
   exact ⟨rfl, by rw [HR.out]; rfl, (HE1.out.trans hE2).trans (((Ext.refl _).alloc _).trans hx3)⟩
end Go.Proofs.YtgahbngbpfilgaaGreat
end
