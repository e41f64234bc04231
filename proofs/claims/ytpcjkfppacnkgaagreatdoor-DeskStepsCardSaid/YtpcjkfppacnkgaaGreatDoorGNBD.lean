/- Merged texts: contracts and plain facts, one part behind another; each part begins with what it says. -/
import Derived.Test.YtpcjkfppacnkgaaGreatDoorGNAQ
import Derived.Test.YtpcjkfppacnkgaaGreatDoorGNAR
import Derived.Test.YtpcjkfppacnkgaaGreatDoorGNAW
import Derived.Test.YtpcjkfppacnkgaaGreatDoorGNAX
import Derived.Test.YtpcjkfppacnkgaaGreatDoorGNAZ
import Derived.Test.YtpcjkfppacnkgaaGreatDoorGNBC
section
/- Plain data: what a step of the engine asks for holds of right states. No program in sight; no condition. -/
set_option maxHeartbeats 1000000
namespace Go.Proofs.YtpcjkfppacnkgaaGreatDoor
open Go Go.RowKit

theorem top_end {f : GFiber} {gs : List GFrame} {y : GFrame} (ef : f.frames = gs ++ [y]) : topOf f = y := by
  unfold topOf
  rw [ef, List.length_append, List.length_singleton, Nat.add_sub_cancel]
  exact getD_end
theorem ok_fresh {p : List GFunc} {s : GState} {l : List Int} (h : Ok p s l) (h0 : 0 ≤ s.now) : FreshFit p (advG s) := by
  obtain ⟨k, fs, x, r, hR⟩ := h.runs h0
  obtain ⟨hA, hN, _⟩ := hR.adv
  have hlt := hR.at_.lt
  generalize advG s = t at *
  have hN1 : Near s (popG t) k := hN.top hlt _ hA.now
  have hA1 : At (popG t) k fs _ := hA.top _ hA.now
  have hN2 : Near s (popG (popG t)) k := hN1.top hlt _ hA1.now
  have hcu : ∀ j, j < s.fibers.length → ((popG (popG t)).fibers.getD j default).caller = (s.fibers.getD j default).caller := fun j hj => by
    by_cases ej : j = k
    · rw [ej]; exact hN2.caller
    · rw [hN2.other j hj ej]
  have hrg := lk_range (fun k hk => (h.callers k hk).2) h.lk h.now.2
  have hll : lineLL (popG (popG t)) = l := by
    have hlk : Lk (popG (popG t)).fibers s.now l := lk_congr (fun z hz => by
      have := hrg z hz
      unfold callerOf
      rw [hcu _ (by omega)]) h.lk
    have hl : l.length ≤ (popG (popG t)).fibers.length := by rw [hN2.len]; exact nodup_len _ _ (lk_nodup h.lk) hrg
    unfold lineLL
    rw [lineS_of (by rw [hN2.now]; exact hlk) hl]
    rfl
  intro f hf hn0 hn1 hnl hpos
  rw [hll] at hnl
  rw [hN2.len] at hn1
  obtain ⟨m, hm⟩ := Int.eq_ofNat_of_zero_le hn0
  have hm : lastV (popG t) = (m : Nat) := hm
  rw [hm] at hf hn1 hnl
  rw [Int.toNat_natCast] at hf
  have hml : m < s.fibers.length := by omega
  have hkl : (k : Int) ∈ l := by rw [hR.line, hR.at_.now]; simp
  have hmk : m ≠ k := fun em => hnl (by rw [em]; exact hkl)
  rw [hN2.other m hml hmk] at hf
  subst hf
  have hb := h.fib m hml
  rw [decide_eq_false hnl, decide_eq_false (show ¬ (m : Int) = s.now by rw [hR.at_.now]; omega)] at hb
  obtain ⟨gs, y, ey, y1, y2, y3⟩ := fiber_split hb (fun e0 => by rw [e0] at hpos; exact absurd hpos (by simp))
  unfold topB at y3
  rw [if_neg (by decide), if_neg (by decide), Bool.and_eq_true, Bool.or_eq_true] at y3
  refine ⟨?_, fun h9 => fibK_frames (h.right.fib m hml) h9⟩
  rw [top_end ey]
  rcases y3.2 with y4 | y4
  · rw [y4, decide_eq_true (freshB_facts y4 ey).1]
  · have hne := waitB_at y4
    rw [decide_eq_false hne]
    cases hfb : freshB p (s.fibers.getD m default) with
    | false => rfl
    | true => exact absurd (freshB_facts hfb ey).1 hne
theorem ok_imp {p : List GFunc} {s : GState} {l : List Int} (h : Ok p s l) (h0 : 0 ≤ s.now) : ImpFit p s := by
  obtain ⟨hop, _⟩ := step_right h h0
  obtain ⟨k, fs, x, r, hR⟩ := h.runs h0
  have hF := opF_of (progErr_zero h.prog) hR.frame hR.full
  obtain ⟨hA, hN, _⟩ := hR.adv
  have hx : curX s = x := hR.at_.curX
  unfold ImpFit
  rw [hx]
  refine ⟨hop, ⟨h.out, by rw [hN.len]; exact h.few, ?_, fun _ => ok_fresh h h0⟩, hF.kind⟩
  rw [hA.curF, List.length_append, List.length_singleton]
  have := h.few5 hR
  omega
theorem ok_step {p : List GFunc} {s : GState} {l : List Int} (h : Ok p s l) : s.now < 0 ∨ ImpFit p s := by
  by_cases h0 : s.now < 0
  · exact .inl h0
  · exact .inr (ok_imp h (by omega))
end Go.Proofs.YtpcjkfppacnkgaaGreatDoor
end
section
/- The document's run and RunOf, of states that fit. -/
set_option maxHeartbeats 4000000
set_option maxRecDepth 100000
namespace Go.Proofs.YtpcjkfppacnkgaaGreatDoor
open Go Go.RowKit

theorem results_cell3 {P : Program} {fn : Func} {p u u' : Tmp} {ty : TypeId} (h : fn.results = #[.cell p ty, .tmp u, .tmp u']) (tmps : Array Value) (w : World) (b o : Nat) (cs : List Value) (d : TypeDesc)
    (hp : tmps.getD p undef = .pointer (some ⟨b, o, none⟩)) (hc : w.rangeAt b o cs) (hu : P.underlying ty = some d) (hd : d.isRow = true) (hi : (P.info? ty).map (·.size) = some cs.length) :
    (results fn tmps).run P w = .ok (.tuple #[.agg cs.toArray, tmps.getD u undef, tmps.getD u' undef]) w := by
  have h1 : (results fn tmps).run P w = ((asAddr (tmps.getD p undef)).run P w).andThen fun a w₁ => ((loadVar ty a).run P w₁).andThen fun v w₂ => .ok (.tuple #[v, tmps.getD u undef, tmps.getD u' undef]) w₂ := by
    simp only [results, h]
    simp [Sem.run_bind, Result.andThen]
  rw [h1]
  have hp' : tmps[p]?.getD undef = .pointer (some ⟨b, o, none⟩) := by simpa using hp
  simp [hp', asAddr, run_loadVar_mid w b o ty cs d hc hu hd hi, Result.andThen]

theorem runG_zero (p : List GFunc) (s : GState) : runG p 0 s = (s, 0, 0) := rfl
theorem runG_done (p : List GFunc) (s : GState) (k : Nat) (h : s.now < 0) : runG p k s = (s, 0, 0) := by
  cases k with
  | zero => rfl
  | succ k => rw [runG, if_pos h]
theorem runG_err (p : List GFunc) (s : GState) (k : Nat) (h : ¬ s.now < 0) (he : (doneG p s).1 ≠ 0) : runG p (k + 1) s = (s, 0, (doneG p s).1) := by rw [runG, if_neg h, if_pos he]
theorem runG_step (p : List GFunc) (s : GState) (k : Nat) (h : ¬ s.now < 0) (he : (doneG p s).1 = 0) : runG p (k + 1) s = ((runG p k (doneG p s).2).1, (runG p k (doneG p s).2).2.1 + 1, (runG p k (doneG p s).2).2.2) := by rw [runG, if_neg h, if_neg (by simpa using he)]

theorem StateO.few0 {w : World} {B : Nat} {v : Value} (h : StateO w B v ⟨[], 0, []⟩) : ∃ a c b d, v = .agg #[.slice a 0 c, .int .i64 0, .slice b 0 d] := h.few

/-- A state's reading in its own box. -/
structure Boxed (w : World) (B b : Nat) (s : GState) : Prop where
  ex : ∃ a c d e, Cx w b 0 (.slice a s.fibers.length c) ∧ Cx w b 1 (.int .i64 s.now) ∧ Cx w b 2 (.slice d s.out.length e) ∧ StateO w B (.agg #[.slice a s.fibers.length c, .int .i64 s.now, .slice d s.out.length e]) s
theorem Boxed.ext {w w' : World} {B b : Nat} {s : GState} (h : Boxed w B b s) (he : Ext w w') : Boxed w' B b s := by
  obtain ⟨a, c, d, e, h1, h2, h3, h4⟩ := h.ex
  exact ⟨a, c, d, e, h1.ext he, h2.ext he, h3.ext he, h4.ext he⟩
/-- What the box holds is stored anew. -/
theorem Boxed.store {w : World} {B b : Nat} {u0 u1 u2 x0 x1 x2 : Value} {s : GState} (h0 : Cx w b 0 u0) (h1 : Cx w b 1 u1) (h2 : Cx w b 2 u2) (h : StateO w B (.agg #[x0, x1, x2]) s) (hb : b < B) : Boxed (((w.setCell ⟨b, 0, none⟩ x0).setCell ⟨b, 1, none⟩ x1).setCell ⟨b, 2, none⟩ x2) B b s := by
  obtain ⟨a, c, d, e, he⟩ := h.few
  simp only [Value.agg.injEq, Array.mk.injEq, List.cons.injEq, and_true] at he
  obtain ⟨rfl, rfl, rfl⟩ := he
  refine ⟨a, c, d, e, ((h0.set _).other (.inr (by decide)) _).other (.inr (by decide)) _, ((h1.other (.inr (by decide)) _).set _).other (.inr (by decide)) _, ((h2.other (.inr (by decide)) _).other (.inr (by decide)) _).set _, h.chg (chg3 w b _ _ _) (fun k hk e => by have : k = b := e; omega)⟩

theorem ret_state {w wr : World} {x : Value} {s : GState} (h : StateO wr (w.heap.size + 2) x s) (a b c : Value) : StateO (((wr.setCell ⟨w.heap.size + 1, 0, none⟩ a).setCell ⟨w.heap.size + 1, 1, none⟩ b).setCell ⟨w.heap.size + 1, 2, none⟩ c) w.heap.size x s :=
  (h.chg (chg3 wr (w.heap.size + 1) a b c) (fun g hg e => by have : g = w.heap.size + 1 := e; omega)).mono (by omega)
theorem ret_ext {w wr : World} (h : Ext w wr) (a b c : Value) : Ext w (((wr.setCell ⟨w.heap.size + 1, 0, none⟩ a).setCell ⟨w.heap.size + 1, 1, none⟩ b).setCell ⟨w.heap.size + 1, 2, none⟩ c) :=
  ((h.setCell (p := ⟨w.heap.size + 1, 0, none⟩) (Nat.le_succ _) _).setCell (p := ⟨w.heap.size + 1, 1, none⟩) (Nat.le_succ _) _).setCell (p := ⟨w.heap.size + 1, 2, none⟩) (Nat.le_succ _) _

end Go.Proofs.YtpcjkfppacnkgaaGreatDoor
end
section
/- Contracts of step.Do and run.On, Run, All. -/
set_option maxHeartbeats 4000000
set_option maxRecDepth 100000
namespace Go.Proofs.YtpcjkfppacnkgaaGreatDoor
open Go Go.RowKit

theorem on_any (p : List GFunc) (v : Value) (S T : Nat → Prop) (s : GState) (l : List Int) (vs : Value) (fuel : Nat) (w : World) (hp : Funcs w S v p) (hs : StateV w T vs s) (hok : Ok p s l) (hfu : fuel ≤ 1000000) :
    Calls Tryz.prog 41 #[v, vs, .int .i64 fuel] w fun e w' => (∃ x, e = .returned (.tuple #[x, .int .i64 (runG p fuel s).2.1, .int .i64 (runG p fuel s).2.2]) ∧ StateO w' w.heap.size x (runG p fuel s).1) ∧ Ext w w' := by
  have HP := Lib.hid hp
  have HS := Lib.hid hs
  have HFEW := Lib.hid hok.fewS
  have HOK := Lib.hid hok
  obtain ⟨a, c, b, d, rfl⟩ := hs.few
  obtain ⟨ap, cp, rfl, _, _, _⟩ := hp
  have RA := alloc_keep
  have hs0 : (w.alloc (.cells #[.slice a s.fibers.length c, .int .i64 s.now, .slice b s.out.length d] 58)).heap.size = w.heap.size + 1 := Array.size_push _
  have r0 := Cx.new (w.alloc (.cells #[.slice a s.fibers.length c, .int .i64 s.now, .slice b s.out.length d] 58)) [.slice none 0 0, .int .i64 0, .slice none 0 0] 58 (j := 0) rfl
  have r1 := Cx.new (w.alloc (.cells #[.slice a s.fibers.length c, .int .i64 s.now, .slice b s.out.length d] 58)) [.slice none 0 0, .int .i64 0, .slice none 0 0] 58 (j := 1) rfl
  have r2 := Cx.new (w.alloc (.cells #[.slice a s.fibers.length c, .int .i64 s.now, .slice b s.out.length d] 58)) [.slice none 0 0, .int .i64 0, .slice none 0 0] 58 (j := 2) rfl
  rw [hs0] at r0 r1 r2
  have HR := Lib.hid (⟨r0, r1, r2⟩ : _ ∧ _ ∧ _)
  have HQ := Lib.hid (⟨(Cx.new w [.slice a s.fibers.length c, .int .i64 s.now, .slice b s.out.length d] 58 (j := 0) rfl).ext ((Ext.refl _).alloc (.cells #[.slice none 0 0, .int .i64 0, .slice none 0 0] 58)), (Cx.new w [.slice a s.fibers.length c, .int .i64 s.now, .slice b s.out.length d] 58 (j := 1) rfl).ext ((Ext.refl _).alloc (.cells #[.slice none 0 0, .int .i64 0, .slice none 0 0] 58)), (Cx.new w [.slice a s.fibers.length c, .int .i64 s.now, .slice b s.out.length d] 58 (j := 2) rfl).ext ((Ext.refl _).alloc (.cells #[.slice none 0 0, .int .i64 0, .slice none 0 0] 58))⟩ : _ ∧ _ ∧ _)
  have HE1 : Hid (Ext w ((w.alloc (.cells #[.slice a s.fibers.length c, .int .i64 s.now, .slice b s.out.length d] 58)).alloc (.cells #[.slice none 0 0, .int .i64 0, .slice none 0 0] 58))) := ((Ext.refl w).alloc _).alloc _
  have HS1 : Hid (((w.alloc (.cells #[.slice a s.fibers.length c, .int .i64 s.now, .slice b s.out.length d] 58)).alloc (.cells #[.slice none 0 0, .int .i64 0, .slice none 0 0] 58)).heap.size = w.heap.size + 2) := by unfold Hid; simp
  clear hs0 r0 r1 r2 hok
  go_enter Tryz.func41, Tryz.ntmps41
  go_upto_region 1 with fail
  go_cut [12] (fun _ wr => Boxed wr (w.heap.size + 2) w.heap.size s ∧ Ext w wr ∧ Cx wr (w.heap.size + 1) 0 (.slice none 0 0) ∧ Cx wr (w.heap.size + 1) 1 (.int .i64 0) ∧ Cx wr (w.heap.size + 1) 2 (.slice none 0 0))
  case first =>
    go_wp2_with (first
      | (go_at_call 91; (with_reducible refine (own_any s _ T _ (StateV.stays (Ext.stays (by ((repeat (first | assumption | exact Ext.refl _ | (exact And.left (by assumption)) | refine Ext.alloc ?_ _ | refine Ext.drew ?_ | refine Ext.drewN ?_ _ | refine Ext.setCell ?_ (by simp) _ | refine Ext.setCell ?_ (by simp; omega) _ | refine Ext.trans ?_ (by assumption))); done))) HS.out) HFEW.out).mono ?_); rintro e w2 ⟨⟨P, rfl, hO, hg⟩, hx2⟩; rw [HS1.out] at hO; obtain ⟨q0, q0'⟩ := (HQ.out).1.ext hx2; obtain ⟨q1, q1'⟩ := (HQ.out).2.1.ext hx2; obtain ⟨q2, q2'⟩ := (HQ.out).2.2.ext hx2; obtain ⟨av, cv, ev, _, _⟩ := hO.row.shape; obtain ⟨ao, co, eo, _, _⟩ := hO.out.shape; have hst : StateO w2 (w.heap.size + 2) _ _ := ⟨P, rfl, hO, hg⟩; rw [ev, eo] at hst ⊢; have HST := Lib.hid hst; have HX2 := Lib.hid hx2; clear hO hg hx2 ev eo hst))
    go_meet
    have hr := HR.out
    refine ⟨Boxed.store ⟨q0, q0'⟩ ⟨q1, q1'⟩ ⟨q2, q2'⟩ HST.out (by omega), (((HE1.out.trans HX2.out).setCell (p := ⟨w.heap.size, 0, none⟩) (Nat.le_refl _) _).setCell (p := ⟨w.heap.size, 1, none⟩) (Nat.le_refl _) _).setCell (p := ⟨w.heap.size, 2, none⟩) (Nat.le_refl _) _, ?_, ?_, ?_⟩
    · exact (hr.1.ext HX2.out).chg (chg3 w2 w.heap.size _ _ _) (by omega)
    · exact (hr.2.1.ext HX2.out).chg (chg3 w2 w.heap.size _ _ _) (by omega)
    · exact (hr.2.2.ext HX2.out).chg (chg3 w2 w.heap.size _ _ _) (by omega)
  case rest =>
    rename World => w2
    obtain ⟨hB2, hE2, hR2⟩ := hcut
    have HB2 := Lib.hid hB2
    have HE2 := Lib.hid hE2
    have HR2 := Lib.hid hR2
    clear hB2 hE2 hR2 HR HQ HE1 HS1 HS HFEW
    go_wp2_with fail
    go_loopw [9] (fun q9 wr => ∃ (n k : Nat) (s' : GState) (l' : List Int), n + k = fuel ∧ q9 = .int .i64 n ∧ Ok p s' l' ∧ runG p fuel s = ((runG p k s').1, (runG p k s').2.1 + n, (runG p k s').2.2) ∧
        Boxed wr (w.heap.size + 2) w.heap.size s' ∧ Ext w wr ∧ Cx wr (w.heap.size + 1) 0 (.slice none 0 0) ∧ Cx wr (w.heap.size + 1) 1 (.int .i64 0) ∧ Cx wr (w.heap.size + 1) 2 (.slice none 0 0)) (fun q _ => fuel - (intOf q).toNat)
    case atStart => exact ⟨0, fuel, s, l, Nat.zero_add _, rfl, HOK.out, by simp, HB2.out, HE2.out, HR2.out⟩
    case round =>
      obtain ⟨n, k, s', l', hnk, rfl, hok, hrun, hbx, hE, hR⟩ := hrel
      have HOKK := Lib.hid hok
      have HRUN := Lib.hid hrun
      have HEK := Lib.hid hE
      have HRK := Lib.hid hR
      have HBXK := Lib.hid hbx
      obtain ⟨ax, cx, dx, ex, ⟨b0, b0'⟩, ⟨b1, b1'⟩, ⟨b2, b2'⟩, hst⟩ := hbx.ex
      have HST := Lib.hid hst
      obtain ⟨⟨r0, r0'⟩, ⟨r1, r1'⟩, ⟨r2, r2'⟩⟩ := hR
      clear hok hrun hbx hE hst
      rename World => wr
      by_cases hk : k = 0
      · subst hk
        have TF : decide ((n : Int) < (fuel : Int)) = false := decide_eq_false (by omega)
        have HRES : Hid (runG p fuel s = (s', (n : Int), 0)) := by unfold Hid; rw [HRUN.out, runG_zero]; simp
        go_wp2_with fail
        refine bodyPost_ret (results_cell3 rfl _ _ (w.heap.size + 1) 0 _ _ rfl (box3 ⟨r0, r0'⟩ ⟨r1, r1'⟩ ⟨r2, r2'⟩ _ _ _) rfl rfl (by kernel_rfl)) rfl ?_
        rw [HRES.out]
        exact ⟨⟨_, by rfl, ret_state HST.out _ _ _⟩, ret_ext HEK.out _ _ _⟩
      · obtain ⟨k, rfl⟩ : ∃ j, k = j + 1 := ⟨k - 1, by omega⟩
        have TF : decide ((n : Int) < (fuel : Int)) = true := decide_eq_true (by omega)
        by_cases hneg : s'.now < 0
        · have TN : decide ((0 : Int) ≤ s'.now) = false := decide_eq_false (by omega)
          have HRES : Hid (runG p fuel s = (s', (n : Int), 0)) := by unfold Hid; rw [HRUN.out, runG_done p s' _ hneg]; simp
          go_wp2_with fail
          refine bodyPost_ret (results_cell3 rfl _ _ (w.heap.size + 1) 0 _ _ rfl (box3 ⟨r0, r0'⟩ ⟨r1, r1'⟩ ⟨r2, r2'⟩ _ _ _) rfl rfl (by kernel_rfl)) rfl ?_
          rw [HRES.out]
          exact ⟨⟨_, by rfl, ret_state HST.out _ _ _⟩, ret_ext HEK.out _ _ _⟩
        · have TN : decide ((0 : Int) ≤ s'.now) = true := decide_eq_true (by omega)
          have HFEWK := Lib.hid HOKK.out.fewS
          have HIMP := Lib.hid (ok_step HOKK.out)
          have HNEG := Lib.hid hneg
          clear hk
          by_cases he : (doneG p s').1 = 0
          · have hsg : stepG p s' = (0, (doneG p s').2) := by unfold stepG; rw [if_neg hneg, if_pos he]
            have hnx : ∃ l9, Ok p (doneG p s').2 l9 := by
              rcases (step_right HOKK.out (by omega)).2 with ⟨_, h⟩ | h
              · exact h
              · omega
            have hrn := HRUN.out
            rw [runG_step p s' k hneg he] at hrn
            obtain ⟨t, ht⟩ : ∃ t, (doneG p s').2 = t := ⟨_, rfl⟩
            rw [ht] at hsg hnx hrn
            obtain ⟨l9, hnx⟩ := hnx
            have HSG := Lib.hid hsg
            have HNX := Lib.hid hnx
            have HRN := Lib.hid hrn
            clear hsg hnx hrn ht he hneg
            have KN : IntKind.i64.wrap ((n : Int) + 1) = (n : Int) + 1 := IntWalk.i64_in _ (by omega)
            go_wp2_with (first
              | (go_at_call 92; (with_reducible refine (stepTurn_any p _ S _ s' _ _ (Funcs.stays (Ext.stays HEK.out) HP.out) HST.out.state HFEWK.out HIMP.out).mono ?_); rintro e w3 ⟨⟨x, rfl, hx⟩, hx3⟩; rw [HSG.out] at hx ⊢; obtain ⟨ax3, cx3, dx3, ex3, rfl⟩ := hx.few; obtain ⟨hq0, hq0'⟩ := (Cx.ext (W := wr) ⟨b0, b0'⟩ hx3).ext ((Ext.refl w3).alloc (.cells #[.slice ax3 t.fibers.length cx3, .int .i64 t.now, .slice dx3 t.out.length ex3] 58)); obtain ⟨hq1, hq1'⟩ := (Cx.ext (W := wr) ⟨b1, b1'⟩ hx3).ext ((Ext.refl w3).alloc (.cells #[.slice ax3 t.fibers.length cx3, .int .i64 t.now, .slice dx3 t.out.length ex3] 58)); obtain ⟨hq2, hq2'⟩ := (Cx.ext (W := wr) ⟨b2, b2'⟩ hx3).ext ((Ext.refl w3).alloc (.cells #[.slice ax3 t.fibers.length cx3, .int .i64 t.now, .slice dx3 t.out.length ex3] 58)); have hr0 := (Cx.ext (W := wr) ⟨r0, r0'⟩ hx3).ext ((Ext.refl w3).alloc (.cells #[.slice ax3 t.fibers.length cx3, .int .i64 t.now, .slice dx3 t.out.length ex3] 58)); have hr1 := (Cx.ext (W := wr) ⟨r1, r1'⟩ hx3).ext ((Ext.refl w3).alloc (.cells #[.slice ax3 t.fibers.length cx3, .int .i64 t.now, .slice dx3 t.out.length ex3] 58)); have hr2 := (Cx.ext (W := wr) ⟨r2, r2'⟩ hx3).ext ((Ext.refl w3).alloc (.cells #[.slice ax3 t.fibers.length cx3, .int .i64 t.now, .slice dx3 t.out.length ex3] 58)); have HX3 := Lib.hid hx3; have HXS := Lib.hid hx; have HR3 := Lib.hid (⟨hr0, hr1, hr2⟩ : _ ∧ _ ∧ _); clear hx hx3 hr0 hr1 hr2))
            have hrs : w.heap.size + 2 ≤ wr.heap.size := by have := Cx.lt (W := wr) ⟨r0, r0'⟩; omega
            go_roundw
            case rel =>
              refine ⟨n + 1, k, t, l9, by omega, by go_num, HNX.out, by rw [HRN.out]; simp; omega, Boxed.store (w := w3.alloc (.cells #[.slice ax3 t.fibers.length cx3, .int .i64 t.now, .slice dx3 t.out.length ex3] 58)) (B := w.heap.size + 2) ⟨hq0, hq0'⟩ ⟨hq1, hq1'⟩ ⟨hq2, hq2'⟩ ((HXS.out.ext ((Ext.refl _).alloc _)).mono hrs) (by omega), ?_, ?_, ?_, ?_⟩
              · exact ((((HEK.out.trans HX3.out).alloc _).setCell (p := ⟨w.heap.size, 0, none⟩) (Nat.le_refl _) _).setCell (p := ⟨w.heap.size, 1, none⟩) (Nat.le_refl _) _).setCell (p := ⟨w.heap.size, 2, none⟩) (Nat.le_refl _) _
              · exact (HR3.out).1.chg (chg3 _ w.heap.size _ _ _) (by omega)
              · exact (HR3.out).2.1.chg (chg3 _ w.heap.size _ _ _) (by omega)
              · exact (HR3.out).2.2.chg (chg3 _ w.heap.size _ _ _) (by omega)
            case measure => simp [intOf]; omega
          · have hsg : stepG p s' = ((doneG p s').1, ⟨[], 0, []⟩) := by unfold stepG; rw [if_neg hneg, if_neg he]
            have TE : ((doneG p s').1 != 0) = true := bne_iff_ne.2 he
            have hrn := HRUN.out
            rw [runG_err p s' k hneg he] at hrn
            obtain ⟨re, hre⟩ : ∃ re, (doneG p s').1 = re := ⟨_, rfl⟩
            rw [hre] at TE hsg hrn
            have HSG := Lib.hid hsg
            have HRN := Lib.hid hrn
            clear hsg hrn hre he hneg
            go_wp2_with (first
              | (go_at_call 92; (with_reducible refine (stepTurn_any p _ S _ s' _ _ (Funcs.stays (Ext.stays HEK.out) HP.out) HST.out.state HFEWK.out HIMP.out).mono ?_); rintro e w3 ⟨⟨x, rfl, hx⟩, hx3⟩; rw [HSG.out] at hx ⊢; obtain ⟨ax3, cx3, dx3, ex3, rfl⟩ := hx.few0; obtain ⟨hq0, hq0'⟩ := (Cx.ext (W := wr) ⟨b0, b0'⟩ hx3).ext ((Ext.refl w3).alloc (.cells #[.slice ax3 0 cx3, .int .i64 0, .slice dx3 0 ex3] 58)); obtain ⟨hq1, hq1'⟩ := (Cx.ext (W := wr) ⟨b1, b1'⟩ hx3).ext ((Ext.refl w3).alloc (.cells #[.slice ax3 0 cx3, .int .i64 0, .slice dx3 0 ex3] 58)); obtain ⟨hq2, hq2'⟩ := (Cx.ext (W := wr) ⟨b2, b2'⟩ hx3).ext ((Ext.refl w3).alloc (.cells #[.slice ax3 0 cx3, .int .i64 0, .slice dx3 0 ex3] 58)); have hr0 := (Cx.ext (W := wr) ⟨r0, r0'⟩ hx3).ext ((Ext.refl w3).alloc (.cells #[.slice ax3 0 cx3, .int .i64 0, .slice dx3 0 ex3] 58)); have hr1 := (Cx.ext (W := wr) ⟨r1, r1'⟩ hx3).ext ((Ext.refl w3).alloc (.cells #[.slice ax3 0 cx3, .int .i64 0, .slice dx3 0 ex3] 58)); have hr2 := (Cx.ext (W := wr) ⟨r2, r2'⟩ hx3).ext ((Ext.refl w3).alloc (.cells #[.slice ax3 0 cx3, .int .i64 0, .slice dx3 0 ex3] 58)); obtain ⟨p0, p0'⟩ := hr0; obtain ⟨p1, p1'⟩ := hr1; obtain ⟨p2, p2'⟩ := hr2; have HX3 := Lib.hid hx3; clear hx hx3))
            have HRES : Hid (runG p fuel s = (s', (n : Int), re)) := by
              have h := HRN.out
              unfold Hid
              rw [h]
              simp
            refine bodyPost_ret (results_cell3 rfl _ _ (w.heap.size + 1) 0 _ _ rfl (box3 ⟨p0, p0'⟩ ⟨p1, p1'⟩ ⟨p2, p2'⟩ _ _ _) rfl rfl (by kernel_rfl)) rfl ?_
            rw [HRES.out]
            exact ⟨⟨_, rfl, ret_state (HST.out.ext (HX3.out.alloc _)) _ _ _⟩, ret_ext ((HEK.out.trans HX3.out).alloc _) _ _ _⟩
end Go.Proofs.YtpcjkfppacnkgaaGreatDoor
end
section
/- Contracts of the desk's heights and step. No condition. -/
set_option maxHeartbeats 4000000
set_option maxRecDepth 100000
namespace Go.Proofs.YtpcjkfppacnkgaaGreatDoor
open Go Go.RowKit

theorem opErr_bd (p : List GFunc) (f : GFunc) (x : GOp) : 0 ≤ opErr p f x ∧ opErr p f x ≤ 5 := by unfold opErr; repeat' split
                                                                                                  all_goals omega
theorem opsErr_bd (p : List GFunc) (f : GFunc) : ∀ l, 0 ≤ opsErr p f l ∧ opsErr p f l ≤ 5
  | [] => by unfold opsErr; omega
  | x :: l => by
    unfold opsErr
    split
    · exact opErr_bd p f x
    · exact opsErr_bd p f l
theorem funcErr_bd (p : List GFunc) (f : Int) : 0 ≤ funcErr p f ∧ funcErr p f ≤ 5 := by
  unfold funcErr
  split
  · omega
  · split
    · omega
    · split
      · omega
      · exact opsErr_bd _ _ _
theorem hErr_bd (p : List GFunc) (f : Int) : 0 ≤ hErr p f ∧ hErr p f ≤ 5 := by
  unfold hErr
  split
  · exact funcErr_bd p f
  · split <;> omega
theorem ran_bd {p : List GFunc} {s : GState} {l : List Int} (h : Ok p s l) (n : Nat) : (0 ≤ (runG p n s).2.1 ∧ (runG p n s).2.1 ≤ n) ∧ 0 ≤ (runG p n s).2.2 ∧ (runG p n s).2.2 ≤ 7 := by
  refine ⟨run_count p n s, ?_⟩
  obtain ⟨⟨l', h'⟩, _, h3⟩ := run_ran n h
  by_cases e : (runG p n s).2.2 = 0
  · omega
  · obtain ⟨_, h0, he⟩ := h3 e
    have hr := (step_right h' h0).2
    unfold Res at hr
    rw [he] at hr
    omega
theorem hList_le {p : List GFunc} (hz : progErr p = 0) (f : Int) : (hList p f).length ≤ 1000 := by
  by_cases h0 : hErr p f = 0
  · obtain ⟨k, hk, rfl, hR, hF⟩ := hErr_inv h0
    have h1 := hF.len
    have h2 := (right_ops hz _ (List.getElem_mem hk)).2.1
    omega
  · by_cases h1 : funcErr p f = 0
    · by_cases h2 : hts p (p.getD f.toNat default).code = none
      · rw [(hErr_none h1 h2).2]; simp
      · exact absurd (by unfold hErr; rw [if_neg (fun h => h h1), if_neg h2]) h0
    · rw [(hErr_bad h1).2]; simp
/-- A box of a state, its rows none below B. -/
structure BoxG (W : World) (i B N M : Nat) (K : Int) (a : Option Addr) (c : Nat) (d : Option Addr) (e : Nat) (R : GState) : Prop where
  c0 : Cx W i 0 (.slice a N c)
  c1 : Cx W i 1 (.int .i64 K)
  c2 : Cx W i 2 (.slice d M e)
  st : StateV W (B ≤ ·) (.agg #[.slice a N c, .int .i64 K, .slice d M e]) R
theorem BoxG.new {w : World} {B i N M : Nat} {K : Int} {a : Option Addr} {c : Nat} {d : Option Addr} {e : Nat} {R : GState} (h : StateO w B (.agg #[.slice a N c, .int .i64 K, .slice d M e]) R) (hi : i ≤ B) (t : TypeId) :
    BoxG (w.alloc (.cells #[.slice a N c, .int .i64 K, .slice d M e] t)) w.heap.size i N M K a c d e R :=
  ⟨Cx.new w [.slice a N c, .int .i64 K, .slice d M e] t (j := 0) rfl, Cx.new w [.slice a N c, .int .i64 K, .slice d M e] t (j := 1) rfl, Cx.new w [.slice a N c, .int .i64 K, .slice d M e] t (j := 2) rfl,
    StateV.stays (fun _ _ _ hb hc => ⟨Ext.cell ((Ext.refl _).alloc _) hc, Nat.le_trans hi hb⟩) h.state⟩
theorem BoxG.late {w : World} {B C i N M : Nat} {K : Int} {a : Option Addr} {c : Nat} {d : Option Addr} {e : Nat} {R : GState} {u0 u1 u2 : Value} (h : StateO w B (.agg #[.slice a N c, .int .i64 K, .slice d M e]) R) (h0 : Cx w i 0 u0) (h1 : Cx w i 1 u1) (h2 : Cx w i 2 u2) (hi : i < B) (hC : C ≤ B) :
    BoxG (((w.setCell ⟨i, 0, none⟩ (.slice a N c)).setCell ⟨i, 1, none⟩ (.int .i64 K)).setCell ⟨i, 2, none⟩ (.slice d M e)) i C N M K a c d e R := by
  have hc := chg3 w i (.slice a N c) (.int .i64 K) (.slice d M e)
  refine ⟨((h0.set _).other (.inr (by decide)) _).other (.inr (by decide)) _, ((h1.other (.inr (by decide)) _).set _).other (.inr (by decide)) _, ((h2.other (.inr (by decide)) _).other (.inr (by decide)) _).set _,
    StateV.stays (fun b o v hb hv => ⟨hc.cell (fun e => by have e : b = i := e; have : B ≤ b := hb; omega) hv, Nat.le_trans hC hb⟩) h.state⟩

/-- b is no block of the library's variables. -/
def NotG (b : Nat) : Prop := b ≠ 0 ∧ b ≠ 1 ∧ b ≠ 5 ∧ b ≠ 3 ∧ b ≠ 4
theorem var_lt {P : Program} {w : World} {n : String} {g : Nat} {cs : Array Value} (hg : P.globalNamed n = some g) (hv : w.var? P n = some cs) : g < w.heap.size := by
  unfold World.var? at hv
  rw [hg] at hv
  simp only [Option.bind_some] at hv
  refine Nat.lt_of_not_le fun hn => ?_
  rw [Array.getElem?_eq_none hn] at hv
  cases hv
theorem var_chg {P : Program} {w w' : World} {b : Nat} (h : Chg (· = b) w w') {n : String} {g : Nat} {cs : Array Value} (hg : P.globalNamed n = some g) (hb : b ≠ g) (hv : w.var? P n = some cs) : w'.var? P n = some cs := by
  have hl := var_lt hg hv
  unfold World.var? at hv ⊢
  rw [hg] at hv ⊢
  simp only [Option.bind_some] at hv ⊢
  rw [h.block g hl (fun e => hb e.symm)]
  exact hv
theorem Glob.notG {w : World} {b : Nat} (h : Glob w) (hb : w.heap.size ≤ b) : NotG b := by
  obtain ⟨h1, h2, ⟨m, h3⟩, ⟨e4, h4, _⟩, e5, h5, _⟩ := h
  have k1 := var_lt (g := 5) (by kernel_rfl) h1
  have k2 := var_lt (g := 1) (by kernel_rfl) h2
  have k3 := lt_of_cell h3
  have k4 := lt_of_cell h4
  have k5 := lt_of_cell h5
  unfold NotG
  omega
theorem Glob.chg {w w' : World} {b : Nat} (h : Glob w) (hc : Chg (· = b) w w') (hb : NotG b) : Glob w' := by
  obtain ⟨h1, h2, ⟨m, h3⟩, ⟨e4, h4, h4'⟩, e5, h5, h5'⟩ := h
  obtain ⟨n1, n2, n3, n4, n5⟩ := hb
  exact ⟨var_chg hc (g := 5) (by kernel_rfl) n3 h1, var_chg hc (g := 1) (by kernel_rfl) n2 h2, ⟨m, hc.cell (fun e => n1 e.symm) h3⟩, ⟨e4, hc.cell (fun e => n4 e.symm) h4, h4'⟩, e5, hc.cell (fun e => n5 e.symm) h5, h5'⟩
theorem heights_desk (p : List GFunc) (s : GState) (n : Int) (S : Nat → Prop) (b : Nat) (w : World) (hg : Glob w) (hT : TabX w S b p s) (hz : progErr p = 0) :
    Calls Tryz.prog 78 #[.pointer (some ⟨b, 0, none⟩), .int .i64 n] w fun e W' => e = .returned (.string ⟨(heightsN p n).toArray⟩) ∧ Ext w W' := by
  have HG := Lib.hid hg
  obtain ⟨pa, pc, fa, fc, oa, oc, hT⟩ := hT
  have HT := Lib.hid hT
  obtain ⟨c0, c0'⟩ := hT.c0
  have hbd := hErr_bd p n
  have hll : (hList p n).length ≤ 1000 := hList_le hz n
  obtain ⟨r, hr⟩ : ∃ r, hErr p n = r := ⟨_, rfl⟩
  have HR := Lib.hid hr
  rw [hr] at hbd
  have hIr : I64 r := I64.small (by omega) (by omega)
  unfold heightsN
  rw [hr]
  by_cases h0 : r = 0
  · subst h0
    rw [if_neg (by decide)]
    clear hg hT hr
    go_enter Tryz.func78, Tryz.ntmps78
    go_wp2_with (first
      | (go_at_call 98; (with_reducible refine (flowHeights_any p _ _ n _ HT.out.pr).mono ?_); rintro e w2 ⟨⟨v2, rfl, hx2⟩, hb2⟩; rw [HR.out])
      | (go_at_call 108; (with_reducible refine (listed_any (hList p n) _ _ _ (HG.out.ext hb2) hx2 hll).mono ?_); rintro e w3 ⟨rfl, hb3⟩))
    go_ret
    exact ⟨rfl, hb2.trans hb3⟩
  · rw [if_pos h0]
    have TR : (r != 0) = true := bne_iff_ne.2 h0
    clear hg hT hr h0
    go_enter Tryz.func78, Tryz.ntmps78
    go_wp2_with (first
      | (go_at_call 98; (with_reducible refine (flowHeights_any p _ _ n _ HT.out.pr).mono ?_); rintro e w2 ⟨⟨v2, rfl, hx2⟩, hb2⟩; rw [HR.out])
      | (go_at_call 76; (with_reducible refine (refused_any r _ (HG.out.ext hb2) hIr).mono ?_); rintro e w3 ⟨rfl, hb3⟩))
    go_ret
    exact ⟨rfl, hb2.trans hb3⟩

theorem step_desk (p : List GFunc) (s : GState) (l : List Int) (n : Nat) (S : Nat → Prop) (b : Nat) (w : World) (hg : Glob w) (hT : TabX w S b p s) (hok : Ok p s l) (hn : n ≤ 1000000) (hnb : NotG b) :
    Calls Tryz.prog 77 #[.pointer (some ⟨b, 0, none⟩), .int .i64 n] w fun e W' => e = .returned (.string ⟨(stepN p s n).2.toArray⟩) ∧ TabX W' (Up S w.heap.size) b p (stepN p s n).1 ∧ Chg (· = b) w W' := by
  have HG := Lib.hid hg
  obtain ⟨pa, pc, fa, fc, oa, oc, hT⟩ := hT
  have HT := Lib.hid hT
  obtain ⟨c0, c0'⟩ := hT.c0
  obtain ⟨c1, c1'⟩ := hT.c1
  obtain ⟨c2, c2'⟩ := hT.c2
  obtain ⟨c3, c3'⟩ := hT.c3
  have hcat := cat_bytes'
  have hlen := cat_len
  have RA := alloc_keep
  unfold stepN
  by_cases h5 : 500 < n
  · rw [if_pos (by omega)]
    have TL : decide ((500 : Int) < (n : Int)) = true := decide_eq_true (by omega)
    clear hg hT
    go_enter Tryz.func77, Tryz.ntmps77
    go_wp2_with (first
      | (go_at_call 76; (with_reducible refine (refused_any 3 _ HG.out (I64.small (by decide) (by decide))).mono ?_); rintro e w3 ⟨rfl, hb3⟩))
    go_ret
    exact ⟨rfl, (HT.out.ext hb3).upX HT.out.lt, Chg.of_ext hb3⟩
  · rw [if_neg (by omega)]
    have TL : decide ((500 : Int) < (n : Int)) = false := decide_eq_false (by omega)
    rw [Int.toNat_natCast]
    have hbd := ran_bd hok n
    have HON := Lib.hid (fun W (h : Ext w W) => on_any p _ _ _ s l _ n W (Funcs.stays (Ext.stays h) HT.out.pr) (StateV.stays (Ext.stays h) HT.out.st) hok hn)
    obtain ⟨⟨R, rn, rg⟩, hrr⟩ : ∃ z, runG p n s = z := ⟨_, rfl⟩
    rw [hrr] at hbd
    replace hbd : (0 ≤ rn ∧ rn ≤ n) ∧ 0 ≤ rg ∧ rg ≤ 7 := hbd
    have hrn : I64 rn := I64.small (by omega) (by omega)
    have hrg : I64 rg := I64.small (by omega) (by omega)
    have HRR : Hid (∀ W, Ext w W → Calls Tryz.prog 41 #[.slice pa p.length pc, .agg #[.slice fa s.fibers.length fc, .int .i64 s.now, .slice oa s.out.length oc], .int .i64 n] W fun e w' => (∃ x, e = .returned (.tuple #[x, .int .i64 rn, .int .i64 rg]) ∧ StateO w' W.heap.size x R) ∧ Ext W w') := by
      intro W h
      have := HON.out W h
      rw [hrr] at this
      exact this
    rw [hrr]
    clear hrr HON hg hT
    go_enter Tryz.func77, Tryz.ntmps77
    go_upto_region 3 with fail
    go_cut [5, 6, 7] (fun q5 q6 q7 wr => ∃ i a c d e, q5 = .pointer (some ⟨i, 0, none⟩) ∧ q6 = .int .i64 rn ∧ q7 = .int .i64 rg ∧ Ext w wr ∧ w.heap.size ≤ i ∧ BoxG wr i w.heap.size R.fibers.length R.out.length R.now a c d e R)
    case first =>
      have S2 : ∀ W, Ext w W → ((fun W => W.cell? ⟨b, 0, none⟩ = some (.slice pa p.length pc) ∧ W.cell? ⟨b, 1, none⟩ = some (.slice fa s.fibers.length fc) ∧ W.cell? ⟨b, 2, none⟩ = some (.int .i64 s.now) ∧ W.cell? ⟨b, 3, none⟩ = some (.slice oa s.out.length oc)) W) := fun W h => ⟨Ext.cell h c0, Ext.cell h c1, Ext.cell h c2, Ext.cell h c3⟩
      refine wp_region_rw (fun W => W.cell? ⟨b, 0, none⟩ = some (.slice pa p.length pc) ∧ W.cell? ⟨b, 1, none⟩ = some (.slice fa s.fibers.length fc) ∧ W.cell? ⟨b, 2, none⟩ = some (.int .i64 s.now) ∧ W.cell? ⟨b, 3, none⟩ = some (.slice oa s.out.length oc)) 17 [0, 1, 2, 3, 4, 5, 6, 7, 8] 9 (by kernel_rfl) (by kernel_rfl) (fun _ _ _ _ _ h => h) (S2 _ (by ((repeat (first | assumption | exact Ext.refl _ | (exact And.left (by assumption)) | refine Ext.alloc ?_ _ | refine Ext.drew ?_ | refine Ext.drewN ?_ _ | refine Ext.setCell ?_ (by simp) _ | refine Ext.setCell ?_ (by simp; omega) _ | refine Ext.trans ?_ (by assumption))); done))) ?_
      (try simp only [pickOps, List.filterMap_cons, List.filterMap_nil, List.getElem?_cons_zero, List.getElem?_cons_succ])
      repeat (
        refine readsQ_do (by rfl) ?_
        apply Exists.intro
        refine ⟨fun w' hw' => ?_, ?_⟩
        focus
          (try dsimp only at hw')
          go_split_ands
          go_simp
          (try with_reducible rfl)
        (try dsimp only [Act.put])
        (try simp only [List.setIfInBounds_toArray, List.set_cons_succ, List.set_cons_zero]))
      refine readsQ_nil ?_
      refine wpAnyW_two 9 14 (by kernel_rfl) rfl rfl ?_ ?_
      · go_wp2_with (first
          | (go_at_call 41; (with_reducible refine (HRR.out _ (by ((repeat (first | assumption | exact Ext.refl _ | (exact And.left (by assumption)) | refine Ext.alloc ?_ _ | refine Ext.drew ?_ | refine Ext.drewN ?_ _ | refine Ext.setCell ?_ (by simp) _ | refine Ext.setCell ?_ (by simp; omega) _ | refine Ext.trans ?_ (by assumption))); done))).mono ?_); rintro e w9 ⟨⟨x9, rfl, hx9⟩, hb9⟩; obtain ⟨ra, rc, rb, rd, rfl⟩ := hx9.few; have HX9 := Lib.hid hx9; clear hx9))
        refine nextA_go (S2 _ (by ((repeat (first | assumption | exact Ext.refl _ | (exact And.left (by assumption)) | refine Ext.alloc ?_ _ | refine Ext.drew ?_ | refine Ext.drewN ?_ _ | refine Ext.setCell ?_ (by simp) _ | refine Ext.setCell ?_ (by simp; omega) _ | refine Ext.trans ?_ (by assumption))); done))) ?_
        refine wpAnyW_take 10 (by kernel_rfl) (by kernel_rfl) (by kernel_rfl) (by kernel_rfl) (by kernel_rfl) (fun _ _ _ _ _ h => h) rfl (by rfl) (S2 _ (by ((repeat (first | assumption | exact Ext.refl _ | (exact And.left (by assumption)) | refine Ext.alloc ?_ _ | refine Ext.drew ?_ | refine Ext.drewN ?_ _ | refine Ext.setCell ?_ (by simp) _ | refine Ext.setCell ?_ (by simp; omega) _ | refine Ext.trans ?_ (by assumption))); done))) ?_
        apply Exists.intro
        refine ⟨fun w' hw' => ?_, ?_⟩
        focus
          go_simp
          (try with_reducible rfl)
        (try dsimp only [Act.put])
        (try simp only [List.setIfInBounds_toArray])
        refine wpAnyW_take 11 (by kernel_rfl) (by kernel_rfl) (by kernel_rfl) (by kernel_rfl) (by kernel_rfl) (fun _ _ _ _ _ h => h) rfl (by rfl) (S2 _ (by ((repeat (first | assumption | exact Ext.refl _ | (exact And.left (by assumption)) | refine Ext.alloc ?_ _ | refine Ext.drew ?_ | refine Ext.drewN ?_ _ | refine Ext.setCell ?_ (by simp) _ | refine Ext.setCell ?_ (by simp; omega) _ | refine Ext.trans ?_ (by assumption))); done))) ?_
        apply Exists.intro
        refine ⟨fun w' hw' => ?_, ?_⟩
        focus
          go_simp
          (try with_reducible rfl)
        (try dsimp only [Act.put])
        (try simp only [List.setIfInBounds_toArray])
        refine wpAnyW_take 12 (by kernel_rfl) (by kernel_rfl) (by kernel_rfl) (by kernel_rfl) (by kernel_rfl) (fun _ _ _ _ _ h => h) rfl (by rfl) (S2 _ (by ((repeat (first | assumption | exact Ext.refl _ | (exact And.left (by assumption)) | refine Ext.alloc ?_ _ | refine Ext.drew ?_ | refine Ext.drewN ?_ _ | refine Ext.setCell ?_ (by simp) _ | refine Ext.setCell ?_ (by simp; omega) _ | refine Ext.trans ?_ (by assumption))); done))) ?_
        apply Exists.intro
        refine ⟨fun w' hw' => ?_, ?_⟩
        focus
          go_simp
          (try with_reducible rfl)
        (try dsimp only [Act.put])
        (try simp only [List.setIfInBounds_toArray])
        refine wpAnyW_take 13 (by kernel_rfl) (by kernel_rfl) (by kernel_rfl) (by kernel_rfl) (by kernel_rfl) (fun _ _ _ _ _ h => h) rfl (by rfl) (S2 _ (by ((repeat (first | assumption | exact Ext.refl _ | (exact And.left (by assumption)) | refine Ext.alloc ?_ _ | refine Ext.drew ?_ | refine Ext.drewN ?_ _ | refine Ext.setCell ?_ (by simp) _ | refine Ext.setCell ?_ (by simp; omega) _ | refine Ext.trans ?_ (by assumption))); done))) ?_
        apply Exists.intro
        refine ⟨fun w' hw' => ?_, ?_⟩
        focus
          go_simp
          (try with_reducible rfl)
        (try dsimp only [Act.put])
        (try simp only [List.setIfInBounds_toArray])
        refine wpAnyW_one 14 (by kernel_rfl) rfl ?_
        go_wp2_with fail
        refine nextA_go (S2 _ (by ((repeat (first | assumption | exact Ext.refl _ | (exact And.left (by assumption)) | refine Ext.alloc ?_ _ | refine Ext.drew ?_ | refine Ext.drewN ?_ _ | refine Ext.setCell ?_ (by simp) _ | refine Ext.setCell ?_ (by simp; omega) _ | refine Ext.trans ?_ (by assumption))); done))) ?_
        refine wpAnyW_one 15 (by kernel_rfl) rfl ?_
        go_wp2_with fail
        refine nextA_go (S2 _ (by ((repeat (first | assumption | exact Ext.refl _ | (exact And.left (by assumption)) | refine Ext.alloc ?_ _ | refine Ext.drew ?_ | refine Ext.drewN ?_ _ | refine Ext.setCell ?_ (by simp) _ | refine Ext.setCell ?_ (by simp; omega) _ | refine Ext.trans ?_ (by assumption))); done))) ?_
        refine wpAnyW_one 16 (by kernel_rfl) rfl ?_
        go_wp2_with fail
        refine nextA_go (S2 _ (by ((repeat (first | assumption | exact Ext.refl _ | (exact And.left (by assumption)) | refine Ext.alloc ?_ _ | refine Ext.drew ?_ | refine Ext.drewN ?_ _ | refine Ext.setCell ?_ (by simp) _ | refine Ext.setCell ?_ (by simp; omega) _ | refine Ext.trans ?_ (by assumption))); done))) ?_
        refine wpAnyW_one 17 (by kernel_rfl) rfl ?_
        go_wp2_with fail
        refine nextA_end rfl (by kernel_rfl) ?_
        go_wp2_with fail
        go_meet
        exact ⟨_, _, _, _, _, rfl, rfl, rfl, by ((repeat (first | assumption | exact Ext.refl _ | (exact And.left (by assumption)) | refine Ext.alloc ?_ _ | refine Ext.drew ?_ | refine Ext.drewN ?_ _ | refine Ext.setCell ?_ (by simp) _ | refine Ext.setCell ?_ (by simp; omega) _ | refine Ext.trans ?_ (by assumption))); done), hb9.size, BoxG.new HX9.out (i := w.heap.size) (Nat.le_refl _) _⟩
      · go_wp2_with fail
        refine nextA_go (S2 _ (by ((repeat (first | assumption | exact Ext.refl _ | (exact And.left (by assumption)) | refine Ext.alloc ?_ _ | refine Ext.drew ?_ | refine Ext.drewN ?_ _ | refine Ext.setCell ?_ (by simp) _ | refine Ext.setCell ?_ (by simp; omega) _ | refine Ext.trans ?_ (by assumption))); done))) ?_
        refine wpAnyW_one 9 (by kernel_rfl) rfl ?_
        have BX : Hid (Cx (w.drew.alloc (.cells #[.slice none 0 0, .int .i64 0, .slice none 0 0] 58)) w.heap.size 0 (.slice none 0 0) ∧ Cx (w.drew.alloc (.cells #[.slice none 0 0, .int .i64 0, .slice none 0 0] 58)) w.heap.size 1 (.int .i64 0) ∧ Cx (w.drew.alloc (.cells #[.slice none 0 0, .int .i64 0, .slice none 0 0] 58)) w.heap.size 2 (.slice none 0 0)) := ⟨Cx.new w.drew [.slice none 0 0, .int .i64 0, .slice none 0 0] 58 (j := 0) rfl, Cx.new w.drew [.slice none 0 0, .int .i64 0, .slice none 0 0] 58 (j := 1) rfl, Cx.new w.drew [.slice none 0 0, .int .i64 0, .slice none 0 0] 58 (j := 2) rfl⟩
        have hszB : w.heap.size < (w.drew.alloc (.cells #[.slice none 0 0, .int .i64 0, .slice none 0 0] 58)).heap.size := by show w.heap.size < (w.heap.push _).size; simp
        go_wp2_with (first
          | (go_at_call 41; (with_reducible refine (HRR.out _ (by ((repeat (first | assumption | exact Ext.refl _ | (exact And.left (by assumption)) | refine Ext.alloc ?_ _ | refine Ext.drew ?_ | refine Ext.drewN ?_ _ | refine Ext.setCell ?_ (by simp) _ | refine Ext.setCell ?_ (by simp; omega) _ | refine Ext.trans ?_ (by assumption))); done))).mono ?_); rintro e w9 ⟨⟨x9, rfl, hx9⟩, hb9⟩; obtain ⟨ra, rc, rb, rd, rfl⟩ := hx9.few; have HX9 := Lib.hid hx9; clear hx9))
        replace BX := Lib.hid (⟨BX.out.1.ext hb9, BX.out.2.1.ext hb9, BX.out.2.2.ext hb9⟩ : _ ∧ _ ∧ _)
        refine nextA_go (S2 _ (by ((repeat (first | assumption | exact Ext.refl _ | (exact And.left (by assumption)) | refine Ext.alloc ?_ _ | refine Ext.drew ?_ | refine Ext.drewN ?_ _ | refine Ext.setCell ?_ (by simp) _ | refine Ext.setCell ?_ (by simp; omega) _ | refine Ext.trans ?_ (by assumption))); done))) ?_
        refine wpAnyW_one 10 (by kernel_rfl) rfl ?_
        go_wp2_with fail
        refine nextA_go (S2 _ (by ((repeat (first | assumption | exact Ext.refl _ | (exact And.left (by assumption)) | refine Ext.alloc ?_ _ | refine Ext.drew ?_ | refine Ext.drewN ?_ _ | refine Ext.setCell ?_ (by simp) _ | refine Ext.setCell ?_ (by simp; omega) _ | refine Ext.trans ?_ (by assumption))); done))) ?_
        refine wpAnyW_take 11 (by kernel_rfl) (by kernel_rfl) (by kernel_rfl) (by kernel_rfl) (by kernel_rfl) (fun _ _ _ _ _ h => h) rfl (by rfl) (S2 _ (by ((repeat (first | assumption | exact Ext.refl _ | (exact And.left (by assumption)) | refine Ext.alloc ?_ _ | refine Ext.drew ?_ | refine Ext.drewN ?_ _ | refine Ext.setCell ?_ (by simp) _ | refine Ext.setCell ?_ (by simp; omega) _ | refine Ext.trans ?_ (by assumption))); done))) ?_
        apply Exists.intro
        refine ⟨fun w' hw' => ?_, ?_⟩
        focus
          go_simp
          (try with_reducible rfl)
        (try dsimp only [Act.put])
        (try simp only [List.setIfInBounds_toArray])
        refine wpAnyW_take 12 (by kernel_rfl) (by kernel_rfl) (by kernel_rfl) (by kernel_rfl) (by kernel_rfl) (fun _ _ _ _ _ h => h) rfl (by rfl) (S2 _ (by ((repeat (first | assumption | exact Ext.refl _ | (exact And.left (by assumption)) | refine Ext.alloc ?_ _ | refine Ext.drew ?_ | refine Ext.drewN ?_ _ | refine Ext.setCell ?_ (by simp) _ | refine Ext.setCell ?_ (by simp; omega) _ | refine Ext.trans ?_ (by assumption))); done))) ?_
        apply Exists.intro
        refine ⟨fun w' hw' => ?_, ?_⟩
        focus
          go_simp
          (try with_reducible rfl)
        (try dsimp only [Act.put])
        (try simp only [List.setIfInBounds_toArray])
        refine wpAnyW_take 13 (by kernel_rfl) (by kernel_rfl) (by kernel_rfl) (by kernel_rfl) (by kernel_rfl) (fun _ _ _ _ _ h => h) rfl (by rfl) (S2 _ (by ((repeat (first | assumption | exact Ext.refl _ | (exact And.left (by assumption)) | refine Ext.alloc ?_ _ | refine Ext.drew ?_ | refine Ext.drewN ?_ _ | refine Ext.setCell ?_ (by simp) _ | refine Ext.setCell ?_ (by simp; omega) _ | refine Ext.trans ?_ (by assumption))); done))) ?_
        apply Exists.intro
        refine ⟨fun w' hw' => ?_, ?_⟩
        focus
          go_simp
          (try with_reducible rfl)
        (try dsimp only [Act.put])
        (try simp only [List.setIfInBounds_toArray])
        obtain ⟨⟨z0, z0'⟩, ⟨z1, z1'⟩, ⟨z2, z2'⟩⟩ := BX.out
        refine wpAnyW_one 15 (by kernel_rfl) rfl ?_
        go_wp2_with fail
        refine nextA_go (S2 _ (by ((repeat (first | assumption | exact Ext.refl _ | (exact And.left (by assumption)) | refine Ext.alloc ?_ _ | refine Ext.drew ?_ | refine Ext.drewN ?_ _ | refine Ext.setCell ?_ (by simp) _ | refine Ext.setCell ?_ (by simp; omega) _ | refine Ext.trans ?_ (by assumption))); done))) ?_
        refine wpAnyW_one 16 (by kernel_rfl) rfl ?_
        go_wp2_with fail
        refine nextA_go (S2 _ (by ((repeat (first | assumption | exact Ext.refl _ | (exact And.left (by assumption)) | refine Ext.alloc ?_ _ | refine Ext.drew ?_ | refine Ext.drewN ?_ _ | refine Ext.setCell ?_ (by simp) _ | refine Ext.setCell ?_ (by simp; omega) _ | refine Ext.trans ?_ (by assumption))); done))) ?_
        refine wpAnyW_one 17 (by kernel_rfl) rfl ?_
        go_wp2_with fail
        refine nextA_end rfl (by kernel_rfl) ?_
        go_wp2_with fail
        go_meet
        exact ⟨_, _, _, _, _, rfl, rfl, rfl, ext3 (w := w) (by ((repeat (first | assumption | exact Ext.refl _ | (exact And.left (by assumption)) | refine Ext.alloc ?_ _ | refine Ext.drew ?_ | refine Ext.drewN ?_ _ | refine Ext.setCell ?_ (by simp) _ | refine Ext.setCell ?_ (by simp; omega) _ | refine Ext.trans ?_ (by assumption))); done)) _ _ _, Nat.le_refl _, BoxG.late HX9.out BX.out.1 BX.out.2.1 BX.out.2.2 hszB (Nat.le_of_lt hszB)⟩
    case rest =>
      obtain ⟨i, a, c, d, e, rfl, rfl, rfl, hE, hi, hB⟩ := hcut
      rename World => wr
      have HE := Lib.hid hE
      have HB := Lib.hid hB
      have hbi : b ≠ i := by have := HT.out.lt; omega
      obtain ⟨z0, z0'⟩ := hB.c0
      obtain ⟨z1, z1'⟩ := hB.c1
      obtain ⟨z2, z2'⟩ := hB.c2
      have hT2 := HT.out.ext hE
      have HT2 := Lib.hid hT2
      clear c0 c0' c1 c1' c2 c2' c3 c3'
      obtain ⟨c0, c0'⟩ := hT2.c0
      obtain ⟨c1, c1'⟩ := hT2.c1
      obtain ⟨c2, c2'⟩ := hT2.c2
      obtain ⟨c3, c3'⟩ := hT2.c3
      have hN := (hT2.up HT.out.lt).turn (s' := R) (StateV.stays (fun g o v hg hc => ⟨hc, .inr hg⟩) hB.st)
      have hC := chgT3 wr b (.slice a R.fibers.length c) (.int .i64 R.now) (.slice d R.out.length e)
      obtain ⟨W4, hW4⟩ : ∃ W4, ((wr.setCell ⟨b, 1, none⟩ (.slice a R.fibers.length c)).setCell ⟨b, 2, none⟩ (.int .i64 R.now)).setCell ⟨b, 3, none⟩ (.slice d R.out.length e) = W4 := ⟨_, rfl⟩
      have HW4 := Lib.hid hW4
      rw [hW4] at hN hC
      have HN := Lib.hid hN
      have HC := Lib.hid ((Chg.of_ext HE.out).trans hC)
      have HG4 := Lib.hid (HG.out.chg HC.out hnb)
      clear hE hB hT2 hN hC hW4
      go_upto_region 5 with fail
      rw [HW4.out]
      clear z0 z0' z1 z1' z2 z2' c0 c0' c1 c1' c2 c2' c3 c3'
      have hdl : (Lib.itoa rn).length ≤ 21 := Lib.itoa_length_le rn hrn.1 hrn.2
      have hdg : (Lib.itoa rg).length ≤ 21 := Lib.itoa_length_le rg hrg.1 hrg.2
      have HL1 : Hid (listT [rn] = Lib.itoa rn) := listT_one rn
      have HI1 : ∀ W : World, Hid (Ints (W.alloc (.cells #[.int .i64 rn] 3)) (fun _ => True) (.slice (some ⟨W.heap.size, 0, none⟩) 1 1) [rn]) := fun W => ints_fresh W [rn] (by intro m hm; rw [List.mem_singleton.1 hm]; exact hrn) (by simp)
      by_cases h0 : rg = 0
      · subst h0
        have HRT : Hid (ranT (R, rn, 0) = listT [rn]) := by unfold Hid ranT; rw [if_neg (fun h => h rfl)]; exact (listT_one rn).symm
        go_wp2_with (first
          | (go_at_call 108; (with_reducible refine (listed_any [rn] _ _ _ (HG4.out.ext ((Ext.refl _).alloc _)) (HI1 _).out (by simp)).mono ?_); rintro e w2 ⟨rfl, hb2⟩))
        go_ret
        exact ⟨by rw [HRT.out]; rfl, ⟨_, _, _, _, _, _, (HN.out.ext ((Ext.refl _).alloc _)).ext hb2⟩, (HC.out.trans (Chg.of_ext ((Ext.refl _).alloc _))).trans (Chg.of_ext hb2)⟩
      · have HRT0 : Hid (ranT (R, rn, rg) = Lib.itoa rn ++ 32 :: errT rg) := by unfold Hid ranT; rw [if_pos h0]
        have TG : (rg != 0) = true := bne_iff_ne.2 h0
        obtain ⟨d1, hd1⟩ : ∃ d1, Lib.itoa rn = d1 := ⟨_, rfl⟩
        obtain ⟨d2, hd2⟩ : ∃ d2, errT rg = d2 := ⟨_, rfl⟩
        have hdl2 : d2.length ≤ 27 := by rw [← hd2]; unfold errT; simp only [List.length_append, List.length_cons, List.length_nil]; omega
        rw [hd1] at hdl
        have HL2 : Hid (listT [rn] = d1) := by rw [← hd1]; exact listT_one rn
        have HD2 := Lib.hid hd2
        have n1 : ¬ 9223372036854775807 < d1.length + 1 := by omega
        have n2 : ¬ 9223372036854775807 < d1.length + 1 + d2.length := by omega
        have HRT : Hid (ranT (R, rn, rg) = d1 ++ 32 :: d2) := by rw [← hd1, ← hd2]; exact HRT0.out
        clear hd1 hd2 h0 HL1 HRT0
        go_wp2_with (first
          | (go_at_call 108; (with_reducible refine (listed_any [rn] _ _ _ (HG4.out.ext ((Ext.refl _).alloc _)) (HI1 _).out (by simp)).mono ?_); rintro e w2 ⟨rfl, hb2⟩; rw [HL2.out]; have HX2 := Lib.hid (((Ext.refl _).alloc _).trans hb2))
          | (go_at_call 76; (with_reducible refine (refused_any rg _ (HG4.out.ext HX2.out) hrg).mono ?_); rintro e w3 ⟨rfl, hb3⟩; rw [HD2.out]))
        go_ret
        exact ⟨by rw [HRT.out]; simp [cat], ⟨_, _, _, _, _, _, (HN.out.ext HX2.out).ext hb3⟩, (HC.out.trans (Chg.of_ext HX2.out)).trans (Chg.of_ext hb3)⟩
end Go.Proofs.YtpcjkfppacnkgaaGreatDoor
end
