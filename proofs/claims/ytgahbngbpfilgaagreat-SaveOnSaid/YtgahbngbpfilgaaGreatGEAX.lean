/- Merged texts: contracts and plain facts, one part behind another; each part begins with what it says. -/
import Derived.Test.YtgahbngbpfilgaaGreatGEAG
import Derived.Test.YtgahbngbpfilgaaGreatGEAV
import Derived.Test.YtgahbngbpfilgaaGreatGEAW
import Derived.Recover
import Derived.Tactics2
section
set_option maxHeartbeats 4000000
set_option maxRecDepth 100000
set_option linter.unusedSimpArgs false
namespace Go.Proofs.YtgahbngbpfilgaaGreat
open Go Go.RowKit
theorem ta_hit (v : Value) (w : World) : (Instr.typeAssert (.iface 89 v) 20 89 true).run Tryz.prog w = .ok (.tuple #[v, .bool true]) w := by
 unfold Instr.typeAssert
 simp only [Sem.run_bind, run_underlying Tryz.underlying89, Result.andThen_ok]
 rfl
theorem zeroR (w : World) : (zeroValue 89).run Tryz.prog w = .ok (.agg #[.int .i64 0]) w := by kernel_rfl
theorem ta_miss (w : World) : (Instr.typeAssert .nilIface 20 89 true).run Tryz.prog w = .ok (.tuple #[.agg #[.int .i64 0], .bool false]) w := by
 unfold Instr.typeAssert
 simp only [Sem.run_bind, run_underlying Tryz.underlying89, Result.andThen_ok, if_true, zeroR]
 rfl
theorem catch_panicking (b : Nat) (r x : Int) (older : List PanicEntry) (w : World) (hc : Cx w b 0 (.int .i64 x)) :
  CallsD Tryz.prog 52 #[.pointer (some ⟨b, 0, none⟩)] (.panicking ({ v := .iface 89 (.agg #[.int .i64 r]), recovered := false } :: older)) w fun e u' w' =>
   e = .returned (.tuple #[]) ∧ u' = .panicking ({ v := .iface 89 (.agg #[.int .i64 r]), recovered := true } :: older) ∧ Cx w' b 0 (.int .i64 r) ∧ Chg (· = b) w w' := by
 refine callsD_of_wpS Tryz.func52 rfl fun c₀ cs hu => ?_
 apply wpS_seq
 apply wpS_region
 simp [wpOpsS, go_sem, recoverD, hu, Tryz.ntmps52, Exit.thenS]
 refine wpS_of_wp ?_
 simp only [Array.replicate, List.reduceReplicate, List.setIfInBounds_toArray, List.set_cons_succ, List.set_cons_zero, List.append_toArray, List.cons_append, List.nil_append]
 have hta := ta_hit
 have RA := alloc_keep
 have hne : b ≠ w.heap.size := Nat.ne_of_lt hc.lt
 obtain ⟨h0, h0'⟩ := hc.ext ((Ext.refl w).alloc (.cells #[.int .i64 r] 89))
 have HC := Lib.hid (hc.ext ((Ext.refl w).alloc (.cells #[.int .i64 r] 89)))
 go_wp2_with fail
 refine ⟨rfl, _, rfl, _, results_none rfl _ _ _, rfl, rfl, HC.out.set _, ?_⟩
 exact (Chg.of_ext ((Ext.refl w).alloc _)).trans (chg_one _ _ _ _)
theorem catch_idle (b : Nat) (w : World) :
  CallsD Tryz.prog 52 #[.pointer (some ⟨b, 0, none⟩)] .returning w fun e u' w' => e = .returned (.tuple #[]) ∧ u' = .returning ∧ Ext w w' := by
 refine callsD_of_wpS Tryz.func52 rfl fun c₀ cs hu => ?_
 apply wpS_seq
 apply wpS_region
 simp [wpOpsS, go_sem, recoverD, hu, Tryz.ntmps52, Exit.thenS]
 refine wpS_of_wp ?_
 simp only [Array.replicate, List.reduceReplicate, List.setIfInBounds_toArray, List.set_cons_succ, List.set_cons_zero, List.append_toArray, List.cons_append, List.nil_append]
 have hta := ta_miss
 go_wp2_with fail
 refine ⟨rfl, .returning, ?_, _, results_none rfl _ _ _, rfl, rfl, (Ext.refl w).alloc _⟩
 cases c₀
 cases hu
 rfl
theorem resultE (tmps : Array Value) (w : World) (b : Nat) (r : Int) (hp : tmps.getD 4 undef = .pointer (some ⟨b, 0, none⟩)) (hc : w.cell? ⟨b, 0, none⟩ = some (.int .i64 r)) :
  (results Tryz.f29 tmps).run Tryz.prog w = .ok (.int .i64 r) w := by
 have hp' : tmps[4]?.getD undef = .pointer (some ⟨b, 0, none⟩) := by simpa using hp
 simp [results, Tryz.results29, go_sem, hp', hc]
theorem stays_lt {S : Nat → Prop} {w w' : World} {B : Nat} (he : Ext w w') (hB : w.heap.size ≤ B) : Stays S (· < B) w w' := fun b o v _ hc => ⟨Ext.cell he hc, by have := lt_of_cell hc; show b < B; omega⟩
theorem stateCheck_any (p : List GFunc) (v : Value) (S T : Nat → Prop) (s : GState) (vs : Value) (w : World) (hp : Funcs w S v p) (hs : StateV w T vs s) :
  Calls Tryz.prog 29 #[v, vs] w fun e w' => e = .returned (.int .i64 (stateErr p s)) ∧ Ext w w' := by
 have HP := Lib.hid hp
 have HS := Lib.hid hs
 obtain ⟨ap, capp, rfl, _, _, _⟩ := hp
 obtain ⟨x, y, rfl, hfs, inow, hout⟩ := hs
 have HFS := Lib.hid hfs
 have HOUT := Lib.hid hout
 obtain ⟨af, cf, rfl, _, _, _⟩ := hfs
 obtain ⟨ao, co, rfl, _, _, _⟩ := hout
 have RA := alloc_keep
 have hmf : ∀ (fn : Fn) (first cap : Array Value) (w : World), (Instr.makeFunc fn first cap).run Tryz.prog w = .ok (.func fn first cap) w := fun _ _ _ _ => rfl
 obtain ⟨r, hr⟩ : ∃ r, stateErr p s = r := ⟨_, rfl⟩
 rw [hr]
 have HR := Lib.hid hr
 clear hr
 have hsz : (w.alloc (.cells #[.slice af s.fibers.length cf, .int .i64 s.now, .slice ao s.out.length co] 26)).heap.size = w.heap.size + 1 := Array.size_push _
 have q0 := Cx.new w [.slice af s.fibers.length cf, .int .i64 s.now, .slice ao s.out.length co] 26 (j := 0) rfl
 have q1 := Cx.new w [.slice af s.fibers.length cf, .int .i64 s.now, .slice ao s.out.length co] 26 (j := 1) rfl
 have q2 := Cx.new w [.slice af s.fibers.length cf, .int .i64 s.now, .slice ao s.out.length co] 26 (j := 2) rfl
 have qE := Cx.new (w.alloc (.cells #[.slice af s.fibers.length cf, .int .i64 s.now, .slice ao s.out.length co] 26)) [.int .i64 0] 27 (j := 0) rfl
 rw [hsz] at qE
 have hX : Ext (w.alloc (.cells #[.slice af s.fibers.length cf, .int .i64 s.now, .slice ao s.out.length co] 26)) ((w.alloc (.cells #[.slice af s.fibers.length cf, .int .i64 s.now, .slice ao s.out.length co] 26)).alloc (.cells #[.int .i64 0] 27)) := (Ext.refl _).alloc _
 have QB := Lib.hid (⟨q0.ext hX, q1.ext hX, q2.ext hX, qE⟩ : _ ∧ _ ∧ _ ∧ _)
 have HE1 := Lib.hid (((Ext.refl w).alloc (.cells #[.slice af s.fibers.length cf, .int .i64 s.now, .slice ao s.out.length co] 26)).trans hX)
 clear hsz q0 q1 q2 qE hX
 by_cases hz : progErr p = 0
 ·have HZ := Lib.hid hz
  clear hz
  go_enter_defers Tryz.func29, Tryz.ntmps29
  go_upto_region 5 with (first
   | (go_at_call 33; (with_reducible refine (progCheck_any p _ S _ (Funcs.stays (Ext.stays (((Ext.refl w).alloc _).alloc _)) HP.out)).mono ?_); rintro e w2 ⟨rfl, hx2⟩; rw [HZ.out]))
  have HE2 := Lib.hid (HE1.out.trans hx2)
  have Q2 := Lib.hid (⟨QB.out.1.ext hx2, QB.out.2.1.ext hx2, QB.out.2.2.1.ext hx2, QB.out.2.2.2.ext hx2⟩ : _ ∧ _ ∧ _ ∧ _)
  clear QB hx2 HE1
  rename World => w2
  obtain ⟨⟨b0, -⟩, ⟨b1, -⟩, ⟨b2, -⟩, ⟨bE, bE'⟩⟩ := Q2.out
  go_upto_region 6 with fail
  have hsz2 := HE2.out.size
  have hE3 : Ext w2 (w2.alloc (.cells #[.slice af s.fibers.length cf, .int .i64 s.now, .slice ao s.out.length co, .slice ap p.length capp, .slice none 0 0, .slice none 0 0] 94)) := (Ext.refl _).alloc _
  have y0 := Cx.new w2 [.slice af s.fibers.length cf, .int .i64 s.now, .slice ao s.out.length co, .slice ap p.length capp, .slice none 0 0, .slice none 0 0] 94 (j := 0) rfl
  have y1 := Cx.new w2 [.slice af s.fibers.length cf, .int .i64 s.now, .slice ao s.out.length co, .slice ap p.length capp, .slice none 0 0, .slice none 0 0] 94 (j := 1) rfl
  have y2 := Cx.new w2 [.slice af s.fibers.length cf, .int .i64 s.now, .slice ao s.out.length co, .slice ap p.length capp, .slice none 0 0, .slice none 0 0] 94 (j := 2) rfl
  have y3 := Cx.new w2 [.slice af s.fibers.length cf, .int .i64 s.now, .slice ao s.out.length co, .slice ap p.length capp, .slice none 0 0, .slice none 0 0] 94 (j := 3) rfl
  have y4 := Cx.new w2 [.slice af s.fibers.length cf, .int .i64 s.now, .slice ao s.out.length co, .slice ap p.length capp, .slice none 0 0, .slice none 0 0] 94 (j := 4) rfl
  have y5 := Cx.new w2 [.slice af s.fibers.length cf, .int .i64 s.now, .slice ao s.out.length co, .slice ap p.length capp, .slice none 0 0, .slice none 0 0] 94 (j := 5) rfl
  have hjb := Q2.out.2.2.2.lt
  have HE3 := Lib.hid (HE2.out.trans hE3)
  have QE := Lib.hid (Q2.out.2.2.2.ext hE3)
  have HJB : Hid (w.heap.size + 1 < w2.heap.size) := hjb
  have Y := Lib.hid (⟨y0, y1, y2, y3, y4, y5⟩ : _ ∧ _ ∧ _ ∧ _ ∧ _ ∧ _)
  have HSZ2 : Hid (w.heap.size ≤ w2.heap.size) := HE2.out.size
  clear hE3 y0 y1 y2 y3 y4 y5 hjb hsz2 b0 b1 b2 bE bE'
  generalize w2.heap.size = jb at *
  generalize w2.alloc (.cells [.slice af s.fibers.length cf, .int .i64 s.now, .slice ao s.out.length co, .slice ap p.length capp, .slice none 0 0, .slice none 0 0].toArray 94) = w3 at *
  by_cases hr : r = 0
  ·have HLE : Hid (lookE r = .returned (.tuple #[])) := by unfold Hid lookE; rw [if_pos hr]
   have HR0 := Lib.hid hr
   clear hr
   go_wp2_with (first
    | (go_at_call 53; (with_reducible refine (look_any p s jb (· < jb) af ap cf capp ao co w3 HZ.out Y.out.1 Y.out.2.1 Y.out.2.2.1 Y.out.2.2.2.1 Y.out.2.2.2.2.1 Y.out.2.2.2.2.2 (Fibers.stays (stays_lt HE3.out HSZ2.out) HFS.out) (Ints.stays (stays_lt HE3.out HSZ2.out) HOUT.out) (Funcs.stays (stays_lt HE3.out HSZ2.out) HP.out) inow (fun b hb => Nat.ne_of_lt hb)).mono ?_); rintro e w4 ⟨he, hch⟩; rw [HR.out, HLE.out] at he; subst he; have HCH := Lib.hid hch; obtain ⟨bE, bE'⟩ := QE.out.chg hch (fun e => by have := HJB.out; omega); clear hch))
   refine leaves_cons (f := 52) (args := #[.pointer (some ⟨w.heap.size + 1, 0, none⟩)]) (by simp) (by simp [go_sem]) ?_
   refine (catch_idle (w.heap.size + 1) _).mono ?_
   rintro e u' w5 ⟨rfl, rfl, hx5⟩
   have hE := ((QE.out.chg HCH.out (fun e => by have := HJB.out; omega)).set (.int .i64 0)).ext hx5
   refine ⟨_, resultE _ _ (w.heap.size + 1) 0 rfl hE.1, by rw [HR0.out], ?_⟩
   exact ((Chg.ext_from HE3.out HCH.out (fun n e => by have e2 : n = jb := e; have := HSZ2.out; omega)).setCell (p := ⟨w.heap.size + 1, 0, none⟩) (Nat.le_succ _) _).trans hx5
  ·have HLE : Hid (lookE r = .panicked (refusal r)) := by unfold Hid lookE; rw [if_neg hr]
   clear hr
   go_wp2_with (first
    | (go_at_call 53; (with_reducible refine (look_any p s jb (· < jb) af ap cf capp ao co w3 HZ.out Y.out.1 Y.out.2.1 Y.out.2.2.1 Y.out.2.2.2.1 Y.out.2.2.2.2.1 Y.out.2.2.2.2.2 (Fibers.stays (stays_lt HE3.out HSZ2.out) HFS.out) (Ints.stays (stays_lt HE3.out HSZ2.out) HOUT.out) (Funcs.stays (stays_lt HE3.out HSZ2.out) HP.out) inow (fun b hb => Nat.ne_of_lt hb)).mono ?_); rintro e w4 ⟨he, hch⟩; rw [HR.out, HLE.out] at he; subst he; have HCH := Lib.hid hch; clear hch))
   refine leaves_cons (f := 52) (args := #[.pointer (some ⟨w.heap.size + 1, 0, none⟩)]) (by simp) (by simp [go_sem]) ?_
   refine (catch_panicking (w.heap.size + 1) r 0 [] _ (QE.out.chg HCH.out (fun e => by have := HJB.out; omega))).mono ?_
   rintro e u' w5 ⟨rfl, rfl, hE, hch5⟩
   have hs : settle (.panicking ({ v := .iface 89 (.agg #[.int .i64 r]), recovered := true } :: ([] : List PanicEntry))) = .returning := by simp [settle]
   show Leaves _ _ _ _ [] (settle _) _
   rw [hs]
   refine ⟨_, resultE _ _ (w.heap.size + 1) r rfl hE.1, rfl, ?_⟩
   exact Chg.ext_from (Chg.ext_from HE3.out HCH.out (fun n e => by have e2 : n = jb := e; have := HSZ2.out; omega)) hch5 (fun n e => by have e2 : n = w.heap.size + 1 := e; omega)
 ·have HRR : Hid (r = progErr p) := by unfold Hid; rw [← HR.out]; unfold stateErr; rw [if_pos hz]
  obtain ⟨q, hq⟩ : ∃ q, progErr p = q := ⟨_, rfl⟩
  rw [hq] at hz HRR
  have HQ := Lib.hid hq
  have TB : (q != 0) = true := bne_iff_ne.2 hz
  clear hz hq HR
  go_enter_defers Tryz.func29, Tryz.ntmps29
  go_wp2_with (first
   | (go_at_call 33; (with_reducible refine (progCheck_any p _ S _ (Funcs.stays (Ext.stays (((Ext.refl w).alloc _).alloc _)) HP.out)).mono ?_); rintro e w2 ⟨rfl, hx2⟩; rw [HQ.out]; have HX2 := Lib.hid hx2; obtain ⟨bE, bE'⟩ := QB.out.2.2.2.ext hx2))
  refine ⟨_, resultE _ _ (w.heap.size + 1) q rfl ((QB.out.2.2.2.ext HX2.out).set _).1, by rw [HRR.out], ?_⟩
  exact (HE1.out.trans HX2.out).setCell (p := ⟨w.heap.size + 1, 0, none⟩) (Nat.le_succ _) _
end Go.Proofs.YtgahbngbpfilgaaGreat
end
section
set_option maxHeartbeats 4000000
set_option maxRecDepth 100000
namespace Go.Proofs.YtgahbngbpfilgaaGreat
open Go Go.RowKit
theorem on_any (p : List GFunc) (v : Value) (S T : Nat → Prop) (s : GState) (l : List Int) (vs : Value) (fuel : Nat) (w : World) (hp : Funcs w S v p) (hs : StateV w T vs s) (hok : Ok p s l) (hfu : fuel ≤ 1000000) :
  Calls Tryz.prog 32 #[v, vs, .int .i64 fuel] w fun e w' => (∃ x, e = .returned (.tuple #[x, .int .i64 (runG p fuel s).2.1, .int .i64 (runG p fuel s).2.2]) ∧ StateO w' w.heap.size x (runG p fuel s).1) ∧ Ext w w' := by
 have HP := Lib.hid hp
 have HS := Lib.hid hs
 have HFEW := Lib.hid hok.fewS
 have HOK := Lib.hid hok
 obtain ⟨a, c, b, d, rfl⟩ := hs.few
 obtain ⟨ap, cp, rfl, _, _, _⟩ := hp
 have RA := alloc_keep
 have hs0 : (w.alloc (.cells #[.slice a s.fibers.length c, .int .i64 s.now, .slice b s.out.length d] 26)).heap.size = w.heap.size + 1 := Array.size_push _
 have r0 := Cx.new (w.alloc (.cells #[.slice a s.fibers.length c, .int .i64 s.now, .slice b s.out.length d] 26)) [.slice none 0 0, .int .i64 0, .slice none 0 0] 26 (j := 0) rfl
 have r1 := Cx.new (w.alloc (.cells #[.slice a s.fibers.length c, .int .i64 s.now, .slice b s.out.length d] 26)) [.slice none 0 0, .int .i64 0, .slice none 0 0] 26 (j := 1) rfl
 have r2 := Cx.new (w.alloc (.cells #[.slice a s.fibers.length c, .int .i64 s.now, .slice b s.out.length d] 26)) [.slice none 0 0, .int .i64 0, .slice none 0 0] 26 (j := 2) rfl
 rw [hs0] at r0 r1 r2
 have HR := Lib.hid (⟨r0, r1, r2⟩ : _ ∧ _ ∧ _)
 have HQ := Lib.hid (⟨(Cx.new w [.slice a s.fibers.length c, .int .i64 s.now, .slice b s.out.length d] 26 (j := 0) rfl).ext ((Ext.refl _).alloc (.cells #[.slice none 0 0, .int .i64 0, .slice none 0 0] 26)), (Cx.new w [.slice a s.fibers.length c, .int .i64 s.now, .slice b s.out.length d] 26 (j := 1) rfl).ext ((Ext.refl _).alloc (.cells #[.slice none 0 0, .int .i64 0, .slice none 0 0] 26)), (Cx.new w [.slice a s.fibers.length c, .int .i64 s.now, .slice b s.out.length d] 26 (j := 2) rfl).ext ((Ext.refl _).alloc (.cells #[.slice none 0 0, .int .i64 0, .slice none 0 0] 26))⟩ : _ ∧ _ ∧ _)
 have HE1 : Hid (Ext w ((w.alloc (.cells #[.slice a s.fibers.length c, .int .i64 s.now, .slice b s.out.length d] 26)).alloc (.cells #[.slice none 0 0, .int .i64 0, .slice none 0 0] 26))) := ((Ext.refl w).alloc _).alloc _
 have HS1 : Hid (((w.alloc (.cells #[.slice a s.fibers.length c, .int .i64 s.now, .slice b s.out.length d] 26)).alloc (.cells #[.slice none 0 0, .int .i64 0, .slice none 0 0] 26)).heap.size = w.heap.size + 2) := by unfold Hid; simp
 clear hs0 r0 r1 r2 hok
 go_enter Tryz.func32, Tryz.ntmps32
 go_upto_region 1 with fail
 go_cut [12] (fun _ wr => Boxed wr (w.heap.size + 2) w.heap.size s ∧ Ext w wr ∧ Cx wr (w.heap.size + 1) 0 (.slice none 0 0) ∧ Cx wr (w.heap.size + 1) 1 (.int .i64 0) ∧ Cx wr (w.heap.size + 1) 2 (.slice none 0 0))
 case first =>
  go_wp2_with (first
   | (go_at_call 55; (with_reducible refine (own_any s _ T _ (StateV.stays (Ext.stays (by ((repeat (first | assumption | exact Ext.refl _ | (exact And.left (by assumption)) | refine Ext.alloc ?_ _ | refine Ext.drew ?_ | refine Ext.drewN ?_ _ | refine Ext.setCell ?_ (by simp) _ | refine Ext.setCell ?_ (by simp; omega) _ | refine Ext.trans ?_ (by assumption))); done))) HS.out) HFEW.out).mono ?_); rintro e w2 ⟨⟨P, rfl, hO, hg⟩, hx2⟩; rw [HS1.out] at hO; obtain ⟨q0, q0'⟩ := (HQ.out).1.ext hx2; obtain ⟨q1, q1'⟩ := (HQ.out).2.1.ext hx2; obtain ⟨q2, q2'⟩ := (HQ.out).2.2.ext hx2; obtain ⟨av, cv, ev, _, _⟩ := hO.row.shape; obtain ⟨ao, co, eo, _, _⟩ := hO.out.shape; have hst : StateO w2 (w.heap.size + 2) _ _ := ⟨P, rfl, hO, hg⟩; rw [ev, eo] at hst ⊢; have HST := Lib.hid hst; have HX2 := Lib.hid hx2; clear hO hg hx2 ev eo hst))
  go_meet
  have hr := HR.out
  refine ⟨Boxed.store ⟨q0, q0'⟩ ⟨q1, q1'⟩ ⟨q2, q2'⟩ HST.out (by omega), (((HE1.out.trans HX2.out).setCell (p := ⟨w.heap.size, 0, none⟩) (Nat.le_refl _) _).setCell (p := ⟨w.heap.size, 1, none⟩) (Nat.le_refl _) _).setCell (p := ⟨w.heap.size, 2, none⟩) (Nat.le_refl _) _, ?_, ?_, ?_⟩
  ·exact (hr.1.ext HX2.out).chg (chg3 w2 w.heap.size _ _ _) (by omega)
  ·exact (hr.2.1.ext HX2.out).chg (chg3 w2 w.heap.size _ _ _) (by omega)
  ·exact (hr.2.2.ext HX2.out).chg (chg3 w2 w.heap.size _ _ _) (by omega)
 case rest =>
  rename World => w2
  obtain ⟨hB2, hE2, hR2⟩ := hcut
  have HB2 := Lib.hid hB2
  have HE2 := Lib.hid hE2
  have HR2 := Lib.hid hR2
  clear hB2 hE2 hR2 HR HQ HE1 HS1 HS HFEW
  go_wp2_with fail
  go_loopw [9] (fun q9 wr => ∃ (n k : Nat) (s' : GState) (l' : List Int), n + k = fuel ∧ q9 = .int .i64 n ∧ Ok p s' l' ∧ runG p fuel s = ((runG p k s').1, (runG p k s').2.1 + n, (runG p k s').2.2) ∧
    Boxed wr (w.heap.size + 2) w.heap.size s' ∧ Ext w wr ∧ Cx wr (w.heap.size + 1) 0 (.slice none 0 0) ∧ Cx wr (w.heap.size + 1) 1 (.int .i64 0) ∧ Cx wr (w.heap.size + 1) 2 (.slice none 0 0)) (fun q _ => fuel - (intOf q).toNat)
  case atStart => exact ⟨0, fuel, s, l, Nat.zero_add _, rfl, HOK.out, by simp, HB2.out, HE2.out, HR2.out⟩
  case round =>
   obtain ⟨n, k, s', l', hnk, rfl, hok, hrun, hbx, hE, hR⟩ := hrel
   have HOKK := Lib.hid hok
   have HRUN := Lib.hid hrun
   have HEK := Lib.hid hE
   have HRK := Lib.hid hR
   have HBXK := Lib.hid hbx
   obtain ⟨ax, cx, dx, ex, ⟨b0, b0'⟩, ⟨b1, b1'⟩, ⟨b2, b2'⟩, hst⟩ := hbx.ex
   have HST := Lib.hid hst
   obtain ⟨⟨r0, r0'⟩, ⟨r1, r1'⟩, ⟨r2, r2'⟩⟩ := hR
   clear hok hrun hbx hE hst
   rename World => wr
   by_cases hk : k = 0
   ·subst hk
    have TF : decide ((n : Int) < (fuel : Int)) = false := decide_eq_false (by omega)
    have HRES : Hid (runG p fuel s = (s', (n : Int), 0)) := by unfold Hid; rw [HRUN.out, runG_zero]; simp
    go_wp2_with fail
    refine bodyPost_ret (results_cell3 rfl _ _ (w.heap.size + 1) 0 _ _ rfl (box3 ⟨r0, r0'⟩ ⟨r1, r1'⟩ ⟨r2, r2'⟩ _ _ _) rfl rfl (by kernel_rfl)) rfl ?_
    rw [HRES.out]
    exact ⟨⟨_, by rfl, ret_state HST.out _ _ _⟩, ret_ext HEK.out _ _ _⟩
   ·obtain ⟨k, rfl⟩ : ∃ j, k = j + 1 := ⟨k - 1, by omega⟩
    have TF : decide ((n : Int) < (fuel : Int)) = true := decide_eq_true (by omega)
    by_cases hneg : s'.now < 0
    ·have TN : decide ((0 : Int) ≤ s'.now) = false := decide_eq_false (by omega)
     have HRES : Hid (runG p fuel s = (s', (n : Int), 0)) := by unfold Hid; rw [HRUN.out, runG_done p s' _ hneg]; simp
     go_wp2_with fail
     refine bodyPost_ret (results_cell3 rfl _ _ (w.heap.size + 1) 0 _ _ rfl (box3 ⟨r0, r0'⟩ ⟨r1, r1'⟩ ⟨r2, r2'⟩ _ _ _) rfl rfl (by kernel_rfl)) rfl ?_
     rw [HRES.out]
     exact ⟨⟨_, by rfl, ret_state HST.out _ _ _⟩, ret_ext HEK.out _ _ _⟩
    ·have TN : decide ((0 : Int) ≤ s'.now) = true := decide_eq_true (by omega)
     have HFEWK := Lib.hid HOKK.out.fewS
     have HIMP := Lib.hid (ok_step HOKK.out)
     have HNEG := Lib.hid hneg
     clear hk
     by_cases he : (doneG p s').1 = 0
     ·have hsg : stepG p s' = (0, (doneG p s').2) := by unfold stepG; rw [if_neg hneg, if_pos he]
      have hnx : ∃ l9, Ok p (doneG p s').2 l9 := by
       rcases (step_right HOKK.out (by omega)).2 with ⟨_, h⟩ | h
       ·exact h
       ·omega
      have hrn := HRUN.out
      rw [runG_step p s' k hneg he] at hrn
      obtain ⟨t, ht⟩ : ∃ t, (doneG p s').2 = t := ⟨_, rfl⟩
      rw [ht] at hsg hnx hrn
      obtain ⟨l9, hnx⟩ := hnx
      have HSG := Lib.hid hsg
      have HNX := Lib.hid hnx
      have HRN := Lib.hid hrn
      clear hsg hnx hrn ht he hneg
      have KN : IntKind.i64.wrap ((n : Int) + 1) = (n : Int) + 1 := IntWalk.i64_in _ (by omega)
      go_wp2_with (first
       | (go_at_call 30; (with_reducible refine (stepTurn_any p _ S _ s' _ _ (Funcs.stays (Ext.stays HEK.out) HP.out) HST.out.state HFEWK.out HIMP.out).mono ?_); rintro e w3 ⟨⟨x, rfl, hx⟩, hx3⟩; rw [HSG.out] at hx ⊢; obtain ⟨ax3, cx3, dx3, ex3, rfl⟩ := hx.few; obtain ⟨hq0, hq0'⟩ := (Cx.ext (W := wr) ⟨b0, b0'⟩ hx3).ext ((Ext.refl w3).alloc (.cells #[.slice ax3 t.fibers.length cx3, .int .i64 t.now, .slice dx3 t.out.length ex3] 26)); obtain ⟨hq1, hq1'⟩ := (Cx.ext (W := wr) ⟨b1, b1'⟩ hx3).ext ((Ext.refl w3).alloc (.cells #[.slice ax3 t.fibers.length cx3, .int .i64 t.now, .slice dx3 t.out.length ex3] 26)); obtain ⟨hq2, hq2'⟩ := (Cx.ext (W := wr) ⟨b2, b2'⟩ hx3).ext ((Ext.refl w3).alloc (.cells #[.slice ax3 t.fibers.length cx3, .int .i64 t.now, .slice dx3 t.out.length ex3] 26)); have hr0 := (Cx.ext (W := wr) ⟨r0, r0'⟩ hx3).ext ((Ext.refl w3).alloc (.cells #[.slice ax3 t.fibers.length cx3, .int .i64 t.now, .slice dx3 t.out.length ex3] 26)); have hr1 := (Cx.ext (W := wr) ⟨r1, r1'⟩ hx3).ext ((Ext.refl w3).alloc (.cells #[.slice ax3 t.fibers.length cx3, .int .i64 t.now, .slice dx3 t.out.length ex3] 26)); have hr2 := (Cx.ext (W := wr) ⟨r2, r2'⟩ hx3).ext ((Ext.refl w3).alloc (.cells #[.slice ax3 t.fibers.length cx3, .int .i64 t.now, .slice dx3 t.out.length ex3] 26)); have HX3 := Lib.hid hx3; have HXS := Lib.hid hx; have HR3 := Lib.hid (⟨hr0, hr1, hr2⟩ : _ ∧ _ ∧ _); clear hx hx3 hr0 hr1 hr2))
      have hrs : w.heap.size + 2 ≤ wr.heap.size := by have := Cx.lt (W := wr) ⟨r0, r0'⟩; omega
      go_roundw
      case rel =>
       refine ⟨n + 1, k, t, l9, by omega, by go_num, HNX.out, by rw [HRN.out]; simp; omega, Boxed.store (w := w3.alloc (.cells #[.slice ax3 t.fibers.length cx3, .int .i64 t.now, .slice dx3 t.out.length ex3] 26)) (B := w.heap.size + 2) ⟨hq0, hq0'⟩ ⟨hq1, hq1'⟩ ⟨hq2, hq2'⟩ ((HXS.out.ext ((Ext.refl _).alloc _)).mono hrs) (by omega), ?_, ?_, ?_, ?_⟩
       ·exact ((((HEK.out.trans HX3.out).alloc _).setCell (p := ⟨w.heap.size, 0, none⟩) (Nat.le_refl _) _).setCell (p := ⟨w.heap.size, 1, none⟩) (Nat.le_refl _) _).setCell (p := ⟨w.heap.size, 2, none⟩) (Nat.le_refl _) _
       ·exact (HR3.out).1.chg (chg3 _ w.heap.size _ _ _) (by omega)
       ·exact (HR3.out).2.1.chg (chg3 _ w.heap.size _ _ _) (by omega)
       ·exact (HR3.out).2.2.chg (chg3 _ w.heap.size _ _ _) (by omega)
      case measure => simp [intOf]; omega
     ·have hsg : stepG p s' = ((doneG p s').1, ⟨[], 0, []⟩) := by unfold stepG; rw [if_neg hneg, if_neg he]
      have TE : ((doneG p s').1 != 0) = true := bne_iff_ne.2 he
      have hrn := HRUN.out
      rw [runG_err p s' k hneg he] at hrn
      obtain ⟨re, hre⟩ : ∃ re, (doneG p s').1 = re := ⟨_, rfl⟩
      rw [hre] at TE hsg hrn
      have HSG := Lib.hid hsg
      have HRN := Lib.hid hrn
      clear hsg hrn hre he hneg
      go_wp2_with (first
       | (go_at_call 30; (with_reducible refine (stepTurn_any p _ S _ s' _ _ (Funcs.stays (Ext.stays HEK.out) HP.out) HST.out.state HFEWK.out HIMP.out).mono ?_); rintro e w3 ⟨⟨x, rfl, hx⟩, hx3⟩; rw [HSG.out] at hx ⊢; obtain ⟨ax3, cx3, dx3, ex3, rfl⟩ := hx.few0; obtain ⟨hq0, hq0'⟩ := (Cx.ext (W := wr) ⟨b0, b0'⟩ hx3).ext ((Ext.refl w3).alloc (.cells #[.slice ax3 0 cx3, .int .i64 0, .slice dx3 0 ex3] 26)); obtain ⟨hq1, hq1'⟩ := (Cx.ext (W := wr) ⟨b1, b1'⟩ hx3).ext ((Ext.refl w3).alloc (.cells #[.slice ax3 0 cx3, .int .i64 0, .slice dx3 0 ex3] 26)); obtain ⟨hq2, hq2'⟩ := (Cx.ext (W := wr) ⟨b2, b2'⟩ hx3).ext ((Ext.refl w3).alloc (.cells #[.slice ax3 0 cx3, .int .i64 0, .slice dx3 0 ex3] 26)); have hr0 := (Cx.ext (W := wr) ⟨r0, r0'⟩ hx3).ext ((Ext.refl w3).alloc (.cells #[.slice ax3 0 cx3, .int .i64 0, .slice dx3 0 ex3] 26)); have hr1 := (Cx.ext (W := wr) ⟨r1, r1'⟩ hx3).ext ((Ext.refl w3).alloc (.cells #[.slice ax3 0 cx3, .int .i64 0, .slice dx3 0 ex3] 26)); have hr2 := (Cx.ext (W := wr) ⟨r2, r2'⟩ hx3).ext ((Ext.refl w3).alloc (.cells #[.slice ax3 0 cx3, .int .i64 0, .slice dx3 0 ex3] 26)); obtain ⟨p0, p0'⟩ := hr0; obtain ⟨p1, p1'⟩ := hr1; obtain ⟨p2, p2'⟩ := hr2; have HX3 := Lib.hid hx3; clear hx hx3))
      have HRES : Hid (runG p fuel s = (s', (n : Int), re)) := by
       have h := HRN.out
       unfold Hid
       rw [h]
       simp
      refine bodyPost_ret (results_cell3 rfl _ _ (w.heap.size + 1) 0 _ _ rfl (box3 ⟨p0, p0'⟩ ⟨p1, p1'⟩ ⟨p2, p2'⟩ _ _ _) rfl rfl (by kernel_rfl)) rfl ?_
      rw [HRES.out]
      exact ⟨⟨_, rfl, ret_state (HST.out.ext (HX3.out.alloc _)) _ _ _⟩, ret_ext ((HEK.out.trans HX3.out).alloc _) _ _ _⟩
end Go.Proofs.YtgahbngbpfilgaaGreat
end
section
set_option maxHeartbeats 1000000
set_option maxRecDepth 100000
namespace Go.Proofs.YtgahbngbpfilgaaGreat
open Go Go.RowKit
def countCode0 : List GOp := [⟨13, 1⟩, ⟨3, 0⟩, ⟨2, 0⟩, ⟨0, 7⟩, ⟨14, 0⟩, ⟨16, 0⟩, ⟨2, 0⟩, ⟨0, 0⟩, ⟨14, 0⟩, ⟨16, 0⟩, ⟨2, 0⟩, ⟨0, 0⟩, ⟨14, 0⟩, ⟨12, 0⟩]
def countCode1 : List GOp := [⟨2, 0⟩, ⟨15, 0⟩, ⟨1, 0⟩, ⟨2, 0⟩, ⟨0, 1⟩, ⟨11, 2⟩, ⟨15, 0⟩, ⟨1, 0⟩, ⟨0, 99⟩, ⟨12, 0⟩, ⟨0, 5⟩, ⟨9, 9⟩]
def countCode2 : List GOp := [⟨2, 0⟩, ⟨2, 1⟩, ⟨4, 0⟩, ⟨12, 0⟩]
def countP : List GFunc := [⟨0, 1, countCode0⟩, ⟨1, 1, countCode1⟩, ⟨2, 2, countCode2⟩]
theorem o_any (k a : Int) (w : World) :
  Calls Tryz.prog 27 #[.int .i64 k, .int .i64 a] w fun e w' => e = .returned (.agg #[.int .i64 k, .int .i64 a]) ∧ Ext w w' := by
 go_enter Tryz.func27, Tryz.ntmps27
 go_wp2
 exact bodyPost_ret (v := .agg #[.int .i64 k, .int .i64 a]) (by simp [results, Tryz.results27, go_sem]) rfl ⟨rfl, (Ext.refl _).alloc _⟩
def CountIs (w w' : World) (v : Value) : Prop := ∃ g c0 c1 c2 : Nat, v = .slice (some ⟨g, 0, none⟩) 3 3 ∧ w.heap.size ≤ c0 ∧ c0 < c1 ∧ c1 < c2 ∧ c2 < g ∧
 w'.heap[c0]? = some (.cells #[.int .i64 13, .int .i64 1, .int .i64 3, .int .i64 0, .int .i64 2, .int .i64 0, .int .i64 0, .int .i64 7, .int .i64 14, .int .i64 0, .int .i64 16, .int .i64 0, .int .i64 2, .int .i64 0, .int .i64 0, .int .i64 0, .int .i64 14, .int .i64 0, .int .i64 16, .int .i64 0, .int .i64 2, .int .i64 0, .int .i64 0, .int .i64 0, .int .i64 14, .int .i64 0, .int .i64 12, .int .i64 0] 59 (0, 0)) ∧
 w'.heap[c1]? = some (.cells #[.int .i64 2, .int .i64 0, .int .i64 15, .int .i64 0, .int .i64 1, .int .i64 0, .int .i64 2, .int .i64 0, .int .i64 0, .int .i64 1, .int .i64 11, .int .i64 2, .int .i64 15, .int .i64 0, .int .i64 1, .int .i64 0, .int .i64 0, .int .i64 99, .int .i64 12, .int .i64 0, .int .i64 0, .int .i64 5, .int .i64 9, .int .i64 9] 59 (0, 0)) ∧
 w'.heap[c2]? = some (.cells #[.int .i64 2, .int .i64 0, .int .i64 2, .int .i64 1, .int .i64 4, .int .i64 0, .int .i64 12, .int .i64 0] 59 (0, 0)) ∧
 w'.heap[g]? = some (.cells #[.int .i64 0, .int .i64 1, .slice (some ⟨c0, 0, none⟩) 14 14, .int .i64 1, .int .i64 1, .slice (some ⟨c1, 0, none⟩) 12 12, .int .i64 2, .int .i64 2, .slice (some ⟨c2, 0, none⟩) 4 4] 63 (0, 0))
theorem count_any (w : World) :
  Calls Tryz.prog 25 #[] w fun e w' => (∃ v, e = .returned v ∧ CountIs w w' v) ∧ Ext w w' := by
 go_enter Tryz.func25, Tryz.ntmps25
 go_wp2_with (first
  | (go_at_call 27; refine (o_any _ _ _).mono ?_; rintro e w1 ⟨rfl, hb⟩))
 go_ret
 refine ⟨⟨_, rfl, ?_⟩, ?_⟩
 ·refine ⟨_, _, _, _, rfl, ?_, ?_, ?_, ?_, ?_, ?_, heap_alloc2_old _ _ _, heap_alloc2_new _ _ _⟩
  ·(repeat (first | exact Nat.le_refl _ | refine Nat.le_trans ?_ (Ext.size (by assumption)) | refine Nat.le_trans ?_ (Ext.size ((Ext.refl _).alloc _))))
  ·show _ + 1 ≤ _
   (repeat (first | (simp; done) | refine Nat.le_trans ?_ (Ext.size (by assumption)) | refine Nat.le_trans ?_ (Ext.size ((Ext.refl _).alloc _))))
  ·show _ + 1 ≤ _
   (repeat (first | (simp; done) | refine Nat.le_trans ?_ (Ext.size (by assumption)) | refine Nat.le_trans ?_ (Ext.size ((Ext.refl _).alloc _))))
  ·omega
  ·refine Ext.heap (((Ext.refl _).alloc _).alloc _) ?_
   (repeat (first | exact heap_alloc_new _ _ | refine Ext.heap (by assumption) ?_ | refine Ext.heap ((Ext.refl _).alloc _) ?_))
  ·refine Ext.heap (((Ext.refl _).alloc _).alloc _) ?_
   (repeat (first | exact heap_alloc_new _ _ | refine Ext.heap (by assumption) ?_ | refine Ext.heap ((Ext.refl _).alloc _) ?_))
 ·((repeat (first | assumption | exact Ext.refl _ | (exact And.left (by assumption)) | refine Ext.alloc ?_ _ | refine Ext.drew ?_ | refine Ext.drewN ?_ _ | refine Ext.setCell ?_ (by simp) _ | refine Ext.setCell ?_ (by simp; omega) _ | refine Ext.trans ?_ (by assumption))); done)
def opCells : List GOp → List Value
 | [] => []
 | x :: l => .int .i64 x.kind :: .int .i64 x.a :: opCells l
theorem opCells_at : ∀ (l : List GOp) (i : Nat) (h : i < l.length), (opCells l)[i * 2]? = some (.int .i64 l[i].kind) ∧ (opCells l)[i * 2 + 1]? = some (.int .i64 l[i].a)
 | [], i, h => absurd h (by simp)
 | x :: l, 0, _ => ⟨rfl, rfl⟩
 | x :: l, i + 1, h => by
  have := opCells_at l i (by simpa using h)
  rw [show (i + 1) * 2 = i * 2 + 2 by omega]
  exact this
theorem ops_of_block {w : World} {S : Nat → Prop} {c : Nat} {cs : Array Value} {t : TypeId} {fr : Nat × Nat} (l : List GOp) (hc : w.heap[c]? = some (.cells cs t fr)) (hl : cs.toList = opCells l)
  (hS : S c) (hI : ∀ x ∈ l, I64 x.kind ∧ I64 x.a) (hlen : l.length * 16 ≤ 140737488355328) : Ops w S (.slice (some ⟨c, 0, none⟩) l.length l.length) l := by
 refine ⟨_, _, rfl, Nat.le_refl _, ⟨hlen, by omega⟩, fun i hi => ⟨c, 0, rfl, ?_⟩⟩
 obtain ⟨h0, h1⟩ := opCells_at l i hi
 have hx := hI _ (List.getElem_mem hi)
 refine ⟨⟨hS, ?_, hx.1⟩, hS, ?_, hx.2⟩
 ·rw [cell_of_row w c _ cs t fr hc, ← Array.getElem?_toList, hl, Nat.zero_add]; exact h0
 ·rw [cell_of_row w c _ cs t fr hc, ← Array.getElem?_toList, hl, Nat.zero_add]; exact h1
theorem ops_small (l : List GOp) (h : ∀ x ∈ l, (-1000 ≤ x.kind ∧ x.kind ≤ 1000) ∧ -1000 ≤ x.a ∧ x.a ≤ 1000) : ∀ x ∈ l, I64 x.kind ∧ I64 x.a := fun x hx =>
 ⟨I64.small (by have := (h x hx).1.1; omega) (by have := (h x hx).1.2; omega), I64.small (by have := (h x hx).2.1; omega) (by have := (h x hx).2.2; omega)⟩
theorem CountIs.funcs {w w' : World} {v : Value} (h : CountIs w w' v) : Funcs w' (fun _ => True) v countP := by
 obtain ⟨g, c0, c1, c2, rfl, _, _, _, _, h0, h1, h2, hg⟩ := h
 have f0 := ops_of_block (S := fun _ => True) countCode0 h0 rfl trivial (ops_small _ (by decide)) (by decide)
 have f1 := ops_of_block (S := fun _ => True) countCode1 h1 rfl trivial (ops_small _ (by decide)) (by decide)
 have f2 := ops_of_block (S := fun _ => True) countCode2 h2 rfl trivial (ops_small _ (by decide)) (by decide)
 have cell := fun j => cell_of_row w' g j _ _ _ hg
 refine ⟨_, _, rfl, Nat.le_refl _, by decide, fun i hi => ⟨g, 0, rfl, ?_⟩⟩
 match i, hi with
 | 0, _ => exact ⟨⟨trivial, cell _, I64.small (by simp [countP]) (by simp [countP])⟩, ⟨trivial, cell _, I64.small (by simp [countP]) (by simp [countP])⟩, _, cell _, f0⟩
 | 1, _ => exact ⟨⟨trivial, cell _, I64.small (by simp [countP]) (by simp [countP])⟩, ⟨trivial, cell _, I64.small (by simp [countP]) (by simp [countP])⟩, _, cell _, f1⟩
 | 2, _ => exact ⟨⟨trivial, cell _, I64.small (by simp [countP]) (by simp [countP])⟩, ⟨trivial, cell _, I64.small (by simp [countP]) (by simp [countP])⟩, _, cell _, f2⟩
end Go.Proofs.YtgahbngbpfilgaaGreat
end
section
set_option maxHeartbeats 4000000
set_option maxRecDepth 100000
namespace Go.Proofs.YtgahbngbpfilgaaGreat
open Go Go.RowKit
def runOfG (p : List GFunc) (s : GState) (fuel : Int) : GState × Int × Int :=
 if ¬ (0 ≤ fuel ∧ fuel ≤ 500) then (⟨[], 0, []⟩, 0, 3) else if stateErr p s ≠ 0 then (⟨[], 0, []⟩, 0, stateErr p s) else runG p fuel.toNat s
theorem runOf_any (p : List GFunc) (v : Value) (S T : Nat → Prop) (s : GState) (vs : Value) (fuel : Int) (w : World) (hp : Funcs w S v p) (hs : StateV w T vs s) (hfit : 0 ≤ fuel → fuel ≤ 500 → stateErr p s = 0 → RunFit p fuel.toNat s) :
  Calls Tryz.prog 14 #[v, vs, .int .i64 fuel] w fun e w' => (∃ x, e = .returned (.tuple #[x, .int .i64 (runOfG p s fuel).2.1, .int .i64 (runOfG p s fuel).2.2]) ∧ StateO w' w.heap.size x (runOfG p s fuel).1) ∧ Ext w w' := by
 have HP := Lib.hid hp
 have HS := Lib.hid hs
 obtain ⟨a, c, b, d, rfl⟩ := hs.few
 obtain ⟨ap, cp, rfl, _, _, _⟩ := hp
 have RA := alloc_keep
 have hs0 : (w.alloc (.cells #[.slice a s.fibers.length c, .int .i64 s.now, .slice b s.out.length d] 26)).heap.size = w.heap.size + 1 := Array.size_push _
 have r0 := Cx.new (w.alloc (.cells #[.slice a s.fibers.length c, .int .i64 s.now, .slice b s.out.length d] 26)) [.slice none 0 0, .int .i64 0, .slice none 0 0] 26 (j := 0) rfl
 have r1 := Cx.new (w.alloc (.cells #[.slice a s.fibers.length c, .int .i64 s.now, .slice b s.out.length d] 26)) [.slice none 0 0, .int .i64 0, .slice none 0 0] 26 (j := 1) rfl
 have r2 := Cx.new (w.alloc (.cells #[.slice a s.fibers.length c, .int .i64 s.now, .slice b s.out.length d] 26)) [.slice none 0 0, .int .i64 0, .slice none 0 0] 26 (j := 2) rfl
 rw [hs0] at r0 r1 r2
 have HR := Lib.hid (⟨r0, r1, r2⟩ : _ ∧ _ ∧ _)
 have HQ := Lib.hid (⟨(Cx.new w [.slice a s.fibers.length c, .int .i64 s.now, .slice b s.out.length d] 26 (j := 0) rfl).ext ((Ext.refl _).alloc (.cells #[.slice none 0 0, .int .i64 0, .slice none 0 0] 26)), (Cx.new w [.slice a s.fibers.length c, .int .i64 s.now, .slice b s.out.length d] 26 (j := 1) rfl).ext ((Ext.refl _).alloc (.cells #[.slice none 0 0, .int .i64 0, .slice none 0 0] 26)), (Cx.new w [.slice a s.fibers.length c, .int .i64 s.now, .slice b s.out.length d] 26 (j := 2) rfl).ext ((Ext.refl _).alloc (.cells #[.slice none 0 0, .int .i64 0, .slice none 0 0] 26))⟩ : _ ∧ _ ∧ _)
 have HE1 : Hid (Ext w ((w.alloc (.cells #[.slice a s.fibers.length c, .int .i64 s.now, .slice b s.out.length d] 26)).alloc (.cells #[.slice none 0 0, .int .i64 0, .slice none 0 0] 26))) := ((Ext.refl w).alloc _).alloc _
 have HS1 : Hid (((w.alloc (.cells #[.slice a s.fibers.length c, .int .i64 s.now, .slice b s.out.length d] 26)).alloc (.cells #[.slice none 0 0, .int .i64 0, .slice none 0 0] 26)).heap.size = w.heap.size + 2) := by unfold Hid; simp
 clear hs0 r0 r1 r2
 by_cases hfu : 0 ≤ fuel ∧ fuel ≤ 500
 ·have HW : Hid (decide (0 ≤ fuel ∧ fuel ≤ 500) = true) := decide_eq_true hfu
  obtain ⟨fn, hfn⟩ : ∃ n : Nat, fuel = n := ⟨fuel.toNat, by omega⟩
  subst hfn
  by_cases hz : stateErr p s = 0
  ·have HG : Hid (runOfG p s fn = runG p fn s) := by unfold Hid runOfG; rw [if_neg (fun h => h hfu), if_neg (fun h => h hz), Int.toNat_natCast]
   have HFIT : Hid (RunFit p fn s) := by have := hfit hfu.1 hfu.2 hz; rwa [Int.toNat_natCast] at this
   have HZ := Lib.hid hz
   clear hz hfit
   go_enter Tryz.func14, Tryz.ntmps14
   go_wp2_with (first
    | (go_at_call 21; (with_reducible refine (within_any _ _ _ _).mono ?_); rintro e w4 ⟨rfl, rfl⟩; rw [HW.out])
    | (go_at_call 5; (with_reducible refine (stateError_any p _ _ _ s _ _ (Funcs.stays (Ext.stays (by ((repeat (first | assumption | exact Ext.refl _ | (exact And.left (by assumption)) | refine Ext.alloc ?_ _ | refine Ext.drew ?_ | refine Ext.drewN ?_ _ | refine Ext.setCell ?_ (by simp) _ | refine Ext.setCell ?_ (by simp; omega) _ | refine Ext.trans ?_ (by assumption))); done))) HP.out) (StateV.stays (Ext.stays (by ((repeat (first | assumption | exact Ext.refl _ | (exact And.left (by assumption)) | refine Ext.alloc ?_ _ | refine Ext.drew ?_ | refine Ext.drewN ?_ _ | refine Ext.setCell ?_ (by simp) _ | refine Ext.setCell ?_ (by simp; omega) _ | refine Ext.trans ?_ (by assumption))); done))) HS.out)).mono ?_); rintro e w5 ⟨rfl, hx5⟩; rw [HZ.out]; obtain ⟨q0, q0'⟩ := (HQ.out).1.ext hx5; obtain ⟨q1, q1'⟩ := (HQ.out).2.1.ext hx5; obtain ⟨q2, q2'⟩ := (HQ.out).2.2.ext hx5; have HX5 := Lib.hid hx5; clear hx5)
    | (go_at_call 36; (with_reducible refine (run_any p _ _ _ s _ fn _ (Funcs.stays (Ext.stays (HE1.out.trans HX5.out)) HP.out) (StateV.stays (Ext.stays (HE1.out.trans HX5.out)) HS.out) HFIT.out (by omega)).mono ?_); rintro e w6 ⟨⟨x, rfl, hx⟩, hx6⟩; have HXS := Lib.hid hx; obtain ⟨ax, cx, bx, dx, rfl⟩ := hx.few; obtain ⟨z0, z0'⟩ := (HR.out).1.ext (HX5.out.trans hx6); obtain ⟨z1, z1'⟩ := (HR.out).2.1.ext (HX5.out.trans hx6); obtain ⟨z2, z2'⟩ := (HR.out).2.2.ext (HX5.out.trans hx6); have HX6 := Lib.hid hx6; clear hx hx6))
   refine bodyPost_ret (results_cell3 rfl _ _ (w.heap.size + 1) 0 _ _ rfl (box3 ⟨z0, z0'⟩ ⟨z1, z1'⟩ ⟨z2, z2'⟩ _ _ _) rfl rfl (by kernel_rfl)) rfl ?_
   rw [HG.out]
   exact ⟨⟨_, rfl, ret_state (HXS.out.mono (by have h2 := (HX5.out).size; have h3 := HS1.out; omega)) _ _ _⟩, ret_ext ((HE1.out.trans HX5.out).trans HX6.out) _ _ _⟩
  ·have HG : Hid (runOfG p s fn = (⟨[], 0, []⟩, 0, stateErr p s)) := by unfold Hid runOfG; rw [if_neg (fun h => h hfu), if_pos hz]
   have TE : (stateErr p s != 0) = true := bne_iff_ne.2 hz
   obtain ⟨re, hre⟩ : ∃ re, stateErr p s = re := ⟨_, rfl⟩
   rw [hre] at TE HG
   have HRE := Lib.hid hre
   clear hz hfit hre
   go_enter Tryz.func14, Tryz.ntmps14
   go_wp2_with (first
    | (go_at_call 21; (with_reducible refine (within_any _ _ _ _).mono ?_); rintro e w4 ⟨rfl, rfl⟩; rw [HW.out])
    | (go_at_call 5; (with_reducible refine (stateError_any p _ _ _ s _ _ (Funcs.stays (Ext.stays (by ((repeat (first | assumption | exact Ext.refl _ | (exact And.left (by assumption)) | refine Ext.alloc ?_ _ | refine Ext.drew ?_ | refine Ext.drewN ?_ _ | refine Ext.setCell ?_ (by simp) _ | refine Ext.setCell ?_ (by simp; omega) _ | refine Ext.trans ?_ (by assumption))); done))) HP.out) (StateV.stays (Ext.stays (by ((repeat (first | assumption | exact Ext.refl _ | (exact And.left (by assumption)) | refine Ext.alloc ?_ _ | refine Ext.drew ?_ | refine Ext.drewN ?_ _ | refine Ext.setCell ?_ (by simp) _ | refine Ext.setCell ?_ (by simp; omega) _ | refine Ext.trans ?_ (by assumption))); done))) HS.out)).mono ?_); rintro e w5 ⟨rfl, hx5⟩; rw [HRE.out]; obtain ⟨z0, z0'⟩ := (HR.out).1.ext hx5; obtain ⟨z1, z1'⟩ := (HR.out).2.1.ext hx5; obtain ⟨z2, z2'⟩ := (HR.out).2.2.ext hx5; have HX5 := Lib.hid hx5; clear hx5))
   refine bodyPost_ret (results_cell3 rfl _ _ (w.heap.size + 1) 0 _ _ rfl (box3 ⟨z0, z0'⟩ ⟨z1, z1'⟩ ⟨z2, z2'⟩ _ _ _) rfl rfl (by kernel_rfl)) rfl ?_
   rw [HG.out]
   exact ⟨⟨_, rfl, stateO_nil _ _⟩, ret_ext (HE1.out.trans HX5.out) _ _ _⟩
 ·have HW : Hid (decide (0 ≤ fuel ∧ fuel ≤ 500) = false) := decide_eq_false hfu
  have HG : Hid (runOfG p s fuel = (⟨[], 0, []⟩, 0, 3)) := by unfold Hid runOfG; rw [if_pos hfu]
  obtain ⟨⟨z0, z0'⟩, ⟨z1, z1'⟩, ⟨z2, z2'⟩⟩ := HR.out
  clear hfu hfit
  go_enter Tryz.func14, Tryz.ntmps14
  go_wp2_with (first
   | (go_at_call 21; (with_reducible refine (within_any _ _ _ _).mono ?_); rintro e w4 ⟨rfl, rfl⟩; rw [HW.out]))
  refine bodyPost_ret (results_cell3 rfl _ _ (w.heap.size + 1) 0 [.slice none 0 0, .int .i64 0, .slice none 0 0] _ rfl (range3 z0 z1 z2) rfl rfl (by kernel_rfl)) rfl ?_
  rw [HG.out]
  exact ⟨⟨_, rfl, stateO_nil _ _⟩, HE1.out⟩
def afterG (n : Int) : GState := (runOfG countP (beginG countP) n).1
theorem after_any (v : Value) (S : Nat → Prop) (n : Int) (w : World) (hv : Funcs w S v countP) (hn : RunFit countP n.toNat (beginG countP)) (hz : progErr countP = 0) :
  Calls Tryz.prog 26 #[v, .int .i64 n] w fun e w' => (∃ x, e = .returned x ∧ StateO w' w.heap.size x (afterG n)) ∧ Ext w w' := by
 have HV := Lib.hid hv
 obtain ⟨ap, cp, rfl, _, _, _⟩ := hv
 have RA := alloc_keep
 have HR := Lib.hid (⟨Cx.new w [.slice none 0 0, .int .i64 0, .slice none 0 0] 26 (j := 0) rfl, Cx.new w [.slice none 0 0, .int .i64 0, .slice none 0 0] 26 (j := 1) rfl, Cx.new w [.slice none 0 0, .int .i64 0, .slice none 0 0] 26 (j := 2) rfl⟩ : _ ∧ _ ∧ _)
 have HZ := Lib.hid hz
 have HN := Lib.hid hn
 clear hz hn
 go_enter Tryz.func26, Tryz.ntmps26
 go_wp2_with (first
  | (go_at_call 51; (with_reducible refine (beginOf_any countP _ _ _ (Funcs.stays (Ext.stays (by ((repeat (first | assumption | exact Ext.refl _ | (exact And.left (by assumption)) | refine Ext.alloc ?_ _ | refine Ext.drew ?_ | refine Ext.drewN ?_ _ | refine Ext.setCell ?_ (by simp) _ | refine Ext.setCell ?_ (by simp; omega) _ | refine Ext.trans ?_ (by assumption))); done))) HV.out) HZ.out).mono ?_); rintro e w2 ⟨⟨x, rfl, hx⟩, hx2⟩; have HXS := Lib.hid hx; have HX2 := Lib.hid (((Ext.refl w).alloc (.cells #[.slice none 0 0, .int .i64 0, .slice none 0 0] 26)).trans hx2); have HXX2 := Lib.hid hx2; clear hx hx2)
  | (go_at_call 14; (with_reducible refine (runOf_any countP _ _ _ (beginG countP) _ n _ (Funcs.stays (Ext.stays HX2.out) HV.out) HXS.out (fun _ _ _ => HN.out)).mono ?_); rintro e w3 ⟨⟨y, rfl, hy⟩, hx3⟩; have HYS := Lib.hid hy; obtain ⟨ax, cx, bx, dx, rfl⟩ := hy.few; obtain ⟨z0, z0'⟩ := (HR.out).1.ext (HXX2.out.trans (hx3.alloc (.cells #[.slice ax (runOfG countP (beginG countP) n).1.fibers.length cx, .int .i64 (runOfG countP (beginG countP) n).1.now, .slice bx (runOfG countP (beginG countP) n).1.out.length dx] 26))); obtain ⟨z1, z1'⟩ := (HR.out).2.1.ext (HXX2.out.trans (hx3.alloc (.cells #[.slice ax (runOfG countP (beginG countP) n).1.fibers.length cx, .int .i64 (runOfG countP (beginG countP) n).1.now, .slice bx (runOfG countP (beginG countP) n).1.out.length dx] 26))); obtain ⟨z2, z2'⟩ := (HR.out).2.2.ext (HXX2.out.trans (hx3.alloc (.cells #[.slice ax (runOfG countP (beginG countP) n).1.fibers.length cx, .int .i64 (runOfG countP (beginG countP) n).1.now, .slice bx (runOfG countP (beginG countP) n).1.out.length dx] 26))); have HX3 := Lib.hid hx3; clear hy hx3))
 refine bodyPost_ret (results_cell_mid rfl _ _ w.heap.size 0 _ _ rfl (box3 ⟨z0, z0'⟩ ⟨z1, z1'⟩ ⟨z2, z2'⟩ _ _ _) rfl rfl (by kernel_rfl)) rfl ?_
 have h12 : w.heap.size + 1 ≤ w2.heap.size := by have h := (HXX2.out).size; simpa using h
 refine ⟨⟨_, rfl, ((HYS.out.ext ((Ext.refl w3).alloc _)).chg (chg3 _ w.heap.size _ _ _) (fun g hg e => by have h2 : g = w.heap.size := e; omega)).mono (by omega)⟩, ((((HX2.out.trans HX3.out).alloc _).setCell (p := ⟨w.heap.size, 0, none⟩) (Nat.le_refl _) _).setCell (p := ⟨w.heap.size, 1, none⟩) (Nat.le_refl _) _).setCell (p := ⟨w.heap.size, 2, none⟩) (Nat.le_refl _) _⟩
theorem count_right : progErr countP = 0 := by decide
theorem fit_6 : RunFit countP 6 (beginG countP) := by decide
end Go.Proofs.YtgahbngbpfilgaaGreat
end
