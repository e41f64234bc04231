/- Merged texts: contracts and plain facts, one part behind another; each part begins with what it says. -/
import Derived.Test.YtfajkebkhdcapaaGUAE
import Derived.Test.YtfajkebkhdcapaaGUAT
import Derived.Test.YtfajkebkhdcapaaGUAX
import Derived.Test.YtfajkebkhdcapaaGUAY
import Derived.Recover
import Derived.Tactics2
section
/- Contract of the judge's look. -/
set_option maxHeartbeats 4000000
set_option maxRecDepth 100000
set_option linter.unusedSimpArgs false
namespace Go.Proofs.Ytfajkebkhdcapaa
open Go Go.RowKit

/-- A row of the heights so far: a slice of slices that the call makes. -/
structure HRow (w : World) (base : Nat) (v : Value) (hs : List (Value × List Int)) : Prop where
  row : RowAt w base 1 v hs.length (hs.map Prod.fst)
  ints : ∀ y ∈ hs, (∃ a n c, y.1 = .slice a n c) ∧ Ints w (fun b => base ≤ b ∧ rowBlock v ≠ some b) y.1 y.2
theorem HRow.nil (w : World) (base : Nat) : HRow w base (.slice none 0 0) [] := ⟨RowAt.nil _ _ _ _, by simp⟩
theorem HRow.chg {M : Nat → Prop} {w w' : World} {base : Nat} {v : Value} {hs : List (Value × List Int)} (h : HRow w base v hs) (hc : Chg M w w') (hM : ∀ b, base ≤ b → ¬ M b) : HRow w' base v hs :=
  ⟨h.row.chg hc (fun g e => hM g (h.row.le g e)) (by decide), fun y hy => ⟨(h.ints y hy).1, Ints.stays (hc.stays (fun b hb => hM b hb.1)) (h.ints y hy).2⟩⟩
theorem HRow.grow {w w' : World} {base : Nat} {v v' : Value} {hs : List (Value × List Int)} {y : Value × List Int} (h : HRow w base v hs) (hn : NewRow w w' base 1 v v' (hs.length + 1) (hs.map Prod.fst ++ [y.1]))
    (hy : (∃ a n c, y.1 = .slice a n c) ∧ Ints w (fun b => base ≤ b ∧ rowBlock v ≠ some b) y.1 y.2) : HRow w' base v' (hs ++ [y]) := by
  obtain ⟨hr, hc, hb⟩ := hn
  refine ⟨?_, fun z hz => ?_⟩
  · rw [List.length_append, List.length_singleton, List.map_append]
    exact hr
  · have hz' : (∃ a n c, z.1 = .slice a n c) ∧ Ints w (fun b => base ≤ b ∧ rowBlock v ≠ some b) z.1 z.2 := by
      rcases List.mem_append.1 hz with h1 | h1
      · exact h.ints z h1
      · rw [List.mem_singleton] at h1; subst h1; exact hy
    refine ⟨hz'.1, Ints.stays (fun b o u hS hu => ⟨hc.cell hS.2 hu, hS.1, ?_⟩) hz'.2⟩
    rcases hb with e | e
    · rw [e]; exact hS.2
    · intro e2
      have := e b e2
      have := lt_of_cell hu
      omega
theorem HRow.htsL {w : World} {base : Nat} {v : Value} {hs : List (Value × List Int)} (h : HRow w base v hs) (hb : hs.length ≤ 1000000) : HtsL w v (hs.map Prod.snd) := by
  have h1 := h.row
  have hr : RowAt w base 1 v hs.length (hs.flatMap (fun y => [y.1])) := by
    have e : hs.flatMap (fun y => [y.1]) = hs.map Prod.fst := by
      clear h hb h1
      induction hs with
      | nil => rfl
      | cons y l ih => rw [List.flatMap_cons, ih]; rfl
    rw [e]; exact h1
  have : Sl (fun b o y => ∃ u, w.cell? ⟨b, o, none⟩ = some u ∧ Ints w (fun _ => True) u (Prod.snd y)) 1 24 v hs :=
    Sl.of_row (fun y => [y.1]) hr (fun _ => rfl) (by omega) fun b o y _ _ hy hc => ⟨y.1, hc 0 _ rfl, Ints.stays (Stays.widen (fun _ _ => trivial)) (h.ints y hy).2⟩
  obtain ⟨a, cap, e, q1, q2, q3⟩ := this
  refine ⟨a, cap, by rw [List.length_map]; exact e, by rw [List.length_map]; exact q1, by rw [List.length_map]; exact q2, fun i hi => ?_⟩
  obtain ⟨b, o, e2, h4⟩ := q3 i (by rwa [List.length_map] at hi)
  exact ⟨b, o, e2, by rw [List.getElem_map]; exact h4⟩

/-- The judge behind the line. -/
structure LK (w3 wr : World) (jb : Nat) (p : List GFunc) (vf vp vl : Value) (now : Int) (k : Nat) : Prop where
  chg : Chg (· = jb) w3 wr
  c0 : Cx wr jb 0 vf
  c1 : Cx wr jb 1 (.int .i64 now)
  c3 : Cx wr jb 3 vp
  c5 : Cx wr jb 5 vl
  hts : ∃ v hs, Cx wr jb 4 v ∧ HRow wr w3.heap.size v hs ∧ hs.map Prod.snd = (List.range k).map (fun i : Nat => hgt p i)

theorem LK.grow {w3 wr W7 W8 : World} {jb : Nat} {p : List GFunc} {vf vp vl v v1 : Value} {now : Int} {k : Nat} {hs : List (Value × List Int)} {y : Value × List Int} (h : LK w3 wr jb p vf vp vl now k) (hj : jb < w3.heap.size) (he : Ext wr W7)
    (hc : Cx wr jb 4 v) (hr : HRow wr w3.heap.size v hs) (hm : hs.map Prod.snd = (List.range k).map (fun i : Nat => hgt p i)) (hn : NewRow W7 W8 w3.heap.size 1 v v1 (hs.length + 1) (hs.map Prod.fst ++ [y.1]))
    (hy : (∃ a n c, y.1 = .slice a n c) ∧ Ints W7 (fun b => w3.heap.size ≤ b ∧ rowBlock v ≠ some b) y.1 y.2) (hy2 : y.2 = hgt p k) :
    LK w3 (W8.setCell ⟨jb, 4, none⟩ v1) jb p vf vp vl now (k + 1) ∧ Cx W8 jb 4 v := by
  have hM : ∀ q, rowBlock v = some q → w3.heap.size ≤ q := hr.row.le
  have hch := hn.2.1
  have k2 : Cx W8 jb 4 v := (hc.ext he).chg hch (fun e => by have := hM _ e; omega)
  have go : ∀ j u, j ≠ 4 → Cx wr jb j u → Cx (W8.setCell ⟨jb, 4, none⟩ v1) jb j u := fun j u hj4 hu => ((hu.ext he).chg hch (fun e => by have := hM _ e; omega)).other (.inr hj4) _
  refine ⟨⟨?_, go _ _ (by decide) h.c0, go _ _ (by decide) h.c1, go _ _ (by decide) h.c3, go _ _ (by decide) h.c5, v1, hs ++ [y], k2.set v1, ?_, ?_⟩, k2⟩
  · exact ((h.chg.trans (Chg.of_ext he)).trans' hch (fun q hq e => by have := hM _ e; omega)).setCell (p := ⟨jb, 4, none⟩) (.inl rfl) _
  · have h1 : HRow W7 w3.heap.size v hs := hr.chg (M := fun _ => False) (Chg.of_ext he) (fun _ _ h => h)
    exact (h1.grow hn hy).chg (chg_one W8 jb 4 v1) (fun b hb e => by have e2 : b = jb := e; omega)
  · rw [List.map_append, hm, List.range_succ, List.map_append, List.map_singleton, List.map_singleton, hy2]

theorem LK.judge {w3 wr : World} {jb : Nat} {p : List GFunc} {s : GState} {line : List Int} {af ap al : Option Addr} {cf cp cl : Nat} {S S2 : Nat → Prop} (h : LK w3 wr jb p (.slice af s.fibers.length cf) (.slice ap p.length cp) (.slice al line.length cl) s.now p.length) (hl : p.length ≤ 1000)
    (hf : Fibers wr S (.slice af s.fibers.length cf) s.fibers) (hp : Funcs wr S (.slice ap p.length cp) p) (hln : Ints wr S2 (.slice al line.length cl) line) : Judge wr jb p s line := by
  obtain ⟨v, hs, hc, hr, hm⟩ := h.hts
  have hlen : hs.length = p.length := by have := congrArg List.length hm; simpa using this
  have hH := hr.htsL (by omega)
  rw [hm] at hH
  obtain ⟨a, c, e, q1, q2, q3⟩ := hH
  have e2 : v = .slice a p.length c := by rw [e]; simp
  have hH2 := hr.htsL (by omega)
  rw [hm, e2] at hH2
  rw [e2] at hc
  have W : ∀ S', Stays S' (fun _ => True) wr wr := fun _ => Stays.widen (fun _ _ => trivial)
  exact ⟨⟨_, _, h.c0.1, Fibers.stays (W _) hf⟩, h.c1.1, ⟨_, _, h.c3.1, Funcs.stays (W _) hp⟩, ⟨_, _, hc.1, hH2⟩, ⟨_, _, h.c5.1, Ints.stays (W _) hln⟩⟩

end Go.Proofs.Ytfajkebkhdcapaa
end
section
/- Contract of state.Check: what look throws is caught. -/
set_option maxHeartbeats 4000000
set_option maxRecDepth 100000
set_option linter.unusedSimpArgs false
namespace Go.Proofs.Ytfajkebkhdcapaa
open Go Go.RowKit

end Go.Proofs.Ytfajkebkhdcapaa
end
section
/- Contracts of step.Do and run.On, Run, All. -/
set_option maxHeartbeats 4000000
set_option maxRecDepth 100000
namespace Go.Proofs.Ytfajkebkhdcapaa
open Go Go.RowKit

theorem on_any (p : List GFunc) (v : Value) (S T : Nat → Prop) (s : GState) (l : List Int) (vs : Value) (fuel : Nat) (w : World) (hp : Funcs w S v p) (hs : StateV w T vs s) (hok : Ok p s l) (hfu : fuel ≤ 1000000) :
    Calls Try.prog 32 #[v, vs, .int .i64 fuel] w fun e w' => (∃ x, e = .returned (.tuple #[x, .int .i64 (runG p fuel s).2.1, .int .i64 (runG p fuel s).2.2]) ∧ StateO w' w.heap.size x (runG p fuel s).1) ∧ Ext w w' := by
  have HP := Lib.hid hp
  have HS := Lib.hid hs
  have HFEW := Lib.hid hok.fewS
  have HOK := Lib.hid hok
  obtain ⟨a, c, b, d, rfl⟩ := hs.few
  obtain ⟨ap, cp, rfl, _, _, _⟩ := hp
  have RA := alloc_keep
  have hs0 : (w.alloc (.cells #[.slice a s.fibers.length c, .int .i64 s.now, .slice b s.out.length d] 35)).heap.size = w.heap.size + 1 := Array.size_push _
  have r0 := Cx.new (w.alloc (.cells #[.slice a s.fibers.length c, .int .i64 s.now, .slice b s.out.length d] 35)) [.slice none 0 0, .int .i64 0, .slice none 0 0] 35 (j := 0) rfl
  have r1 := Cx.new (w.alloc (.cells #[.slice a s.fibers.length c, .int .i64 s.now, .slice b s.out.length d] 35)) [.slice none 0 0, .int .i64 0, .slice none 0 0] 35 (j := 1) rfl
  have r2 := Cx.new (w.alloc (.cells #[.slice a s.fibers.length c, .int .i64 s.now, .slice b s.out.length d] 35)) [.slice none 0 0, .int .i64 0, .slice none 0 0] 35 (j := 2) rfl
  rw [hs0] at r0 r1 r2
  have HR := Lib.hid (⟨r0, r1, r2⟩ : _ ∧ _ ∧ _)
  have HQ := Lib.hid (⟨(Cx.new w [.slice a s.fibers.length c, .int .i64 s.now, .slice b s.out.length d] 35 (j := 0) rfl).ext ((Ext.refl _).alloc (.cells #[.slice none 0 0, .int .i64 0, .slice none 0 0] 35)), (Cx.new w [.slice a s.fibers.length c, .int .i64 s.now, .slice b s.out.length d] 35 (j := 1) rfl).ext ((Ext.refl _).alloc (.cells #[.slice none 0 0, .int .i64 0, .slice none 0 0] 35)), (Cx.new w [.slice a s.fibers.length c, .int .i64 s.now, .slice b s.out.length d] 35 (j := 2) rfl).ext ((Ext.refl _).alloc (.cells #[.slice none 0 0, .int .i64 0, .slice none 0 0] 35))⟩ : _ ∧ _ ∧ _)
  have HE1 : Hid (Ext w ((w.alloc (.cells #[.slice a s.fibers.length c, .int .i64 s.now, .slice b s.out.length d] 35)).alloc (.cells #[.slice none 0 0, .int .i64 0, .slice none 0 0] 35))) := ((Ext.refl w).alloc _).alloc _
  have HS1 : Hid (((w.alloc (.cells #[.slice a s.fibers.length c, .int .i64 s.now, .slice b s.out.length d] 35)).alloc (.cells #[.slice none 0 0, .int .i64 0, .slice none 0 0] 35)).heap.size = w.heap.size + 2) := by unfold Hid; simp
  clear hs0 r0 r1 r2 hok
  go_enter Try.func32, Try.ntmps32
  go_upto_region 1 with fail
  go_cut [12] (fun _ wr => Boxed wr (w.heap.size + 2) w.heap.size s ∧ Ext w wr ∧ Cx wr (w.heap.size + 1) 0 (.slice none 0 0) ∧ Cx wr (w.heap.size + 1) 1 (.int .i64 0) ∧ Cx wr (w.heap.size + 1) 2 (.slice none 0 0))
  case first =>
    go_wp2_with (first
      | (go_at_call 46; (with_reducible refine (own_any s _ T _ (StateV.stays (Ext.stays (by ((repeat (first | assumption | exact Ext.refl _ | (exact And.left (by assumption)) | refine Ext.alloc ?_ _ | refine Ext.drew ?_ | refine Ext.drewN ?_ _ | refine Ext.setCell ?_ (by simp) _ | refine Ext.setCell ?_ (by simp; omega) _ | refine Ext.trans ?_ (by assumption))); done))) HS.out) HFEW.out).mono ?_); rintro e w2 ⟨⟨P, rfl, hO, hg⟩, hx2⟩; rw [HS1.out] at hO; obtain ⟨q0, q0'⟩ := (HQ.out).1.ext hx2; obtain ⟨q1, q1'⟩ := (HQ.out).2.1.ext hx2; obtain ⟨q2, q2'⟩ := (HQ.out).2.2.ext hx2; obtain ⟨av, cv, ev, _, _⟩ := hO.row.shape; obtain ⟨ao, co, eo, _, _⟩ := hO.out.shape; have hst : StateO w2 (w.heap.size + 2) _ _ := ⟨P, rfl, hO, hg⟩; rw [ev, eo] at hst ⊢; have HST := Lib.hid hst; have HX2 := Lib.hid hx2; clear hO hg hx2 ev eo hst))
    go_meet
    have hr := HR.out
    refine ⟨Boxed.store ⟨q0, q0'⟩ ⟨q1, q1'⟩ ⟨q2, q2'⟩ HST.out (by omega), (((HE1.out.trans HX2.out).setCell (p := ⟨w.heap.size, 0, none⟩) (Nat.le_refl _) _).setCell (p := ⟨w.heap.size, 1, none⟩) (Nat.le_refl _) _).setCell (p := ⟨w.heap.size, 2, none⟩) (Nat.le_refl _) _, ?_, ?_, ?_⟩
    · exact (hr.1.ext HX2.out).chg (chg3 w2 w.heap.size _ _ _) (by omega)
    · exact (hr.2.1.ext HX2.out).chg (chg3 w2 w.heap.size _ _ _) (by omega)
    · exact (hr.2.2.ext HX2.out).chg (chg3 w2 w.heap.size _ _ _) (by omega)
  case rest =>
    rename World => w2
    obtain ⟨hB2, hE2, hR2⟩ := hcut
    have HB2 := Lib.hid hB2
    have HE2 := Lib.hid hE2
    have HR2 := Lib.hid hR2
    clear hB2 hE2 hR2 HR HQ HE1 HS1 HS HFEW
    go_wp2_with fail
    go_loopw [9] (fun q9 wr => ∃ (n k : Nat) (s' : GState) (l' : List Int), n + k = fuel ∧ q9 = .int .i64 n ∧ Ok p s' l' ∧ runG p fuel s = ((runG p k s').1, (runG p k s').2.1 + n, (runG p k s').2.2) ∧
        Boxed wr (w.heap.size + 2) w.heap.size s' ∧ Ext w wr ∧ Cx wr (w.heap.size + 1) 0 (.slice none 0 0) ∧ Cx wr (w.heap.size + 1) 1 (.int .i64 0) ∧ Cx wr (w.heap.size + 1) 2 (.slice none 0 0)) (fun q _ => fuel - (intOf q).toNat)
    case atStart => exact ⟨0, fuel, s, l, Nat.zero_add _, rfl, HOK.out, by simp, HB2.out, HE2.out, HR2.out⟩
    case round =>
      obtain ⟨n, k, s', l', hnk, rfl, hok, hrun, hbx, hE, hR⟩ := hrel
      have HOKK := Lib.hid hok
      have HRUN := Lib.hid hrun
      have HEK := Lib.hid hE
      have HRK := Lib.hid hR
      have HBXK := Lib.hid hbx
      obtain ⟨ax, cx, dx, ex, ⟨b0, b0'⟩, ⟨b1, b1'⟩, ⟨b2, b2'⟩, hst⟩ := hbx.ex
      have HST := Lib.hid hst
      obtain ⟨⟨r0, r0'⟩, ⟨r1, r1'⟩, ⟨r2, r2'⟩⟩ := hR
      clear hok hrun hbx hE hst
      rename World => wr
      by_cases hk : k = 0
      · subst hk
        have TF : decide ((n : Int) < (fuel : Int)) = false := decide_eq_false (by omega)
        have HRES : Hid (runG p fuel s = (s', (n : Int), 0)) := by unfold Hid; rw [HRUN.out, runG_zero]; simp
        go_wp2_with fail
        refine bodyPost_ret (results_cell3 rfl _ _ (w.heap.size + 1) 0 _ _ rfl (box3 ⟨r0, r0'⟩ ⟨r1, r1'⟩ ⟨r2, r2'⟩ _ _ _) rfl rfl (by kernel_rfl)) rfl ?_
        rw [HRES.out]
        exact ⟨⟨_, by rfl, ret_state HST.out _ _ _⟩, ret_ext HEK.out _ _ _⟩
      · obtain ⟨k, rfl⟩ : ∃ j, k = j + 1 := ⟨k - 1, by omega⟩
        have TF : decide ((n : Int) < (fuel : Int)) = true := decide_eq_true (by omega)
        by_cases hneg : s'.now < 0
        · have TN : decide ((0 : Int) ≤ s'.now) = false := decide_eq_false (by omega)
          have HRES : Hid (runG p fuel s = (s', (n : Int), 0)) := by unfold Hid; rw [HRUN.out, runG_done p s' _ hneg]; simp
          go_wp2_with fail
          refine bodyPost_ret (results_cell3 rfl _ _ (w.heap.size + 1) 0 _ _ rfl (box3 ⟨r0, r0'⟩ ⟨r1, r1'⟩ ⟨r2, r2'⟩ _ _ _) rfl rfl (by kernel_rfl)) rfl ?_
          rw [HRES.out]
          exact ⟨⟨_, by rfl, ret_state HST.out _ _ _⟩, ret_ext HEK.out _ _ _⟩
        · have TN : decide ((0 : Int) ≤ s'.now) = true := decide_eq_true (by omega)
          have HFEWK := Lib.hid HOKK.out.fewS
          have HIMP := Lib.hid (ok_step HOKK.out)
          have HNEG := Lib.hid hneg
          clear hk
          by_cases he : (doneG p s').1 = 0
          · have hsg : stepG p s' = (0, (doneG p s').2) := by unfold stepG; rw [if_neg hneg, if_pos he]
            have hnx : ∃ l9, Ok p (doneG p s').2 l9 := by
              rcases (step_right HOKK.out (by omega)).2 with ⟨_, h⟩ | h
              · exact h
              · omega
            have hrn := HRUN.out
            rw [runG_step p s' k hneg he] at hrn
            obtain ⟨t, ht⟩ : ∃ t, (doneG p s').2 = t := ⟨_, rfl⟩
            rw [ht] at hsg hnx hrn
            obtain ⟨l9, hnx⟩ := hnx
            have HSG := Lib.hid hsg
            have HNX := Lib.hid hnx
            have HRN := Lib.hid hrn
            clear hsg hnx hrn ht he hneg
            have KN : IntKind.i64.wrap ((n : Int) + 1) = (n : Int) + 1 := IntWalk.i64_in _ (by omega)
            go_wp2_with (first
              | (go_at_call 37; (with_reducible refine (stepTurn_any p _ S _ s' _ _ (Funcs.stays (Ext.stays HEK.out) HP.out) HST.out.state HFEWK.out HIMP.out).mono ?_); rintro e w3 ⟨⟨x, rfl, hx⟩, hx3⟩; rw [HSG.out] at hx ⊢; obtain ⟨ax3, cx3, dx3, ex3, rfl⟩ := hx.few; obtain ⟨hq0, hq0'⟩ := (Cx.ext (W := wr) ⟨b0, b0'⟩ hx3).ext ((Ext.refl w3).alloc (.cells #[.slice ax3 t.fibers.length cx3, .int .i64 t.now, .slice dx3 t.out.length ex3] 35)); obtain ⟨hq1, hq1'⟩ := (Cx.ext (W := wr) ⟨b1, b1'⟩ hx3).ext ((Ext.refl w3).alloc (.cells #[.slice ax3 t.fibers.length cx3, .int .i64 t.now, .slice dx3 t.out.length ex3] 35)); obtain ⟨hq2, hq2'⟩ := (Cx.ext (W := wr) ⟨b2, b2'⟩ hx3).ext ((Ext.refl w3).alloc (.cells #[.slice ax3 t.fibers.length cx3, .int .i64 t.now, .slice dx3 t.out.length ex3] 35)); have hr0 := (Cx.ext (W := wr) ⟨r0, r0'⟩ hx3).ext ((Ext.refl w3).alloc (.cells #[.slice ax3 t.fibers.length cx3, .int .i64 t.now, .slice dx3 t.out.length ex3] 35)); have hr1 := (Cx.ext (W := wr) ⟨r1, r1'⟩ hx3).ext ((Ext.refl w3).alloc (.cells #[.slice ax3 t.fibers.length cx3, .int .i64 t.now, .slice dx3 t.out.length ex3] 35)); have hr2 := (Cx.ext (W := wr) ⟨r2, r2'⟩ hx3).ext ((Ext.refl w3).alloc (.cells #[.slice ax3 t.fibers.length cx3, .int .i64 t.now, .slice dx3 t.out.length ex3] 35)); have HX3 := Lib.hid hx3; have HXS := Lib.hid hx; have HR3 := Lib.hid (⟨hr0, hr1, hr2⟩ : _ ∧ _ ∧ _); clear hx hx3 hr0 hr1 hr2))
            have hrs : w.heap.size + 2 ≤ wr.heap.size := by have := Cx.lt (W := wr) ⟨r0, r0'⟩; omega
            go_roundw
            case rel =>
              refine ⟨n + 1, k, t, l9, by omega, by go_num, HNX.out, by rw [HRN.out]; simp; omega, Boxed.store (w := w3.alloc (.cells #[.slice ax3 t.fibers.length cx3, .int .i64 t.now, .slice dx3 t.out.length ex3] 35)) (B := w.heap.size + 2) ⟨hq0, hq0'⟩ ⟨hq1, hq1'⟩ ⟨hq2, hq2'⟩ ((HXS.out.ext ((Ext.refl _).alloc _)).mono hrs) (by omega), ?_, ?_, ?_, ?_⟩
              · exact ((((HEK.out.trans HX3.out).alloc _).setCell (p := ⟨w.heap.size, 0, none⟩) (Nat.le_refl _) _).setCell (p := ⟨w.heap.size, 1, none⟩) (Nat.le_refl _) _).setCell (p := ⟨w.heap.size, 2, none⟩) (Nat.le_refl _) _
              · exact (HR3.out).1.chg (chg3 _ w.heap.size _ _ _) (by omega)
              · exact (HR3.out).2.1.chg (chg3 _ w.heap.size _ _ _) (by omega)
              · exact (HR3.out).2.2.chg (chg3 _ w.heap.size _ _ _) (by omega)
            case measure => simp [intOf]; omega
          · have hsg : stepG p s' = ((doneG p s').1, ⟨[], 0, []⟩) := by unfold stepG; rw [if_neg hneg, if_neg he]
            have TE : ((doneG p s').1 != 0) = true := bne_iff_ne.2 he
            have hrn := HRUN.out
            rw [runG_err p s' k hneg he] at hrn
            obtain ⟨re, hre⟩ : ∃ re, (doneG p s').1 = re := ⟨_, rfl⟩
            rw [hre] at TE hsg hrn
            have HSG := Lib.hid hsg
            have HRN := Lib.hid hrn
            clear hsg hrn hre he hneg
            go_wp2_with (first
              | (go_at_call 37; (with_reducible refine (stepTurn_any p _ S _ s' _ _ (Funcs.stays (Ext.stays HEK.out) HP.out) HST.out.state HFEWK.out HIMP.out).mono ?_); rintro e w3 ⟨⟨x, rfl, hx⟩, hx3⟩; rw [HSG.out] at hx ⊢; obtain ⟨ax3, cx3, dx3, ex3, rfl⟩ := hx.few0; obtain ⟨hq0, hq0'⟩ := (Cx.ext (W := wr) ⟨b0, b0'⟩ hx3).ext ((Ext.refl w3).alloc (.cells #[.slice ax3 0 cx3, .int .i64 0, .slice dx3 0 ex3] 35)); obtain ⟨hq1, hq1'⟩ := (Cx.ext (W := wr) ⟨b1, b1'⟩ hx3).ext ((Ext.refl w3).alloc (.cells #[.slice ax3 0 cx3, .int .i64 0, .slice dx3 0 ex3] 35)); obtain ⟨hq2, hq2'⟩ := (Cx.ext (W := wr) ⟨b2, b2'⟩ hx3).ext ((Ext.refl w3).alloc (.cells #[.slice ax3 0 cx3, .int .i64 0, .slice dx3 0 ex3] 35)); have hr0 := (Cx.ext (W := wr) ⟨r0, r0'⟩ hx3).ext ((Ext.refl w3).alloc (.cells #[.slice ax3 0 cx3, .int .i64 0, .slice dx3 0 ex3] 35)); have hr1 := (Cx.ext (W := wr) ⟨r1, r1'⟩ hx3).ext ((Ext.refl w3).alloc (.cells #[.slice ax3 0 cx3, .int .i64 0, .slice dx3 0 ex3] 35)); have hr2 := (Cx.ext (W := wr) ⟨r2, r2'⟩ hx3).ext ((Ext.refl w3).alloc (.cells #[.slice ax3 0 cx3, .int .i64 0, .slice dx3 0 ex3] 35)); obtain ⟨p0, p0'⟩ := hr0; obtain ⟨p1, p1'⟩ := hr1; obtain ⟨p2, p2'⟩ := hr2; have HX3 := Lib.hid hx3; clear hx hx3))
            have HRES : Hid (runG p fuel s = (s', (n : Int), re)) := by
              have h := HRN.out
              unfold Hid
              rw [h]
              simp
            refine bodyPost_ret (results_cell3 rfl _ _ (w.heap.size + 1) 0 _ _ rfl (box3 ⟨p0, p0'⟩ ⟨p1, p1'⟩ ⟨p2, p2'⟩ _ _ _) rfl rfl (by kernel_rfl)) rfl ?_
            rw [HRES.out]
            exact ⟨⟨_, rfl, ret_state (HST.out.ext (HX3.out.alloc _)) _ _ _⟩, ret_ext ((HEK.out.trans HX3.out).alloc _) _ _ _⟩
end Go.Proofs.Ytfajkebkhdcapaa
end
section
/- The document's RunOf, of states that fit; after: a state that comes of count(). -/
set_option maxHeartbeats 4000000
set_option maxRecDepth 100000
namespace Go.Proofs.Ytfajkebkhdcapaa
open Go Go.RowKit

end Go.Proofs.Ytfajkebkhdcapaa
end
