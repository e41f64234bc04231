/- Merged texts: contracts and plain facts, one part behind another; each part begins with what it says. -/
import Derived.Test.YtgahbngbpfilgaaGreatGEAJ
import Derived.Test.YtgahbngbpfilgaaGreatGEAO
import Derived.Test.YtgahbngbpfilgaaGreatGEAP
import Derived.BigRegion
section
set_option maxHeartbeats 4000000
set_option maxRecDepth 100000
namespace Go.Proofs.YtgahbngbpfilgaaGreat
open Go Go.RowKit
theorem resumed_any {P : PState} {w : World} {B b : Nat} (h : OwnS w B b P) (ht : HasTop P.g P.g.now) (hr : Room P.g) (hb : ResumeFit P.g) :
  Calls Tryz.prog 96 #[.pointer (some ⟨b, 0, none⟩)] w fun e w' => e = .returned (.int .i64 (resumeG P.g).1) ∧ Did w w' B b P (resumeG P.g) := by
 obtain ⟨hl, hco, hloc⟩ := hb
 have hLI := h.lastI ht (by omega)
 have hcx := curX_pop P.g ht
 have hl1 : 1 ≤ (curX (popG P.g)).stack.length := by rw [hcx]; show 1 ≤ (curX P.g).stack.dropLast.length; rw [List.length_dropLast]; omega
 have H := Lib.hid h
 have HT := Lib.hid ht
 have HL : Hid (1 ≤ (curX P.g).stack.length) := by unfold Hid; omega
 have HL1 := Lib.hid hl1
 clear h hcx hl hl1
 have RA := alloc_keep
 generalize hv : lastV P.g = v at *
 have HV := Lib.hid hv
 generalize hn : lastV (popG P.g) = n at *
 have HN := Lib.hid hn
 go_enter Tryz.func96, Tryz.ntmps96
 clear hv hn
 go_upto_if 20 with (first
  | (go_at_call 93; (with_reducible refine (pull_any H.out HT.out HL.out).mono ?_); rintro e w2 ⟨rfl, t2⟩; rw [HV.out]; obtain ⟨⟨P1, o1, g1, s1⟩, c1⟩ := t2; have HO1 := Lib.hid o1; have HG1 := Lib.hid g1; have HS1 := Lib.hid s1; have HC1 := Lib.hid c1; have HT1 : Hid (HasTop P1.g P1.g.now) := (by unfold Hid; rw [HG1.out]; exact HT.out.pop); have HL2 : Hid (1 ≤ (curX P1.g).stack.length) := (by unfold Hid; rw [HG1.out]; exact HL1.out); clear o1 g1 s1 c1)
  | (go_at_call 93; (with_reducible refine (pull_any HO1.out HT1.out HL2.out).mono ?_); rintro e w3 ⟨rfl, t3⟩; rw [HG1.out, HN.out]; obtain ⟨⟨P2, o2, g2, s2⟩, c2⟩ := t3; have HO2 := Lib.hid o2; have HG2 := Lib.hid g2; have HS2 := Lib.hid s2; have HC2 := Lib.hid c2; obtain ⟨c20, c20'⟩ := o2.c0; obtain ⟨c21, c21'⟩ := o2.c1; obtain ⟨c22, c22'⟩ := o2.c2; have hfw := o2.few.1; obtain ⟨a2, cp2, e2, _, _⟩ := o2.row.shape; rw [e2] at c20; have HE2 := Lib.hid e2; clear o2 g2 s2 c2 e2; have KK : IntKind.i64.wrap ((P2.fs.length : Int) - 1) = (P2.fs.length : Int) - 1 := (by exact IntWalk.i64_in _ (by omega)))
  | (go_at_call 21; (with_reducible refine (within_any _ _ _ _).mono ?_); rintro e w4 ⟨rfl, rfl⟩; obtain ⟨tw, htw⟩ : ∃ tw, decide (0 ≤ n ∧ n ≤ (P2.fs.length : Int) - 1) = tw := ⟨_, rfl⟩; rw [htw]; have HTW := Lib.hid htw; clear htw))
 have hg2 : P2.g = popG (popG P.g) := by rw [HG2.out, HG1.out]
 have HY : Hid (resumeG P.g = if ¬ (0 ≤ n ∧ n < P2.fs.length) then (5, P.g) else if n ∈ lineLL P2.g ∨ (P2.g.fibers.getD n.toNat default).frames.length = 0 then (6, P.g) else (0, wakeG P2.g n v)) := by
  unfold Hid resumeG
  rw [HN.out, HV.out, ← hg2]
  have e : P2.fs.length = P.g.fibers.length := by
   have : P2.fs.length = P2.g.fibers.length := by unfold PState.g; simp
   rw [this, hg2]
   unfold popG modTop
   rw [modFib_len, modFib_len]
  rw [e]
 clear hg2
 cases tw with
 | false =>
  have e := HY.out
  have h0 := of_decide_eq_false HTW.out
  rw [if_pos (fun h => h0 (by omega))] at e
  have HE := Lib.hid e
  clear e h0
  go_wp2_with fail
  go_ret
  rw [HE.out]
  exact ⟨rfl, Did.step HC1.out HS1.out (Did.step HC2.out HS2.out ⟨Chg.refl _ _, fun h => by cases h⟩)⟩
 | true =>
 obtain ⟨h0, h1⟩ := of_decide_eq_true HTW.out
 obtain ⟨L, y, R, hP, hnL⟩ := hasFib (P := P2) ⟨h0, by omega⟩
 have hfl : P2.g.fibers.length = P2.fs.length := by unfold PState.g; simp
 have hcal : Callers P2.g := (by rw [HG2.out, HG1.out]; exact hco : CallersOk P2.g).callers (by rw [hfl]; exact hfw)
 have HCAL := Lib.hid hcal
 have hst := (HO2.out).state (fun g => B ≤ g) (fun _ h => h)
 rw [HE2.out] at hst
 have HST := Lib.hid hst
 obtain ⟨g, o, cap, hvf, hlt, d0, d1, hbl⟩ := (HO2.out).place hP
 have HVF := Lib.hid hvf
 rw [HE2.out] at hvf
 simp only [Value.slice.injEq, true_and] at hvf
 obtain ⟨rfl, rfl⟩ := hvf
 have e := HY.out
 rw [if_neg (fun h => h ⟨h0, by omega⟩), hnL, Int.toNat_natCast, fib_at hP] at e
 have hlen : y.g.frames.length = y.fr.length := by unfold PFiber.g; simp
 rw [hlen] at e
 have HYY := Lib.hid e
 have hym : y ∈ P2.fs := by rw [hP]; simp
 obtain ⟨ay, cy, ey, _, _⟩ := ((HO2.out).fs y hym).row.shape
 rw [ey] at d0
 obtain ⟨d0, d0'⟩ := d0
 have HEY := Lib.hid ey
 have HP := Lib.hid hP
 have hloc2 : 0 < y.fr.length → (topOf y.g).at_ = 0 → 0 < (topOf y.g).locals.length := by
  have := hloc
  rw [← HG1.out, ← HG2.out, hnL, Int.toNat_natCast, fib_at hP, hfl, hlen] at this
  exact fun hf => this ⟨by omega, by omega, hf⟩
 have HLOC := Lib.hid hloc2
 have D1 := Lib.hid d1
 subst hnL
 clear hcal hst e hlen hym ey hP hloc2 hco hloc h0 h1 HY d1 hfl
 by_cases hm : (L.length : Int) ∈ lineLL P2.g
 ·have HM : Hid (decide ((L.length : Int) ∈ lineLL P2.g) = true) := decide_eq_true hm
  have e := HYY.out
  rw [if_pos (Or.inl hm)] at e
  have HE := Lib.hid e
  clear e hm
  go_wp2_with (first
   | (go_at_call 22; (with_reducible refine (lineOf_any P2.g _ _ _ HST.out HCAL.out).mono ?_); rintro e w5 ⟨hlr, hx5⟩; obtain ⟨al, cl, ok, rfl, hline⟩ := hlr.ll; have HLN := Lib.hid hline; have HX5 := Lib.hid hx5; clear hlr hline)
   | (go_at_call 24; (with_reducible refine (has_any (lineLL P2.g) _ _ _ _ HLN.out).mono ?_); rintro e w6 ⟨rfl, hx6⟩; rw [HM.out]))
  go_ret
  rw [HE.out]
  exact ⟨rfl, Did.step HC1.out HS1.out (Did.step HC2.out HS2.out ⟨Chg.of_ext (HX5.out.trans hx6), fun h => by cases h⟩)⟩
 have HM : Hid (decide ((L.length : Int) ∈ lineLL P2.g) = false) := decide_eq_false hm
 by_cases hz : y.fr.length = 0
 ·have T2 : decide ((y.fr.length : Int) = 0) = true := decide_eq_true (by omega)
  have T2' : ((y.fr.length : Int) == 0) = true := by simpa using hz
  have e := HYY.out
  rw [if_pos (Or.inr hz)] at e
  have HE := Lib.hid e
  clear e hm hz
  go_wp2_with (first
   | (go_at_call 22; (with_reducible refine (lineOf_any P2.g _ _ _ HST.out HCAL.out).mono ?_); rintro e w5 ⟨hlr, hx5⟩; obtain ⟨al, cl, ok, rfl, hline⟩ := hlr.ll; have HLN := Lib.hid hline; have HX5 := Lib.hid hx5; clear hlr hline)
   | (go_at_call 24; (with_reducible refine (has_any (lineLL P2.g) _ _ _ _ HLN.out).mono ?_); rintro e w6 ⟨rfl, hx6⟩; rw [HM.out]; have f0 := Ext.cell (HX5.out.trans hx6) c20; have f1 := Ext.cell (HX5.out.trans hx6) d0))
  go_ret
  rw [HE.out]
  exact ⟨rfl, Did.step HC1.out HS1.out (Did.step HC2.out HS2.out ⟨Chg.of_ext (HX5.out.trans hx6), fun h => by cases h⟩)⟩
 have T2 : decide ((y.fr.length : Int) = 0) = false := decide_eq_false (by omega)
 have T2' : ((y.fr.length : Int) == 0) = false := by simpa using hz
 have e := HYY.out
 rw [if_neg (by rintro (h | h); exact hm h; exact hz h)] at e
 have HE := Lib.hid e
 obtain ⟨F, x, hfr⟩ := split_last y.fr (by omega)
 have HFR := Lib.hid hfr
 clear e hm hz HYY hfr
 go_upto_region 8 with (first
  | (go_at_call 22; (with_reducible refine (lineOf_any P2.g _ _ _ HST.out HCAL.out).mono ?_); rintro e w5 ⟨hlr, hx5⟩; obtain ⟨al, cl, ok, rfl, hline⟩ := hlr.ll; have HLN := Lib.hid hline; have HX5 := Lib.hid hx5; clear hlr hline)
  | (go_at_call 24; (with_reducible refine (has_any (lineLL P2.g) _ _ _ _ HLN.out).mono ?_); rintro e w6 ⟨rfl, hx6⟩; rw [HM.out]; have f0 := Ext.cell (HX5.out.trans hx6) c20; have f1 := Ext.cell (HX5.out.trans hx6) d0))
 have HX6 := Lib.hid (HX5.out.trans hx6)
 obtain ⟨f2, f2'⟩ := Cx.ext (W := w3) ⟨c21, c21'⟩ HX6.out
 obtain ⟨f3, f3'⟩ := (D1.out).ext HX6.out
 clear hx6
 go_cut [53] (fun _ wr => OwnS wr B b { P2 with fs := L ++ { y with caller := P2.now } :: R } ∧ Chg (· ∈ P2.bl) w6 wr)
 case first =>
  go_region
  go_wp2_with fail
  go_meet
  have h9 := ((HO2.out).ext HX6.out).setCaller HP.out HVF.out P2.now ((HO2.out).i.1)
  exact ⟨h9.1.ext (Ext.refl _).drew, h9.2.drew⟩
 case rest =>
  rename World => w7
  obtain ⟨o7, c7⟩ := hcut
  have hI : I64 (L.length : Int) := by unfold I64; omega
  have C8 := Lib.hid ((Chg.of_ext HX6.out).trans (c7.mono (M' := fun k => k ∈ b :: P2.bl) (fun k _ hk => List.mem_cons_of_mem _ hk)) |>.trans ((chg_one w7 b 1 (.int .i64 (L.length : Int))).mono (fun k _ hk => by rw [show k = b from hk]; exact List.mem_cons_self)))
  obtain ⟨P4, HO8, hs4, hg4, hb4⟩ : ∃ P4, Hid (OwnS (w7.setCell ⟨b, 1, none⟩ (.int .i64 (L.length : Int))) B b P4) ∧ Spot P4 L { y with caller := P2.now } R F x ∧ P4.g = { modFib P2.g (L.length : Int) (fun f => { f with caller := P2.g.now }) with now := (L.length : Int) } ∧ ∀ k ∈ P4.bl, k ∈ P2.bl ∨ w3.heap.size ≤ k := by
   refine ⟨_, Lib.hid (o7.setNow (L.length : Int) hI), ⟨rfl, HFR.out⟩, ?_, fun k hk => .inl ?_⟩
   ·have e := modFib_at (n := (L.length : Int)) HP.out rfl (y' := { y with caller := P2.now }) (g := fun f => { f with caller := P2.g.now }) rfl
    rw [e]
    rfl
   ·unfold PState.bl at hk ⊢
    rw [HP.out]
    simp only [List.flatMap_append, List.flatMap_cons] at hk ⊢
    exact hk
  obtain ⟨gf, og, cf, hvf4, _, _, x0, x1, x2, _, _⟩ := (HO8.out).spot hs4
  have X1 := Lib.hid x1
  have X2 := Lib.hid x2
  have HV4 := Lib.hid hvf4
  have HS4 := Lib.hid hs4
  have hat : topOf y.g = x.f := top_at HFR.out
  have HW : Hid (wakeG P2.g (L.length : Int) v = if x.f.at_ = 0 then modTop P4.g (L.length : Int) (fun z => { z with locals := z.locals.set 0 v }) else pushG P4.g (L.length : Int) v) := by
   unfold Hid wakeG
   rw [Int.toNat_natCast, fib_at HP.out, hat, hg4]
  have hlc := HLOC.out (by rw [HFR.out]; simp)
  rw [hat] at hlc
  have HLC := Lib.hid hlc
  have ht4 : HasTop P4.g (L.length : Int) := by
   refine ⟨by omega, ?_, ?_⟩
   ·show (L.length : Int) < ((P4.fs.map PFiber.g).length : Nat)
    rw [hs4.fs]; simp; omega
   ·rw [Int.toNat_natCast, fib_at hs4.fs]
    show 0 < (y.fr.map PFrame.f).length
    rw [HFR.out]; simp
  have hr4 : Room P4.g := by
   rw [hg4, HG2.out, HG1.out]
   exact ((hr.pop).pop).caller _ _
  obtain ⟨e1, e1'⟩ := o7.c1
  clear x0 x1 x2 hvf4 hs4 hat hlc hg4 o7 c7
  by_cases ha : x.f.at_ = 0
  ·have T3 : decide (x.f.at_ = 0) = true := decide_eq_true ha
   have T3' : (x.f.at_ == 0) = true := by rw [ha]; rfl
   have e := HW.out
   rw [if_pos ha] at e
   have HWE := Lib.hid e
   have h0l := HLC.out ha
   have hxO := ((HO8.out).fs { y with caller := P2.now } (by rw [HS4.out.fs]; simp)).fr x (by rw [HS4.out.fr]; simp)
   obtain ⟨al9, cl9, ex, hcl, _⟩ := hxO.l.shape
   have hlr := hxO.l
   rw [ex] at hlr
   obtain ⟨gl, ol, rfl, _, hcells⟩ := hlr.cell h0l
   have z0 := (hcells 0 (by omega)).1
   rw [ints_get _ _ h0l] at z0
   have Z0 : Hid (Cx (w7.setCell ⟨b, 1, none⟩ (.int .i64 (L.length : Int))) gl ol (.int .i64 (x.f.locals.getD 0 0))) := Lib.hid ⟨z0, (hcells 0 (by omega)).2⟩
   have HEX := Lib.hid ex
   have X3 : Hid (Cx (w7.setCell ⟨b, 1, none⟩ (.int .i64 (L.length : Int))) gf (og + F.length * 4 + 2) (.slice (some ⟨gl, ol, none⟩) x.f.locals.length cl9)) := by unfold Hid; rw [← ex]; exact X2.out
   clear e ha hlr hcells hxO ex z0
   go_wp2_with (first
    | (go_at_call 91; (with_reducible refine (top_any HO8.out HS4.out HV4.out L.length rfl).mono ?_); rintro e w9 ⟨rfl, hx9⟩; obtain ⟨x1, x1'⟩ := (X1.out).ext hx9; obtain ⟨x3, x3'⟩ := (X3.out).ext hx9; obtain ⟨z0, z0'⟩ := (Z0.out).ext hx9; have HX9 := Lib.hid hx9; clear hx9))
   go_ret
   rw [HE.out, HWE.out]
   obtain ⟨o9, c9⟩ := ((HO8.out).ext HX9.out).setLocal HS4.out HEX.out 0 h0l v hLI
   exact ⟨rfl, Did.of (Turn.step HC1.out HS1.out (Turn.step HC2.out HS2.out (Turn.step ((C8.out).trans (Chg.of_ext HX9.out)) hb4 ⟨⟨_, o9, (modTop_at HS4.out rfl rfl).symm, repl_bl HS4.out (fun k hk => .inl hk)⟩, c9⟩)))⟩
  ·have T3 : decide (x.f.at_ = 0) = false := decide_eq_false ha
   have T3' : (x.f.at_ == 0) = false := beq_false_of_ne ha
   have e := HW.out
   rw [if_neg ha] at e
   have HWE := Lib.hid e
   clear e ha
   go_wp2_with (first
    | (go_at_call 91; (with_reducible refine (top_any HO8.out HS4.out HV4.out L.length rfl).mono ?_); rintro e w9 ⟨rfl, hx9⟩; obtain ⟨x1, x1'⟩ := (X1.out).ext hx9; have HX9 := Lib.hid hx9; clear hx9)
    | (go_at_call 92; (with_reducible refine (push_any ((HO8.out).ext HX9.out) L.length ht4 hr4 v hLI).mono ?_); rintro e w10 ⟨rfl, t10⟩))
   go_ret
   rw [HE.out, HWE.out]
   exact ⟨rfl, Did.of (Turn.step HC1.out HS1.out (Turn.step HC2.out HS2.out (Turn.step ((C8.out).trans (Chg.of_ext HX9.out)) hb4 t10)))⟩
end Go.Proofs.YtgahbngbpfilgaaGreat
end
section
set_option maxHeartbeats 4000000
set_option maxRecDepth 100000
namespace Go.Proofs.YtgahbngbpfilgaaGreat
open Go Go.RowKit
theorem OwnS.ge {W : World} {B b : Nat} {P : PState} (h : OwnS W B b P) : ∀ g ∈ b :: P.bl, B ≤ g := by
 intro g hg
 rcases List.mem_cons.1 hg with rfl | hg
 ·exact h.le
 ·unfold PState.bl at hg
  rcases List.mem_append.1 hg with h1 | h1
  ·rcases List.mem_append.1 h1 with h2 | h2
   ·exact h.row.le g (by simpa using h2)
   ·exact h.out.le g (by simpa using h2)
  ·obtain ⟨y, hy, h2⟩ := List.mem_flatMap.1 h1
   unfold PFiber.bl at h2
   rcases List.mem_append.1 h2 with h3 | h3
   ·exact (h.fs y hy).row.le g (by simpa using h3)
   ·obtain ⟨x, hx, h4⟩ := List.mem_flatMap.1 h3
    unfold PFrame.bl at h4
    rcases List.mem_append.1 h4 with h5 | h5
    ·exact ((h.fs y hy).fr x hx).l.le g (by simpa using h5)
    ·exact ((h.fs y hy).fr x hx).s.le g (by simpa using h5)
theorem curF_frames (s : GState) (h : HasTop s s.now) (g : GFrame → GFrame) : (curF (modTop s s.now g)).frames.length = (curF s).frames.length := by
 unfold modTop
 rw [curF_mod s ⟨h.1, h.2.1⟩]
 simp
theorem FewS.cur {s : GState} (h : FewS s) (ht : HasTop s s.now) : (curF s).frames.length < 1000 := by
 have hm : curF s ∈ s.fibers := by
  unfold curF
  rw [List.getD_eq_getElem?_getD, List.getElem?_eq_getElem (by have := ht.1; have := ht.2.1; omega)]
  exact List.getElem_mem _
 have := (h.2.2 _ hm).1
 omega
theorem repl_same {P : PState} {L R : List PFiber} {y : PFiber} {F : List PFrame} {x x' : PFrame} (hs : Spot P L y R F x) (h : x'.bl = x.bl) : ∀ g ∈ (replTop P L y R F x').bl, g ∈ P.bl := by
 intro g hg
 rcases repl_bl (n := g + 1) hs (fun k hk => .inl (h ▸ hk)) g hg with h1 | h1
 ·exact h1
 ·omega
theorem done_ok {p : List GFunc} {w W4 w' : World} {B b : Nat} {P P1 : PState} {k a : Int} {r : Int × GState} (hD : doneG p P.g = workG p P1.g k a) (hw : workG p P1.g k a = r) (c : Chg (· ∈ b :: P.bl) w W4) (bl : ∀ k ∈ P1.bl, k ∈ P.bl) (d : Did W4 w' B b P1 r) :
  (doneG p P.g).1 = r.1 ∧ Did w w' B b P (doneG p P.g) := by
 rw [hD, hw]
 exact ⟨rfl, Did.step c (fun k hk => .inl (bl k hk)) d⟩
theorem reck_i64 (k a b : Int) : I64 (reckG k a b) := by
 have hw : ∀ n, I64 (wrap64 n) := fun n => by unfold I64 wrap64; omega
 have ht : ∀ t, I64 (truthG t) := fun t => by cases t <;> (unfold I64 truthG; decide)
 unfold reckG
 split
 ·exact hw _
 ·split
  ·exact hw _
  ·split
   ·exact hw _
   ·split <;> exact ht _
theorem not_grown {P P5 : PState} {b bx n : Nat} (h : bx ∉ b :: P.bl) (hs : ∀ g ∈ P5.bl, g ∈ P.bl ∨ n ≤ g) (hlt : bx < n) : bx ∉ b :: P5.bl := fun hm => by
 rcases List.mem_cons.1 hm with rfl | h1
 ·exact h List.mem_cons_self
 ·rcases hs bx h1 with h2 | h2
  ·exact h (List.mem_cons_of_mem _ h2)
  ·omega
theorem cells3_ext {w w' : World} {a b c : Addr} {x y z : Value} (h : w.cell? a = some x ∧ w.cell? b = some y ∧ w.cell? c = some z) (he : Ext w w') : w'.cell? a = some x ∧ w'.cell? b = some y ∧ w'.cell? c = some z :=
 ⟨(Ext.keep he a (by rw [h.1]; rfl)).trans h.1, (Ext.keep he b (by rw [h.2.1]; rfl)).trans h.2.1, (Ext.keep he c (by rw [h.2.2]; rfl)).trans h.2.2⟩
theorem add_fin {w5 w6 Wv : World} {B b : Nat} {P : PState} {an : Int} {N : Nat} {v1 : Value} (h : OwnS w5 B b P) (hE : Ext w5 w6) (hrow : RowAt w6 w5.heap.size 1 (.slice (some ⟨w5.heap.size, 0, none⟩) N N) N (ints (List.replicate N 0))) (tf tb : TypeId)
  (hRV : NewRow ((w6.alloc (.cells #[.int .i64 an, .int .i64 0, .slice (some ⟨w5.heap.size, 0, none⟩) N N, .slice none 0 0] tf)).alloc (.cells #[.slice (some ⟨w6.heap.size, 0, none⟩) 1 1, .int .i64 (-1)] tb)) Wv B 2 P.vfs v1 (P.fs.length + 1) (P.fs.flatMap fiberF ++ [.slice (some ⟨w6.heap.size, 0, none⟩) 1 1, .int .i64 (-1)]))
  (hI : I64 an) (hN : N ≤ 1000) (hl : P.fs.length < 1000) :
  Turn w5 (Wv.setCell ⟨b, 0, none⟩ v1) B b P { P.g with fibers := P.g.fibers ++ [⟨[⟨an, 0, List.replicate N 0, []⟩], -1⟩] } := by
 obtain ⟨r1, r2, r3⟩ := hRV
 let X : PFrame := ⟨⟨an, 0, List.replicate N 0, []⟩, .slice (some ⟨w5.heap.size, 0, none⟩) N N, .slice none 0 0⟩
 let Y : PFiber := ⟨[X], -1, .slice (some ⟨w6.heap.size, 0, none⟩) 1 1⟩
 have hBw : B ≤ w5.heap.size := Nat.le_trans h.le (Nat.le_of_lt h.c0.lt)
 have hEm : Ext w5 ((w6.alloc (.cells #[.int .i64 an, .int .i64 0, .slice (some ⟨w5.heap.size, 0, none⟩) N N, .slice none 0 0] tf)).alloc (.cells #[.slice (some ⟨w6.heap.size, 0, none⟩) 1 1, .int .i64 (-1)] tb)) := (hE.alloc _).alloc _
 have hE6 : Ext w6 ((w6.alloc (.cells #[.int .i64 an, .int .i64 0, .slice (some ⟨w5.heap.size, 0, none⟩) N N, .slice none 0 0] tf)).alloc (.cells #[.slice (some ⟨w6.heap.size, 0, none⟩) 1 1, .int .i64 (-1)] tb)) := ((Ext.refl _).alloc _).alloc _
 have hold : ∀ k, rowBlock P.vfs = some k → k < w5.heap.size := fun k hk => h.lt k (List.mem_cons_of_mem _ (PState.mem_vfs hk))
 have h56 := hE.size
 have hvb : ∀ k, rowBlock (.slice (some ⟨w5.heap.size, 0, none⟩) N N) = some k → k = w5.heap.size ∧ w5.heap.size < w6.heap.size := fun k hk => by
  by_cases h0 : N = 0
  ·subst h0; simp [rowBlock] at hk
  ·have h1 := hrow.lt2 (by decide) k hk
   rw [rowBlock_some _ _ _ _ h0] at hk
   cases hk
   exact ⟨rfl, h1⟩
 have hXO : FrameO Wv B X := by
  refine ⟨⟨hI, I64.zero, fun k hk => ?_, fun k hk => by cases hk⟩, ?_, RowAt.nil _ _ _ _, ⟨by show (List.replicate N (0 : Int)).length ≤ 1000; rw [List.length_replicate]; exact hN, by show 0 ≤ 1000; omega⟩⟩
  ·rw [List.eq_of_mem_replicate hk]; exact I64.zero
  ·show RowAt Wv B 1 (.slice (some ⟨w5.heap.size, 0, none⟩) N N) (List.replicate N (0 : Int)).length (ints (List.replicate N 0))
   rw [List.length_replicate]
   refine ((hrow.mono hBw).ext hE6 (by decide)).chg r2 (fun k hk e => ?_) (by decide)
   have := (hvb k hk).1
   have := hold k e
   omega
 have hYO : FiberO Wv B Y := by
  refine ⟨I64.neg1, ?_, fun u hu => ?_, by show 1 ≤ 1000; omega⟩
  ·have hm := RowAt.made w6 #[.int .i64 an, .int .i64 0, .slice (some ⟨w5.heap.size, 0, none⟩) N N, .slice none 0 0] tf 4 1 B (by omega) (by unfold maxLen; omega) rfl
   refine (hm.ext ((Ext.refl _).alloc _) (by decide)).chg r2 (fun k hk e => ?_) (by decide)
   have hk' : w6.heap.size = k := by simpa [rowBlock] using hk
   have := hold k e
   omega
  ·rw [List.mem_singleton.1 hu]; exact hXO
 have hms : ((w6.alloc (.cells #[.int .i64 an, .int .i64 0, .slice (some ⟨w5.heap.size, 0, none⟩) N N, .slice none 0 0] tf)).alloc (.cells #[.slice (some ⟨w6.heap.size, 0, none⟩) 1 1, .int .i64 (-1)] tb)).heap.size = w6.heap.size + 2 := by simp
 have hv1 : rowBlock v1 = rowBlock P.vfs ∨ ∀ k, rowBlock v1 = some k → w6.heap.size + 2 ≤ k := r3.imp id fun e k hk => by have := e k hk; omega
 have hYbl : ∀ k ∈ Y.bl, k = w6.heap.size ∨ (k = w5.heap.size ∧ w5.heap.size < w6.heap.size) := fun k hk => by
  unfold PFiber.bl at hk
  simp only [Y, List.flatMap_cons, List.flatMap_nil, List.append_nil, List.mem_append] at hk
  rcases hk with h1 | h1
  ·left; simpa [rowBlock, eq_comm] using h1
  ·unfold PFrame.bl at h1
   rcases List.mem_append.1 h1 with h2 | h2
   ·exact .inr (hvb k (by simpa using h2))
   ·simp [X, rowBlock] at h2
 obtain ⟨o9, c9⟩ := h.addFiber (y := Y) (v1 := v1) ((Chg.of_ext hEm).trans r2) (by
   rw [List.length_append, List.length_singleton, List.flatMap_append]; exact r1) hYO hl (hv1.imp id fun e k hk => by have := e k hk; omega) (by
   unfold PFiber.bl
   simp only [Y, List.flatMap_cons, List.flatMap_nil, List.append_nil]
   unfold PFrame.bl
   rw [show rowBlock X.vs = none from rfl, show rowBlock (.slice (some ⟨w6.heap.size, 0, none⟩) 1 1) = some w6.heap.size from rowBlock_some _ _ _ _ (by decide)]
   cases hr : rowBlock X.vl with
   | none => simp
   | some k =>
    have h3 := hvb k hr
    have h4 : w6.heap.size ≠ k := by omega
    simp [h4]) (fun k hk => by
   refine ⟨by rcases hYbl k hk with h1 | h1 <;> omega, fun e => ?_⟩
   rcases hv1 with h2 | h2
   ·have := hold k (h2 ▸ e)
    rcases hYbl k hk with h1 | h1 <;> omega
   ·have := h2 k e
    rcases hYbl k hk with h1 | h1 <;> omega)
 refine ⟨⟨_, o9, ?_, fun k hk => ?_⟩, c9⟩
 ·unfold PState.g
  simp [Y, X, PFiber.g]
 ·unfold PState.bl at hk
  simp only [List.flatMap_append, List.mem_append] at hk
  rcases hk with (h3 | h3) | h3 | h3
  ·have h4 : rowBlock v1 = some k := by simpa using h3
   rcases hv1 with h5 | h5
   ·exact .inl (PState.mem_vfs (h5 ▸ h4))
   ·have := h5 k h4
    exact .inr (by omega)
  ·exact .inl (PState.mem_vo (by simpa using h3))
  ·obtain ⟨z, hz, h4⟩ := List.mem_flatMap.1 h3
   exact .inl (PState.mem_fs hz h4)
  ·have h4 : k ∈ Y.bl := by simpa using h3
   exact .inr (by rcases hYbl k h4 with h1 | h1 <;> omega)
theorem done_any (p : List GFunc) (v : Value) {P : PState} {w : World} {B b : Nat} (hp : Funcs w (· < B) v p) (h : OwnS w B b P) (hf : FewS P.g) (hfit : OpFit p P.g) :
    Calls Tryz.prog 60 #[v, .pointer (some ⟨b, 0, none⟩)] w fun e w' => e = .returned (.int .i64 (doneG p P.g).1) ∧ Did w w' B b P (doneG p P.g) := by
  obtain ⟨⟨ht, hn0, hn1, ha0, ha1⟩, hwf⟩ := hfit
  obtain ⟨L, y, R, F, x, hs, hnw⟩ := hasSpot ht
  have hnw : P.now = L.length := hnw
  have hcx := curX_at hs hnw
  rw [hcx] at hn0 hn1 ha0 ha1 hwf
  obtain ⟨fn, hfn⟩ : ∃ n : Nat, x.f.func = n := ⟨x.f.func.toNat, by omega⟩
  obtain ⟨at', hat⟩ : ∃ n : Nat, x.f.at_ = n := ⟨x.f.at_.toNat, by omega⟩
  have hfl : fn < p.length := by omega
  have hF : funcOf p x.f.func = p[fn] := by rw [hfn]; unfold funcOf; simp [List.getD, List.getElem?_eq_getElem hfl]
  rw [hF] at ha1
  have hal : at' < p[fn].code.length := by omega
  have hop : opAt p x.f = p[fn].code[at'] := by unfold opAt; rw [hF, hat]; simp [List.getD, List.getElem?_eq_getElem hal]
  rw [hop] at hwf
  have hD : doneG p P.g = workG p (advG P.g) p[fn].code[at'].kind p[fn].code[at'].a := by unfold doneG; rw [hcx, hop]
  obtain ⟨bp, op, capp, rfl, hcapp, hby, _, _, vc, hcv, hops⟩ := hp.get hfl
  obtain ⟨bc, oc, capc, rfl, hcapc, hbyc, ⟨_, hk0, hk1⟩, _, hq0, hq1⟩ := hops.get hal
  obtain ⟨k, hk⟩ : ∃ k, p[fn].code[at'].kind = k := ⟨_, rfl⟩
  obtain ⟨a, ha⟩ : ∃ a, p[fn].code[at'].a = a := ⟨_, rfl⟩
  obtain ⟨M, hM⟩ : ∃ M, p[fn].code.length = M := ⟨_, rfl⟩
  rw [hk] at hk0 hk1 hwf hD
  rw [ha] at hq0 hq1 hwf hD
  rw [hM] at hal hcv hcapc hbyc
  obtain ⟨g, o, cap, hyv, hcap, hmax, ⟨f0, _⟩, ⟨f1, f1'⟩, _, _, hbl⟩ := h.spot hs
  rw [hfn] at f0
  rw [hat] at f1
  have KA : IntKind.i64.wrap ((at' : Int) + 1) = (at' : Int) + 1 := IntWalk.i64_in _ (by omega)
  have hlen2 : P.fs.length ≤ 1000 := h.few.1
  have HP := Lib.hid hp
  have H := Lib.hid h
  have HS := Lib.hid hs
  have HNW := Lib.hid hnw
  have HYV := Lib.hid hyv
  have HD := Lib.hid hD
  have HF := Lib.hid hf
  have HT := Lib.hid ht
  have HWF := Lib.hid hwf
  have HBL := Lib.hid hbl
  have HAT := Lib.hid hat
  obtain ⟨i0, hi0, hz0, hz1, hz2⟩ := info_parts infoI
  obtain ⟨i2, hi2, hz6, hz7, hz8⟩ := info_parts infoFb
  have RA := alloc_keep
  obtain ⟨c1, -⟩ := h.c1
  rw [hnw] at c1
  clear hp h hs hnw hyv hD hf ht hwf hcx hop hF hbl hn0 hn1 ha0 ha1 hM hk ha hops hfn hat
  go_enter Tryz.func60, Tryz.ntmps60
  go_upto_region 2 with (first
    | (go_at_call 91; (with_reducible refine (top_any H.out HS.out HYV.out L.length rfl).mono ?_); rintro e w2 ⟨rfl, hx2⟩))
  have HX2 := Lib.hid hx2
  have f0 := Ext.cell hx2 f0
  have f1w := f1
  have f1 := Ext.cell hx2 f1
  have hcv := Ext.cell hx2 hcv
  have hk0 := Ext.cell hx2 hk0
  have hq0 := Ext.cell hx2 hq0
  clear hx2
  have f1'2 := (Cx.ext (W' := w2) ⟨f1w, f1'⟩ HX2.out).2
  refine wp_region_rt (fun w' => w'.cell? ⟨g, o + F.length * 4, none⟩ = some (.int .i64 fn) ∧ w'.cell? ⟨g, o + F.length * 4 + 1, none⟩ = some (.int .i64 at') ∧ w'.cell? ⟨bp, op + fn * 3 + 2, none⟩ = some (.slice (some ⟨bc, oc, none⟩) M capc) ∧ w'.cell? ⟨bc, oc + at' * 2, none⟩ = some (.int .i64 k) ∧ w'.cell? ⟨bc, oc + at' * 2 + 1, none⟩ = some (.int .i64 a))
    15 [0, 1, 2, 3, 4, 5, 6, 7, 8, 9, 10, 11, 12, 13] [14, 15] (by kernel_rfl) (by kernel_rfl) (fun _ _ _ _ _ h => h) ⟨f0, f1, hcv, hk0, hq0⟩ ?_
  (try simp only [pickOps, List.filterMap_cons, List.filterMap_nil, List.getElem?_cons_zero, List.getElem?_cons_succ])
  repeat (
    refine readsQ_do (by rfl) ?_
    apply Exists.intro
    refine ⟨fun w' hw' => ?_, ?_⟩
    focus
      (try dsimp only at hw')
      go_split_ands
      go_simp
      (try with_reducible rfl)
    (try dsimp only [Act.put])
    (try simp only [List.setIfInBounds_toArray, List.set_cons_succ, List.set_cons_zero]))
  refine readsQ_nil ?_
  refine tailW_step ?_
  go_wp2_with fail
  refine nextW_go (by refine ⟨?_, ?_, ?_, ?_, ?_⟩ <;> simp [*]) ?_
  refine tailW_step ?_
  go_wp2_with fail
  refine nextW_end ?_
  have f1b := (Cx.ext (W := w2) ⟨f1, f1'2⟩ ((Ext.refl w2).alloc (.cells #[.int .i64 k, .int .i64 a] 59))).2
  go_upto_region 4 with fail
  obtain ⟨W4, hW4⟩ : ∃ W4, W4 = ((w2.alloc (.cells #[.int .i64 k, .int .i64 a] 59)).setCell ⟨g, o + F.length * 4 + 1, none⟩ (.int .i64 ((at' : Int) + 1))).drew := ⟨_, rfl⟩
  rw [← hW4]
  obtain ⟨P1, y1, x1, HO, HS1, HYV1, HNW1, HG1, C4, BL4, HXF1⟩ : ∃ P1 y1 x1, Hid (OwnS W4 B b P1) ∧ Hid (Spot P1 L y1 R F x1) ∧ Hid (y1.vf = .slice (some ⟨g, o, none⟩) (F ++ [x1]).length cap) ∧ Hid (P1.now = L.length) ∧ Hid (P1.g = advG P.g) ∧ Hid (Chg (· ∈ b :: P.bl) w W4) ∧ Hid (∀ k ∈ P1.bl, k ∈ P.bl) ∧ Hid (x1.f.locals = x.f.locals ∧ x1.f.stack = x.f.stack) := by
    have h9 := ((H.out).ext (HX2.out.alloc (.cells #[.int .i64 k, .int .i64 a] 59))).setAt HS.out HYV.out ((at' : Int) + 1) (by unfold I64; omega)
    refine ⟨replTop P L y R F ⟨{ x.f with at_ := (at' : Int) + 1 }, x.vl, x.vs⟩, { y with fr := F ++ [⟨{ x.f with at_ := (at' : Int) + 1 }, x.vl, x.vs⟩] }, ⟨{ x.f with at_ := (at' : Int) + 1 }, x.vl, x.vs⟩, ?_, ⟨rfl, rfl⟩, by rw [List.length_append]; have := HYV.out; rw [List.length_append] at this; exact this, HNW.out, ?_, ?_, ?_, ⟨rfl, rfl⟩⟩
    · rw [hW4]; exact h9.1.ext (Ext.refl _).drew
    · unfold Hid advG
      refine (modTop_at HS.out HNW.out ?_).symm
      rw [HAT.out]
    · rw [hW4]
      exact ((Chg.of_ext (HX2.out.alloc _)).trans h9.2).drew
    · intro k hk
      exact repl_same (x' := ⟨{ x.f with at_ := (at' : Int) + 1 }, x.vl, x.vs⟩) HS.out rfl k hk
  have hbx : w2.heap.size ∉ b :: P1.bl := fun hm => by
    have h1 : w2.heap.size ∈ b :: P.bl := by
      rcases List.mem_cons.1 hm with e | e
      · rw [e]; exact List.mem_cons_self
      · exact List.mem_cons_of_mem _ (BL4.out _ e)
    have := (H.out).lt _ h1
    have := HX2.out.size
    omega
  have hcap0 : cap ≠ 0 := by simp at hcap; omega
  have hgb2 : w2.heap.size ≠ g := fun e => hbx (List.mem_cons_of_mem _ ((HS1.out).bl (.inl (by rw [HYV1.out, e]; exact rowBlock_some _ _ _ _ hcap0))))
  have hb0 : Cx W4 w2.heap.size 0 (.int .i64 k) := by rw [hW4]; exact (((Cx.new w2 [.int .i64 k, .int .i64 a] _ (j := 0) rfl).other (.inl hgb2) _).ext (Ext.refl _).drew)
  have hb1 : Cx W4 w2.heap.size 1 (.int .i64 a) := by rw [hW4]; exact (((Cx.new w2 [.int .i64 k, .int .i64 a] _ (j := 1) rfl).other (.inl hgb2) _).ext (Ext.refl _).drew)
  have HBX := Lib.hid hbx
  have HB1 := Lib.hid hb1
  obtain ⟨hb0, -⟩ := hb0
  obtain ⟨hb1, -⟩ := hb1
  generalize w2.heap.size = bx at *
  have hD2 := HD.out
  rw [← HG1.out] at hD2
  have HD2 := Lib.hid hD2
  have hw2 := HWF.out
  rw [← HG1.out] at hw2
  have HW2 := Lib.hid hw2
  have HT1 : Hid (HasTop P1.g P1.g.now) := by unfold Hid; rw [HG1.out]; exact (HT.out).top _
  have HTL : Hid (HasTop P1.g (L.length : Int)) := by unfold Hid; rw [← HNW1.out]; exact HT1.out
  have HR1 : Hid (Room P1.g) := by unfold Hid; rw [HG1.out]; exact (HF.out).room.top _ (fun _ => Nat.le_refl _)
  have HOUT : Hid (P1.g.out.length < 1000) := by unfold Hid; rw [HG1.out]; have := (HF.out).2.1; show P.g.out.length < 1000; omega
  have HCUR : Hid ((curF P1.g).frames.length < 1000) := by unfold Hid; rw [HG1.out]; unfold advG; rw [curF_frames _ HT.out]; exact (HF.out).cur HT.out
  have HPL : Hid (Funcs W4 (· < B) (.slice (some ⟨bp, op, none⟩) p.length capp) p) := Funcs.stays ((C4.out).stays (fun k hk hm => by have := (H.out).ge k hm; omega)) HP.out
  have hcb := (HO.out).c1.1
  rw [HNW1.out] at hcb
  clear hW4 hbx hgb2 f0 f1 f1' f1'2 f1b f1w hcv hk0 hq0 c1 hD2 hw2 HX2 HD HWF hcap hmax
  rename World => w2
  by_cases h0 : k = 0
  · subst h0
    have HWK : Hid (workG p P1.g 0 a = (0, pushG P1.g (L.length : Int) a)) := by unfold Hid workG; rw [if_pos rfl, show P1.g.now = (L.length : Int) from HNW1.out]
    go_upto_region 9 with fail
    refine wp_region_ext_tail 7 (by kernel_rfl) (by kernel_rfl) ?_
    simp only [List.take_succ_cons, List.take_zero, List.drop_succ_cons, List.drop_zero]
    repeat (first
      | go_big_quiet_skip
      | (go_big_quiet_want
         unfold Oper.quiet
         apply Exists.intro
         refine ⟨fun w' hw' => ?_, ?_⟩
         focus
           have hcq := Ext.keep hw'
           go_simp
           first
             | with_reducible rfl
         (try dsimp only [Act.put])
         (try simp only [List.setIfInBounds_toArray, List.set_cons_succ, List.set_cons_zero])
         go_big_quiet_on))
    refine wpQuiet_nil ?_
    intro wq hq
    go_wp2_with (first
      | (go_at_call 92; (with_reducible refine (push_any ((HO.out).ext (by ((repeat (first | assumption | exact Ext.refl _ | (exact And.left (by assumption)) | refine Ext.alloc ?_ _ | refine Ext.drew ?_ | refine Ext.drewN ?_ _ | refine Ext.setCell ?_ (by simp) _ | refine Ext.setCell ?_ (by simp; omega) _ | refine Ext.trans ?_ (by assumption))); done))) (L.length : Int) HTL.out HR1.out a hq1).mono ?_); rintro e w5 ⟨rfl, t5⟩))
    go_ret
    obtain ⟨e9, d9⟩ := done_ok HD2.out HWK.out C4.out BL4.out (Did.of (Turn.pre (by ((repeat (first | assumption | exact Ext.refl _ | (exact And.left (by assumption)) | refine Ext.alloc ?_ _ | refine Ext.drew ?_ | refine Ext.drewN ?_ _ | refine Ext.setCell ?_ (by simp) _ | refine Ext.setCell ?_ (by simp; omega) _ | refine Ext.trans ?_ (by assumption))); done)) t5))
    rw [e9]
    exact ⟨rfl, d9⟩
  have T0 : (k == 0) = false := beq_false_of_ne h0
  by_cases h1 : k = 1
  · subst h1
    have HWK : Hid (workG p P1.g 1 a = (0, popG P1.g)) := by unfold Hid workG; simp
    have hst : 1 ≤ (curX P1.g).stack.length := by have h := HW2.out; unfold WorkFit at h; simpa using h
    have HST := Lib.hid hst
    go_wp2_with (first
      | (go_at_call 93; (with_reducible refine (pull_any HO.out HT1.out HST.out).mono ?_); rintro e w5 ⟨rfl, t5⟩))
    go_ret
    obtain ⟨e9, d9⟩ := done_ok HD2.out HWK.out C4.out BL4.out (Did.of t5)
    rw [e9]
    exact ⟨rfl, d9⟩
  have T1 : (k == 1) = false := beq_false_of_ne h1
  by_cases h2 : k = 2
  · subst h2
    have hfit : 0 ≤ a ∧ a < (curX P1.g).locals.length := by have h := HW2.out; unfold WorkFit at h; simpa using h
    obtain ⟨an, han⟩ : ∃ n : Nat, a = n := ⟨a.toNat, by omega⟩
    subst han
    have hcx := curX_at HS1.out HNW1.out
    rw [hcx] at hfit
    have hxl : an < x1.f.locals.length := by omega
    have hxO := ((HO.out).fs y1 (by rw [(HS1.out).fs]; simp)).fr x1 (by rw [(HS1.out).fr]; simp)
    obtain ⟨al9, cl9, ex, hcl, _⟩ := hxO.l.shape
    have hlr := hxO.l
    rw [ex] at hlr
    obtain ⟨gl, ol, rfl, _, hcells⟩ := hlr.cell (by omega)
    have z0 := (hcells an (by omega)).1
    rw [ints_get _ _ hxl] at z0
    obtain ⟨u, hu⟩ : ∃ u, x1.f.locals.getD an 0 = u := ⟨_, rfl⟩
    have hui : I64 u := by rw [← hu, List.getD_eq_getElem?_getD, List.getElem?_eq_getElem hxl]; exact hxO.i.2.2.1 _ (List.getElem_mem _)
    rw [hu] at z0
    have HWK : Hid (workG p P1.g 2 an = (0, pushG P1.g (L.length : Int) u)) := by unfold Hid workG; rw [if_neg (by decide), if_neg (by decide), if_pos rfl, Int.toNat_natCast, hcx, hu, show P1.g.now = (L.length : Int) from HNW1.out]
    obtain ⟨g', o', cap', hv', _, _, _, _, ⟨x2, _⟩, _, _⟩ := (HO.out).spot HS1.out
    rw [HYV1.out] at hv'
    simp only [Value.slice.injEq, Option.some.injEq, Addr.mk.injEq] at hv'
    obtain ⟨⟨rfl, rfl, -⟩, -, rfl⟩ := hv'
    rw [ex] at x2
    clear hxO hlr hcells hcx ex hu
    go_upto_region 13 with fail
    refine wp_region_ext_tail 13 (by kernel_rfl) (by kernel_rfl) ?_
    simp only [List.take_succ_cons, List.take_zero, List.drop_succ_cons, List.drop_zero]
    repeat (first
      | go_big_quiet_skip
      | (go_big_quiet_want
         unfold Oper.quiet
         apply Exists.intro
         refine ⟨fun w' hw' => ?_, ?_⟩
         focus
           have hcq := Ext.keep hw'
           go_simp
           first
             | with_reducible rfl
         (try dsimp only [Act.put])
         (try simp only [List.setIfInBounds_toArray, List.set_cons_succ, List.set_cons_zero])
         go_big_quiet_on))
    refine wpQuiet_nil ?_
    intro wq hq
    go_wp2_with (first
      | (go_at_call 92; (with_reducible refine (push_any ((HO.out).ext (by ((repeat (first | assumption | exact Ext.refl _ | (exact And.left (by assumption)) | refine Ext.alloc ?_ _ | refine Ext.drew ?_ | refine Ext.drewN ?_ _ | refine Ext.setCell ?_ (by simp) _ | refine Ext.setCell ?_ (by simp; omega) _ | refine Ext.trans ?_ (by assumption))); done))) (L.length : Int) HTL.out HR1.out u hui).mono ?_); rintro e w5 ⟨rfl, t5⟩))
    go_ret
    obtain ⟨e9, d9⟩ := done_ok HD2.out HWK.out C4.out BL4.out (Did.of (Turn.pre (by ((repeat (first | assumption | exact Ext.refl _ | (exact And.left (by assumption)) | refine Ext.alloc ?_ _ | refine Ext.drew ?_ | refine Ext.drewN ?_ _ | refine Ext.setCell ?_ (by simp) _ | refine Ext.setCell ?_ (by simp; omega) _ | refine Ext.trans ?_ (by assumption))); done)) t5))
    rw [e9]
    exact ⟨rfl, d9⟩
  have T2 : (k == 2) = false := beq_false_of_ne h2
  by_cases h9 : k = 9
  · subst h9
    have HWK : Hid (workG p P1.g 9 a = (0, setAtG P1.g a)) := by unfold Hid workG; simp
    obtain ⟨g', o', cap', hv', _, _, _, ⟨x2, x2'⟩, _, _, _⟩ := (HO.out).spot HS1.out
    rw [HYV1.out] at hv'
    simp only [Value.slice.injEq, Option.some.injEq, Addr.mk.injEq] at hv'
    obtain ⟨⟨rfl, rfl, -⟩, -, rfl⟩ := hv'
    go_wp2_with fail
    go_ret
    obtain ⟨e9, d9⟩ := done_ok HD2.out HWK.out C4.out BL4.out (Did.of (let h9 := (HO.out).setAt HS1.out HYV1.out a hq1; ⟨⟨_, h9.1, (modTop_at HS1.out HNW1.out rfl).symm, fun k hk => .inl (repl_same (x' := ⟨{ x1.f with at_ := a }, x1.vl, x1.vs⟩) HS1.out rfl k hk)⟩, h9.2⟩))
    rw [e9]
    exact ⟨rfl, d9⟩
  have T9 : (k == 9) = false := beq_false_of_ne h9
  by_cases h11 : k = 11
  · subst h11
    have hfit : CallFit p P1.g a := by have h := HW2.out; unfold WorkFit at h; simpa using h
    obtain ⟨an, han⟩ : ∃ n : Nat, a = n := ⟨a.toNat, by have := hfit.1; omega⟩
    subst han
    have HWK : Hid (workG p P1.g 11 an = callG p P1.g an) := by unfold Hid workG; simp
    have HFIT := Lib.hid hfit
    go_wp2_with (first
      | (go_at_call 94; (with_reducible refine (called_any p _ _ an HPL.out HO.out HT1.out HCUR.out HFIT.out).mono ?_); rintro e w5 ⟨rfl, t5⟩))
    go_ret
    obtain ⟨e9, d9⟩ := done_ok HD2.out HWK.out C4.out BL4.out (t5)
    rw [e9]
    exact ⟨rfl, d9⟩
  have T11 : (k == 11) = false := beq_false_of_ne h11
  by_cases h12 : k = 12
  · subst h12
    have hfit : ReturnFit P1.g := by have h := HW2.out; unfold WorkFit at h; simpa using h
    have HWK : Hid (workG p P1.g 12 a = returnG P1.g) := by unfold Hid workG; simp
    have HFIT := Lib.hid hfit
    go_wp2_with (first
      | (go_at_call 95; (with_reducible refine (given_any HO.out HT1.out HR1.out HOUT.out HFIT.out).mono ?_); rintro e w5 ⟨rfl, t5⟩))
    go_ret
    obtain ⟨e9, d9⟩ := done_ok HD2.out HWK.out C4.out BL4.out (t5)
    rw [e9]
    exact ⟨rfl, d9⟩
  have T12 : (k == 12) = false := beq_false_of_ne h12
  by_cases h14 : k = 14
  · subst h14
    have hfit : ResumeFit P1.g := by have h := HW2.out; unfold WorkFit at h; simpa using h
    have HWK : Hid (workG p P1.g 14 a = resumeG P1.g) := by unfold Hid workG; simp
    have HFIT := Lib.hid hfit
    go_wp2_with (first
      | (go_at_call 96; (with_reducible refine (resumed_any HO.out HT1.out HR1.out HFIT.out).mono ?_); rintro e w5 ⟨rfl, t5⟩))
    go_ret
    obtain ⟨e9, d9⟩ := done_ok HD2.out HWK.out C4.out BL4.out (t5)
    rw [e9]
    exact ⟨rfl, d9⟩
  have T14 : (k == 14) = false := beq_false_of_ne h14
  by_cases h15 : k = 15
  · subst h15
    have hfit : 1 ≤ (curX P1.g).stack.length ∧ BackFit (popG P1.g) := by have h := HW2.out; unfold WorkFit at h; simpa using h
    have HWK : Hid (workG p P1.g 15 a = yieldG P1.g) := by unfold Hid workG; simp
    have HFIT := Lib.hid hfit
    go_wp2_with (first
      | (go_at_call 97; (with_reducible refine (yielded_any HO.out HT1.out HR1.out (HFIT.out).1 (HFIT.out).2).mono ?_); rintro e w5 ⟨rfl, t5⟩))
    go_ret
    obtain ⟨e9, d9⟩ := done_ok HD2.out HWK.out C4.out BL4.out (t5)
    rw [e9]
    exact ⟨rfl, d9⟩
  have T15 : (k == 15) = false := beq_false_of_ne h15
  by_cases h16 : k = 16
  · subst h16
    have hfit : 1 ≤ (curX P1.g).stack.length := by have h := HW2.out; unfold WorkFit at h; simpa using h
    have HWK : Hid (workG p P1.g 16 a = putG (popG P1.g) (lastV P1.g)) := by unfold Hid workG; simp
    have HFIT := Lib.hid hfit
    have hLI := (HO.out).lastI HT1.out hfit
    generalize hlv : lastV P1.g = u at *
    have HLV := Lib.hid hlv
    clear hlv
    go_wp2_with (first
      | (go_at_call 93; (with_reducible refine (pull_any HO.out HT1.out HFIT.out).mono ?_); rintro e w5 ⟨rfl, t5⟩; rw [HLV.out]; obtain ⟨⟨P5, o5, g5, s5⟩, c5⟩ := t5; have HO5 := Lib.hid o5; have HG5 := Lib.hid g5; have hl5 : P5.g.out.length < 1000 := (by rw [g5]; exact HOUT.out); clear o5 g5)
      | (go_at_call 98; (with_reducible refine (put_any HO5.out hl5 u hLI).mono ?_); rintro e w6 ⟨rfl, t6⟩; rw [HG5.out] at t6 ⊢))
    go_ret
    obtain ⟨e9, d9⟩ := done_ok HD2.out HWK.out C4.out BL4.out (Did.step c5 s5 t6)
    rw [e9]
    exact ⟨rfl, d9⟩
  have T16 : (k == 16) = false := beq_false_of_ne h16
  by_cases h3 : k = 3
  · subst h3
    have hfit : 0 ≤ a ∧ a < (curX P1.g).locals.length ∧ 1 ≤ (curX P1.g).stack.length := by have h := HW2.out; unfold WorkFit at h; simpa using h
    obtain ⟨an, han⟩ : ∃ n : Nat, a = n := ⟨a.toNat, by omega⟩
    subst han
    have hcx := curX_at HS1.out HNW1.out
    rw [hcx] at hfit
    obtain ⟨st, u, hst⟩ := split_last x1.f.stack (by omega)
    have hlast : lastV P1.g = u := by unfold lastV; rw [hcx, hst]; exact getD_last _ _ _ _ rfl
    have hui : I64 u := by have := (HO.out).lastI HT1.out (by rw [hcx]; omega); rwa [hlast] at this
    have HST := Lib.hid hst
    obtain ⟨g', o', cap', hv', _, _, _, ⟨x1a, x1a'⟩, ⟨x2, x2'⟩, _, hblg⟩ := (HO.out).spot HS1.out
    rw [HYV1.out] at hv'
    simp only [Value.slice.injEq, Option.some.injEq, Addr.mk.injEq] at hv'
    obtain ⟨⟨rfl, rfl, -⟩, -, rfl⟩ := hv'
    have hbxc : ¬ (rowBlock y1.vf = some bx ∨ rowBlock x1.vs = some bx) := by
      rintro (e | e)
      · exact HBX.out (List.mem_cons_of_mem _ ((HS1.out).bl (.inl e)))
      · exact HBX.out (List.mem_cons_of_mem _ ((HS1.out).bl (.inr (by unfold PFrame.bl; simp [e]))))
    have HBXC := Lib.hid hbxc
    clear hbxc
    have hxl : an < x1.f.locals.length := by omega
    have HWK : Hid (workG p P1.g 3 an = (0, modTop (popG P1.g) (L.length : Int) fun x => { x with locals := x.locals.set an u })) := by unfold Hid workG; rw [if_neg (by decide), if_neg (by decide), if_neg (by decide), if_pos rfl, Int.toNat_natCast, hlast, show P1.g.now = (L.length : Int) from HNW1.out]
    obtain ⟨al9, cl9, ex, hcl, _⟩ := (((HO.out).fs y1 (by rw [(HS1.out).fs]; simp)).fr x1 (by rw [(HS1.out).fr]; simp)).l.shape
    have hlr := (((HO.out).fs y1 (by rw [(HS1.out).fs]; simp)).fr x1 (by rw [(HS1.out).fr]; simp)).l
    rw [ex] at hlr
    obtain ⟨gl, ol, rfl, _, _⟩ := hlr.cell (by omega)
    rw [ex] at x2
    have HEX := Lib.hid ex
    clear hlr ex hcl hcx hlast hst
    go_upto_region 15 with fail
    refine wp_region_rt (fun w' => w'.cell? ⟨g, o + F.length * 4 + 2, none⟩ = some (.slice (some ⟨gl, ol, none⟩) x1.f.locals.length cl9) ∧ w'.cell? ⟨bx, 1, none⟩ = some (.int .i64 an))
      9 [0, 1, 2, 3, 4, 5, 6] [7, 8, 9] (by kernel_rfl) (by kernel_rfl) (fun _ _ _ _ _ h => h) ⟨x2, hb1⟩ ?_
    (try simp only [pickOps, List.filterMap_cons, List.filterMap_nil, List.getElem?_cons_zero, List.getElem?_cons_succ])
    repeat (
      refine readsQ_do (by rfl) ?_
      apply Exists.intro
      refine ⟨fun w' hw' => ?_, ?_⟩
      focus
        (try dsimp only at hw')
        go_split_ands
        go_simp
        (try with_reducible rfl)
      (try dsimp only [Act.put])
      (try simp only [List.setIfInBounds_toArray, List.set_cons_succ, List.set_cons_zero]))
    refine readsQ_nil ?_
    refine tailW_step ?_
    go_wp2_with (first
      | (go_at_call 93; (with_reducible refine (pull_at ((HO.out).ext (Ext.refl _).drew) HS1.out HNW1.out st u HST.out).mono ?_); rintro e w5 ⟨rfl, ⟨v5, o5, hv5⟩, c5⟩))
    obtain ⟨P5, y5, x5, HO5, HS5, HY5, HX5, HG5, BL5, C5⟩ : ∃ P5 y5 x5, Hid (OwnS w5 B b P5) ∧ Hid (Spot P5 L y5 R F x5) ∧ Hid (y5.vf = .slice (some ⟨g, o, none⟩) (F ++ [x5]).length cap) ∧ Hid (x5.vl = x1.vl ∧ x5.f.locals = x1.f.locals) ∧ Hid (P5.g = popG P1.g ∧ P5.now = L.length) ∧ Hid (∀ k ∈ P5.bl, k ∈ P1.bl ∨ w2.heap.size ≤ k) ∧ Hid (Chg (· ∈ b :: P1.bl) w2 w5) := by
      refine ⟨_, _, _, o5, ⟨rfl, rfl⟩, ?_, ⟨rfl, rfl⟩, ⟨(modTop_at HS1.out HNW1.out ?_).symm, HNW1.out⟩, repl_bl HS1.out (frame_bl (.inl hv5)), (Chg.of_ext (Ext.refl _).drew).trans (chg_spot HS1.out c5)⟩
      · have := HYV1.out
        rw [List.length_append, List.length_singleton] at this ⊢
        exact this
      · rw [HST.out]; simp
    obtain ⟨g', o', cap', hv', _, _, _, ⟨z1, z1'⟩, ⟨z2, z2'⟩, _, _⟩ := (HO5.out).spot HS5.out
    rw [HY5.out] at hv'
    simp only [Value.slice.injEq, Option.some.injEq, Addr.mk.injEq] at hv'
    obtain ⟨⟨rfl, rfl, -⟩, -, rfl⟩ := hv'
    have hb1' := Chg.cell c5 (b := bx) (o := 1) HBXC.out (by simpa using hb1)
    clear o5 hv5 c5
    rw [(HX5.out).1, HEX.out] at z2
    have HEX5 : Hid (x5.vl = .slice (some ⟨gl, ol, none⟩) x1.f.locals.length cl9) := by unfold Hid; rw [(HX5.out).1]; exact HEX.out
    have hxl5 : an < x5.f.locals.length := by rw [(HX5.out).2]; exact hxl
    have hlr5 := (((HO5.out).fs y5 (by rw [(HS5.out).fs]; simp)).fr x5 (by rw [(HS5.out).fr]; simp)).l
    rw [HEX5.out, (HX5.out).2] at hlr5
    obtain ⟨gl', ol', e5, _, hcells⟩ := hlr5.cell (by omega)
    simp only [Option.some.injEq, Addr.mk.injEq] at e5
    obtain ⟨rfl, rfl, -⟩ := e5
    obtain ⟨q0, q0'⟩ := hcells an (by omega)
    rw [ints_get _ _ hxl] at q0
    clear hcells hlr5
    refine nextW_go ⟨z2, hb1'⟩ ?_
    refine tailW_step ?_
    go_wp2_with fail
    refine nextW_go ⟨z2, hb1'⟩ ?_
    refine tailW_step ?_
    go_wp2_with fail
    refine nextW_end ?_
    go_wp2_with fail
    go_ret
    obtain ⟨e9, d9⟩ := done_ok HD2.out HWK.out C4.out BL4.out (Did.of (by
      obtain ⟨k1, k2⟩ := (HO5.out).setLocal HS5.out HEX5.out an hxl5 u hui
      refine Turn.step C5.out BL5.out ⟨⟨_, k1, ?_, fun k hk => .inl (repl_same (x' := ⟨{ x5.f with locals := x5.f.locals.set an u }, x5.vl, x5.vs⟩) HS5.out rfl k hk)⟩, k2⟩
      rw [← (HG5.out).1]
      exact (modTop_at HS5.out rfl rfl).symm))
    rw [e9]
    exact ⟨rfl, d9⟩
  have T3 : (k == 3) = false := beq_false_of_ne h3
  by_cases h10 : k = 10
  · subst h10
    have hfit : 1 ≤ (curX P1.g).stack.length := by have h := HW2.out; unfold WorkFit at h; simpa using h
    have hcx := curX_at HS1.out HNW1.out
    rw [hcx] at hfit
    obtain ⟨st, u, hst⟩ := split_last x1.f.stack (by omega)
    have hlast : lastV P1.g = u := by unfold lastV; rw [hcx, hst]; exact getD_last _ _ _ _ rfl
    have hui : I64 u := by have := (HO.out).lastI HT1.out (by rw [hcx]; omega); rwa [hlast] at this
    have HST := Lib.hid hst
    obtain ⟨g', o', cap', hv', _, _, _, ⟨x1a, x1a'⟩, ⟨x2, x2'⟩, _, hblg⟩ := (HO.out).spot HS1.out
    rw [HYV1.out] at hv'
    simp only [Value.slice.injEq, Option.some.injEq, Addr.mk.injEq] at hv'
    obtain ⟨⟨rfl, rfl, -⟩, -, rfl⟩ := hv'
    have hbxc : ¬ (rowBlock y1.vf = some bx ∨ rowBlock x1.vs = some bx) := by
      rintro (e | e)
      · exact HBX.out (List.mem_cons_of_mem _ ((HS1.out).bl (.inl e)))
      · exact HBX.out (List.mem_cons_of_mem _ ((HS1.out).bl (.inr (by unfold PFrame.bl; simp [e]))))
    have HBXC := Lib.hid hbxc
    clear hbxc
    clear hcx hst
    by_cases hu0 : u = 0
    · have TU : (u == 0) = true := by rw [hu0]; rfl
      have HWK : Hid (workG p P1.g 10 a = (0, setAtG (popG P1.g) a)) := by unfold Hid workG; simp [hlast, hu0]
      clear hlast hu0
      go_upto_region 20 with (first
        | (go_at_call 93; (with_reducible refine (pull_at HO.out HS1.out HNW1.out st u HST.out).mono ?_); rintro e w5 ⟨rfl, ⟨v5, o5, hv5⟩, c5⟩))
      obtain ⟨P5, y5, x5, HO5, HS5, HY5, HX5, HG5, BL5, C5⟩ : ∃ P5 y5 x5, Hid (OwnS w5 B b P5) ∧ Hid (Spot P5 L y5 R F x5) ∧ Hid (y5.vf = .slice (some ⟨g, o, none⟩) (F ++ [x5]).length cap) ∧ Hid (x5.vl = x1.vl ∧ x5.f.locals = x1.f.locals) ∧ Hid (P5.g = popG P1.g ∧ P5.now = L.length) ∧ Hid (∀ k ∈ P5.bl, k ∈ P1.bl ∨ w2.heap.size ≤ k) ∧ Hid (Chg (· ∈ b :: P1.bl) w2 w5) := by
        refine ⟨_, _, _, o5, ⟨rfl, rfl⟩, ?_, ⟨rfl, rfl⟩, ⟨(modTop_at HS1.out HNW1.out ?_).symm, HNW1.out⟩, repl_bl HS1.out (frame_bl (.inl hv5)), chg_spot HS1.out c5⟩
        · have := HYV1.out
          rw [List.length_append, List.length_singleton] at this ⊢
          exact this
        · rw [HST.out]; simp
      obtain ⟨g', o', cap', hv', _, _, _, ⟨z1, z1'⟩, ⟨z2, z2'⟩, _, _⟩ := (HO5.out).spot HS5.out
      rw [HY5.out] at hv'
      simp only [Value.slice.injEq, Option.some.injEq, Addr.mk.injEq] at hv'
      obtain ⟨⟨rfl, rfl, -⟩, -, rfl⟩ := hv'
      have hb1' := Chg.cell c5 (b := bx) (o := 1) HBXC.out hb1
      clear o5 hv5 c5
      go_wp2_with fail
      go_ret
      obtain ⟨e9, d9⟩ := done_ok HD2.out HWK.out C4.out BL4.out (Did.of (by
        obtain ⟨k1, k2⟩ := (HO5.out).setAt HS5.out HY5.out a hq1
        refine Turn.step C5.out BL5.out ⟨⟨_, k1, ?_, fun k hk => .inl (repl_same (x' := ⟨{ x5.f with at_ := a }, x5.vl, x5.vs⟩) HS5.out rfl k hk)⟩, k2⟩
        rw [← (HG5.out).1]
        exact (modTop_at HS5.out (HG5.out).2 rfl).symm))
      rw [e9]
      exact ⟨rfl, d9⟩
    · have TU : (u == 0) = false := beq_false_of_ne hu0
      have HWK : Hid (workG p P1.g 10 a = (0, popG P1.g)) := by unfold Hid workG; simp [hlast, hu0]
      have HFIT : Hid (1 ≤ (curX P1.g).stack.length) := by have h := HW2.out; unfold WorkFit at h; unfold Hid; simpa using h
      have HLAST := Lib.hid hlast
      clear hlast hu0
      go_wp2_with (first
        | (go_at_call 93; (with_reducible refine (pull_any HO.out HT1.out HFIT.out).mono ?_); rintro e w5 ⟨rfl, t5⟩; rw [HLAST.out]))
      go_ret
      obtain ⟨e9, d9⟩ := done_ok HD2.out HWK.out C4.out BL4.out (Did.of t5)
      rw [e9]
      exact ⟨rfl, d9⟩
  have T10 : (k == 10) = false := beq_false_of_ne h10
  by_cases h13 : k = 13
  · subst h13
    have hfit : MakeFit p a := by have h := HW2.out; unfold WorkFit at h; simpa using h
    obtain ⟨hm0, hm1, hm2, hm3⟩ := hfit
    obtain ⟨an, han⟩ : ∃ n : Nat, a = n := ⟨a.toNat, by omega⟩
    subst han
    have hanl : an < p.length := by omega
    have hFF : funcOf p an = p[an] := by unfold funcOf; simp [List.getD, List.getElem?_eq_getElem hanl]
    obtain ⟨N, hN⟩ : ∃ N : Nat, (funcOf p an).locals = N := ⟨(funcOf p an).locals.toNat, by omega⟩
    have hN9 : N ≤ 900 := by omega
    have HNF : Hid (p[an].locals = N) := by unfold Hid; rw [← hFF]; exact hN
    have hfr : freshFrame p an = ⟨an, 0, List.replicate N 0, []⟩ := by unfold freshFrame; rw [hN]; rfl
    have hfl1 : P1.g.fibers.length = P1.fs.length := by unfold PState.g; simp
    have hf9 : P1.fs.length ≤ 900 := by
      rw [← hfl1, HG1.out]
      have := (HF.out).1
      unfold advG modTop
      rw [modFib_len]; exact this
    obtain ⟨c10, -⟩ := (HO.out).c0
    obtain ⟨av, cv, ev, hcv1, hcv2⟩ := (HO.out).row.shape
    rw [ev] at c10
    by_cases h5 : P1.fs.length = 5
    · have T5 : (((P1.fs.length : Nat) : Int) == 5) = true := by rw [h5]; rfl
      have HWK : Hid (workG p P1.g 13 an = (2, P1.g)) := by unfold Hid workG makeG; simp [hfl1, h5]
      clear hfl1 h5 hN hfr hFF
      go_wp2_with fail
      go_ret
      obtain ⟨e9, d9⟩ := done_ok HD2.out HWK.out C4.out BL4.out (⟨Chg.refl _ _, fun h => by cases h⟩)
      rw [e9]
      exact ⟨rfl, d9⟩
    · have T5 : (((P1.fs.length : Nat) : Int) == 5) = false := beq_false_of_ne (by omega)
      have HWK : Hid (workG p P1.g 13 an = (0, { pushG P1.g (L.length : Int) P1.fs.length with fibers := (pushG P1.g (L.length : Int) P1.fs.length).fibers ++ [⟨[⟨an, 0, List.replicate N 0, []⟩], -1⟩] })) := by
        unfold Hid workG makeG
        simp only [hfl1, hfr, show P1.g.now = (L.length : Int) from HNW1.out]
        simp [h5]
      clear hfl1 h5 hN hfr hFF
      go_upto_region 28 with fail
      refine wp_region_ext_tail 10 (by kernel_rfl) (by kernel_rfl) ?_
      simp only [List.take_succ_cons, List.take_zero, List.drop_succ_cons, List.drop_zero]
      repeat (first
        | go_big_quiet_skip
        | (go_big_quiet_want
           unfold Oper.quiet
           apply Exists.intro
           refine ⟨fun w' hw' => ?_, ?_⟩
           focus
             have hcq := Ext.keep hw'
             go_simp
             first
               | with_reducible rfl
           (try dsimp only [Act.put])
           (try simp only [List.setIfInBounds_toArray, List.set_cons_succ, List.set_cons_zero])
           go_big_quiet_on))
      refine wpQuiet_nil ?_
      intro wq hq
      go_upto_region 29 with (first
        | (go_at_call 92; (with_reducible refine (push_any ((HO.out).ext (by ((repeat (first | assumption | exact Ext.refl _ | (exact And.left (by assumption)) | refine Ext.alloc ?_ _ | refine Ext.drew ?_ | refine Ext.drewN ?_ _ | refine Ext.setCell ?_ (by simp) _ | refine Ext.setCell ?_ (by simp; omega) _ | refine Ext.trans ?_ (by assumption))); done))) (L.length : Int) HTL.out HR1.out P1.fs.length (I64.nat (by omega))).mono ?_); rintro e w5 ⟨rfl, t5⟩))
      obtain ⟨⟨P5, o5, g5, s5⟩, c5⟩ := Turn.pre (by ((repeat (first | assumption | exact Ext.refl _ | (exact And.left (by assumption)) | refine Ext.alloc ?_ _ | refine Ext.drew ?_ | refine Ext.drewN ?_ _ | refine Ext.setCell ?_ (by simp) _ | refine Ext.setCell ?_ (by simp; omega) _ | refine Ext.trans ?_ (by assumption))); done)) t5
      obtain ⟨a5, c5v, e5, hc5, hm5⟩ := o5.row.shape
      obtain ⟨k50, -⟩ := o5.c0
      rw [e5] at k50
      have hl5 : P5.fs.length = P1.fs.length := by
        have e1 : P5.fs.length = P5.g.fibers.length := by unfold PState.g; simp
        have e2 : P1.fs.length = P1.g.fibers.length := by unfold PState.g; simp
        rw [e1, e2, g5]
        unfold pushG modTop
        rw [modFib_len]
      have hb15 := Chg.cell c5 (b := bx) (o := 1) HBX.out hb1
      have hp5 : Funcs w5 (· < B) (.slice (some ⟨bp, op, none⟩) p.length capp) p := Funcs.stays (c5.stays (fun k hk hm => by have := (HO.out).ge k hm; omega)) HPL.out
      obtain ⟨_, _, _, ep, _, _, _, ⟨_, hpL, _⟩, _⟩ := hp5.get hanl
      simp only [Value.slice.injEq, Option.some.injEq, Addr.mk.injEq] at ep
      obtain ⟨⟨rfl, rfl, -⟩, -, rfl⟩ := ep
      rw [HNF.out] at hpL
      have HB5 : Hid (B ≤ w5.heap.size) := Nat.le_trans o5.le (Nat.le_of_lt o5.c0.lt)
      have HO5 := Lib.hid o5
      have HG5 := Lib.hid g5
      have HS5 := Lib.hid s5
      have HC5 := Lib.hid c5
      have HE5 := Lib.hid e5
      have HL5 := Lib.hid hl5
      have hl59 : P5.fs.length ≤ 900 := by omega
      have HROW5 : Hid (RowAt w5 B 2 (.slice a5 P5.fs.length c5v) P5.fs.length (P5.fs.flatMap fiberF)) := by unfold Hid; rw [← e5]; exact o5.row
      have HNB5 : Hid (¬ rowBlock (.slice a5 P5.fs.length c5v) = some b) := by unfold Hid; rw [← e5]; exact fun e => o5.dis.1 (PState.mem_vfs e)
      have HNX5 : Hid (¬ rowBlock (.slice a5 P5.fs.length c5v) = some bx) := by unfold Hid; rw [← e5]; exact fun e => not_grown HBX.out s5 (Cx.lt HB1.out) (List.mem_cons_of_mem _ (PState.mem_vfs e))
      have HNP5 : Hid (¬ rowBlock (.slice a5 P5.fs.length c5v) = some bp) := by
        unfold Hid
        rw [← e5]
        intro e
        have h1 := o5.ge bp (List.mem_cons_of_mem _ (PState.mem_vfs e))
        obtain ⟨b7, o7, _, e7, _, _, ⟨h7, _⟩, _⟩ := hp5.get hanl
        simp only [Value.slice.injEq, Option.some.injEq, Addr.mk.injEq] at e7
        rw [← e7.1.1] at h7
        have : bp < B := h7
        omega
      clear o5 g5 s5 c5 e5 hp5 t5 hq hl5
      rename World => w5
      have HK50 := Lib.hid k50
      have HB15 := Lib.hid hb15
      have HPL5 := Lib.hid hpL
      refine wp_region_rt (fun w' => w'.cell? ⟨b, 0, none⟩ = some (.slice a5 P5.fs.length c5v) ∧ w'.cell? ⟨bx, 1, none⟩ = some (.int .i64 an) ∧ w'.cell? ⟨bp, op + an * 3 + 1, none⟩ = some (.int .i64 N))
        21 [0, 1, 2, 3, 4, 5, 6, 7, 8, 9, 10, 11, 12] [13, 14, 15, 16, 17, 18, 19, 20, 21] (by kernel_rfl) (by kernel_rfl) (fun _ _ _ _ _ h => h) ⟨k50, hb15, hpL⟩ ?_
      (try simp only [pickOps, List.filterMap_cons, List.filterMap_nil, List.getElem?_cons_zero, List.getElem?_cons_succ])
      repeat (
        refine readsQ_do (by rfl) ?_
        apply Exists.intro
        refine ⟨fun w' hw' => ?_, ?_⟩
        focus
          (try dsimp only at hw')
          go_split_ands
          go_simp
          (try with_reducible rfl)
        (try dsimp only [Act.put])
        (try simp only [List.setIfInBounds_toArray, List.set_cons_succ, List.set_cons_zero]))
      refine readsQ_nil ?_
      refine tailW_step ?_
      go_wp2_with (first
        | (at_make; refine wpList_make_full _ rfl _ _ 24 rfl w5.heap.size 3 i0 (.int .i64 0) 1 Tryz.underlying24 hi0 hz0 hz1 .i64 .i64 _ _ N rfl rfl rfl rfl (by rw [hz2]; omega) (by unfold maxLen; omega) (by simp) ?_; intro w6 hown6 hgr6; have hE6 := (Ext.refl w5).drew.trans (ext_none hgr6); have hrow6 := IRow.made hown6))
      have HE6 := Lib.hid hE6
      have hS6 : w6.cell? ⟨b, 0, none⟩ = some (.slice a5 P5.fs.length c5v) ∧ w6.cell? ⟨bx, 1, none⟩ = some (.int .i64 an) ∧ w6.cell? ⟨bp, op + an * 3 + 1, none⟩ = some (.int .i64 N) := ⟨Ext.cell hE6 HK50.out, Ext.cell hE6 HB15.out, Ext.cell hE6 HPL5.out⟩
      have HS6 := Lib.hid hS6
      clear hE6 hgr6 hown6 hS6 k50 hb15 hpL
      refine nextW_go HS6.out ?_
      refine tailW_step ?_
      go_wp2_with fail
      refine nextW_go HS6.out ?_
      refine tailW_step ?_
      go_wp2_with fail
      have HS7 : Hid ((w6.alloc (.cells #[.int .i64 an, .int .i64 0, .slice (some ⟨w5.heap.size, 0, none⟩) N N, .slice none 0 0] 43)).cell? ⟨b, 0, none⟩ = some (.slice a5 P5.fs.length c5v) ∧ (w6.alloc (.cells #[.int .i64 an, .int .i64 0, .slice (some ⟨w5.heap.size, 0, none⟩) N N, .slice none 0 0] 43)).cell? ⟨bx, 1, none⟩ = some (.int .i64 an) ∧ (w6.alloc (.cells #[.int .i64 an, .int .i64 0, .slice (some ⟨w5.heap.size, 0, none⟩) N N, .slice none 0 0] 43)).cell? ⟨bp, op + an * 3 + 1, none⟩ = some (.int .i64 N)) :=
        ⟨Ext.cell ((Ext.refl _).alloc _) (HS6.out).1, Ext.cell ((Ext.refl _).alloc _) (HS6.out).2.1, Ext.cell ((Ext.refl _).alloc _) (HS6.out).2.2⟩
      refine nextW_go HS7.out ?_
      refine tailW_step ?_
      go_wp2_with fail
      refine nextW_go HS7.out ?_
      refine tailW_step ?_
      go_wp2_with fail
      have HS8 := Lib.hid (cells3_ext (HS7.out) ((Ext.refl _).alloc (.cells #[.slice (some ⟨w6.heap.size, 0, none⟩) 1 1, .int .i64 (-1)] 41)))
      have HS66 : Hid ((w6.alloc (.cells #[.int .i64 an, .int .i64 0, .slice (some ⟨w5.heap.size, 0, none⟩) N N, .slice none 0 0] 43)).heap.size = w6.heap.size + 1) := Array.size_push _
      refine nextW_go HS8.out ?_
      refine tailW_step ?_
      go_wp2_with (first
        | (at_builtin; refine wpList_append_row rfl _ _ 23 rfl B 41 i2 (.agg #[.slice none 0 0, .int .i64 0]) 2 32 Tryz.underlying23 hi2 hz6 hz7 hz8 rfl (by decide) _ _ _ rfl (by exact (HROW5.out.ext (((HE6.out).alloc _).alloc _) (by decide))) 1 _ (by rw [← HS66.out]; exact src_cells _ _ 2 rfl (by simp [Value.oneCell']) _) (by unfold maxLen; omega) (by omega) (by exact Nat.le_trans HB5.out (Ext.size (((HE6.out).alloc _).alloc _))) ?_; intro v1 Wv1 rv1; have RV := Lib.hid rv1; obtain ⟨a9, cap9, rfl, _, _⟩ := rv1.1.shape; clear rv1))
      have hRV : NewRow ((w6.alloc (.cells #[.int .i64 an, .int .i64 0, .slice (some ⟨w5.heap.size, 0, none⟩) N N, .slice none 0 0] 43)).alloc (.cells #[.slice (some ⟨w6.heap.size, 0, none⟩) 1 1, .int .i64 (-1)] 41)) Wv1 B 2 (.slice a5 P5.fs.length c5v) (.slice a9 (P5.fs.length + 1) cap9) (P5.fs.length + 1) (P5.fs.flatMap fiberF ++ [.slice (some ⟨w6.heap.size, 0, none⟩) 1 1, .int .i64 (-1)]) := RV.out
      have HRV := Lib.hid hRV
      have HS9 : Hid (Wv1.cell? ⟨b, 0, none⟩ = some (.slice a5 P5.fs.length c5v) ∧ Wv1.cell? ⟨bx, 1, none⟩ = some (.int .i64 an) ∧ Wv1.cell? ⟨bp, op + an * 3 + 1, none⟩ = some (.int .i64 N)) :=
        ⟨Chg.cell hRV.2.1 HNB5.out (HS8.out).1, Chg.cell hRV.2.1 HNX5.out (HS8.out).2.1, Chg.cell hRV.2.1 HNP5.out (HS8.out).2.2⟩
      have HCB9 : Hid (Cx Wv1 b 0 (.slice a5 P5.fs.length c5v)) := by
        have h1 := (((HO5.out).c0.ext ((HE6.out).alloc (.cells #[.int .i64 an, .int .i64 0, .slice (some ⟨w5.heap.size, 0, none⟩) N N, .slice none 0 0] 43))).ext ((Ext.refl _).alloc (.cells #[.slice (some ⟨w6.heap.size, 0, none⟩) 1 1, .int .i64 (-1)] 41))).chg hRV.2.1 HNB5.out
        rw [HE5.out] at h1
        exact h1
      obtain ⟨q9, q9'⟩ := HCB9.out
      clear hRV
      refine nextW_go HS9.out ?_
      refine tailW_step ?_
      go_wp2_with fail
      refine nextW_go HS9.out ?_
      refine tailW_step ?_
      go_wp2_with fail
      refine nextW_go HS9.out ?_
      refine tailW_step ?_
      go_wp2_with fail
      refine nextW_end ?_
      go_wp2_with fail
      go_ret
      obtain ⟨e9, d9⟩ := done_ok HD2.out HWK.out C4.out BL4.out (Did.of (by
        have hr6 : RowAt w6 w5.heap.size 1 (.slice (some ⟨w5.heap.size, 0, none⟩) N N) N (ints (List.replicate N 0)) := by have := hrow6; unfold IRow at this; rwa [List.length_replicate] at this
        have h9 := add_fin (HO5.out) (HE6.out) hr6 43 41 (by rw [HE5.out]; exact HRV.out) (I64.nat (n := an) (by omega)) (by omega) (by omega)
        rw [HG5.out] at h9
        exact Turn.step HC5.out HS5.out h9))
      rw [e9]
      exact ⟨rfl, d9⟩
  have T13 : (k == 13) = false := beq_false_of_ne h13
  have hfit : 2 ≤ (curX P1.g).stack.length := by have h := HW2.out; unfold WorkFit at h; rwa [if_neg h0, if_neg h1, if_neg h2, if_neg h3, if_neg h9, if_neg h10, if_neg h11, if_neg h12, if_neg h13, if_neg h14, if_neg h15, if_neg h16] at h
  have HWK : Hid (workG p P1.g k a = (0, pushG (popG (popG P1.g)) (L.length : Int) (reckG k (lastV (popG P1.g)) (lastV P1.g)))) := by
    unfold Hid workG
    rw [if_neg h0, if_neg h1, if_neg h2, if_neg h3, if_neg h9, if_neg h10, if_neg h11, if_neg h12, if_neg h13, if_neg h14, if_neg h15, if_neg h16, show P1.g.now = (L.length : Int) from HNW1.out]
  have HFIT : Hid (1 ≤ (curX P1.g).stack.length) := by unfold Hid; omega
  have HFIT2 : Hid (1 ≤ (curX (popG P1.g)).stack.length) := by unfold Hid; rw [curX_pop P1.g HT1.out]; show 1 ≤ (curX P1.g).stack.dropLast.length; rw [List.length_dropLast]; omega
  generalize hlv : lastV P1.g = v1 at *
  generalize hlv2 : lastV (popG P1.g) = v2 at *
  have HLV := Lib.hid hlv
  have HLV2 := Lib.hid hlv2
  have hri : I64 (reckG k v2 v1) := reck_i64 k v2 v1
  obtain ⟨rv, hrv⟩ : ∃ rv, reckG k v2 v1 = rv := ⟨_, rfl⟩
  rw [hrv] at hri
  have HRV := Lib.hid hrv
  clear h0 h1 h2 h3 h9 h10 h11 h12 h13 h14 h15 h16 hfit hlv hlv2 hrv
  go_upto_region 7 with (first
    | (go_at_call 93; (with_reducible refine (pull_any HO.out HT1.out HFIT.out).mono ?_); rintro e w5 ⟨rfl, t5⟩; rw [HLV.out]; obtain ⟨⟨P5, o5, g5, s5⟩, c5⟩ := t5; have HO5 := Lib.hid o5; have HG5 := Lib.hid g5; have HT5 : Hid (HasTop P5.g P5.g.now) := (by unfold Hid; rw [g5]; exact (HT1.out).pop); have HF5 : Hid (1 ≤ (curX P5.g).stack.length) := (by unfold Hid; rw [g5]; exact HFIT2.out); have hnb5 : bx ∉ b :: P5.bl := (not_grown HBX.out s5 (Cx.lt HB1.out)); have HB05 := Chg.cell c5 (b := bx) (o := 0) HBX.out hb0; have HN5 := Lib.hid hnb5; have HS5 := Lib.hid s5; have HC5 := Lib.hid c5; have hlt5 := c5.size; clear o5 g5 s5 c5 hnb5)
    | (go_at_call 93; (with_reducible refine (pull_any HO5.out HT5.out HF5.out).mono ?_); rintro e w6 ⟨rfl, t6⟩; rw [HG5.out, HLV2.out]; obtain ⟨⟨P6, o6, g6, s6⟩, c6⟩ := t6; have HB06 := Chg.cell c6 (b := bx) (o := 0) HN5.out HB05; have HO6 := Lib.hid o6; have HG6 : Hid (P6.g = popG (popG P1.g)) := (by unfold Hid; rw [g6, HG5.out]); have HS6 := Lib.hid s6; have HC6 := Lib.hid c6; clear o6 g6 s6 c6))
  have HN6 : Hid (P6.now = L.length) := by have h : P6.g.now = P1.g.now := (by rw [HG6.out]; rfl); unfold Hid; rw [show P6.now = P6.g.now from rfl, h]; exact HNW1.out
  have HT6 : Hid (HasTop P6.g (L.length : Int)) := by unfold Hid; rw [HG6.out]; exact (HTL.out).pop.pop
  have HR6 : Hid (Room P6.g) := by unfold Hid; rw [HG6.out]; exact (HR1.out).pop.pop
  obtain ⟨c61, -⟩ := (HO6.out).c1
  rw [HN6.out] at c61
  refine wp_region_ext_tail 10 (by kernel_rfl) (by kernel_rfl) ?_
  simp only [List.take_succ_cons, List.take_zero, List.drop_succ_cons, List.drop_zero]
  repeat (first
    | go_big_quiet_skip
    | (go_big_quiet_want
       unfold Oper.quiet
       apply Exists.intro
       refine ⟨fun w' hw' => ?_, ?_⟩
       focus
         have hcq := Ext.keep hw'
         go_simp
         first
           | with_reducible rfl
           | (go_at_call 99; refine (reckoned_any k v2 v1 _).mono ?_; rintro e w7 ⟨rfl, rfl⟩; rw [HRV.out]; exact ⟨rfl, hw'⟩)
       (try dsimp only [Act.put])
       (try simp only [List.setIfInBounds_toArray, List.set_cons_succ, List.set_cons_zero])
       go_big_quiet_on))
  refine wpQuiet_nil ?_
  intro wq hq
  go_wp2_with (first
    | (go_at_call 92; (with_reducible refine (push_any ((HO6.out).ext (by ((repeat (first | assumption | exact Ext.refl _ | (exact And.left (by assumption)) | refine Ext.alloc ?_ _ | refine Ext.drew ?_ | refine Ext.drewN ?_ _ | refine Ext.setCell ?_ (by simp) _ | refine Ext.setCell ?_ (by simp; omega) _ | refine Ext.trans ?_ (by assumption))); done))) (L.length : Int) HT6.out HR6.out rv hri).mono ?_); rintro e w8 ⟨rfl, t8⟩))
  go_ret
  have hw3 := HWK.out
  rw [HRV.out, ← HG6.out] at hw3
  obtain ⟨e9, d9⟩ := done_ok HD2.out hw3 C4.out BL4.out (Did.of (Turn.step HC5.out HS5.out (Turn.step HC6.out HS6.out (Turn.pre (by ((repeat (first | assumption | exact Ext.refl _ | (exact And.left (by assumption)) | refine Ext.alloc ?_ _ | refine Ext.drew ?_ | refine Ext.drewN ?_ _ | refine Ext.setCell ?_ (by simp) _ | refine Ext.setCell ?_ (by simp; omega) _ | refine Ext.trans ?_ (by assumption))); done)) t8))))
  rw [e9]
  exact ⟨rfl, d9⟩
end Go.Proofs.YtgahbngbpfilgaaGreat
end
section
set_option maxHeartbeats 4000000
set_option maxRecDepth 100000
namespace Go.Proofs.YtgahbngbpfilgaaGreat
open Go Go.RowKit
theorem call_end {w wq Wm Wv : World} {B b : Nat} {P P' : PState} {p : List GFunc} {n : Int} {gl N j : Nat} {L R : List PFiber} {y : PFiber} {F : List PFrame} {x : PFrame} {g o nn cap : Nat} {v1 : Value} (own : OwnS wq B b P') (hg : P'.g = leaveG P.g j) (hbl : ∀ k ∈ P'.bl, k ∈ P.bl ∨ w.heap.size ≤ k) (hch : Chg (· ∈ b :: P.bl) w wq) (nl : 0 < N → gl ∉ b :: P'.bl) (hrow : RowAt wq w.heap.size 1 (.slice (some ⟨gl, 0, none⟩) N N) N (ints (argsOf p P.g n j)))
  (hs : Spot P' L y R F x) (hnw : P'.now = L.length) (hv : P'.vfs = .slice (some ⟨g, o, none⟩) nn cap) (hRV : NewRow Wm Wv B 4 y.vf v1 (y.fr.length + 1) (y.fr.flatMap frameF ++ [.int .i64 n, .int .i64 0, .slice (some ⟨gl, 0, none⟩) N N, .slice none 0 0]))
  (hE : Ext wq Wm) (h9 : y.fr.length < 1000) (hgl : w.heap.size ≤ gl) (hB : B ≤ w.heap.size) (hlg : 0 < N → gl < wq.heap.size) (hI : I64 n) (hA : ∀ k ∈ argsOf p P.g n j, I64 k) (hlen : (argsOf p P.g n j).length = N) (hN : N ≤ 1000) :
  Did w (Wv.setCell ⟨g, o + L.length * 2, none⟩ v1) B b P (0, modFib (leaveG P.g j) P.g.now fun f => { f with frames := f.frames ++ [⟨n, 0, argsOf p P.g n j, []⟩] }) := by
 obtain ⟨r1, r2, r3⟩ := hRV
 have hym : y ∈ P'.fs := by rw [hs.fs]; simp
 have hyb : ∀ k, rowBlock y.vf = some k → k ∈ P'.bl := fun k hk => PState.mem_fs hym (by unfold PFiber.bl; simp [hk])
 have hvb : ∀ k, rowBlock (.slice (some ⟨gl, 0, none⟩) N N) = some k → k = gl ∧ 0 < N := fun k hk => by
  by_cases h0 : N = 0
  ·subst h0; simp [rowBlock] at hk
  ·rw [rowBlock_some _ _ _ _ h0] at hk; cases hk; exact ⟨rfl, by omega⟩
 let X : PFrame := ⟨⟨n, 0, argsOf p P.g n j, []⟩, .slice (some ⟨gl, 0, none⟩) N N, .slice none 0 0⟩
 have hXbl : ∀ k ∈ X.bl, k = gl ∧ 0 < N := fun k hk => by
  unfold PFrame.bl at hk
  rcases List.mem_append.1 hk with h1 | h1
  ·exact hvb k (by simpa using h1)
  ·simp [X, rowBlock] at h1
 have hXO : FrameO Wv B X := by
  refine ⟨⟨hI, I64.zero, hA, fun k hk => by cases hk⟩, ?_, RowAt.nil _ _ _ _, ⟨by show (argsOf p P.g n j).length ≤ 1000; omega, by show 0 ≤ 1000; omega⟩⟩
  show RowAt Wv B 1 (.slice (some ⟨gl, 0, none⟩) N N) (argsOf p P.g n j).length (ints (argsOf p P.g n j))
  rw [hlen]
  refine ((hrow.mono hB).ext hE (by decide)).chg r2 (fun k hk e => ?_) (by decide)
  obtain ⟨rfl, h0⟩ := hvb k hk
  exact nl h0 (List.mem_cons_of_mem _ (hyb _ e))
 have hcg : Chg (fun k => rowBlock y.vf = some k) wq Wv := (Chg.of_ext hE).trans r2
 have hv1 : rowBlock v1 = rowBlock y.vf ∨ ∀ k, rowBlock v1 = some k → wq.heap.size ≤ k := r3.imp id fun e k hk => Nat.le_trans hE.size (e k hk)
 obtain ⟨o9, c9⟩ := own.addFrame (x := X) hs.fs hv hcg (by
   have e : (y.fr ++ [X]).flatMap frameF = y.fr.flatMap frameF ++ [.int .i64 n, .int .i64 0, .slice (some ⟨gl, 0, none⟩) N N, .slice none 0 0] := by rw [List.flatMap_append]; rfl
   rw [e, List.length_append, List.length_singleton]; exact r1) hXO h9 hv1 (by
   show ((rowBlock (.slice (some ⟨gl, 0, none⟩) N N)).toList ++ (rowBlock (.slice none 0 0)).toList).Nodup
   cases rowBlock (.slice (some ⟨gl, 0, none⟩) N N) <;> simp [rowBlock]) (fun k hk => by
   obtain ⟨rfl, h0⟩ := hXbl k hk
   refine ⟨nl h0, fun e => ?_⟩
   rcases hv1 with h1 | h1
   ·exact nl h0 (List.mem_cons_of_mem _ (hyb _ (h1 ▸ e)))
   ·have := h1 _ e; have := hlg h0; omega)
 refine Did.of ⟨⟨_, o9, ?_, fun k hk => ?_⟩, hch.trans' c9 fun k hk hm => ?_⟩
 ·rw [← hg]
  refine (modFib_at hs.fs (n := P.g.now) ?_ ?_).symm
  ·have e : P'.g.now = P.g.now := by rw [hg]; rfl
   rw [← e]; exact hnw
  ·unfold PFiber.g
   simp [X]
 ·unfold PState.bl at hk
  simp only [List.flatMap_append, List.flatMap_cons, List.mem_append] at hk
  have hback : k ∈ P'.bl → k ∈ P.bl ∨ w.heap.size ≤ k := hbl k
  rcases hk with (h3 | h3) | h3 | h3 | h3
  ·exact hback (PState.mem_vfs (by simpa using h3))
  ·exact hback (PState.mem_vo (by simpa using h3))
  ·obtain ⟨z, hz, h4⟩ := List.mem_flatMap.1 h3
   exact hback (PState.mem_fs (y := z) (by rw [hs.fs]; simp [hz]) h4)
  ·unfold PFiber.bl at h3
   simp only [List.flatMap_append, List.mem_append] at h3
   rcases h3 with h4 | h4 | h4
   ·have h5 : rowBlock v1 = some k := by simpa using h4
    rcases hv1 with h6 | h6
    ·exact hback (hyb k (h6 ▸ h5))
    ·exact .inr (Nat.le_trans hch.size (h6 k h5))
   ·refine hback (PState.mem_fs hym ?_)
    unfold PFiber.bl
    exact List.mem_append.2 (.inr h4)
   ·have h5 : k ∈ X.bl := by simpa using h4
    exact .inr (by rw [(hXbl k h5).1]; exact hgl)
  ·obtain ⟨z, hz, h4⟩ := List.mem_flatMap.1 h3
   exact hback (PState.mem_fs (y := z) (by rw [hs.fs]; simp [hz]) h4)
 ·rcases hbl k hm with h1 | h1
  ·exact List.mem_cons_of_mem _ h1
  ·omega
theorem argsOf_all (p : List GFunc) (s : GState) (a : Int) (A N : Nat) (hA : (funcOf p a).args = A) (hN : (funcOf p a).locals = N) : argsOf p s a A = (curX s).stack.drop ((curX s).stack.length - A) ++ (List.replicate N 0).drop A := by
 unfold argsOf
 rw [hA, hN, List.drop_replicate]
 simp
theorem engCall_any (n : Nat) {P : PState} {w : World} {B b eb : Nat} {p : List GFunc} {a : Option Addr} {cp : Nat} (h : EngS w B b eb p a cp P) (hp : Funcs w (· < B) (.slice a p.length cp) p) (ht : HasTop P.g P.g.now) (h6 : (curF P.g).frames.length ≤ 6) (hb : CallFit p P.g n) :
    Calls Tryz.prog 105 #[.pointer (some ⟨eb, 0, none⟩), .int .i64 n] w fun e w' => e = endS (callG p P.g n).1 ∧ Did w w' B b P (callG p P.g n) := by
  obtain ⟨-, hn, hA0, hAL, hL9, hst⟩ := hb
  have hn : n < p.length := by omega
  have hF : funcOf p n = p[n] := by unfold funcOf; simp [List.getD, List.getElem?_eq_getElem hn]
  obtain ⟨A, hA⟩ : ∃ A : Nat, (funcOf p n).args = A := ⟨(funcOf p n).args.toNat, by omega⟩
  obtain ⟨N, hN⟩ : ∃ N : Nat, (funcOf p n).locals = N := ⟨(funcOf p n).locals.toNat, by omega⟩
  obtain ⟨bp, op, cap, ep, hcap, hby, ⟨hpB, hpA, _⟩, _⟩ := hp.get hn
  simp only [Value.slice.injEq, true_and] at ep
  obtain ⟨rfl, rfl⟩ := ep
  rw [← hF, hA] at hpA
  have hpB : bp < B := hpB
  have hAN : A ≤ N := by omega
  have hAs : A ≤ (curX P.g).stack.length := by omega
  have hN9 : N ≤ 900 := by omega
  have hAt : (funcOf p n).args.toNat = A := by omega
  obtain ⟨L, y, R, F, x, hs, hnw⟩ := hasSpot ht
  have hnw : P.now = L.length := hnw
  obtain ⟨g, o, cap2, hvf, hlt, d0, -, hbl⟩ := h.own.place hs.fs
  have hym : y ∈ P.fs := by rw [hs.fs]; simp
  obtain ⟨ay, cy, ey, hcy, _⟩ := (h.own.fs y hym).row.shape
  rw [ey] at d0
  obtain ⟨d0, d0'⟩ := d0
  obtain ⟨⟨c0, c0'⟩, ⟨k1, k1'⟩⟩ := (⟨h.own.c0, h.own.c1⟩ : _ ∧ _)
  obtain ⟨⟨x0, x0'⟩, ⟨x1, x1'⟩⟩ := h.eng
  rw [hnw] at k1
  rw [hvf] at c0
  have hfl : (curF P.g).frames.length = y.fr.length := by rw [curF_at hs.fs hnw]; unfold PFiber.g; simp
  rw [hfl] at h6
  have hG : callG p P.g n = if y.fr.length = 6 then (2, P.g) else (0, modFib (leaveG P.g A) P.g.now fun f => { f with frames := f.frames ++ [⟨n, 0, argsOf p P.g n A, []⟩] }) := by unfold callG; rw [hfl, hAt]
  have H := Lib.hid h
  have HP := Lib.hid hp
  have HT := Lib.hid ht
  have HA := Lib.hid hA
  have HN := Lib.hid hN
  have HAS := Lib.hid hAs
  have HG := Lib.hid hG
  have HB : Hid (B ≤ w.heap.size) := Nat.le_trans h.own.le (Nat.le_of_lt h.own.c0.lt)
  have HS := Lib.hid hs
  have HNW := Lib.hid hnw
  obtain ⟨i0, hi0, hz0, hz1, hz2⟩ := info_parts infoI
  have RA := alloc_keep
  clear h hp ht hF hA0 hAL hL9 hA hN hAt hst hG hs hnw hvf ey hbl hym hfl hcy hAs
  go_enter Tryz.func105, Tryz.ntmps105
  go_upto_region 0 with fail
  rcases Nat.lt_or_ge y.fr.length 6 with h5 | h5
  · have T6 : decide (((y.fr.length : Nat) : Int) < 6) = true := decide_eq_true (by omega)
    have HGE : Hid (callG p P.g n = (0, modFib (leaveG P.g A) P.g.now fun f => { f with frames := f.frames ++ [⟨n, 0, argsOf p P.g n A, []⟩] })) := by unfold Hid; rw [HG.out, if_neg (by omega)]
    clear h5 HG
    refine wp_region_ext_tail 19 (by kernel_rfl) (by kernel_rfl) ?_
    simp only [List.take_succ_cons, List.take_zero, List.drop_succ_cons, List.drop_zero]
    repeat (first
      | go_big_quiet_skip
      | (go_big_quiet_want
         unfold Oper.quiet
         apply Exists.intro
         refine ⟨fun w' hw' => ?_, ?_⟩
         focus
           have hcq := Ext.keep hw'
           go_simp
           first
             | with_reducible rfl
         (try dsimp only [Act.put])
         (try simp only [List.setIfInBounds_toArray, List.set_cons_succ, List.set_cons_zero])
         go_big_quiet_on))
    refine wpQuiet_nil ?_
    intro wq hq
    have HQ := Lib.hid hq
    obtain ⟨y1, y1'⟩ := Cx.ext (W := w) ⟨x1, x1'⟩ hq
    have HPQ := Lib.hid (Funcs.stays (Ext.stays hq) HP.out)
    clear hq
    go_upto_region 2 with (first
      | (go_at_call 123; (with_reducible refine (stepMust_any _ _ _).mono ?_); rintro e w3 ⟨he, rfl⟩; simp only [mustS] at he; subst he)
      | (go_at_call 59; (with_reducible refine (frameO_any p _ (· < B) n N _ HPQ.out hn HN.out hN9).mono ?_); rintro e w4 ⟨⟨gl, rfl, hrow4, hgl4⟩, hx4⟩))
    have hbx4 : 0 < N → gl < w4.heap.size := fun h0 => hrow4.lt2 (by decide) _ (rowBlock_some _ _ _ _ (by omega))
    obtain ⟨W5, hW5⟩ : ∃ W5, W5 = w4.alloc (.cells #[.int .i64 n, .int .i64 0, .slice (some ⟨gl, 0, none⟩) N N, .slice none 0 0] 43) := ⟨_, rfl⟩
    have hE5 : Ext w4 W5 := by rw [hW5]; exact (Ext.refl _).alloc _
    have q0 : Cx W5 w4.heap.size 0 (.int .i64 n) := by rw [hW5]; exact Cx.new w4 [.int .i64 n, .int .i64 0, .slice (some ⟨gl, 0, none⟩) N N, .slice none 0 0] _ (j := 0) rfl
    have q1 : Cx W5 w4.heap.size 1 (.int .i64 0) := by rw [hW5]; exact Cx.new w4 [.int .i64 n, .int .i64 0, .slice (some ⟨gl, 0, none⟩) N N, .slice none 0 0] _ (j := 1) rfl
    have q2 : Cx W5 w4.heap.size 2 (.slice (some ⟨gl, 0, none⟩) N N) := by rw [hW5]; exact Cx.new w4 [.int .i64 n, .int .i64 0, .slice (some ⟨gl, 0, none⟩) N N, .slice none 0 0] _ (j := 2) rfl
    have q3 : Cx W5 w4.heap.size 3 (.slice none 0 0) := by rw [hW5]; exact Cx.new w4 [.int .i64 n, .int .i64 0, .slice (some ⟨gl, 0, none⟩) N N, .slice none 0 0] _ (j := 3) rfl
    simp only [← hW5]
    have HE5 := Lib.hid ((HQ.out.trans hx4).trans hE5)
    have HR5 := Lib.hid (hrow4.ext hE5 (by decide))
    have HGL : Hid (w.heap.size ≤ gl ∧ w.heap.size ≤ w3.heap.size ∧ w.heap.size ≤ w4.heap.size ∧ w4.heap.size < W5.heap.size ∧ (0 < N → gl < w4.heap.size)) := ⟨Nat.le_trans HQ.out.size hgl4, HQ.out.size, (HQ.out.trans hx4).size, q0.lt, hbx4⟩
    have Q5 := Lib.hid (⟨q0, q1, q2, q3⟩ : _ ∧ _ ∧ _ ∧ _)
    clear hW5 hE5 hrow4 hgl4 hx4 hbx4 q0 q1 q3 HPQ y1 y1'
    generalize w4.heap.size = bx at *
    have H5 := Lib.hid (H.out.ext HE5.out)
    obtain ⟨q2, q2'⟩ := q2
    obtain ⟨y1, y1'⟩ := Cx.ext (W := w) ⟨x1, x1'⟩ HE5.out
    have hpA5 := Ext.cell HE5.out hpA
    refine wp_region_rtt (fun w' => w'.cell? ⟨bx, 2, none⟩ = some (.slice (some ⟨gl, 0, none⟩) N N) ∧ w'.cell? ⟨eb, 1, none⟩ = some (.slice (some ⟨bp, op, none⟩) p.length cp) ∧ w'.cell? ⟨bp, op + n * 3, none⟩ = some (.int .i64 A)) 12 [0, 1, 2, 3, 4, 5, 6, 7, 8, 9, 10] [11, 12] (by kernel_rfl) (by kernel_rfl) (fun _ _ _ _ _ h => h) (by exact ⟨q2, y1, hpA5⟩) ?_
    (try simp only [pickOps, List.filterMap_cons, List.filterMap_nil, List.getElem?_cons_zero, List.getElem?_cons_succ])
    repeat (
      refine readsQ_do (by rfl) ?_
      apply Exists.intro
      refine ⟨fun w' hw' => ?_, ?_⟩
      focus
        (try dsimp only at hw')
        go_split_ands
        go_simp
        (try with_reducible rfl)
      (try dsimp only [Act.put])
      (try simp only [List.setIfInBounds_toArray, List.set_cons_succ, List.set_cons_zero]))
    refine readsQ_nil ?_
    have HBXO : Hid (bx ∉ b :: P.bl) := fun hm => by have := H.out.own.lt _ hm; have := HGL.out; omega
    have HBPO : Hid (bp ∉ b :: P.bl) := fun hm => by have := H.out.own.ge _ hm; omega
    refine tailW_step ?_
    go_wp2_with (first
      | (go_at_call 75; (with_reducible refine (engPull_any (H5.out.own.ext (Ext.refl _).drew) (H5.out.eng.ext (Ext.refl _).drew) HT.out A HAS.out).mono ?_); rintro e w6 ⟨v1, rfl, hv1, t6⟩))
    have hd6 : W5.drew.heap.size = W5.heap.size := rfl
    obtain ⟨P2, h2, g2, bl2, ch2⟩ := (H5.out.ext (Ext.refl W5).drew).turn t6
    rw [hd6] at bl2
    have hE6 : Ext W5 W5.drew := (Ext.refl _).drew
    have z2 := Cx.chg (Cx.ext (W := W5) ⟨q2, q2'⟩ hE6) ch2 HBXO.out
    have z1 := Cx.chg (Cx.ext (W := W5) ⟨y1, y1'⟩ hE6) ch2 H.out.off
    have zA := Chg.cell ch2 HBPO.out (Ext.cell hE6 hpA5)
    obtain ⟨a1, c1, e1, _, _, _⟩ := id hv1
    have hdl : ((curX P.g).stack.drop ((curX P.g).stack.length - A)).length = A := by rw [List.length_drop]; have := HAS.out; omega
    rw [hdl] at e1
    subst e1
    have hr6 := (HR5.out.ext hE6 (by decide)).chg ch2 (fun k hk e => by
      have h0 : 0 < N := by
        rcases Nat.eq_zero_or_pos N with h0 | h0
        · subst h0; simp [rowBlock] at hk
        · exact h0
      rw [rowBlock_some _ _ _ _ (by omega)] at hk
      cases hk
      have := H.out.own.lt _ e
      have := HGL.out.1
      omega) (by decide)
    obtain ⟨w9, hcp, hr9, hc9⟩ := copy_row hr6 hv1 hAN
    refine nextW_go (by exact ⟨z2.1, z1.1, zA⟩) ?_
    refine tailW_step ?_
    go_wp2_with fail
    refine nextW_end ?_
    have hgn : ∀ k, k = gl ∧ 0 < A → k ∉ b :: P2.bl ∧ k ≠ eb ∧ k ≠ bx := fun k ⟨hk, h0⟩ => by
      subst hk
      have h1 := HGL.out
      refine ⟨fun hm => ?_, fun e => ?_, by omega⟩
      · rcases List.mem_cons.1 hm with e | e
        · have := H.out.own.lt _ (show k ∈ b :: P.bl by rw [e]; exact List.mem_cons_self); omega
        · rcases bl2 k e with e | e
          · have := H.out.own.lt _ (List.mem_cons_of_mem _ e); omega
          · omega
      · have := H.out.eng.e0.lt; omega
    have hnl : 0 < N → gl ∉ b :: P2.bl := fun h0 hm => by
      have h1 := HGL.out
      rcases List.mem_cons.1 hm with e | e
      · have := H.out.own.lt _ (show gl ∈ b :: P.bl by rw [e]; exact List.mem_cons_self); omega
      · rcases bl2 gl e with e | e
        · have := H.out.own.lt _ (List.mem_cons_of_mem _ e); omega
        · omega
    have h9 : EngS w9 B b eb p (some ⟨bp, op, none⟩) cp P2 := ⟨h2.own.chg hc9 (fun e => (hgn b e).1 List.mem_cons_self) (fun k hk e => (hgn k e).1 (List.mem_cons_of_mem _ hk)), h2.eng.chg hc9 (fun e => (hgn eb e).2.1 rfl), h2.off⟩
    have hch9 : Chg (· ∈ b :: P.bl) w w9 := ((Chg.of_ext (HE5.out.trans hE6)).trans ch2).trans' hc9 (fun k hk e => by have := HGL.out.1; have := e.1; omega)
    obtain ⟨⟨b0, b0'⟩, ⟨b1, b1'⟩, ⟨b2, b2'⟩, ⟨b3, b3'⟩⟩ := (⟨((Q5.out.1.ext hE6).chg ch2 HBXO.out).chg hc9 (fun e => (hgn bx e).2.2 rfl), ((Q5.out.2.1.ext hE6).chg ch2 HBXO.out).chg hc9 (fun e => (hgn bx e).2.2 rfl), ((Q5.out.2.2.1.ext hE6).chg ch2 HBXO.out).chg hc9 (fun e => (hgn bx e).2.2 rfl), ((Q5.out.2.2.2.ext hE6).chg ch2 HBXO.out).chg hc9 (fun e => (hgn bx e).2.2 rfl)⟩ : _ ∧ _ ∧ _ ∧ _)
    have hT2 : HasTop P2.g P2.g.now := by rw [g2]; exact HT.out.leave _
    obtain ⟨L2, y2, R2, F2, x2, hs2, hnw2⟩ := hasSpot hT2
    have hnw2 : P2.now = L2.length := hnw2
    obtain ⟨gv, ov, cap3, hvf2, hlt2, e0, -, hbl2⟩ := h9.own.place hs2.fs
    have hym2 : y2 ∈ P2.fs := by rw [hs2.fs]; simp
    obtain ⟨ay2, cy2, ey2, hcy2, _⟩ := (h9.own.fs y2 hym2).row.shape
    have hfew2 := (h9.own.fs y2 hym2).few
    have hle2 : y2.fr.length < 1000 := by
      have e1 : (curF P2.g).frames.length = y2.fr.length := by rw [curF_at hs2.fs hnw2]; unfold PFiber.g; simp
      have e2 : (curF P2.g).frames.length = (curF P.g).frames.length := by rw [g2]; exact curF_frames P.g HT.out _
      have e3 : (curF P.g).frames.length = y.fr.length := by rw [curF_at HS.out.fs HNW.out]; unfold PFiber.g; simp
      omega
    obtain ⟨⟨f0, f0'⟩, ⟨f1, f1'⟩⟩ := (⟨h9.own.c0, h9.own.c1⟩ : _ ∧ _)
    obtain ⟨⟨u0, u0'⟩, -⟩ := h9.eng
    rw [hnw2] at f1
    rw [hvf2] at f0
    rw [ey2] at e0
    obtain ⟨e0, e0'⟩ := e0
    have H9 := Lib.hid h9
    have G2 := Lib.hid g2
    have BL2 : Hid (∀ k ∈ P2.bl, k ∈ P.bl ∨ w.heap.size ≤ k) := fun k hk => (bl2 k hk).imp id (fun h => by have := HGL.out; omega)
    have CH9 := Lib.hid hch9
    have NL := Lib.hid hnl
    have HR9 := Lib.hid hr9
    have HS2 := Lib.hid hs2
    have HNW2 := Lib.hid hnw2
    have HVF2 := Lib.hid hvf2
    have HEY2 := Lib.hid ey2
    have HROW : Hid (RowAt w9 B 4 (.slice ay2 y2.fr.length cy2) y2.fr.length (y2.fr.flatMap frameF)) := by unfold Hid; rw [← ey2]; exact (h9.own.fs y2 hym2).row
    have HBW : Hid (B ≤ w9.heap.size) := Nat.le_trans HB.out hch9.size
    have HGY : Hid (∀ k, rowBlock (.slice ay2 y2.fr.length cy2) = some k → k ≠ b ∧ k ≠ gv ∧ k ≠ bx ∧ k ≠ eb ∧ k ∈ P2.bl) := by
      unfold Hid
      intro k hk
      rw [← ey2] at hk
      have hm : k ∈ y2.bl := by unfold PFiber.bl; simp [hk]
      have hmp := PState.mem_fs hym2 hm
      obtain ⟨d0, d1, _⟩ := h9.own.dis
      refine ⟨fun e => d0 (e ▸ hmp), fun e => (d1 gv hbl2).2 y2 hym2 (e ▸ hm), fun e => ?_, fun e => h9.off (List.mem_cons_of_mem _ (e ▸ hmp)), hmp⟩
      subst e
      have h1 := HGL.out
      rcases bl2 k hmp with e | e
      · exact HBXO.out (List.mem_cons_of_mem _ e)
      · omega
    obtain ⟨i1, hi1, hz3, hz4, hz5⟩ := info_parts infoFr
    clear hgn hnl h9 hch9 hT2 hs2 hnw2 hvf2 hbl2 hym2 ey2 hcy2 z2 z1 zA h2 bl2 ch2 g2 t6 hr6 hcp hr9 hc9 hv1 hdl c0 c0' k1 k1' x0 x0' x1 x1' d0 d0' y1 y1' q2 q2' hpA hpA5 hd6 hE6
    go_upto_region 3 with fail
    refine wp_region_rt (fun w' => w'.cell? ⟨eb, 0, none⟩ = some (.pointer (some ⟨b, 0, none⟩)) ∧ w'.cell? ⟨b, 0, none⟩ = some (.slice (some ⟨gv, ov, none⟩) P2.fs.length cap3) ∧ w'.cell? ⟨b, 1, none⟩ = some (.int .i64 (L2.length : Int)) ∧ w'.cell? ⟨gv, ov + L2.length * 2, none⟩ = some (.slice ay2 y2.fr.length cy2) ∧
        w'.cell? ⟨bx, 0, none⟩ = some (.int .i64 n) ∧ w'.cell? ⟨bx, 1, none⟩ = some (.int .i64 0) ∧ w'.cell? ⟨bx, 2, none⟩ = some (.slice (some ⟨gl, 0, none⟩) N N) ∧ w'.cell? ⟨bx, 3, none⟩ = some (.slice none 0 0))
      36 [0, 1, 2, 3, 4, 5, 6, 7, 8, 9, 10, 11, 12, 13, 14, 15, 16, 17, 18, 19, 20, 21, 22, 23, 24, 25, 26, 27, 28, 29, 30, 31] [32, 33, 34, 35, 36] (by kernel_rfl) (by kernel_rfl) (fun _ _ _ _ _ h => h) (by exact ⟨u0, f0, f1, e0, b0, b1, b2, b3⟩) ?_
    (try simp only [pickOps, List.filterMap_cons, List.filterMap_nil, List.getElem?_cons_zero, List.getElem?_cons_succ])
    repeat (
      refine readsQ_do (by rfl) ?_
      apply Exists.intro
      refine ⟨fun w' hw' => ?_, ?_⟩
      focus
        (try dsimp only at hw')
        go_split_ands
        go_simp
        (try with_reducible rfl)
      (try dsimp only [Act.put])
      (try simp only [List.setIfInBounds_toArray, List.set_cons_succ, List.set_cons_zero]))
    refine readsQ_nil ?_
    refine tailW_step ?_
    go_wp2_with fail
    have hA9 : Ext w9 (w9.alloc (.cells #[.int .i64 n, .int .i64 0, .slice (some ⟨gl, 0, none⟩) N N, .slice none 0 0] 43)).drew := by ((repeat (first | assumption | exact Ext.refl _ | (exact And.left (by assumption)) | refine Ext.alloc ?_ _ | refine Ext.drew ?_ | refine Ext.drewN ?_ _ | refine Ext.setCell ?_ (by simp) _ | refine Ext.setCell ?_ (by simp; omega) _ | refine Ext.trans ?_ (by assumption))); done)
    have HA9 := Lib.hid hA9
    have S9 := Lib.hid (⟨Ext.cell hA9 u0, Ext.cell hA9 f0, Ext.cell hA9 f1, Ext.cell hA9 e0, Ext.cell hA9 b0, Ext.cell hA9 b1, Ext.cell hA9 b2, Ext.cell hA9 b3⟩ : _ ∧ _ ∧ _ ∧ _ ∧ _ ∧ _ ∧ _ ∧ _)
    clear hA9
    refine nextW_go S9.out ?_
    refine tailW_step ?_
    go_wp2_with (first
      | (at_builtin; refine wpList_append_row rfl _ _ 39 rfl B 43 i1 (.agg #[.int .i64 0, .int .i64 0, .slice none 0 0, .slice none 0 0]) 4 64 Tryz.underlying39 hi1 hz3 hz4 hz5 rfl (by decide) _ _ _ rfl (by exact (HROW.out.ext HA9.out (by decide))) 1 _ (by exact src_drew (src_cells _ _ 4 rfl (by simp [Value.oneCell']) _)) (by unfold maxLen; omega) (by omega) (by exact Nat.le_trans HBW.out (Ext.size HA9.out)) ?_; intro v1 Wv1 rv1; have RV := Lib.hid rv1; obtain ⟨a9, cap9, rfl, _, _⟩ := rv1.1.shape; clear rv1))
    have hRV : NewRow (w9.alloc (.cells #[.int .i64 n, .int .i64 0, .slice (some ⟨gl, 0, none⟩) N N, .slice none 0 0] 43)).drew Wv1 B 4 (.slice ay2 y2.fr.length cy2) (.slice a9 (y2.fr.length + 1) cap9) (y2.fr.length + 1) (y2.fr.flatMap frameF ++ [.int .i64 n, .int .i64 0, .slice (some ⟨gl, 0, none⟩) N N, .slice none 0 0]) := RV.out
    have SS := Lib.hid (⟨Chg.cell hRV.2.1 (fun e => (HGY.out eb e).2.2.2.1 rfl) S9.out.1, Chg.cell hRV.2.1 (fun e => (HGY.out b e).1 rfl) S9.out.2.1, Chg.cell hRV.2.1 (fun e => (HGY.out b e).1 rfl) S9.out.2.2.1, Chg.cell hRV.2.1 (fun e => (HGY.out gv e).2.1 rfl) S9.out.2.2.2.1,
      Chg.cell hRV.2.1 (fun e => (HGY.out bx e).2.2.1 rfl) S9.out.2.2.2.2.1, Chg.cell hRV.2.1 (fun e => (HGY.out bx e).2.2.1 rfl) S9.out.2.2.2.2.2.1, Chg.cell hRV.2.1 (fun e => (HGY.out bx e).2.2.1 rfl) S9.out.2.2.2.2.2.2.1, Chg.cell hRV.2.1 (fun e => (HGY.out bx e).2.2.1 rfl) S9.out.2.2.2.2.2.2.2⟩ : _ ∧ _ ∧ _ ∧ _ ∧ _ ∧ _ ∧ _ ∧ _)
    obtain ⟨v0, v0'⟩ := (Cx.ext (W := w9) ⟨e0, e0'⟩ HA9.out).chg hRV.2.1 (fun e => (HGY.out gv e).2.1 rfl)
    refine nextW_go SS.out ?_
    refine tailW_step ?_
    go_wp2_with fail
    refine nextW_go SS.out ?_
    refine tailW_step ?_
    go_wp2_with fail
    refine nextW_go SS.out ?_
    refine tailW_step ?_
    go_wp2_with fail
    refine nextW_end ?_
    go_end0
    rw [HGE.out]
    have hal : argsOf p P.g n A = (curX P.g).stack.drop ((curX P.g).stack.length - A) ++ (List.replicate N 0).drop A := argsOf_all p P.g n A N HA.out HN.out
    have hln : (argsOf p P.g n A).length = N := by rw [hal, List.length_append, List.length_drop, List.length_drop, List.length_replicate]; have := HAS.out; omega
    have h1 := HGL.out
    have hfin := call_end H9.out.own G2.out BL2.out CH9.out NL.out ((by rw [hal]; exact HR9.out.mono h1.2.1)) HS2.out HNW2.out HVF2.out (by rw [HEY2.out]; exact hRV) HA9.out hle2 h1.1 HB.out (fun h0 => Nat.lt_trans (h1.2.2.2.2 h0) (lt_of_cell b0)) (I64.nat (by omega)) (argsOf_i64 p P.g n _ (H.out.own.i64s HT.out).1) hln (by omega)
    exact ⟨rfl, hfin⟩
  · have T6 : decide (((y.fr.length : Nat) : Int) < 6) = false := decide_eq_false (by omega)
    have HGE : Hid (callG p P.g n = (2, P.g)) := by unfold Hid; rw [HG.out, if_pos (by omega)]
    clear h5 HG
    refine wp_region_ext_tail 19 (by kernel_rfl) (by kernel_rfl) ?_
    simp only [List.take_succ_cons, List.take_zero, List.drop_succ_cons, List.drop_zero]
    repeat (first
      | go_big_quiet_skip
      | (go_big_quiet_want
         unfold Oper.quiet
         apply Exists.intro
         refine ⟨fun w' hw' => ?_, ?_⟩
         focus
           have hcq := Ext.keep hw'
           go_simp
           first
             | with_reducible rfl
         (try dsimp only [Act.put])
         (try simp only [List.setIfInBounds_toArray, List.set_cons_succ, List.set_cons_zero])
         go_big_quiet_on))
    refine wpQuiet_nil ?_
    intro wq hq
    go_wp2_with (first
      | (go_at_call 123; (with_reducible refine (stepMust_any _ _ _).mono ?_); rintro e w3 ⟨he, rfl⟩; simp only [mustS] at he; subst he))
    rw [HGE.out]
    exact ⟨rfl, rfl, ⟨Chg.of_ext hq, fun h => by cases h⟩⟩
end Go.Proofs.YtgahbngbpfilgaaGreat
end
section
set_option maxHeartbeats 4000000
set_option maxRecDepth 100000
namespace Go.Proofs.YtgahbngbpfilgaaGreat
open Go Go.RowKit
theorem Did.pre {W W1 W2 : World} {B b : Nat} {P : PState} {r : Int × GState} (he : Ext W W1) (h : Did W1 W2 B b P r) : Did W W2 B b P r := Did.step (Chg.of_ext he) (fun _ h => .inl h) h
theorem EngS.setNow {w : World} {B b eb : Nat} {p : List GFunc} {a : Option Addr} {cp : Nat} {P : PState} (h : EngS w B b eb p a cp P) (n : Int) (hI : I64 n) : EngS (w.setCell ⟨b, 1, none⟩ (.int .i64 n)) B b eb p a cp { P with now := n } :=
 ⟨h.own.setNow n hI, h.eng.chg (chg_one w b 1 _) (fun e => h.off (by rw [show eb = b from e]; exact List.mem_cons_self)), h.off⟩
theorem engGive_any {P : PState} {w : World} {B b eb : Nat} {p : List GFunc} {a : Option Addr} {cp : Nat} (h : EngS w B b eb p a cp P) (ht : HasTop P.g P.g.now) (hr : Room P.g) (ho : P.g.out.length ≤ 30) (hb : ReturnFit P.g) :
    Calls Tryz.prog 106 #[.pointer (some ⟨eb, 0, none⟩)] w fun e w' => e = endS (returnG P.g).1 ∧ Did w w' B b P (returnG P.g) := by
  obtain ⟨hl, hb⟩ := hb
  have hLI := h.own.lastI ht hl
  have H := Lib.hid h
  have HT := Lib.hid ht
  have HL := Lib.hid hl
  clear h
  have RA := alloc_keep
  generalize hv : lastV P.g = v at *
  have HV := Lib.hid hv
  go_enter Tryz.func106, Tryz.ntmps106
  go_upto_region 1 with (first
    | (go_at_call 76; (with_reducible refine (engOne_any H.out.own H.out.eng HT.out HL.out).mono ?_); rintro e w2 ⟨rfl, t2⟩; rw [HV.out]))
  clear hv
  obtain ⟨P1, h1, g1, s1, c1⟩ := H.out.turn t2
  have hr1 : Room P1.g := by rw [g1]; exact hr.pop
  have ht1 : HasTop P1.g P1.g.now := by rw [g1]; exact ht.pop
  have ho1 : P1.g.out.length ≤ 30 := by rw [g1]; exact ho
  rw [← g1] at hb
  have HY : Hid (returnG P.g = if 0 < (curF (dropG P1.g)).frames.length then (0, pushG (dropG P1.g) P1.g.now v) else if (curF (dropG P1.g)).caller < 0 then putG { dropG P1.g with now := -1 } v else (0, backG (dropG P1.g) v)) := by
    unfold Hid returnG; rw [← g1, HV.out, show P.g.now = P1.g.now from by rw [g1]; rfl]
  obtain ⟨L, y, R, F, x, hs, hn⟩ := hasSpot ht1
  have hn : P1.now = L.length := hn
  have hP := hs.fs
  obtain ⟨g, o, cap, hvf, hlt, d0, -, hbl⟩ := h1.own.place hP
  obtain ⟨gf, og, cf, hyf, hcf, -, -, -, -, -, -⟩ := h1.own.spot hs
  have hym : y ∈ P1.fs := by rw [hP]; simp
  have hfr : (F ++ [x]).length ≤ 1000 := by
    have := (h1.own.fs y hym).few
    rwa [hs.fr] at this
  have hlen : (F ++ [x]).length = F.length + 1 := by simp
  have hmN : F.length < (F ++ [x]).length := by omega
  have KK : IntKind.i64.wrap (((F ++ [x]).length : Int) - 1) = (F.length : Int) := by
    have e : (((F ++ [x]).length : Int) - 1) = (F.length : Int) := by omega
    rw [e]; exact IntWalk.i64_in _ (by omega)
  obtain ⟨⟨c0, c0'⟩, ⟨k1, k1'⟩⟩ := (⟨h1.own.c0, h1.own.c1⟩ : _ ∧ _)
  obtain ⟨⟨x0, x0'⟩, -⟩ := h1.eng
  rw [hn] at k1
  rw [hvf] at c0
  rw [hyf] at d0
  obtain ⟨d0, d0'⟩ := d0
  have HVF := Lib.hid hvf
  have HYF := Lib.hid hyf
  have HB := Lib.hid hb
  have HP := Lib.hid hP
  have HN := Lib.hid hn
  have HS := Lib.hid hs
  have H1 := Lib.hid h1
  have HC1 := Lib.hid c1
  have HS1 := Lib.hid s1
  have HR1 := Lib.hid hr1
  clear hvf hyf hb hP hn hs ht1 h1 c1 s1 hr1 hbl hym g1 hr ht hl HT HL hlen ho t2
  generalize hN : (F ++ [x]).length = N at *
  have HNN := Lib.hid hN
  have hmC : F.length ≤ cf := by omega
  clear hN
  refine wp_region_ext (by kernel_rfl) (by kernel_rfl) ?_
  repeat (first
    | go_big_quiet_skip
    | (go_big_quiet_want
       unfold Oper.quiet
       apply Exists.intro
       refine ⟨fun w' hw' => ?_, ?_⟩
       focus
         have hcq := Ext.keep hw'
         go_simp
         first
           | with_reducible rfl
       (try dsimp only [Act.put])
       (try simp only [List.setIfInBounds_toArray, List.set_cons_succ, List.set_cons_zero])
       go_big_quiet_on))
  refine wpQuiet_nil ?_
  intro wq hq
  obtain ⟨d0, d0'⟩ := Cx.ext (W := w2) ⟨d0, d0'⟩ hq
  obtain ⟨x0, x0'⟩ := Cx.ext (W := w2) ⟨x0, x0'⟩ hq
  have HQ := Lib.hid hq
  go_upto_region 2 with fail
  refine wp_region_rtt (fun w' => w'.cell? ⟨g, o + L.length * 2, none⟩ = some (.slice (some ⟨gf, og, none⟩) N cf)) 14 [0, 1, 2, 3, 4, 5, 6, 7, 8, 9, 10, 11, 12, 13] [14] (by kernel_rfl) (by kernel_rfl) (fun _ _ _ _ _ h => h) d0 ?_
  (try simp only [pickOps, List.filterMap_cons, List.filterMap_nil, List.getElem?_cons_zero, List.getElem?_cons_succ])
  repeat (
    refine readsQ_do (by rfl) ?_
    apply Exists.intro
    refine ⟨fun w' hw' => ?_, ?_⟩
    focus
      (try dsimp only at hw')
      go_split_ands
      go_simp
      (try with_reducible rfl)
    (try dsimp only [Act.put])
    (try simp only [List.setIfInBounds_toArray, List.set_cons_succ, List.set_cons_zero]))
  refine readsQ_nil ?_
  refine tailW_step ?_
  go_wp2_with fail
  refine nextW_end ?_
  have H1q := H1.out.ext hq
  have h9 := H1q.own.dropTop HS.out HVF.out (by rw [HNN.out]; exact HYF.out)
  obtain ⟨o3, c3, b3⟩ := h9
  have hE3 : EngS _ B b eb p a cp _ := H1q.with (c3.mono (fun k _ hk => List.mem_cons_of_mem _ hk)) o3 (fun k hk => .inl (b3 k hk))
  have c4 := Lib.hid ((Chg.of_ext hq).trans (c3.mono (M' := fun k => k ∈ b :: P1.bl) (fun k _ hk => List.mem_cons_of_mem _ hk)))
  have HB4 : Hid (∀ k ∈ PState.bl { P1 with fs := L ++ ⟨F, y.caller, .slice (some ⟨gf, og, none⟩) F.length cf⟩ :: R }, k ∈ P1.bl ∨ w2.heap.size ≤ k) := fun k hk => .inl (b3 k hk)
  have hg3 : PState.g { P1 with fs := L ++ ⟨F, y.caller, .slice (some ⟨gf, og, none⟩) F.length cf⟩ :: R } = dropG P1.g := by
    unfold dropG
    refine (modFib_at HP.out (n := P1.g.now) HN.out ?_).symm
    unfold PFiber.g
    simp [HS.out.fr]
  have hf3 : PState.fs { P1 with fs := L ++ ⟨F, y.caller, .slice (some ⟨gf, og, none⟩) F.length cf⟩ :: R } = L ++ ⟨F, y.caller, .slice (some ⟨gf, og, none⟩) F.length cf⟩ :: R := rfl
  have hn3 : PState.now { P1 with fs := L ++ ⟨F, y.caller, .slice (some ⟨gf, og, none⟩) F.length cf⟩ :: R } = L.length := HN.out
  have hv3 : ∃ n, PState.vfs { P1 with fs := L ++ ⟨F, y.caller, .slice (some ⟨gf, og, none⟩) F.length cf⟩ :: R } = .slice (some ⟨g, o, none⟩) n cap := ⟨_, HVF.out⟩
  have ho3 : (PState.g { P1 with fs := L ++ ⟨F, y.caller, .slice (some ⟨gf, og, none⟩) F.length cf⟩ :: R }).out.length ≤ 30 := ho1
  have hr3 : Room (PState.g { P1 with fs := L ++ ⟨F, y.caller, .slice (some ⟨gf, og, none⟩) F.length cf⟩ :: R }) := by rw [hg3]; exact HR1.out.drop
  have hcur : curF (dropG P1.g) = PFiber.g ⟨F, y.caller, .slice (some ⟨gf, og, none⟩) F.length cf⟩ := by rw [← hg3]; exact curF_at hf3 hn3
  have hfl : (curF (dropG P1.g)).frames.length = F.length := by rw [hcur]; show (F.map PFrame.f).length = _; rw [List.length_map]
  have hcl : (curF (dropG P1.g)).caller = y.caller := by rw [hcur]; rfl
  have hnow : P1.g.now = L.length := HN.out
  have hdl : (dropG P1.g).fibers.length = P1.g.fibers.length := modFib_len _ _ _
  have hlt1 : L.length < P1.g.fibers.length := by unfold PState.g; simpa using hlt
  have hht : 0 < F.length → HasTop (dropG P1.g) (dropG P1.g).now := fun h0 => by
    refine ⟨by show 0 ≤ P1.g.now; omega, by rw [hdl]; show P1.g.now < _; omega, ?_⟩
    show 0 < (curF (dropG P1.g)).frames.length
    rw [hfl]; exact h0
  have hfib : 0 ≤ (dropG P1.g).now ∧ (dropG P1.g).now < (dropG P1.g).fibers.length := ⟨by show 0 ≤ P1.g.now; omega, by rw [hdl]; show P1.g.now < _; omega⟩
  have HB' := HB.out
  rw [hfl] at HB'
  have HYL := HY.out
  rw [hfl, hcl, show P1.g.now = (dropG P1.g).now from rfl] at HYL
  generalize ({ P1 with fs := L ++ ⟨F, y.caller, .slice (some ⟨gf, og, none⟩) F.length cf⟩ :: R } : PState) = P3 at *
  rw [← hg3] at hht hfib HB' HYL hcl
  obtain ⟨W3, hW3⟩ : ∃ W3, W3 = wq.setCell ⟨g, o + L.length * 2, none⟩ (.slice (some ⟨gf, og, none⟩) F.length cf) := ⟨_, rfl⟩
  rw [← hW3] at hE3 c4
  simp only [← hW3]
  have hE5 := hE3.ext (Ext.refl W3).drew
  obtain ⟨n3, hv3⟩ := hv3
  obtain ⟨g', o', cap', e3, -, d0, ⟨d1, d1'⟩, -⟩ := hE3.own.place hf3
  rw [hv3] at e3
  simp only [Value.slice.injEq, Option.some.injEq, Addr.mk.injEq] at e3
  obtain ⟨⟨rfl, rfl, -⟩, -, -⟩ := e3
  obtain ⟨d0, d0'⟩ := d0
  obtain ⟨k1, k1'⟩ := hE3.own.c1
  obtain ⟨x0, x0'⟩ := hE3.eng.e0
  rw [hn3] at k1
  have HE3 := Lib.hid hE3
  have HE5 := Lib.hid hE5
  have HT3 := Lib.hid hht
  have HFB := Lib.hid hfib
  have HB3 := Lib.hid HB'
  have HR3 := Lib.hid hr3
  have HCL := Lib.hid hcl
  have HYY := Lib.hid HYL
  clear hE3 hE5 hht hfib HB' hg3 hf3 hn3 hv3 hr3 HYL hcur hfl hcl hnow c3 HY HB KK hmN o3 b3 H1q hW3 hdl hlt1
  generalize hcl : y.caller = cl at *
  have HCC := Lib.hid hcl
  generalize hm : F.length = m at *
  clear hcl hm
  by_cases h0 : 0 < m
  · have T : decide ((m : Int) > 0) = true := decide_eq_true (by omega)
    have T' : decide (0 < (m : Int)) = true := decide_eq_true (by omega)
    have HTT := Lib.hid (HT3.out h0)
    have e := HYY.out
    rw [if_pos h0] at e
    have HE := Lib.hid e
    clear e
    go_wp2_with (first
      | (go_at_call 74; (with_reducible refine (engPush_any (HE3.out.own.ext (by ((repeat (first | assumption | exact Ext.refl _ | (exact And.left (by assumption)) | refine Ext.alloc ?_ _ | refine Ext.drew ?_ | refine Ext.drewN ?_ _ | refine Ext.setCell ?_ (by simp) _ | refine Ext.setCell ?_ (by simp; omega) _ | refine Ext.trans ?_ (by assumption))); done))) (HE3.out.eng.ext (by ((repeat (first | assumption | exact Ext.refl _ | (exact And.left (by assumption)) | refine Ext.alloc ?_ _ | refine Ext.drew ?_ | refine Ext.drewN ?_ _ | refine Ext.setCell ?_ (by simp) _ | refine Ext.setCell ?_ (by simp; omega) _ | refine Ext.trans ?_ (by assumption))); done))) HTT.out HR3.out v hLI (by simp)).mono ?_); rintro e w5 ⟨rfl, t5⟩))
    go_end0
    rw [HE.out]
    exact ⟨rfl, Did.of (Turn.step HC1.out HS1.out (Turn.step c4.out HB4.out (Turn.pre (show Ext W3 (W3.alloc (.cells #[.int .i64 v] 3)).drew by ((repeat (first | assumption | exact Ext.refl _ | (exact And.left (by assumption)) | refine Ext.alloc ?_ _ | refine Ext.drew ?_ | refine Ext.drewN ?_ _ | refine Ext.setCell ?_ (by simp) _ | refine Ext.setCell ?_ (by simp; omega) _ | refine Ext.trans ?_ (by assumption))); done)) t5)))⟩
  · have T : decide ((m : Int) > 0) = false := decide_eq_false (by omega)
    have T' : decide (0 < (m : Int)) = false := decide_eq_false (by omega)
    by_cases hc : cl < 0
    · have T2 : decide (0 ≤ cl) = false := decide_eq_false (by omega)
      have e := HYY.out
      rw [if_neg h0, if_pos hc] at e
      have HE := Lib.hid e
      have HE6 := Lib.hid (((HE3.out).setNow (-1) (by unfold I64; decide)).ext (Ext.refl _).drew)
      have HO4 : Hid ((PState.g { P3 with now := -1 }).out.length ≤ 30) := ho3
      have hfin : ∀ w5, Did (W3.setCell ⟨b, 1, none⟩ (.int .i64 (-1))).drew w5 B b { P3 with now := -1 } (putG { P3.g with now := -1 } v) → Did w w5 B b P (putG { P3.g with now := -1 } v) := fun w5 t5 =>
        Did.step HC1.out HS1.out (Did.step c4.out HB4.out (Did.step (P1 := { P3 with now := -1 }) ((chg_one W3 b 1 (.int .i64 (-1))).mono (fun k _ hk => by rw [show k = b from hk]; exact List.mem_cons_self)) (fun k hk => .inl hk) (Did.pre (Ext.refl _).drew t5)))
      have HFIN := Lib.hid hfin
      clear e hc hfin
      obtain ⟨rz, hrz⟩ : ∃ rz, (putG { P3.g with now := -1 } v).1 = rz := ⟨_, rfl⟩
      have hrz' : (putG (PState.g { P3 with now := -1 }) v).1 = rz := hrz
      have HRZ := Lib.hid hrz
      have HRZ' := Lib.hid hrz'
      clear hrz hrz'
      by_cases hz : rz = 0
      · have HZ : Hid (endS rz = .returned (.tuple #[])) := by unfold Hid endS; rw [if_pos hz]
        clear hz
        go_wp2_with (first
          | (go_at_call 110; (with_reducible refine (engPut_any HE6.out HO4.out v hLI).mono ?_); rintro e w5 ⟨he, t5⟩; rw [HRZ'.out, HZ.out] at he; subst he))
        go_end0
        rw [HE.out, HRZ.out, HZ.out]
        exact ⟨rfl, HFIN.out _ t5⟩
      · have HZ : Hid (endS rz = .panicked (refusalS rz)) := by unfold Hid endS; rw [if_neg hz]
        clear hz
        go_wp2_with (first
          | (go_at_call 110; (with_reducible refine (engPut_any HE6.out HO4.out v hLI).mono ?_); rintro e w5 ⟨he, t5⟩; rw [HRZ'.out, HZ.out] at he; subst he))
        rw [HE.out, HRZ.out, HZ.out]
        exact ⟨rfl, rfl, HFIN.out _ t5⟩
    · have T2 : decide (0 ≤ cl) = true := decide_eq_true (by omega)
      have e := HYY.out
      rw [if_neg h0, if_neg hc] at e
      have HE := Lib.hid e
      have hbk := (HB3.out.resolve_left h0).resolve_left (by rw [HCL.out]; exact hc)
      have HBK := Lib.hid hbk
      clear e hc hbk
      go_wp2_with (first
        | (go_at_call 124; (with_reducible refine (engBack_any HE5.out HFB.out HR3.out HBK.out v hLI).mono ?_); rintro e w5 ⟨rfl, t5⟩))
      go_end0
      rw [HE.out]
      exact ⟨rfl, Did.of (Turn.step HC1.out HS1.out (Turn.step c4.out HB4.out (Turn.pre (Ext.refl W3).drew t5)))⟩
end Go.Proofs.YtgahbngbpfilgaaGreat
end
