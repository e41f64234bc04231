/- Merged texts: contracts and plain facts, one part behind another; each part begins with what it says. -/
import Derived.Test.YtgahbngbpfilgaaGBAJ
import Derived.Test.YtgahbngbpfilgaaGBAO
import Derived.Test.YtgahbngbpfilgaaGBAP
import Derived.BigRegion
section
/- A state in own memory turned into another: contract of the document's resumed. -/
set_option maxHeartbeats 4000000
set_option maxRecDepth 100000
namespace Go.Proofs.Ytgahbngbpfilgaa
open Go Go.RowKit

theorem resumed_any {P : PState} {w : World} {B b : Nat} (h : OwnS w B b P) (ht : HasTop P.g P.g.now) (hr : Room P.g) (hb : ResumeFit P.g) :
    Calls Try.prog 149 #[.pointer (some ⟨b, 0, none⟩)] w fun e w' => e = .returned (.int .i64 (resumeG P.g).1) ∧ Did w w' B b P (resumeG P.g) := by
  obtain ⟨hl, hco, hloc⟩ := hb
  have hLI := h.lastI ht (by omega)
  have hcx := curX_pop P.g ht
  have hl1 : 1 ≤ (curX (popG P.g)).stack.length := by rw [hcx]; show 1 ≤ (curX P.g).stack.dropLast.length; rw [List.length_dropLast]; omega
  have H := Lib.hid h
  have HT := Lib.hid ht
  have HL : Hid (1 ≤ (curX P.g).stack.length) := by unfold Hid; omega
  have HL1 := Lib.hid hl1
  clear h hcx hl hl1
  have RA := alloc_keep
  generalize hv : lastV P.g = v at *
  have HV := Lib.hid hv
  generalize hn : lastV (popG P.g) = n at *
  have HN := Lib.hid hn
  go_enter Try.func149, Try.ntmps149
  clear hv hn
  go_upto_if 20 with (first
    | (go_at_call 146; (with_reducible refine (pull_any H.out HT.out HL.out).mono ?_); rintro e w2 ⟨rfl, t2⟩; rw [HV.out]; obtain ⟨⟨P1, o1, g1, s1⟩, c1⟩ := t2; have HO1 := Lib.hid o1; have HG1 := Lib.hid g1; have HS1 := Lib.hid s1; have HC1 := Lib.hid c1; have HT1 : Hid (HasTop P1.g P1.g.now) := (by unfold Hid; rw [HG1.out]; exact HT.out.pop); have HL2 : Hid (1 ≤ (curX P1.g).stack.length) := (by unfold Hid; rw [HG1.out]; exact HL1.out); clear o1 g1 s1 c1)
    | (go_at_call 146; (with_reducible refine (pull_any HO1.out HT1.out HL2.out).mono ?_); rintro e w3 ⟨rfl, t3⟩; rw [HG1.out, HN.out]; obtain ⟨⟨P2, o2, g2, s2⟩, c2⟩ := t3; have HO2 := Lib.hid o2; have HG2 := Lib.hid g2; have HS2 := Lib.hid s2; have HC2 := Lib.hid c2; obtain ⟨c20, c20'⟩ := o2.c0; obtain ⟨c21, c21'⟩ := o2.c1; obtain ⟨c22, c22'⟩ := o2.c2; have hfw := o2.few.1; obtain ⟨a2, cp2, e2, _, _⟩ := o2.row.shape; rw [e2] at c20; have HE2 := Lib.hid e2; clear o2 g2 s2 c2 e2; have KK : IntKind.i64.wrap ((P2.fs.length : Int) - 1) = (P2.fs.length : Int) - 1 := (by exact IntWalk.i64_in _ (by omega)))
    | (go_at_call 33; (with_reducible refine (within_any _ _ _ _).mono ?_); rintro e w4 ⟨rfl, rfl⟩; obtain ⟨tw, htw⟩ : ∃ tw, decide (0 ≤ n ∧ n ≤ (P2.fs.length : Int) - 1) = tw := ⟨_, rfl⟩; rw [htw]; have HTW := Lib.hid htw; clear htw))
  have hg2 : P2.g = popG (popG P.g) := by rw [HG2.out, HG1.out]
  have HY : Hid (resumeG P.g = if ¬ (0 ≤ n ∧ n < P2.fs.length) then (5, P.g) else if n ∈ lineLL P2.g ∨ (P2.g.fibers.getD n.toNat default).frames.length = 0 then (6, P.g) else (0, wakeG P2.g n v)) := by
    unfold Hid resumeG
    rw [HN.out, HV.out, ← hg2]
    have e : P2.fs.length = P.g.fibers.length := by
      have : P2.fs.length = P2.g.fibers.length := by unfold PState.g; simp
      rw [this, hg2]
      unfold popG modTop
      rw [modFib_len, modFib_len]
    rw [e]
  clear hg2
  cases tw with
  | false =>
    have e := HY.out
    have h0 := of_decide_eq_false HTW.out
    rw [if_pos (fun h => h0 (by omega))] at e
    have HE := Lib.hid e
    clear e h0
    go_wp2_with fail
    go_ret
    rw [HE.out]
    exact ⟨rfl, Did.step HC1.out HS1.out (Did.step HC2.out HS2.out ⟨Chg.refl _ _, fun h => by cases h⟩)⟩
  | true =>
  obtain ⟨h0, h1⟩ := of_decide_eq_true HTW.out
  obtain ⟨L, y, R, hP, hnL⟩ := hasFib (P := P2) ⟨h0, by omega⟩
  have hfl : P2.g.fibers.length = P2.fs.length := by unfold PState.g; simp
  have hcal : Callers P2.g := (by rw [HG2.out, HG1.out]; exact hco : CallersOk P2.g).callers (by rw [hfl]; exact hfw)
  have HCAL := Lib.hid hcal
  have hst := (HO2.out).state (fun g => B ≤ g) (fun _ h => h)
  rw [HE2.out] at hst
  have HST := Lib.hid hst
  obtain ⟨g, o, cap, hvf, hlt, d0, d1, hbl⟩ := (HO2.out).place hP
  have HVF := Lib.hid hvf
  rw [HE2.out] at hvf
  simp only [Value.slice.injEq, true_and] at hvf
  obtain ⟨rfl, rfl⟩ := hvf
  have e := HY.out
  rw [if_neg (fun h => h ⟨h0, by omega⟩), hnL, Int.toNat_natCast, fib_at hP] at e
  have hlen : y.g.frames.length = y.fr.length := by unfold PFiber.g; simp
  rw [hlen] at e
  have HYY := Lib.hid e
  have hym : y ∈ P2.fs := by rw [hP]; simp
  obtain ⟨ay, cy, ey, _, _⟩ := ((HO2.out).fs y hym).row.shape
  rw [ey] at d0
  obtain ⟨d0, d0'⟩ := d0
  have HEY := Lib.hid ey
  have HP := Lib.hid hP
  have hloc2 : 0 < y.fr.length → (topOf y.g).at_ = 0 → 0 < (topOf y.g).locals.length := by
    have := hloc
    rw [← HG1.out, ← HG2.out, hnL, Int.toNat_natCast, fib_at hP, hfl, hlen] at this
    exact fun hf => this ⟨by omega, by omega, hf⟩
  have HLOC := Lib.hid hloc2
  have D1 := Lib.hid d1
  subst hnL
  clear hcal hst e hlen hym ey hP hloc2 hco hloc h0 h1 HY d1 hfl
  by_cases hm : (L.length : Int) ∈ lineLL P2.g
  · have HM : Hid (decide ((L.length : Int) ∈ lineLL P2.g) = true) := decide_eq_true hm
    have e := HYY.out
    rw [if_pos (Or.inl hm)] at e
    have HE := Lib.hid e
    clear e hm
    go_wp2_with (first
      | (go_at_call 34; (with_reducible refine (lineOf_any P2.g _ _ _ HST.out HCAL.out).mono ?_); rintro e w5 ⟨hlr, hx5⟩; obtain ⟨al, cl, ok, rfl, hline⟩ := hlr.ll; have HLN := Lib.hid hline; have HX5 := Lib.hid hx5; clear hlr hline)
      | (go_at_call 36; (with_reducible refine (has_any (lineLL P2.g) _ _ _ _ HLN.out).mono ?_); rintro e w6 ⟨rfl, hx6⟩; rw [HM.out]))
    go_ret
    rw [HE.out]
    exact ⟨rfl, Did.step HC1.out HS1.out (Did.step HC2.out HS2.out ⟨Chg.of_ext (HX5.out.trans hx6), fun h => by cases h⟩)⟩
  have HM : Hid (decide ((L.length : Int) ∈ lineLL P2.g) = false) := decide_eq_false hm
  by_cases hz : y.fr.length = 0
  · have T2 : decide ((y.fr.length : Int) = 0) = true := decide_eq_true (by omega)
    have T2' : ((y.fr.length : Int) == 0) = true := by simpa using hz
    have e := HYY.out
    rw [if_pos (Or.inr hz)] at e
    have HE := Lib.hid e
    clear e hm hz
    go_wp2_with (first
      | (go_at_call 34; (with_reducible refine (lineOf_any P2.g _ _ _ HST.out HCAL.out).mono ?_); rintro e w5 ⟨hlr, hx5⟩; obtain ⟨al, cl, ok, rfl, hline⟩ := hlr.ll; have HLN := Lib.hid hline; have HX5 := Lib.hid hx5; clear hlr hline)
      | (go_at_call 36; (with_reducible refine (has_any (lineLL P2.g) _ _ _ _ HLN.out).mono ?_); rintro e w6 ⟨rfl, hx6⟩; rw [HM.out]; have f0 := Ext.cell (HX5.out.trans hx6) c20; have f1 := Ext.cell (HX5.out.trans hx6) d0))
    go_ret
    rw [HE.out]
    exact ⟨rfl, Did.step HC1.out HS1.out (Did.step HC2.out HS2.out ⟨Chg.of_ext (HX5.out.trans hx6), fun h => by cases h⟩)⟩
  have T2 : decide ((y.fr.length : Int) = 0) = false := decide_eq_false (by omega)
  have T2' : ((y.fr.length : Int) == 0) = false := by simpa using hz
  have e := HYY.out
  rw [if_neg (by rintro (h | h); exact hm h; exact hz h)] at e
  have HE := Lib.hid e
  obtain ⟨F, x, hfr⟩ := split_last y.fr (by omega)
  have HFR := Lib.hid hfr
  clear e hm hz HYY hfr
  go_upto_region 8 with (first
    | (go_at_call 34; (with_reducible refine (lineOf_any P2.g _ _ _ HST.out HCAL.out).mono ?_); rintro e w5 ⟨hlr, hx5⟩; obtain ⟨al, cl, ok, rfl, hline⟩ := hlr.ll; have HLN := Lib.hid hline; have HX5 := Lib.hid hx5; clear hlr hline)
    | (go_at_call 36; (with_reducible refine (has_any (lineLL P2.g) _ _ _ _ HLN.out).mono ?_); rintro e w6 ⟨rfl, hx6⟩; rw [HM.out]; have f0 := Ext.cell (HX5.out.trans hx6) c20; have f1 := Ext.cell (HX5.out.trans hx6) d0))
  have HX6 := Lib.hid (HX5.out.trans hx6)
  obtain ⟨f2, f2'⟩ := Cx.ext (W := w3) ⟨c21, c21'⟩ HX6.out
  obtain ⟨f3, f3'⟩ := (D1.out).ext HX6.out
  clear hx6
  go_cut [53] (fun _ wr => OwnS wr B b { P2 with fs := L ++ { y with caller := P2.now } :: R } ∧ Chg (· ∈ P2.bl) w6 wr)
  case first =>
    go_region
    go_wp2_with fail
    go_meet
    have h9 := ((HO2.out).ext HX6.out).setCaller HP.out HVF.out P2.now ((HO2.out).i.1)
    exact ⟨h9.1.ext (Ext.refl _).drew, h9.2.drew⟩
  case rest =>
    rename World => w7
    obtain ⟨o7, c7⟩ := hcut
    have hI : I64 (L.length : Int) := by unfold I64; omega
    have C8 := Lib.hid ((Chg.of_ext HX6.out).trans (c7.mono (M' := fun k => k ∈ b :: P2.bl) (fun k _ hk => List.mem_cons_of_mem _ hk)) |>.trans ((chg_one w7 b 1 (.int .i64 (L.length : Int))).mono (fun k _ hk => by rw [show k = b from hk]; exact List.mem_cons_self)))
    obtain ⟨P4, HO8, hs4, hg4, hb4⟩ : ∃ P4, Hid (OwnS (w7.setCell ⟨b, 1, none⟩ (.int .i64 (L.length : Int))) B b P4) ∧ Spot P4 L { y with caller := P2.now } R F x ∧ P4.g = { modFib P2.g (L.length : Int) (fun f => { f with caller := P2.g.now }) with now := (L.length : Int) } ∧ ∀ k ∈ P4.bl, k ∈ P2.bl ∨ w3.heap.size ≤ k := by
      refine ⟨_, Lib.hid (o7.setNow (L.length : Int) hI), ⟨rfl, HFR.out⟩, ?_, fun k hk => .inl ?_⟩
      · have e := modFib_at (n := (L.length : Int)) HP.out rfl (y' := { y with caller := P2.now }) (g := fun f => { f with caller := P2.g.now }) rfl
        rw [e]
        rfl
      · unfold PState.bl at hk ⊢
        rw [HP.out]
        simp only [List.flatMap_append, List.flatMap_cons] at hk ⊢
        exact hk
    obtain ⟨gf, og, cf, hvf4, _, _, x0, x1, x2, _, _⟩ := (HO8.out).spot hs4
    have X1 := Lib.hid x1
    have X2 := Lib.hid x2
    have HV4 := Lib.hid hvf4
    have HS4 := Lib.hid hs4
    have hat : topOf y.g = x.f := top_at HFR.out
    have HW : Hid (wakeG P2.g (L.length : Int) v = if x.f.at_ = 0 then modTop P4.g (L.length : Int) (fun z => { z with locals := z.locals.set 0 v }) else pushG P4.g (L.length : Int) v) := by
      unfold Hid wakeG
      rw [Int.toNat_natCast, fib_at HP.out, hat, hg4]
    have hlc := HLOC.out (by rw [HFR.out]; simp)
    rw [hat] at hlc
    have HLC := Lib.hid hlc
    have ht4 : HasTop P4.g (L.length : Int) := by
      refine ⟨by omega, ?_, ?_⟩
      · show (L.length : Int) < ((P4.fs.map PFiber.g).length : Nat)
        rw [hs4.fs]; simp; omega
      · rw [Int.toNat_natCast, fib_at hs4.fs]
        show 0 < (y.fr.map PFrame.f).length
        rw [HFR.out]; simp
    have hr4 : Room P4.g := by
      rw [hg4, HG2.out, HG1.out]
      exact ((hr.pop).pop).caller _ _
    obtain ⟨e1, e1'⟩ := o7.c1
    clear x0 x1 x2 hvf4 hs4 hat hlc hg4 o7 c7
    by_cases ha : x.f.at_ = 0
    · have T3 : decide (x.f.at_ = 0) = true := decide_eq_true ha
      have T3' : (x.f.at_ == 0) = true := by rw [ha]; rfl
      have e := HW.out
      rw [if_pos ha] at e
      have HWE := Lib.hid e
      have h0l := HLC.out ha
      have hxO := ((HO8.out).fs { y with caller := P2.now } (by rw [HS4.out.fs]; simp)).fr x (by rw [HS4.out.fr]; simp)
      obtain ⟨al9, cl9, ex, hcl, _⟩ := hxO.l.shape
      have hlr := hxO.l
      rw [ex] at hlr
      obtain ⟨gl, ol, rfl, _, hcells⟩ := hlr.cell h0l
      have z0 := (hcells 0 (by omega)).1
      rw [ints_get _ _ h0l] at z0
      have Z0 : Hid (Cx (w7.setCell ⟨b, 1, none⟩ (.int .i64 (L.length : Int))) gl ol (.int .i64 (x.f.locals.getD 0 0))) := Lib.hid ⟨z0, (hcells 0 (by omega)).2⟩
      have HEX := Lib.hid ex
      have X3 : Hid (Cx (w7.setCell ⟨b, 1, none⟩ (.int .i64 (L.length : Int))) gf (og + F.length * 4 + 2) (.slice (some ⟨gl, ol, none⟩) x.f.locals.length cl9)) := by unfold Hid; rw [← ex]; exact X2.out
      clear e ha hlr hcells hxO ex z0
      go_wp2_with (first
        | (go_at_call 144; (with_reducible refine (top_any HO8.out HS4.out HV4.out L.length rfl).mono ?_); rintro e w9 ⟨rfl, hx9⟩; obtain ⟨x1, x1'⟩ := (X1.out).ext hx9; obtain ⟨x3, x3'⟩ := (X3.out).ext hx9; obtain ⟨z0, z0'⟩ := (Z0.out).ext hx9; have HX9 := Lib.hid hx9; clear hx9))
      go_ret
      rw [HE.out, HWE.out]
      obtain ⟨o9, c9⟩ := ((HO8.out).ext HX9.out).setLocal HS4.out HEX.out 0 h0l v hLI
      exact ⟨rfl, Did.of (Turn.step HC1.out HS1.out (Turn.step HC2.out HS2.out (Turn.step ((C8.out).trans (Chg.of_ext HX9.out)) hb4 ⟨⟨_, o9, (modTop_at HS4.out rfl rfl).symm, repl_bl HS4.out (fun k hk => .inl hk)⟩, c9⟩)))⟩
    · have T3 : decide (x.f.at_ = 0) = false := decide_eq_false ha
      have T3' : (x.f.at_ == 0) = false := beq_false_of_ne ha
      have e := HW.out
      rw [if_neg ha] at e
      have HWE := Lib.hid e
      clear e ha
      go_wp2_with (first
        | (go_at_call 144; (with_reducible refine (top_any HO8.out HS4.out HV4.out L.length rfl).mono ?_); rintro e w9 ⟨rfl, hx9⟩; obtain ⟨x1, x1'⟩ := (X1.out).ext hx9; have HX9 := Lib.hid hx9; clear hx9)
        | (go_at_call 145; (with_reducible refine (push_any ((HO8.out).ext HX9.out) L.length ht4 hr4 v hLI).mono ?_); rintro e w10 ⟨rfl, t10⟩))
      go_ret
      rw [HE.out, HWE.out]
      exact ⟨rfl, Did.of (Turn.step HC1.out HS1.out (Turn.step HC2.out HS2.out (Turn.step ((C8.out).trans (Chg.of_ext HX9.out)) hb4 t10)))⟩
end Go.Proofs.Ytgahbngbpfilgaa
end
section
/- A state in own memory turned into another: contract of the document's done. -/
set_option maxHeartbeats 4000000
set_option maxRecDepth 100000
namespace Go.Proofs.Ytgahbngbpfilgaa
open Go Go.RowKit

theorem OwnS.ge {W : World} {B b : Nat} {P : PState} (h : OwnS W B b P) : ∀ g ∈ b :: P.bl, B ≤ g := by
  intro g hg
  rcases List.mem_cons.1 hg with rfl | hg
  · exact h.le
  · unfold PState.bl at hg
    rcases List.mem_append.1 hg with h1 | h1
    · rcases List.mem_append.1 h1 with h2 | h2
      · exact h.row.le g (by simpa using h2)
      · exact h.out.le g (by simpa using h2)
    · obtain ⟨y, hy, h2⟩ := List.mem_flatMap.1 h1
      unfold PFiber.bl at h2
      rcases List.mem_append.1 h2 with h3 | h3
      · exact (h.fs y hy).row.le g (by simpa using h3)
      · obtain ⟨x, hx, h4⟩ := List.mem_flatMap.1 h3
        unfold PFrame.bl at h4
        rcases List.mem_append.1 h4 with h5 | h5
        · exact ((h.fs y hy).fr x hx).l.le g (by simpa using h5)
        · exact ((h.fs y hy).fr x hx).s.le g (by simpa using h5)
theorem curF_frames (s : GState) (h : HasTop s s.now) (g : GFrame → GFrame) : (curF (modTop s s.now g)).frames.length = (curF s).frames.length := by
  unfold modTop
  rw [curF_mod s ⟨h.1, h.2.1⟩]
  simp
theorem FewS.cur {s : GState} (h : FewS s) (ht : HasTop s s.now) : (curF s).frames.length < 1000 := by
  have hm : curF s ∈ s.fibers := by
    unfold curF
    rw [List.getD_eq_getElem?_getD, List.getElem?_eq_getElem (by have := ht.1; have := ht.2.1; omega)]
    exact List.getElem_mem _
  have := (h.2.2 _ hm).1
  omega

theorem repl_same {P : PState} {L R : List PFiber} {y : PFiber} {F : List PFrame} {x x' : PFrame} (hs : Spot P L y R F x) (h : x'.bl = x.bl) : ∀ g ∈ (replTop P L y R F x').bl, g ∈ P.bl := by
  intro g hg
  rcases repl_bl (n := g + 1) hs (fun k hk => .inl (h ▸ hk)) g hg with h1 | h1
  · exact h1
  · omega
theorem done_ok {p : List GFunc} {w W4 w' : World} {B b : Nat} {P P1 : PState} {k a : Int} {r : Int × GState} (hD : doneG p P.g = workG p P1.g k a) (hw : workG p P1.g k a = r) (c : Chg (· ∈ b :: P.bl) w W4) (bl : ∀ k ∈ P1.bl, k ∈ P.bl) (d : Did W4 w' B b P1 r) :
    (doneG p P.g).1 = r.1 ∧ Did w w' B b P (doneG p P.g) := by
  rw [hD, hw]
  exact ⟨rfl, Did.step c (fun k hk => .inl (bl k hk)) d⟩
theorem reck_i64 (k a b : Int) : I64 (reckG k a b) := by
  have hw : ∀ n, I64 (wrap64 n) := fun n => by unfold I64 wrap64; omega
  have ht : ∀ t, I64 (truthG t) := fun t => by cases t <;> (unfold I64 truthG; decide)
  unfold reckG
  split
  · exact hw _
  · split
    · exact hw _
    · split
      · exact hw _
      · split <;> exact ht _
theorem not_grown {P P5 : PState} {b bx n : Nat} (h : bx ∉ b :: P.bl) (hs : ∀ g ∈ P5.bl, g ∈ P.bl ∨ n ≤ g) (hlt : bx < n) : bx ∉ b :: P5.bl := fun hm => by
  rcases List.mem_cons.1 hm with rfl | h1
  · exact h List.mem_cons_self
  · rcases hs bx h1 with h2 | h2
    · exact h (List.mem_cons_of_mem _ h2)
    · omega
theorem cells3_ext {w w' : World} {a b c : Addr} {x y z : Value} (h : w.cell? a = some x ∧ w.cell? b = some y ∧ w.cell? c = some z) (he : Ext w w') : w'.cell? a = some x ∧ w'.cell? b = some y ∧ w'.cell? c = some z :=
  ⟨(Ext.keep he a (by rw [h.1]; rfl)).trans h.1, (Ext.keep he b (by rw [h.2.1]; rfl)).trans h.2.1, (Ext.keep he c (by rw [h.2.2]; rfl)).trans h.2.2⟩
theorem add_fin {w5 w6 Wv : World} {B b : Nat} {P : PState} {an : Int} {N : Nat} {v1 : Value} (h : OwnS w5 B b P) (hE : Ext w5 w6) (hrow : RowAt w6 w5.heap.size 1 (.slice (some ⟨w5.heap.size, 0, none⟩) N N) N (ints (List.replicate N 0))) (tf tb : TypeId)
    (hRV : NewRow ((w6.alloc (.cells #[.int .i64 an, .int .i64 0, .slice (some ⟨w5.heap.size, 0, none⟩) N N, .slice none 0 0] tf)).alloc (.cells #[.slice (some ⟨w6.heap.size, 0, none⟩) 1 1, .int .i64 (-1)] tb)) Wv B 2 P.vfs v1 (P.fs.length + 1) (P.fs.flatMap fiberF ++ [.slice (some ⟨w6.heap.size, 0, none⟩) 1 1, .int .i64 (-1)]))
    (hI : I64 an) (hN : N ≤ 1000) (hl : P.fs.length < 1000) :
    Turn w5 (Wv.setCell ⟨b, 0, none⟩ v1) B b P { P.g with fibers := P.g.fibers ++ [⟨[⟨an, 0, List.replicate N 0, []⟩], -1⟩] } := by
  obtain ⟨r1, r2, r3⟩ := hRV
  let X : PFrame := ⟨⟨an, 0, List.replicate N 0, []⟩, .slice (some ⟨w5.heap.size, 0, none⟩) N N, .slice none 0 0⟩
  let Y : PFiber := ⟨[X], -1, .slice (some ⟨w6.heap.size, 0, none⟩) 1 1⟩
  have hBw : B ≤ w5.heap.size := Nat.le_trans h.le (Nat.le_of_lt h.c0.lt)
  have hEm : Ext w5 ((w6.alloc (.cells #[.int .i64 an, .int .i64 0, .slice (some ⟨w5.heap.size, 0, none⟩) N N, .slice none 0 0] tf)).alloc (.cells #[.slice (some ⟨w6.heap.size, 0, none⟩) 1 1, .int .i64 (-1)] tb)) := (hE.alloc _).alloc _
  have hE6 : Ext w6 ((w6.alloc (.cells #[.int .i64 an, .int .i64 0, .slice (some ⟨w5.heap.size, 0, none⟩) N N, .slice none 0 0] tf)).alloc (.cells #[.slice (some ⟨w6.heap.size, 0, none⟩) 1 1, .int .i64 (-1)] tb)) := ((Ext.refl _).alloc _).alloc _
  have hold : ∀ k, rowBlock P.vfs = some k → k < w5.heap.size := fun k hk => h.lt k (List.mem_cons_of_mem _ (PState.mem_vfs hk))
  have h56 := hE.size
  have hvb : ∀ k, rowBlock (.slice (some ⟨w5.heap.size, 0, none⟩) N N) = some k → k = w5.heap.size ∧ w5.heap.size < w6.heap.size := fun k hk => by
    by_cases h0 : N = 0
    · subst h0; simp [rowBlock] at hk
    · have h1 := hrow.lt2 (by decide) k hk
      rw [rowBlock_some _ _ _ _ h0] at hk
      cases hk
      exact ⟨rfl, h1⟩
  have hXO : FrameO Wv B X := by
    refine ⟨⟨hI, I64.zero, fun k hk => ?_, fun k hk => by cases hk⟩, ?_, RowAt.nil _ _ _ _, ⟨by show (List.replicate N (0 : Int)).length ≤ 1000; rw [List.length_replicate]; exact hN, by show 0 ≤ 1000; omega⟩⟩
    · rw [List.eq_of_mem_replicate hk]; exact I64.zero
    · show RowAt Wv B 1 (.slice (some ⟨w5.heap.size, 0, none⟩) N N) (List.replicate N (0 : Int)).length (ints (List.replicate N 0))
      rw [List.length_replicate]
      refine ((hrow.mono hBw).ext hE6 (by decide)).chg r2 (fun k hk e => ?_) (by decide)
      have := (hvb k hk).1
      have := hold k e
      omega
  have hYO : FiberO Wv B Y := by
    refine ⟨I64.neg1, ?_, fun u hu => ?_, by show 1 ≤ 1000; omega⟩
    · have hm := RowAt.made w6 #[.int .i64 an, .int .i64 0, .slice (some ⟨w5.heap.size, 0, none⟩) N N, .slice none 0 0] tf 4 1 B (by omega) (by unfold maxLen; omega) rfl
      refine (hm.ext ((Ext.refl _).alloc _) (by decide)).chg r2 (fun k hk e => ?_) (by decide)
      have hk' : w6.heap.size = k := by simpa [rowBlock] using hk
      have := hold k e
      omega
    · rw [List.mem_singleton.1 hu]; exact hXO
  have hms : ((w6.alloc (.cells #[.int .i64 an, .int .i64 0, .slice (some ⟨w5.heap.size, 0, none⟩) N N, .slice none 0 0] tf)).alloc (.cells #[.slice (some ⟨w6.heap.size, 0, none⟩) 1 1, .int .i64 (-1)] tb)).heap.size = w6.heap.size + 2 := by simp
  have hv1 : rowBlock v1 = rowBlock P.vfs ∨ ∀ k, rowBlock v1 = some k → w6.heap.size + 2 ≤ k := r3.imp id fun e k hk => by have := e k hk; omega
  have hYbl : ∀ k ∈ Y.bl, k = w6.heap.size ∨ (k = w5.heap.size ∧ w5.heap.size < w6.heap.size) := fun k hk => by
    unfold PFiber.bl at hk
    simp only [Y, List.flatMap_cons, List.flatMap_nil, List.append_nil, List.mem_append] at hk
    rcases hk with h1 | h1
    · left; simpa [rowBlock, eq_comm] using h1
    · unfold PFrame.bl at h1
      rcases List.mem_append.1 h1 with h2 | h2
      · exact .inr (hvb k (by simpa using h2))
      · simp [X, rowBlock] at h2
  obtain ⟨o9, c9⟩ := h.addFiber (y := Y) (v1 := v1) ((Chg.of_ext hEm).trans r2) (by
      rw [List.length_append, List.length_singleton, List.flatMap_append]; exact r1) hYO hl (hv1.imp id fun e k hk => by have := e k hk; omega) (by
      unfold PFiber.bl
      simp only [Y, List.flatMap_cons, List.flatMap_nil, List.append_nil]
      unfold PFrame.bl
      rw [show rowBlock X.vs = none from rfl, show rowBlock (.slice (some ⟨w6.heap.size, 0, none⟩) 1 1) = some w6.heap.size from rowBlock_some _ _ _ _ (by decide)]
      cases hr : rowBlock X.vl with
      | none => simp
      | some k =>
        have h3 := hvb k hr
        have h4 : w6.heap.size ≠ k := by omega
        simp [h4]) (fun k hk => by
      refine ⟨by rcases hYbl k hk with h1 | h1 <;> omega, fun e => ?_⟩
      rcases hv1 with h2 | h2
      · have := hold k (h2 ▸ e)
        rcases hYbl k hk with h1 | h1 <;> omega
      · have := h2 k e
        rcases hYbl k hk with h1 | h1 <;> omega)
  refine ⟨⟨_, o9, ?_, fun k hk => ?_⟩, c9⟩
  · unfold PState.g
    simp [Y, X, PFiber.g]
  · unfold PState.bl at hk
    simp only [List.flatMap_append, List.mem_append] at hk
    rcases hk with (h3 | h3) | h3 | h3
    · have h4 : rowBlock v1 = some k := by simpa using h3
      rcases hv1 with h5 | h5
      · exact .inl (PState.mem_vfs (h5 ▸ h4))
      · have := h5 k h4
        exact .inr (by omega)
    · exact .inl (PState.mem_vo (by simpa using h3))
    · obtain ⟨z, hz, h4⟩ := List.mem_flatMap.1 h3
      exact .inl (PState.mem_fs hz h4)
    · have h4 : k ∈ Y.bl := by simpa using h3
      exact .inr (by rcases hYbl k h4 with h1 | h1 <;> omega)
theorem done_any (p : List GFunc) (v : Value) {P : PState} {w : World} {B b : Nat} (hp : Funcs w (· < B) v p) (h : OwnS w B b P) (hf : FewS P.g) (hfit : OpFit p P.g) :
    Calls Try.prog 137 #[v, .pointer (some ⟨b, 0, none⟩)] w fun e w' => e = .returned (.int .i64 (doneG p P.g).1) ∧ Did w w' B b P (doneG p P.g) := by
  obtain ⟨⟨ht, hn0, hn1, ha0, ha1⟩, hwf⟩ := hfit
  obtain ⟨L, y, R, F, x, hs, hnw⟩ := hasSpot ht
  have hnw : P.now = L.length := hnw
  have hcx := curX_at hs hnw
  rw [hcx] at hn0 hn1 ha0 ha1 hwf
  obtain ⟨fn, hfn⟩ : ∃ n : Nat, x.f.func = n := ⟨x.f.func.toNat, by omega⟩
  obtain ⟨at', hat⟩ : ∃ n : Nat, x.f.at_ = n := ⟨x.f.at_.toNat, by omega⟩
  have hfl : fn < p.length := by omega
  have hF : funcOf p x.f.func = p[fn] := by rw [hfn]; unfold funcOf; simp [List.getD, List.getElem?_eq_getElem hfl]
  rw [hF] at ha1
  have hal : at' < p[fn].code.length := by omega
  have hop : opAt p x.f = p[fn].code[at'] := by unfold opAt; rw [hF, hat]; simp [List.getD, List.getElem?_eq_getElem hal]
  rw [hop] at hwf
  have hD : doneG p P.g = workG p (advG P.g) p[fn].code[at'].kind p[fn].code[at'].a := by unfold doneG; rw [hcx, hop]
  obtain ⟨bp, op, capp, rfl, hcapp, hby, _, _, vc, hcv, hops⟩ := hp.get hfl
  obtain ⟨bc, oc, capc, rfl, hcapc, hbyc, ⟨_, hk0, hk1⟩, _, hq0, hq1⟩ := hops.get hal
  obtain ⟨k, hk⟩ : ∃ k, p[fn].code[at'].kind = k := ⟨_, rfl⟩
  obtain ⟨a, ha⟩ : ∃ a, p[fn].code[at'].a = a := ⟨_, rfl⟩
  obtain ⟨M, hM⟩ : ∃ M, p[fn].code.length = M := ⟨_, rfl⟩
  rw [hk] at hk0 hk1 hwf hD
  rw [ha] at hq0 hq1 hwf hD
  rw [hM] at hal hcv hcapc hbyc
  obtain ⟨g, o, cap, hyv, hcap, hmax, ⟨f0, _⟩, ⟨f1, f1'⟩, _, _, hbl⟩ := h.spot hs
  rw [hfn] at f0
  rw [hat] at f1
  have KA : IntKind.i64.wrap ((at' : Int) + 1) = (at' : Int) + 1 := IntWalk.i64_in _ (by omega)
  have hlen2 : P.fs.length ≤ 1000 := h.few.1
  have HP := Lib.hid hp
  have H := Lib.hid h
  have HS := Lib.hid hs
  have HNW := Lib.hid hnw
  have HYV := Lib.hid hyv
  have HD := Lib.hid hD
  have HF := Lib.hid hf
  have HT := Lib.hid ht
  have HWF := Lib.hid hwf
  have HBL := Lib.hid hbl
  have HAT := Lib.hid hat
  obtain ⟨i0, hi0, hz0, hz1, hz2⟩ := info_parts infoI
  obtain ⟨i2, hi2, hz6, hz7, hz8⟩ := info_parts infoFb
  have RA := alloc_keep
  obtain ⟨c1, -⟩ := h.c1
  rw [hnw] at c1
  clear hp h hs hnw hyv hD hf ht hwf hcx hop hF hbl hn0 hn1 ha0 ha1 hM hk ha hops hfn hat
  go_enter Try.func137, Try.ntmps137
  go_upto_region 2 with (first
    | (go_at_call 144; (with_reducible refine (top_any H.out HS.out HYV.out L.length rfl).mono ?_); rintro e w2 ⟨rfl, hx2⟩))
  have HX2 := Lib.hid hx2
  have f0 := Ext.cell hx2 f0
  have f1w := f1
  have f1 := Ext.cell hx2 f1
  have hcv := Ext.cell hx2 hcv
  have hk0 := Ext.cell hx2 hk0
  have hq0 := Ext.cell hx2 hq0
  clear hx2
  have f1'2 := (Cx.ext (W' := w2) ⟨f1w, f1'⟩ HX2.out).2
  refine wp_region_rt (fun w' => w'.cell? ⟨g, o + F.length * 4, none⟩ = some (.int .i64 fn) ∧ w'.cell? ⟨g, o + F.length * 4 + 1, none⟩ = some (.int .i64 at') ∧ w'.cell? ⟨bp, op + fn * 3 + 2, none⟩ = some (.slice (some ⟨bc, oc, none⟩) M capc) ∧ w'.cell? ⟨bc, oc + at' * 2, none⟩ = some (.int .i64 k) ∧ w'.cell? ⟨bc, oc + at' * 2 + 1, none⟩ = some (.int .i64 a))
    15 [0, 1, 2, 3, 4, 5, 6, 7, 8, 9, 10, 11, 12, 13] [14, 15] (by kernel_rfl) (by kernel_rfl) (fun _ _ _ _ _ h => h) ⟨f0, f1, hcv, hk0, hq0⟩ ?_
  (try simp only [pickOps, List.filterMap_cons, List.filterMap_nil, List.getElem?_cons_zero, List.getElem?_cons_succ])
  repeat (
    refine readsQ_do (by rfl) ?_
    apply Exists.intro
    refine ⟨fun w' hw' => ?_, ?_⟩
    focus
      (try dsimp only at hw')
      go_split_ands
      go_simp
      (try with_reducible rfl)
    (try dsimp only [Act.put])
    (try simp only [List.setIfInBounds_toArray, List.set_cons_succ, List.set_cons_zero]))
  refine readsQ_nil ?_
  refine tailW_step ?_
  go_wp2_with fail
  refine nextW_go (by refine ⟨?_, ?_, ?_, ?_, ?_⟩ <;> simp [*]) ?_
  refine tailW_step ?_
  go_wp2_with fail
  refine nextW_end ?_
  have f1b := (Cx.ext (W := w2) ⟨f1, f1'2⟩ ((Ext.refl w2).alloc (.cells #[.int .i64 k, .int .i64 a] 110))).2
  go_upto_region 4 with fail
  obtain ⟨W4, hW4⟩ : ∃ W4, W4 = ((w2.alloc (.cells #[.int .i64 k, .int .i64 a] 110)).setCell ⟨g, o + F.length * 4 + 1, none⟩ (.int .i64 ((at' : Int) + 1))).drew := ⟨_, rfl⟩
  rw [← hW4]
  obtain ⟨P1, y1, x1, HO, HS1, HYV1, HNW1, HG1, C4, BL4, HXF1⟩ : ∃ P1 y1 x1, Hid (OwnS W4 B b P1) ∧ Hid (Spot P1 L y1 R F x1) ∧ Hid (y1.vf = .slice (some ⟨g, o, none⟩) (F ++ [x1]).length cap) ∧ Hid (P1.now = L.length) ∧ Hid (P1.g = advG P.g) ∧ Hid (Chg (· ∈ b :: P.bl) w W4) ∧ Hid (∀ k ∈ P1.bl, k ∈ P.bl) ∧ Hid (x1.f.locals = x.f.locals ∧ x1.f.stack = x.f.stack) := by
    have h9 := ((H.out).ext (HX2.out.alloc (.cells #[.int .i64 k, .int .i64 a] 110))).setAt HS.out HYV.out ((at' : Int) + 1) (by unfold I64; omega)
    refine ⟨replTop P L y R F ⟨{ x.f with at_ := (at' : Int) + 1 }, x.vl, x.vs⟩, { y with fr := F ++ [⟨{ x.f with at_ := (at' : Int) + 1 }, x.vl, x.vs⟩] }, ⟨{ x.f with at_ := (at' : Int) + 1 }, x.vl, x.vs⟩, ?_, ⟨rfl, rfl⟩, by rw [List.length_append]; have := HYV.out; rw [List.length_append] at this; exact this, HNW.out, ?_, ?_, ?_, ⟨rfl, rfl⟩⟩
    · rw [hW4]; exact h9.1.ext (Ext.refl _).drew
    · unfold Hid advG
      refine (modTop_at HS.out HNW.out ?_).symm
      rw [HAT.out]
    · rw [hW4]
      exact ((Chg.of_ext (HX2.out.alloc _)).trans h9.2).drew
    · intro k hk
      exact repl_same (x' := ⟨{ x.f with at_ := (at' : Int) + 1 }, x.vl, x.vs⟩) HS.out rfl k hk
  have hbx : w2.heap.size ∉ b :: P1.bl := fun hm => by
    have h1 : w2.heap.size ∈ b :: P.bl := by
      rcases List.mem_cons.1 hm with e | e
      · rw [e]; exact List.mem_cons_self
      · exact List.mem_cons_of_mem _ (BL4.out _ e)
    have := (H.out).lt _ h1
    have := HX2.out.size
    omega
  have hcap0 : cap ≠ 0 := by simp at hcap; omega
  have hgb2 : w2.heap.size ≠ g := fun e => hbx (List.mem_cons_of_mem _ ((HS1.out).bl (.inl (by rw [HYV1.out, e]; exact rowBlock_some _ _ _ _ hcap0))))
  have hb0 : Cx W4 w2.heap.size 0 (.int .i64 k) := by rw [hW4]; exact (((Cx.new w2 [.int .i64 k, .int .i64 a] _ (j := 0) rfl).other (.inl hgb2) _).ext (Ext.refl _).drew)
  have hb1 : Cx W4 w2.heap.size 1 (.int .i64 a) := by rw [hW4]; exact (((Cx.new w2 [.int .i64 k, .int .i64 a] _ (j := 1) rfl).other (.inl hgb2) _).ext (Ext.refl _).drew)
  have HBX := Lib.hid hbx
  have HB1 := Lib.hid hb1
  obtain ⟨hb0, -⟩ := hb0
  obtain ⟨hb1, -⟩ := hb1
  generalize w2.heap.size = bx at *
  have hD2 := HD.out
  rw [← HG1.out] at hD2
  have HD2 := Lib.hid hD2
  have hw2 := HWF.out
  rw [← HG1.out] at hw2
  have HW2 := Lib.hid hw2
  have HT1 : Hid (HasTop P1.g P1.g.now) := by unfold Hid; rw [HG1.out]; exact (HT.out).top _
  have HTL : Hid (HasTop P1.g (L.length : Int)) := by unfold Hid; rw [← HNW1.out]; exact HT1.out
  have HR1 : Hid (Room P1.g) := by unfold Hid; rw [HG1.out]; exact (HF.out).room.top _ (fun _ => Nat.le_refl _)
  have HOUT : Hid (P1.g.out.length < 1000) := by unfold Hid; rw [HG1.out]; have := (HF.out).2.1; show P.g.out.length < 1000; omega
  have HCUR : Hid ((curF P1.g).frames.length < 1000) := by unfold Hid; rw [HG1.out]; unfold advG; rw [curF_frames _ HT.out]; exact (HF.out).cur HT.out
  have HPL : Hid (Funcs W4 (· < B) (.slice (some ⟨bp, op, none⟩) p.length capp) p) := Funcs.stays ((C4.out).stays (fun k hk hm => by have := (H.out).ge k hm; omega)) HP.out
  have hcb := (HO.out).c1.1
  rw [HNW1.out] at hcb
  clear hW4 hbx hgb2 f0 f1 f1' f1'2 f1b f1w hcv hk0 hq0 c1 hD2 hw2 HX2 HD HWF hcap hmax
  rename World => w2
  by_cases h0 : k = 0
  · subst h0
    have HWK : Hid (workG p P1.g 0 a = (0, pushG P1.g (L.length : Int) a)) := by unfold Hid workG; rw [if_pos rfl, show P1.g.now = (L.length : Int) from HNW1.out]
    go_upto_region 9 with fail
    refine wp_region_ext_tail 7 (by kernel_rfl) (by kernel_rfl) ?_
    simp only [List.take_succ_cons, List.take_zero, List.drop_succ_cons, List.drop_zero]
    repeat (first
      | go_big_quiet_skip
      | (go_big_quiet_want
         unfold Oper.quiet
         apply Exists.intro
         refine ⟨fun w' hw' => ?_, ?_⟩
         focus
           have hcq := Ext.keep hw'
           go_simp
           first
             | with_reducible rfl
             
         (try dsimp only [Act.put])
         (try simp only [List.setIfInBounds_toArray, List.set_cons_succ, List.set_cons_zero])
         go_big_quiet_on))
    refine wpQuiet_nil ?_
    intro wq hq
    go_wp2_with (first
      | (go_at_call 145; (with_reducible refine (push_any ((HO.out).ext (by ((repeat (first | assumption | exact Ext.refl _ | (exact And.left (by assumption)) | refine Ext.alloc ?_ _ | refine Ext.drew ?_ | refine Ext.drewN ?_ _ | refine Ext.setCell ?_ (by simp) _ | refine Ext.setCell ?_ (by simp; omega) _ | refine Ext.trans ?_ (by assumption))); done))) (L.length : Int) HTL.out HR1.out a hq1).mono ?_); rintro e w5 ⟨rfl, t5⟩))
    go_ret
    obtain ⟨e9, d9⟩ := done_ok HD2.out HWK.out C4.out BL4.out (Did.of (Turn.pre (by ((repeat (first | assumption | exact Ext.refl _ | (exact And.left (by assumption)) | refine Ext.alloc ?_ _ | refine Ext.drew ?_ | refine Ext.drewN ?_ _ | refine Ext.setCell ?_ (by simp) _ | refine Ext.setCell ?_ (by simp; omega) _ | refine Ext.trans ?_ (by assumption))); done)) t5))
    rw [e9]
    exact ⟨rfl, d9⟩
  have T0 : (k == 0) = false := beq_false_of_ne h0
  by_cases h1 : k = 1
  · subst h1
    have HWK : Hid (workG p P1.g 1 a = (0, popG P1.g)) := by unfold Hid workG; simp
    have hst : 1 ≤ (curX P1.g).stack.length := by have h := HW2.out; unfold WorkFit at h; simpa using h
    have HST := Lib.hid hst
    go_wp2_with (first
      | (go_at_call 146; (with_reducible refine (pull_any HO.out HT1.out HST.out).mono ?_); rintro e w5 ⟨rfl, t5⟩))
    go_ret
    obtain ⟨e9, d9⟩ := done_ok HD2.out HWK.out C4.out BL4.out (Did.of t5)
    rw [e9]
    exact ⟨rfl, d9⟩
  have T1 : (k == 1) = false := beq_false_of_ne h1
  by_cases h2 : k = 2
  · subst h2
    have hfit : 0 ≤ a ∧ a < (curX P1.g).locals.length := by have h := HW2.out; unfold WorkFit at h; simpa using h
    obtain ⟨an, han⟩ : ∃ n : Nat, a = n := ⟨a.toNat, by omega⟩
    subst han
    have hcx := curX_at HS1.out HNW1.out
    rw [hcx] at hfit
    have hxl : an < x1.f.locals.length := by omega
    have hxO := ((HO.out).fs y1 (by rw [(HS1.out).fs]; simp)).fr x1 (by rw [(HS1.out).fr]; simp)
    obtain ⟨al9, cl9, ex, hcl, _⟩ := hxO.l.shape
    have hlr := hxO.l
    rw [ex] at hlr
    obtain ⟨gl, ol, rfl, _, hcells⟩ := hlr.cell (by omega)
    have z0 := (hcells an (by omega)).1
    rw [ints_get _ _ hxl] at z0
    obtain ⟨u, hu⟩ : ∃ u, x1.f.locals.getD an 0 = u := ⟨_, rfl⟩
    have hui : I64 u := by rw [← hu, List.getD_eq_getElem?_getD, List.getElem?_eq_getElem hxl]; exact hxO.i.2.2.1 _ (List.getElem_mem _)
    rw [hu] at z0
    have HWK : Hid (workG p P1.g 2 an = (0, pushG P1.g (L.length : Int) u)) := by unfold Hid workG; rw [if_neg (by decide), if_neg (by decide), if_pos rfl, Int.toNat_natCast, hcx, hu, show P1.g.now = (L.length : Int) from HNW1.out]
    obtain ⟨g', o', cap', hv', _, _, _, _, ⟨x2, _⟩, _, _⟩ := (HO.out).spot HS1.out
    rw [HYV1.out] at hv'
    simp only [Value.slice.injEq, Option.some.injEq, Addr.mk.injEq] at hv'
    obtain ⟨⟨rfl, rfl, -⟩, -, rfl⟩ := hv'
    rw [ex] at x2
    clear hxO hlr hcells hcx ex hu
    go_upto_region 13 with fail
    refine wp_region_ext_tail 13 (by kernel_rfl) (by kernel_rfl) ?_
    simp only [List.take_succ_cons, List.take_zero, List.drop_succ_cons, List.drop_zero]
    repeat (first
      | go_big_quiet_skip
      | (go_big_quiet_want
         unfold Oper.quiet
         apply Exists.intro
         refine ⟨fun w' hw' => ?_, ?_⟩
         focus
           have hcq := Ext.keep hw'
           go_simp
           first
             | with_reducible rfl
             
         (try dsimp only [Act.put])
         (try simp only [List.setIfInBounds_toArray, List.set_cons_succ, List.set_cons_zero])
         go_big_quiet_on))
    refine wpQuiet_nil ?_
    intro wq hq
    go_wp2_with (first
      | (go_at_call 145; (with_reducible refine (push_any ((HO.out).ext (by ((repeat (first | assumption | exact Ext.refl _ | (exact And.left (by assumption)) | refine Ext.alloc ?_ _ | refine Ext.drew ?_ | refine Ext.drewN ?_ _ | refine Ext.setCell ?_ (by simp) _ | refine Ext.setCell ?_ (by simp; omega) _ | refine Ext.trans ?_ (by assumption))); done))) (L.length : Int) HTL.out HR1.out u hui).mono ?_); rintro e w5 ⟨rfl, t5⟩))
    go_ret
    obtain ⟨e9, d9⟩ := done_ok HD2.out HWK.out C4.out BL4.out (Did.of (Turn.pre (by ((repeat (first | assumption | exact Ext.refl _ | (exact And.left (by assumption)) | refine Ext.alloc ?_ _ | refine Ext.drew ?_ | refine Ext.drewN ?_ _ | refine Ext.setCell ?_ (by simp) _ | refine Ext.setCell ?_ (by simp; omega) _ | refine Ext.trans ?_ (by assumption))); done)) t5))
    rw [e9]
    exact ⟨rfl, d9⟩
  have T2 : (k == 2) = false := beq_false_of_ne h2
  by_cases h9 : k = 9
  · subst h9
    have HWK : Hid (workG p P1.g 9 a = (0, setAtG P1.g a)) := by unfold Hid workG; simp
    obtain ⟨g', o', cap', hv', _, _, _, ⟨x2, x2'⟩, _, _, _⟩ := (HO.out).spot HS1.out
    rw [HYV1.out] at hv'
    simp only [Value.slice.injEq, Option.some.injEq, Addr.mk.injEq] at hv'
    obtain ⟨⟨rfl, rfl, -⟩, -, rfl⟩ := hv'
    go_wp2_with fail
    go_ret
    obtain ⟨e9, d9⟩ := done_ok HD2.out HWK.out C4.out BL4.out (Did.of (let h9 := (HO.out).setAt HS1.out HYV1.out a hq1; ⟨⟨_, h9.1, (modTop_at HS1.out HNW1.out rfl).symm, fun k hk => .inl (repl_same (x' := ⟨{ x1.f with at_ := a }, x1.vl, x1.vs⟩) HS1.out rfl k hk)⟩, h9.2⟩))
    rw [e9]
    exact ⟨rfl, d9⟩
  have T9 : (k == 9) = false := beq_false_of_ne h9
  by_cases h11 : k = 11
  · subst h11
    have hfit : CallFit p P1.g a := by have h := HW2.out; unfold WorkFit at h; simpa using h
    obtain ⟨an, han⟩ : ∃ n : Nat, a = n := ⟨a.toNat, by have := hfit.1; omega⟩
    subst han
    have HWK : Hid (workG p P1.g 11 an = callG p P1.g an) := by unfold Hid workG; simp
    have HFIT := Lib.hid hfit
    go_wp2_with (first
      | (go_at_call 147; (with_reducible refine (called_any p _ _ an HPL.out HO.out HT1.out HCUR.out HFIT.out).mono ?_); rintro e w5 ⟨rfl, t5⟩))
    go_ret
    obtain ⟨e9, d9⟩ := done_ok HD2.out HWK.out C4.out BL4.out (t5)
    rw [e9]
    exact ⟨rfl, d9⟩
  have T11 : (k == 11) = false := beq_false_of_ne h11
  by_cases h12 : k = 12
  · subst h12
    have hfit : ReturnFit P1.g := by have h := HW2.out; unfold WorkFit at h; simpa using h
    have HWK : Hid (workG p P1.g 12 a = returnG P1.g) := by unfold Hid workG; simp
    have HFIT := Lib.hid hfit
    go_wp2_with (first
      | (go_at_call 148; (with_reducible refine (given_any HO.out HT1.out HR1.out HOUT.out HFIT.out).mono ?_); rintro e w5 ⟨rfl, t5⟩))
    go_ret
    obtain ⟨e9, d9⟩ := done_ok HD2.out HWK.out C4.out BL4.out (t5)
    rw [e9]
    exact ⟨rfl, d9⟩
  have T12 : (k == 12) = false := beq_false_of_ne h12
  by_cases h14 : k = 14
  · subst h14
    have hfit : ResumeFit P1.g := by have h := HW2.out; unfold WorkFit at h; simpa using h
    have HWK : Hid (workG p P1.g 14 a = resumeG P1.g) := by unfold Hid workG; simp
    have HFIT := Lib.hid hfit
    go_wp2_with (first
      | (go_at_call 149; (with_reducible refine (resumed_any HO.out HT1.out HR1.out HFIT.out).mono ?_); rintro e w5 ⟨rfl, t5⟩))
    go_ret
    obtain ⟨e9, d9⟩ := done_ok HD2.out HWK.out C4.out BL4.out (t5)
    rw [e9]
    exact ⟨rfl, d9⟩
  have T14 : (k == 14) = false := beq_false_of_ne h14
  by_cases h15 : k = 15
  · subst h15
    have hfit : 1 ≤ (curX P1.g).stack.length ∧ BackFit (popG P1.g) := by have h := HW2.out; unfold WorkFit at h; simpa using h
    have HWK : Hid (workG p P1.g 15 a = yieldG P1.g) := by unfold Hid workG; simp
    have HFIT := Lib.hid hfit
    go_wp2_with (first
      | (go_at_call 150; (with_reducible refine (yielded_any HO.out HT1.out HR1.out (HFIT.out).1 (HFIT.out).2).mono ?_); rintro e w5 ⟨rfl, t5⟩))
    go_ret
    obtain ⟨e9, d9⟩ := done_ok HD2.out HWK.out C4.out BL4.out (t5)
    rw [e9]
    exact ⟨rfl, d9⟩
  have T15 : (k == 15) = false := beq_false_of_ne h15
  by_cases h16 : k = 16
  · subst h16
    have hfit : 1 ≤ (curX P1.g).stack.length := by have h := HW2.out; unfold WorkFit at h; simpa using h
    have HWK : Hid (workG p P1.g 16 a = putG (popG P1.g) (lastV P1.g)) := by unfold Hid workG; simp
    have HFIT := Lib.hid hfit
    have hLI := (HO.out).lastI HT1.out hfit
    generalize hlv : lastV P1.g = u at *
    have HLV := Lib.hid hlv
    clear hlv
    go_wp2_with (first
      | (go_at_call 146; (with_reducible refine (pull_any HO.out HT1.out HFIT.out).mono ?_); rintro e w5 ⟨rfl, t5⟩; rw [HLV.out]; obtain ⟨⟨P5, o5, g5, s5⟩, c5⟩ := t5; have HO5 := Lib.hid o5; have HG5 := Lib.hid g5; have hl5 : P5.g.out.length < 1000 := (by rw [g5]; exact HOUT.out); clear o5 g5)
      | (go_at_call 151; (with_reducible refine (put_any HO5.out hl5 u hLI).mono ?_); rintro e w6 ⟨rfl, t6⟩; rw [HG5.out] at t6 ⊢))
    go_ret
    obtain ⟨e9, d9⟩ := done_ok HD2.out HWK.out C4.out BL4.out (Did.step c5 s5 t6)
    rw [e9]
    exact ⟨rfl, d9⟩
  have T16 : (k == 16) = false := beq_false_of_ne h16
  by_cases h3 : k = 3
  · subst h3
    have hfit : 0 ≤ a ∧ a < (curX P1.g).locals.length ∧ 1 ≤ (curX P1.g).stack.length := by have h := HW2.out; unfold WorkFit at h; simpa using h
    obtain ⟨an, han⟩ : ∃ n : Nat, a = n := ⟨a.toNat, by omega⟩
    subst han
    have hcx := curX_at HS1.out HNW1.out
    rw [hcx] at hfit
    obtain ⟨st, u, hst⟩ := split_last x1.f.stack (by omega)
    have hlast : lastV P1.g = u := by unfold lastV; rw [hcx, hst]; exact getD_last _ _ _ _ rfl
    have hui : I64 u := by have := (HO.out).lastI HT1.out (by rw [hcx]; omega); rwa [hlast] at this
    have HST := Lib.hid hst
    obtain ⟨g', o', cap', hv', _, _, _, ⟨x1a, x1a'⟩, ⟨x2, x2'⟩, _, hblg⟩ := (HO.out).spot HS1.out
    rw [HYV1.out] at hv'
    simp only [Value.slice.injEq, Option.some.injEq, Addr.mk.injEq] at hv'
    obtain ⟨⟨rfl, rfl, -⟩, -, rfl⟩ := hv'
    have hbxc : ¬ (rowBlock y1.vf = some bx ∨ rowBlock x1.vs = some bx) := by
      rintro (e | e)
      · exact HBX.out (List.mem_cons_of_mem _ ((HS1.out).bl (.inl e)))
      · exact HBX.out (List.mem_cons_of_mem _ ((HS1.out).bl (.inr (by unfold PFrame.bl; simp [e]))))
    have HBXC := Lib.hid hbxc
    clear hbxc
    have hxl : an < x1.f.locals.length := by omega
    have HWK : Hid (workG p P1.g 3 an = (0, modTop (popG P1.g) (L.length : Int) fun x => { x with locals := x.locals.set an u })) := by unfold Hid workG; rw [if_neg (by decide), if_neg (by decide), if_neg (by decide), if_pos rfl, Int.toNat_natCast, hlast, show P1.g.now = (L.length : Int) from HNW1.out]
    obtain ⟨al9, cl9, ex, hcl, _⟩ := (((HO.out).fs y1 (by rw [(HS1.out).fs]; simp)).fr x1 (by rw [(HS1.out).fr]; simp)).l.shape
    have hlr := (((HO.out).fs y1 (by rw [(HS1.out).fs]; simp)).fr x1 (by rw [(HS1.out).fr]; simp)).l
    rw [ex] at hlr
    obtain ⟨gl, ol, rfl, _, _⟩ := hlr.cell (by omega)
    rw [ex] at x2
    have HEX := Lib.hid ex
    clear hlr ex hcl hcx hlast hst
    go_upto_region 15 with fail
    refine wp_region_rt (fun w' => w'.cell? ⟨g, o + F.length * 4 + 2, none⟩ = some (.slice (some ⟨gl, ol, none⟩) x1.f.locals.length cl9) ∧ w'.cell? ⟨bx, 1, none⟩ = some (.int .i64 an))
      9 [0, 1, 2, 3, 4, 5, 6] [7, 8, 9] (by kernel_rfl) (by kernel_rfl) (fun _ _ _ _ _ h => h) ⟨x2, hb1⟩ ?_
    (try simp only [pickOps, List.filterMap_cons, List.filterMap_nil, List.getElem?_cons_zero, List.getElem?_cons_succ])
    repeat (
      refine readsQ_do (by rfl) ?_
      apply Exists.intro
      refine ⟨fun w' hw' => ?_, ?_⟩
      focus
        (try dsimp only at hw')
        go_split_ands
        go_simp
        (try with_reducible rfl)
      (try dsimp only [Act.put])
      (try simp only [List.setIfInBounds_toArray, List.set_cons_succ, List.set_cons_zero]))
    refine readsQ_nil ?_
    refine tailW_step ?_
    go_wp2_with (first
      | (go_at_call 146; (with_reducible refine (pull_at ((HO.out).ext (Ext.refl _).drew) HS1.out HNW1.out st u HST.out).mono ?_); rintro e w5 ⟨rfl, ⟨v5, o5, hv5⟩, c5⟩))
    obtain ⟨P5, y5, x5, HO5, HS5, HY5, HX5, HG5, BL5, C5⟩ : ∃ P5 y5 x5, Hid (OwnS w5 B b P5) ∧ Hid (Spot P5 L y5 R F x5) ∧ Hid (y5.vf = .slice (some ⟨g, o, none⟩) (F ++ [x5]).length cap) ∧ Hid (x5.vl = x1.vl ∧ x5.f.locals = x1.f.locals) ∧ Hid (P5.g = popG P1.g ∧ P5.now = L.length) ∧ Hid (∀ k ∈ P5.bl, k ∈ P1.bl ∨ w2.heap.size ≤ k) ∧ Hid (Chg (· ∈ b :: P1.bl) w2 w5) := by
      refine ⟨_, _, _, o5, ⟨rfl, rfl⟩, ?_, ⟨rfl, rfl⟩, ⟨(modTop_at HS1.out HNW1.out ?_).symm, HNW1.out⟩, repl_bl HS1.out (frame_bl (.inl hv5)), (Chg.of_ext (Ext.refl _).drew).trans (chg_spot HS1.out c5)⟩
      · have := HYV1.out
        rw [List.length_append, List.length_singleton] at this ⊢
        exact this
      · rw [HST.out]; simp
    obtain ⟨g', o', cap', hv', _, _, _, ⟨z1, z1'⟩, ⟨z2, z2'⟩, _, _⟩ := (HO5.out).spot HS5.out
    rw [HY5.out] at hv'
    simp only [Value.slice.injEq, Option.some.injEq, Addr.mk.injEq] at hv'
    obtain ⟨⟨rfl, rfl, -⟩, -, rfl⟩ := hv'
    have hb1' := Chg.cell c5 (b := bx) (o := 1) HBXC.out (by simpa using hb1)
    clear o5 hv5 c5
    rw [(HX5.out).1, HEX.out] at z2
    have HEX5 : Hid (x5.vl = .slice (some ⟨gl, ol, none⟩) x1.f.locals.length cl9) := by unfold Hid; rw [(HX5.out).1]; exact HEX.out
    have hxl5 : an < x5.f.locals.length := by rw [(HX5.out).2]; exact hxl
    have hlr5 := (((HO5.out).fs y5 (by rw [(HS5.out).fs]; simp)).fr x5 (by rw [(HS5.out).fr]; simp)).l
    rw [HEX5.out, (HX5.out).2] at hlr5
    obtain ⟨gl', ol', e5, _, hcells⟩ := hlr5.cell (by omega)
    simp only [Option.some.injEq, Addr.mk.injEq] at e5
    obtain ⟨rfl, rfl, -⟩ := e5
    obtain ⟨q0, q0'⟩ := hcells an (by omega)
    rw [ints_get _ _ hxl] at q0
    clear hcells hlr5
    refine nextW_go ⟨z2, hb1'⟩ ?_
    refine tailW_step ?_
    go_wp2_with fail
    refine nextW_go ⟨z2, hb1'⟩ ?_
    refine tailW_step ?_
    go_wp2_with fail
    refine nextW_end ?_
    go_wp2_with fail
    go_ret
    obtain ⟨e9, d9⟩ := done_ok HD2.out HWK.out C4.out BL4.out (Did.of (by
      obtain ⟨k1, k2⟩ := (HO5.out).setLocal HS5.out HEX5.out an hxl5 u hui
      refine Turn.step C5.out BL5.out ⟨⟨_, k1, ?_, fun k hk => .inl (repl_same (x' := ⟨{ x5.f with locals := x5.f.locals.set an u }, x5.vl, x5.vs⟩) HS5.out rfl k hk)⟩, k2⟩
      rw [← (HG5.out).1]
      exact (modTop_at HS5.out rfl rfl).symm))
    rw [e9]
    exact ⟨rfl, d9⟩
  have T3 : (k == 3) = false := beq_false_of_ne h3
  by_cases h10 : k = 10
  · subst h10
    have hfit : 1 ≤ (curX P1.g).stack.length := by have h := HW2.out; unfold WorkFit at h; simpa using h
    have hcx := curX_at HS1.out HNW1.out
    rw [hcx] at hfit
    obtain ⟨st, u, hst⟩ := split_last x1.f.stack (by omega)
    have hlast : lastV P1.g = u := by unfold lastV; rw [hcx, hst]; exact getD_last _ _ _ _ rfl
    have hui : I64 u := by have := (HO.out).lastI HT1.out (by rw [hcx]; omega); rwa [hlast] at this
    have HST := Lib.hid hst
    obtain ⟨g', o', cap', hv', _, _, _, ⟨x1a, x1a'⟩, ⟨x2, x2'⟩, _, hblg⟩ := (HO.out).spot HS1.out
    rw [HYV1.out] at hv'
    simp only [Value.slice.injEq, Option.some.injEq, Addr.mk.injEq] at hv'
    obtain ⟨⟨rfl, rfl, -⟩, -, rfl⟩ := hv'
    have hbxc : ¬ (rowBlock y1.vf = some bx ∨ rowBlock x1.vs = some bx) := by
      rintro (e | e)
      · exact HBX.out (List.mem_cons_of_mem _ ((HS1.out).bl (.inl e)))
      · exact HBX.out (List.mem_cons_of_mem _ ((HS1.out).bl (.inr (by unfold PFrame.bl; simp [e]))))
    have HBXC := Lib.hid hbxc
    clear hbxc
    clear hcx hst
    by_cases hu0 : u = 0
    · have TU : (u == 0) = true := by rw [hu0]; rfl
      have HWK : Hid (workG p P1.g 10 a = (0, setAtG (popG P1.g) a)) := by unfold Hid workG; simp [hlast, hu0]
      clear hlast hu0
      go_upto_region 20 with (first
        | (go_at_call 146; (with_reducible refine (pull_at HO.out HS1.out HNW1.out st u HST.out).mono ?_); rintro e w5 ⟨rfl, ⟨v5, o5, hv5⟩, c5⟩))
      obtain ⟨P5, y5, x5, HO5, HS5, HY5, HX5, HG5, BL5, C5⟩ : ∃ P5 y5 x5, Hid (OwnS w5 B b P5) ∧ Hid (Spot P5 L y5 R F x5) ∧ Hid (y5.vf = .slice (some ⟨g, o, none⟩) (F ++ [x5]).length cap) ∧ Hid (x5.vl = x1.vl ∧ x5.f.locals = x1.f.locals) ∧ Hid (P5.g = popG P1.g ∧ P5.now = L.length) ∧ Hid (∀ k ∈ P5.bl, k ∈ P1.bl ∨ w2.heap.size ≤ k) ∧ Hid (Chg (· ∈ b :: P1.bl) w2 w5) := by
        refine ⟨_, _, _, o5, ⟨rfl, rfl⟩, ?_, ⟨rfl, rfl⟩, ⟨(modTop_at HS1.out HNW1.out ?_).symm, HNW1.out⟩, repl_bl HS1.out (frame_bl (.inl hv5)), chg_spot HS1.out c5⟩
        · have := HYV1.out
          rw [List.length_append, List.length_singleton] at this ⊢
          exact this
        · rw [HST.out]; simp
      obtain ⟨g', o', cap', hv', _, _, _, ⟨z1, z1'⟩, ⟨z2, z2'⟩, _, _⟩ := (HO5.out).spot HS5.out
      rw [HY5.out] at hv'
      simp only [Value.slice.injEq, Option.some.injEq, Addr.mk.injEq] at hv'
      obtain ⟨⟨rfl, rfl, -⟩, -, rfl⟩ := hv'
      have hb1' := Chg.cell c5 (b := bx) (o := 1) HBXC.out hb1
      clear o5 hv5 c5
      go_wp2_with fail
      go_ret
      obtain ⟨e9, d9⟩ := done_ok HD2.out HWK.out C4.out BL4.out (Did.of (by
        obtain ⟨k1, k2⟩ := (HO5.out).setAt HS5.out HY5.out a hq1
        refine Turn.step C5.out BL5.out ⟨⟨_, k1, ?_, fun k hk => .inl (repl_same (x' := ⟨{ x5.f with at_ := a }, x5.vl, x5.vs⟩) HS5.out rfl k hk)⟩, k2⟩
        rw [← (HG5.out).1]
        exact (modTop_at HS5.out (HG5.out).2 rfl).symm))
      rw [e9]
      exact ⟨rfl, d9⟩
    · have TU : (u == 0) = false := beq_false_of_ne hu0
      have HWK : Hid (workG p P1.g 10 a = (0, popG P1.g)) := by unfold Hid workG; simp [hlast, hu0]
      have HFIT : Hid (1 ≤ (curX P1.g).stack.length) := by have h := HW2.out; unfold WorkFit at h; unfold Hid; simpa using h
      have HLAST := Lib.hid hlast
      clear hlast hu0
      go_wp2_with (first
        | (go_at_call 146; (with_reducible refine (pull_any HO.out HT1.out HFIT.out).mono ?_); rintro e w5 ⟨rfl, t5⟩; rw [HLAST.out]))
      go_ret
      obtain ⟨e9, d9⟩ := done_ok HD2.out HWK.out C4.out BL4.out (Did.of t5)
      rw [e9]
      exact ⟨rfl, d9⟩
  have T10 : (k == 10) = false := beq_false_of_ne h10
  by_cases h13 : k = 13
  · subst h13
    have hfit : MakeFit p a := by have h := HW2.out; unfold WorkFit at h; simpa using h
    obtain ⟨hm0, hm1, hm2, hm3⟩ := hfit
    obtain ⟨an, han⟩ : ∃ n : Nat, a = n := ⟨a.toNat, by omega⟩
    subst han
    have hanl : an < p.length := by omega
    have hFF : funcOf p an = p[an] := by unfold funcOf; simp [List.getD, List.getElem?_eq_getElem hanl]
    obtain ⟨N, hN⟩ : ∃ N : Nat, (funcOf p an).locals = N := ⟨(funcOf p an).locals.toNat, by omega⟩
    have hN9 : N ≤ 900 := by omega
    have HNF : Hid (p[an].locals = N) := by unfold Hid; rw [← hFF]; exact hN
    have hfr : freshFrame p an = ⟨an, 0, List.replicate N 0, []⟩ := by unfold freshFrame; rw [hN]; rfl
    have hfl1 : P1.g.fibers.length = P1.fs.length := by unfold PState.g; simp
    have hf9 : P1.fs.length ≤ 900 := by
      rw [← hfl1, HG1.out]
      have := (HF.out).1
      unfold advG modTop
      rw [modFib_len]; exact this
    obtain ⟨c10, -⟩ := (HO.out).c0
    obtain ⟨av, cv, ev, hcv1, hcv2⟩ := (HO.out).row.shape
    rw [ev] at c10
    by_cases h5 : P1.fs.length = 5
    · have T5 : (((P1.fs.length : Nat) : Int) == 5) = true := by rw [h5]; rfl
      have HWK : Hid (workG p P1.g 13 an = (2, P1.g)) := by unfold Hid workG makeG; simp [hfl1, h5]
      clear hfl1 h5 hN hfr hFF
      go_wp2_with fail
      go_ret
      obtain ⟨e9, d9⟩ := done_ok HD2.out HWK.out C4.out BL4.out (⟨Chg.refl _ _, fun h => by cases h⟩)
      rw [e9]
      exact ⟨rfl, d9⟩
    · have T5 : (((P1.fs.length : Nat) : Int) == 5) = false := beq_false_of_ne (by omega)
      have HWK : Hid (workG p P1.g 13 an = (0, { pushG P1.g (L.length : Int) P1.fs.length with fibers := (pushG P1.g (L.length : Int) P1.fs.length).fibers ++ [⟨[⟨an, 0, List.replicate N 0, []⟩], -1⟩] })) := by
        unfold Hid workG makeG
        simp only [hfl1, hfr, show P1.g.now = (L.length : Int) from HNW1.out]
        simp [h5]
      clear hfl1 h5 hN hfr hFF
      go_upto_region 28 with fail
      refine wp_region_ext_tail 10 (by kernel_rfl) (by kernel_rfl) ?_
      simp only [List.take_succ_cons, List.take_zero, List.drop_succ_cons, List.drop_zero]
      repeat (first
        | go_big_quiet_skip
        | (go_big_quiet_want
           unfold Oper.quiet
           apply Exists.intro
           refine ⟨fun w' hw' => ?_, ?_⟩
           focus
             have hcq := Ext.keep hw'
             go_simp
             first
               | with_reducible rfl
               
           (try dsimp only [Act.put])
           (try simp only [List.setIfInBounds_toArray, List.set_cons_succ, List.set_cons_zero])
           go_big_quiet_on))
      refine wpQuiet_nil ?_
      intro wq hq
      go_upto_region 29 with (first
        | (go_at_call 145; (with_reducible refine (push_any ((HO.out).ext (by ((repeat (first | assumption | exact Ext.refl _ | (exact And.left (by assumption)) | refine Ext.alloc ?_ _ | refine Ext.drew ?_ | refine Ext.drewN ?_ _ | refine Ext.setCell ?_ (by simp) _ | refine Ext.setCell ?_ (by simp; omega) _ | refine Ext.trans ?_ (by assumption))); done))) (L.length : Int) HTL.out HR1.out P1.fs.length (I64.nat (by omega))).mono ?_); rintro e w5 ⟨rfl, t5⟩))
      obtain ⟨⟨P5, o5, g5, s5⟩, c5⟩ := Turn.pre (by ((repeat (first | assumption | exact Ext.refl _ | (exact And.left (by assumption)) | refine Ext.alloc ?_ _ | refine Ext.drew ?_ | refine Ext.drewN ?_ _ | refine Ext.setCell ?_ (by simp) _ | refine Ext.setCell ?_ (by simp; omega) _ | refine Ext.trans ?_ (by assumption))); done)) t5
      obtain ⟨a5, c5v, e5, hc5, hm5⟩ := o5.row.shape
      obtain ⟨k50, -⟩ := o5.c0
      rw [e5] at k50
      have hl5 : P5.fs.length = P1.fs.length := by
        have e1 : P5.fs.length = P5.g.fibers.length := by unfold PState.g; simp
        have e2 : P1.fs.length = P1.g.fibers.length := by unfold PState.g; simp
        rw [e1, e2, g5]
        unfold pushG modTop
        rw [modFib_len]
      have hb15 := Chg.cell c5 (b := bx) (o := 1) HBX.out hb1
      have hp5 : Funcs w5 (· < B) (.slice (some ⟨bp, op, none⟩) p.length capp) p := Funcs.stays (c5.stays (fun k hk hm => by have := (HO.out).ge k hm; omega)) HPL.out
      obtain ⟨_, _, _, ep, _, _, _, ⟨_, hpL, _⟩, _⟩ := hp5.get hanl
      simp only [Value.slice.injEq, Option.some.injEq, Addr.mk.injEq] at ep
      obtain ⟨⟨rfl, rfl, -⟩, -, rfl⟩ := ep
      rw [HNF.out] at hpL
      have HB5 : Hid (B ≤ w5.heap.size) := Nat.le_trans o5.le (Nat.le_of_lt o5.c0.lt)
      have HO5 := Lib.hid o5
      have HG5 := Lib.hid g5
      have HS5 := Lib.hid s5
      have HC5 := Lib.hid c5
      have HE5 := Lib.hid e5
      have HL5 := Lib.hid hl5
      have hl59 : P5.fs.length ≤ 900 := by omega
      have HROW5 : Hid (RowAt w5 B 2 (.slice a5 P5.fs.length c5v) P5.fs.length (P5.fs.flatMap fiberF)) := by unfold Hid; rw [← e5]; exact o5.row
      have HNB5 : Hid (¬ rowBlock (.slice a5 P5.fs.length c5v) = some b) := by unfold Hid; rw [← e5]; exact fun e => o5.dis.1 (PState.mem_vfs e)
      have HNX5 : Hid (¬ rowBlock (.slice a5 P5.fs.length c5v) = some bx) := by unfold Hid; rw [← e5]; exact fun e => not_grown HBX.out s5 (Cx.lt HB1.out) (List.mem_cons_of_mem _ (PState.mem_vfs e))
      have HNP5 : Hid (¬ rowBlock (.slice a5 P5.fs.length c5v) = some bp) := by
        unfold Hid
        rw [← e5]
        intro e
        have h1 := o5.ge bp (List.mem_cons_of_mem _ (PState.mem_vfs e))
        obtain ⟨b7, o7, _, e7, _, _, ⟨h7, _⟩, _⟩ := hp5.get hanl
        simp only [Value.slice.injEq, Option.some.injEq, Addr.mk.injEq] at e7
        rw [← e7.1.1] at h7
        have : bp < B := h7
        omega
      clear o5 g5 s5 c5 e5 hp5 t5 hq hl5
      rename World => w5
      have HK50 := Lib.hid k50
      have HB15 := Lib.hid hb15
      have HPL5 := Lib.hid hpL
      refine wp_region_rt (fun w' => w'.cell? ⟨b, 0, none⟩ = some (.slice a5 P5.fs.length c5v) ∧ w'.cell? ⟨bx, 1, none⟩ = some (.int .i64 an) ∧ w'.cell? ⟨bp, op + an * 3 + 1, none⟩ = some (.int .i64 N))
        21 [0, 1, 2, 3, 4, 5, 6, 7, 8, 9, 10, 11, 12] [13, 14, 15, 16, 17, 18, 19, 20, 21] (by kernel_rfl) (by kernel_rfl) (fun _ _ _ _ _ h => h) ⟨k50, hb15, hpL⟩ ?_
      (try simp only [pickOps, List.filterMap_cons, List.filterMap_nil, List.getElem?_cons_zero, List.getElem?_cons_succ])
      repeat (
        refine readsQ_do (by rfl) ?_
        apply Exists.intro
        refine ⟨fun w' hw' => ?_, ?_⟩
        focus
          (try dsimp only at hw')
          go_split_ands
          go_simp
          (try with_reducible rfl)
        (try dsimp only [Act.put])
        (try simp only [List.setIfInBounds_toArray, List.set_cons_succ, List.set_cons_zero]))
      refine readsQ_nil ?_
      refine tailW_step ?_
      go_wp2_with (first
        | (at_make; refine wpList_make_full _ rfl _ _ 24 rfl w5.heap.size 3 i0 (.int .i64 0) 1 Try.underlying24 hi0 hz0 hz1 .i64 .i64 _ _ N rfl rfl rfl rfl (by rw [hz2]; omega) (by unfold maxLen; omega) (by simp) ?_; intro w6 hown6 hgr6; have hE6 := (Ext.refl w5).drew.trans (ext_none hgr6); have hrow6 := IRow.made hown6))
      have HE6 := Lib.hid hE6
      have hS6 : w6.cell? ⟨b, 0, none⟩ = some (.slice a5 P5.fs.length c5v) ∧ w6.cell? ⟨bx, 1, none⟩ = some (.int .i64 an) ∧ w6.cell? ⟨bp, op + an * 3 + 1, none⟩ = some (.int .i64 N) := ⟨Ext.cell hE6 HK50.out, Ext.cell hE6 HB15.out, Ext.cell hE6 HPL5.out⟩
      have HS6 := Lib.hid hS6
      clear hE6 hgr6 hown6 hS6 k50 hb15 hpL
      refine nextW_go HS6.out ?_
      refine tailW_step ?_
      go_wp2_with fail
      refine nextW_go HS6.out ?_
      refine tailW_step ?_
      go_wp2_with fail
      have HS7 : Hid ((w6.alloc (.cells #[.int .i64 an, .int .i64 0, .slice (some ⟨w5.heap.size, 0, none⟩) N N, .slice none 0 0] 70)).cell? ⟨b, 0, none⟩ = some (.slice a5 P5.fs.length c5v) ∧ (w6.alloc (.cells #[.int .i64 an, .int .i64 0, .slice (some ⟨w5.heap.size, 0, none⟩) N N, .slice none 0 0] 70)).cell? ⟨bx, 1, none⟩ = some (.int .i64 an) ∧ (w6.alloc (.cells #[.int .i64 an, .int .i64 0, .slice (some ⟨w5.heap.size, 0, none⟩) N N, .slice none 0 0] 70)).cell? ⟨bp, op + an * 3 + 1, none⟩ = some (.int .i64 N)) :=
        ⟨Ext.cell ((Ext.refl _).alloc _) (HS6.out).1, Ext.cell ((Ext.refl _).alloc _) (HS6.out).2.1, Ext.cell ((Ext.refl _).alloc _) (HS6.out).2.2⟩
      refine nextW_go HS7.out ?_
      refine tailW_step ?_
      go_wp2_with fail
      refine nextW_go HS7.out ?_
      refine tailW_step ?_
      go_wp2_with fail
      have HS8 := Lib.hid (cells3_ext (HS7.out) ((Ext.refl _).alloc (.cells #[.slice (some ⟨w6.heap.size, 0, none⟩) 1 1, .int .i64 (-1)] 68)))
      have HS66 : Hid ((w6.alloc (.cells #[.int .i64 an, .int .i64 0, .slice (some ⟨w5.heap.size, 0, none⟩) N N, .slice none 0 0] 70)).heap.size = w6.heap.size + 1) := Array.size_push _
      refine nextW_go HS8.out ?_
      refine tailW_step ?_
      go_wp2_with (first
        | (at_builtin; refine wpList_append_row rfl _ _ 23 rfl B 68 i2 (.agg #[.slice none 0 0, .int .i64 0]) 2 32 Try.underlying23 hi2 hz6 hz7 hz8 rfl (by decide) _ _ _ rfl (by exact (HROW5.out.ext (((HE6.out).alloc _).alloc _) (by decide))) 1 _ (by rw [← HS66.out]; exact src_cells _ _ 2 rfl (by simp [Value.oneCell']) _) (by unfold maxLen; omega) (by omega) (by exact Nat.le_trans HB5.out (Ext.size (((HE6.out).alloc _).alloc _))) ?_; intro v1 Wv1 rv1; have RV := Lib.hid rv1; obtain ⟨a9, cap9, rfl, _, _⟩ := rv1.1.shape; clear rv1))
      have hRV : NewRow ((w6.alloc (.cells #[.int .i64 an, .int .i64 0, .slice (some ⟨w5.heap.size, 0, none⟩) N N, .slice none 0 0] 70)).alloc (.cells #[.slice (some ⟨w6.heap.size, 0, none⟩) 1 1, .int .i64 (-1)] 68)) Wv1 B 2 (.slice a5 P5.fs.length c5v) (.slice a9 (P5.fs.length + 1) cap9) (P5.fs.length + 1) (P5.fs.flatMap fiberF ++ [.slice (some ⟨w6.heap.size, 0, none⟩) 1 1, .int .i64 (-1)]) := RV.out
      have HRV := Lib.hid hRV
      have HS9 : Hid (Wv1.cell? ⟨b, 0, none⟩ = some (.slice a5 P5.fs.length c5v) ∧ Wv1.cell? ⟨bx, 1, none⟩ = some (.int .i64 an) ∧ Wv1.cell? ⟨bp, op + an * 3 + 1, none⟩ = some (.int .i64 N)) :=
        ⟨Chg.cell hRV.2.1 HNB5.out (HS8.out).1, Chg.cell hRV.2.1 HNX5.out (HS8.out).2.1, Chg.cell hRV.2.1 HNP5.out (HS8.out).2.2⟩
      have HCB9 : Hid (Cx Wv1 b 0 (.slice a5 P5.fs.length c5v)) := by
        have h1 := (((HO5.out).c0.ext ((HE6.out).alloc (.cells #[.int .i64 an, .int .i64 0, .slice (some ⟨w5.heap.size, 0, none⟩) N N, .slice none 0 0] 70))).ext ((Ext.refl _).alloc (.cells #[.slice (some ⟨w6.heap.size, 0, none⟩) 1 1, .int .i64 (-1)] 68))).chg hRV.2.1 HNB5.out
        rw [HE5.out] at h1
        exact h1
      obtain ⟨q9, q9'⟩ := HCB9.out
      clear hRV
      refine nextW_go HS9.out ?_
      refine tailW_step ?_
      go_wp2_with fail
      refine nextW_go HS9.out ?_
      refine tailW_step ?_
      go_wp2_with fail
      refine nextW_go HS9.out ?_
      refine tailW_step ?_
      go_wp2_with fail
      refine nextW_end ?_
      go_wp2_with fail
      go_ret
      obtain ⟨e9, d9⟩ := done_ok HD2.out HWK.out C4.out BL4.out (Did.of (by
        have hr6 : RowAt w6 w5.heap.size 1 (.slice (some ⟨w5.heap.size, 0, none⟩) N N) N (ints (List.replicate N 0)) := by have := hrow6; unfold IRow at this; rwa [List.length_replicate] at this
        have h9 := add_fin (HO5.out) (HE6.out) hr6 70 68 (by rw [HE5.out]; exact HRV.out) (I64.nat (n := an) (by omega)) (by omega) (by omega)
        rw [HG5.out] at h9
        exact Turn.step HC5.out HS5.out h9))
      rw [e9]
      exact ⟨rfl, d9⟩
  have T13 : (k == 13) = false := beq_false_of_ne h13
  have hfit : 2 ≤ (curX P1.g).stack.length := by have h := HW2.out; unfold WorkFit at h; rwa [if_neg h0, if_neg h1, if_neg h2, if_neg h3, if_neg h9, if_neg h10, if_neg h11, if_neg h12, if_neg h13, if_neg h14, if_neg h15, if_neg h16] at h
  have HWK : Hid (workG p P1.g k a = (0, pushG (popG (popG P1.g)) (L.length : Int) (reckG k (lastV (popG P1.g)) (lastV P1.g)))) := by
    unfold Hid workG
    rw [if_neg h0, if_neg h1, if_neg h2, if_neg h3, if_neg h9, if_neg h10, if_neg h11, if_neg h12, if_neg h13, if_neg h14, if_neg h15, if_neg h16, show P1.g.now = (L.length : Int) from HNW1.out]
  have HFIT : Hid (1 ≤ (curX P1.g).stack.length) := by unfold Hid; omega
  have HFIT2 : Hid (1 ≤ (curX (popG P1.g)).stack.length) := by unfold Hid; rw [curX_pop P1.g HT1.out]; show 1 ≤ (curX P1.g).stack.dropLast.length; rw [List.length_dropLast]; omega
  generalize hlv : lastV P1.g = v1 at *
  generalize hlv2 : lastV (popG P1.g) = v2 at *
  have HLV := Lib.hid hlv
  have HLV2 := Lib.hid hlv2
  have hri : I64 (reckG k v2 v1) := reck_i64 k v2 v1
  obtain ⟨rv, hrv⟩ : ∃ rv, reckG k v2 v1 = rv := ⟨_, rfl⟩
  rw [hrv] at hri
  have HRV := Lib.hid hrv
  clear h0 h1 h2 h3 h9 h10 h11 h12 h13 h14 h15 h16 hfit hlv hlv2 hrv
  go_upto_region 7 with (first
    | (go_at_call 146; (with_reducible refine (pull_any HO.out HT1.out HFIT.out).mono ?_); rintro e w5 ⟨rfl, t5⟩; rw [HLV.out]; obtain ⟨⟨P5, o5, g5, s5⟩, c5⟩ := t5; have HO5 := Lib.hid o5; have HG5 := Lib.hid g5; have HT5 : Hid (HasTop P5.g P5.g.now) := (by unfold Hid; rw [g5]; exact (HT1.out).pop); have HF5 : Hid (1 ≤ (curX P5.g).stack.length) := (by unfold Hid; rw [g5]; exact HFIT2.out); have hnb5 : bx ∉ b :: P5.bl := (not_grown HBX.out s5 (Cx.lt HB1.out)); have HB05 := Chg.cell c5 (b := bx) (o := 0) HBX.out hb0; have HN5 := Lib.hid hnb5; have HS5 := Lib.hid s5; have HC5 := Lib.hid c5; have hlt5 := c5.size; clear o5 g5 s5 c5 hnb5)
    | (go_at_call 146; (with_reducible refine (pull_any HO5.out HT5.out HF5.out).mono ?_); rintro e w6 ⟨rfl, t6⟩; rw [HG5.out, HLV2.out]; obtain ⟨⟨P6, o6, g6, s6⟩, c6⟩ := t6; have HB06 := Chg.cell c6 (b := bx) (o := 0) HN5.out HB05; have HO6 := Lib.hid o6; have HG6 : Hid (P6.g = popG (popG P1.g)) := (by unfold Hid; rw [g6, HG5.out]); have HS6 := Lib.hid s6; have HC6 := Lib.hid c6; clear o6 g6 s6 c6))
  have HN6 : Hid (P6.now = L.length) := by have h : P6.g.now = P1.g.now := (by rw [HG6.out]; rfl); unfold Hid; rw [show P6.now = P6.g.now from rfl, h]; exact HNW1.out
  have HT6 : Hid (HasTop P6.g (L.length : Int)) := by unfold Hid; rw [HG6.out]; exact (HTL.out).pop.pop
  have HR6 : Hid (Room P6.g) := by unfold Hid; rw [HG6.out]; exact (HR1.out).pop.pop
  obtain ⟨c61, -⟩ := (HO6.out).c1
  rw [HN6.out] at c61
  refine wp_region_ext_tail 10 (by kernel_rfl) (by kernel_rfl) ?_
  simp only [List.take_succ_cons, List.take_zero, List.drop_succ_cons, List.drop_zero]
  repeat (first
    | go_big_quiet_skip
    | (go_big_quiet_want
       unfold Oper.quiet
       apply Exists.intro
       refine ⟨fun w' hw' => ?_, ?_⟩
       focus
         have hcq := Ext.keep hw'
         go_simp
         first
           | with_reducible rfl
           | (go_at_call 152; refine (reckoned_any k v2 v1 _).mono ?_; rintro e w7 ⟨rfl, rfl⟩; rw [HRV.out]; exact ⟨rfl, hw'⟩)
       (try dsimp only [Act.put])
       (try simp only [List.setIfInBounds_toArray, List.set_cons_succ, List.set_cons_zero])
       go_big_quiet_on))
  refine wpQuiet_nil ?_
  intro wq hq
  go_wp2_with (first
    | (go_at_call 145; (with_reducible refine (push_any ((HO6.out).ext (by ((repeat (first | assumption | exact Ext.refl _ | (exact And.left (by assumption)) | refine Ext.alloc ?_ _ | refine Ext.drew ?_ | refine Ext.drewN ?_ _ | refine Ext.setCell ?_ (by simp) _ | refine Ext.setCell ?_ (by simp; omega) _ | refine Ext.trans ?_ (by assumption))); done))) (L.length : Int) HT6.out HR6.out rv hri).mono ?_); rintro e w8 ⟨rfl, t8⟩))
  go_ret
  have hw3 := HWK.out
  rw [HRV.out, ← HG6.out] at hw3
  obtain ⟨e9, d9⟩ := done_ok HD2.out hw3 C4.out BL4.out (Did.of (Turn.step HC5.out HS5.out (Turn.step HC6.out HS6.out (Turn.pre (by ((repeat (first | assumption | exact Ext.refl _ | (exact And.left (by assumption)) | refine Ext.alloc ?_ _ | refine Ext.drew ?_ | refine Ext.drewN ?_ _ | refine Ext.setCell ?_ (by simp) _ | refine Ext.setCell ?_ (by simp; omega) _ | refine Ext.trans ?_ (by assumption))); done)) t8))))
  rw [e9]
  exact ⟨rfl, d9⟩
end Go.Proofs.Ytgahbngbpfilgaa
end
section
/- The engine of package step: call. -/
set_option maxHeartbeats 4000000
set_option maxRecDepth 100000
namespace Go.Proofs.Ytgahbngbpfilgaa
open Go Go.RowKit

end Go.Proofs.Ytgahbngbpfilgaa
end
section
/- The engine of package step: give. -/
set_option maxHeartbeats 4000000
set_option maxRecDepth 100000
namespace Go.Proofs.Ytgahbngbpfilgaa
open Go Go.RowKit

theorem Did.pre {W W1 W2 : World} {B b : Nat} {P : PState} {r : Int × GState} (he : Ext W W1) (h : Did W1 W2 B b P r) : Did W W2 B b P r := Did.step (Chg.of_ext he) (fun _ h => .inl h) h
theorem EngS.setNow {w : World} {B b eb : Nat} {p : List GFunc} {a : Option Addr} {cp : Nat} {P : PState} (h : EngS w B b eb p a cp P) (n : Int) (hI : I64 n) : EngS (w.setCell ⟨b, 1, none⟩ (.int .i64 n)) B b eb p a cp { P with now := n } :=
  ⟨h.own.setNow n hI, h.eng.chg (chg_one w b 1 _) (fun e => h.off (by rw [show eb = b from e]; exact List.mem_cons_self)), h.off⟩

end Go.Proofs.Ytgahbngbpfilgaa
end
