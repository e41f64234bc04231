/- Merged texts: contracts and plain facts, one part behind another; each part begins with what it says. -/
import Derived.Test.YtgahbngbpfilgaaGreatGEAI
import Derived.Test.YtgahbngbpfilgaaGreatGEAR
import Derived.Test.YtgahbngbpfilgaaGreatGEAT
import Derived.Test.YtgahbngbpfilgaaGreatGEAV
section
set_option maxHeartbeats 4000000
set_option maxRecDepth 100000
namespace Go.Proofs.YtgahbngbpfilgaaGreat
open Go Go.RowKit
def jwaitB (p : List GFunc) (x : GFrame) (kind : Int) : Bool := decide (0 < x.at_) && decide ((x.stack.length : Int) = (hgt p x.func).getD x.at_.toNat 0 - 1) && decide ((opBack p x).kind = kind)
theorem waitB_j {p : List GFunc} {x : GFrame} (h : 0 ≤ x.at_) (kind a : Int) : waitB p x kind a = (jwaitB p x kind && (!decide (kind = 11) || decide ((opBack p x).a = a))) := by
 unfold waitB jwaitB
 have : (!decide (x.at_ = 0)) = decide (0 < x.at_) := by
  by_cases h0 : x.at_ = 0
  ·simp [h0]
  ·rw [decide_eq_false h0, decide_eq_true (by omega)]; rfl
 rw [this]
 simp only [Bool.and_assoc]
theorem jwaits_any (p : List GFunc) (s : GState) (line : List Int) (jb : Nat) (T : Nat → Prop) (x : GFrame) (vx : Value) (kind : Int) (w : World) (hj : Judge w jb p s line) (hz : progErr p = 0) (hx : FrameV w T vx x) (hf : frameB p x = true) :
    Calls Tryz.prog 103 #[.pointer (some ⟨jb, 0, none⟩), vx, .int .i64 kind] w fun e w' => e = .returned (.bool (jwaitB p x kind)) ∧ Ext w w' := by
  have HJ := Lib.hid hj
  have HZ := Lib.hid hz
  obtain ⟨n, m, hn, e1, e2, hm, _, hu0, hlm, h24⟩ := frameB_nat hz hf
  obtain ⟨fn, at_, ls, st⟩ := x
  simp only at e1 e2
  subst e1 e2
  obtain ⟨vs, vt, rfl, _, _, hls, hst⟩ := hx
  obtain ⟨a1, c1, rfl, _, _, _⟩ := hls
  obtain ⟨a2, c2, rfl, _, hst2, _⟩ := hst
  simp only at *
  have RA := alloc_keep
  obtain ⟨ap, cp, j3, hp⟩ := hj.pr
  obtain ⟨ah, ch, j4, hh⟩ := hj.hts
  have hE1 : Ext w (w.alloc (.cells #[.int .i64 n, .int .i64 m, .slice a1 ls.length c1, .slice a2 st.length c2] 43)) := (Ext.refl w).alloc _
  obtain ⟨b, o, cap, e1, hcap, hby, _, _, vc, hC, hcode⟩ := hp.get hn
  simp only [Value.slice.injEq] at e1
  obtain ⟨rfl, -, rfl⟩ := e1
  obtain ⟨ca, ccap, rfl, hcc, hcby, hops⟩ := hcode
  have hml : m < (hgt p n).length := by omega
  obtain ⟨u, hu⟩ : ∃ u, (hgt p n).getD m 0 = u := ⟨_, rfl⟩
  obtain ⟨bh, oh, ah2, ch2, rfl, hh0, hhi⟩ := Judge.at' hh hn
  obtain ⟨bl, ol, rfl, hl0⟩ := Ints.at' hhi hml
  have iU := hhi.i64 _ (List.getElem_mem hml)
  have hug : (hgt p n)[m] = u := by rw [← hu]; simp [List.getD, List.getElem?_eq_getElem hml]
  rw [hug] at iU
  rw [hu] at hl0 hu0
  unfold I64 at iU
  have KK3 : IntKind.i64.wrap (u - 1) = u - 1 := IntWalk.i64_in _ (by omega)
  have HU := Lib.hid hu
  obtain ⟨r, hr⟩ : ∃ r, jwaitB p ⟨n, m, ls, st⟩ kind = r := ⟨_, rfl⟩
  rw [hr]
  have HR := Lib.hid hr
  have HF := Lib.hid (funcOf_nat hn)
  have HO := Lib.hid hops
  have k3 := Ext.cell hE1 j3
  have k4 := Ext.cell hE1 j4
  have k5 := Ext.cell hE1 hC
  have k6 := Ext.cell hE1 hh0
  have k7 := Ext.cell hE1 hl0
  have HE1 := Lib.hid hE1
  have bx := Lib.hid (⟨(Cx.new w [.int .i64 n, .int .i64 m, .slice a1 ls.length c1, .slice a2 st.length c2] 43 (j := 0) rfl).1, (Cx.new w [.int .i64 n, .int .i64 m, .slice a1 ls.length c1, .slice a2 st.length c2] 43 (j := 1) rfl).1, (Cx.new w [.int .i64 n, .int .i64 m, .slice a1 ls.length c1, .slice a2 st.length c2] 43 (j := 3) rfl).1⟩ : _ ∧ _ ∧ _)
  clear hr hu hug hops j3 j4 hC hh0 hl0 hE1 hhi hh hp hj hf hlm
  by_cases h1 : m = 0
  · have HRR : Hid (r = false) := by unfold Hid; rw [← HR.out]; unfold jwaitB; simp [h1]
    subst h1
    go_enter Tryz.func103, Tryz.ntmps103
    go_upto_region 1 with fail
    obtain ⟨b0, b1, b3⟩ := bx.out
    generalize w.alloc (.cells #[.int .i64 n, .int .i64 ((0 : Nat) : Int), .slice a1 ls.length c1, .slice a2 st.length c2] 43) = w1 at *
    refine wp_region_ext (by kernel_rfl) (by kernel_rfl) ?_
    repeat (first
      | go_big_quiet_skip
      | (go_big_quiet_want
         unfold Oper.quiet
         apply Exists.intro
         refine ⟨fun w' hw' => ?_, ?_⟩
         focus
           have hcq := Ext.keep hw'
           go_simp
           first
             | with_reducible rfl
             | fail
         (try dsimp only [Act.put])
         (try simp only [List.setIfInBounds_toArray, List.set_cons_succ, List.set_cons_zero])
         go_big_quiet_on))
    refine wpQuiet_nil ?_
    intro wq hq
    go_wp2_with fail
    go_ret
    exact ⟨by rw [HRR.out]; rfl, HE1.out.trans hq⟩
  · obtain ⟨j, hj⟩ : ∃ j, m = j + 1 := ⟨m - 1, by omega⟩
    have hjl : j < p[n].code.length := by omega
    have KK4 : IntKind.i64.wrap ((m : Int) - 1) = (j : Int) := by rw [IntWalk.i64_in _ (by omega)]; omega
    have T1 : decide ((0 : Int) < (m : Int)) = true := decide_eq_true (by omega)
    have T1n : decide (0 < m) = true := decide_eq_true (by omega)
    by_cases h2 : (st.length : Int) = u - 1
    · have T2 : ((st.length : Int) == u - 1) = true := by simp [h2]
      obtain ⟨cb, co, rfl, ⟨_, z0, _⟩, _⟩ := HO.out j hjl
      obtain ⟨y, hy⟩ : ∃ y, p[n].code[j] = y := ⟨_, rfl⟩
      have HB : Hid (opBack p ⟨n, m, ls, st⟩ = y) := by
        unfold Hid opBack
        rw [HF.out]
        show p[n].code.getD ((m : Int) - 1).toNat default = y
        rw [show ((m : Int) - 1).toNat = j by omega, ← hy]
        simp [List.getD, List.getElem?_eq_getElem hjl]
      rw [hy] at z0
      have HRR : Hid (r = (y.kind == kind)) := by
        unfold Hid
        rw [← HR.out]
        unfold jwaitB
        rw [HB.out]
        simp only
        rw [decide_eq_true (show 0 < (m : Int) by omega), show (hgt p (n : Int)).getD ((m : Int).toNat) 0 = u from HU.out, decide_eq_true h2, Bool.eq_iff_iff]
        simp
      obtain ⟨yk, hyk⟩ : ∃ yk, y.kind = yk := ⟨_, rfl⟩
      rw [hyk] at z0 HRR
      have z1 := Ext.cell HE1.out z0
      clear h1 h2 hj HR HB hy hyk z0
      go_enter Tryz.func103, Tryz.ntmps103
      go_upto_region 1 with fail
      obtain ⟨b0, b1, b3⟩ := bx.out
      generalize w.alloc (.cells #[.int .i64 n, .int .i64 m, .slice a1 ls.length c1, .slice a2 st.length c2] 43) = w1 at *
      refine wp_region_ext (by kernel_rfl) (by kernel_rfl) ?_
      repeat (first
        | go_big_quiet_skip
        | (go_big_quiet_want
           unfold Oper.quiet
           apply Exists.intro
           refine ⟨fun w' hw' => ?_, ?_⟩
           focus
             have hcq := Ext.keep hw'
             go_simp
             first
               | with_reducible rfl
               | fail
           (try dsimp only [Act.put])
           (try simp only [List.setIfInBounds_toArray, List.set_cons_succ, List.set_cons_zero])
           go_big_quiet_on))
      refine wpQuiet_nil ?_
      intro wq hq
      go_wp2_with fail
      go_ret
      exact ⟨by rw [HRR.out]; rfl, HE1.out.trans hq⟩
    · have T2 : ((st.length : Int) == u - 1) = false := beq_eq_false_iff_ne.2 h2
      have HRR : Hid (r = false) := by
        unfold Hid
        rw [← HR.out]
        unfold jwaitB
        rw [show (hgt p (GFrame.func ⟨n, m, ls, st⟩)).getD (GFrame.at_ ⟨n, m, ls, st⟩).toNat 0 = u from HU.out]
        simp only
        rw [decide_eq_false h2]
        simp
      clear h1 h2 hj HR
      go_enter Tryz.func103, Tryz.ntmps103
      go_upto_region 1 with fail
      obtain ⟨b0, b1, b3⟩ := bx.out
      generalize w.alloc (.cells #[.int .i64 n, .int .i64 m, .slice a1 ls.length c1, .slice a2 st.length c2] 43) = w1 at *
      refine wp_region_ext (by kernel_rfl) (by kernel_rfl) ?_
      repeat (first
        | go_big_quiet_skip
        | (go_big_quiet_want
           unfold Oper.quiet
           apply Exists.intro
           refine ⟨fun w' hw' => ?_, ?_⟩
           focus
             have hcq := Ext.keep hw'
             go_simp
             first
               | with_reducible rfl
               | fail
           (try dsimp only [Act.put])
           (try simp only [List.setIfInBounds_toArray, List.set_cons_succ, List.set_cons_zero])
           go_big_quiet_on))
      refine wpQuiet_nil ?_
      intro wq hq
      go_wp2_with fail
      go_ret
      exact ⟨by rw [HRR.out]; rfl, HE1.out.trans hq⟩
end Go.Proofs.YtgahbngbpfilgaaGreat
end
section
namespace Go.Proofs.YtgahbngbpfilgaaGreat
def jonB (p : List GFunc) (l : List GFrame) (k : Nat) : Bool := jwaitB p (l.getD k default) 11 && decide ((opBack p (l.getD k default)).a = (l.getD (k + 1) default).func)
def jtopB (p : List GFunc) (f : GFiber) (on runs : Bool) (x : GFrame) : Bool :=
 if runs then fullB p x else if on then jwaitB p x 14 else freshB p f || jwaitB p x 15
def jrestB (p : List GFunc) (f : GFiber) (on runs : Bool) : Bool :=
 allK f.frames.length (fun k => frameB p (f.frames.getD k default)) && allK (f.frames.length - 1) (jonB p f.frames) && jtopB p f on runs (f.frames.getD (f.frames.length - 1) default)
def jfiberB (p : List GFunc) (f : GFiber) (n : Nat) (on runs : Bool) : Bool :=
 if on = false ∧ ¬ (f.caller = -1 ∧ (0 < n ∨ f.frames.length = 0)) then false else if f.frames.length = 0 then !on else jrestB p f on runs
theorem frameB_at {p : List GFunc} {x : GFrame} (h : frameB p x = true) : 0 ≤ x.func ∧ x.func < p.length ∧ 0 ≤ x.at_ := by
 unfold frameB at h
 simp only [Bool.and_eq_true, decide_eq_true_eq] at h
 exact ⟨h.1.1.1.1, h.1.1.1.2, h.1.2.1⟩
theorem jrest_eq {p : List GFunc} {f : GFiber} {on runs : Bool} (h0 : f.frames.length ≠ 0) (hc : on = false → f.caller = -1) (hr : runs = true → on = true) : jrestB p f on runs = fiberB p f on runs := by
 unfold jrestB fiberB
 rw [if_neg h0]
 cases hall : allK f.frames.length (fun k => frameB p (f.frames.getD k default)) with
 | false =>
  have : allK f.frames.length (onB p f.frames) = false := by
   cases h : allK f.frames.length (onB p f.frames) with
   | false => rfl
   | true =>
    have : allK f.frames.length (fun k => frameB p (f.frames.getD k default)) = true := allK_true fun k hk => by
     have := allK_of h k hk
     unfold onB at this
     rw [Bool.and_eq_true] at this
     exact this.1
    rw [this] at hall
    cases hall
  rw [this]
  rfl
 | true =>
  have hfr := allK_of hall
  have e1 : allK f.frames.length (onB p f.frames) = allK (f.frames.length - 1) (jonB p f.frames) := by
   have step : ∀ k, k < f.frames.length → onB p f.frames k = (!decide (k + 1 < f.frames.length) || jonB p f.frames k) := fun k hk => by
    unfold onB
    rw [show frameB p (f.frames.getD k default) = true from hfr k hk, Bool.true_and]
    by_cases h1 : k + 1 < f.frames.length
    ·have a := frameB_at (hfr k hk)
     have b := frameB_at (hfr (k + 1) h1)
     rw [decide_eq_true h1, decide_eq_true (show 0 ≤ (f.frames.getD (k + 1) default).func ∧ (f.frames.getD (k + 1) default).func < p.length from ⟨b.1, b.2.1⟩), waitB_j a.2.2]
     unfold jonB
     simp
    ·rw [decide_eq_false h1]
     rfl
   rw [Bool.eq_iff_iff]
   constructor
   ·intro h
    refine allK_true fun k hk => ?_
    have h2 := allK_of h k (by omega)
    rw [step k (by omega), decide_eq_true (by omega)] at h2
    simpa using h2
   ·intro h
    refine allK_true fun k hk => ?_
    rw [step k hk]
    by_cases h1 : k + 1 < f.frames.length
    ·rw [allK_of h k (by omega)]
     simp
    ·rw [decide_eq_false h1]
     rfl
  have e2 : jtopB p f on runs (f.frames.getD (f.frames.length - 1) default) = topB p f on runs (f.frames.getD (f.frames.length - 1) default) := by
   have a := frameB_at (hfr (f.frames.length - 1) (by omega))
   unfold jtopB topB
   cases runs with
   | true => rfl
   | false =>
    cases on with
    | true => rw [waitB_j a.2.2 14 0]; simp
    | false => rw [waitB_j a.2.2 15 0, decide_eq_true (hc rfl)]; simp
  rw [e1, e2, Bool.true_and]
theorem jfiber_eq {p : List GFunc} {s : GState} {line : List Int} {n : Nat} (hnow : (n : Int) = s.now → (n : Int) ∈ line) :
  jfiberB p (s.fibers.getD n default) n (decide ((n : Int) ∈ line)) (decide ((n : Int) = s.now)) = fibK p s line n := by
 unfold jfiberB fibK
 generalize hf : s.fibers.getD n default = f
 have hr : decide ((n : Int) = s.now) = true → decide ((n : Int) ∈ line) = true := fun h => decide_eq_true (hnow (of_decide_eq_true h))
 generalize hon : decide ((n : Int) ∈ line) = on at *
 generalize decide ((n : Int) = s.now) = runs at *
 have hlast : (decide (n = 0) && !decide ((0 : Int) ∈ line) && decide (0 < (s.fibers.getD 0 default).frames.length)) = (decide (n = 0) && !on && decide (0 < f.frames.length)) := by
  by_cases h0 : n = 0
  ·subst h0
   rw [← hf, ← hon]
   rfl
  ·rw [decide_eq_false h0]; rfl
 rw [hlast]
 by_cases h0 : f.frames.length = 0
 ·have hfb : fiberB p f on runs = (!on && decide (f.caller = -1)) := by unfold fiberB; rw [if_pos h0]
  rw [hfb]
  cases on with
  | true => rw [if_neg (by simp), if_pos h0]; simp
  | false =>
   by_cases h1 : f.caller = -1
   ·rw [if_neg (by simp [h1, h0]), if_pos h0]; simp [h1, h0]
   ·rw [if_pos ⟨rfl, fun h => h1 h.1⟩]; simp [h1]
 ·cases on with
  | true =>
   rw [if_neg (by simp), if_neg h0, jrest_eq h0 (by simp) hr]
   simp
  | false =>
   by_cases h1 : f.caller = -1
   ·by_cases h2 : 0 < n
    ·rw [if_neg (by simp [h1, h2]), if_neg h0, jrest_eq h0 (fun _ => h1) hr]
     have : ¬ n = 0 := by omega
     simp [this]
    ·have h3 : n = 0 := by omega
     have h4 : 0 < f.frames.length := by omega
     rw [if_pos ⟨rfl, fun h => h.2.elim h2 h0⟩]
     simp [h3, h4]
   ·rw [if_pos ⟨rfl, fun h => h1 h.1⟩]
    have : fiberB p f false runs = false := by
     unfold fiberB topB
     rw [if_neg h0]
     cases runs with
     | true => exact absurd (hr rfl) (by decide)
     | false => simp [h1]
    rw [this]
    rfl
end Go.Proofs.YtgahbngbpfilgaaGreat
end
section
set_option maxHeartbeats 4000000
set_option maxRecDepth 100000
set_option linter.unusedSimpArgs false
namespace Go.Proofs.YtgahbngbpfilgaaGreat
open Go Go.RowKit
theorem jfiber_any (p : List GFunc) (s : GState) (line : List Int) (jb : Nat) (n : Nat) (w : World) (hj : Judge w jb p s line) (hz : progErr p = 0) (hn : n < s.fibers.length) :
    Calls Tryz.prog 69 #[.pointer (some ⟨jb, 0, none⟩), .int .i64 n] w fun e w' => e = mustE (jfiberB p (s.fibers.getD n default) n (decide ((n : Int) ∈ line)) (decide ((n : Int) = s.now))) 1 ∧ Ext w w' := by
  have HJ := Lib.hid hj
  have HZ := Lib.hid hz
  have RA := alloc_keep
  obtain ⟨aj, cj, j0, hfs⟩ := hj.fs
  have j1 := hj.now
  obtain ⟨ap, cp, j3, hp⟩ := hj.pr
  obtain ⟨al, cl, j5, hln⟩ := hj.ln
  obtain ⟨bf, of, af, cf, rfl, x0, x1, hfv⟩ := Fibers.at' hfs hn
  have HFV := Lib.hid hfv
  have HLN := Lib.hid hln
  have HP := Lib.hid hp
  have HJC := Lib.hid (⟨j0, j1, j3, j5⟩ : _ ∧ _ ∧ _ ∧ _)
  obtain ⟨on, hon⟩ : ∃ on, decide ((n : Int) ∈ line) = on := ⟨_, rfl⟩
  have HON := Lib.hid hon
  have hrunseq : decide ((n : Int) = s.now) = ((n : Int) == s.now) := by rw [Bool.eq_iff_iff]; simp
  obtain ⟨runs, hruns⟩ : ∃ runs, ((n : Int) == s.now) = runs := ⟨_, rfl⟩
  have HRUNS := Lib.hid hruns
  rw [hon, hrunseq, hruns]
  generalize s.fibers.getD n default = F at *
  obtain ⟨r, hr⟩ : ∃ r, jfiberB p F n on runs = r := ⟨_, rfl⟩
  rw [hr]
  have HR := Lib.hid hr
  obtain ⟨fs, clr⟩ := F
  simp only at *
  obtain ⟨_, e0, hfr, _⟩ := HFV.out
  simp only [Value.agg.injEq] at e0
  simp at e0
  subst e0
  have HFR := Lib.hid hfr
  have hby : fs.length * 64 ≤ 140737488355328 := by obtain ⟨_, _, _, _, h, _⟩ := hfr; exact h.1
  clear hr hon hruns hrunseq hfv hln hp hfs hfr
  go_enter Tryz.func69, Tryz.ntmps69
  go_upto_region 1 with fail
  have bx := Lib.hid (⟨Cx.new w [.slice af fs.length cf, .int .i64 clr] 41 (j := 0) rfl, Cx.new w [.slice af fs.length cf, .int .i64 clr] 41 (j := 1) rfl⟩ : _ ∧ _)
  have hE1 : Ext w (w.alloc (.cells #[.slice af fs.length cf, .int .i64 clr] 41)) := (Ext.refl w).alloc _
  have HE1 := Lib.hid hE1
  have k5 := Ext.cell hE1 j5
  generalize w.alloc (.cells #[.slice af fs.length cf, .int .i64 clr] 41) = w1 at *
  go_upto_region 2 with (first
    | (go_at_call 101; (with_reducible refine (containsI_any line _ _ _ _ (Ints.stays (Ext.stays HE1.out) HLN.out)).mono ?_); rintro e w2 ⟨rfl, hx2⟩; rw [HON.out]))
  have HE2 := Lib.hid (HE1.out.trans hx2)
  have BX2 := Lib.hid (⟨bx.out.1.ext hx2, bx.out.2.ext hx2⟩ : _ ∧ _)
  clear hE1 hx2 k5 j0 j1 j3 j5 x0 x1 bx
  rename World => w2
  go_upto_if 27 with fail
  go_cut [5] (fun v wx => v = .bool on ∧ Ext w2 wx ∧ ((on = false ∧ ¬ (clr = -1 ∧ (0 < n ∨ fs.length = 0))) → False) ∧ (on = false → fs.length ≠ 0))
  case first =>
    obtain ⟨⟨b0, -⟩, ⟨b1, -⟩⟩ := BX2.out
    cases on with
    | true =>
      go_wp2_with fail
      go_meet
      exact ⟨rfl, Ext.refl _, (fun h => by cases h.1), (fun h => by cases h)⟩
    | false =>
      by_cases h1 : clr = -1
      · have T1 : (clr == -1) = true := by simp [h1]
        by_cases h2 : 0 < n
        · have T2 : decide ((0 : Int) < (n : Int)) = true := decide_eq_true (by omega)
          have T2n : decide (0 < n) = true := decide_eq_true h2
          by_cases h3 : fs.length = 0
          · have T3 : ((fs.length : Int) == 0) = true := by simp [h3]
            have HRR : Hid (r = true) := by unfold Hid; rw [← HR.out]; unfold jfiberB; simp [h1, h2, h3]
            clear h1 h2 h3 HR
            go_wp2_with (first
              | (go_at_call 67; refine (must2 _ _ _ _ _ ).mono ?_; rintro e w3 ⟨he, hx3⟩; simp only [Bool.and_true, Bool.true_and, Bool.and_false, Bool.false_and, Bool.and_self, mustE] at he; subst he; have e0 := Ext.cell (((Ext.refl w2).alloc _).trans hx3) b0))
            first | go_end0 | refine bodyPost_ret (results_none rfl _ _ _) rfl ?_
            exact ⟨by rw [HRR.out]; rfl, HE2.out.trans (((Ext.refl _).alloc _).trans hx3)⟩
          · have T3 : ((fs.length : Int) == 0) = false := beq_eq_false_iff_ne.2 (by omega)
            go_wp2_with (first
              | (go_at_call 67; refine (must2 _ _ _ _ _ ).mono ?_; rintro e w3 ⟨he, hx3⟩; simp only [Bool.and_true, Bool.true_and, Bool.and_false, Bool.false_and, Bool.and_self, mustE] at he; subst he; have e0 := Ext.cell (((Ext.refl w2).alloc _).trans hx3) b0))
            go_meet
            exact ⟨rfl, ((Ext.refl _).alloc _).trans hx3, (fun h => h.2 ⟨h1, .inl h2⟩), (fun _ => h3)⟩
        · have T2 : decide ((0 : Int) < (n : Int)) = false := decide_eq_false (by omega)
          have T2n : decide (0 < n) = false := decide_eq_false h2
          by_cases h3 : fs.length = 0
          · have T3 : ((fs.length : Int) == 0) = true := by simp [h3]
            have HRR : Hid (r = true) := by unfold Hid; rw [← HR.out]; unfold jfiberB; simp [h1, h3]
            clear h1 h2 h3 HR
            go_wp2_with (first
              | (go_at_call 67; refine (must2 _ _ _ _ _ ).mono ?_; rintro e w3 ⟨he, hx3⟩; simp only [Bool.and_true, Bool.true_and, Bool.and_false, Bool.false_and, Bool.and_self, mustE] at he; subst he; have e0 := Ext.cell (((Ext.refl w2).alloc _).trans hx3) b0))
            first | go_end0 | refine bodyPost_ret (results_none rfl _ _ _) rfl ?_
            exact ⟨by rw [HRR.out]; rfl, HE2.out.trans (((Ext.refl _).alloc _).trans hx3)⟩
          · have T3 : ((fs.length : Int) == 0) = false := beq_eq_false_iff_ne.2 (by omega)
            have HRR : Hid (r = false) := by unfold Hid; rw [← HR.out]; unfold jfiberB; simp [h2, h3]
            clear h1 h2 h3 HR
            go_wp2_with (first
              | (go_at_call 67; refine (must2 _ _ _ _ _ ).mono ?_; rintro e w3 ⟨he, hx3⟩; simp only [Bool.and_true, Bool.true_and, Bool.and_false, Bool.false_and, Bool.and_self, mustE] at he; subst he))
            exact ⟨rfl, by rw [HRR.out]; rfl, HE2.out.trans (((Ext.refl _).alloc _).trans hx3)⟩
      · have T1 : (clr == -1) = false := beq_eq_false_iff_ne.2 h1
        have HRR : Hid (r = false) := by unfold Hid; rw [← HR.out]; unfold jfiberB; simp [h1]
        by_cases h2 : 0 < n
        · have T2 : decide ((0 : Int) < (n : Int)) = true := decide_eq_true (by omega)
          have T2n : decide (0 < n) = true := decide_eq_true h2
          clear h1 h2 HR
          go_wp2_with (first
            | (go_at_call 67; refine (must2 _ _ _ _ _ ).mono ?_; rintro e w3 ⟨he, hx3⟩; simp only [Bool.and_true, Bool.true_and, Bool.and_false, Bool.false_and, Bool.and_self, mustE] at he; subst he))
          exact ⟨rfl, by rw [HRR.out]; rfl, HE2.out.trans (((Ext.refl _).alloc _).trans hx3)⟩
        · have T2 : decide ((0 : Int) < (n : Int)) = false := decide_eq_false (by omega)
          have T2n : decide (0 < n) = false := decide_eq_false h2
          clear h1 h2 HR
          go_wp2_with (first
            | (go_at_call 67; refine (must2 _ _ _ _ _ ).mono ?_; rintro e w3 ⟨he, hx3⟩; simp only [Bool.and_true, Bool.true_and, Bool.and_false, Bool.false_and, Bool.and_self, mustE] at he; subst he))
          exact ⟨rfl, by rw [HRR.out]; rfl, HE2.out.trans (((Ext.refl _).alloc _).trans hx3)⟩
  case rest =>
    obtain ⟨rfl, hx3, hgood, hpos⟩ := hcut
    have HE3 := Lib.hid (HE2.out.trans hx3)
    have BX3 := Lib.hid (⟨BX2.out.1.ext hx3, BX2.out.2.ext hx3⟩ : _ ∧ _)
    clear hx3 HE2 BX2
    rename World => w3
    obtain ⟨⟨b0, -⟩, ⟨b1, -⟩⟩ := BX3.out
    by_cases h0 : fs.length = 0
    · have T0 : decide ((0 : Int) < (fs.length : Int)) = false := decide_eq_false (by omega)
      have T0n : decide (0 < fs.length) = false := decide_eq_false (by omega)
      have HRR : Hid (r = false) := by
        unfold Hid
        rw [← HR.out]
        unfold jfiberB
        cases on with
        | true => simp [h0]
        | false => exact absurd h0 (hpos rfl)
      clear h0 HR hgood hpos
      go_wp2_with (first
        | (go_at_call 67; refine (must1 _ _ _ _ ).mono ?_; rintro e w4 ⟨he, hx4⟩; simp only [Bool.and_true, Bool.true_and, Bool.and_false, Bool.false_and, Bool.and_self, mustE] at he; subst he))
      exact ⟨rfl, by rw [HRR.out]; rfl, HE3.out.trans (((Ext.refl _).alloc _).trans hx4)⟩
    · have T0 : decide ((0 : Int) < (fs.length : Int)) = true := decide_eq_true (by omega)
      have T0n : decide (0 < fs.length) = true := decide_eq_true (by omega)
      have HRR : Hid (r = jrestB p ⟨fs, clr⟩ on runs) := by
        unfold Hid
        rw [← HR.out]
        unfold jfiberB
        rw [if_neg (fun h => hgood h), if_neg h0]
      clear HR hgood hpos
      go_upto_region 6 with (first
        | (go_at_call 67; refine (must1 _ _ _ _ ).mono ?_; rintro e w4 ⟨he, hx4⟩; simp only [Bool.and_true, Bool.true_and, Bool.and_false, Bool.false_and, Bool.and_self, mustE] at he; subst he))
      have HE4 := Lib.hid (HE3.out.trans (((Ext.refl _).alloc _).trans hx4))
      have BX4 := Lib.hid (⟨BX3.out.1.ext (((Ext.refl _).alloc _).trans hx4), BX3.out.2.ext (((Ext.refl _).alloc _).trans hx4)⟩ : _ ∧ _)
      clear hx4 HE3 BX3 b0 b1
      rename World => w4
      obtain ⟨⟨b0, -⟩, ⟨b1, -⟩⟩ := BX4.out
      go_wp2_with fail
      clear b0 b1
      go_loopw [54] (fun q wr => ∃ k : Nat, k ≤ fs.length ∧ q = .int .i64 k ∧ Ext w4 wr ∧ ∀ i, i < k → frameB p (fs.getD i default) = true) (fun q _ => fs.length - (intOf q).toNat)
      case atStart => exact ⟨0, Nat.zero_le _, rfl, Ext.refl _, fun i hi => absurd hi (Nat.not_lt_zero _)⟩
      case round =>
        obtain ⟨k, hk, rfl, hb, hall⟩ := hrel
        have HB := Lib.hid hb
        have HALL := Lib.hid hall
        clear hb hall
        by_cases hlt : k < fs.length
        · obtain ⟨bg, og, al2, cl2, as2, cs2, rfl, hfa, hfv⟩ := (Frames.stays (Ext.stays (HE4.out.trans HB.out)) HFR.out).at' hlt
          have HFV2 := Lib.hid hfv
          obtain ⟨x0, x1, x2, x3⟩ := hfa
          obtain ⟨ok, hok⟩ : ∃ ok, frameB p (fs.getD k default) = ok := ⟨_, rfl⟩
          have HOK := Lib.hid hok
          clear hfv hok
          generalize hxx : fs.getD k default = x at *
          have HXX := Lib.hid hxx
          clear hxx
          go_upto_region 9 with fail
          have HE5 := Lib.hid ((HE4.out.trans HB.out).trans ((Ext.refl wr).alloc (.cells #[.int .i64 x.func, .int .i64 x.at_, .slice al2 x.locals.length cl2, .slice as2 x.stack.length cs2] 43)))
          cases ok with
          | true =>
            go_wp2_with (first
              | (go_at_call 102; refine (jframe_any p s line jb _ x _ _ (HJ.out.ext HE5.out) HZ.out (FrameV.stays (Ext.stays ((Ext.refl _).alloc _)) HFV2.out)).mono ?_; rintro e w6 ⟨he, hx6⟩; rw [HOK.out] at he; simp only [mustE] at he; subst he))
            go_roundw
            case rel => exact ⟨k + 1, by omega, by go_num, HB.out.trans (((Ext.refl _).alloc _).trans hx6), fun i hi => by
              by_cases e : i = k
              · rw [e, HXX.out]; exact HOK.out
              · exact HALL.out i (by omega)⟩
            case measure => simp [intOf]; omega
          | false =>
            have HR2 : Hid (r = false) := by unfold Hid; rw [HRR.out]; unfold jrestB; rw [allK_false hlt (by show frameB p (fs.getD k default) = false; rw [HXX.out]; exact HOK.out)]; rfl
            go_wp2_with (first
              | (go_at_call 102; refine (jframe_any p s line jb _ x _ _ (HJ.out.ext HE5.out) HZ.out (FrameV.stays (Ext.stays ((Ext.refl _).alloc _)) HFV2.out)).mono ?_; rintro e w6 ⟨he, hx6⟩; rw [HOK.out] at he; simp only [mustE] at he; subst he))
            exact ⟨rfl, by rw [HR2.out]; rfl, HE5.out.trans hx6⟩
        · obtain rfl : k = fs.length := by omega
          have HR2 : Hid (r = (allK (fs.length - 1) (jonB p fs) && jtopB p ⟨fs, clr⟩ on runs (fs.getD (fs.length - 1) default))) := by unfold Hid; rw [HRR.out]; unfold jrestB; rw [allK_true HALL.out, Bool.true_and]
          have HE5 := Lib.hid (HE4.out.trans HB.out)
          have BX5 := Lib.hid (⟨BX4.out.1.ext HB.out, BX4.out.2.ext HB.out⟩ : _ ∧ _)
          clear hlt HRR HE4 BX4
          rename World => w5
          obtain ⟨⟨b0, -⟩, ⟨b1, -⟩⟩ := BX5.out
          obtain ⟨bg, og, _, _, _, _, rfl, _, _⟩ := (Frames.stays (Ext.stays HE5.out) HFR.out).at' (k := 0) (by omega)
          go_upto_region 11 with fail
          go_cut [64, 65, 66] (fun v64 v65 v66 wx => (∃ o2 c2, v64 = .slice (some ⟨bg, o2, none⟩) (fs.length - 1) c2 ∧ (1 < fs.length → o2 = og + 4)) ∧ v65 = .int .i64 ((fs.length - 1 : Nat) : Int) ∧ v66 = .int .i64 0 ∧ w5 = wx)
          case first =>
            have hcle : fs.length ≤ cf := by obtain ⟨_, _, e, h, _⟩ := HFR.out; simp only [Value.slice.injEq] at e; omega
            by_cases hc1 : cf = 1
            · subst hc1
              go_wp2_with fail
              go_meet
              have h1 : fs.length = 1 := by omega
              exact ⟨⟨og, 0, by rw [h1], fun h => by omega⟩, by rw [h1]; rfl, rfl, rfl⟩
            · go_wp2_with fail
              go_meet
              exact ⟨⟨_, _, rfl, fun _ => rfl⟩, rfl, rfl, rfl⟩
          case rest =>
            obtain ⟨⟨o2, c2, rfl, ho2⟩, rfl, rfl, rfl⟩ := hcut
            have hM1 : fs.length - 1 < fs.length := by omega
            have hM2 : fs.length ≤ (fs.length - 1) + 1 := by omega
            generalize fs.length - 1 = M at *
            clear b0 b1
            go_wp2_with fail
            go_loopw [66] (fun q wr => ∃ k : Nat, k ≤ M ∧ q = .int .i64 k ∧ Ext w5 wr ∧ ∀ i, i < k → jonB p fs i = true) (fun q _ => M - (intOf q).toNat)
            case atStart => exact ⟨0, Nat.zero_le _, rfl, Ext.refl _, fun i hi => absurd hi (Nat.not_lt_zero _)⟩
            case round =>
              obtain ⟨k, hk, rfl, hb, hall2⟩ := hrel
              have HB2 := Lib.hid hb
              have HALL2 := Lib.hid hall2
              obtain ⟨⟨b0, -⟩, ⟨b1, -⟩⟩ := (⟨BX5.out.1.ext hb, BX5.out.2.ext hb⟩ : _ ∧ _)
              clear hb hall2
              by_cases hlt : k < M
              · obtain ⟨k1, hk1⟩ : ∃ k1, k1 = k + 1 := ⟨_, rfl⟩
                have ho2' : og + k1 * 4 = o2 + k * 4 := by rw [ho2 (by omega), hk1]; omega
                have hkf : k < fs.length := by omega
                have hFx := HALL.out k hkf
                obtain ⟨_, _, alx, clx, asx, csx, eg, hfa, hfv⟩ := (Frames.stays (Ext.stays (HE5.out.trans HB2.out)) HFR.out).at' hkf
                simp only [Option.some.injEq, Addr.mk.injEq, and_true] at eg
                obtain ⟨rfl, rfl⟩ := eg
                obtain ⟨_, _, aly, cly, asy, csy, eg, hfay, _⟩ := (Frames.stays (Ext.stays (HE5.out.trans HB2.out)) HFR.out).at' (k := k1) (by omega)
                simp only [Option.some.injEq, Addr.mk.injEq, and_true] at eg
                obtain ⟨rfl, rfl⟩ := eg
                rw [ho2'] at hfay
                have HJON : Hid (jonB p fs k = (jwaitB p (fs.getD k default) 11 && decide ((opBack p (fs.getD k default)).a = (fs.getD k1 default).func))) := by rw [hk1]; rfl
                have HFV2 := Lib.hid hfv
                have HK1 := Lib.hid hk1
                clear hfv hk1 ho2'
                generalize fs.getD k default = x at *
                generalize fs.getD k1 default = y at *
                obtain ⟨x0, x1, x2, x3⟩ := hfa
                obtain ⟨y0, y1, y2, y3⟩ := hfay
                obtain ⟨n', m', hn', e1, e2, hm', _, hu0, hlm, h24⟩ := frameB_nat HZ.out hFx
                obtain ⟨fn', at', lsx, stx⟩ := x
                simp only at e1 e2
                subst e1 e2
                simp only at *
                have HFX := Lib.hid hFx
                obtain ⟨bp, op, capp, ep, _, _, _, _, vcp, hCp, hcodep⟩ := HP.out.get hn'
                simp only [Value.slice.injEq] at ep
                obtain ⟨rfl, -, rfl⟩ := ep
                obtain ⟨cap', ccap', rfl, hcc', _, hopsp⟩ := hcodep
                have HOPS := Lib.hid hopsp
                clear hFx hopsp hlm
                rename World => wr
                go_upto_region 15 with fail
                have hE7 : Ext wr ((wr.alloc (.cells #[.int .i64 y.func, .int .i64 y.at_, .slice aly y.locals.length cly, .slice asy y.stack.length csy] 43)).alloc (.cells #[.int .i64 n', .int .i64 m', .slice alx lsx.length clx, .slice asx stx.length csx] 43)) := ((Ext.refl _).alloc _).alloc _
                have yb0 := (Cx.ext (Cx.new wr [.int .i64 y.func, .int .i64 y.at_, .slice aly y.locals.length cly, .slice asy y.stack.length csy] 43 (j := 0) rfl) ((Ext.refl _).alloc (.cells #[.int .i64 n', .int .i64 m', .slice alx lsx.length clx, .slice asx stx.length csx] 43))).1
                have hSy : (wr.alloc (.cells #[.int .i64 y.func, .int .i64 y.at_, .slice aly y.locals.length cly, .slice asy y.stack.length csy] 43)).heap.size = wr.heap.size + 1 := Array.size_push _
                have xb0 := (Cx.new (wr.alloc (.cells #[.int .i64 y.func, .int .i64 y.at_, .slice aly y.locals.length cly, .slice asy y.stack.length csy] 43)) [.int .i64 n', .int .i64 m', .slice alx lsx.length clx, .slice asx stx.length csx] 43 (j := 0) rfl).1
                have xb1 := (Cx.new (wr.alloc (.cells #[.int .i64 y.func, .int .i64 y.at_, .slice aly y.locals.length cly, .slice asy y.stack.length csy] 43)) [.int .i64 n', .int .i64 m', .slice alx lsx.length clx, .slice asx stx.length csx] 43 (j := 1) rfl).1
                have xb2 := (Cx.new (wr.alloc (.cells #[.int .i64 y.func, .int .i64 y.at_, .slice aly y.locals.length cly, .slice asy y.stack.length csy] 43)) [.int .i64 n', .int .i64 m', .slice alx lsx.length clx, .slice asx stx.length csx] 43 (j := 2) rfl).1
                have xb3 := (Cx.new (wr.alloc (.cells #[.int .i64 y.func, .int .i64 y.at_, .slice aly y.locals.length cly, .slice asy y.stack.length csy] 43)) [.int .i64 n', .int .i64 m', .slice alx lsx.length clx, .slice asx stx.length csx] 43 (j := 3) rfl).1
                rw [hSy] at xb0 xb1 xb2 xb3
                have HX7 := Lib.hid hE7
                have HE7 := Lib.hid ((HE5.out.trans HB2.out).trans hE7)
                have j3 := Ext.cell HE7.out HJC.out.2.2.1
                have hC7 := Ext.cell HE7.out hCp
                clear hSy hE7 x0 x1 x2 x3 y0 y1 y2 y3 b0 b1 hCp
                generalize (wr.alloc (.cells [.int .i64 y.func, .int .i64 y.at_, .slice aly y.locals.length cly, .slice asy y.stack.length csy].toArray 43)).alloc (.cells [.int .i64 n', .int .i64 m', .slice alx lsx.length clx, .slice asx stx.length csx].toArray 43) = w7 at *
                cases hw : jwaitB p ⟨n', m', lsx, stx⟩ 11 with
                | false =>
                  have HW := Lib.hid hw
                  have HR3 : Hid (r = false) := by unfold Hid; rw [HR2.out, allK_false hlt (by rw [HJON.out, hw]; rfl)]; rfl
                  clear hw
                  refine wp_region_ext_tail 23 (by kernel_rfl) (by kernel_rfl) ?_
                  simp only [List.take_succ_cons, List.take_zero, List.drop_succ_cons, List.drop_zero]
                  repeat (first
                    | go_big_quiet_skip
                    | (go_big_quiet_want
                       unfold Oper.quiet
                       apply Exists.intro
                       refine ⟨fun w' hw' => ?_, ?_⟩
                       focus
                         have hcq := Ext.keep hw'
                         go_simp
                         first
                           | with_reducible rfl
                           | (go_at_call 103; refine (jwaits_any p s line jb _ ⟨n', m', lsx, stx⟩ _ 11 _ (HJ.out.ext (HE7.out.trans hw')) HZ.out (FrameV.stays (Ext.stays (HX7.out.trans hw')) HFV2.out) HFX.out).mono ?_; rintro e w8 ⟨rfl, hx8⟩; rw [HW.out]; exact ⟨rfl, hw'.trans hx8⟩)
                       (try dsimp only [Act.put])
                       (try simp only [List.setIfInBounds_toArray, List.set_cons_succ, List.set_cons_zero])
                       go_big_quiet_on))
                  refine wpQuiet_nil ?_
                  intro wq hq
                  go_wp2_with (first
                    | (go_at_call 67; refine (must1 _ _ _ _ ).mono ?_; rintro e w9 ⟨he, hx9⟩; simp only [Bool.and_true, Bool.true_and, Bool.and_false, Bool.false_and, Bool.and_self, mustE] at he; subst he))
                  exact ⟨rfl, by rw [HR3.out]; rfl, HE7.out.trans (hq.trans (((Ext.refl _).alloc _).trans hx9))⟩
                | true =>
                  have HW := Lib.hid hw
                  have hmpos : 0 < m' := by
                    unfold jwaitB at hw
                    simp only [Bool.and_eq_true, decide_eq_true_eq] at hw
                    omega
                  obtain ⟨q, hq'⟩ : ∃ q, m' = q + 1 := ⟨m' - 1, by omega⟩
                  have hql : q < p[n'].code.length := by omega
                  have KK : IntKind.i64.wrap ((m' : Int) - 1) = (q : Int) := by rw [IntWalk.i64_in _ (by omega)]; omega
                  obtain ⟨cb, co, rfl, _, _, z1, _⟩ := HOPS.out q hql
                  obtain ⟨ya, hya⟩ : ∃ ya, p[n'].code[q].a = ya := ⟨_, rfl⟩
                  rw [hya] at z1
                  have hOB : (opBack p ⟨n', m', lsx, stx⟩).a = ya := by
                    unfold opBack
                    rw [show (funcOf p (GFrame.func ⟨n', m', lsx, stx⟩)) = p[n'] from funcOf_nat hn']
                    show (p[n'].code.getD ((m' : Int) - 1).toNat default).a = ya
                    rw [show ((m' : Int) - 1).toNat = q by omega, ← hya]
                    simp [List.getD, List.getElem?_eq_getElem hql]
                  have HJ2 : Hid (jonB p fs k = (ya == y.func)) := by
                    unfold Hid
                    rw [HJON.out, hw, hOB, Bool.true_and, Bool.eq_iff_iff]
                    simp
                  have z7 := Ext.cell HE7.out z1
                  clear hw hq' hOB hya z1 hmpos
                  obtain ⟨yf, hyf⟩ : ∃ yf, y.func = yf := ⟨_, rfl⟩
                  rw [hyf] at HJ2 yb0
                  clear hyf
                  refine wp_region_ext_tail 23 (by kernel_rfl) (by kernel_rfl) ?_
                  simp only [List.take_succ_cons, List.take_zero, List.drop_succ_cons, List.drop_zero]
                  repeat (first
                    | go_big_quiet_skip
                    | (go_big_quiet_want
                       unfold Oper.quiet
                       apply Exists.intro
                       refine ⟨fun w' hw' => ?_, ?_⟩
                       focus
                         have hcq := Ext.keep hw'
                         go_simp
                         first
                           | with_reducible rfl
                           | (go_at_call 103; refine (jwaits_any p s line jb _ ⟨n', m', lsx, stx⟩ _ 11 _ (HJ.out.ext (HE7.out.trans hw')) HZ.out (FrameV.stays (Ext.stays (HX7.out.trans hw')) HFV2.out) HFX.out).mono ?_; rintro e w8 ⟨rfl, hx8⟩; rw [HW.out]; exact ⟨rfl, hw'.trans hx8⟩)
                       (try dsimp only [Act.put])
                       (try simp only [List.setIfInBounds_toArray, List.set_cons_succ, List.set_cons_zero])
                       go_big_quiet_on))
                  refine wpQuiet_nil ?_
                  intro wq hq
                  by_cases hy : ya = yf
                  · have HYT : Hid ((ya == yf) = true) := by unfold Hid; simp [hy]
                    clear hy
                    go_wp2_with (first
                      | (go_at_call 67; refine (must1 _ _ _ _ ).mono ?_; rintro e w9 ⟨he, hx9⟩; rw [HYT.out] at he; simp only [Bool.and_true, Bool.true_and, Bool.and_false, Bool.false_and, Bool.and_self, mustE] at he; subst he))
                    go_roundw
                    case rel => exact ⟨k + 1, by omega, by go_num, (HB2.out.trans HX7.out).trans (hq.trans (((Ext.refl _).alloc _).trans hx9)), fun i hi => by
                      by_cases e : i = k
                      · rw [e, HJ2.out]; exact HYT.out
                      · exact HALL2.out i (by omega)⟩
                    case measure => simp [intOf]; omega
                  · have HYT : Hid ((ya == yf) = false) := beq_eq_false_iff_ne.2 hy
                    have HR3 : Hid (r = false) := by unfold Hid; rw [HR2.out, allK_false hlt (by rw [HJ2.out]; exact HYT.out)]; rfl
                    clear hy
                    go_wp2_with (first
                      | (go_at_call 67; refine (must1 _ _ _ _ ).mono ?_; rintro e w9 ⟨he, hx9⟩; rw [HYT.out] at he; simp only [Bool.and_true, Bool.true_and, Bool.and_false, Bool.false_and, Bool.and_self, mustE] at he; subst he))
                    exact ⟨rfl, by rw [HR3.out]; rfl, HE7.out.trans (hq.trans (((Ext.refl _).alloc _).trans hx9))⟩
              · obtain rfl : k = M := by omega
                have HR3 : Hid (r = jtopB p ⟨fs, clr⟩ on runs (fs.getD k default)) := by unfold Hid; rw [HR2.out, allK_true HALL2.out, Bool.true_and]
                have HFR0 : Hid (∀ h : 0 < fs.length, 0 ≤ fs[0].func ∧ fs[0].func < p.length) := fun h => by
                  have h1 := frameB_at (HALL.out 0 h)
                  have e : fs.getD 0 default = fs[0] := by simp [List.getD, List.getElem?_eq_getElem h]
                  rw [e] at h1
                  exact ⟨h1.1, h1.2.1⟩
                have KK : IntKind.i64.wrap ((fs.length : Int) - 1) = (k : Int) := by rw [IntWalk.i64_in _ (by omega)]; omega
                have hFx := HALL.out k hM1
                obtain ⟨_, _, alx, clx, asx, csx, eg, hfa, hfv⟩ := (Frames.stays (Ext.stays (HE5.out.trans HB2.out)) HFR.out).at' hM1
                simp only [Option.some.injEq, Addr.mk.injEq, and_true] at eg
                obtain ⟨rfl, rfl⟩ := eg
                have HFV2 := Lib.hid hfv
                clear hfv hlt HR2
                generalize fs.getD k default = x at *
                obtain ⟨x0, x1, x2, x3⟩ := hfa
                obtain ⟨n', m', hn', e1, e2, hm', _, hu0, hlm, h24⟩ := frameB_nat HZ.out hFx
                obtain ⟨fn', at', lsx, stx⟩ := x
                simp only at e1 e2
                subst e1 e2
                simp only at *
                have HFX := Lib.hid hFx
                have hml : m' < (hgt p n').length := by omega
                clear hFx hlm
                rename World => wr
                go_upto_region 19 with fail
                have hE7 : Ext wr (wr.alloc (.cells #[.int .i64 n', .int .i64 m', .slice alx lsx.length clx, .slice asx stx.length csx] 43)) := (Ext.refl _).alloc _
                have xb0 := (Cx.new wr [.int .i64 n', .int .i64 m', .slice alx lsx.length clx, .slice asx stx.length csx] 43 (j := 0) rfl).1
                have xb1 := (Cx.new wr [.int .i64 n', .int .i64 m', .slice alx lsx.length clx, .slice asx stx.length csx] 43 (j := 1) rfl).1
                have xb2 := (Cx.new wr [.int .i64 n', .int .i64 m', .slice alx lsx.length clx, .slice asx stx.length csx] 43 (j := 2) rfl).1
                have xb3 := (Cx.new wr [.int .i64 n', .int .i64 m', .slice alx lsx.length clx, .slice asx stx.length csx] 43 (j := 3) rfl).1
                have c0 := Ext.cell hE7 b0
                have c1 := Ext.cell hE7 b1
                have HX7 := Lib.hid hE7
                have HE7 := Lib.hid ((HE5.out.trans HB2.out).trans hE7)
                have j1 := Ext.cell HE7.out HJC.out.2.1
                have j3 := Ext.cell HE7.out HJC.out.2.2.1
                clear hE7 x0 x1 x2 x3 b0 b1
                generalize wr.alloc (.cells [.int .i64 n', .int .i64 m', .slice alx lsx.length clx, .slice asx stx.length csx].toArray 43) = w7 at *
                cases runs with
                | true =>
                  have TR := HRUNS.out
                  obtain ⟨u, hu⟩ : ∃ u, (hgt p n').getD m' 0 = u := ⟨_, rfl⟩
                  have HU := Lib.hid hu
                  have HR4 : Hid (r = ((stx.length : Int) == u)) := by
                    unfold Hid
                    rw [HR3.out]
                    unfold jtopB fullB
                    rw [if_pos rfl, show (hgt p (GFrame.func ⟨n', m', lsx, stx⟩)).getD (GFrame.at_ ⟨n', m', lsx, stx⟩).toNat 0 = u from HU.out, Bool.eq_iff_iff]
                    simp
                  obtain ⟨ah, ch, j4, hh⟩ := (HJ.out.ext HE7.out).hts
                  obtain ⟨bh, oh, ah2, ch2, rfl, hh0, hhi⟩ := Judge.at' hh hn'
                  obtain ⟨bl, ol, rfl, hl0⟩ := Ints.at' hhi hml
                  rw [HU.out] at hl0
                  clear hu hh hhi
                  go_upto_region 20 with fail
                  go_still_tail 16, (by kernel_rfl)
                  change wpList _ _ _ _ _ w7.drew
                  have hE8 : Ext w7 w7.drew := (Ext.refl _).drew
                  generalize w7.drew = w8 at *
                  by_cases hy : (stx.length : Int) = u
                  · have HYT : Hid (((stx.length : Int) == u) = true) := by unfold Hid; simp [hy]
                    have HR5 : Hid (r = true) := by unfold Hid; rw [HR4.out]; exact HYT.out
                    clear hy
                    go_wp2_with (first
                      | (go_at_call 67; refine (must1 _ _ _ _ ).mono ?_; rintro e w9 ⟨he, hx9⟩; rw [HYT.out] at he; simp only [Bool.and_true, Bool.true_and, Bool.and_false, Bool.false_and, Bool.and_self, mustE] at he; subst he))
                    go_end0
                    exact ⟨by rw [HR5.out]; rfl, HE7.out.trans (hE8.trans (((Ext.refl _).alloc _).trans hx9))⟩
                  · have HYT : Hid (((stx.length : Int) == u) = false) := beq_eq_false_iff_ne.2 hy
                    have HR5 : Hid (r = false) := by unfold Hid; rw [HR4.out]; exact HYT.out
                    clear hy
                    go_wp2_with (first
                      | (go_at_call 67; refine (must1 _ _ _ _ ).mono ?_; rintro e w9 ⟨he, hx9⟩; rw [HYT.out] at he; simp only [Bool.and_true, Bool.true_and, Bool.and_false, Bool.false_and, Bool.and_self, mustE] at he; subst he))
                    exact ⟨rfl, by rw [HR5.out]; rfl, HE7.out.trans (hE8.trans (((Ext.refl _).alloc _).trans hx9))⟩
                | false =>
                  have TR := HRUNS.out
                  cases on with
                  | true =>
                    have HR4 : Hid (r = jwaitB p ⟨n', m', lsx, stx⟩ 14) := by unfold Hid; rw [HR3.out]; rfl
                    cases hw : jwaitB p ⟨n', m', lsx, stx⟩ 14 with
                    | true =>
                      have HW := Lib.hid hw
                      have HR5 : Hid (r = true) := by unfold Hid; rw [HR4.out, hw]
                      clear hw
                      go_wp2_with (first
                        | (go_at_call 103; refine (jwaits_any p s line jb _ ⟨n', m', lsx, stx⟩ _ 14 _ (HJ.out.ext HE7.out) HZ.out (FrameV.stays (Ext.stays HX7.out) HFV2.out) HFX.out).mono ?_; rintro e w8 ⟨rfl, hx8⟩; rw [HW.out])
                        | (go_at_call 67; refine (must1 _ _ _ _ ).mono ?_; rintro e w9 ⟨he, hx9⟩; simp only [Bool.and_true, Bool.true_and, Bool.and_false, Bool.false_and, Bool.and_self, mustE] at he; subst he))
                      go_end0
                      exact ⟨by rw [HR5.out]; rfl, HE7.out.trans (hx8.trans (((Ext.refl _).alloc _).trans hx9))⟩
                    | false =>
                      have HW := Lib.hid hw
                      have HR5 : Hid (r = false) := by unfold Hid; rw [HR4.out, hw]
                      clear hw
                      go_wp2_with (first
                        | (go_at_call 103; refine (jwaits_any p s line jb _ ⟨n', m', lsx, stx⟩ _ 14 _ (HJ.out.ext HE7.out) HZ.out (FrameV.stays (Ext.stays HX7.out) HFV2.out) HFX.out).mono ?_; rintro e w8 ⟨rfl, hx8⟩; rw [HW.out])
                        | (go_at_call 67; refine (must1 _ _ _ _ ).mono ?_; rintro e w9 ⟨he, hx9⟩; simp only [Bool.and_true, Bool.true_and, Bool.and_false, Bool.false_and, Bool.and_self, mustE] at he; subst he))
                      exact ⟨rfl, by rw [HR5.out]; rfl, HE7.out.trans (hx8.trans (((Ext.refl _).alloc _).trans hx9))⟩
                  | false =>
                    have HR4 : Hid (r = (freshB p ⟨fs, clr⟩ || jwaitB p ⟨n', m', lsx, stx⟩ 15)) := by unfold Hid; rw [HR3.out]; rfl
                    go_upto_region 18 with fail
                    cases hfre : freshB p ⟨fs, clr⟩ with
                    | true =>
                      have HFRE := Lib.hid hfre
                      have HR5 : Hid (r = true) := by unfold Hid; rw [HR4.out, hfre]; rfl
                      clear hfre
                      refine wp_region_ext_tail 11 (by kernel_rfl) (by kernel_rfl) ?_
                      simp only [List.take_succ_cons, List.take_zero, List.drop_succ_cons, List.drop_zero]
                      repeat (first
                        | go_big_quiet_skip
                        | (go_big_quiet_want
                           unfold Oper.quiet
                           apply Exists.intro
                           refine ⟨fun w' hw' => ?_, ?_⟩
                           focus
                             have hcq := Ext.keep hw'
                             go_simp
                             first
                               | with_reducible rfl
                               | (go_at_call 104; refine (stateFresh_any p _ _ _ ⟨fs, clr⟩ _ _ (Funcs.stays (Ext.stays (HE7.out.trans hw')) HP.out) (FiberV.stays (Ext.stays (HE7.out.trans hw')) HFV.out) HFR0.out).mono ?_; rintro e w8 ⟨rfl, hx8⟩; rw [HFRE.out]; exact ⟨rfl, hw'.trans hx8⟩)
                           (try dsimp only [Act.put])
                           (try simp only [List.setIfInBounds_toArray, List.set_cons_succ, List.set_cons_zero])
                           go_big_quiet_on))
                      refine wpQuiet_nil ?_
                      intro wq hq
                      go_wp2_with (first
                        | (go_at_call 67; refine (must1 _ _ _ _ ).mono ?_; rintro e w9 ⟨he, hx9⟩; simp only [Bool.and_true, Bool.true_and, Bool.and_false, Bool.false_and, Bool.and_self, mustE] at he; subst he))
                      go_end0
                      exact ⟨by rw [HR5.out]; rfl, HE7.out.trans (hq.trans (((Ext.refl _).alloc _).trans hx9))⟩
                    | false =>
                      have HFRE := Lib.hid hfre
                      cases hw : jwaitB p ⟨n', m', lsx, stx⟩ 15 with
                      | true =>
                        have HW := Lib.hid hw
                        have HR5 : Hid (r = true) := by unfold Hid; rw [HR4.out, hfre, hw]; rfl
                        clear hfre hw
                        refine wp_region_ext_tail 11 (by kernel_rfl) (by kernel_rfl) ?_
                        simp only [List.take_succ_cons, List.take_zero, List.drop_succ_cons, List.drop_zero]
                        repeat (first
                          | go_big_quiet_skip
                          | (go_big_quiet_want
                             unfold Oper.quiet
                             apply Exists.intro
                             refine ⟨fun w' hw' => ?_, ?_⟩
                             focus
                               have hcq := Ext.keep hw'
                               go_simp
                               first
                                 | with_reducible rfl
                                 | (go_at_call 104; refine (stateFresh_any p _ _ _ ⟨fs, clr⟩ _ _ (Funcs.stays (Ext.stays (HE7.out.trans hw')) HP.out) (FiberV.stays (Ext.stays (HE7.out.trans hw')) HFV.out) HFR0.out).mono ?_; rintro e w8 ⟨rfl, hx8⟩; rw [HFRE.out]; exact ⟨rfl, hw'.trans hx8⟩) | (go_at_call 103; refine (jwaits_any p s line jb _ ⟨n', m', lsx, stx⟩ _ 15 _ (HJ.out.ext (HE7.out.trans hw')) HZ.out (FrameV.stays (Ext.stays (HX7.out.trans hw')) HFV2.out) HFX.out).mono ?_; rintro e w8 ⟨rfl, hx8⟩; rw [HW.out]; exact ⟨rfl, hw'.trans hx8⟩)
                             (try dsimp only [Act.put])
                             (try simp only [List.setIfInBounds_toArray, List.set_cons_succ, List.set_cons_zero])
                             go_big_quiet_on))
                        refine wpQuiet_nil ?_
                        intro wq hq
                        go_wp2_with (first
                          | (go_at_call 67; refine (must1 _ _ _ _ ).mono ?_; rintro e w9 ⟨he, hx9⟩; simp only [Bool.and_true, Bool.true_and, Bool.and_false, Bool.false_and, Bool.and_self, mustE] at he; subst he))
                        go_end0
                        exact ⟨by rw [HR5.out]; rfl, HE7.out.trans (hq.trans (((Ext.refl _).alloc _).trans hx9))⟩
                      | false =>
                        have HW := Lib.hid hw
                        have HR5 : Hid (r = false) := by unfold Hid; rw [HR4.out, hfre, hw]; rfl
                        clear hfre hw
                        refine wp_region_ext_tail 11 (by kernel_rfl) (by kernel_rfl) ?_
                        simp only [List.take_succ_cons, List.take_zero, List.drop_succ_cons, List.drop_zero]
                        repeat (first
                          | go_big_quiet_skip
                          | (go_big_quiet_want
                             unfold Oper.quiet
                             apply Exists.intro
                             refine ⟨fun w' hw' => ?_, ?_⟩
                             focus
                               have hcq := Ext.keep hw'
                               go_simp
                               first
                                 | with_reducible rfl
                                 | (go_at_call 104; refine (stateFresh_any p _ _ _ ⟨fs, clr⟩ _ _ (Funcs.stays (Ext.stays (HE7.out.trans hw')) HP.out) (FiberV.stays (Ext.stays (HE7.out.trans hw')) HFV.out) HFR0.out).mono ?_; rintro e w8 ⟨rfl, hx8⟩; rw [HFRE.out]; exact ⟨rfl, hw'.trans hx8⟩) | (go_at_call 103; refine (jwaits_any p s line jb _ ⟨n', m', lsx, stx⟩ _ 15 _ (HJ.out.ext (HE7.out.trans hw')) HZ.out (FrameV.stays (Ext.stays (HX7.out.trans hw')) HFV2.out) HFX.out).mono ?_; rintro e w8 ⟨rfl, hx8⟩; rw [HW.out]; exact ⟨rfl, hw'.trans hx8⟩)
                             (try dsimp only [Act.put])
                             (try simp only [List.setIfInBounds_toArray, List.set_cons_succ, List.set_cons_zero])
                             go_big_quiet_on))
                        refine wpQuiet_nil ?_
                        intro wq hq
                        go_wp2_with (first
                          | (go_at_call 67; refine (must1 _ _ _ _ ).mono ?_; rintro e w9 ⟨he, hx9⟩; simp only [Bool.and_true, Bool.true_and, Bool.and_false, Bool.false_and, Bool.and_self, mustE] at he; subst he))
                        exact ⟨rfl, by rw [HR5.out]; rfl, HE7.out.trans (hq.trans (((Ext.refl _).alloc _).trans hx9))⟩
end Go.Proofs.YtgahbngbpfilgaaGreat
end
section
set_option maxHeartbeats 4000000
set_option maxRecDepth 100000
set_option linter.unusedSimpArgs false
namespace Go.Proofs.YtgahbngbpfilgaaGreat
open Go Go.RowKit
def lookE (r : Int) : Ending := if r = 0 then .returned (.tuple #[]) else .panicked (refusal r)
structure HRow (w : World) (base : Nat) (v : Value) (hs : List (Value × List Int)) : Prop where
 row : RowAt w base 1 v hs.length (hs.map Prod.fst)
 ints : ∀ y ∈ hs, (∃ a n c, y.1 = .slice a n c) ∧ Ints w (fun b => base ≤ b ∧ rowBlock v ≠ some b) y.1 y.2
theorem HRow.nil (w : World) (base : Nat) : HRow w base (.slice none 0 0) [] := ⟨RowAt.nil _ _ _ _, by simp⟩
theorem HRow.chg {M : Nat → Prop} {w w' : World} {base : Nat} {v : Value} {hs : List (Value × List Int)} (h : HRow w base v hs) (hc : Chg M w w') (hM : ∀ b, base ≤ b → ¬ M b) : HRow w' base v hs :=
 ⟨h.row.chg hc (fun g e => hM g (h.row.le g e)) (by decide), fun y hy => ⟨(h.ints y hy).1, Ints.stays (hc.stays (fun b hb => hM b hb.1)) (h.ints y hy).2⟩⟩
theorem HRow.grow {w w' : World} {base : Nat} {v v' : Value} {hs : List (Value × List Int)} {y : Value × List Int} (h : HRow w base v hs) (hn : NewRow w w' base 1 v v' (hs.length + 1) (hs.map Prod.fst ++ [y.1]))
  (hy : (∃ a n c, y.1 = .slice a n c) ∧ Ints w (fun b => base ≤ b ∧ rowBlock v ≠ some b) y.1 y.2) : HRow w' base v' (hs ++ [y]) := by
 obtain ⟨hr, hc, hb⟩ := hn
 refine ⟨?_, fun z hz => ?_⟩
 ·rw [List.length_append, List.length_singleton, List.map_append]
  exact hr
 ·have hz' : (∃ a n c, z.1 = .slice a n c) ∧ Ints w (fun b => base ≤ b ∧ rowBlock v ≠ some b) z.1 z.2 := by
   rcases List.mem_append.1 hz with h1 | h1
   ·exact h.ints z h1
   ·rw [List.mem_singleton] at h1; subst h1; exact hy
  refine ⟨hz'.1, Ints.stays (fun b o u hS hu => ⟨hc.cell hS.2 hu, hS.1, ?_⟩) hz'.2⟩
  rcases hb with e | e
  ·rw [e]; exact hS.2
  ·intro e2
   have := e b e2
   have := lt_of_cell hu
   omega
theorem HRow.htsL {w : World} {base : Nat} {v : Value} {hs : List (Value × List Int)} (h : HRow w base v hs) (hb : hs.length ≤ 1000000) : HtsL w v (hs.map Prod.snd) := by
 have h1 := h.row
 have hr : RowAt w base 1 v hs.length (hs.flatMap (fun y => [y.1])) := by
  have e : hs.flatMap (fun y => [y.1]) = hs.map Prod.fst := by
   clear h hb h1
   induction hs with
   | nil => rfl
   | cons y l ih => rw [List.flatMap_cons, ih]; rfl
  rw [e]; exact h1
 have : Sl (fun b o y => ∃ u, w.cell? ⟨b, o, none⟩ = some u ∧ Ints w (fun _ => True) u (Prod.snd y)) 1 24 v hs :=
  Sl.of_row (fun y => [y.1]) hr (fun _ => rfl) (by omega) fun b o y _ _ hy hc => ⟨y.1, hc 0 _ rfl, Ints.stays (Stays.widen (fun _ _ => trivial)) (h.ints y hy).2⟩
 obtain ⟨a, cap, e, q1, q2, q3⟩ := this
 refine ⟨a, cap, by rw [List.length_map]; exact e, by rw [List.length_map]; exact q1, by rw [List.length_map]; exact q2, fun i hi => ?_⟩
 obtain ⟨b, o, e2, h4⟩ := q3 i (by rwa [List.length_map] at hi)
 exact ⟨b, o, e2, by rw [List.getElem_map]; exact h4⟩
structure LK (w3 wr : World) (jb : Nat) (p : List GFunc) (vf vp vl : Value) (now : Int) (k : Nat) : Prop where
 chg : Chg (· = jb) w3 wr
 c0 : Cx wr jb 0 vf
 c1 : Cx wr jb 1 (.int .i64 now)
 c3 : Cx wr jb 3 vp
 c5 : Cx wr jb 5 vl
 hts : ∃ v hs, Cx wr jb 4 v ∧ HRow wr w3.heap.size v hs ∧ hs.map Prod.snd = (List.range k).map (fun i : Nat => hgt p i)
theorem RowAt.lt' {w : World} {base size : Nat} {v : Value} {n : Nat} {xs : List Value} (h : RowAt w base size v n xs) (hs : 0 < size) : ∀ g, rowBlock v = some g → g < w.heap.size := by
 obtain ⟨_, a, cap, rfl, _, _, h3⟩ := h
 intro g hg
 rcases h3 with h0 | ⟨g', o, rfl, _, _, ht⟩
 ·subst h0; cases a <;> simp [rowBlock] at hg
 ·by_cases hc : cap = 0
  ·subst hc; simp [rowBlock] at hg
  ·rw [rowBlock_some g' o n cap hc] at hg
   cases hg
   obtain ⟨v, hv⟩ := Option.isSome_iff_exists.1 (ht 0 (Nat.mul_pos (by omega) hs)).1
   exact lt_of_cell hv
theorem LK.grow {w3 wr W7 W8 : World} {jb : Nat} {p : List GFunc} {vf vp vl v v1 : Value} {now : Int} {k : Nat} {hs : List (Value × List Int)} {y : Value × List Int} (h : LK w3 wr jb p vf vp vl now k) (hj : jb < w3.heap.size) (he : Ext wr W7)
  (hc : Cx wr jb 4 v) (hr : HRow wr w3.heap.size v hs) (hm : hs.map Prod.snd = (List.range k).map (fun i : Nat => hgt p i)) (hn : NewRow W7 W8 w3.heap.size 1 v v1 (hs.length + 1) (hs.map Prod.fst ++ [y.1]))
  (hy : (∃ a n c, y.1 = .slice a n c) ∧ Ints W7 (fun b => w3.heap.size ≤ b ∧ rowBlock v ≠ some b) y.1 y.2) (hy2 : y.2 = hgt p k) :
  LK w3 (W8.setCell ⟨jb, 4, none⟩ v1) jb p vf vp vl now (k + 1) ∧ Cx W8 jb 4 v := by
 have hM : ∀ q, rowBlock v = some q → w3.heap.size ≤ q := hr.row.le
 have hch := hn.2.1
 have k2 : Cx W8 jb 4 v := (hc.ext he).chg hch (fun e => by have := hM _ e; omega)
 have go : ∀ j u, j ≠ 4 → Cx wr jb j u → Cx (W8.setCell ⟨jb, 4, none⟩ v1) jb j u := fun j u hj4 hu => ((hu.ext he).chg hch (fun e => by have := hM _ e; omega)).other (.inr hj4) _
 refine ⟨⟨?_, go _ _ (by decide) h.c0, go _ _ (by decide) h.c1, go _ _ (by decide) h.c3, go _ _ (by decide) h.c5, v1, hs ++ [y], k2.set v1, ?_, ?_⟩, k2⟩
 ·exact ((h.chg.trans (Chg.of_ext he)).trans' hch (fun q hq e => by have := hM _ e; omega)).setCell (p := ⟨jb, 4, none⟩) (.inl rfl) _
 ·have h1 : HRow W7 w3.heap.size v hs := hr.chg (M := fun _ => False) (Chg.of_ext he) (fun _ _ h => h)
  exact (h1.grow hn hy).chg (chg_one W8 jb 4 v1) (fun b hb e => by have e2 : b = jb := e; omega)
 ·rw [List.map_append, hm, List.range_succ, List.map_append, List.map_singleton, List.map_singleton, hy2]
theorem LK.judge {w3 wr : World} {jb : Nat} {p : List GFunc} {s : GState} {line : List Int} {af ap al : Option Addr} {cf cp cl : Nat} {S S2 : Nat → Prop} (h : LK w3 wr jb p (.slice af s.fibers.length cf) (.slice ap p.length cp) (.slice al line.length cl) s.now p.length) (hl : p.length ≤ 1000)
  (hf : Fibers wr S (.slice af s.fibers.length cf) s.fibers) (hp : Funcs wr S (.slice ap p.length cp) p) (hln : Ints wr S2 (.slice al line.length cl) line) : Judge wr jb p s line := by
 obtain ⟨v, hs, hc, hr, hm⟩ := h.hts
 have hlen : hs.length = p.length := by have := congrArg List.length hm; simpa using this
 have hH := hr.htsL (by omega)
 rw [hm] at hH
 obtain ⟨a, c, e, q1, q2, q3⟩ := hH
 have e2 : v = .slice a p.length c := by rw [e]; simp
 have hH2 := hr.htsL (by omega)
 rw [hm, e2] at hH2
 rw [e2] at hc
 have W : ∀ S', Stays S' (fun _ => True) wr wr := fun _ => Stays.widen (fun _ _ => trivial)
 exact ⟨⟨_, _, h.c0.1, Fibers.stays (W _) hf⟩, h.c1.1, ⟨_, _, h.c3.1, Funcs.stays (W _) hp⟩, ⟨_, _, hc.1, hH2⟩, ⟨_, _, h.c5.1, Ints.stays (W _) hln⟩⟩
theorem src_slice (w : World) (a : Option Addr) (n cap : Nat) (t : TypeId) : SrcSl (w.alloc (.cells #[.slice a n cap] t)) 1 (.slice (some ⟨w.heap.size, 0, none⟩) 1 1) 1 [.slice a n cap] := by
 refine ⟨_, 1, rfl, rfl, by simp [Value.oneCell'], .inr ⟨_, rfl, fun j u hj => ?_⟩⟩
 match j, hj with
 | 0, hj => cases hj; rw [Addr.add_zero']; exact World.cell?_alloc_new w _ _ 0
theorem lineGo_has {fs : List GFiber} : ∀ (k : Nat) (n : Int) (out l : List Int), lineGo fs k n out = some l → (∀ x ∈ out, x ∈ l) ∧ (0 ≤ n → n ∈ l)
 | 0, n, out, l, h => by cases h
 | k + 1, n, out, l, h => by
  rw [lineGo] at h
  by_cases h0 : n < 0
  ·rw [if_pos h0] at h
   cases h
   exact ⟨fun x hx => hx, fun h => by omega⟩
  ·rw [if_neg h0] at h
   by_cases hm : n ∈ out
   ·rw [if_pos hm] at h; cases h
   ·rw [if_neg hm] at h
    obtain ⟨h1, _⟩ := lineGo_has k _ _ _ h
    exact ⟨fun x hx => h1 x (by simp [hx]), fun _ => h1 n (by simp)⟩
theorem line_now {s : GState} {l : List Int} (h : lineS s = some l) (n : Nat) (hn : (n : Int) = s.now) : (n : Int) ∈ l := by
 rw [hn]
 exact (lineGo_has _ _ _ _ h).2 (by omega)
theorem line_done {s : GState} {l : List Int} (h : lineS s = some l) (hn : s.now = -1) : l = [] := by
 unfold lineS at h
 rw [lineGo, if_pos (by omega)] at h
 cases h
 rfl
theorem lineErr_eq {p : List GFunc} {s : GState} {l : List Int} (hl : lineS s = some l) (hpos : 0 < s.fibers.length) :
  (if lineEnd l = false then (1 : Int) else if s.now = -1 ∧ 0 < (s.fibers.getD 0 default).frames.length then 1 else if allK s.fibers.length (fibK p s l) = false then 1 else 0) = if lineEnd l = false then 1 else if allK s.fibers.length (fibK p s l) = false then 1 else 0 := by
 by_cases h : s.now = -1 ∧ 0 < (s.fibers.getD 0 default).frames.length
 ·have : allK s.fibers.length (fibK p s l) = false := allK_false hpos (by
   unfold fibK
   rw [line_done hl h.1, decide_eq_true h.2]
   simp)
  rw [if_pos h, if_pos this]
 ·rw [if_neg h]
theorem infoS : (Tryz.prog.info? 24).map (fun i => (i.zero, i.size, i.bytes)) = some (some (.slice none 0 0), 1, 24) := by kernel_rfl
theorem look_any (p : List GFunc) (s : GState) (jb : Nat) (S : Nat → Prop) (af ap : Option Addr) (cf cp : Nat) (ao : Option Addr) (co : Nat) (w : World) (hz : progErr p = 0)
  (c0 : Cx w jb 0 (.slice af s.fibers.length cf)) (c1 : Cx w jb 1 (.int .i64 s.now)) (c2 : Cx w jb 2 (.slice ao s.out.length co)) (c3 : Cx w jb 3 (.slice ap p.length cp)) (c4 : Cx w jb 4 (.slice none 0 0)) (c5 : Cx w jb 5 (.slice none 0 0))
  (hf : Fibers w S (.slice af s.fibers.length cf) s.fibers) (ho : Ints w S (.slice ao s.out.length co) s.out) (hp : Funcs w S (.slice ap p.length cp) p) (inow : I64 s.now) (hS : ∀ b, S b → b ≠ jb) :
  Calls Tryz.prog 53 #[.pointer (some ⟨jb, 0, none⟩)] w fun e w' => e = lookE (stateErr p s) ∧ Chg (· = jb) w w' := by
 have HZ := Lib.hid hz
 have HF := Lib.hid hf
 have HP := Lib.hid hp
 have HSV : Hid (StateV w S (.agg #[.slice af s.fibers.length cf, .int .i64 s.now, .slice ao s.out.length co]) s) := ⟨_, _, rfl, hf, inow, ho⟩
 have HC := Lib.hid (⟨c0, c1, c2, c3, c4, c5⟩ : _ ∧ _ ∧ _ ∧ _ ∧ _ ∧ _)
 have RA := alloc_keep
 obtain ⟨r, hr⟩ : ∃ r, stateErr p s = r := ⟨_, rfl⟩
 rw [hr]
 have HR1 : Hid (r = if 5 < s.fibers.length ∨ 30 < s.out.length then 2 else if allK s.fibers.length (framesFew s) = false then 2 else if s.fibers.length = 0 then 5 else if ¬ (-1 ≤ s.now ∧ s.now ≤ (s.fibers.length : Int) - 1) then 3 else if allK s.fibers.length (callersB s) = false then 3 else lineErr p s) := by
  unfold Hid
  rw [← hr]
  unfold stateErr
  rw [if_neg (fun h => h hz)]
 clear hr hz hf ho hp
 obtain ⟨⟨b0, -⟩, ⟨b1, -⟩, ⟨b2, -⟩⟩ := (⟨c0, c1, c2⟩ : _ ∧ _ ∧ _)
 clear c0 c1 c2 c3 c4 c5
 go_enter Tryz.func53, Tryz.ntmps53
 go_upto_region 0 with fail
 go_still_tail 14, (by kernel_rfl)
 change wpList _ _ _ _ _ w.drew
 have hE1 : Ext w w.drew := (Ext.refl _).drew
 generalize w.drew = w1 at *
 by_cases h5 : 5 < s.fibers.length ∨ 30 < s.out.length
 ·have HRR : Hid (r = 2) := by unfold Hid; rw [HR1.out, if_pos h5]
  have HB : Hid ((decide ((s.fibers.length : Int) ≤ 5) && decide ((s.out.length : Int) ≤ 30)) = false) := by
   unfold Hid
   rcases h5 with h | h
   ·rw [decide_eq_false (show ¬ (s.fibers.length : Int) ≤ 5 by omega)]; rfl
   ·rw [decide_eq_false (show ¬ (s.out.length : Int) ≤ 30 by omega), Bool.and_false]
  clear h5
  go_wp2_with (first
   | (go_at_call 67; refine (must2 _ _ _ _ _ ).mono ?_; rintro e w9 ⟨he, hx9⟩; rw [HB.out] at he; simp only [Bool.and_true, Bool.true_and, Bool.and_false, Bool.false_and, Bool.and_self, mustE] at he; subst he))
  exact ⟨rfl, by rw [HRR.out]; rfl, Chg.of_ext (hE1.trans (((Ext.refl _).alloc _).trans hx9))⟩
 ·have HB : Hid ((decide ((s.fibers.length : Int) ≤ 5) && decide ((s.out.length : Int) ≤ 30)) = true) := by
   unfold Hid
   rw [decide_eq_true (show (s.fibers.length : Int) ≤ 5 by omega), decide_eq_true (show (s.out.length : Int) ≤ 30 by omega)]
   rfl
  have HR2 : Hid (r = if allK s.fibers.length (framesFew s) = false then 2 else if s.fibers.length = 0 then 5 else if ¬ (-1 ≤ s.now ∧ s.now ≤ (s.fibers.length : Int) - 1) then 3 else if allK s.fibers.length (callersB s) = false then 3 else lineErr p s) := by unfold Hid; rw [HR1.out, if_neg h5]
  clear HR1
  go_upto_region 1 with (first
   | (go_at_call 67; refine (must2 _ _ _ _ _ ).mono ?_; rintro e w2 ⟨he, hx2⟩; rw [HB.out] at he; simp only [Bool.and_true, Bool.true_and, Bool.and_false, Bool.false_and, Bool.and_self, mustE] at he; subst he))
  have hl5 : s.fibers.length ≤ 5 := by omega
  have HE2 := Lib.hid (hE1.trans (((Ext.refl _).alloc _).trans hx2))
  clear hE1 hx2 h5 HB b0 b1 b2
  rename World => w2
  obtain ⟨⟨b0, -⟩, ⟨b1, -⟩, ⟨b2, -⟩⟩ := (⟨HC.out.1.ext HE2.out, HC.out.2.1.ext HE2.out, HC.out.2.2.1.ext HE2.out⟩ : _ ∧ _ ∧ _)
  go_wp2_with fail
  clear b0 b1 b2
  go_loopw [34] (fun q wr => ∃ k : Nat, k ≤ s.fibers.length ∧ q = .int .i64 k ∧ Ext w2 wr ∧ ∀ i, i < k → framesFew s i = true) (fun q _ => s.fibers.length - (intOf q).toNat)
  case atStart => exact ⟨0, Nat.zero_le _, rfl, Ext.refl _, fun i hi => absurd hi (Nat.not_lt_zero _)⟩
  case round =>
   obtain ⟨k, hk, rfl, hb, hall⟩ := hrel
   have HB := Lib.hid hb
   have HALL := Lib.hid hall
   clear hb hall
   by_cases hlt : k < s.fibers.length
   ·obtain ⟨bf, of, ag, cg, rfl, x0, x1, _⟩ := (Fibers.stays (Ext.stays (HE2.out.trans HB.out)) HF.out).at' hlt
    obtain ⟨m, hm⟩ : ∃ m, (s.fibers.getD k default).frames.length = m := ⟨_, rfl⟩
    rw [hm] at x0
    have HM := Lib.hid hm
    obtain ⟨clr, hclr⟩ : ∃ clr, (s.fibers.getD k default).caller = clr := ⟨_, rfl⟩
    rw [hclr] at x1
    clear hm hclr
    go_upto_region 4 with fail
    have hE7 : Ext wr (wr.alloc (.cells #[.slice ag m cg, .int .i64 clr] 41)) := (Ext.refl _).alloc _
    have xb0 := (Cx.new wr [.slice ag m cg, .int .i64 clr] 41 (j := 0) rfl).1
    have HE7 := Lib.hid hE7
    clear hE7 x0 x1
    generalize wr.alloc (.cells [.slice ag m cg, .int .i64 clr].toArray 41) = w7 at *
    by_cases h6 : m ≤ 6
    ·have T6 : Hid (decide ((m : Int) ≤ 6) = true) := decide_eq_true (by omega)
     have HO : Hid (framesFew s k = true) := by unfold Hid framesFew; rw [HM.out]; exact decide_eq_true h6
     clear h6
     go_wp2_with (first
      | (go_at_call 67; refine (must1 _ _ _ _ ).mono ?_; rintro e w9 ⟨he, hx9⟩; rw [T6.out] at he; simp only [Bool.and_true, Bool.true_and, Bool.and_false, Bool.false_and, Bool.and_self, mustE] at he; subst he))
     go_roundw
     case rel => exact ⟨k + 1, by omega, by go_num, HB.out.trans (HE7.out.trans (((Ext.refl _).alloc _).trans hx9)), fun i hi => by
      by_cases e : i = k
      ·rw [e]; exact HO.out
      ·exact HALL.out i (by omega)⟩
     case measure => simp [intOf]; omega
    ·have T6 : Hid (decide ((m : Int) ≤ 6) = false) := decide_eq_false (by omega)
     have HRR : Hid (r = 2) := by unfold Hid; rw [HR2.out, if_pos (allK_false hlt (by unfold framesFew; rw [HM.out]; exact decide_eq_false h6))]
     clear h6
     go_wp2_with (first
      | (go_at_call 67; refine (must1 _ _ _ _ ).mono ?_; rintro e w9 ⟨he, hx9⟩; rw [T6.out] at he; simp only [Bool.and_true, Bool.true_and, Bool.and_false, Bool.false_and, Bool.and_self, mustE] at he; subst he))
     exact ⟨rfl, by rw [HRR.out]; rfl, Chg.of_ext (((HE2.out.trans HB.out).trans HE7.out).trans (((Ext.refl _).alloc _).trans hx9))⟩
   ·obtain rfl : k = s.fibers.length := by omega
    have HR3 : Hid (r = if s.fibers.length = 0 then 5 else if ¬ (-1 ≤ s.now ∧ s.now ≤ (s.fibers.length : Int) - 1) then 3 else if allK s.fibers.length (callersB s) = false then 3 else lineErr p s) := by unfold Hid; rw [HR2.out, allK_true HALL.out, if_neg (by decide)]
    have HE3 := Lib.hid (HE2.out.trans HB.out)
    clear HE2 HR2 HALL hlt
    rename World => w3
    obtain ⟨⟨b0, -⟩, ⟨b1, -⟩, ⟨b2, -⟩⟩ := (⟨HC.out.1.ext HE3.out, HC.out.2.1.ext HE3.out, HC.out.2.2.1.ext HE3.out⟩ : _ ∧ _ ∧ _)
    by_cases h0 : s.fibers.length = 0
    ·have T0 : decide ((0 : Int) < (s.fibers.length : Int)) = false := decide_eq_false (by omega)
     have T0n : decide (0 < s.fibers.length) = false := decide_eq_false (by omega)
     have HRR : Hid (r = 5) := by unfold Hid; rw [HR3.out, if_pos h0]
     clear h0
     go_wp2_with (first
      | (go_at_call 67; refine (must1 _ _ _ _ ).mono ?_; rintro e w9 ⟨he, hx9⟩; simp only [Bool.and_true, Bool.true_and, Bool.and_false, Bool.false_and, Bool.and_self, mustE] at he; subst he))
     exact ⟨rfl, by rw [HRR.out]; rfl, Chg.of_ext (HE3.out.trans (((Ext.refl _).alloc _).trans hx9))⟩
    ·have T0 : decide ((0 : Int) < (s.fibers.length : Int)) = true := decide_eq_true (by omega)
     have T0n : decide (0 < s.fibers.length) = true := decide_eq_true (by omega)
     have hpos : 0 < s.fibers.length := by omega
     go_upto_region 7 with (first
      | (go_at_call 67; refine (must1 _ _ _ _ ).mono ?_; rintro e w4 ⟨he, hx4⟩; simp only [Bool.and_true, Bool.true_and, Bool.and_false, Bool.false_and, Bool.and_self, mustE] at he; subst he))
     have hE4 : Ext w3 w4 := ((Ext.refl _).alloc _).trans hx4
     have HE4 := Lib.hid (HE3.out.trans hE4)
     have d0 := Ext.cell hE4 b0
     have d1 := Ext.cell hE4 b1
     clear HE3 hE4 hx4 b0 b1 b2
     rename World => w4
     go_still_tail 18, (by kernel_rfl)
     change wpList _ _ _ _ _ w4.drew
     have hE5 : Ext w4 w4.drew := (Ext.refl _).drew
     generalize w4.drew = w5 at *
     by_cases hn : -1 ≤ s.now ∧ s.now ≤ (s.fibers.length : Int) - 1
     ·have HB2 : Hid ((decide (-1 ≤ s.now) && decide (s.now < (s.fibers.length : Int))) = true) := by
       unfold Hid
       rw [decide_eq_true hn.1, decide_eq_true (show s.now < (s.fibers.length : Int) by omega)]
       rfl
      have HNOW := Lib.hid hn
      have HR4 : Hid (r = if allK s.fibers.length (callersB s) = false then 3 else lineErr p s) := by unfold Hid; rw [HR3.out, if_neg h0, if_neg (fun h => h hn)]
      clear h0 hn HR3
      go_upto_region 8 with (first
       | (go_at_call 67; refine (must2 _ _ _ _ _ ).mono ?_; rintro e w6 ⟨he, hx6⟩; rw [HB2.out] at he; simp only [Bool.and_true, Bool.true_and, Bool.and_false, Bool.false_and, Bool.and_self, mustE] at he; subst he))
      have hE6 : Ext w4 w6 := hE5.trans (((Ext.refl _).alloc _).trans hx6)
      have HE6 := Lib.hid (HE4.out.trans hE6)
      clear hE5 hx6 d0 d1
      rename World => w6
      obtain ⟨⟨b0, -⟩, ⟨b1, -⟩, ⟨b2, -⟩⟩ := (⟨HC.out.1.ext HE6.out, HC.out.2.1.ext HE6.out, HC.out.2.2.1.ext HE6.out⟩ : _ ∧ _ ∧ _)
      clear hE6
      go_wp2_with fail
      clear b0 b1 b2
      go_loopw [80] (fun q wr => ∃ k : Nat, k ≤ s.fibers.length ∧ q = .int .i64 k ∧ Ext w6 wr ∧ ∀ i, i < k → callersB s i = true) (fun q _ => s.fibers.length - (intOf q).toNat)
      case atStart => exact ⟨0, Nat.zero_le _, rfl, Ext.refl _, fun i hi => absurd hi (Nat.not_lt_zero _)⟩
      case round =>
       obtain ⟨k, hk, rfl, hb, hall⟩ := hrel
       have HB := Lib.hid hb
       have HALL := Lib.hid hall
       clear hb hall
       by_cases hlt : k < s.fibers.length
       ·obtain ⟨bf, of, ag, cg, rfl, x0, x1, _⟩ := (Fibers.stays (Ext.stays (HE6.out.trans HB.out)) HF.out).at' hlt
        obtain ⟨m, hm⟩ : ∃ m, (s.fibers.getD k default).frames.length = m := ⟨_, rfl⟩
        rw [hm] at x0
        obtain ⟨clr, hclr⟩ : ∃ clr, (s.fibers.getD k default).caller = clr := ⟨_, rfl⟩
        rw [hclr] at x1
        have HM := Lib.hid hclr
        clear hm hclr
        go_upto_region 11 with fail
        have hE7 : Ext wr (wr.alloc (.cells #[.slice ag m cg, .int .i64 clr] 41)) := (Ext.refl _).alloc _
        have xb1 := (Cx.new wr [.slice ag m cg, .int .i64 clr] 41 (j := 1) rfl).1
        have HE7 := Lib.hid ((HE6.out.trans HB.out).trans hE7)
        have HX7 := Lib.hid hE7
        have b0 := (HC.out.1.ext HE7.out).1
        clear hE7 x0 x1
        generalize wr.alloc (.cells [.slice ag m cg, .int .i64 clr].toArray 41) = w7 at *
        go_still_tail 12, (by kernel_rfl)
        change wpList _ _ _ _ _ w7.drew
        have hE8 : Ext w7 w7.drew := (Ext.refl _).drew
        generalize w7.drew = w8 at *
        by_cases h6 : -1 ≤ clr ∧ clr ≤ (s.fibers.length : Int) - 1
        ·have T6 : Hid ((decide (-1 ≤ clr) && decide (clr < (s.fibers.length : Int))) = true) := by
          unfold Hid
          rw [decide_eq_true h6.1, decide_eq_true (show clr < (s.fibers.length : Int) by omega)]
          rfl
         have HO : Hid (callersB s k = true) := by unfold Hid callersB; rw [HM.out]; exact decide_eq_true h6
         clear h6
         go_wp2_with (first
          | (go_at_call 67; refine (must2 _ _ _ _ _ ).mono ?_; rintro e w9 ⟨he, hx9⟩; rw [T6.out] at he; simp only [Bool.and_true, Bool.true_and, Bool.and_false, Bool.false_and, Bool.and_self, mustE] at he; subst he))
         go_roundw
         case rel => exact ⟨k + 1, by omega, by go_num, HB.out.trans (HX7.out.trans (hE8.trans (((Ext.refl _).alloc _).trans hx9))), fun i hi => by
          by_cases e : i = k
          ·rw [e]; exact HO.out
          ·exact HALL.out i (by omega)⟩
         case measure => simp [intOf]; omega
        ·have T6 : Hid ((decide (-1 ≤ clr) && decide (clr < (s.fibers.length : Int))) = false) := by
          unfold Hid
          by_cases h : -1 ≤ clr
          ·rw [decide_eq_false (show ¬ clr < (s.fibers.length : Int) by omega), Bool.and_false]
          ·rw [decide_eq_false h]; rfl
         have HRR : Hid (r = 3) := by unfold Hid; rw [HR4.out, if_pos (allK_false hlt (by unfold callersB; rw [HM.out]; exact decide_eq_false h6))]
         clear h6
         go_wp2_with (first
          | (go_at_call 67; refine (must2 _ _ _ _ _ ).mono ?_; rintro e w9 ⟨he, hx9⟩; rw [T6.out] at he; simp only [Bool.and_true, Bool.true_and, Bool.and_false, Bool.false_and, Bool.and_self, mustE] at he; subst he))
         exact ⟨rfl, by rw [HRR.out]; rfl, Chg.of_ext ((HE7.out.trans hE8).trans (((Ext.refl _).alloc _).trans hx9))⟩
       ·obtain rfl : k = s.fibers.length := by omega
        have HR5 : Hid (r = lineErr p s) := by unfold Hid; rw [HR4.out, allK_true HALL.out, if_neg (by decide)]
        have HCS : Hid (Callers s) := ⟨HNOW.out, fun k hk => of_decide_eq_true (HALL.out k hk), by omega⟩
        have HE7 := Lib.hid (HE6.out.trans HB.out)
        clear HE6 HR4 HALL hlt
        rename World => w7
        obtain ⟨⟨b0, -⟩, ⟨b1, -⟩, ⟨b2, -⟩⟩ := (⟨HC.out.1.ext HE7.out, HC.out.2.1.ext HE7.out, HC.out.2.2.1.ext HE7.out⟩ : _ ∧ _ ∧ _)
        cases hl : lineS s with
        | none =>
         have HL := Lib.hid hl
         have HRR : Hid (r = 1) := by unfold Hid; rw [HR5.out]; unfold lineErr; rw [hl]
         clear hl
         go_wp2_with (first
          | (go_at_call 68; (with_reducible refine (line_any s _ _ _ (StateV.stays (Ext.stays HE7.out) HSV.out) HCS.out).mono ?_); rintro e w8 ⟨hlr, hx8⟩; unfold LineRetS at hlr; rw [HL.out] at hlr; obtain rfl := hlr)
          | (go_at_call 67; refine (must2 _ _ _ _ _ ).mono ?_; rintro e w9 ⟨he, hx9⟩; simp only [Bool.and_true, Bool.true_and, Bool.and_false, Bool.false_and, Bool.and_self, mustE] at he; subst he))
         exact ⟨rfl, by rw [HRR.out]; rfl, Chg.of_ext (HE7.out.trans (hx8.trans (((Ext.refl _).alloc _).trans hx9)))⟩
        | some l =>
         have HL := Lib.hid hl
         have HR6 : Hid (r = if lineEnd l = false then 1 else if s.now = -1 ∧ 0 < (s.fibers.getD 0 default).frames.length then 1 else if allK s.fibers.length (fibK p s l) = false then 1 else 0) := by unfold Hid; rw [HR5.out]; unfold lineErr; rw [hl]
         clear hl HR5
         have HJB7 : Hid (jb < w7.heap.size) := (HC.out.1.ext HE7.out).lt
         go_upto_region 14 with (first
          | (go_at_call 68; (with_reducible refine (line_any s _ _ _ (StateV.stays (Ext.stays HE7.out) HSV.out) HCS.out).mono ?_); rintro e w8 ⟨hlr, hx8⟩; unfold LineRetS at hlr; rw [HL.out] at hlr; obtain ⟨al, cl, rfl, hline⟩ := hlr))
         have HE8 := Lib.hid (HE7.out.trans hx8)
         have HLINE := Lib.hid hline
         have hal := hline
         clear HE7 hx8 hline b0 b1 b2
         rename World => w8
         have HR7 : Hid (r = if lineEnd l = false then 1 else if allK s.fibers.length (fibK p s l) = false then 1 else 0) := by unfold Hid; rw [HR6.out]; exact lineErr_eq HL.out hpos
         clear HR6
         go_cut [121] (fun _ wx => Ext w8 wx ∧ lineEnd l = true)
         case first =>
          by_cases h1 : l.length = 0
          ·have T1 : ((l.length : Int) == 0) = true := by simp [h1]
           have HEN : Hid (lineEnd l = true) := by unfold Hid lineEnd; rw [decide_eq_true h1]; rfl
           clear h1
           go_wp2_with (first
            | (go_at_call 67; refine (must2 _ _ _ _ _ ).mono ?_; rintro e w9 ⟨he, hx9⟩; simp only [Bool.and_true, Bool.true_and, Bool.and_false, Bool.false_and, Bool.and_self, mustE] at he; subst he))
           go_meet
           exact ⟨((Ext.refl _).alloc _).trans hx9, HEN.out⟩
          ·obtain ⟨j, hj⟩ : ∃ j, l.length = j + 1 := ⟨l.length - 1, by omega⟩
           have hl24 : l.length ≤ 140737488355328 := by obtain ⟨_, _, _, _, h, _⟩ := hal; omega
           have T1 : ((l.length : Int) == 0) = false := beq_eq_false_iff_ne.2 (by omega)
           have KK : IntKind.i64.wrap ((l.length : Int) - 1) = (j : Int) := by rw [IntWalk.i64_in _ (by omega)]; omega
           have hjl : j < l.length := by omega
           obtain ⟨g, o, rfl, l0⟩ := Ints.at' hal hjl
           obtain ⟨u, hu⟩ : ∃ u, l.getD j 0 = u := ⟨_, rfl⟩
           rw [hu] at l0
           have HEN : Hid (lineEnd l = (u == 0)) := by
            unfold Hid lineEnd
            rw [decide_eq_false h1, show l.length - 1 = j by omega, hu, Bool.false_or, Bool.eq_iff_iff]
            simp
           clear h1 hj hu hal
           by_cases hu0 : u = 0
           ·have T2 : (u == 0) = true := by simp [hu0]
            have HEN2 : Hid (lineEnd l = true) := by unfold Hid; rw [HEN.out, T2]
            clear hu0
            go_wp2_with (first
             | (go_at_call 67; refine (must2 _ _ _ _ _ ).mono ?_; rintro e w9 ⟨he, hx9⟩; simp only [Bool.and_true, Bool.true_and, Bool.and_false, Bool.false_and, Bool.and_self, mustE] at he; subst he))
            go_meet
            exact ⟨((Ext.refl _).alloc _).trans hx9, HEN2.out⟩
           ·have T2 : (u == 0) = false := beq_eq_false_iff_ne.2 hu0
            have HRR : Hid (r = 1) := by unfold Hid; rw [HR7.out, if_pos (by rw [HEN.out, T2])]
            clear hu0
            go_wp2_with (first
             | (go_at_call 67; refine (must2 _ _ _ _ _ ).mono ?_; rintro e w9 ⟨he, hx9⟩; simp only [Bool.and_true, Bool.true_and, Bool.and_false, Bool.false_and, Bool.and_self, mustE] at he; subst he))
            exact ⟨rfl, by rw [HRR.out]; rfl, Chg.of_ext (HE8.out.trans (((Ext.refl _).alloc _).trans hx9))⟩
         case rest =>
          obtain ⟨hx9, hle⟩ := hcut
          have HR8 : Hid (r = if allK s.fibers.length (fibK p s l) = false then 1 else 0) := by unfold Hid; rw [HR7.out, if_neg (by rw [hle]; decide)]
          have HE9 := Lib.hid (HE8.out.trans hx9)
          have HLN9 := Lib.hid (Ints.stays (Ext.stays hx9) HLINE.out)
          clear hx9 hle hal HR7 HE8 HLINE
          rename World => w9
          obtain ⟨c5, c5'⟩ := HC.out.2.2.2.2.2.ext HE9.out
          obtain ⟨c3, c3'⟩ := HC.out.2.2.2.1.ext HE9.out
          have hjb := c5
          have HJB : Hid (jb < w9.heap.size) := lt_of_cell c5
          have hlk : LK w9 (w9.setCell ⟨jb, 5, none⟩ (.slice al l.length cl)) jb p (.slice af s.fibers.length cf) (.slice ap p.length cp) (.slice al l.length cl) s.now 0 := by
           have o := fun j u (hj : j ≠ 5) (hu : Cx w9 jb j u) => hu.other (b' := jb) (j' := 5) (.inr hj) (.slice al l.length cl)
           exact ⟨chg_one _ _ _ _, o _ _ (by decide) (HC.out.1.ext HE9.out), o _ _ (by decide) (HC.out.2.1.ext HE9.out), o _ _ (by decide) (HC.out.2.2.2.1.ext HE9.out), (HC.out.2.2.2.2.2.ext HE9.out).set _, .slice none 0 0, [], o _ _ (by decide) (HC.out.2.2.2.2.1.ext HE9.out), HRow.nil _ _, rfl⟩
          have HLK := Lib.hid hlk
          clear hlk hjb
          go_upto_region 16 with fail
          generalize w9.setCell ⟨jb, 5, none⟩ (.slice al l.length cl) = w10 at *
          obtain ⟨d3, -⟩ := HLK.out.c3
          clear c5 c5' c3 c3'
          go_wp2_with fail
          have HPOS := Lib.hid hpos
          have hlen5 := (progErr_zero HZ.out).most
          obtain ⟨o0, ho0, hoz0, hoz1, hoz2⟩ := info_parts infoS
          go_loopw [131] (fun q wr => ∃ k : Nat, k ≤ p.length ∧ q = .int .i64 k ∧ LK w9 wr jb p (.slice af s.fibers.length cf) (.slice ap p.length cp) (.slice al l.length cl) s.now k) (fun q _ => p.length - (intOf q).toNat)
          case atStart => exact ⟨0, Nat.zero_le _, rfl, HLK.out⟩
          case round =>
           obtain ⟨k, hk, rfl, hlk⟩ := hrel
           have HLK2 := Lib.hid hlk
           have HPR := Lib.hid (Funcs.stays (hlk.chg.stays hS) (Funcs.stays (Ext.stays HE9.out) HP.out))
           clear hlk HLK d3
           by_cases hlt : k < p.length
           ·obtain ⟨d3, -⟩ := HLK2.out.c3
            obtain ⟨v, hs, hc4, hrow, hmm⟩ := HLK2.out.hts
            have hsl : hs.length ≤ 5 := by have := congrArg List.length hmm; simp at this; omega
            obtain ⟨ar, capr, rfl, _, _⟩ := hrow.row.shape
            have HC4 := Lib.hid hc4
            have HROW := Lib.hid hrow
            have HMM := Lib.hid hmm
            have HJBR : Hid (w9.heap.size ≤ wr.heap.size) := HLK2.out.chg.size
            clear hc4 hrow hmm
            go_wp2_with (first
             | (go_at_call 58; (with_reducible refine (flowOf_right p _ S k _ HPR.out HZ.out hlt).mono ?_); rintro e w11 ⟨⟨a3, n3, rfl, hi3⟩, hx11⟩; have HX11 := Lib.hid hx11; have HI3 := Lib.hid hi3; obtain ⟨d4, d4'⟩ := HC4.out.ext hx11; clear hx11 hi3; have HSZ : Hid ((w11.alloc (.cells #[.slice a3 (hgt p k).length n3] 24)).heap.size = w11.heap.size + 1) := Array.size_push _)
             | (at_builtin; refine wpList_append_row rfl _ _ 92 rfl w9.heap.size 24 o0 (.slice none 0 0) 1 24 Tryz.underlying92 ho0 hoz0 hoz1 hoz2 rfl (by decide) _ _ _ rfl (by exact HROW.out.row.ext (HX11.out.trans ((Ext.refl _).alloc _)) (by decide)) 1 [.slice a3 (hgt p k).length n3] (src_slice _ _ _ _ _) (by unfold maxLen; omega) (by omega) (by rw [HSZ.out]; exact Nat.le_succ_of_le (Nat.le_trans HJBR.out HX11.out.size)) ?_; intro v1 Wv1 rv1; obtain ⟨a1, cap1, rfl, _, _⟩ := rv1.1.shape; have HG := Lib.hid (HLK2.out.grow HJB.out (HX11.out.trans ((Ext.refl _).alloc (.cells #[.slice a3 (hgt p k).length n3] 24))) HC4.out HROW.out HMM.out (y := (.slice a3 (hgt p k).length n3, hgt p k)) rv1 ⟨⟨_, _, _, rfl⟩, Ints.stays (fun b o u hS' hu => ⟨Ext.cell ((Ext.refl _).alloc _) hu, Nat.le_trans HJBR.out hS', fun e => by have h1 := HROW.out.row.lt' (by decide) b e; have h2 : wr.heap.size ≤ b := hS'; omega⟩) HI3.out⟩ rfl); obtain ⟨k20, k21⟩ := HG.out.2))
            go_roundw
            case rel => exact ⟨k + 1, by omega, by go_num, HG.out.1⟩
            case measure => simp [intOf]; omega
           ·obtain rfl : k = p.length := by omega
            clear hlt
            have HJD : Hid (Judge wr jb p s l) := HLK2.out.judge (by omega) (Fibers.stays (HLK2.out.chg.stays hS) (Fibers.stays (Ext.stays HE9.out) HF.out)) HPR.out (Ints.stays (HLK2.out.chg.stays (fun b hb e => by have e2 : b = jb := e; have hb2 := hb; have := HJB7.out; omega)) HLN9.out)
            have HCH : Hid (Chg (· = jb) w wr) := (Chg.of_ext HE9.out).trans HLK2.out.chg
            obtain ⟨d0, -⟩ := HLK2.out.c0
            have HHAS := Lib.hid (line_now HL.out)
            clear HLK2 HPR
            rename World => w12
            go_wp2_with fail
            clear d0
            go_loopw [160] (fun q wr => ∃ k : Nat, k ≤ s.fibers.length ∧ q = .int .i64 k ∧ Ext w12 wr ∧ ∀ i, i < k → fibK p s l i = true) (fun q _ => s.fibers.length - (intOf q).toNat)
            case atStart => exact ⟨0, Nat.zero_le _, rfl, Ext.refl _, fun i hi => absurd hi (Nat.not_lt_zero _)⟩
            case round =>
             obtain ⟨k, hk, rfl, hb, hall⟩ := hrel
             have HB := Lib.hid hb
             have HALL := Lib.hid hall
             clear hb hall
             by_cases hlt : k < s.fibers.length
             ·have HEQ := Lib.hid (jfiber_eq (p := p) (s := s) (line := l) (n := k) (HHAS.out k))
              cases hok : fibK p s l k with
              | true =>
               have HOK := Lib.hid hok
               clear hok
               go_wp2_with (first
                | (go_at_call 69; (with_reducible refine (jfiber_any p s l jb k _ (HJD.out.ext HB.out) HZ.out hlt).mono ?_); rintro e w13 ⟨he, hx13⟩; rw [HEQ.out, HOK.out] at he; simp only [mustE] at he; subst he))
               go_roundw
               case rel => exact ⟨k + 1, by omega, by go_num, HB.out.trans hx13, fun i hi => by
                by_cases e : i = k
                ·rw [e]; exact HOK.out
                ·exact HALL.out i (by omega)⟩
               case measure => simp [intOf]; omega
              | false =>
               have HOK := Lib.hid hok
               have HRR : Hid (r = 1) := by unfold Hid; rw [HR8.out, if_pos (allK_false hlt hok)]
               clear hok
               go_wp2_with (first
                | (go_at_call 69; (with_reducible refine (jfiber_any p s l jb k _ (HJD.out.ext HB.out) HZ.out hlt).mono ?_); rintro e w13 ⟨he, hx13⟩; rw [HEQ.out, HOK.out] at he; simp only [mustE] at he; subst he))
               exact ⟨rfl, by rw [HRR.out]; rfl, HCH.out.trans (Chg.of_ext (HB.out.trans hx13))⟩
             ·obtain rfl : k = s.fibers.length := by omega
              have HRR : Hid (r = 0) := by unfold Hid; rw [HR8.out, allK_true HALL.out, if_neg (by decide)]
              clear hlt
              go_wp2_with fail
              go_end0
              exact ⟨by rw [HRR.out]; rfl, HCH.out.trans (Chg.of_ext HB.out)⟩
     ·have HRR : Hid (r = 3) := by unfold Hid; rw [HR3.out, if_neg h0, if_pos hn]
      have HB2 : Hid ((decide (-1 ≤ s.now) && decide (s.now < (s.fibers.length : Int))) = false) := by
       unfold Hid
       by_cases h : -1 ≤ s.now
       ·rw [decide_eq_false (show ¬ s.now < (s.fibers.length : Int) by omega), Bool.and_false]
       ·rw [decide_eq_false h]; rfl
      clear h0 hn HR3
      go_wp2_with (first
       | (go_at_call 67; refine (must2 _ _ _ _ _ ).mono ?_; rintro e w9 ⟨he, hx9⟩; rw [HB2.out] at he; simp only [Bool.and_true, Bool.true_and, Bool.and_false, Bool.false_and, Bool.and_self, mustE] at he; subst he))
      exact ⟨rfl, by rw [HRR.out]; rfl, Chg.of_ext ((HE4.out.trans hE5).trans (((Ext.refl _).alloc _).trans hx9))⟩
end Go.Proofs.YtgahbngbpfilgaaGreat
end
