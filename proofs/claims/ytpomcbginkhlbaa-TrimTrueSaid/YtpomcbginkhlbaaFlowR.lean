/- Contract of the document's heights. -/
import Derived.Test.YtpomcbginkhlbaaRowI
import Derived.Test.YtpomcbginkhlbaaOp3
set_option maxHeartbeats 4000000
set_option maxRecDepth 100000
namespace Go.Proofs.Ytpomcbginkhlbaa
open Go Go.RowKit

/-- What heights hands back. -/
def HtsRet (B : Nat) (r : Option (List Int)) (e : Ending) (w' : World) : Prop := match r with
  | none => e = .returned (.tuple #[.slice none 0 0, .bool false])
  | some l => ∃ v, e = .returned (.tuple #[v, .bool true]) ∧ Ints w' (B ≤ ·) v l

def fillL (N k : Nat) : List Int := List.replicate k (-1) ++ List.replicate (N - k) 0
theorem fillL_len {N k : Nat} (h : k ≤ N) : (fillL N k).length = N := by simp [fillL]; omega
theorem fillL_set {N k : Nat} (h : k < N) : (fillL N k).set k (-1) = fillL N (k + 1) := by
  unfold fillL
  rw [List.set_append_right _ _ (by simp), List.length_replicate, Nat.sub_self, show N - k = (N - (k + 1)) + 1 by omega, List.replicate_succ, List.set_cons_zero, List.replicate_succ', List.append_assoc]
  rfl
theorem fillL_full (N : Nat) : fillL N N = List.replicate N (-1) := by simp [fillL]


/-- Heights as they may be. -/
def Hgt (N : Nat) (out : List Int) : Prop := out.length = N ∧ ∀ x ∈ out, -1 ≤ x ∧ x ≤ 8
theorem Hgt.get {N : Nat} {out : List Int} (h : Hgt N out) {k : Nat} (hk : k < N) : -1 ≤ out.getD k 0 ∧ out.getD k 0 ≤ 8 := by
  have hk' : k < out.length := by rw [h.1]; exact hk
  have e : out.getD k 0 = out[k] := by simp [List.getD, List.getElem?_eq_getElem hk']
  rw [e]
  exact h.2 _ (List.getElem_mem hk')
theorem Hgt.set {N : Nat} {out : List Int} (h : Hgt N out) (k : Nat) {n : Int} (hn : -1 ≤ n ∧ n ≤ 8) : Hgt N (out.set k n) := by
  refine ⟨by rw [List.length_set]; exact h.1, fun x hx => ?_⟩
  rcases List.mem_or_eq_of_mem_set hx with h' | rfl
  · exact h.2 x h'
  · exact hn
theorem Hgt.i64 {N : Nat} {out : List Int} (h : Hgt N out) : ∀ x ∈ out, I64 x := fun x hx => by have := h.2 x hx; unfold I64; omega
theorem Hgt.out0 (N : Nat) : Hgt N (out0 N) := by
  unfold Hgt Proofs.Ytpomcbginkhlbaa.out0
  refine ⟨by simp, fun x hx => ?_⟩
  rcases List.mem_or_eq_of_mem_set hx with h' | rfl
  · rw [List.eq_of_mem_replicate h']; omega
  · omega

/-- Behind a test: the list of ways on. -/
structure NxtR (w wx : World) (B : Nat) (o2 : List Int) (x : GOp) (v : Value) (is : List Nat) : Prop where
  ext : Ext w wx
  out : IRow wx w.heap.size w.heap.size o2
  row : RowAt wx B 1 v is.length (ints (nats is))
  kind : wx.cell? ⟨B, 0, none⟩ = some (.int .i64 x.kind)

theorem heights_any (p : List GFunc) (v : Value) (S : Nat → Prop) (n : Nat) (w : World) (hp : Funcs w S v p) (hn : n < p.length) (hR : RightF p p[n]) :
    Calls Try.prog 42 #[v, .int .i64 n] w fun e w' => HtsRet w.heap.size (htsR p p[n].code) e w' ∧ Ext w w' := by
  have hp0 := hp
  obtain ⟨b, o, cap, rfl, hcap, hby, _, _, vc, hC, hcode⟩ := hp.get hn
  have hcode0 := hcode
  obtain ⟨ca, ccap, rfl, hcc, hcby, hops⟩ := hcode
  have RA := alloc_keep
  have hlen := hR.len
  obtain ⟨i0, hi0, hz0, hz1, hz2⟩ := info_parts infoI
  generalize hF : p[n] = F at *
  obtain ⟨A, L, C⟩ := F
  simp only at *
  have HP := Lib.hid hp0
  have HO := Lib.hid hops
  have HR := Lib.hid hR
  clear hF hp hp0 hops hcode0 hR
  by_cases hN : C.length = 0
  · obtain rfl : C = [] := List.eq_nil_of_length_eq_zero hN
    have hres : htsR p [] = none := rfl
    rw [hres]
    go_enter Try.func42, Try.ntmps42
    go_wp2_with (first
      | (at_make; refine wpList_make_full _ rfl _ _ 37 rfl w.heap.size 3 i0 (.int .i64 0) 1 Try.underlying37 hi0 hz0 hz1 .i64 .i64 _ _ 0 rfl rfl rfl rfl (by rw [hz2]; omega) (by unfold maxLen; omega) (Nat.le_refl _) ?_; intro w1 hown1 hgr1))
    have hE := ext_none hgr1
    clear hown1 hgr1
    go_loopw [8] (fun i wr => i = .int .i64 0 ∧ Ext w wr) (fun i _ => 0)
    case atStart => exact ⟨rfl, hE⟩
    case round =>
      obtain ⟨rfl, hbr⟩ := hrel
      have HB := Lib.hid hbr
      clear hbr hE
      go_wp2_with fail
      go_ret2
      exact ⟨rfl, HB.out⟩
  · have hN' : 0 < C.length := by omega
    have TN : ((C.length : Int) == 0) = false := beq_eq_false_iff_ne.2 (by omega)
    clear hN
    obtain ⟨R, hRR⟩ : ∃ R, htsR p C = R := ⟨_, rfl⟩
    rw [hRR]
    have HRR := Lib.hid hRR
    clear hRR
    go_enter Try.func42, Try.ntmps42
    go_wp2_with (first
      | (at_make; refine wpList_make_full _ rfl _ _ 37 rfl w.heap.size 3 i0 (.int .i64 0) 1 Try.underlying37 hi0 hz0 hz1 .i64 .i64 _ _ C.length rfl rfl rfl rfl (by rw [hz2]; omega) (by unfold maxLen; omega) (Nat.le_refl _) ?_; intro w1 hown1 hgr1))
    have hE := ext_none hgr1
    have hrow : IRow w1 w.heap.size w.heap.size (fillL C.length 0) := by
      have := RowAt.of_own hown1
      unfold IRow
      rw [fillL_len (Nat.zero_le _)]
      have e : ints (fillL C.length 0) = (madeCells (Value.int IntKind.i64 0).cells (C.length * 1)).toList := by
        rw [show (Value.int IntKind.i64 0).cells = #[.int .i64 0] from rfl, toList_madeCells_one, Nat.mul_one]
        simp [ints, fillL]
      rw [e]
      exact this
    clear hown1 hgr1
    go_loopw [8] (fun i wr => ∃ k : Nat, k ≤ C.length ∧ i = .int .i64 k ∧ Ext w wr ∧ IRow wr w.heap.size w.heap.size (fillL C.length k)) (fun i _ => C.length - (intOf i).toNat)
    case atStart => exact ⟨0, Nat.zero_le _, rfl, hE, hrow⟩
    case round =>
      obtain ⟨k, hk, rfl, hbr, hrw⟩ := hrel
      have HB := Lib.hid hbr
      have HW := Lib.hid hrw
      clear hbr hrw hE hrow
      by_cases hlt : k < C.length
      · obtain ⟨c0, f0, _⟩ := HW.out.at (k := k) (by rw [fillL_len hk]; exact hlt)
        go_wp2_with fail
        go_roundw
        case rel => exact ⟨k + 1, by omega, by go_num, HB.out.setCell (Nat.le_refl _) _, by
          have := HW.out.store (k := k) (by rw [fillL_len hk]; exact hlt) (-1)
          rwa [fillL_set hlt] at this⟩
        case measure => simp [intOf]; omega
      · obtain rfl : k = C.length := by omega
        rw [fillL_full] at HW
        obtain ⟨c0, f0, _⟩ := HW.out.at (k := 0) (by simpa using hN')
        clear hlt hk
        go_wp2_with fail
        have hE2 := HB.out.setCell (p := ⟨w.heap.size, 0, none⟩) (Nat.le_refl _) (.int .i64 0)
        have hr2 := HW.out.store (k := 0) (by simpa using hN') 0
        generalize wr.setCell ⟨w.heap.size, 0, none⟩ (.int .i64 0) = w2 at *
        clear HB HW c0 f0
        have HF : Hid (rounds p C (C.length + 1) (out0 C.length) = htsR p C) := by
          unfold Hid htsR
          rw [if_neg (fun h => by rw [h] at hN'; exact absurd hN' (by simp))]
        rw [HRR.out] at HF
        go_loopw [9] (fun r wr => ∃ k : Nat, k ≤ C.length + 1 ∧ r = .int .i64 k ∧ ∃ out, Hgt C.length out ∧ Ext w wr ∧ IRow wr w.heap.size w.heap.size out ∧ rounds p C (C.length + 1 - k) out = R) (fun r _ => C.length + 1 - (intOf r).toNat)
        case atStart => exact ⟨0, Nat.zero_le _, rfl, _, Hgt.out0 _, hE2, hr2, HF.out⟩
        case round =>
          obtain ⟨k, hk, rfl, out, hgt, hbr, hrw, hres⟩ := hrel
          have HG := Lib.hid hgt
          have HB := Lib.hid hbr
          have HW := Lib.hid hrw
          have HX := Lib.hid hres
          clear hgt hbr hrw hres hE2 hr2 HF
          by_cases hlt : k < C.length + 1
          · rename World => wr1
            have HY : Hid ((match oneFrom p C 0 out with | none => none | some o => rounds p C (C.length - k) o) = R) := by
              have := HX.out
              rw [show C.length + 1 - k = (C.length - k) + 1 by omega] at this
              rw [← oneFrom_zero]
              exact this
            have hle : k ≤ C.length := by omega
            have TLE : decide (k ≤ C.length) = true := by simp; omega
            go_wp2_with fail
            go_loopw [10] (fun j wr => ∃ i : Nat, i ≤ C.length ∧ j = .int .i64 i ∧ ∃ o2, Hgt C.length o2 ∧ Ext w wr ∧ IRow wr w.heap.size w.heap.size o2 ∧ oneFrom p C i o2 = oneFrom p C 0 out) (fun j _ => C.length - (intOf j).toNat)
            case atStart => exact ⟨0, Nat.zero_le _, rfl, _, HG.out, HB.out, HW.out, rfl⟩
            case round =>
              obtain ⟨i, hi, rfl, o2, hgt2, hbr2, hrw2, hres2⟩ := hrel
              have HG2 := Lib.hid hgt2
              have HB2 := Lib.hid hbr2
              have HW2 := Lib.hid hrw2
              have HX2 := Lib.hid hres2
              clear hgt2 hbr2 hrw2 hres2 HB HW HG HX
              by_cases hil : i < C.length
              · obtain ⟨c0, f0, _⟩ := HW2.out.at (k := i) (by rw [HG2.out.1]; exact hil)
                obtain ⟨hh, hhd⟩ : ∃ x, o2.getD i 0 = x := ⟨_, rfl⟩
                rw [hhd] at c0
                have HH := Lib.hid hhd
                clear hhd
                by_cases h0 : hh < 0
                · go_wp2_with fail
                  go_roundw
                  case rel => exact ⟨i + 1, by omega, by go_num, o2, HG2.out, HB2.out, HW2.out, by rw [← HX2.out, oneFrom_step p C o2 hil, one1_neg (by rw [HH.out]; exact h0)]⟩
                  case measure => simp [intOf]; omega
                · obtain ⟨cb, co, rfl, ⟨_, x0, _⟩, _, x1, _⟩ := HO.out i hil
                  have hxop := HR.out.op _ (List.getElem_mem hil)
                  have hg8 := HG2.out.get hil
                  rw [HH.out] at hg8
                  have HBAD := Lib.hid (one1_bad (p := p) (code := C) (out := o2) hil (by rw [HH.out]; exact h0))
                  have HPUTY := Lib.hid (one1_put (p := p) (code := C) (out := o2) hil (by rw [HH.out]; exact h0))
                  have HLEX := Lib.hid (nx_le (code := C) HR.out.jumps hil)
                  rw [HH.out] at HBAD HPUTY
                  rw [getD_eq hil] at HLEX
                  generalize C[i] = x at *
                  obtain ⟨k0, k1, a0, aj, ac, tk0, tk1⟩ := hxop
                  have HA : Hid (x.kind = 11 → 0 ≤ x.a ∧ x.a < p.length) := fun h => ⟨a0, ac h⟩
                  have lv0 := leavesOf_nonneg x
                  have lv1 : leavesOf x ≤ 1 := by unfold leavesOf; split <;> omega
                  have HNONE : Hid (one1 p C i o2 = none → R = none) := fun h => by
                    have := HY.out
                    rw [← HX2.out, oneFrom_step p C o2 hil, h] at this
                    exact this.symm
                  have HSOME : Hid (∀ o3, one1 p C i o2 = some o3 → oneFrom p C (i + 1) o3 = oneFrom p C 0 out) := fun o3 h => by
                    rw [← HX2.out, oneFrom_step p C o2 hil, h]
                  have HQ0 : Hid (Ext w (wr.alloc (.cells #[.int .i64 x.kind, .int .i64 x.a] 58))) := HB2.out.alloc _
                  have hsz0 := HB2.out.size
                  have hsz7 := lt_of_cell c0
                  have y0 := Ext.cell HB2.out x0
                  have y1 := Ext.cell HB2.out x1
                  clear aj ac
                  go_wp2_with fail
                  by_cases hb1 : hh < takesOf p x
                  · have hn := HNONE.out (HBAD.out (by unfold badB; simp [hb1]))
                    clear HNONE HSOME HY HRR HX2 HPUTY HBAD
                    subst hn
                    refine wp_region_ext (by kernel_rfl) (by kernel_rfl) ?_
                    repeat (first
                      | go_big_quiet_skip
                      | (go_big_quiet_want
                         unfold Oper.quiet
                         apply Exists.intro
                         refine ⟨fun w' hw' => ?_, ?_⟩
                         focus
                           have hcq := Ext.keep hw'
                           go_simp
                           first
                             | with_reducible rfl
                             | ((go_at_call 63; refine (takes_any p _ S x _ (Funcs.stays (Ext.stays (HQ0.out.trans hw')) HP.out) k0 k1 HA.out).mono ?_; rintro e w1 ⟨rfl, hb⟩; exact ⟨rfl, hw'.trans hb⟩))
                         (try dsimp only [Act.put])
                         (try simp only [List.setIfInBounds_toArray, List.set_cons_succ, List.set_cons_zero])
                         go_big_quiet_on))
                    refine wpQuiet_nil ?_
                    intro wq hq
                    go_wp2_with fail
                    go_ret2
                    exact ⟨rfl, HQ0.out.trans hq⟩
                  · have hb2 : takesOf p x ≤ hh := by omega
                    refine wp_region_ext (by kernel_rfl) (by kernel_rfl) ?_
                    repeat (first
                      | go_big_quiet_skip
                      | (go_big_quiet_want
                         unfold Oper.quiet
                         apply Exists.intro
                         refine ⟨fun w' hw' => ?_, ?_⟩
                         focus
                           have hcq := Ext.keep hw'
                           go_simp
                           first
                             | with_reducible rfl
                             | ((go_at_call 63; refine (takes_any p _ S x _ (Funcs.stays (Ext.stays (HQ0.out.trans hw')) HP.out) k0 k1 HA.out).mono ?_; rintro e w1 ⟨rfl, hb⟩; exact ⟨rfl, hw'.trans hb⟩))
                         (try dsimp only [Act.put])
                         (try simp only [List.setIfInBounds_toArray, List.set_cons_succ, List.set_cons_zero])
                         go_big_quiet_on))
                    refine wpQuiet_nil ?_
                    intro wq hq
                    have xk1 := Ext.cell hq (cell_alloc0 wr x.kind x.a 58)
                    have xa1 := Ext.cell hq (cell_alloc1 wr x.kind x.a 58)
                    have c1 := Ext.cell hq (Ext.cell ((Ext.refl wr).alloc (.cells #[.int .i64 x.kind, .int .i64 x.a] 58)) c0)
                    have HQ1 := Lib.hid (HQ0.out.trans hq)
                    have HQ4 := Lib.hid (((Ext.refl wr).alloc _).trans hq)
                    rename World => wq1
                    clear hq
                    obtain ⟨nn, hnn⟩ : ∃ nn, hh - takesOf p x + leavesOf x = nn := ⟨_, rfl⟩
                    have HW1 : Hid (IntKind.i64.wrap (hh - takesOf p x) = hh - takesOf p x) := IntWalk.i64_in _ (by omega)
                    have HW2' : Hid (IntKind.i64.wrap (hh - takesOf p x + leavesOf x) = nn) := by unfold Hid; rw [IntWalk.i64_in _ (by omega)]; exact hnn
                    have HNN := Lib.hid hnn
                    clear hnn
                    go_wp2_with fail
                    have hw1 := HW1.out
                    have hw2 := HW2'.out
                    refine wp_region_ext (by kernel_rfl) (by kernel_rfl) ?_
                    repeat (first
                      | go_big_quiet_skip
                      | (go_big_quiet_want
                         unfold Oper.quiet
                         apply Exists.intro
                         refine ⟨fun w' hw' => ?_, ?_⟩
                         focus
                           have hcq := Ext.keep hw'
                           go_simp
                           first
                             | with_reducible rfl
                             | ((go_at_call 63; refine (takes_any p _ S x _ (Funcs.stays (Ext.stays (HQ1.out.trans hw')) HP.out) k0 k1 HA.out).mono ?_; rintro e w1 ⟨rfl, hb⟩; exact ⟨rfl, hw'.trans hb⟩)) | ((go_at_call 64; refine (leaves_any x _ k0 k1).mono ?_; rintro e w1 ⟨rfl, hb⟩; exact ⟨rfl, hw'.trans hb⟩))
                         (try dsimp only [Act.put])
                         (try simp only [List.setIfInBounds_toArray, List.set_cons_succ, List.set_cons_zero])
                         go_big_quiet_on))
                    refine wpQuiet_nil ?_
                    intro wq hq
                    clear hw1 hw2 HW1 HW2'
                    have hnn := HNN.out
                    rename World => wq2
                    have HQ2 := Lib.hid (HQ1.out.trans hq)
                    have HQ3 := Lib.hid (HQ4.out.trans hq)
                    have xk := Ext.cell hq xk1
                    have xa := Ext.cell hq xa1
                    have hsz2 := HQ3.out.size
                    have HBB : Hid (badB p x hh = (decide (8 < nn) || (decide (x.kind = 12) && decide (0 < nn)))) := by
                      unfold Hid badB
                      rw [show nOf p x hh = nn from hnn, decide_eq_false (by omega : ¬ hh < takesOf p x), Bool.false_or]
                    have HPUTZ : Hid (badB p x hh = false → one1 p C i o2 = putAll C.length nn (nx x i) o2) := by
                      have := HPUTY.out
                      rwa [show nOf p x hh = nn from hnn] at this
                    have nn0 : 0 ≤ nn := by omega
                    clear hq xk1 xa1 c1 c0 hnn HPUTY hb1
                    by_cases hb3 : 8 < nn
                    · have hn := HNONE.out (HBAD.out (by rw [HBB.out]; simp [hb3]))
                      clear HNONE HSOME HY HRR HX2 HPUTZ HBAD HBB
                      subst hn
                      go_wp2_with fail
                      go_ret2
                      exact ⟨rfl, HQ2.out⟩
                    · have nn8 : nn ≤ 8 := by omega
                      by_cases hb4 : x.kind = 12 ∧ 0 < nn
                      · obtain ⟨hk, hp0⟩ := hb4
                        have T12 : (x.kind == 12) = true := by simp [hk]
                        have TZ : (nn != 0) = true := bne_iff_ne.2 (by omega)
                        have hn := HNONE.out (HBAD.out (by rw [HBB.out]; simp [hk, hp0]))
                        clear HNONE HSOME HY HRR HX2 HPUTZ HBAD HBB hk
                        subst hn
                        go_wp2_with fail
                        go_ret2
                        exact ⟨rfl, HQ2.out⟩
                      · have HPUTX := Lib.hid (HPUTZ.out (by
                          rw [HBB.out]
                          simp only [Bool.or_eq_false_iff, Bool.and_eq_false_iff, decide_eq_false_iff_not]
                          refine ⟨hb3, ?_⟩
                          by_cases hk : x.kind = 12
                          · right; exact fun h => hb4 ⟨hk, h⟩
                          · left; exact hk))
                        have HB12 : Hid (x.kind = 12 → ¬ 0 < nn) := fun hk h => hb4 ⟨hk, h⟩
                        have TN8 : decide (8 < nn) = false := by simp; omega
                        clear hb3 hb4 HBB HPUTZ HBAD
                        go_upto_region 21 with fail
                        go_cut [87] (fun v wx => v = .bool false ∧ wq2 = wx)
                        case first =>
                          clear HPUTX HLEX HNONE HSOME HY HRR HX2
                          by_cases hk : x.kind = 12
                          · have T12 : (x.kind == 12) = true := by simp [hk]
                            have TZ : (nn != 0) = false := by rw [bne_eq_false_iff_eq]; have := HB12.out hk; omega
                            clear hk
                            go_wp2_with fail
                            go_meet
                            exact ⟨rfl, rfl⟩
                          · have T12 : (x.kind == 12) = false := by simp [hk]
                            clear hk
                            go_wp2_with fail
                            go_meet
                            exact ⟨rfl, rfl⟩
                        case rest =>
                          obtain ⟨rfl, rfl⟩ := hcut
                          go_upto_region 24 with fail
                          go_cut [95] (fun v wx => v = .bool (decide (x.kind = 9 ∨ x.kind = 10)) ∧ wq2 = wx)
                          case first =>
                            clear HPUTX HLEX HNONE HSOME HY HRR HX2
                            by_cases hk : x.kind = 9
                            · have T9 : (x.kind == 9) = true := by simp [hk]
                              have TT : decide (x.kind = 9 ∨ x.kind = 10) = true := by simp [hk]
                              clear hk
                              go_wp2_with fail
                              go_meet
                              exact ⟨by rw [TT], rfl⟩
                            · have T9 : (x.kind == 9) = false := by simp [hk]
                              by_cases hk' : x.kind = 10
                              · have T10 : (x.kind == 10) = true := by simp [hk']
                                have TT : decide (x.kind = 9 ∨ x.kind = 10) = true := by simp [hk']
                                clear hk hk'
                                go_wp2_with fail
                                go_meet
                                exact ⟨by rw [TT], rfl⟩
                              · have T10 : (x.kind == 10) = false := by simp [hk']
                                have TT : decide (x.kind = 9 ∨ x.kind = 10) = false := by simp [hk, hk']
                                clear hk hk'
                                go_wp2_with fail
                                go_meet
                                exact ⟨by rw [TT], rfl⟩
                          case rest =>
                            obtain ⟨rfl, rfl⟩ := hcut
                            go_upto_if 95 with fail
                            go_cut [13] (fun v wx => NxtR w wx wr.heap.size o2 x v (if x.kind = 9 ∨ x.kind = 10 then [x.a.toNat] else []))
                            case first =>
                              clear HPUTX HLEX HNONE HSOME HY HRR HX2
                              by_cases hJ : x.kind = 9 ∨ x.kind = 10
                              · have TT : decide (x.kind = 9 ∨ x.kind = 10) = true := by simp [hJ]
                                have HJ := Lib.hid hJ
                                clear hJ
                                go_wp2_with (first
                                  | (at_builtin; refine wpList_append_row rfl _ _ 37 rfl wr.heap.size 3 i0 (.int .i64 0) 1 8 Try.underlying37 hi0 hz0 hz1 hz2 rfl (by decide) _ _ _ rfl (RowAt.nil _ wr.heap.size 1 none) _ _ (src_one _ _ _) (by unfold maxLen; omega) (by omega) (by simp; omega) ?_; intro v1 Wv1 rv1; replace rv1 : NewRow _ Wv1 wr.heap.size 1 (.slice none 0 0) v1 _ _ := rv1))
                                go_meet
                                rw [if_pos HJ.out]
                                have hl4 : RowAt Wv1 wr.heap.size 1 v1 1 (ints (nats [x.a.toNat])) := by have := rv1.1; rwa [show nats [x.a.toNat] = [x.a] by simp [nats]; omega]
                                exact ⟨ext_row (HQ2.out.alloc _) (RowAt.nil _ wr.heap.size 1 none) (by omega) rv1, IRow.chg ((HW2.out.ext HQ3.out).ext ((Ext.refl wq2).alloc _)) rv1.2.1 (by simp [rowBlock]), hl4, rv1.2.1.cell (b := wr.heap.size) (o := 0) (by simp [rowBlock]) (Ext.cell ((Ext.refl wq2).alloc _) xk)⟩
                              · have TT : decide (x.kind = 9 ∨ x.kind = 10) = false := by simp [hJ]
                                have HJ := Lib.hid hJ
                                clear hJ
                                go_wp2_with fail
                                go_meet
                                rw [if_neg HJ.out]
                                exact ⟨HQ2.out, HW2.out.ext HQ3.out, RowAt.nil _ _ _ _, xk⟩
                            case rest =>
                              obtain ⟨he5, hw5, hl5, hk5⟩ := hcut
                              have HE5 := Lib.hid he5
                              have HW5 := Lib.hid hw5
                              have HL5 := Lib.hid hl5
                              clear he5 hw5 hl5 xk xa hsz2 HQ3 HQ2 HQ1 HQ4 HB12 RA
                              rename World => w5
                              have hk5' := hk5
                              go_upto_region 26 with fail
                              go_cut [108] (fun v wx => v = .bool (decide (¬ (x.kind = 9 ∨ x.kind = 12))) ∧ w5 = wx)
                              case first =>
                                clear HPUTX HLEX HNONE HSOME HY HRR HX2
                                by_cases hk : x.kind = 9
                                · have T9 : (x.kind != 9) = false := by simp [hk]
                                  have TT : decide (¬ (x.kind = 9 ∨ x.kind = 12)) = false := by simp [hk]
                                  clear hk
                                  go_wp2_with fail
                                  go_meet
                                  exact ⟨by rw [TT], rfl⟩
                                · have T9 : (x.kind != 9) = true := by simp [hk]
                                  by_cases hk' : x.kind = 12
                                  · have T12 : (x.kind != 12) = false := by simp [hk']
                                    have TT : decide (¬ (x.kind = 9 ∨ x.kind = 12)) = false := by simp [hk']
                                    clear hk hk'
                                    go_wp2_with fail
                                    go_meet
                                    exact ⟨by rw [TT], rfl⟩
                                  · have T12 : (x.kind != 12) = true := by simp [hk']
                                    have TT : decide (¬ (x.kind = 9 ∨ x.kind = 12)) = true := by simp [hk, hk']
                                    clear hk hk'
                                    go_wp2_with fail
                                    go_meet
                                    exact ⟨by rw [TT], rfl⟩
                              case rest =>
                                obtain ⟨rfl, rfl⟩ := hcut
                                go_upto_if 108 with fail
                                go_cut [13] (fun v wx => Ext w wx ∧ IRow wx w.heap.size w.heap.size o2 ∧ RowAt wx wr.heap.size 1 v (nx x i).length (ints (nats (nx x i))))
                                case first =>
                                  obtain ⟨L5, hL5⟩ : ∃ L5, (if x.kind = 9 ∨ x.kind = 10 then [x.a.toNat] else []) = L5 := ⟨_, rfl⟩
                                  rw [hL5] at HL5
                                  have HNX : Hid (nx x i = L5 ++ if x.kind = 9 ∨ x.kind = 12 then [] else [i + 1]) := by unfold Hid nx; rw [hL5]
                                  have hlen5 : L5.length ≤ 1 := by rw [← hL5]; split <;> simp
                                  clear hL5
                                  obtain ⟨a13, cap13, rfl, hs1, hs2⟩ := HL5.out.shape
                                  have hsz5 := HE5.out.size
                                  have hsz6 := lt_of_cell hk5
                                  clear HPUTX HLEX HNONE HSOME HY HRR HX2
                                  by_cases hJ : x.kind = 9 ∨ x.kind = 12
                                  · have TT : decide (¬ (x.kind = 9 ∨ x.kind = 12)) = false := by simp [hJ]
                                    have HJ := Lib.hid hJ
                                    clear hJ
                                    go_wp2_with fail
                                    go_meet
                                    rw [HNX.out, if_pos HJ.out, List.append_nil]
                                    exact ⟨HE5.out, HW5.out, HL5.out⟩
                                  · have TT : decide (¬ (x.kind = 9 ∨ x.kind = 12)) = true := by simp [hJ]
                                    have HJ := Lib.hid hJ
                                    clear hJ
                                    go_wp2_with (first
                                      | (at_builtin; refine wpList_append_row rfl _ _ 37 rfl wr.heap.size 3 i0 (.int .i64 0) 1 8 Try.underlying37 hi0 hz0 hz1 hz2 rfl (by decide) _ _ _ rfl (RowAt.ext HL5.out ((Ext.refl w5).alloc _) (by decide)) _ _ (src_one _ _ _) (by unfold maxLen; omega) (by omega) (by simp; omega) ?_; intro v2 Wv2 rv2))
                                    go_meet
                                    rw [HNX.out, if_neg HJ.out]
                                    have hl4 : RowAt Wv2 wr.heap.size 1 v2 (L5 ++ [i + 1]).length (ints (nats (L5 ++ [i + 1]))) := by
                                      have := rv2.1
                                      rwa [show nats (L5 ++ [i + 1]) = nats L5 ++ [(i : Int) + 1] by simp [nats], ints_app, List.length_append]
                                    exact ⟨ext_row (HE5.out.alloc _) (RowAt.ext HL5.out ((Ext.refl w5).alloc _) (by decide)) (by omega) rv2, IRow.chg (HW5.out.ext ((Ext.refl w5).alloc _)) rv2.2.1 (fun h => by have := HL5.out.le _ h; omega), hl4⟩
                                case rest =>
                                  obtain ⟨he6, hw6, hl6⟩ := hcut
                                  have HE6 := Lib.hid he6
                                  have HW6 := Lib.hid hw6
                                  clear he6 hw6 HE5 HW5 HL5 hk5
                                  rename World => w6
                                  obtain ⟨a13, cap13, rfl, hs1, hs2⟩ := hl6.shape
                                  have HL6 := Lib.hid hl6
                                  clear hl6
                                  have HPUT := Lib.hid HPUTX.out.symm
                                  obtain ⟨L6, hL6⟩ : ∃ L6, nx x i = L6 := ⟨_, rfl⟩
                                  rw [hL6] at HL6 HLEX hs1 HPUT ⊢
                                  have hL2 : L6.length ≤ 2 := by rw [← hL6]; unfold nx; (repeat' split) <;> simp
                                  clear hL6 HPUTX hk5'
                                  go_wp2_with fail
                                  go_loopw [14] (fun q wy => ∃ m : Nat, m ≤ L6.length ∧ q = .int .i64 m ∧ ∃ o3, Hgt C.length o3 ∧ Ext w wy ∧ IRow wy w.heap.size w.heap.size o3 ∧ RowAt wy wr.heap.size 1 (.slice a13 L6.length cap13) L6.length (ints (nats L6)) ∧ putAll C.length nn (L6.drop m) o3 = one1 p C i o2) (fun q _ => L6.length - (intOf q).toNat)
                                  case atStart => exact ⟨0, Nat.zero_le _, rfl, _, HG2.out, HE6.out, HW6.out, HL6.out, HPUT.out⟩
                                  case round =>
                                    obtain ⟨m, hm, rfl, o3, hgt3, hb3, hrw3, hl3, hres3⟩ := hrel
                                    have HG3 := Lib.hid hgt3
                                    have HB3 := Lib.hid hb3
                                    have HW3 := Lib.hid hrw3
                                    have HL3 := Lib.hid hl3
                                    have HX3 := Lib.hid hres3
                                    clear hgt3 hb3 hrw3 hl3 hres3
                                    by_cases hml : m < L6.length
                                    · have hl3' := HL3.out
                                      rw [← nats_len] at hl3'
                                      obtain ⟨g, oo, rfl, hg, cj⟩ := RowAt.get_int (l := nats L6) hl3' (q := m) (by rw [nats_len]; exact hml)
                                      clear hl3'
                                      have HD := Lib.hid (putAll_drop (len := C.length) (n := nn) (is := L6) (out := o3) (q := m) hml)
                                      have hjl : L6.getD m 0 ≤ C.length := HLEX.out _ (by rw [show L6.getD m 0 = L6[m] by rw [List.getD_eq_getElem?_getD, List.getElem?_eq_getElem hml]; rfl]; exact List.getElem_mem hml)
                                      rw [nats_get _ _ hml] at cj
                                      generalize L6.getD m 0 = j at *
                                      by_cases hjN : j = C.length
                                      · have TJ : ((j : Int) == (C.length : Int)) = true := beq_iff_eq.2 (by omega)
                                        have hn := HNONE.out (by rw [← HX3.out, HD.out, if_pos (.inl hjN)])
                                        clear HNONE HSOME HY HRR HX2 HPUT HX3 HD hjN
                                        subst hn
                                        go_wp2_with fail
                                        go_ret2
                                        exact ⟨rfl, HB3.out⟩
                                      · have TJ : ((j : Int) == (C.length : Int)) = false := beq_eq_false_iff_ne.2 (by omega)
                                        have hjlt : j < C.length := by omega
                                        obtain ⟨cc, ff, _⟩ := HW3.out.at (k := j) (by rw [HG3.out.1]; omega)
                                        obtain ⟨hj3, hj3d⟩ : ∃ z, o3.getD j 0 = z := ⟨_, rfl⟩
                                        rw [hj3d] at cc
                                        have HJ := Lib.hid hj3d
                                        clear hj3d
                                        by_cases hbad : 0 ≤ hj3 ∧ hj3 ≠ nn
                                        · obtain ⟨hb0, hb1⟩ := hbad
                                          have TB : (hj3 != nn) = true := bne_iff_ne.2 hb1
                                          have hn := HNONE.out (by rw [← HX3.out, HD.out, HJ.out, if_pos (.inr ⟨hb0, hb1⟩)])
                                          clear HNONE HSOME HY HRR HX2 HPUT HX3 HD hb1 hjN
                                          subst hn
                                          go_wp2_with fail
                                          go_ret2
                                          exact ⟨rfl, HB3.out⟩
                                        · have HNX : Hid (putAll C.length nn (L6.drop (m + 1)) (o3.set j nn) = one1 p C i o2) := by
                                            unfold Hid
                                            rw [← HX3.out, HD.out, HJ.out, if_neg (fun h => h.elim (fun h => hjN h) (fun h => hbad h))]
                                          have hst := HW3.out.store (k := j) (by rw [HG3.out.1]; omega) nn
                                          have hls := RowAt.chg HL3.out (chg_one _ w.heap.size j (.int .i64 nn)) (fun g' hg' e => by
                                            simp only [rowBlock] at hg'
                                            split at hg'
                                            · cases hg'
                                            · cases hg'; omega) (by decide)
                                          have HS1 := Lib.hid hst
                                          have HS2 := Lib.hid hls
                                          clear hst hls
                                          by_cases hneg : hj3 < 0
                                          · clear hbad hjN
                                            go_wp2_with fail
                                            go_roundw
                                            case rel => exact ⟨m + 1, by omega, by go_num, _, HG3.out.set j (by omega), HB3.out.setCell (Nat.le_refl _) _, HS1.out, HS2.out, HNX.out⟩
                                            case measure => simp [intOf]; omega
                                          · have TB : (hj3 != nn) = false := by
                                              rw [bne_eq_false_iff_eq]
                                              exact Decidable.byContradiction fun h => hbad ⟨by omega, h⟩
                                            have hpos : 0 ≤ hj3 := by omega
                                            clear hbad hneg hjN
                                            go_wp2_with fail
                                            go_roundw
                                            case rel => exact ⟨m + 1, by omega, by go_num, _, HG3.out.set j (by omega), HB3.out.setCell (Nat.le_refl _) _, HS1.out, HS2.out, HNX.out⟩
                                            case measure => simp [intOf]; omega
                                    · obtain rfl : m = L6.length := by omega
                                      have HZ : Hid (oneFrom p C (i + 1) o3 = oneFrom p C 0 out) := HSOME.out o3 (by have := HX3.out; rw [List.drop_length] at this; exact this.symm)
                                      clear hml
                                      go_wp2_with fail
                                      go_roundw
                                      case rel => exact ⟨i + 1, by omega, by go_num, o3, HG3.out, HB3.out, HW3.out, HZ.out⟩
                                      case measure => simp [intOf]; omega
              · obtain rfl : i = C.length := by omega
                clear hil
                go_wp2_with fail
                go_roundw
                case rel => exact ⟨k + 1, by omega, by go_num, o2, HG2.out, HB2.out, HW2.out, by
                  rw [← HY.out, ← HX2.out, oneFrom_end, show C.length + 1 - (k + 1) = C.length - k by omega]⟩
                case measure => simp [intOf]; omega
          · obtain rfl : k = C.length + 1 := by omega
            have HY : Hid (R = some out) := by
              have := HX.out
              rw [Nat.sub_self] at this
              exact this.symm
            have hy := HY.out
            clear HY HRR HX
            subst hy
            clear hlt
            go_wp2_with fail
            go_ret2
            refine ⟨⟨_, rfl, ?_⟩, HB.out⟩
            have h := HW.out.ints (by rw [HG.out.1]; omega) HG.out.i64 (w.heap.size ≤ ·) (fun _ h => h)
            rw [HG.out.1] at h
            exact h
end Go.Proofs.Ytpomcbginkhlbaa
