/- Contract of the document's FuncError. -/
import Derived.Test.YtpomcbginkhlbaaOp4
set_option maxHeartbeats 1000000
set_option maxRecDepth 100000
namespace Go.Proofs.Ytpomcbginkhlbaa
open Go Go.RowKit

theorem opError_any (p : List GFunc) (v : Value) (S : Nat → Prop) (f : Int) (x : GOp) (w : World) (hp : Funcs w S v p) (h0 : 0 ≤ f) (h1 : f < p.length)
    (hL0 : 0 ≤ p[f.toNat].locals) (hL1 : p[f.toNat].locals ≤ 4) (hC : p[f.toNat].code.length ≤ 24) :
    Calls Try.prog 62 #[v, .int .i64 f, .agg #[.int .i64 x.kind, .int .i64 x.a]] w fun e w' => e = .returned (.int .i64 (opErr p p[f.toNat] x)) ∧ Ext w w' := by
  obtain ⟨n, rfl⟩ := Int.eq_ofNat_of_zero_le h0
  have hn : n < p.length := by omega
  simp only [Int.toNat_natCast] at *
  have hp0 := hp
  obtain ⟨b, o, cap, rfl, hcap, hby, hA, hL, vc, hcc, hcode⟩ := hp.get hn
  have hA1 := hA.2.1
  have hL' := hL.2.1
  obtain ⟨ca, ccap, rfl, hcp, hcby, hops⟩ := hcode
  have RA := alloc_keep
  generalize hF : p[n] = F at *
  clear hA hL hops hp h0
  have e0 : Ext w (w.alloc (.cells #[.int .i64 x.kind, .int .i64 x.a] 58)) := (Ext.refl w).alloc _
  go_enter Try.func62, Try.ntmps62
  go_upto_block 0 with fail
  go_cut [7] (fun v7 wr => v7 = .int .i64 (mostOf p F x.kind) ∧ Ext (w.alloc (.cells #[.int .i64 x.kind, .int .i64 x.a] 58)) wr)
  case first =>
    go_wp2_with fail
    all_goals (go_meet; refine ⟨?_, Ext.refl _⟩; congr 1; unfold mostOf; (repeat' split) <;> simp at * <;> omega)
  case rest =>
    obtain ⟨rfl, hq⟩ := hcut
    have b0 := Ext.cell hq (cell_alloc0 w x.kind x.a 58)
    have b1 := Ext.cell hq (cell_alloc1 w x.kind x.a 58)
    have HW := Lib.hid (e0.trans hq)
    clear hq e0 hA1 hL' hcc hcp hcby RA
    by_cases hk : 0 ≤ x.kind ∧ x.kind ≤ 16
    · have hkn : ¬ ¬ (0 ≤ x.kind ∧ x.kind ≤ 16) := fun h => h hk
      obtain ⟨hk1, hk2⟩ := hk
      by_cases hin : 0 ≤ x.a ∧ x.a ≤ mostOf p F x.kind
      · have HIN := Lib.hid hin
        by_cases hcm : x.kind = 11 ∨ x.kind = 13
        · have hm2 : mostOf p F x.kind = (p.length : Int) - 1 := by unfold mostOf; rcases hcm with h | h <;> simp [h]
          rw [hm2] at hin
          obtain ⟨ha0, ha1⟩ := hin
          have ha2 : x.a < p.length := by omega
          rw [hm2]
          obtain ⟨b', o', cap', hbo, _, _, g0, g1, vc', g2, hcode'⟩ := hp0.get (i := x.a.toNat) (by omega)
          obtain ⟨ca', ccap', rfl, _⟩ := hcode'
          simp only [Value.slice.injEq, Option.some.injEq, Addr.mk.injEq] at hbo
          obtain ⟨⟨rfl, rfl, -⟩, -, -⟩ := hbo
          have z0 := Ext.cell HW.out g0.2.1
          have z1 := Ext.cell HW.out g1.2.1
          have z2 := Ext.cell HW.out g2
          clear g0 g1 g2
          have HG : Hid (p.getD x.a.toNat default = p[x.a.toNat]) := by unfold Hid; simp [List.getD, List.getElem?_eq_getElem (show x.a.toNat < p.length by omega)]
          generalize hF2 : p[x.a.toNat] = F2 at *
          clear hF2 hm2 hp0
          cases hs2 : sizedB F2
          · have HE1 : Hid (opErr p F x = 3) := by unfold Hid opErr; rw [if_neg hkn, if_neg (fun h => h HIN.out), if_pos ⟨hcm, by rw [HG.out]; exact hs2⟩]
            rcases hcm with h11 | h13
            · have T11 : (x.kind == 11) = true := by simp [h11]
              clear h11
              go_wp2_with (first
      | (go_at_call 46; refine (within_any _ _ _ _).mono ?_; rintro e w1 ⟨rfl, rfl⟩)
      | (go_at_call 61; refine (badArgs_any F2.args F2.locals _ F2.code _).mono ?_; rintro e w1 ⟨rfl, hb⟩; have hcs := Ext.keep hb))
              go_ret
              exact ⟨ret_int (by rw [HE1.out]), HW.out.trans hb⟩
            · have T11 : (x.kind == 11) = false := by simp [h13]
              have T13 : (x.kind == 13) = true := by simp [h13]
              clear h13
              go_wp2_with (first
      | (go_at_call 46; refine (within_any _ _ _ _).mono ?_; rintro e w1 ⟨rfl, rfl⟩)
      | (go_at_call 61; refine (badArgs_any F2.args F2.locals _ F2.code _).mono ?_; rintro e w1 ⟨rfl, hb⟩; have hcs := Ext.keep hb))
              go_ret
              exact ⟨ret_int (by rw [HE1.out]), HW.out.trans hb⟩
          · rcases hcm with h11 | h13
            · have T11 : (x.kind == 11) = true := by simp [h11]
              have T13 : (x.kind == 13) = false := by simp [h11]
              have HE1 : Hid (opErr p F x = 0) := by unfold Hid opErr; rw [if_neg hkn, if_neg (fun h => h HIN.out), if_neg (by rw [HG.out, hs2]; simp), if_neg (by simp [h11])]
              clear h11
              go_wp2_with (first
      | (go_at_call 46; refine (within_any _ _ _ _).mono ?_; rintro e w1 ⟨rfl, rfl⟩)
      | (go_at_call 61; refine (badArgs_any F2.args F2.locals _ F2.code _).mono ?_; rintro e w1 ⟨rfl, hb⟩; have hcs := Ext.keep hb))
              go_ret
              exact ⟨ret_int (by rw [HE1.out]), HW.out.trans hb⟩
            · have T11 : (x.kind == 11) = false := by simp [h13]
              have T13 : (x.kind == 13) = true := by simp [h13]
              by_cases ha : F2.args = 1
              · have HE1 : Hid (opErr p F x = 0) := by unfold Hid opErr; rw [if_neg hkn, if_neg (fun h => h HIN.out), if_neg (by rw [HG.out, hs2]; simp), if_neg (by rw [HG.out]; simp [ha])]
                have TA : (F2.args != 1) = false := by simp [ha]
                clear h13 ha
                go_wp2_with (first
      | (go_at_call 46; refine (within_any _ _ _ _).mono ?_; rintro e w1 ⟨rfl, rfl⟩)
      | (go_at_call 61; refine (badArgs_any F2.args F2.locals _ F2.code _).mono ?_; rintro e w1 ⟨rfl, hb⟩; have hcs := Ext.keep hb))
                go_ret
                exact ⟨ret_int (by rw [HE1.out]), HW.out.trans hb⟩
              · have HE1 : Hid (opErr p F x = 1) := by unfold Hid opErr; rw [if_neg hkn, if_neg (fun h => h HIN.out), if_neg (by rw [HG.out, hs2]; simp), if_pos (by rw [HG.out]; exact ⟨h13, ha⟩)]
                have TA : (F2.args != 1) = true := by simp [ha]
                clear h13 ha
                go_wp2_with (first
      | (go_at_call 46; refine (within_any _ _ _ _).mono ?_; rintro e w1 ⟨rfl, rfl⟩)
      | (go_at_call 61; refine (badArgs_any F2.args F2.locals _ F2.code _).mono ?_; rintro e w1 ⟨rfl, hb⟩; have hcs := Ext.keep hb))
                go_ret
                exact ⟨ret_int (by rw [HE1.out]), HW.out.trans hb⟩
        · have HE1 : Hid (opErr p F x = 0) := by
            unfold Hid opErr
            rw [if_neg hkn, if_neg (fun h => h HIN.out), if_neg (fun h => hcm h.1), if_neg (fun h => hcm (.inr h.1))]
          have T11 : (x.kind == 11) = false := by simp; omega
          have T13 : (x.kind == 13) = false := by simp; omega
          obtain ⟨hi0, hi1⟩ := hin
          generalize mostOf p F x.kind = M at *
          clear hcm hp0
          obtain F2 := F
          go_wp2_with (first
      | (go_at_call 46; refine (within_any _ _ _ _).mono ?_; rintro e w1 ⟨rfl, rfl⟩)
      | (go_at_call 61; refine (badArgs_any F2.args F2.locals _ F2.code _).mono ?_; rintro e w1 ⟨rfl, hb⟩; have hcs := Ext.keep hb))
          go_ret
          exact ⟨ret_int (by rw [HE1.out]), HW.out⟩
      · have HE1 : Hid (opErr p F x = 3) := by unfold Hid opErr; rw [if_neg hkn, if_pos hin]
        generalize mostOf p F x.kind = M at *
        clear hp0
        obtain F2 := F
        by_cases hi0 : 0 ≤ x.a
        · have TI : decide (x.a ≤ M) = false := by simp; omega
          clear hin
          go_wp2_with (first
      | (go_at_call 46; refine (within_any _ _ _ _).mono ?_; rintro e w1 ⟨rfl, rfl⟩)
      | (go_at_call 61; refine (badArgs_any F2.args F2.locals _ F2.code _).mono ?_; rintro e w1 ⟨rfl, hb⟩; have hcs := Ext.keep hb))
          go_ret
          exact ⟨ret_int (by rw [HE1.out]), HW.out⟩
        · have TI : decide (0 ≤ x.a) = false := by simp; omega
          clear hin
          go_wp2_with (first
      | (go_at_call 46; refine (within_any _ _ _ _).mono ?_; rintro e w1 ⟨rfl, rfl⟩)
      | (go_at_call 61; refine (badArgs_any F2.args F2.locals _ F2.code _).mono ?_; rintro e w1 ⟨rfl, hb⟩; have hcs := Ext.keep hb))
          go_ret
          exact ⟨ret_int (by rw [HE1.out]), HW.out⟩
    · have HE1 : Hid (opErr p F x = 4) := by unfold Hid opErr; rw [if_pos hk]
      generalize mostOf p F x.kind = M at *
      clear hp0
      obtain F2 := F
      by_cases hi0 : 0 ≤ x.kind
      · have TI : decide (x.kind ≤ 16) = false := by simp; omega
        clear hk
        go_wp2_with (first
      | (go_at_call 46; refine (within_any _ _ _ _).mono ?_; rintro e w1 ⟨rfl, rfl⟩)
      | (go_at_call 61; refine (badArgs_any F2.args F2.locals _ F2.code _).mono ?_; rintro e w1 ⟨rfl, hb⟩; have hcs := Ext.keep hb))
        go_ret
        exact ⟨ret_int (by rw [HE1.out]), HW.out⟩
      · have TI : decide (0 ≤ x.kind) = false := by simp; omega
        clear hk
        go_wp2_with (first
      | (go_at_call 46; refine (within_any _ _ _ _).mono ?_; rintro e w1 ⟨rfl, rfl⟩)
      | (go_at_call 61; refine (badArgs_any F2.args F2.locals _ F2.code _).mono ?_; rintro e w1 ⟨rfl, hb⟩; have hcs := Ext.keep hb))
        go_ret
        exact ⟨ret_int (by rw [HE1.out]), HW.out⟩

end Go.Proofs.Ytpomcbginkhlbaa
