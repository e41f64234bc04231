/- Merged texts: contracts and plain facts, one part behind another; each part begins with what it says. -/
import Derived.Test.YtgahbngbpfilgaaGreatGHAC
import Derived.Test.YtgahbngbpfilgaaGreatGHAF
section
set_option maxHeartbeats 1000000
set_option maxRecDepth 100000
namespace Go.Proofs.YtgahbngbpfilgaaGreat
open Go Go.RowKit
theorem opsErr_drop (p : List GFunc) (f : GFunc) (l : List GOp) (k : Nat) (hk : k < l.length) (h : opErr p f l[k] = 0) : opsErr p f (l.drop k) = opsErr p f (l.drop (k + 1)) := by
 rw [List.drop_eq_getElem_cons hk]
 simp [opsErr, h]
theorem opsErr_hit (p : List GFunc) (f : GFunc) (l : List GOp) (k : Nat) (hk : k < l.length) (h : opErr p f l[k] ≠ 0) : opsErr p f (l.drop k) = opErr p f l[k] := by
 rw [List.drop_eq_getElem_cons hk]
 simp [opsErr, h]
theorem check_any (p : List GFunc) (v : Value) (S : Nat → Prop) (f : Int) (w : World) (hp : Funcs w S v p) :
    Calls Tryz.prog 57 #[v, .int .i64 f] w fun e w' => e = .returned (.int .i64 (funcErr p f)) ∧ Ext w w' := by
  by_cases hf : 0 ≤ f ∧ f < p.length
  · obtain ⟨h0, h1⟩ := hf
    obtain ⟨n, rfl⟩ := Int.eq_ofNat_of_zero_le h0
    have hn : n < p.length := by omega
    have hp0 := hp
    obtain ⟨b, o, cap, rfl, hcap, hby, hA, hL, vc, hC, hcode⟩ := hp.get hn
    have hA1 := hA.2.1
    have hL1 := hL.2.1
    obtain ⟨ca, ccap, rfl, hcc, hcby, hops⟩ := hcode
    have HF : Hid (funcErr p n = if 24 < p[n].code.length then 2 else if sizedB p[n] = false then 3 else opsErr p p[n] p[n].code) := by
      unfold funcErr Hid
      rw [if_neg (by omega)]
      have : p.getD (n : Int).toNat default = p[n] := by simp [List.getD, List.getElem?_eq_getElem hn]
      rw [this]
    have RA := alloc_keep
    rw [HF.out]
    clear hA hL HF h0 h1
    by_cases hm : 24 < p[n].code.length
    · rw [if_pos hm]
      go_enter Tryz.func57, Tryz.ntmps57
      go_wp2
      go_ret
      exact ⟨rfl, by ((repeat (first | assumption | exact Ext.refl _ | (exact And.left (by assumption)) | refine Ext.alloc ?_ _ | refine Ext.drew ?_ | refine Ext.drewN ?_ _ | refine Ext.setCell ?_ (by simp) _ | refine Ext.setCell ?_ (by simp; omega) _ | refine Ext.trans ?_ (by assumption))); done)⟩
    · rw [if_neg hm]
      have hm' : p[n].code.length ≤ 24 := by omega
      clear hm
      generalize hF : p[n] = F at *
      obtain ⟨A, L, code⟩ := F
      simp only at *
      cases hs : sizedB ⟨A, L, code⟩
      · rw [if_pos rfl]
        go_enter Tryz.func57, Tryz.ntmps57
        go_wp2_with (first
          | (go_at_call 85; refine (sized_any A L _ code _).mono ?_; rintro e w1 ⟨rfl, hb⟩))
        go_ret
        exact ⟨rfl, by ((repeat (first | assumption | exact Ext.refl _ | (exact And.left (by assumption)) | refine Ext.alloc ?_ _ | refine Ext.drew ?_ | refine Ext.drewN ?_ _ | refine Ext.setCell ?_ (by simp) _ | refine Ext.setCell ?_ (by simp; omega) _ | refine Ext.trans ?_ (by assumption))); done)⟩
      · rw [if_neg (by decide)]
        go_enter Tryz.func57, Tryz.ntmps57
        go_upto_region 8 with (first
          | (go_at_call 85; refine (sized_any A L _ code _).mono ?_; rintro e w1 ⟨rfl, hb⟩))
        have hc1 := Ext.keep hb
        go_cut [6] (fun v6 wr => ∃ g, v6 = .pointer (some ⟨g, 0, none⟩) ∧ Ext w wr ∧ (∀ j, wr.cell? ⟨g, j, none⟩ = kindRow[j]?) ∧
          wr.cell? ⟨w.heap.size, 0, none⟩ = some (.int .i64 A) ∧ wr.cell? ⟨w.heap.size, 1, none⟩ = some (.int .i64 L) ∧ wr.cell? ⟨w.heap.size, 2, none⟩ = some (.slice ca code.length ccap))
        case first =>
          go_wp2_with (first
            | (refine wpList_store_row rfl 127 _ _ rfl _ kindRow rfl rfl _ _ (heap_alloc_new _ _) (by kernel_rfl) rfl (by kernel_rfl) ?_)
            | (go_at_call 86; refine (kinds_any _).mono ?_; rintro e w2 ⟨rfl, hb2⟩))
          go_meet
          have e2 := Ext.setRow ((Ext.refl w2).alloc (.cells #[.int .i64 0] 0)) (Nat.le_refl _) kindRow
          have e1 := hb.trans hb2
          have e0 := Ext.alloc (Ext.refl w) (.cells #[.int .i64 A, .int .i64 L, .slice ca code.length ccap] 63)
          refine ⟨_, rfl, Ext.trans (e0.trans e1) (((Ext.refl _).alloc _).setRow (Nat.le_refl _) _), fun j => cell_setRow_same _ _ _ _ _ _ _ (heap_alloc_new _ _), ?_, ?_, ?_⟩
          all_goals exact Ext.cell (((Ext.refl _).alloc _).setRow (Nat.le_refl _) _) (Ext.cell e1 (by simp))
        case rest =>
          obtain ⟨g, rfl, hbc, hk, x0, x1, x2⟩ := hcut
          rename World => wk
          have HE := Lib.hid hbc
          clear hb hc1 hbc
          go_wp2_with fail
          go_loopw [32] (fun i wr => ∃ k : Nat, k ≤ code.length ∧ i = .int .i64 k ∧ Ext wk wr ∧ opsErr p ⟨A, L, code⟩ (code.drop k) = opsErr p ⟨A, L, code⟩ code) (fun i _ => code.length - (intOf i).toNat)
          case atStart => exact ⟨0, Nat.zero_le _, rfl, Ext.refl _, rfl⟩
          case round =>
            obtain ⟨k, hkl, rfl, hbr, hrest⟩ := hrel
            have HR := Lib.hid hrest
            have HB := Lib.hid hbr
            have hcr := Ext.keep hbr
            have hcw := Ext.keep HE.out
            clear hrest hbr
            by_cases hlt : k < code.length
            · obtain ⟨cb, co, rfl, ⟨_, o0, _⟩, _, o1, _⟩ := hops k hlt
              have HD := Lib.hid (fun h => opsErr_drop p ⟨A, L, code⟩ code k hlt h)
              have HH := Lib.hid (fun h => opsErr_hit p ⟨A, L, code⟩ code k hlt h)
              generalize hx : code[k] = x at *
              clear hx hops
              by_cases hk1 : 0 ≤ x.kind ∧ x.kind ≤ 16
              · have KT := known_true hk1.1 hk1.2
                obtain ⟨hk1, hk2⟩ := hk1
                go_upto_region 14 with (first
                  | (go_at_call 87; refine (known_any _ _).mono ?_; rintro e w1 ⟨rfl, rfl⟩))
                have hsz : 0 ≤ L ∧ L ≤ 4 := by unfold sizedB at hs; simp at hs; omega
                have hk3 : x.kind < 17 := by omega
                have gk := Ext.cell HB.out ((hk _).trans (kindRow_at x.kind.toNat (by omega)))
                have y0 := Ext.cell HB.out x0
                have kc := kind_call x.kind.toNat (by omega)
                have y1 := Ext.cell HB.out x1
                have y2 := Ext.cell HB.out x2
                go_cut [41] (fun v wq => v = .bool (decide (¬ (0 ≤ x.a ∧ x.a ≤ mostOf p ⟨A, L, code⟩ x.kind))) ∧ Ext (wr.alloc (.cells #[.int .i64 x.kind, .int .i64 x.a] 59)) wq)
                case first =>
                  by_cases hneg : x.a < 0
                  ·
                    refine wp_region_ext (by kernel_rfl) (by kernel_rfl) ?_
                    repeat (first
                      | go_big_quiet_skip
                      | (go_big_quiet_want
                         unfold Oper.quiet
                         apply Exists.intro
                         refine ⟨fun w' hw' => ?_, ?_⟩
                         focus
                           have hcq := Ext.keep hw'
                           go_simp
                           first
                             | with_reducible rfl
                         (try dsimp only [Act.put])
                         (try simp only [List.setIfInBounds_toArray, List.set_cons_succ, List.set_cons_zero])
                         go_big_quiet_on))
                    refine wpQuiet_nil ?_
                    intro wq hq
                    go_wp2_with fail
                    go_meet
                    refine ⟨?_, hq⟩
                    simp; omega
                  ·
                    refine wp_region_ext (by kernel_rfl) (by kernel_rfl) ?_
                    repeat (first
                      | go_big_quiet_skip
                      | (go_big_quiet_want
                         unfold Oper.quiet
                         apply Exists.intro
                         refine ⟨fun w' hw' => ?_, ?_⟩
                         focus
                           have hcq := Ext.keep hw'
                           go_simp
                           first
                             | with_reducible rfl
                             | ((refine (most_any x.kind hk1 hk2 ⟨A, L, code⟩ p (some ⟨b, o, none⟩) cap (by omega) A (some ⟨cb, co, none⟩) ccap hsz.1 hsz.2 hm' _).mono ?_; rintro e w1 ⟨rfl, hb⟩; exact ⟨rfl, hw'.trans hb⟩))
                         (try dsimp only [Act.put])
                         (try simp only [List.setIfInBounds_toArray, List.set_cons_succ, List.set_cons_zero])
                         go_big_quiet_on))
                    refine wpQuiet_nil ?_
                    intro wq hq
                    go_wp2_with fail
                    go_meet
                    refine ⟨?_, hq⟩
                    simp; omega
                case rest =>
                  obtain ⟨hv, hq⟩ := hcut
                  have hW : Ext w wc := ((HE.out.trans HB.out).alloc _).trans hq
                  have hWc : Ext wk wc := (HB.out.alloc _).trans hq
                  have b0 := Ext.cell hq (cell_alloc0 wr x.kind x.a 59)
                  have b1 := Ext.cell hq (cell_alloc1 wr x.kind x.a 59)
                  have hkn : ¬ ¬ (0 ≤ x.kind ∧ x.kind ≤ 16) := by omega
                  clear hcr hcw gk kc y0 y1 y2 x0 x1 x2 hk
                  have HQ := Lib.hid hq
                  have HW := Lib.hid hW
                  have HWc := Lib.hid hWc
                  clear hq hW hWc
                  by_cases hin : 0 ≤ x.a ∧ x.a ≤ mostOf p ⟨A, L, code⟩ x.kind
                  · rw [show decide (¬ (0 ≤ x.a ∧ x.a ≤ mostOf p ⟨A, L, code⟩ x.kind)) = false by simpa using hin] at hv
                    subst hv
                    have HIN := Lib.hid hin
                    by_cases hcm : x.kind = 11 ∨ x.kind = 13
                    · have hm2 : mostOf p ⟨A, L, code⟩ x.kind = (p.length : Int) - 1 := by unfold mostOf; rcases hcm with h | h <;> simp [h]
                      rw [hm2] at hin
                      obtain ⟨ha0, ha1⟩ := hin
                      have ha2 : x.a < p.length := by omega
                      obtain ⟨b', o', cap', hbo, _, _, g0, g1, vc', g2, hcode'⟩ := hp0.get (i := x.a.toNat) (by omega)
                      obtain ⟨ca', ccap', rfl, _⟩ := hcode'
                      simp only [Value.slice.injEq, Option.some.injEq, Addr.mk.injEq] at hbo
                      obtain ⟨⟨rfl, rfl, -⟩, -, -⟩ := hbo
                      have z0 := Ext.cell HW.out g0.2.1
                      have z1 := Ext.cell HW.out g1.2.1
                      have z2 := Ext.cell HW.out g2
                      clear g0 g1 g2
                      have HG : Hid (p.getD x.a.toNat default = p[x.a.toNat]) := by unfold Hid; simp [List.getD, List.getElem?_eq_getElem (show x.a.toNat < p.length by omega)]
                      generalize hF2 : p[x.a.toNat] = F2 at *
                      clear hF2 hm2
                      cases hs2 : sizedB F2
                      · have HE1 : Hid (opErr p ⟨A, L, code⟩ x = 3) := by unfold Hid opErr; rw [if_neg hkn, if_neg (fun h => h HIN.out), if_pos ⟨hcm, by rw [HG.out]; exact hs2⟩]
                        rcases hcm with h11 | h13
                        · have T11 : (x.kind == 11) = true := by simp [h11]
                          clear h11
                          go_wp2_with (first
                              | (go_at_call 85; refine (sized_any F2.args F2.locals _ F2.code _).mono ?_; rintro e w1 ⟨rfl, hb⟩; have hcs := Ext.keep hb))
                          go_ret
                          exact ⟨ret_int (by rw [← HR.out, HH.out (by rw [HE1.out]; decide), HE1.out]), HW.out.trans hb⟩
                        · have T11 : (x.kind == 11) = false := by simp [h13]
                          have T13 : (x.kind == 13) = true := by simp [h13]
                          clear h13
                          go_wp2_with (first
                              | (go_at_call 85; refine (sized_any F2.args F2.locals _ F2.code _).mono ?_; rintro e w1 ⟨rfl, hb⟩; have hcs := Ext.keep hb))
                          go_ret
                          exact ⟨ret_int (by rw [← HR.out, HH.out (by rw [HE1.out]; decide), HE1.out]), HW.out.trans hb⟩
                      · rcases hcm with h11 | h13
                        · have T11 : (x.kind == 11) = true := by simp [h11]
                          have T13 : (x.kind == 13) = false := by simp [h11]
                          have HE1 : Hid (opErr p ⟨A, L, code⟩ x = 0) := by unfold Hid opErr; rw [if_neg hkn, if_neg (fun h => h HIN.out), if_neg (by rw [HG.out, hs2]; simp), if_neg (by simp [h11])]
                          clear h11
                          go_wp2_with (first
                              | (go_at_call 85; refine (sized_any F2.args F2.locals _ F2.code _).mono ?_; rintro e w1 ⟨rfl, hb⟩; have hcs := Ext.keep hb))
                          go_roundw
                          case rel => exact ⟨k + 1, by omega, by go_num, HWc.out.trans hb, by rw [← HR.out]; exact (HD.out HE1.out).symm⟩
                          case measure => simp [intOf]; omega
                        · have T11 : (x.kind == 11) = false := by simp [h13]
                          have T13 : (x.kind == 13) = true := by simp [h13]
                          by_cases ha : F2.args = 1
                          · have HE1 : Hid (opErr p ⟨A, L, code⟩ x = 0) := by unfold Hid opErr; rw [if_neg hkn, if_neg (fun h => h HIN.out), if_neg (by rw [HG.out, hs2]; simp), if_neg (by rw [HG.out]; simp [ha])]
                            have TA : (F2.args != 1) = false := by simp [ha]
                            clear h13 ha
                            go_wp2_with (first
                              | (go_at_call 85; refine (sized_any F2.args F2.locals _ F2.code _).mono ?_; rintro e w1 ⟨rfl, hb⟩; have hcs := Ext.keep hb))
                            go_roundw
                            case rel => exact ⟨k + 1, by omega, by go_num, HWc.out.trans hb, by rw [← HR.out]; exact (HD.out HE1.out).symm⟩
                            case measure => simp [intOf]; omega
                          · have HE1 : Hid (opErr p ⟨A, L, code⟩ x = 1) := by unfold Hid opErr; rw [if_neg hkn, if_neg (fun h => h HIN.out), if_neg (by rw [HG.out, hs2]; simp), if_pos (by rw [HG.out]; exact ⟨h13, ha⟩)]
                            have TA : (F2.args != 1) = true := by simp [ha]
                            clear h13 ha
                            go_wp2_with (first
                              | (go_at_call 85; refine (sized_any F2.args F2.locals _ F2.code _).mono ?_; rintro e w1 ⟨rfl, hb⟩; have hcs := Ext.keep hb))
                            go_ret
                            exact ⟨ret_int (by rw [← HR.out, HH.out (by rw [HE1.out]; decide), HE1.out]), HW.out.trans hb⟩
                    · have HE1 : Hid (opErr p ⟨A, L, code⟩ x = 0) := by
                        unfold Hid opErr
                        rw [if_neg hkn, if_neg (fun h => h HIN.out), if_neg (fun h => hcm h.1), if_neg (fun h => hcm (.inr h.1))]
                      have T11 : (x.kind == 11) = false := by simp; omega
                      have T13 : (x.kind == 13) = false := by simp; omega
                      clear hcm hin
                      go_wp2
                      go_roundw
                      case rel => exact ⟨k + 1, by omega, by go_num, HWc.out, by rw [← HR.out]; exact (HD.out HE1.out).symm⟩
                      case measure => simp [intOf]; omega
                  · have hin' : decide (¬ (0 ≤ x.a ∧ x.a ≤ mostOf p ⟨A, L, code⟩ x.kind)) = true := decide_eq_true hin
                    rw [hin'] at hv
                    subst hv
                    have e1 : opErr p ⟨A, L, code⟩ x = 3 := by unfold opErr; rw [if_neg hkn, if_pos hin]
                    clear hin'
                    have HE1 := Lib.hid e1
                    clear e1
                    go_wp2
                    go_ret
                    refine ⟨ret_int ?_, ?_⟩
                    · rw [← HR.out, HH.out (by rw [HE1.out]; decide), HE1.out]
                    · exact HW.out
              · have KT := known_false hk1
                go_wp2_with (first
                  | (go_at_call 87; refine (known_any _ _).mono ?_; rintro e w1 ⟨rfl, rfl⟩))
                go_ret
                refine ⟨ret_int ?_, ?_⟩
                · have e1 : opErr p ⟨A, L, code⟩ x = 4 := by unfold opErr; rw [if_pos hk1]
                  rw [← HR.out, HH.out (by rw [e1]; decide), e1]
                · have := HE.out; have := HB.out
                  ((repeat (first | assumption | exact Ext.refl _ | (exact And.left (by assumption)) | refine Ext.alloc ?_ _ | refine Ext.drew ?_ | refine Ext.drewN ?_ _ | refine Ext.setCell ?_ (by simp) _ | refine Ext.setCell ?_ (by simp; omega) _ | refine Ext.trans ?_ (by assumption))); done)
            · have hk' : k = code.length := by omega
              subst hk'
              go_wp2
              go_ret
              refine ⟨ret_int ?_, ?_⟩
              · rw [← HR.out]; simp [opsErr]
              · have := HE.out; have := HB.out
                ((repeat (first | assumption | exact Ext.refl _ | (exact And.left (by assumption)) | refine Ext.alloc ?_ _ | refine Ext.drew ?_ | refine Ext.drewN ?_ _ | refine Ext.setCell ?_ (by simp) _ | refine Ext.setCell ?_ (by simp; omega) _ | refine Ext.trans ?_ (by assumption))); done)
  · have HF : funcErr p f = 5 := by unfold funcErr; rw [if_pos hf]
    rw [HF]
    obtain ⟨a, cap, rfl, hcap, hby, _⟩ := hp
    by_cases h0 : f < 0
    · go_enter Tryz.func57, Tryz.ntmps57
      go_wp2
      go_ret
      exact ⟨rfl, by ((repeat (first | assumption | exact Ext.refl _ | (exact And.left (by assumption)) | refine Ext.alloc ?_ _ | refine Ext.drew ?_ | refine Ext.drewN ?_ _ | refine Ext.setCell ?_ (by simp) _ | refine Ext.setCell ?_ (by simp; omega) _ | refine Ext.trans ?_ (by assumption))); done)⟩
    · have h1 : (p.length : Int) ≤ f := by omega
      go_enter Tryz.func57, Tryz.ntmps57
      go_wp2
      go_ret
      exact ⟨rfl, by ((repeat (first | assumption | exact Ext.refl _ | (exact And.left (by assumption)) | refine Ext.alloc ?_ _ | refine Ext.drew ?_ | refine Ext.drewN ?_ _ | refine Ext.setCell ?_ (by simp) _ | refine Ext.setCell ?_ (by simp; omega) _ | refine Ext.trans ?_ (by assumption))); done)⟩
end Go.Proofs.YtgahbngbpfilgaaGreat
end
section
set_option maxHeartbeats 1000000
set_option maxRecDepth 100000
namespace Go.Proofs.YtgahbngbpfilgaaGreat
open Go Go.RowKit
theorem opError_any (p : List GFunc) (v : Value) (S : Nat → Prop) (f : Int) (x : GOp) (w : World) (hp : Funcs w S v p) (h0 : 0 ≤ f) (h1 : f < p.length)
    (hL0 : 0 ≤ p[f.toNat].locals) (hL1 : p[f.toNat].locals ≤ 4) (hC : p[f.toNat].code.length ≤ 24) :
    Calls Tryz.prog 64 #[v, .int .i64 f, .agg #[.int .i64 x.kind, .int .i64 x.a]] w fun e w' => e = .returned (.int .i64 (opErr p p[f.toNat] x)) ∧ Ext w w' := by
  obtain ⟨n, rfl⟩ := Int.eq_ofNat_of_zero_le h0
  have hn : n < p.length := by omega
  simp only [Int.toNat_natCast] at *
  have hp0 := hp
  obtain ⟨b, o, cap, rfl, hcap, hby, hA, hL, vc, hcc, hcode⟩ := hp.get hn
  have hA1 := hA.2.1
  have hL' := hL.2.1
  obtain ⟨ca, ccap, rfl, hcp, hcby, hops⟩ := hcode
  have RA := alloc_keep
  generalize hF : p[n] = F at *
  clear hA hL hops hp h0
  have e0 : Ext w (w.alloc (.cells #[.int .i64 x.kind, .int .i64 x.a] 59)) := (Ext.refl w).alloc _
  go_enter Tryz.func64, Tryz.ntmps64
  go_upto_block 0 with fail
  go_cut [7] (fun v7 wr => v7 = .int .i64 (mostOf p F x.kind) ∧ Ext (w.alloc (.cells #[.int .i64 x.kind, .int .i64 x.a] 59)) wr)
  case first =>
    go_wp2_with fail
    all_goals (go_meet; refine ⟨?_, Ext.refl _⟩; congr 1; unfold mostOf; (repeat' split) <;> simp at * <;> omega)
  case rest =>
    obtain ⟨rfl, hq⟩ := hcut
    have b0 := Ext.cell hq (cell_alloc0 w x.kind x.a 59)
    have b1 := Ext.cell hq (cell_alloc1 w x.kind x.a 59)
    have HW := Lib.hid (e0.trans hq)
    clear hq e0 hA1 hL' hcc hcp hcby RA
    by_cases hk : 0 ≤ x.kind ∧ x.kind ≤ 16
    · have hkn : ¬ ¬ (0 ≤ x.kind ∧ x.kind ≤ 16) := fun h => h hk
      obtain ⟨hk1, hk2⟩ := hk
      by_cases hin : 0 ≤ x.a ∧ x.a ≤ mostOf p F x.kind
      · have HIN := Lib.hid hin
        by_cases hcm : x.kind = 11 ∨ x.kind = 13
        · have hm2 : mostOf p F x.kind = (p.length : Int) - 1 := by unfold mostOf; rcases hcm with h | h <;> simp [h]
          rw [hm2] at hin
          obtain ⟨ha0, ha1⟩ := hin
          have ha2 : x.a < p.length := by omega
          rw [hm2]
          obtain ⟨b', o', cap', hbo, _, _, g0, g1, vc', g2, hcode'⟩ := hp0.get (i := x.a.toNat) (by omega)
          obtain ⟨ca', ccap', rfl, _⟩ := hcode'
          simp only [Value.slice.injEq, Option.some.injEq, Addr.mk.injEq] at hbo
          obtain ⟨⟨rfl, rfl, -⟩, -, -⟩ := hbo
          have z0 := Ext.cell HW.out g0.2.1
          have z1 := Ext.cell HW.out g1.2.1
          have z2 := Ext.cell HW.out g2
          clear g0 g1 g2
          have HG : Hid (p.getD x.a.toNat default = p[x.a.toNat]) := by unfold Hid; simp [List.getD, List.getElem?_eq_getElem (show x.a.toNat < p.length by omega)]
          generalize hF2 : p[x.a.toNat] = F2 at *
          clear hF2 hm2 hp0
          cases hs2 : sizedB F2
          · have HE1 : Hid (opErr p F x = 3) := by unfold Hid opErr; rw [if_neg hkn, if_neg (fun h => h HIN.out), if_pos ⟨hcm, by rw [HG.out]; exact hs2⟩]
            rcases hcm with h11 | h13
            · have T11 : (x.kind == 11) = true := by simp [h11]
              clear h11
              go_wp2_with (first
      | (go_at_call 21; refine (within_any _ _ _ _).mono ?_; rintro e w1 ⟨rfl, rfl⟩)
      | (go_at_call 63; refine (badArgs_any F2.args F2.locals _ F2.code _).mono ?_; rintro e w1 ⟨rfl, hb⟩; have hcs := Ext.keep hb))
              go_ret
              exact ⟨ret_int (by rw [HE1.out]), HW.out.trans hb⟩
            · have T11 : (x.kind == 11) = false := by simp [h13]
              have T13 : (x.kind == 13) = true := by simp [h13]
              clear h13
              go_wp2_with (first
      | (go_at_call 21; refine (within_any _ _ _ _).mono ?_; rintro e w1 ⟨rfl, rfl⟩)
      | (go_at_call 63; refine (badArgs_any F2.args F2.locals _ F2.code _).mono ?_; rintro e w1 ⟨rfl, hb⟩; have hcs := Ext.keep hb))
              go_ret
              exact ⟨ret_int (by rw [HE1.out]), HW.out.trans hb⟩
          · rcases hcm with h11 | h13
            · have T11 : (x.kind == 11) = true := by simp [h11]
              have T13 : (x.kind == 13) = false := by simp [h11]
              have HE1 : Hid (opErr p F x = 0) := by unfold Hid opErr; rw [if_neg hkn, if_neg (fun h => h HIN.out), if_neg (by rw [HG.out, hs2]; simp), if_neg (by simp [h11])]
              clear h11
              go_wp2_with (first
      | (go_at_call 21; refine (within_any _ _ _ _).mono ?_; rintro e w1 ⟨rfl, rfl⟩)
      | (go_at_call 63; refine (badArgs_any F2.args F2.locals _ F2.code _).mono ?_; rintro e w1 ⟨rfl, hb⟩; have hcs := Ext.keep hb))
              go_ret
              exact ⟨ret_int (by rw [HE1.out]), HW.out.trans hb⟩
            · have T11 : (x.kind == 11) = false := by simp [h13]
              have T13 : (x.kind == 13) = true := by simp [h13]
              by_cases ha : F2.args = 1
              · have HE1 : Hid (opErr p F x = 0) := by unfold Hid opErr; rw [if_neg hkn, if_neg (fun h => h HIN.out), if_neg (by rw [HG.out, hs2]; simp), if_neg (by rw [HG.out]; simp [ha])]
                have TA : (F2.args != 1) = false := by simp [ha]
                clear h13 ha
                go_wp2_with (first
      | (go_at_call 21; refine (within_any _ _ _ _).mono ?_; rintro e w1 ⟨rfl, rfl⟩)
      | (go_at_call 63; refine (badArgs_any F2.args F2.locals _ F2.code _).mono ?_; rintro e w1 ⟨rfl, hb⟩; have hcs := Ext.keep hb))
                go_ret
                exact ⟨ret_int (by rw [HE1.out]), HW.out.trans hb⟩
              · have HE1 : Hid (opErr p F x = 1) := by unfold Hid opErr; rw [if_neg hkn, if_neg (fun h => h HIN.out), if_neg (by rw [HG.out, hs2]; simp), if_pos (by rw [HG.out]; exact ⟨h13, ha⟩)]
                have TA : (F2.args != 1) = true := by simp [ha]
                clear h13 ha
                go_wp2_with (first
      | (go_at_call 21; refine (within_any _ _ _ _).mono ?_; rintro e w1 ⟨rfl, rfl⟩)
      | (go_at_call 63; refine (badArgs_any F2.args F2.locals _ F2.code _).mono ?_; rintro e w1 ⟨rfl, hb⟩; have hcs := Ext.keep hb))
                go_ret
                exact ⟨ret_int (by rw [HE1.out]), HW.out.trans hb⟩
        · have HE1 : Hid (opErr p F x = 0) := by
            unfold Hid opErr
            rw [if_neg hkn, if_neg (fun h => h HIN.out), if_neg (fun h => hcm h.1), if_neg (fun h => hcm (.inr h.1))]
          have T11 : (x.kind == 11) = false := by simp; omega
          have T13 : (x.kind == 13) = false := by simp; omega
          obtain ⟨hi0, hi1⟩ := hin
          generalize mostOf p F x.kind = M at *
          clear hcm hp0
          obtain F2 := F
          go_wp2_with (first
      | (go_at_call 21; refine (within_any _ _ _ _).mono ?_; rintro e w1 ⟨rfl, rfl⟩)
      | (go_at_call 63; refine (badArgs_any F2.args F2.locals _ F2.code _).mono ?_; rintro e w1 ⟨rfl, hb⟩; have hcs := Ext.keep hb))
          go_ret
          exact ⟨ret_int (by rw [HE1.out]), HW.out⟩
      · have HE1 : Hid (opErr p F x = 3) := by unfold Hid opErr; rw [if_neg hkn, if_pos hin]
        generalize mostOf p F x.kind = M at *
        clear hp0
        obtain F2 := F
        by_cases hi0 : 0 ≤ x.a
        · have TI : decide (x.a ≤ M) = false := by simp; omega
          clear hin
          go_wp2_with (first
      | (go_at_call 21; refine (within_any _ _ _ _).mono ?_; rintro e w1 ⟨rfl, rfl⟩)
      | (go_at_call 63; refine (badArgs_any F2.args F2.locals _ F2.code _).mono ?_; rintro e w1 ⟨rfl, hb⟩; have hcs := Ext.keep hb))
          go_ret
          exact ⟨ret_int (by rw [HE1.out]), HW.out⟩
        · have TI : decide (0 ≤ x.a) = false := by simp; omega
          clear hin
          go_wp2_with (first
      | (go_at_call 21; refine (within_any _ _ _ _).mono ?_; rintro e w1 ⟨rfl, rfl⟩)
      | (go_at_call 63; refine (badArgs_any F2.args F2.locals _ F2.code _).mono ?_; rintro e w1 ⟨rfl, hb⟩; have hcs := Ext.keep hb))
          go_ret
          exact ⟨ret_int (by rw [HE1.out]), HW.out⟩
    · have HE1 : Hid (opErr p F x = 4) := by unfold Hid opErr; rw [if_pos hk]
      generalize mostOf p F x.kind = M at *
      clear hp0
      obtain F2 := F
      by_cases hi0 : 0 ≤ x.kind
      · have TI : decide (x.kind ≤ 16) = false := by simp; omega
        clear hk
        go_wp2_with (first
      | (go_at_call 21; refine (within_any _ _ _ _).mono ?_; rintro e w1 ⟨rfl, rfl⟩)
      | (go_at_call 63; refine (badArgs_any F2.args F2.locals _ F2.code _).mono ?_; rintro e w1 ⟨rfl, hb⟩; have hcs := Ext.keep hb))
        go_ret
        exact ⟨ret_int (by rw [HE1.out]), HW.out⟩
      · have TI : decide (0 ≤ x.kind) = false := by simp; omega
        clear hk
        go_wp2_with (first
      | (go_at_call 21; refine (within_any _ _ _ _).mono ?_; rintro e w1 ⟨rfl, rfl⟩)
      | (go_at_call 63; refine (badArgs_any F2.args F2.locals _ F2.code _).mono ?_; rintro e w1 ⟨rfl, hb⟩; have hcs := Ext.keep hb))
        go_ret
        exact ⟨ret_int (by rw [HE1.out]), HW.out⟩
end Go.Proofs.YtgahbngbpfilgaaGreat
end
section
set_option maxHeartbeats 1000000
set_option maxRecDepth 100000
namespace Go.Proofs.YtgahbngbpfilgaaGreat
open Go Go.RowKit
theorem funcError_any (p : List GFunc) (v : Value) (S : Nat → Prop) (f : Int) (w : World) (hp : Funcs w S v p) :
  Calls Tryz.prog 46 #[v, .int .i64 f] w fun e w' => e = .returned (.int .i64 (funcErr p f)) ∧ Ext w w' := by
 by_cases hf : 0 ≤ f ∧ f < p.length
 ·obtain ⟨h0, h1⟩ := hf
  obtain ⟨n, rfl⟩ := Int.eq_ofNat_of_zero_le h0
  have hn : n < p.length := by omega
  have hp0 := hp
  obtain ⟨b, o, cap, rfl, hcap, hby, hA, hL, vc, hC, hcode⟩ := hp.get hn
  have hA1 := hA.2.1
  have hL1 := hL.2.1
  obtain ⟨ca, ccap, rfl, hcc, hcby, hops⟩ := hcode
  have HF : Hid (funcErr p n = if 24 < p[n].code.length then 2 else if sizedB p[n] = false then 3 else opsErr p p[n] p[n].code) := by
   unfold funcErr Hid
   rw [if_neg (by omega)]
   have : p.getD (n : Int).toNat default = p[n] := by simp [List.getD, List.getElem?_eq_getElem hn]
   rw [this]
  have RA := alloc_keep
  rw [HF.out]
  have hin : (n : Int) ≤ (p.length : Int) - 1 := by omega
  clear hA hL HF h0
  by_cases hm : 24 < p[n].code.length
  ·rw [if_pos hm]
   go_enter Tryz.func46, Tryz.ntmps46
   go_wp2_with (first
    | (go_at_call 21; refine (within_any _ _ _ _).mono ?_; rintro e w1 ⟨rfl, rfl⟩))
   go_ret
   exact ⟨rfl, by ((repeat (first | assumption | exact Ext.refl _ | (exact And.left (by assumption)) | refine Ext.alloc ?_ _ | refine Ext.drew ?_ | refine Ext.drewN ?_ _ | refine Ext.setCell ?_ (by simp) _ | refine Ext.setCell ?_ (by simp; omega) _ | refine Ext.trans ?_ (by assumption))); done)⟩
  ·rw [if_neg hm]
   have hm' : p[n].code.length ≤ 24 := by omega
   clear hm
   cases hs : sizedB p[n]
   ·rw [if_pos rfl]
    have hsb : (!sizedB ⟨p[n].args, p[n].locals, p[n].code⟩) = true := by simpa using hs
    go_enter Tryz.func46, Tryz.ntmps46
    go_wp2_with (first
     | (go_at_call 21; refine (within_any _ _ _ _).mono ?_; rintro e w1 ⟨rfl, rfl⟩)
     | (go_at_call 63; refine (badArgs_any _ _ _ p[n].code _).mono ?_; rintro e w1 ⟨rfl, hb⟩))
    go_ret
    exact ⟨rfl, by ((repeat (first | assumption | exact Ext.refl _ | (exact And.left (by assumption)) | refine Ext.alloc ?_ _ | refine Ext.drew ?_ | refine Ext.drewN ?_ _ | refine Ext.setCell ?_ (by simp) _ | refine Ext.setCell ?_ (by simp; omega) _ | refine Ext.trans ?_ (by assumption))); done)⟩
   ·rw [if_neg (by decide)]
    have hsb : (!sizedB ⟨p[n].args, p[n].locals, p[n].code⟩) = false := by simpa using hs
    have hsz : 0 ≤ p[n].locals ∧ p[n].locals ≤ 4 := by unfold sizedB at hs; simp at hs; omega
    go_enter Tryz.func46, Tryz.ntmps46
    go_wp2_with (first
     | (go_at_call 21; refine (within_any _ _ _ _).mono ?_; rintro e w1 ⟨rfl, rfl⟩)
     | (go_at_call 63; refine (badArgs_any _ _ _ p[n].code _).mono ?_; rintro e w1 ⟨rfl, hb⟩))
    go_loopw [5] (fun i wr => ∃ k : Nat, k ≤ p[n].code.length ∧ i = .int .i64 k ∧ Ext w wr ∧ opsErr p p[n] (p[n].code.drop k) = opsErr p p[n] p[n].code) (fun i _ => p[n].code.length - (intOf i).toNat)
    case atStart => exact ⟨0, Nat.zero_le _, rfl, hb, rfl⟩
    case round =>
     obtain ⟨k, hkl, rfl, hbr, hrest⟩ := hrel
     have HR := Lib.hid hrest
     have HB := Lib.hid hbr
     have hcr := Ext.keep hbr
     clear hrest hbr
     by_cases hlt : k < p[n].code.length
     ·obtain ⟨cb, co, rfl, ⟨_, o0, _⟩, _, o1, _⟩ := hops k hlt
      have HD : Hid (opErr p p[n] p[n].code[k] = 0 → _) := fun h => opsErr_drop p p[n] p[n].code k hlt h
      have HH : Hid (opErr p p[n] p[n].code[k] ≠ 0 → _) := fun h => opsErr_hit p p[n] p[n].code k hlt h
      generalize hx : p[n].code[k] = x at *
      clear hx hops
      by_cases hz : opErr p p[n] x = 0
      ·have TZ : (opErr p p[n] x != 0) = false := by simp [hz]
       have HZ := Lib.hid hz
       clear hz
       go_wp2_with (first
        | (go_at_call 64; refine (opError_any p _ S n x _ (Funcs.stays HB.out.stays hp0) (by omega) (by omega) hsz.1 hsz.2 hm').mono ?_; rintro e w1 ⟨rfl, hb1⟩))
       go_roundw
       case rel => exact ⟨k + 1, by omega, by go_num, HB.out.trans hb1, by rw [← HR.out]; exact (HD.out HZ.out).symm⟩
       case measure => simp [intOf]; omega
      ·have TZ : (opErr p p[n] x != 0) = true := by simp [hz]
       have HZ := Lib.hid hz
       clear hz
       go_wp2_with (first
        | (go_at_call 64; refine (opError_any p _ S n x _ (Funcs.stays HB.out.stays hp0) (by omega) (by omega) hsz.1 hsz.2 hm').mono ?_; rintro e w1 ⟨rfl, hb1⟩))
       go_ret
       exact ⟨ret_int (by rw [← HR.out, HH.out HZ.out]), HB.out.trans hb1⟩
     ·have hk' : k = p[n].code.length := by omega
      subst hk'
      go_wp2
      go_ret
      exact ⟨ret_int (by rw [← HR.out]; simp [opsErr]), HB.out⟩
 ·have HF : funcErr p f = 5 := by unfold funcErr; rw [if_pos hf]
  rw [HF]
  obtain ⟨a, cap, rfl, hcap, hby, _⟩ := hp
  by_cases h0 : 0 ≤ f
  ·have h1 : decide (f ≤ (p.length : Int) - 1) = false := by simp; omega
   clear hf
   go_enter Tryz.func46, Tryz.ntmps46
   go_wp2_with (first
    | (go_at_call 21; refine (within_any _ _ _ _).mono ?_; rintro e w1 ⟨rfl, rfl⟩))
   go_ret
   exact ⟨rfl, Ext.refl _⟩
  ·have h1 : decide (0 ≤ f) = false := by simp; omega
   clear hf
   go_enter Tryz.func46, Tryz.ntmps46
   go_wp2_with (first
    | (go_at_call 21; refine (within_any _ _ _ _).mono ?_; rintro e w1 ⟨rfl, rfl⟩))
   go_ret
   exact ⟨rfl, Ext.refl _⟩
end Go.Proofs.YtgahbngbpfilgaaGreat
end
section
set_option maxHeartbeats 2000000
set_option maxRecDepth 100000
namespace Go.Proofs.YtgahbngbpfilgaaGreat
open Go Go.RowKit
def hErr (p : List GFunc) (f : Int) : Int := if funcErr p f ≠ 0 then funcErr p f else if hts p (p.getD f.toNat default).code = none then 1 else 0
def hList (p : List GFunc) (f : Int) : List Int := if funcErr p f ≠ 0 then [] else (hts p (p.getD f.toNat default).code).getD []
theorem hts_here {p : List GFunc} {f : Int} (h : funcErr p f = 0) : ∃ (n : Nat) (hn : n < p.length), f = n ∧ p.getD f.toNat default = p[n] ∧ RightF p p[n] := by
 obtain ⟨h0, h1, hR⟩ := funcErr_zero h
 have hn : f.toNat < p.length := by omega
 exact ⟨f.toNat, hn, by omega, by simp [List.getD, List.getElem?_eq_getElem hn], hR hn⟩
end Go.Proofs.YtgahbngbpfilgaaGreat
end
