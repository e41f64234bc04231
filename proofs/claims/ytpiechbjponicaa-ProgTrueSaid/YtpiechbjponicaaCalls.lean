/- Contracts of prog.Calls, its visit, and the document's CallsError. -/
import Derived.Test.YtpiechbjponicaaProgC
import Derived.Test.YtpiechbjponicaaSameB
set_option maxHeartbeats 4000000
set_option maxRecDepth 100000
namespace Go.Proofs.Ytpiechbjponicaa
open Go Go.RowKit

theorem RightP.callee {p : List GFunc} (h : RightP p) {k : Nat} (hk : k < p.length) {i : Nat} (hi : i < p[k].code.length) (hc : p[k].code[i].kind = 11 ∨ p[k].code[i].kind = 13) : 0 ≤ p[k].code[i].a ∧ p[k].code[i].a < p.length := by
  have h1 := ok_op (f := (k : Int)) (h.func k hk) (by omega) (by omega) (k := i) (by simpa using hi)
  obtain ⟨_, _, a0, a1, _⟩ := ok_facts h1
  simp only [Int.toNat_natCast] at a0 a1
  refine ⟨a0, ?_⟩
  unfold mostOf at a1
  rw [if_neg (by omega), if_neg (by omega), if_neg (by omega), if_pos hc] at a1
  omega

/-- What a visit finds in memory. -/
structure VEnv (p : List GFunc) (vp : Value) (b7 b2 b8 g base : Nat) (w : World) (o : List Bool) : Prop where
  c7 : w.cell? ⟨b7, 0, none⟩ = some (.slice (some ⟨g, 0, none⟩) p.length p.length)
  c2 : w.cell? ⟨b2, 0, none⟩ = some vp
  c8 : w.cell? ⟨b8, 0, none⟩ = some (.func (.func 54) #[] #[.pointer (some ⟨b7, 0, none⟩), .pointer (some ⟨b2, 0, none⟩), .pointer (some ⟨b8, 0, none⟩)])
  n7 : b7 ≠ g
  n2 : b2 ≠ g
  n8 : b8 ≠ g
  fs : Funcs w (fun b => b ≠ g) vp p
  len : o.length = p.length
  row : BRow w base g o

theorem VEnv.chg {p : List GFunc} {vp : Value} {b7 b2 b8 g base : Nat} {w w' : World} {o o' : List Bool} (h : VEnv p vp b7 b2 b8 g base w o) (hc : Chg (· = g) w w') (hl : o'.length = o.length) (hr : BRow w' base g o') : VEnv p vp b7 b2 b8 g base w' o' :=
  ⟨hc.cell h.n7 h.c7, hc.cell h.n2 h.c2, hc.cell h.n8 h.c8, h.n7, h.n2, h.n8, Funcs.stays (hc.stays (fun _ hb => hb)) h.fs, hl.trans h.len, hr⟩

theorem visit_any (p : List GFunc) (vp : Value) (b7 b2 b8 g base : Nat) (hR : RightP p) : ∀ (m : Nat) (o : List Bool) (k : Nat) (w : World), falses o < m → k < p.length → VEnv p vp b7 b2 b8 g base w o →
    Calls Try.prog 54 #[.int .i64 k, .pointer (some ⟨b7, 0, none⟩), .pointer (some ⟨b2, 0, none⟩), .pointer (some ⟨b8, 0, none⟩)] w fun e w' => (∃ v, e = .returned v) ∧ ∃ o', Vis p k o o' ∧ BRow w' base g o' ∧ Chg (· = g) w w' := by
  intro m
  induction m with
  | zero => intro o k w h; omega
  | succ m ih =>
    intro o k w hm hk hE
    have RA := alloc_keep
    have h5 := hR.most
    have q7 := hE.c7
    have q2 := hE.c2
    have HE := Lib.hid hE
    obtain ⟨r0, r1, hbg⟩ := hE.row.at (k := k) (by rw [hE.len]; exact hk)
    have hg : p.getD k default = p[k] := by simp [List.getD, List.getElem?_eq_getElem hk]
    obtain ⟨bp, op, cap, rfl, hcap, hby, ⟨sC, _⟩, _, vc, hC, hcode⟩ := hE.fs.get hk
    obtain ⟨ca, ccap, rfl, hcc, hcby, hops⟩ := hcode
    have HO := Lib.hid hops
    have HM := Lib.hid hm
    clear hops hm
    have hl24 : p[k].code.length ≤ 24 := (hts_at (hR.func k hk) hk).2.len
    have hol := hE.len
    clear hE
    cases hok : o.getD k false with
    | true =>
      rw [hok] at r0
      have HOK := Lib.hid hok
      clear hok
      go_enter Try.func54, Try.ntmps54
      go_wp2_with fail
      refine bodyPost_ret (results_none rfl _ _ _) rfl ?_
      exact ⟨⟨_, rfl⟩, o, Vis.here HOK.out, HE.out.row, Chg.refl _ _⟩
    | false =>
      rw [hok] at r0
      have HOK := Lib.hid hok
      clear hok
      go_enter Try.func54, Try.ntmps54
      go_upto_region 2 with fail
      have hst := HE.out.row.store (k := k) (by rw [hol]; exact hk) true
      have hch := chg_one w g k (.bool true)
      obtain ⟨w1, hw1⟩ : ∃ w1, w.setCell ⟨g, k, none⟩ (.bool true) = w1 := ⟨_, rfl⟩
      rw [hw1] at hst hch ⊢
      have HS := Lib.hid hst
      have HC := Lib.hid hch
      have HFA := Lib.hid (falses_set (a := o) (k := k) (by omega) HOK.out)
      have q2' := Chg.cell HC.out HE.out.n2 q2
      have hC' := Chg.cell HC.out sC hC
      clear hw1 hst hch r0 r1 q7 q2
      go_wp2_with fail
      clear q2' hC'
      go_loopw [6, 20] (fun _ q wr => ∃ i : Nat, i ≤ p[k].code.length ∧ q = .int .i64 i ∧ ∃ oc, Mid p k i o oc ∧ BRow wr base g oc ∧ Chg (· = g) w wr ∧ falses oc + 1 ≤ falses o) (fun _ q _ => p[k].code.length - (intOf q).toNat)
      case atStart => exact ⟨0, Nat.zero_le _, rfl, _, Mid.start (by omega), HS.out, HC.out, by have := HFA.out; omega⟩
      case round =>
        obtain ⟨i, hi, rfl, oc, hmid, hbr, hcr, hfa⟩ := hrel
        have HMID := Lib.hid hmid
        have HBR := Lib.hid hbr
        have HCR := Lib.hid hcr
        have HFC := Lib.hid hfa
        have hocl : oc.length = p.length := by rw [hmid.len, hol]
        clear hmid hbr hcr hfa HS HC HFA
        by_cases hlt : i < p[k].code.length
        · obtain ⟨cb, co, rfl, ⟨sx, z0, _⟩, _, z1, _⟩ := HO.out i hlt
          have hcal := hR.callee hk (i := i) hlt
          have HSKIP := Lib.hid (HMID.out.skip (i := i) (by rw [hg]; exact hlt))
          have HVIS := Lib.hid (fun c => HMID.out.visit (i := i) (c := c) (by rw [hg]; exact hlt))
          simp only [hg] at HSKIP HVIS
          generalize p[k].code[i] = x at *
          have y0 := Chg.cell HCR.out sx z0
          have y1 := Chg.cell HCR.out sx z1
          have y8 := Chg.cell HCR.out HE.out.n8 HE.out.c8
          clear z0 z1
          have RB : ∀ (w : World) (o : Obj) (a : Addr), (w.cell? a).isSome = true → (w.alloc o).cell? a = w.cell? a := alloc_keep
          by_cases hc : x.kind = 11 ∨ x.kind = 13
          · obtain ⟨ha0, ha1⟩ := hcal hc
            obtain ⟨n2, hn2⟩ : ∃ n2 : Nat, x.a = n2 := ⟨x.a.toNat, by omega⟩
            rw [hn2] at y1
            have HV2 := Lib.hid (fun c => HVIS.out c hc)
            rw [hn2] at HV2
            simp only [Int.toNat_natCast] at HV2
            have hn2' : n2 < p.length := by omega
            by_cases h11 : x.kind = 11
            · have T11 : (x.kind == 11) = true := by simp [h11]
              clear hc h11 HSKIP HVIS
              go_wp2_with (first
                | (go_at_call 54; refine (ih oc n2 _ (by have := HFC.out; have := HM.out; omega) hn2' (VEnv.chg HE.out (HCR.out.alloc _) (by rw [hocl, hol]) (HBR.out.ext ((Ext.refl _).alloc _)))).mono ?_; rintro e w2 ⟨⟨v2, rfl⟩, o2, hv2, hr2, hc2⟩))
              go_roundw
              case rel => exact ⟨i + 1, by omega, by go_num, o2, HV2.out _ hv2, hr2, (HCR.out.alloc _).trans hc2, by have := HFC.out; have := falses_mono hv2.len hv2.more; omega⟩
              case measure => simp [intOf]; omega
            · have T11 : (x.kind == 11) = false := by simp [h11]
              have T13 : (x.kind == 13) = true := by simp; omega
              clear hc h11 HSKIP HVIS
              go_wp2_with (first
                | (go_at_call 54; refine (ih oc n2 _ (by have := HFC.out; have := HM.out; omega) hn2' (VEnv.chg HE.out (HCR.out.alloc _) (by rw [hocl, hol]) (HBR.out.ext ((Ext.refl _).alloc _)))).mono ?_; rintro e w2 ⟨⟨v2, rfl⟩, o2, hv2, hr2, hc2⟩))
              go_roundw
              case rel => exact ⟨i + 1, by omega, by go_num, o2, HV2.out _ hv2, hr2, (HCR.out.alloc _).trans hc2, by have := HFC.out; have := falses_mono hv2.len hv2.more; omega⟩
              case measure => simp [intOf]; omega
          · have T11 : (x.kind == 11) = false := by simp; omega
            have T13 : (x.kind == 13) = false := by simp; omega
            have HS2 := Lib.hid (HSKIP.out hc)
            clear hc HSKIP HVIS hcal
            go_wp2_with fail
            go_roundw
            case rel => exact ⟨i + 1, by omega, by go_num, oc, HS2.out, HBR.out.ext ((Ext.refl _).alloc _), HCR.out.alloc _, HFC.out⟩
            case measure => simp [intOf]; omega
        · obtain rfl : i = p[k].code.length := by omega
          have HD : Hid (Vis p k o oc) := by
            have := HMID.out
            rw [← hg] at this
            exact this.done
          clear hlt
          go_wp2_with fail
          go_end0
          exact ⟨⟨_, rfl⟩, oc, HD.out, HBR.out, HCR.out⟩
end Go.Proofs.Ytpiechbjponicaa
