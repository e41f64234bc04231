/- Contract of the document's CallsOf. -/
import Derived.Test.YtpiechbjponicaaCalls
set_option maxHeartbeats 4000000
set_option maxRecDepth 100000
namespace Go.Proofs.Ytpiechbjponicaa
open Go Go.RowKit

theorem callsOf_any (p : List GFunc) (v : Value) (S : Nat → Prop) (f : Nat) (w : World) (hp : Funcs w S v p) (hR : RightP p) (hf : f < p.length) :
    Calls Try.prog 31 #[v, .int .i64 f] w fun e w' => (∃ o, e = .returned (.slice (some ⟨w.heap.size, 0, none⟩) o.length o.length) ∧ IsCalls p f o ∧ BRow w' w.heap.size w.heap.size o) ∧ Ext w w' := by
  have HP := Lib.hid hp
  have RA := alloc_keep
  have h5 := hR.most
  obtain ⟨a0, cap, rfl, hcap, hby, _⟩ := hp
  obtain ⟨i0, hi0, hz0, hz1, hz2⟩ := info_parts infoB
  go_enter Try.func31, Try.ntmps31
  go_upto_region 2 with (first
    | (at_make; refine wpList_make_full _ rfl _ _ 50 rfl w.heap.size 4 i0 (.bool false) 1 Try.underlying50 hi0 hz0 hz1 .i64 .i64 _ _ p.length rfl rfl rfl rfl (by rw [hz2]; omega) (by unfold maxLen; omega) (Nat.le_refl _) ?_; intro w1 hown1 hgr1))
  have hE := ext_none hgr1
  have hrow := BRow.made hown1
  clear hown1 hgr1
  have hst := hrow.store (k := f) (by simpa using hf) true
  obtain ⟨r0, r1, _⟩ := hrow.at (k := f) (by simpa using hf)
  have hinv : RndInv p f 0 ((List.replicate p.length false).set f true) := by
    have hz : ∀ i, (List.replicate p.length false).getD i false = false := fun i => by
      simp only [List.getD, List.getElem?_replicate]; split <;> rfl
    refine ⟨by simp, getDB_set_same (by simpa using hf) true, fun i hi => ?_, .inr ?_⟩
    · by_cases e : f = i
      · subst e; exact .here
      · rw [getDB_set_other e, hz] at hi; cases hi
    · have := falses_set (a := List.replicate p.length false) (k := f) (by simpa using hf) (hz f)
      have h2 : falses (List.replicate p.length false) = p.length := by unfold falses; rw [List.countP_replicate]; simp
      omega
  have HST := Lib.hid hst
  have HE := Lib.hid hE
  have HINV := Lib.hid hinv
  clear hst hE hinv hrow
  go_wp2_with fail
  go_loopw [6] (fun q wr => ∃ r : Nat, r ≤ p.length ∧ q = .int .i64 r ∧ Ext w wr ∧ ∃ o, RndInv p f r o ∧ BRow wr w.heap.size w.heap.size o) (fun q _ => p.length - (intOf q).toNat)
  case atStart => exact ⟨0, Nat.zero_le _, rfl, HE.out.setCell (p := ⟨w.heap.size, f, none⟩) (Nat.le_refl _) _, _, HINV.out, HST.out⟩
  case round =>
    obtain ⟨r, hr, rfl, hb, o, hinv, hrow⟩ := hrel
    have HB := Lib.hid hb
    have HI := Lib.hid hinv
    have HW := Lib.hid hrow
    have hol := hinv.len
    clear hb hinv hrow HE HST HINV r0 r1
    by_cases hltr : r < p.length
    · rename World => wr1
      go_wp2_with fail
      go_loopw [7] (fun q wr => ∃ k : Nat, k ≤ p.length ∧ q = .int .i64 k ∧ Ext w wr ∧ ∃ oc, RndMid p k o oc ∧ BRow wr w.heap.size w.heap.size oc) (fun q _ => p.length - (intOf q).toNat)
      case atStart => exact ⟨0, Nat.zero_le _, rfl, HB.out, o, RndMid.start p o, HW.out⟩
      case round =>
        obtain ⟨k, hk, rfl, hb2, oc, hmid, hrow2⟩ := hrel
        have HB2 := Lib.hid hb2
        have HM := Lib.hid hmid
        have HW2 := Lib.hid hrow2
        clear hb2 hmid hrow2 HB HW
        by_cases hltk : k < p.length
        · have hg : p.getD k default = p[k] := by simp [List.getD, List.getElem?_eq_getElem hltk]
          obtain ⟨bp, op, cap2, e0, _, _, _, _, vc, hC, hcode⟩ := HP.out.get hltk
          simp only [Value.slice.injEq] at e0
          obtain ⟨rfl, -, rfl⟩ := e0
          obtain ⟨ca, ccap, rfl, hcc, hcby, hops⟩ := hcode
          have HO := Lib.hid hops
          have hl24 : p[k].code.length ≤ 24 := (hts_at (hR.func k hltk) hltk).2.len
          have HC := Lib.hid hC
          clear hC hops
          rename World => wr2
          go_wp2_with fail
          go_loopw [8, 9] (fun q _ wr => ∃ i : Nat, i ≤ p[k].code.length ∧ q = .int .i64 i ∧ Ext w wr ∧ ∃ od, RndOp p k i o od ∧ BRow wr w.heap.size w.heap.size od) (fun q _ _ => p[k].code.length - (intOf q).toNat)
          case atStart => exact ⟨0, Nat.zero_le _, rfl, HB2.out, oc, RndOp.start HM.out, HW2.out⟩
          case round =>
            obtain ⟨i, hi, rfl, hb3, od, hop, hrow3⟩ := hrel
            have HB3 := Lib.hid hb3
            have HOP := Lib.hid hop
            have HW3 := Lib.hid hrow3
            have hodl : od.length = p.length := by rw [hop.len, hol]
            clear hb3 hop hrow3 HB2 HM HW2
            have yc := Ext.cell HB3.out HC.out
            obtain ⟨d0, d1, _⟩ := HW3.out.at (k := k) (by omega)
            by_cases hlti : i < p[k].code.length
            · cases hod : od.getD k false with
              | false =>
                rw [hod] at d0
                have HD := Lib.hid (HOP.out.done_op (.inr hod))
                clear hod
                go_wp2_with fail
                go_roundw
                case rel => exact ⟨k + 1, by omega, by go_num, HB3.out, od, HD.out, HW3.out⟩
                case measure => simp [intOf]; omega
              | true =>
                rw [hod] at d0
                have HOD := Lib.hid hod
                clear hod
                obtain ⟨cb, co, rfl, ⟨_, z0, _⟩, _, z1, _⟩ := HO.out i hlti
                have hcal := hR.callee hltk (i := i) hlti
                have HSKIP := Lib.hid (HOP.out.skip (i := i) (by rw [hg]; exact hlti))
                have HPUT := Lib.hid (HOP.out.put (i := i) (by rw [hg]; exact hlti))
                simp only [hg] at HSKIP HPUT
                generalize p[k].code[i] = x at *
                have y0 := Ext.cell HB3.out z0
                have y1 := Ext.cell HB3.out z1
                clear z0 z1
                by_cases hc : x.kind = 11 ∨ x.kind = 13
                · obtain ⟨ha0, ha1⟩ := hcal hc
                  obtain ⟨n2, hn2⟩ : ∃ n2 : Nat, x.a = n2 := ⟨x.a.toNat, by omega⟩
                  rw [hn2] at y1
                  have HP2 := Lib.hid (HPUT.out hc HOD.out (by omega))
                  rw [hn2] at HP2
                  simp only [Int.toNat_natCast] at HP2
                  have hn2' : n2 < p.length := by omega
                  have hrx := HW3.out.ext ((Ext.refl _).alloc (.cells #[.int .i64 x.kind, .int .i64 n2] 24))
                  obtain ⟨f0, f1, _⟩ := hrx.at (k := n2) (by omega)
                  have HSX := Lib.hid (hrx.store (k := n2) (by omega) true)
                  clear hrx HPUT HSKIP hcal
                  by_cases h11 : x.kind = 11
                  · have T11 : (x.kind == 11) = true := by simp [h11]
                    clear hc h11
                    go_wp2_with fail
                    go_roundw
                    case rel => exact ⟨i + 1, by omega, by go_num, (HB3.out.alloc _).setCell (p := ⟨w.heap.size, n2, none⟩) (Nat.le_refl _) _, _, HP2.out, HSX.out⟩
                    case measure => simp [intOf]; omega
                  · have T11 : (x.kind == 11) = false := by simp [h11]
                    have T13 : (x.kind == 13) = true := by simp; omega
                    clear hc h11
                    go_wp2_with fail
                    go_roundw
                    case rel => exact ⟨i + 1, by omega, by go_num, (HB3.out.alloc _).setCell (p := ⟨w.heap.size, n2, none⟩) (Nat.le_refl _) _, _, HP2.out, HSX.out⟩
                    case measure => simp [intOf]; omega
                · have T11 : (x.kind == 11) = false := by simp; omega
                  have T13 : (x.kind == 13) = false := by simp; omega
                  have HS2 := Lib.hid (HSKIP.out hc)
                  clear hc HSKIP HPUT hcal
                  go_wp2_with fail
                  go_roundw
                  case rel => exact ⟨i + 1, by omega, by go_num, HB3.out.alloc _, od, HS2.out, HW3.out.ext ((Ext.refl _).alloc _)⟩
                  case measure => simp [intOf]; omega
            · obtain rfl : i = p[k].code.length := by omega
              have HD := Lib.hid (HOP.out.done_op (.inl (Nat.le_of_eq (by rw [hg]))))
              clear hlti
              go_wp2_with fail
              go_roundw
              case rel => exact ⟨k + 1, by omega, by go_num, HB3.out, od, HD.out, HW3.out⟩
              case measure => simp [intOf]; omega
        · obtain rfl : k = p.length := by omega
          clear hltk
          go_wp2_with fail
          go_roundw
          case rel => exact ⟨r + 1, by omega, by go_num, HB2.out, oc, HI.out.next HM.out, HW2.out⟩
          case measure => simp [intOf]; omega
    · obtain rfl : r = p.length := by omega
      have HEND := Lib.hid HI.out.end_
      clear hltr
      go_wp2_with fail
      go_ret
      exact ⟨⟨o, by rw [hol]; rfl, HEND.out, HW.out⟩, HB.out⟩
end Go.Proofs.Ytpiechbjponicaa
