/- Merged texts: contracts and plain facts, one part behind another; each part begins with what it says. -/
import Derived.Test.YtpcjkfppacnkgaaGreatDoorGJAD
import Derived.Test.YtpcjkfppacnkgaaGreatDoorGJAF
import Derived.Test.YtpcjkfppacnkgaaGreatDoorGJAH
section
/- Contracts of SameFuncs and SameProgs. -/
set_option maxHeartbeats 2000000
set_option maxRecDepth 100000
namespace Go.Proofs.YtpcjkfppacnkgaaGreatDoor
open Go Go.RowKit

theorem take_succ_same {α : Type} {a b : List α} {k : Nat} (h1 : k < a.length) (h2 : k < b.length) (ht : a.take k = b.take k) (h : a[k] = b[k]) : a.take (k + 1) = b.take (k + 1) := by
  rw [List.take_succ_eq_append_getElem h1, List.take_succ_eq_append_getElem h2, ht, h]
theorem take_all_same {α : Type} {a b : List α} (hl : a.length = b.length) (ht : a.take a.length = b.take a.length) : a = b := by
  rw [List.take_length, hl, List.take_length] at ht; exact ht

theorem sameFuncs_any (a b : GFunc) (va vb : Value) (S T : Nat → Prop) (w : World) (ha : FuncV w S va a) (hb : FuncV w T vb b) :
    Calls Tryz.prog 53 #[va, vb] w fun e w' => e = .returned (.bool (decide (a = b))) ∧ Ext w w' := by
  obtain ⟨sa, rfl, _, _, ha⟩ := ha
  obtain ⟨sb, rfl, _, _, hb⟩ := hb
  have RA := alloc_keep
  have HA := Lib.hid ha
  have HB := Lib.hid hb
  obtain ⟨pa, ca, rfl, hca, hba, _⟩ := ha
  obtain ⟨pb, cb, rfl, hcb, hbb, _⟩ := hb
  obtain ⟨t, ht⟩ : ∃ t, decide (a = b) = t := ⟨_, rfl⟩
  rw [ht]
  have HT := Lib.hid ht
  clear ht
  obtain ⟨aa, al, ac⟩ := a
  obtain ⟨ba, bl, bc⟩ := b
  simp only at *
  go_enter Tryz.func53, Tryz.ntmps53
  by_cases h1 : aa = ba
  · subst h1
    have T1 : (aa != aa) = false := by rw [bne_eq_false_iff_eq]
    by_cases h2 : al = bl
    · subst h2
      have T2 : (al != al) = false := by rw [bne_eq_false_iff_eq]
      by_cases hl : ac.length = bc.length
      · have TL : ((ac.length : Int) != (bc.length : Int)) = false := by rw [bne_eq_false_iff_eq]; omega
        go_wp2_with fail
        generalize hW : (w.alloc _).alloc _ = W2
        have hE : Ext w W2 := by rw [← hW]; exact ((Ext.refl w).alloc _).alloc _
        have ca2 : W2.cell? ⟨w.heap.size, 2, none⟩ = some (.slice pa bc.length ca) := by rw [← hW]; rw [alloc_keep _ _ _ (by simp)]; simp
        have cb2 : W2.cell? ⟨w.heap.size + 1, 2, none⟩ = some (.slice pb bc.length cb) := by rw [← hW]; simp
        clear hW
        go_loopw [5] (fun q wr => ∃ k : Nat, k ≤ bc.length ∧ q = .int .i64 k ∧ Ext W2 wr ∧ ac.take k = bc.take k) (fun q _ => bc.length - (intOf q).toNat)
        case atStart => exact ⟨0, Nat.zero_le _, rfl, Ext.refl _, rfl⟩
        case round =>
          obtain ⟨k, hk, rfl, hb3, htk⟩ := hrel
          have HB3 := Lib.hid hb3
          have HTK := Lib.hid htk
          have HE := Lib.hid hE
          clear hb3 htk hE
          have da2 := Ext.cell HB3.out ca2
          have db2 := Ext.cell HB3.out cb2
          by_cases hlt : k < bc.length
          · have hlt' : k < ac.length := by omega
            obtain ⟨ba, oa, _, e1, _, _, ⟨_, x0, _⟩, ⟨_, x1, _⟩⟩ := HA.out.get hlt'
            obtain ⟨bb, ob, _, e2, _, _, ⟨_, y0, _⟩, ⟨_, y1, _⟩⟩ := HB.out.get hlt
            simp only [Value.slice.injEq] at e1 e2
            obtain ⟨rfl, -, rfl⟩ := e1
            obtain ⟨rfl, -, rfl⟩ := e2
            have hE2 := HE.out.trans HB3.out
            have x0' := Ext.cell hE2 x0
            have x1' := Ext.cell hE2 x1
            have y0' := Ext.cell hE2 y0
            have y1' := Ext.cell hE2 y1
            have HSE := Lib.hid (fun h => take_succ_same hlt' hlt HTK.out h)
            have HNE : Hid (ac[k] ≠ bc[k] → t = false) := by
              unfold Hid
              intro h
              rw [← HT.out]
              exact decide_eq_false (fun e => h (by simp only [GFunc.mk.injEq] at e; simp [e.2.2]))
            clear x0 x1 y0 y1 ca2 cb2 hE2
            generalize ac[k] = x at *
            generalize bc[k] = y at *
            obtain ⟨xk, xa⟩ := x
            obtain ⟨yk, ya⟩ := y
            simp only at *
            clear HT
            by_cases hxk : xk = yk
            · subst hxk
              have T3 : (xk == xk) = true := by simp
              by_cases hxa : xa = ya
              · subst hxa
                have T4 : (xa == xa) = true := by simp
                have HS := Lib.hid (HSE.out rfl)
                clear HSE HNE
                go_wp2_with fail
                go_big_quiet (fail)
                go_wp2_with fail
                go_roundw
                case rel => exact ⟨k + 1, by omega, by go_num, HB3.out.drewN _, HS.out⟩
                case measure => simp [intOf]; omega
              · have T4 : (xa == ya) = false := by simpa using hxa
                have HF : Hid (t = false) := HNE.out (by simpa using hxa)
                clear hxa HSE HNE
                go_wp2_with fail
                go_big_quiet (fail)
                go_wp2_with fail
                go_ret
                exact ⟨by rw [HF.out]; rfl, HE.out.trans (HB3.out.drewN _)⟩
            · have T3 : (xk == yk) = false := by simpa using hxk
              have HF : Hid (t = false) := HNE.out (by intro e; simp at e; exact hxk e.1)
              clear hxk HSE HNE
              go_wp2_with fail
              go_big_quiet (fail)
              go_wp2_with fail
              go_ret
              exact ⟨by rw [HF.out]; rfl, HE.out.trans (HB3.out.drewN _)⟩
          · obtain rfl : k = bc.length := by omega
            have HF : Hid (t = true) := by
              unfold Hid
              rw [← HT.out]
              have := take_all_same hl (by rw [hl]; exact HTK.out)
              rw [this]
              exact decide_eq_true rfl
            clear hlt
            go_wp2_with fail
            go_ret
            exact ⟨by rw [HF.out]; rfl, HE.out.trans HB3.out⟩
      · have TL : ((ac.length : Int) != (bc.length : Int)) = true := bne_iff_ne.2 (by omega)
        have HF : Hid (t = false) := by
          unfold Hid
          rw [← HT.out]
          exact decide_eq_false (fun e => hl (by simp only [GFunc.mk.injEq] at e; rw [e.2.2]))
        clear hl
        go_wp2_with fail
        go_ret
        exact ⟨by rw [HF.out]; rfl, ((Ext.refl w).alloc _).alloc _⟩
    · have T2 : (al != bl) = true := bne_iff_ne.2 h2
      have HF : Hid (t = false) := by
        unfold Hid
        rw [← HT.out]
        exact decide_eq_false (fun e => h2 (by simp only [GFunc.mk.injEq] at e; exact e.2.1))
      clear h2
      go_wp2_with fail
      go_ret
      exact ⟨by rw [HF.out]; rfl, ((Ext.refl w).alloc _).alloc _⟩
  · have T1 : (aa != ba) = true := bne_iff_ne.2 h1
    have HF : Hid (t = false) := by
      unfold Hid
      rw [← HT.out]
      exact decide_eq_false (fun e => h1 (by simp only [GFunc.mk.injEq] at e; exact e.1))
    clear h1
    go_wp2_with fail
    go_ret
    exact ⟨by rw [HF.out]; rfl, ((Ext.refl w).alloc _).alloc _⟩

theorem FuncC.toV {w : World} {S : Nat → Prop} {b o : Nat} {f : GFunc} (h : FuncC w S b o f) : ∃ v, FuncV w S (.agg #[.int .i64 f.args, .int .i64 f.locals, v]) f ∧ w.cell? ⟨b, o + 2, none⟩ = some v := by
  obtain ⟨⟨_, _, a⟩, ⟨_, _, l⟩, v, hv, hc⟩ := h
  exact ⟨v, ⟨v, rfl, a, l, hc⟩, hv⟩
end Go.Proofs.YtpcjkfppacnkgaaGreatDoor
end
section
/- Contract of SameProgs. -/
set_option maxHeartbeats 2000000
set_option maxRecDepth 100000
namespace Go.Proofs.YtpcjkfppacnkgaaGreatDoor
open Go Go.RowKit

theorem sameProgs_any (a b : List GFunc) (va vb : Value) (S T : Nat → Prop) (w : World) (ha : Funcs w S va a) (hb : Funcs w T vb b) :
    Calls Tryz.prog 19 #[va, vb] w fun e w' => e = .returned (.bool (decide (a = b))) ∧ Ext w w' := by
  have HA := Lib.hid ha
  have HB := Lib.hid hb
  obtain ⟨pa, ca, rfl, hca, hba, _⟩ := ha
  obtain ⟨pb, cb, rfl, hcb, hbb, _⟩ := hb
  obtain ⟨t, ht⟩ : ∃ t, decide (a = b) = t := ⟨_, rfl⟩
  rw [ht]
  have HT := Lib.hid ht
  clear ht
  go_enter Tryz.func19, Tryz.ntmps19
  by_cases hl : a.length = b.length
  · have TL : ((a.length : Int) != (b.length : Int)) = false := by rw [bne_eq_false_iff_eq]; omega
    go_wp2_with fail
    go_loopw [5] (fun q wr => ∃ k : Nat, k ≤ b.length ∧ q = .int .i64 k ∧ Ext w wr ∧ a.take k = b.take k) (fun q _ => b.length - (intOf q).toNat)
    case atStart => exact ⟨0, Nat.zero_le _, rfl, Ext.refl _, rfl⟩
    case round =>
      obtain ⟨k, hk, rfl, hb3, htk⟩ := hrel
      have HB3 := Lib.hid hb3
      have HTK := Lib.hid htk
      clear hb3 htk
      by_cases hlt : k < b.length
      · have hlt' : k < a.length := by omega
        obtain ⟨bba, oa, _, e1, _, _, x0⟩ := HA.out.get hlt'
        obtain ⟨bb, ob, _, e2, _, _, y0⟩ := HB.out.get hlt
        simp only [Value.slice.injEq] at e1 e2
        obtain ⟨rfl, -, rfl⟩ := e1
        obtain ⟨rfl, -, rfl⟩ := e2
        have X := FuncC.stays HB3.out.stays x0
        have Y := FuncC.stays HB3.out.stays y0
        have HSE := Lib.hid (fun h => take_succ_same hlt' hlt HTK.out h)
        have HNE : Hid (a[k] ≠ b[k] → t = false) := by
          unfold Hid
          intro h
          rw [← HT.out]
          exact decide_eq_false (fun e => h (by simp [e]))
        clear x0 y0 HT
        generalize a[k] = x at *
        generalize b[k] = y at *
        obtain ⟨vx, hx, x2⟩ := X.toV
        obtain ⟨vy, hy, y2⟩ := Y.toV
        obtain ⟨⟨_, x0, _⟩, ⟨_, x1, _⟩, _⟩ := X
        obtain ⟨⟨_, y0, _⟩, ⟨_, y1, _⟩, _⟩ := Y
        have HX := Lib.hid hx
        have HY := Lib.hid hy
        clear hx hy
        cases hd : decide (x = y) with
        | true =>
          have HS := Lib.hid (HSE.out (of_decide_eq_true hd))
          have HD := Lib.hid hd
          clear HSE HNE hd
          go_wp2_with fail
          refine wp_region_ext (by kernel_rfl) (by kernel_rfl) ?_
          repeat (first
            | go_big_quiet_skip
            | (go_big_quiet_want
               unfold Oper.quiet
               apply Exists.intro
               refine ⟨fun w' hw' => ?_, ?_⟩
               focus
                 have hcq := Ext.keep hw'
                 go_simp
                 first
                   | with_reducible rfl
                   | (go_at_call 53; refine (sameFuncs_any x y _ _ S T _ (FuncV.stays (Ext.stays hw') HX.out) (FuncV.stays (Ext.stays hw') HY.out)).mono ?_; rintro e w2 ⟨rfl, hx2⟩; rw [HD.out]; exact ⟨rfl, hw'.trans hx2⟩)
               (try dsimp only [Act.put])
               (try simp only [List.setIfInBounds_toArray, List.set_cons_succ, List.set_cons_zero])
               go_big_quiet_on))
          refine wpQuiet_nil ?_
          intro wq hq
          go_wp2_with fail
          go_roundw
          case rel => exact ⟨k + 1, by omega, by go_num, HB3.out.trans hq, HS.out⟩
          case measure => simp [intOf]; omega
        | false =>
          have HF := Lib.hid (HNE.out (of_decide_eq_false hd))
          have HD := Lib.hid hd
          clear HSE HNE hd
          go_wp2_with fail
          refine wp_region_ext (by kernel_rfl) (by kernel_rfl) ?_
          repeat (first
            | go_big_quiet_skip
            | (go_big_quiet_want
               unfold Oper.quiet
               apply Exists.intro
               refine ⟨fun w' hw' => ?_, ?_⟩
               focus
                 have hcq := Ext.keep hw'
                 go_simp
                 first
                   | with_reducible rfl
                   | (go_at_call 53; refine (sameFuncs_any x y _ _ S T _ (FuncV.stays (Ext.stays hw') HX.out) (FuncV.stays (Ext.stays hw') HY.out)).mono ?_; rintro e w2 ⟨rfl, hx2⟩; rw [HD.out]; exact ⟨rfl, hw'.trans hx2⟩)
               (try dsimp only [Act.put])
               (try simp only [List.setIfInBounds_toArray, List.set_cons_succ, List.set_cons_zero])
               go_big_quiet_on))
          refine wpQuiet_nil ?_
          intro wq hq
          go_wp2_with fail
          go_ret
          exact ⟨by rw [HF.out]; rfl, HB3.out.trans hq⟩
      · obtain rfl : k = b.length := by omega
        have HF : Hid (t = true) := by
          unfold Hid
          rw [← HT.out]
          exact decide_eq_true (take_all_same hl (by rw [hl]; exact HTK.out))
        clear hlt
        go_wp2_with fail
        go_ret
        exact ⟨by rw [HF.out]; rfl, HB3.out⟩
  · have TL : ((a.length : Int) != (b.length : Int)) = true := bne_iff_ne.2 (by omega)
    have HF : Hid (t = false) := by
      unfold Hid
      rw [← HT.out]
      exact decide_eq_false (fun e => hl (by rw [e]))
    clear hl
    go_wp2_with fail
    go_ret
    exact ⟨by rw [HF.out]; rfl, Ext.refl _⟩
end Go.Proofs.YtpcjkfppacnkgaaGreatDoor
end
section
/- Contracts of SameBools, and rows of Bools of the call's own. -/
set_option maxHeartbeats 2000000
set_option maxRecDepth 100000
namespace Go.Proofs.YtpcjkfppacnkgaaGreatDoor
open Go Go.RowKit

def bools (l : List Bool) : List Value := l.map Value.bool
theorem bools_set (l : List Bool) (k : Nat) (n : Bool) : (bools l).set k (.bool n) = bools (l.set k n) := by simp [bools, List.map_set]
theorem bools_get (l : List Bool) (k : Nat) (h : k < l.length) : (bools l)[k]? = some (.bool (l.getD k false)) := by simp [bools, List.getD, h]

/-- A row of Bools at the head of block g. -/
def BRow (w : World) (base g : Nat) (l : List Bool) : Prop := RowAt w base 1 (.slice (some ⟨g, 0, none⟩) l.length l.length) l.length (bools l)
theorem BRow.at {w : World} {base g : Nat} {l : List Bool} (h : BRow w base g l) {k : Nat} (hk : k < l.length) : w.cell? ⟨g, k, none⟩ = some (.bool (l.getD k false)) ∧ w.frozen? ⟨g, k, none⟩ = false ∧ base ≤ g := by
  obtain ⟨g', o, e, hb, hc⟩ := h.cell (by omega)
  simp only [Option.some.injEq, Addr.mk.injEq] at e
  obtain ⟨rfl, rfl, -⟩ := e
  have := hc k (by omega)
  rw [Nat.zero_add, bools_get l k hk] at this
  exact ⟨this.1, this.2, hb⟩
theorem BRow.store {w : World} {base g : Nat} {l : List Bool} (h : BRow w base g l) {k : Nat} (hk : k < l.length) (n : Bool) : BRow (w.setCell ⟨g, k, none⟩ (.bool n)) base g (l.set k n) := by
  have := RowAt.store h (j := k) (by omega) (.bool n)
  rw [Nat.zero_add, bools_set] at this
  unfold BRow
  rw [List.length_set]
  exact this
theorem BRow.ext {w w' : World} {base g : Nat} {l : List Bool} (h : BRow w base g l) (he : Ext w w') : BRow w' base g l := RowAt.ext h he (by decide)
theorem BRow.bools {w : World} {base g : Nat} {l : List Bool} (h : BRow w base g l) (hb : l.length ≤ 1000000) (S : Nat → Prop) (hS : ∀ b, base ≤ b → S b) : Bools w S (.slice (some ⟨g, 0, none⟩) l.length l.length) l := by
  refine ⟨_, _, rfl, Nat.le_refl _, ⟨by omega, by omega⟩, fun i hi => ?_⟩
  obtain ⟨c, _, hbg⟩ := h.at hi
  refine ⟨g, 0, rfl, hS _ hbg, ?_⟩
  rw [Nat.zero_add, Nat.mul_one, c]
  simp [List.getD, List.getElem?_eq_getElem hi]
theorem BRow.made {w : World} {base : Nat} {e : TypeId} {g n : Nat} (h : w.ownsRow base e 1 (.slice (some ⟨g, 0, none⟩) n n) n (madeCells (Value.bool false).cells (n * 1)).toList) : BRow w base g (List.replicate n false) := by
  have := RowAt.of_own h
  unfold BRow
  rw [List.length_replicate]
  rw [show (Value.bool false).cells = #[.bool false] from rfl, toList_madeCells_one, Nat.mul_one] at this
  rwa [show Proofs.YtpcjkfppacnkgaaGreatDoor.bools (List.replicate n false) = List.replicate n (Value.bool false) by simp [Proofs.YtpcjkfppacnkgaaGreatDoor.bools]]
end Go.Proofs.YtpcjkfppacnkgaaGreatDoor
end
section
/- Contracts of prog.Calls, its visit, and the document's CallsError. -/
set_option maxHeartbeats 4000000
set_option maxRecDepth 100000
namespace Go.Proofs.YtpcjkfppacnkgaaGreatDoor
open Go Go.RowKit

theorem RightP.callee {p : List GFunc} (h : RightP p) {k : Nat} (hk : k < p.length) {i : Nat} (hi : i < p[k].code.length) (hc : p[k].code[i].kind = 11 ∨ p[k].code[i].kind = 13) : 0 ≤ p[k].code[i].a ∧ p[k].code[i].a < p.length := by
  have h1 := ok_op (f := (k : Int)) (h.func k hk) (by omega) (by omega) (k := i) (by simpa using hi)
  obtain ⟨_, _, a0, a1, _⟩ := ok_facts h1
  simp only [Int.toNat_natCast] at a0 a1
  refine ⟨a0, ?_⟩
  unfold mostOf at a1
  rw [if_neg (by omega), if_neg (by omega), if_neg (by omega), if_pos hc] at a1
  omega

end Go.Proofs.YtpcjkfppacnkgaaGreatDoor
end
