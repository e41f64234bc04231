/- Merged texts: contracts and plain facts, one part behind another; each part begins with what it says. -/
import Derived.Test.YtpcjkfppacnkgaaGreatDoorGKAE
import Derived.Test.YtpcjkfppacnkgaaGreatDoorGKAF
import Derived.Test.YtpcjkfppacnkgaaGreatDoorGKAG
import Derived.Laws.ResultCell
import Derived.Maps.OwnOps
import Derived.Maps.Views
section
/- Contract of trim.Of. -/
set_option maxHeartbeats 4000000
set_option maxRecDepth 100000
namespace Go.Proofs.YtpcjkfppacnkgaaGreatDoor
open Go Go.RowKit Go.Maps

/-- A map of ints with at most n keys, that answers f. -/
def MapN (w : World) (b n : Nat) (f : Int → Int) : Prop :=
  ∃ D : DataW Unit, w.ownsMap Tryz.prog 3 (plainElem Tryz.prog 3) b n D ∧ IsMap D ∧ ∀ k, D.atKey (.int .i64 k) (.lit (.int .i64 0)) = .lit (.int .i64 (f k))
theorem MapN.made (w : World) : MapN (w.alloc (.map #[] 0)) w.heap.size 0 (fun _ => 0) := ⟨.map [], World.ownsMap_made w _ _ _, isMap_empty, fun _ => rfl⟩
theorem MapN.chg {M : Nat → Prop} {w w' : World} {b n : Nat} {f : Int → Int} (h : MapN w b n f) (hc : Chg M w w') (hM : ¬ M b) : MapN w' b n f := by
  obtain ⟨D, ⟨es, clock, hb, h2⟩, h3⟩ := h
  exact ⟨D, ⟨es, clock, hc.heap hM hb, h2⟩, h3⟩
theorem MapN.ext {w w' : World} {b n : Nat} {f : Int → Int} (h : MapN w b n f) (hc : Ext w w') : MapN w' b n f := h.chg (M := fun _ => False) (Chg.of_ext hc) (fun h => h)
theorem MapN.lt {w : World} {b n : Nat} {f : Int → Int} (h : MapN w b n f) : b < w.heap.size := by
  obtain ⟨D, h1, _⟩ := h
  exact h1.lt
theorem MapN.more {w : World} {b n n' : Nat} {f g : Int → Int} (h : MapN w b n f) (hn : n ≤ n') (hf : ∀ k, f k = g k) : MapN w b n' g := by
  obtain ⟨D, h1, h2, h3⟩ := h
  exact ⟨D, h1.mono hn, h2, fun k => by rw [h3 k, hf k]⟩
theorem MapN.put {w : World} {b n n' : Nat} {f g : Int → Int} {D : DataW Unit} {x y : Int} (h : w.ownsMap Tryz.prog 3 (plainElem Tryz.prog 3) b n' (D.put (.int .i64 x) (.lit (.int .i64 y)))) (hD : IsMap D)
    (hf : ∀ k, D.atKey (.int .i64 k) (.lit (.int .i64 0)) = .lit (.int .i64 (f k))) (hn : n' ≤ n) (hx : g x = y) (hg : ∀ k, k ≠ x → g k = f k) : MapN w b n g := by
  refine ⟨_, h.mono hn, hD.put _ _, fun k => ?_⟩
  by_cases e : k = x
  · subst e
    rw [atKey_put_same hD (by unfold WideAt.IsKeyLit; trivial), hx]
  · rw [atKey_put_other (by intro h; injection h with _ h2; exact e h2), hf k, hg k e]

/-- The map behind k rounds. -/
def mapF (l : List Int) (k : Nat) (j : Int) : Int := if 0 ≤ j ∧ j < k ∧ 0 ≤ l.getD j.toNat 0 then keepN l j.toNat else 0
theorem mapF_here {l : List Int} {k : Nat} (h : 0 ≤ l.getD k 0) : mapF l (k + 1) k = keepN l k := by
  unfold mapF
  rw [if_pos ⟨by omega, by omega, by simpa using h⟩]
  rfl
theorem mapF_other {l : List Int} {k : Nat} (j : Int) (e : j ≠ k) : mapF l (k + 1) j = mapF l k j := by
  unfold mapF
  have : (0 ≤ j ∧ j < k ∧ 0 ≤ l.getD j.toNat 0) ↔ (0 ≤ j ∧ j < (k + 1 : Nat) ∧ 0 ≤ l.getD j.toNat 0) := by omega
  simp only [this]
/-- The state of both loops. -/
structure TO (w2 w5 : World) (m b8 : Nat) (A L : Int) (l : List Int) (k : Nat) (cur : List GOp) (wx : World) : Prop where
  ext : Ext w2 wx
  mp : MapN wx m k (mapF l k)
  c0 : Cx wx b8 0 (.int .i64 A)
  c1 : Cx wx b8 1 (.int .i64 L)
  c2 : ∃ v, Cx wx b8 2 v ∧ RowAt wx (b8 + 1) 2 v cur.length (cur.flatMap opF)
  size : w5.heap.size ≤ wx.heap.size

/-- One op more behind the row. -/
theorem TO.grow {w2 w5 : World} {m b8 : Nat} {A L : Int} {l : List Int} {k : Nat} {acc : List GOp} {wx W7 W8 : World} {y : GOp} {v v1 : Value} (h : TO w2 w5 m b8 A L l k acc wx) (hb : w2.heap.size ≤ b8) (hg : m < b8)
    (he : Ext wx W7) (hc : Cx wx b8 2 v) (hr : RowAt wx (b8 + 1) 2 v acc.length (acc.flatMap opF)) (hn : NewRow W7 W8 (b8 + 1) 2 v v1 (acc.length + 1) (acc.flatMap opF ++ opF y)) :
    TO w2 w5 m b8 A L l k (acc ++ [y]) (W8.setCell ⟨b8, 2, none⟩ v1) ∧ Cx W8 b8 2 v := by
  have hM : ∀ q, rowBlock v = some q → b8 + 1 ≤ q := hr.le
  have hch := hn.2.1
  have k2 : Cx W8 b8 2 v := (hc.ext he).chg hch (fun e => by have := hM _ e; omega)
  refine ⟨⟨?_, ?_, ?_, ?_, ⟨v1, k2.set v1, ?_⟩, ?_⟩, k2⟩
  · exact (Chg.ext_from (h.ext.trans he) hch (fun q e => by have := hM _ e; omega)).setCell (p := ⟨b8, 2, none⟩) hb _
  · exact ((h.mp.ext he).chg hch (fun e => by have := hM _ e; omega)).chg (chg_one W8 b8 2 v1) (by omega)
  · exact ((h.c0.ext he).chg hch (fun e => by have := hM _ e; omega)).other (.inr (by omega)) _
  · exact ((h.c1.ext he).chg hch (fun e => by have := hM _ e; omega)).other (.inr (by omega)) _
  · rw [List.length_append, List.length_singleton, List.flatMap_append, List.flatMap_singleton]
    exact hn.1.chg (chg_one W8 b8 2 v1) (fun q e hq => by have := hn.1.le _ e; omega) (by decide)
  · have e1 := h.size
    have e2 := he.size
    have e3 := hch.size
    have e4 : (W8.setCell ⟨b8, 2, none⟩ v1).heap.size = W8.heap.size := size_setCells b8 [v1] 2 W8
    omega

/-- One key more. -/
theorem TO.put {w2 w5 : World} {m b8 : Nat} {A L : Int} {l : List Int} {k : Nat} {acc : List GOp} {W6 W7 : World} {v : Value} {D : DataW Unit} (h : TO w2 w5 m b8 A L l k acc W6) (hb : w2.heap.size ≤ m) (hm : m < b8)
    (h0 : 0 ≤ l.getD k 0) (hal : acc.length = keepN l k) (hD : IsMap D) (hf : ∀ k', D.atKey (.int .i64 k') (.lit (.int .i64 0)) = .lit (.int .i64 (mapF l k k')))
    (hown : W7.ownsMap Tryz.prog 3 (plainElem Tryz.prog 3) m (k + 1) (D.put (.int .i64 k) (.lit (.int .i64 acc.length)))) (hg : W6.grownBy W7 (some m)) (hc : Cx W6 b8 2 v) (hr : RowAt W6 (b8 + 1) 2 v acc.length (acc.flatMap opF)) :
    (TO w2 w5 m b8 A L l (k + 1) acc W7 ∧ Cx W7 b8 2 v ∧ RowAt W7 (b8 + 1) 2 v acc.length (acc.flatMap opF)) ∧ Chg (· = m) W6 W7 := by
  have hch : Chg (· = m) W6 W7 := (Chg.refl _ _).grown hg (fun k e => by cases e; exact .inl rfl)
  have k2 := hc.chg hch (by omega)
  have k3 : RowAt W7 (b8 + 1) 2 v acc.length (acc.flatMap opF) := hr.chg hch (fun q e hq => by have := hr.le _ e; omega) (by decide)
  refine ⟨⟨⟨?_, ?_, h.c0.chg hch (by omega), h.c1.chg hch (by omega), ⟨v, k2, k3⟩, Nat.le_trans h.size hch.size⟩, k2, k3⟩, hch⟩
  · exact Chg.ext_from h.ext hch (fun q e => by omega)
  · exact MapN.put hown hD hf (Nat.le_refl _) (by rw [mapF_here h0, hal]) (fun j e => mapF_other j e)

theorem opF_set {cur : List GOp} {j : Nat} (hj : j < cur.length) (n : Int) : (cur.flatMap opF).set (j * 2 + 1) (.int .i64 n) = (cur.set j ⟨cur[j].kind, n⟩).flatMap opF := by
  induction cur generalizing j with
  | nil => simp at hj
  | cons x cur ih =>
    cases j with
    | zero => simp [opF]
    | succ j =>
      have := ih (j := j) (by simpa using hj)
      rw [List.flatMap_cons, Nat.succ_mul]
      simpa [opF] using this
/-- An op of the row is set. -/
theorem TO.store {w2 w5 : World} {m b8 : Nat} {A L : Int} {l : List Int} {k : Nat} {cur : List GOp} {wx : World} {g o cap j : Nat} (h : TO w2 w5 m b8 A L l k cur wx) (hb : w2.heap.size ≤ b8) (hm : m < b8)
    (hc : Cx wx b8 2 (.slice (some ⟨g, o, none⟩) cur.length cap)) (hr : RowAt wx (b8 + 1) 2 (.slice (some ⟨g, o, none⟩) cur.length cap) cur.length (cur.flatMap opF)) (hg : b8 + 1 ≤ g) (hj : j < cur.length) (n : Int) :
    TO w2 w5 m b8 A L l k (cur.set j ⟨cur[j].kind, n⟩) (wx.setCell ⟨g, o + j * 2 + 1, none⟩ (.int .i64 n)) := by
  rw [Nat.add_assoc]
  have hch := chg_one wx g (o + (j * 2 + 1)) (.int .i64 n)
  refine ⟨h.ext.setCell (p := ⟨g, _, none⟩) (show w2.heap.size ≤ g by omega) _, h.mp.chg hch (by omega), h.c0.chg hch (by omega), h.c1.chg hch (by omega), ⟨_, hc.chg hch (by omega), ?_⟩, Nat.le_trans h.size hch.size⟩
  have := hr.store (j := j * 2 + 1) (by omega) (.int .i64 n)
  rw [opF_set hj] at this
  rw [List.length_set]
  exact this

end Go.Proofs.YtpcjkfppacnkgaaGreatDoor
end
section
/- Contracts of prog.Check and the document's ProgError. -/
set_option maxHeartbeats 2000000
set_option maxRecDepth 100000
namespace Go.Proofs.YtpcjkfppacnkgaaGreatDoor
open Go Go.RowKit

theorem hts_at {p : List GFunc} {k : Nat} (h : funcErr p k = 0) (hk : k < p.length) : p.getD k default = p[k] ∧ RightF p p[k] := by
  obtain ⟨n, hn, e, hg, hR⟩ := hts_here h
  obtain rfl : k = n := by omega
  exact ⟨by simpa using hg, hR⟩

theorem progCheck_any (p : List GFunc) (v : Value) (S : Nat → Prop) (w : World) (hp : Funcs w S v p) :
    Calls Tryz.prog 36 #[v] w fun e w' => e = .returned (.int .i64 (progErr p)) ∧ Ext w w' := by
  have HP := Lib.hid hp
  obtain ⟨r, hr⟩ : ∃ r, progErr p = r := ⟨_, rfl⟩
  rw [hr]
  have HR := Lib.hid hr
  clear hr
  have hp0 := hp
  obtain ⟨a, cap, rfl, hcap, hby, _⟩ := hp
  by_cases h1 : 5 < p.length
  · have hres : r = 2 := by rw [← HR.out]; unfold progErr; rw [if_pos h1]
    subst hres
    clear hp0
    go_enter Tryz.func36, Tryz.ntmps36
    go_wp2_with fail
    go_ret
    exact ⟨rfl, Ext.refl _⟩
  · by_cases h2 : p.length = 0
    · have hres : r = 5 := by rw [← HR.out]; unfold progErr; rw [if_neg h1, if_pos h2]
      subst hres
      have TZ : ((p.length : Int) == 0) = true := by simp [h2]
      clear hp0 h2
      go_enter Tryz.func36, Tryz.ntmps36
      go_wp2_with fail
      go_ret
      exact ⟨rfl, Ext.refl _⟩
    · have hpos : 0 < p.length := by omega
      have TZ : ((p.length : Int) == 0) = false := beq_eq_false_iff_ne.2 (by omega)
      have h5 : p.length ≤ 5 := by omega
      obtain ⟨b, o, cap', e0, _, _, ⟨_, x0, _⟩, _, _⟩ := hp0.get hpos
      simp only [Value.slice.injEq] at e0
      obtain ⟨rfl, -, rfl⟩ := e0
      rw [Nat.zero_mul, Nat.add_zero] at x0
      have e1 : p.getD 0 default = p[0] := by simp [List.getD, List.getElem?_eq_getElem hpos]
      by_cases h3 : p[0].args ≠ 0
      · have hres : r = 1 := by rw [← HR.out]; unfold progErr; rw [if_neg h1, if_neg h2, e1, if_pos h3]
        subst hres
        have T3 : (p[0].args != 0) = true := bne_iff_ne.2 h3
        clear hp0 h2 h3 e1 h1
        go_enter Tryz.func36, Tryz.ntmps36
        go_wp2_with fail
        go_ret
        exact ⟨rfl, Ext.refl _⟩
      · have HRES : Hid (r = if firstFrom p 0 ≠ 0 then firstFrom p 0 else if allFrom p 0 = true then 0 else 1) := by
          unfold Hid
          rw [← HR.out, ← firstFrom_zero, ← allFrom_zero]
          unfold progErr
          rw [if_neg h1, if_neg h2, e1, if_neg h3]
        have T3 : (p[0].args != 0) = false := by rw [bne_eq_false_iff_eq]; exact Decidable.byContradiction h3
        clear hp0 h2 h3 e1 HR h1
        go_enter Tryz.func36, Tryz.ntmps36
        go_wp2_with fail
        go_loopw [24] (fun q wr => ∃ k : Nat, k ≤ p.length ∧ q = .int .i64 k ∧ Ext w wr ∧ firstFrom p k = firstFrom p 0) (fun q _ => p.length - (intOf q).toNat)
        case atStart => exact ⟨0, Nat.zero_le _, rfl, Ext.refl _, rfl⟩
        case round =>
          obtain ⟨k, hk, rfl, hb, hff⟩ := hrel
          have HB := Lib.hid hb
          have HFF := Lib.hid hff
          clear hb hff
          by_cases hlt : k < p.length
          · obtain ⟨e, he⟩ : ∃ e, funcErr p k = e := ⟨_, rfl⟩
            have HE := Lib.hid he
            have HST := Lib.hid (firstFrom_step p hlt)
            clear he
            by_cases hz : e = 0
            · subst hz
              go_wp2_with (first
                | (go_at_call 87; (with_reducible refine (check_any p _ S k _ (Funcs.stays (Ext.stays HB.out) HP.out)).mono ?_); rintro e w1 ⟨rfl, hb1⟩; rw [HE.out]))
              go_roundw
              case rel => exact ⟨k + 1, by omega, by go_num, HB.out.trans hb1, by rw [← HFF.out, HST.out, if_neg (fun h => h HE.out)]⟩
              case measure => simp [intOf]; omega
            · have TE : (e != 0) = true := bne_iff_ne.2 hz
              have hres : r = e := by
                rw [HRES.out, ← HFF.out, HST.out, HE.out, if_pos hz, if_pos hz]
              subst hres
              clear hz
              go_wp2_with (first
                | (go_at_call 87; (with_reducible refine (check_any p _ S k _ (Funcs.stays (Ext.stays HB.out) HP.out)).mono ?_); rintro e w1 ⟨rfl, hb1⟩; rw [HE.out]))
              go_ret
              exact ⟨rfl, HB.out.trans hb1⟩
          · obtain rfl : k = p.length := by omega
            have HZ : Hid (firstFrom p 0 = 0) := by
              unfold Hid
              rw [← HFF.out, firstFrom_end]
            clear hlt HFF
            rename World => wr1
            go_wp2_with fail
            go_loopw [36] (fun q wr => ∃ k : Nat, k ≤ p.length ∧ q = .int .i64 k ∧ Ext w wr ∧ allFrom p k = allFrom p 0) (fun q _ => p.length - (intOf q).toNat)
            case atStart => exact ⟨0, Nat.zero_le _, rfl, HB.out, rfl⟩
            case round =>
              obtain ⟨k, hk, rfl, hb, hff⟩ := hrel
              have HB2 := Lib.hid hb
              have HFF := Lib.hid hff
              clear hb hff HB
              by_cases hlt : k < p.length
              · have hfe := firstFrom_nil _ 0 rfl HZ.out k (Nat.zero_le _) hlt
                obtain ⟨hg, hR⟩ := hts_at hfe hlt
                have HST := Lib.hid (allFrom_step p hlt)
                rw [hg] at HST
                clear hfe hg
                cases hh : hts p p[k].code with
                | none =>
                  have HH := Lib.hid hh
                  have hres : r = 1 := by
                    rw [HRES.out, HZ.out, if_neg (fun h => h rfl), ← HFF.out, HST.out, hh]
                    rfl
                  subst hres
                  clear hh
                  go_wp2_with (first
                    | (go_at_call 88; (with_reducible refine (flowOf_any p _ S k _ (Funcs.stays (Ext.stays HB2.out) HP.out) hlt hR).mono ?_); rintro e w2 ⟨hr, hb2⟩; rw [HH.out] at hr; obtain rfl := hr))
                  go_ret
                  exact ⟨rfl, HB2.out.trans hb2⟩
                | some l =>
                  have HH := Lib.hid hh
                  clear hh
                  go_wp2_with (first
                    | (go_at_call 88; (with_reducible refine (flowOf_any p _ S k _ (Funcs.stays (Ext.stays HB2.out) HP.out) hlt hR).mono ?_); rintro e w2 ⟨hr, hb2⟩; rw [HH.out] at hr; obtain ⟨vl, rfl, hl⟩ := hr; obtain ⟨al, cl, rfl, _, _, _⟩ := (⟨hl, trivial⟩ : _ ∧ True).1))
                  go_roundw
                  case rel => exact ⟨k + 1, by omega, by go_num, HB2.out.trans hb2, by rw [← HFF.out, HST.out, HH.out]; rfl⟩
                  case measure => simp [intOf]; omega
              · obtain rfl : k = p.length := by omega
                have hres : r = 0 := by
                  rw [HRES.out, HZ.out, if_neg (fun h => h rfl), ← HFF.out, allFrom_end]
                  rfl
                subst hres
                clear hlt HFF
                go_wp2_with fail
                go_ret
                exact ⟨rfl, HB2.out⟩
theorem progError_any (p : List GFunc) (v : Value) (S : Nat → Prop) (w : World) (hp : Funcs w S v p) :
    Calls Tryz.prog 14 #[v] w fun e w' => e = .returned (.int .i64 (progErr p)) ∧ Ext w w' := by
  have HP := Lib.hid hp
  obtain ⟨r, hr⟩ : ∃ r, progErr p = r := ⟨_, rfl⟩
  rw [hr]
  have HR := Lib.hid hr
  clear hr
  have hp0 := hp
  obtain ⟨a, cap, rfl, hcap, hby, _⟩ := hp
  by_cases h1 : 5 < p.length
  · have hres : r = 2 := by rw [← HR.out]; unfold progErr; rw [if_pos h1]
    subst hres
    clear hp0
    go_enter Tryz.func14, Tryz.ntmps14
    go_wp2_with fail
    go_ret
    exact ⟨rfl, Ext.refl _⟩
  · by_cases h2 : p.length = 0
    · have hres : r = 5 := by rw [← HR.out]; unfold progErr; rw [if_neg h1, if_pos h2]
      subst hres
      have TZ : ((p.length : Int) == 0) = true := by simp [h2]
      clear hp0 h2
      go_enter Tryz.func14, Tryz.ntmps14
      go_wp2_with fail
      go_ret
      exact ⟨rfl, Ext.refl _⟩
    · have hpos : 0 < p.length := by omega
      have TZ : ((p.length : Int) == 0) = false := beq_eq_false_iff_ne.2 (by omega)
      have h5 : p.length ≤ 5 := by omega
      obtain ⟨b, o, cap', e0, _, _, ⟨_, x0, _⟩, _, _⟩ := hp0.get hpos
      simp only [Value.slice.injEq] at e0
      obtain ⟨rfl, -, rfl⟩ := e0
      rw [Nat.zero_mul, Nat.add_zero] at x0
      have e1 : p.getD 0 default = p[0] := by simp [List.getD, List.getElem?_eq_getElem hpos]
      by_cases h3 : p[0].args ≠ 0
      · have hres : r = 1 := by rw [← HR.out]; unfold progErr; rw [if_neg h1, if_neg h2, e1, if_pos h3]
        subst hres
        have T3 : (p[0].args != 0) = true := bne_iff_ne.2 h3
        clear hp0 h2 h3 e1 h1
        go_enter Tryz.func14, Tryz.ntmps14
        go_wp2_with fail
        go_ret
        exact ⟨rfl, Ext.refl _⟩
      · have HRES : Hid (r = if firstFrom p 0 ≠ 0 then firstFrom p 0 else if allFrom p 0 = true then 0 else 1) := by
          unfold Hid
          rw [← HR.out, ← firstFrom_zero, ← allFrom_zero]
          unfold progErr
          rw [if_neg h1, if_neg h2, e1, if_neg h3]
        have T3 : (p[0].args != 0) = false := by rw [bne_eq_false_iff_eq]; exact Decidable.byContradiction h3
        clear hp0 h2 h3 e1 HR h1
        go_enter Tryz.func14, Tryz.ntmps14
        go_wp2_with fail
        go_loopw [3] (fun q wr => ∃ k : Nat, k ≤ p.length ∧ q = .int .i64 k ∧ Ext w wr ∧ firstFrom p k = firstFrom p 0) (fun q _ => p.length - (intOf q).toNat)
        case atStart => exact ⟨0, Nat.zero_le _, rfl, Ext.refl _, rfl⟩
        case round =>
          obtain ⟨k, hk, rfl, hb, hff⟩ := hrel
          have HB := Lib.hid hb
          have HFF := Lib.hid hff
          clear hb hff
          by_cases hlt : k < p.length
          · obtain ⟨e, he⟩ : ∃ e, funcErr p k = e := ⟨_, rfl⟩
            have HE := Lib.hid he
            have HST := Lib.hid (firstFrom_step p hlt)
            clear he
            by_cases hz : e = 0
            · subst hz
              go_wp2_with (first
                | (go_at_call 42; (with_reducible refine (funcError_any p _ S k _ (Funcs.stays (Ext.stays HB.out) HP.out)).mono ?_); rintro e w1 ⟨rfl, hb1⟩; rw [HE.out]))
              go_roundw
              case rel => exact ⟨k + 1, by omega, by go_num, HB.out.trans hb1, by rw [← HFF.out, HST.out, if_neg (fun h => h HE.out)]⟩
              case measure => simp [intOf]; omega
            · have TE : (e != 0) = true := bne_iff_ne.2 hz
              have hres : r = e := by
                rw [HRES.out, ← HFF.out, HST.out, HE.out, if_pos hz, if_pos hz]
              subst hres
              clear hz
              go_wp2_with (first
                | (go_at_call 42; (with_reducible refine (funcError_any p _ S k _ (Funcs.stays (Ext.stays HB.out) HP.out)).mono ?_); rintro e w1 ⟨rfl, hb1⟩; rw [HE.out]))
              go_ret
              exact ⟨rfl, HB.out.trans hb1⟩
          · obtain rfl : k = p.length := by omega
            have HZ : Hid (firstFrom p 0 = 0) := by
              unfold Hid
              rw [← HFF.out, firstFrom_end]
            clear hlt HFF
            rename World => wr1
            go_wp2_with fail
            go_loopw [5] (fun q wr => ∃ k : Nat, k ≤ p.length ∧ q = .int .i64 k ∧ Ext w wr ∧ allFrom p k = allFrom p 0) (fun q _ => p.length - (intOf q).toNat)
            case atStart => exact ⟨0, Nat.zero_le _, rfl, HB.out, rfl⟩
            case round =>
              obtain ⟨k, hk, rfl, hb, hff⟩ := hrel
              have HB2 := Lib.hid hb
              have HFF := Lib.hid hff
              clear hb hff HB
              by_cases hlt : k < p.length
              · have hfe := firstFrom_nil _ 0 rfl HZ.out k (Nat.zero_le _) hlt
                obtain ⟨hg, hR⟩ := hts_at hfe hlt
                have HST := Lib.hid (allFrom_step p hlt)
                rw [hg] at HST
                clear hfe hg
                cases hh : hts p p[k].code with
                | none =>
                  have HH := Lib.hid hh
                  have hres : r = 1 := by
                    rw [HRES.out, HZ.out, if_neg (fun h => h rfl), ← HFF.out, HST.out, hh]
                    rfl
                  subst hres
                  clear hh
                  go_wp2_with (first
                    | (go_at_call 43; (with_reducible refine (heights_any p _ S k _ (Funcs.stays (Ext.stays HB2.out) HP.out) hlt hR).mono ?_); rintro e w2 ⟨hr, hb2⟩; rw [htsR_eq hR.jumps, HH.out] at hr; obtain rfl := hr))
                  go_ret
                  exact ⟨rfl, HB2.out.trans hb2⟩
                | some l =>
                  have HH := Lib.hid hh
                  clear hh
                  go_wp2_with (first
                    | (go_at_call 43; (with_reducible refine (heights_any p _ S k _ (Funcs.stays (Ext.stays HB2.out) HP.out) hlt hR).mono ?_); rintro e w2 ⟨hr, hb2⟩; rw [htsR_eq hR.jumps, HH.out] at hr; obtain ⟨vl, rfl, hl⟩ := hr; obtain ⟨al, cl, rfl, _, _, _⟩ := (⟨hl, trivial⟩ : _ ∧ True).1))
                  go_roundw
                  case rel => exact ⟨k + 1, by omega, by go_num, HB2.out.trans hb2, by rw [← HFF.out, HST.out, HH.out]; rfl⟩
                  case measure => simp [intOf]; omega
              · obtain rfl : k = p.length := by omega
                have hres : r = 0 := by
                  rw [HRES.out, HZ.out, if_neg (fun h => h rfl), ← HFF.out, allFrom_end]
                  rfl
                subst hres
                clear hlt HFF
                go_wp2_with fail
                go_ret
                exact ⟨rfl, HB2.out⟩
end Go.Proofs.YtpcjkfppacnkgaaGreatDoor
end
section
/- Contracts of trim.Func, trim.All and the document's TrimFunc, TrimAll. -/
set_option maxHeartbeats 4000000
set_option maxRecDepth 100000
namespace Go.Proofs.YtpcjkfppacnkgaaGreatDoor
open Go Go.RowKit

end Go.Proofs.YtpcjkfppacnkgaaGreatDoor
end
section
/- Contracts of trim.All and the document's TrimAll. -/
set_option maxHeartbeats 4000000
set_option maxRecDepth 100000
namespace Go.Proofs.YtpcjkfppacnkgaaGreatDoor
open Go Go.RowKit

set_option maxRecDepth 100000 in
theorem infoF : (Tryz.prog.info? 49).map (fun i => (i.zero, i.size, i.bytes)) = some (some (.agg #[.int .i64 0, .int .i64 0, .slice none 0 0]), 3, 40) := by kernel_rfl

theorem RowAt.lt {w : World} {base size : Nat} {v : Value} {n : Nat} {xs : List Value} (h : RowAt w base size v n xs) (hs : 0 < size) : ∀ g, rowBlock v = some g → g < w.heap.size := by
  obtain ⟨_, a, cap, rfl, _, _, h3⟩ := h
  intro g hg
  rcases h3 with h0 | ⟨g', o, rfl, _, _, ht⟩
  · subst h0; cases a <;> simp [rowBlock] at hg
  · by_cases hc : cap = 0
    · subst hc; simp [rowBlock] at hg
    · rw [rowBlock_some g' o n cap hc] at hg
      cases hg
      obtain ⟨v, hv⟩ := Option.isSome_iff_exists.1 (ht 0 (Nat.mul_pos (by omega) hs)).1
      exact lt_of_cell hv

theorem Sl.map {α β : Type} {E : Nat → Nat → β → Prop} {sz bytes : Nat} {v : Value} {l : List α} (f : α → β) (h : Sl (fun b o y => E b o (f y)) sz bytes v l) : Sl E sz bytes v (l.map f) := by
  obtain ⟨a, cap, rfl, h1, h2, h3⟩ := h
  refine ⟨a, cap, by rw [List.length_map], by rw [List.length_map]; exact h1, by rw [List.length_map]; exact h2, fun i hi => ?_⟩
  obtain ⟨b, o, e, h4⟩ := h3 i (by rwa [List.length_map] at hi)
  exact ⟨b, o, e, by rw [List.getElem_map]; exact h4⟩

/-- A function's cells: its ops' slice beside it. -/
def funcF (y : GFunc × Value) : List Value := [.int .i64 y.1.args, .int .i64 y.1.locals, y.2]

/-- A row of functions that the call makes: each function's ops lie from base on, and not in the row's own block. -/
structure FRow (w : World) (base : Nat) (v : Value) (fs : List (GFunc × Value)) : Prop where
  row : RowAt w base 3 v fs.length (fs.flatMap funcF)
  ops : ∀ y ∈ fs, I64 y.1.args ∧ I64 y.1.locals ∧ Ops w (fun b => base ≤ b ∧ rowBlock v ≠ some b) y.2 y.1.code
theorem FRow.nil (w : World) (base : Nat) : FRow w base (.slice none 0 0) [] := ⟨RowAt.nil _ _ _ _, by simp⟩
theorem FRow.chg {M : Nat → Prop} {w w' : World} {base : Nat} {v : Value} {fs : List (GFunc × Value)} (h : FRow w base v fs) (hc : Chg M w w') (hM : ∀ b, base ≤ b → ¬ M b) : FRow w' base v fs :=
  ⟨h.row.chg hc (fun g e => hM g (h.row.le g e)) (by decide), fun y hy => ⟨(h.ops y hy).1, (h.ops y hy).2.1, Ops.stays (hc.stays (fun b hb => hM b hb.1)) (h.ops y hy).2.2⟩⟩
theorem FRow.ext {w w' : World} {base : Nat} {v : Value} {fs : List (GFunc × Value)} (h : FRow w base v fs) (he : Ext w w') : FRow w' base v fs := h.chg (M := fun _ => False) (Chg.of_ext he) (fun _ _ h => h)
/-- .. one function more behind it. -/
theorem FRow.grow {w w' : World} {base : Nat} {v v' : Value} {fs : List (GFunc × Value)} {y : GFunc × Value} (h : FRow w base v fs) (hn : NewRow w w' base 3 v v' (fs.length + 1) (fs.flatMap funcF ++ funcF y))
    (hy : I64 y.1.args ∧ I64 y.1.locals ∧ Ops w (fun b => base ≤ b ∧ rowBlock v ≠ some b) y.2 y.1.code) : FRow w' base v' (fs ++ [y]) := by
  obtain ⟨hr, hc, hb⟩ := hn
  refine ⟨?_, fun z hz => ?_⟩
  · rw [List.length_append, List.length_singleton, List.flatMap_append, List.flatMap_singleton]
    exact hr
  · have hz' : I64 z.1.args ∧ I64 z.1.locals ∧ Ops w (fun b => base ≤ b ∧ rowBlock v ≠ some b) z.2 z.1.code := by
      rcases List.mem_append.1 hz with h1 | h1
      · exact h.ops z h1
      · rw [List.mem_singleton] at h1; subst h1; exact hy
    refine ⟨hz'.1, hz'.2.1, Ops.stays (fun b o u hS hu => ⟨hc.cell hS.2 hu, hS.1, ?_⟩) hz'.2.2⟩
    rcases hb with e | e
    · rw [e]; exact hS.2
    · intro e2
      have := e b e2
      have := lt_of_cell hu
      omega
theorem FRow.funcs {w : World} {base : Nat} {v : Value} {fs : List (GFunc × Value)} (h : FRow w base v fs) (hb : fs.length ≤ 1000000) : Funcs w (base ≤ ·) v (fs.map Prod.fst) := by
  refine Sl.map Prod.fst (Sl.of_row funcF h.row (fun _ => rfl) (by omega) fun b o y hbb _ hy hc => ?_)
  obtain ⟨i1, i2, i3⟩ := h.ops y hy
  exact ⟨⟨hbb, hc 0 _ rfl, i1⟩, ⟨hbb, hc 1 _ rfl, i2⟩, y.2, hc 2 _ rfl, Ops.stays (Stays.widen (fun b hb => hb.1)) i3⟩

/-- One function in a new block. -/
theorem src_func (w : World) (F : GFunc) (a : Option Addr) (n cap : Nat) (t : TypeId) : SrcSl (w.alloc (.cells #[.int .i64 F.args, .int .i64 F.locals, .slice a n cap] t)) 3 (.slice (some ⟨w.heap.size, 0, none⟩) 1 1) 1 (funcF (F, .slice a n cap)) := by
  refine ⟨_, 1, rfl, rfl, by simp [funcF, Value.oneCell'], .inr ⟨_, rfl, fun j u hj => ?_⟩⟩
  match j, hj with
  | 0, hj => cases hj; rw [Addr.add_zero']; exact World.cell?_alloc_new w _ _ 0
  | 1, hj => cases hj; exact World.cell?_alloc_new w _ _ 1
  | 2, hj => cases hj; exact World.cell?_alloc_new w _ _ 2

end Go.Proofs.YtpcjkfppacnkgaaGreatDoor
end
