/- Merged texts: contracts and plain facts, one part behind another; each part begins with what it says. -/
import Derived.Test.YtfajkebkhdcapaaGUAD
import Derived.Test.YtfajkebkhdcapaaGUAE
import Derived.Test.YtfajkebkhdcapaaGUAF
import Derived.Test.YtfajkebkhdcapaaGUAG
import Derived.Test.YtfajkebkhdcapaaGUAH
import Derived.Laws.ResultCell
section
/- Contracts of prog.Check and the document's ProgError. -/
set_option maxHeartbeats 2000000
set_option maxRecDepth 100000
namespace Go.Proofs.Ytfajkebkhdcapaa
open Go Go.RowKit

theorem hts_at {p : List GFunc} {k : Nat} (h : funcErr p k = 0) (hk : k < p.length) : p.getD k default = p[k] ∧ RightF p p[k] := by
  obtain ⟨n, hn, e, hg, hR⟩ := hts_here h
  obtain rfl : k = n := by omega
  exact ⟨by simpa using hg, hR⟩

theorem progCheck_any (p : List GFunc) (v : Value) (S : Nat → Prop) (w : World) (hp : Funcs w S v p) :
    Calls Try.prog 24 #[v] w fun e w' => e = .returned (.int .i64 (progErr p)) ∧ Ext w w' := by
  have HP := Lib.hid hp
  obtain ⟨r, hr⟩ : ∃ r, progErr p = r := ⟨_, rfl⟩
  rw [hr]
  have HR := Lib.hid hr
  clear hr
  have hp0 := hp
  obtain ⟨a, cap, rfl, hcap, hby, _⟩ := hp
  by_cases h1 : 5 < p.length
  · have hres : r = 2 := by rw [← HR.out]; unfold progErr; rw [if_pos h1]
    subst hres
    clear hp0
    go_enter Try.func24, Try.ntmps24
    go_wp2_with fail
    go_ret
    exact ⟨rfl, Ext.refl _⟩
  · by_cases h2 : p.length = 0
    · have hres : r = 5 := by rw [← HR.out]; unfold progErr; rw [if_neg h1, if_pos h2]
      subst hres
      have TZ : ((p.length : Int) == 0) = true := by simp [h2]
      clear hp0 h2
      go_enter Try.func24, Try.ntmps24
      go_wp2_with fail
      go_ret
      exact ⟨rfl, Ext.refl _⟩
    · have hpos : 0 < p.length := by omega
      have TZ : ((p.length : Int) == 0) = false := beq_eq_false_iff_ne.2 (by omega)
      have h5 : p.length ≤ 5 := by omega
      obtain ⟨b, o, cap', e0, _, _, ⟨_, x0, _⟩, _, _⟩ := hp0.get hpos
      simp only [Value.slice.injEq] at e0
      obtain ⟨rfl, -, rfl⟩ := e0
      rw [Nat.zero_mul, Nat.add_zero] at x0
      have e1 : p.getD 0 default = p[0] := by simp [List.getD, List.getElem?_eq_getElem hpos]
      by_cases h3 : p[0].args ≠ 0
      · have hres : r = 1 := by rw [← HR.out]; unfold progErr; rw [if_neg h1, if_neg h2, e1, if_pos h3]
        subst hres
        have T3 : (p[0].args != 0) = true := bne_iff_ne.2 h3
        clear hp0 h2 h3 e1 h1
        go_enter Try.func24, Try.ntmps24
        go_wp2_with fail
        go_ret
        exact ⟨rfl, Ext.refl _⟩
      · have HRES : Hid (r = if firstFrom p 0 ≠ 0 then firstFrom p 0 else if allFrom p 0 = true then 0 else 1) := by
          unfold Hid
          rw [← HR.out, ← firstFrom_zero, ← allFrom_zero]
          unfold progErr
          rw [if_neg h1, if_neg h2, e1, if_neg h3]
        have T3 : (p[0].args != 0) = false := by rw [bne_eq_false_iff_eq]; exact Decidable.byContradiction h3
        clear hp0 h2 h3 e1 HR h1
        go_enter Try.func24, Try.ntmps24
        go_wp2_with fail
        go_loopw [24] (fun q wr => ∃ k : Nat, k ≤ p.length ∧ q = .int .i64 k ∧ Ext w wr ∧ firstFrom p k = firstFrom p 0) (fun q _ => p.length - (intOf q).toNat)
        case atStart => exact ⟨0, Nat.zero_le _, rfl, Ext.refl _, rfl⟩
        case round =>
          obtain ⟨k, hk, rfl, hb, hff⟩ := hrel
          have HB := Lib.hid hb
          have HFF := Lib.hid hff
          clear hb hff
          by_cases hlt : k < p.length
          · obtain ⟨e, he⟩ : ∃ e, funcErr p k = e := ⟨_, rfl⟩
            have HE := Lib.hid he
            have HST := Lib.hid (firstFrom_step p hlt)
            clear he
            by_cases hz : e = 0
            · subst hz
              go_wp2_with (first
                | (go_at_call 42; (with_reducible refine (check_any p _ S k _ (Funcs.stays (Ext.stays HB.out) HP.out)).mono ?_); rintro e w1 ⟨rfl, hb1⟩; rw [HE.out]))
              go_roundw
              case rel => exact ⟨k + 1, by omega, by go_num, HB.out.trans hb1, by rw [← HFF.out, HST.out, if_neg (fun h => h HE.out)]⟩
              case measure => simp [intOf]; omega
            · have TE : (e != 0) = true := bne_iff_ne.2 hz
              have hres : r = e := by
                rw [HRES.out, ← HFF.out, HST.out, HE.out, if_pos hz, if_pos hz]
              subst hres
              clear hz
              go_wp2_with (first
                | (go_at_call 42; (with_reducible refine (check_any p _ S k _ (Funcs.stays (Ext.stays HB.out) HP.out)).mono ?_); rintro e w1 ⟨rfl, hb1⟩; rw [HE.out]))
              go_ret
              exact ⟨rfl, HB.out.trans hb1⟩
          · obtain rfl : k = p.length := by omega
            have HZ : Hid (firstFrom p 0 = 0) := by
              unfold Hid
              rw [← HFF.out, firstFrom_end]
            clear hlt HFF
            rename World => wr1
            go_wp2_with fail
            go_loopw [36] (fun q wr => ∃ k : Nat, k ≤ p.length ∧ q = .int .i64 k ∧ Ext w wr ∧ allFrom p k = allFrom p 0) (fun q _ => p.length - (intOf q).toNat)
            case atStart => exact ⟨0, Nat.zero_le _, rfl, HB.out, rfl⟩
            case round =>
              obtain ⟨k, hk, rfl, hb, hff⟩ := hrel
              have HB2 := Lib.hid hb
              have HFF := Lib.hid hff
              clear hb hff HB
              by_cases hlt : k < p.length
              · have hfe := firstFrom_nil _ 0 rfl HZ.out k (Nat.zero_le _) hlt
                obtain ⟨hg, hR⟩ := hts_at hfe hlt
                have HST := Lib.hid (allFrom_step p hlt)
                rw [hg] at HST
                clear hfe hg
                cases hh : hts p p[k].code with
                | none =>
                  have HH := Lib.hid hh
                  have hres : r = 1 := by
                    rw [HRES.out, HZ.out, if_neg (fun h => h rfl), ← HFF.out, HST.out, hh]
                    rfl
                  subst hres
                  clear hh
                  go_wp2_with (first
                    | (go_at_call 43; (with_reducible refine (flowOf_any p _ S k _ (Funcs.stays (Ext.stays HB2.out) HP.out) hlt hR).mono ?_); rintro e w2 ⟨hr, hb2⟩; rw [HH.out] at hr; obtain rfl := hr))
                  go_ret
                  exact ⟨rfl, HB2.out.trans hb2⟩
                | some l =>
                  have HH := Lib.hid hh
                  clear hh
                  go_wp2_with (first
                    | (go_at_call 43; (with_reducible refine (flowOf_any p _ S k _ (Funcs.stays (Ext.stays HB2.out) HP.out) hlt hR).mono ?_); rintro e w2 ⟨hr, hb2⟩; rw [HH.out] at hr; obtain ⟨vl, rfl, hl⟩ := hr; obtain ⟨al, cl, rfl, _, _, _⟩ := (⟨hl, trivial⟩ : _ ∧ True).1))
                  go_roundw
                  case rel => exact ⟨k + 1, by omega, by go_num, HB2.out.trans hb2, by rw [← HFF.out, HST.out, HH.out]; rfl⟩
                  case measure => simp [intOf]; omega
              · obtain rfl : k = p.length := by omega
                have hres : r = 0 := by
                  rw [HRES.out, HZ.out, if_neg (fun h => h rfl), ← HFF.out, allFrom_end]
                  rfl
                subst hres
                clear hlt HFF
                go_wp2_with fail
                go_ret
                exact ⟨rfl, HB2.out⟩
end Go.Proofs.Ytfajkebkhdcapaa
end
section
/- Contracts of trim.Func, trim.All and the document's TrimFunc, TrimAll. -/
set_option maxHeartbeats 4000000
set_option maxRecDepth 100000
namespace Go.Proofs.Ytfajkebkhdcapaa
open Go Go.RowKit

/-- What Func hands back. -/
def trimF (p : List GFunc) (f : Int) : GFunc := if hErr p f = 0 then trimG p (p.getD f.toNat default) else ⟨0, 0, []⟩
/-- What All hands back. -/
def trimP (p : List GFunc) : List GFunc := if progErr p = 0 then p.map (trimG p) else []

theorem hErr_zero {p : List GFunc} {f : Int} (h : hErr p f = 0) : ∃ (n : Nat) (hn : n < p.length) (l : List Int), f = n ∧ p.getD f.toNat default = p[n] ∧ RightF p p[n] ∧ hts p p[n].code = some l := by
  by_cases h0 : funcErr p f = 0
  · obtain ⟨n, hn, rfl, hg, hR⟩ := hts_here h0
    cases hh : hts p p[n].code with
    | none => rw [(hErr_none h0 (by rw [hg]; exact hh)).1] at h; cases h
    | some l => exact ⟨n, hn, l, rfl, hg, hR, hh⟩
  · rw [(hErr_bad h0).1] at h
    exact absurd h h0


theorem trimFunc_any (p : List GFunc) (v : Value) (S : Nat → Prop) (f : Int) (w : World) (hp : Funcs w S v p) :
    Calls Try.prog 27 #[v, .int .i64 f] w fun e w' => (∃ x, e = .returned (.tuple #[x, .int .i64 (hErr p f)]) ∧ FuncV w' (w.heap.size ≤ ·) x (trimF p f)) ∧ Ext w w' := by
  have HP := Lib.hid hp
  obtain ⟨a, cap, rfl, _, _, _⟩ := hp
  have b0 := Cx.new w [.int .i64 0, .int .i64 0, .slice none 0 0] 55 (j := 0) rfl
  have b1 := Cx.new w [.int .i64 0, .int .i64 0, .slice none 0 0] 55 (j := 1) rfl
  have b2 := Cx.new w [.int .i64 0, .int .i64 0, .slice none 0 0] 55 (j := 2) rfl
  by_cases h0 : hErr p f = 0
  · obtain ⟨n, hn, l, rfl, hg, hR, hh⟩ := hErr_zero h0
    have HT : Hid (trimF p (n : Int) = trimG p p[n]) := by unfold Hid trimF; rw [if_pos h0, hg]
    have H0 := Lib.hid h0
    clear h0 hg
    go_enter Try.func27, Try.ntmps27
    go_wp2_with (first
      | (go_at_call 26; (with_reducible refine (trimOf_any p _ S n _ (Funcs.stays (Ext.stays HB2.out) HP.out) hn hR l hh).mono ?_); rintro e w3 ⟨⟨x, rfl, hx⟩, hb3⟩; have HX := Lib.hid hx; obtain ⟨s, rfl, ix, iy, hops⟩ := hx; obtain ⟨⟨d0, d0'⟩, ⟨d1, d1'⟩, ⟨d2, d2'⟩⟩ := (⟨c0.ext hb3, c1.ext hb3, c2.ext hb3⟩ : _ ∧ _ ∧ _); have HB3 := Lib.hid (HB2.out.trans hb3); obtain ⟨sa, cs, rfl, _, _, _⟩ := (⟨hops, trivial⟩ : _ ∧ True).1; clear hb3 hops)
      | (go_at_call 45; (with_reducible refine (flowHeights_any p _ S n _ (Funcs.stays (Ext.stays ((Ext.refl w).alloc _)) HP.out)).mono ?_); rintro e w2 ⟨⟨v2, hr, hi⟩, hb2⟩; rw [H0.out] at hr; obtain rfl := hr; obtain ⟨al, cl, rfl, _, _, _⟩ := (⟨hi, trivial⟩ : _ ∧ True).1; have c0 := b0.ext hb2; have c1 := b1.ext hb2; have c2 := b2.ext hb2; have HB2 := Lib.hid (((Ext.refl w).alloc _).trans hb2); clear hb2 hi))
    refine bodyPost_ret (results_cell2 rfl _ _ w.heap.size 0 _ _ rfl (box3 ⟨d0, d0'⟩ ⟨d1, d1'⟩ ⟨d2, d2'⟩ _ _ _) rfl rfl (by kernel_rfl)) rfl ?_
    refine ⟨⟨_, by rw [H0.out]; rfl, ?_⟩, ext3 HB3.out _ _ _⟩
    rw [HT.out]
    have hs : w.heap.size < w2.heap.size := c0.lt
    refine FuncV.stays (S := (w2.heap.size ≤ ·)) (fun b o v hb hc => ?_) HX.out
    exact ⟨(chg3 _ _ _ _ _).cell (by show ¬ b = w.heap.size; have : w2.heap.size ≤ b := hb; omega) hc, by show w.heap.size ≤ b; have : w2.heap.size ≤ b := hb; omega⟩
  · have HT : Hid (trimF p f = ⟨0, 0, []⟩) := by unfold Hid trimF; rw [if_neg h0]
    obtain ⟨r, hr⟩ : ∃ r, hErr p f = r := ⟨_, rfl⟩
    rw [hr] at h0
    have HR := Lib.hid hr
    clear hr
    have TB : (r != 0) = true := bne_iff_ne.2 h0
    clear h0
    go_enter Try.func27, Try.ntmps27
    go_wp2_with (first
      | (go_at_call 45; (with_reducible refine (flowHeights_any p _ S f _ (Funcs.stays (Ext.stays ((Ext.refl w).alloc _)) HP.out)).mono ?_); rintro e w2 ⟨⟨v2, hr, hi⟩, hb2⟩; rw [HR.out] at hr; obtain rfl := hr; obtain ⟨al, cl, rfl, _, _, _⟩ := (⟨hi, trivial⟩ : _ ∧ True).1; obtain ⟨⟨d0, d0'⟩, ⟨d1, d1'⟩, ⟨d2, d2'⟩⟩ := (⟨b0.ext hb2, b1.ext hb2, b2.ext hb2⟩ : _ ∧ _ ∧ _); have HB2 := Lib.hid (((Ext.refl w).alloc _).trans hb2); clear hb2 hi))
    refine bodyPost_ret (results_cell2 rfl _ _ w.heap.size 0 _ _ rfl (box3 ⟨d0, d0'⟩ ⟨d1, d1'⟩ ⟨d2, d2'⟩ _ _ _) rfl rfl (by kernel_rfl)) rfl ?_
    refine ⟨⟨_, by rw [HR.out]; rfl, ?_⟩, ext3 HB2.out _ _ _⟩
    rw [HT.out]
    exact ⟨_, rfl, I64.small (by decide) (by decide), I64.small (by decide) (by decide), Sl.nil _ _ _⟩
end Go.Proofs.Ytfajkebkhdcapaa
end
section
/- Contracts of trim.All and the document's TrimAll. -/
set_option maxHeartbeats 4000000
set_option maxRecDepth 100000
namespace Go.Proofs.Ytfajkebkhdcapaa
open Go Go.RowKit

set_option maxRecDepth 100000 in
theorem infoF : (Try.prog.info? 55).map (fun i => (i.zero, i.size, i.bytes)) = some (some (.agg #[.int .i64 0, .int .i64 0, .slice none 0 0]), 3, 40) := by kernel_rfl

theorem RowAt.lt {w : World} {base size : Nat} {v : Value} {n : Nat} {xs : List Value} (h : RowAt w base size v n xs) (hs : 0 < size) : ∀ g, rowBlock v = some g → g < w.heap.size := by
  obtain ⟨_, a, cap, rfl, _, _, h3⟩ := h
  intro g hg
  rcases h3 with h0 | ⟨g', o, rfl, _, _, ht⟩
  · subst h0; cases a <;> simp [rowBlock] at hg
  · by_cases hc : cap = 0
    · subst hc; simp [rowBlock] at hg
    · rw [rowBlock_some g' o n cap hc] at hg
      cases hg
      obtain ⟨v, hv⟩ := Option.isSome_iff_exists.1 (ht 0 (Nat.mul_pos (by omega) hs)).1
      exact lt_of_cell hv

theorem Sl.map {α β : Type} {E : Nat → Nat → β → Prop} {sz bytes : Nat} {v : Value} {l : List α} (f : α → β) (h : Sl (fun b o y => E b o (f y)) sz bytes v l) : Sl E sz bytes v (l.map f) := by
  obtain ⟨a, cap, rfl, h1, h2, h3⟩ := h
  refine ⟨a, cap, by rw [List.length_map], by rw [List.length_map]; exact h1, by rw [List.length_map]; exact h2, fun i hi => ?_⟩
  obtain ⟨b, o, e, h4⟩ := h3 i (by rwa [List.length_map] at hi)
  exact ⟨b, o, e, by rw [List.getElem_map]; exact h4⟩

/-- A function's cells: its ops' slice beside it. -/
def funcF (y : GFunc × Value) : List Value := [.int .i64 y.1.args, .int .i64 y.1.locals, y.2]

/-- A row of functions that the call makes: each function's ops lie from base on, and not in the row's own block. -/
structure FRow (w : World) (base : Nat) (v : Value) (fs : List (GFunc × Value)) : Prop where
  row : RowAt w base 3 v fs.length (fs.flatMap funcF)
  ops : ∀ y ∈ fs, I64 y.1.args ∧ I64 y.1.locals ∧ Ops w (fun b => base ≤ b ∧ rowBlock v ≠ some b) y.2 y.1.code
theorem FRow.nil (w : World) (base : Nat) : FRow w base (.slice none 0 0) [] := ⟨RowAt.nil _ _ _ _, by simp⟩
theorem FRow.chg {M : Nat → Prop} {w w' : World} {base : Nat} {v : Value} {fs : List (GFunc × Value)} (h : FRow w base v fs) (hc : Chg M w w') (hM : ∀ b, base ≤ b → ¬ M b) : FRow w' base v fs :=
  ⟨h.row.chg hc (fun g e => hM g (h.row.le g e)) (by decide), fun y hy => ⟨(h.ops y hy).1, (h.ops y hy).2.1, Ops.stays (hc.stays (fun b hb => hM b hb.1)) (h.ops y hy).2.2⟩⟩
theorem FRow.ext {w w' : World} {base : Nat} {v : Value} {fs : List (GFunc × Value)} (h : FRow w base v fs) (he : Ext w w') : FRow w' base v fs := h.chg (M := fun _ => False) (Chg.of_ext he) (fun _ _ h => h)
/-- .. one function more behind it. -/
theorem FRow.grow {w w' : World} {base : Nat} {v v' : Value} {fs : List (GFunc × Value)} {y : GFunc × Value} (h : FRow w base v fs) (hn : NewRow w w' base 3 v v' (fs.length + 1) (fs.flatMap funcF ++ funcF y))
    (hy : I64 y.1.args ∧ I64 y.1.locals ∧ Ops w (fun b => base ≤ b ∧ rowBlock v ≠ some b) y.2 y.1.code) : FRow w' base v' (fs ++ [y]) := by
  obtain ⟨hr, hc, hb⟩ := hn
  refine ⟨?_, fun z hz => ?_⟩
  · rw [List.length_append, List.length_singleton, List.flatMap_append, List.flatMap_singleton]
    exact hr
  · have hz' : I64 z.1.args ∧ I64 z.1.locals ∧ Ops w (fun b => base ≤ b ∧ rowBlock v ≠ some b) z.2 z.1.code := by
      rcases List.mem_append.1 hz with h1 | h1
      · exact h.ops z h1
      · rw [List.mem_singleton] at h1; subst h1; exact hy
    refine ⟨hz'.1, hz'.2.1, Ops.stays (fun b o u hS hu => ⟨hc.cell hS.2 hu, hS.1, ?_⟩) hz'.2.2⟩
    rcases hb with e | e
    · rw [e]; exact hS.2
    · intro e2
      have := e b e2
      have := lt_of_cell hu
      omega
theorem FRow.funcs {w : World} {base : Nat} {v : Value} {fs : List (GFunc × Value)} (h : FRow w base v fs) (hb : fs.length ≤ 1000000) : Funcs w (base ≤ ·) v (fs.map Prod.fst) := by
  refine Sl.map Prod.fst (Sl.of_row funcF h.row (fun _ => rfl) (by omega) fun b o y hbb _ hy hc => ?_)
  obtain ⟨i1, i2, i3⟩ := h.ops y hy
  exact ⟨⟨hbb, hc 0 _ rfl, i1⟩, ⟨hbb, hc 1 _ rfl, i2⟩, y.2, hc 2 _ rfl, Ops.stays (Stays.widen (fun b hb => hb.1)) i3⟩

/-- One function in a new block. -/
theorem src_func (w : World) (F : GFunc) (a : Option Addr) (n cap : Nat) (t : TypeId) : SrcSl (w.alloc (.cells #[.int .i64 F.args, .int .i64 F.locals, .slice a n cap] t)) 3 (.slice (some ⟨w.heap.size, 0, none⟩) 1 1) 1 (funcF (F, .slice a n cap)) := by
  refine ⟨_, 1, rfl, rfl, by simp [funcF, Value.oneCell'], .inr ⟨_, rfl, fun j u hj => ?_⟩⟩
  match j, hj with
  | 0, hj => cases hj; rw [Addr.add_zero']; exact World.cell?_alloc_new w _ _ 0
  | 1, hj => cases hj; exact World.cell?_alloc_new w _ _ 1
  | 2, hj => cases hj; exact World.cell?_alloc_new w _ _ 2

theorem trimAll_any (p : List GFunc) (v : Value) (S : Nat → Prop) (w : World) (hp : Funcs w S v p) :
    Calls Try.prog 12 #[v] w fun e w' => (∃ x, e = .returned (.tuple #[x, .int .i64 (progErr p)]) ∧ Funcs w' (w.heap.size ≤ ·) x (trimP p)) ∧ Ext w w' := by
  have HP := Lib.hid hp
  obtain ⟨a, cap, rfl, _, _, _⟩ := hp
  by_cases h0 : progErr p = 0
  · have HT : Hid (trimP p = p.map (trimG p)) := by unfold Hid trimP; rw [if_pos h0]
    have HRP := Lib.hid (progErr_zero h0)
    have hlen := HRP.out.most
    have H0 := Lib.hid h0
    have RA := alloc_keep
    obtain ⟨o0, ho0, hoz0, hoz1, hoz2⟩ := info_parts infoF
    clear h0
    go_enter Try.func12, Try.ntmps12
    go_wp2_with (first
      | (go_at_call 24; (with_reducible refine (progCheck_any p _ S _ HP.out).mono ?_); rintro e w1 ⟨rfl, hb1⟩; rw [H0.out]; have HB1 := Lib.hid hb1; clear hb1))
    go_loopw [5, 14] (fun q5 q wr => ∃ k : Nat, k ≤ p.length ∧ q = .int .i64 k ∧ Ext w wr ∧ ∃ fs, fs.map Prod.fst = (p.take k).map (trimG p) ∧ FRow wr w.heap.size q5 fs) (fun _ q _ => p.length - (intOf q).toNat)
    case atStart => exact ⟨0, Nat.zero_le _, rfl, HB1.out, [], by simp, FRow.nil _ _⟩
    case round =>
      obtain ⟨k, hk, rfl, hb, fs, hfs, hrow⟩ := hrel
      have HB := Lib.hid hb
      have HROW := Lib.hid hrow
      have HFS := Lib.hid hfs
      have hfl : fs.length ≤ k := by have := congrArg List.length hfs; simp at this; omega
      obtain ⟨ar, capr, rfl, _, _⟩ := hrow.row.shape
      clear hb hrow hfs HB1
      by_cases hlt : k < p.length
      · obtain ⟨hg, hR⟩ := hts_at (HRP.out.func k hlt) hlt
        have hs := HRP.out.hts k hlt
        rw [hg] at hs
        obtain ⟨l, hh⟩ := Option.isSome_iff_exists.1 hs
        have HH := Lib.hid hh
        have HTK : Hid (p.take (k + 1) = p.take k ++ [p[k]]) := List.take_succ_eq_append_getElem hlt
        clear hs hh hg
        generalize hG : trimG p p[k] = G at *
        have HGE := Lib.hid hG
        clear hG
        rename World => wr
        go_wp2_with (first
          | (go_at_call 26; (with_reducible refine (trimOf_any p _ S k _ (Funcs.stays (Ext.stays HB.out) HP.out) hlt hR l HH.out).mono ?_); rintro e w3 ⟨⟨x, rfl, hx⟩, hb3⟩; rw [HGE.out] at hx; obtain ⟨s, rfl, ix, iy, hops⟩ := hx; have HOPS := Lib.hid hops; obtain ⟨sa, cs, rfl, _, _, _⟩ := hops; have HB3 := Lib.hid hb3; have HSZ3 : Hid ((w3.alloc (.cells #[.int .i64 G.args, .int .i64 G.locals, .slice sa G.code.length cs] 55)).heap.size = w3.heap.size + 1) := Array.size_push _; clear hb3)
          | (at_builtin; refine wpList_append_row rfl _ _ 22 rfl w.heap.size 55 o0 (.agg #[.int .i64 0, .int .i64 0, .slice none 0 0]) 3 40 Try.underlying22 ho0 hoz0 hoz1 hoz2 rfl (by decide) _ _ _ rfl (by exact HROW.out.row.ext (HB3.out.trans ((Ext.refl _).alloc _)) (by decide)) 1 (funcF (G, .slice sa G.code.length cs)) (src_func _ _ _ _ _ _) (by unfold maxLen; omega) (by omega) (by rw [HSZ3.out]; exact Nat.le_succ_of_le ((HB.out.trans HB3.out).size)) ?_; intro v1 Wv1 rv1; have RV := Lib.hid rv1; obtain ⟨a1, cap1, rfl, _, _⟩ := rv1.1.shape; clear rv1))
        have hE := HB3.out.trans ((Ext.refl _).alloc (.cells #[.int .i64 G.args, .int .i64 G.locals, .slice sa G.code.length cs] 55))
        have hx4 : Ext w Wv1 := Chg.ext_from (HB.out.trans hE) RV.out.2.1 (fun g e => (HROW.out.row.le g e))
        have hfr := (HROW.out.ext hE).grow (y := (G, .slice sa G.code.length cs)) RV.out ⟨ix, iy, Ops.stays (fun b o u hS hu => ⟨Ext.cell ((Ext.refl _).alloc _) hu, Nat.le_trans HB.out.size hS, fun e => by have h1 := HROW.out.row.lt (by decide) b e; have h2 : wr.heap.size ≤ b := hS; omega⟩) HOPS.out⟩
        go_roundw
        case rel => exact ⟨k + 1, by omega, by go_num, hx4, fs ++ [(G, .slice sa G.code.length cs)], by rw [List.map_append, HFS.out, HTK.out, List.map_append, ← HGE.out]; rfl, hfr⟩
        case measure => simp [intOf]; omega
      · obtain rfl : k = p.length := by omega
        clear hlt
        go_wp2_with fail
        go_ret2
        refine ⟨⟨_, by rw [H0.out]; rfl, ?_⟩, HB.out⟩
        rw [HT.out]
        have := HROW.out.funcs (by omega)
        rwa [HFS.out, List.take_length] at this
  · have HT : Hid (trimP p = []) := by unfold Hid trimP; rw [if_neg h0]
    obtain ⟨r, hr⟩ : ∃ r, progErr p = r := ⟨_, rfl⟩
    rw [hr] at h0
    have HR := Lib.hid hr
    clear hr
    have TB : (r != 0) = true := bne_iff_ne.2 h0
    clear h0
    go_enter Try.func12, Try.ntmps12
    go_wp2_with (first
      | (go_at_call 24; (with_reducible refine (progCheck_any p _ S _ HP.out).mono ?_); rintro e w1 ⟨rfl, hb1⟩; rw [HR.out]; have HB1 := Lib.hid hb1; clear hb1))
    go_ret2
    exact ⟨⟨_, by rw [HR.out]; rfl, by rw [HT.out]; exact Sl.nil _ _ _⟩, HB1.out⟩
end Go.Proofs.Ytfajkebkhdcapaa
end
section
/- Contracts of SameFuncs and SameProgs. -/
set_option maxHeartbeats 2000000
set_option maxRecDepth 100000
namespace Go.Proofs.Ytfajkebkhdcapaa
open Go Go.RowKit

theorem take_succ_same {α : Type} {a b : List α} {k : Nat} (h1 : k < a.length) (h2 : k < b.length) (ht : a.take k = b.take k) (h : a[k] = b[k]) : a.take (k + 1) = b.take (k + 1) := by
  rw [List.take_succ_eq_append_getElem h1, List.take_succ_eq_append_getElem h2, ht, h]
theorem take_all_same {α : Type} {a b : List α} (hl : a.length = b.length) (ht : a.take a.length = b.take a.length) : a = b := by
  rw [List.take_length, hl, List.take_length] at ht; exact ht

theorem sameFuncs_any (a b : GFunc) (va vb : Value) (S T : Nat → Prop) (w : World) (ha : FuncV w S va a) (hb : FuncV w T vb b) :
    Calls Try.prog 30 #[va, vb] w fun e w' => e = .returned (.bool (decide (a = b))) ∧ Ext w w' := by
  obtain ⟨sa, rfl, _, _, ha⟩ := ha
  obtain ⟨sb, rfl, _, _, hb⟩ := hb
  have RA := alloc_keep
  have HA := Lib.hid ha
  have HB := Lib.hid hb
  obtain ⟨pa, ca, rfl, hca, hba, _⟩ := ha
  obtain ⟨pb, cb, rfl, hcb, hbb, _⟩ := hb
  obtain ⟨t, ht⟩ : ∃ t, decide (a = b) = t := ⟨_, rfl⟩
  rw [ht]
  have HT := Lib.hid ht
  clear ht
  obtain ⟨aa, al, ac⟩ := a
  obtain ⟨ba, bl, bc⟩ := b
  simp only at *
  go_enter Try.func30, Try.ntmps30
  by_cases h1 : aa = ba
  · subst h1
    have T1 : (aa != aa) = false := by rw [bne_eq_false_iff_eq]
    by_cases h2 : al = bl
    · subst h2
      have T2 : (al != al) = false := by rw [bne_eq_false_iff_eq]
      by_cases hl : ac.length = bc.length
      · have TL : ((ac.length : Int) != (bc.length : Int)) = false := by rw [bne_eq_false_iff_eq]; omega
        go_wp2_with fail
        generalize hW : (w.alloc _).alloc _ = W2
        have hE : Ext w W2 := by rw [← hW]; exact ((Ext.refl w).alloc _).alloc _
        have ca2 : W2.cell? ⟨w.heap.size, 2, none⟩ = some (.slice pa bc.length ca) := by rw [← hW]; rw [alloc_keep _ _ _ (by simp)]; simp
        have cb2 : W2.cell? ⟨w.heap.size + 1, 2, none⟩ = some (.slice pb bc.length cb) := by rw [← hW]; simp
        clear hW
        go_loopw [5] (fun q wr => ∃ k : Nat, k ≤ bc.length ∧ q = .int .i64 k ∧ Ext W2 wr ∧ ac.take k = bc.take k) (fun q _ => bc.length - (intOf q).toNat)
        case atStart => exact ⟨0, Nat.zero_le _, rfl, Ext.refl _, rfl⟩
        case round =>
          obtain ⟨k, hk, rfl, hb3, htk⟩ := hrel
          have HB3 := Lib.hid hb3
          have HTK := Lib.hid htk
          have HE := Lib.hid hE
          clear hb3 htk hE
          have da2 := Ext.cell HB3.out ca2
          have db2 := Ext.cell HB3.out cb2
          by_cases hlt : k < bc.length
          · have hlt' : k < ac.length := by omega
            obtain ⟨ba, oa, _, e1, _, _, ⟨_, x0, _⟩, ⟨_, x1, _⟩⟩ := HA.out.get hlt'
            obtain ⟨bb, ob, _, e2, _, _, ⟨_, y0, _⟩, ⟨_, y1, _⟩⟩ := HB.out.get hlt
            simp only [Value.slice.injEq] at e1 e2
            obtain ⟨rfl, -, rfl⟩ := e1
            obtain ⟨rfl, -, rfl⟩ := e2
            have hE2 := HE.out.trans HB3.out
            have x0' := Ext.cell hE2 x0
            have x1' := Ext.cell hE2 x1
            have y0' := Ext.cell hE2 y0
            have y1' := Ext.cell hE2 y1
            have HSE := Lib.hid (fun h => take_succ_same hlt' hlt HTK.out h)
            have HNE : Hid (ac[k] ≠ bc[k] → t = false) := by
              unfold Hid
              intro h
              rw [← HT.out]
              exact decide_eq_false (fun e => h (by simp only [GFunc.mk.injEq] at e; simp [e.2.2]))
            clear x0 x1 y0 y1 ca2 cb2 hE2
            generalize ac[k] = x at *
            generalize bc[k] = y at *
            obtain ⟨xk, xa⟩ := x
            obtain ⟨yk, ya⟩ := y
            simp only at *
            clear HT
            by_cases hxk : xk = yk
            · subst hxk
              have T3 : (xk == xk) = true := by simp
              by_cases hxa : xa = ya
              · subst hxa
                have T4 : (xa == xa) = true := by simp
                have HS := Lib.hid (HSE.out rfl)
                clear HSE HNE
                go_wp2_with fail
                go_big_quiet (fail)
                go_wp2_with fail
                go_roundw
                case rel => exact ⟨k + 1, by omega, by go_num, HB3.out.drewN _, HS.out⟩
                case measure => simp [intOf]; omega
              · have T4 : (xa == ya) = false := by simpa using hxa
                have HF : Hid (t = false) := HNE.out (by simpa using hxa)
                clear hxa HSE HNE
                go_wp2_with fail
                go_big_quiet (fail)
                go_wp2_with fail
                go_ret
                exact ⟨by rw [HF.out]; rfl, HE.out.trans (HB3.out.drewN _)⟩
            · have T3 : (xk == yk) = false := by simpa using hxk
              have HF : Hid (t = false) := HNE.out (by intro e; simp at e; exact hxk e.1)
              clear hxk HSE HNE
              go_wp2_with fail
              go_big_quiet (fail)
              go_wp2_with fail
              go_ret
              exact ⟨by rw [HF.out]; rfl, HE.out.trans (HB3.out.drewN _)⟩
          · obtain rfl : k = bc.length := by omega
            have HF : Hid (t = true) := by
              unfold Hid
              rw [← HT.out]
              have := take_all_same hl (by rw [hl]; exact HTK.out)
              rw [this]
              exact decide_eq_true rfl
            clear hlt
            go_wp2_with fail
            go_ret
            exact ⟨by rw [HF.out]; rfl, HE.out.trans HB3.out⟩
      · have TL : ((ac.length : Int) != (bc.length : Int)) = true := bne_iff_ne.2 (by omega)
        have HF : Hid (t = false) := by
          unfold Hid
          rw [← HT.out]
          exact decide_eq_false (fun e => hl (by simp only [GFunc.mk.injEq] at e; rw [e.2.2]))
        clear hl
        go_wp2_with fail
        go_ret
        exact ⟨by rw [HF.out]; rfl, ((Ext.refl w).alloc _).alloc _⟩
    · have T2 : (al != bl) = true := bne_iff_ne.2 h2
      have HF : Hid (t = false) := by
        unfold Hid
        rw [← HT.out]
        exact decide_eq_false (fun e => h2 (by simp only [GFunc.mk.injEq] at e; exact e.2.1))
      clear h2
      go_wp2_with fail
      go_ret
      exact ⟨by rw [HF.out]; rfl, ((Ext.refl w).alloc _).alloc _⟩
  · have T1 : (aa != ba) = true := bne_iff_ne.2 h1
    have HF : Hid (t = false) := by
      unfold Hid
      rw [← HT.out]
      exact decide_eq_false (fun e => h1 (by simp only [GFunc.mk.injEq] at e; exact e.1))
    clear h1
    go_wp2_with fail
    go_ret
    exact ⟨by rw [HF.out]; rfl, ((Ext.refl w).alloc _).alloc _⟩

end Go.Proofs.Ytfajkebkhdcapaa
end
