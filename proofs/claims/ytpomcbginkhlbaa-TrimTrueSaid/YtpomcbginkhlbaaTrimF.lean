/- Contracts of trim.Func, trim.All and the document's TrimFunc, TrimAll. -/
import Derived.Test.YtpomcbginkhlbaaTrimO
import Derived.Test.YtpomcbginkhlbaaProgC
import Derived.Laws.ResultCell
set_option maxHeartbeats 4000000
set_option maxRecDepth 100000
namespace Go.Proofs.Ytpomcbginkhlbaa
open Go Go.RowKit

/-- What Func hands back. -/
def trimF (p : List GFunc) (f : Int) : GFunc := if hErr p f = 0 then trimG p (p.getD f.toNat default) else ⟨0, 0, []⟩
/-- What All hands back. -/
def trimP (p : List GFunc) : List GFunc := if progErr p = 0 then p.map (trimG p) else []

theorem hErr_zero {p : List GFunc} {f : Int} (h : hErr p f = 0) : ∃ (n : Nat) (hn : n < p.length) (l : List Int), f = n ∧ p.getD f.toNat default = p[n] ∧ RightF p p[n] ∧ hts p p[n].code = some l := by
  by_cases h0 : funcErr p f = 0
  · obtain ⟨n, hn, rfl, hg, hR⟩ := hts_here h0
    cases hh : hts p p[n].code with
    | none => rw [(hErr_none h0 (by rw [hg]; exact hh)).1] at h; cases h
    | some l => exact ⟨n, hn, l, rfl, hg, hR, hh⟩
  · rw [(hErr_bad h0).1] at h
    exact absurd h h0

/-- The result box's three cells, stored. -/
theorem box3 {W : World} {b : Nat} {u0 u1 u2 : Value} (h0 : Cx W b 0 u0) (h1 : Cx W b 1 u1) (h2 : Cx W b 2 u2) (x y z : Value) :
    (((W.setCell ⟨b, 0, none⟩ x).setCell ⟨b, 1, none⟩ y).setCell ⟨b, 2, none⟩ z).rangeAt b 0 [x, y, z] :=
  range3 (((h0.set x).other (.inr (by decide)) y).other (.inr (by decide)) z).1 (((h1.other (.inr (by decide)) x).set y).other (.inr (by decide)) z).1 (((h2.other (.inr (by decide)) x).other (.inr (by decide)) y).set z).1
theorem chg3 (W : World) (b : Nat) (x y z : Value) : Chg (· = b) W (((W.setCell ⟨b, 0, none⟩ x).setCell ⟨b, 1, none⟩ y).setCell ⟨b, 2, none⟩ z) := ((chg_one _ _ 0 _).trans (chg_one _ _ 1 _)).trans (chg_one _ _ 2 _)
theorem ext3 {w W : World} (h : Ext w W) (x y z : Value) : Ext w (((W.setCell ⟨w.heap.size, 0, none⟩ x).setCell ⟨w.heap.size, 1, none⟩ y).setCell ⟨w.heap.size, 2, none⟩ z) :=
  ((h.setCell (p := ⟨w.heap.size, 0, none⟩) (Nat.le_refl _) _).setCell (p := ⟨w.heap.size, 1, none⟩) (Nat.le_refl _) _).setCell (p := ⟨w.heap.size, 2, none⟩) (Nat.le_refl _) _
theorem results_cell2 {P : Program} {fn : Func} {p u : Tmp} {ty : TypeId} (h : fn.results = #[.cell p ty, .tmp u]) (tmps : Array Value) (w : World) (b o : Nat) (cs : List Value) (d : TypeDesc)
    (hp : tmps.getD p undef = .pointer (some ⟨b, o, none⟩)) (hc : w.rangeAt b o cs) (hu : P.underlying ty = some d) (hd : d.isRow = true) (hi : (P.info? ty).map (·.size) = some cs.length) :
    (results fn tmps).run P w = .ok (.tuple #[.agg cs.toArray, tmps.getD u undef]) w := by
  rw [results_cell_tmp h]
  have hp' : tmps[p]?.getD undef = .pointer (some ⟨b, o, none⟩) := by simpa using hp
  simp [hp', asAddr, run_loadVar_mid w b o ty cs d hc hu hd hi, Result.andThen]

theorem trimFunc_any (p : List GFunc) (v : Value) (S : Nat → Prop) (f : Int) (w : World) (hp : Funcs w S v p) :
    Calls Try.prog 9 #[v, .int .i64 f] w fun e w' => (∃ x, e = .returned (.tuple #[x, .int .i64 (hErr p f)]) ∧ FuncV w' (w.heap.size ≤ ·) x (trimF p f)) ∧ Ext w w' := by
  have HP := Lib.hid hp
  obtain ⟨a, cap, rfl, _, _, _⟩ := hp
  have b0 := Cx.new w [.int .i64 0, .int .i64 0, .slice none 0 0] 25 (j := 0) rfl
  have b1 := Cx.new w [.int .i64 0, .int .i64 0, .slice none 0 0] 25 (j := 1) rfl
  have b2 := Cx.new w [.int .i64 0, .int .i64 0, .slice none 0 0] 25 (j := 2) rfl
  by_cases h0 : hErr p f = 0
  · obtain ⟨n, hn, l, rfl, hg, hR, hh⟩ := hErr_zero h0
    have HT : Hid (trimF p (n : Int) = trimG p p[n]) := by unfold Hid trimF; rw [if_pos h0, hg]
    have H0 := Lib.hid h0
    clear h0 hg
    go_enter Try.func9, Try.ntmps9
    go_wp2_with (first
      | (go_at_call 33; (with_reducible refine (trimOf_any p _ S n _ (Funcs.stays (Ext.stays HB2.out) HP.out) hn hR l hh).mono ?_); rintro e w3 ⟨⟨x, rfl, hx⟩, hb3⟩; have HX := Lib.hid hx; obtain ⟨s, rfl, ix, iy, hops⟩ := hx; obtain ⟨⟨d0, d0'⟩, ⟨d1, d1'⟩, ⟨d2, d2'⟩⟩ := (⟨c0.ext hb3, c1.ext hb3, c2.ext hb3⟩ : _ ∧ _ ∧ _); have HB3 := Lib.hid (HB2.out.trans hb3); obtain ⟨sa, cs, rfl, _, _, _⟩ := (⟨hops, trivial⟩ : _ ∧ True).1; clear hb3 hops)
      | (go_at_call 18; (with_reducible refine (flowHeights_any p _ S n _ (Funcs.stays (Ext.stays ((Ext.refl w).alloc _)) HP.out)).mono ?_); rintro e w2 ⟨⟨v2, hr, hi⟩, hb2⟩; rw [H0.out] at hr; obtain rfl := hr; obtain ⟨al, cl, rfl, _, _, _⟩ := (⟨hi, trivial⟩ : _ ∧ True).1; have c0 := b0.ext hb2; have c1 := b1.ext hb2; have c2 := b2.ext hb2; have HB2 := Lib.hid (((Ext.refl w).alloc _).trans hb2); clear hb2 hi))
    refine bodyPost_ret (results_cell2 rfl _ _ w.heap.size 0 _ _ rfl (box3 ⟨d0, d0'⟩ ⟨d1, d1'⟩ ⟨d2, d2'⟩ _ _ _) rfl rfl (by kernel_rfl)) rfl ?_
    refine ⟨⟨_, by rw [H0.out]; rfl, ?_⟩, ext3 HB3.out _ _ _⟩
    rw [HT.out]
    have hs : w.heap.size < w2.heap.size := c0.lt
    refine FuncV.stays (S := (w2.heap.size ≤ ·)) (fun b o v hb hc => ?_) HX.out
    exact ⟨(chg3 _ _ _ _ _).cell (by show ¬ b = w.heap.size; have : w2.heap.size ≤ b := hb; omega) hc, by show w.heap.size ≤ b; have : w2.heap.size ≤ b := hb; omega⟩
  · have HT : Hid (trimF p f = ⟨0, 0, []⟩) := by unfold Hid trimF; rw [if_neg h0]
    obtain ⟨r, hr⟩ : ∃ r, hErr p f = r := ⟨_, rfl⟩
    rw [hr] at h0
    have HR := Lib.hid hr
    clear hr
    have TB : (r != 0) = true := bne_iff_ne.2 h0
    clear h0
    go_enter Try.func9, Try.ntmps9
    go_wp2_with (first
      | (go_at_call 18; (with_reducible refine (flowHeights_any p _ S f _ (Funcs.stays (Ext.stays ((Ext.refl w).alloc _)) HP.out)).mono ?_); rintro e w2 ⟨⟨v2, hr, hi⟩, hb2⟩; rw [HR.out] at hr; obtain rfl := hr; obtain ⟨al, cl, rfl, _, _, _⟩ := (⟨hi, trivial⟩ : _ ∧ True).1; obtain ⟨⟨d0, d0'⟩, ⟨d1, d1'⟩, ⟨d2, d2'⟩⟩ := (⟨b0.ext hb2, b1.ext hb2, b2.ext hb2⟩ : _ ∧ _ ∧ _); have HB2 := Lib.hid (((Ext.refl w).alloc _).trans hb2); clear hb2 hi))
    refine bodyPost_ret (results_cell2 rfl _ _ w.heap.size 0 _ _ rfl (box3 ⟨d0, d0'⟩ ⟨d1, d1'⟩ ⟨d2, d2'⟩ _ _ _) rfl rfl (by kernel_rfl)) rfl ?_
    refine ⟨⟨_, by rw [HR.out]; rfl, ?_⟩, ext3 HB2.out _ _ _⟩
    rw [HT.out]
    exact ⟨_, rfl, I64.small (by decide) (by decide), I64.small (by decide) (by decide), Sl.nil _ _ _⟩

theorem refTrimFunc_any (p : List GFunc) (v : Value) (S : Nat → Prop) (f : Int) (w : World) (hp : Funcs w S v p) :
    Calls Try.prog 11 #[v, .int .i64 f] w fun e w' => (∃ x, e = .returned (.tuple #[x, .int .i64 (hErr p f)]) ∧ FuncV w' (w.heap.size ≤ ·) x (trimF p f)) ∧ Ext w w' := by
  have HP := Lib.hid hp
  obtain ⟨a, cap, rfl, _, _, _⟩ := hp
  have b0 := Cx.new w [.int .i64 0, .int .i64 0, .slice none 0 0] 25 (j := 0) rfl
  have b1 := Cx.new w [.int .i64 0, .int .i64 0, .slice none 0 0] 25 (j := 1) rfl
  have b2 := Cx.new w [.int .i64 0, .int .i64 0, .slice none 0 0] 25 (j := 2) rfl
  by_cases h0 : hErr p f = 0
  · obtain ⟨n, hn, l, rfl, hg, hR, hh⟩ := hErr_zero h0
    have HT : Hid (trimF p (n : Int) = trimG p p[n]) := by unfold Hid trimF; rw [if_pos h0, hg]
    have H0 := Lib.hid h0
    clear h0 hg
    go_enter Try.func11, Try.ntmps11
    go_wp2_with (first
      | (go_at_call 35; (with_reducible refine (trimmed_any p _ S n _ (Funcs.stays (Ext.stays HB2.out) HP.out) hn hR l hh).mono ?_); rintro e w3 ⟨⟨x, rfl, hx⟩, hb3⟩; have HX := Lib.hid hx; obtain ⟨s, rfl, ix, iy, hops⟩ := hx; obtain ⟨⟨d0, d0'⟩, ⟨d1, d1'⟩, ⟨d2, d2'⟩⟩ := (⟨c0.ext hb3, c1.ext hb3, c2.ext hb3⟩ : _ ∧ _ ∧ _); have HB3 := Lib.hid (HB2.out.trans hb3); obtain ⟨sa, cs, rfl, _, _, _⟩ := (⟨hops, trivial⟩ : _ ∧ True).1; clear hb3 hops)
      | (go_at_call 34; (with_reducible refine (heightsOf_any p _ S n _ (Funcs.stays (Ext.stays ((Ext.refl w).alloc _)) HP.out)).mono ?_); rintro e w2 ⟨⟨v2, hr, hi⟩, hb2⟩; rw [H0.out] at hr; obtain rfl := hr; obtain ⟨al, cl, rfl, _, _, _⟩ := (⟨hi, trivial⟩ : _ ∧ True).1; have c0 := b0.ext hb2; have c1 := b1.ext hb2; have c2 := b2.ext hb2; have HB2 := Lib.hid (((Ext.refl w).alloc _).trans hb2); clear hb2 hi))
    refine bodyPost_ret (results_cell2 rfl _ _ w.heap.size 0 _ _ rfl (box3 ⟨d0, d0'⟩ ⟨d1, d1'⟩ ⟨d2, d2'⟩ _ _ _) rfl rfl (by kernel_rfl)) rfl ?_
    refine ⟨⟨_, by rw [H0.out]; rfl, ?_⟩, ext3 HB3.out _ _ _⟩
    rw [HT.out]
    have hs : w.heap.size < w2.heap.size := c0.lt
    refine FuncV.stays (S := (w2.heap.size ≤ ·)) (fun b o v hb hc => ?_) HX.out
    exact ⟨(chg3 _ _ _ _ _).cell (by show ¬ b = w.heap.size; have : w2.heap.size ≤ b := hb; omega) hc, by show w.heap.size ≤ b; have : w2.heap.size ≤ b := hb; omega⟩
  · have HT : Hid (trimF p f = ⟨0, 0, []⟩) := by unfold Hid trimF; rw [if_neg h0]
    obtain ⟨r, hr⟩ : ∃ r, hErr p f = r := ⟨_, rfl⟩
    rw [hr] at h0
    have HR := Lib.hid hr
    clear hr
    have TB : (r != 0) = true := bne_iff_ne.2 h0
    clear h0
    go_enter Try.func11, Try.ntmps11
    go_wp2_with (first
      | (go_at_call 34; (with_reducible refine (heightsOf_any p _ S f _ (Funcs.stays (Ext.stays ((Ext.refl w).alloc _)) HP.out)).mono ?_); rintro e w2 ⟨⟨v2, hr, hi⟩, hb2⟩; rw [HR.out] at hr; obtain rfl := hr; obtain ⟨al, cl, rfl, _, _, _⟩ := (⟨hi, trivial⟩ : _ ∧ True).1; obtain ⟨⟨d0, d0'⟩, ⟨d1, d1'⟩, ⟨d2, d2'⟩⟩ := (⟨b0.ext hb2, b1.ext hb2, b2.ext hb2⟩ : _ ∧ _ ∧ _); have HB2 := Lib.hid (((Ext.refl w).alloc _).trans hb2); clear hb2 hi))
    refine bodyPost_ret (results_cell2 rfl _ _ w.heap.size 0 _ _ rfl (box3 ⟨d0, d0'⟩ ⟨d1, d1'⟩ ⟨d2, d2'⟩ _ _ _) rfl rfl (by kernel_rfl)) rfl ?_
    refine ⟨⟨_, by rw [HR.out]; rfl, ?_⟩, ext3 HB2.out _ _ _⟩
    rw [HT.out]
    exact ⟨_, rfl, I64.small (by decide) (by decide), I64.small (by decide) (by decide), Sl.nil _ _ _⟩
end Go.Proofs.Ytpomcbginkhlbaa
