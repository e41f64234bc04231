/- Merged texts: contracts and plain facts, one part behind another; each part begins with what it says. -/
import Derived.Test.YtgahbngbpfilgaaGreatGHAF
import Derived.Test.YtgahbngbpfilgaaGreatGHAG
import Derived.Test.YtgahbngbpfilgaaGreatGHAH
import Derived.Test.YtgahbngbpfilgaaGreatGHAM
import Derived.Test.YtgahbngbpfilgaaGreatGHAO
import Derived.Test.YtgahbngbpfilgaaGreatGHBB
import Derived.Laws.ResultCell
import Derived.Maps.OwnOps
import Derived.Maps.Views
section
set_option maxHeartbeats 4000000
set_option maxRecDepth 100000
namespace Go.Proofs.YtgahbngbpfilgaaGreat
open Go Go.RowKit
theorem frame_own (p : List GFunc) (v : Value) (S : Nat → Prop) (n : Nat) (f : Int) (hf : f = (n : Int)) (w : World) (hp : Funcs w S v p) (hn : n < p.length) (hR : RightF p p[n]) :
  Calls Tryz.prog 59 #[v, .int .i64 f] w fun e w' => (∃ g N, e = .returned (.agg #[.int .i64 f, .int .i64 0, .slice (some ⟨g, 0, none⟩) N N, .slice none 0 0]) ∧ freshFrame p f = ⟨f, 0, List.replicate N 0, []⟩ ∧ N ≤ 4 ∧ I64 f ∧ w.heap.size ≤ g ∧ IRow w' w.heap.size g (List.replicate N 0)) ∧ Ext w w' := by
 have hloc := hR.locals
 obtain ⟨b, o, cap, rfl, hcap, hby, _, ⟨_, hL, iL⟩, _⟩ := hp.get hn
 obtain ⟨N, hN⟩ : ∃ N : Nat, p[n].locals = N := ⟨p[n].locals.toNat, by omega⟩
 have HG : Hid (freshFrame p f = ⟨f, 0, List.replicate N 0, []⟩) := by
  unfold Hid freshFrame funcOf
  rw [show f.toNat = n by omega, show p.getD n default = p[n] by simp [List.getD, List.getElem?_eq_getElem hn], hN]
  rfl
 rw [hN] at hL hloc
 have hN4 : N ≤ 4 := by omega
 have hnI : I64 f := by rw [hf]; exact I64.nat (by omega)
 have FN : 0 ≤ f := by omega
 have FL : f < (p.length : Int) := by omega
 have FT : f.toNat = n := by omega
 obtain ⟨i0, hi0, hz0, hz1, hz2⟩ := info_parts infoI
 have RA := alloc_keep
 have c0 := Lib.hid (Cx.new w [.int .i64 0, .int .i64 0, .slice none 0 0, .slice none 0 0] 43 (j := 0) rfl)
 have c1 := Lib.hid (Cx.new w [.int .i64 0, .int .i64 0, .slice none 0 0, .slice none 0 0] 43 (j := 1) rfl)
 have c2 := Lib.hid (Cx.new w [.int .i64 0, .int .i64 0, .slice none 0 0, .slice none 0 0] 43 (j := 2) rfl)
 have c3 := Lib.hid (Cx.new w [.int .i64 0, .int .i64 0, .slice none 0 0, .slice none 0 0] 43 (j := 3) rfl)
 clear hR hp hN hf
 go_enter Tryz.func59, Tryz.ntmps59
 go_wp2_with (first
  | (at_make; refine wpList_make_full _ rfl _ _ 24 rfl (w.heap.size + 1) 3 i0 (.int .i64 0) 1 Tryz.underlying24 hi0 hz0 hz1 .i64 .i64 _ _ N rfl rfl rfl rfl (by rw [hz2]; omega) (by unfold maxLen; omega) (by simp) ?_; intro w3 hown3 hgr3; have hE3 := ext_none hgr3; have hrow := IRow.made hown3; obtain ⟨⟨d0, d0'⟩, ⟨d1, d1'⟩, ⟨d2, d2'⟩, ⟨d3, d3'⟩⟩ := (⟨c0.out.ext hE3, c1.out.ext hE3, c2.out.ext hE3, c3.out.ext hE3⟩ : _ ∧ _ ∧ _ ∧ _)))
 have hs1 : (w.alloc (.cells #[.int .i64 0, .int .i64 0, .slice none 0 0, .slice none 0 0] 43)).heap.size = w.heap.size + 1 := Array.size_push _
 rw [hs1] at hrow
 refine bodyPost_ret (results_cell_mid rfl _ _ w.heap.size 0 _ _ rfl (box4 ⟨d0, d0'⟩ ⟨d1, d1'⟩ ⟨d2, d2'⟩ ⟨d3, d3'⟩ _ _ _ _) rfl rfl (by kernel_rfl)) rfl ?_
 refine ⟨⟨w.heap.size + 1, N, rfl, HG.out, hN4, hnI, Nat.le_succ _, ?_⟩, ext4 (((Ext.refl w).alloc _).trans hE3) _ _ _ _⟩
 exact (hrow.chg (chg4 w3 w.heap.size (.int .i64 f) (.int .i64 0) (.slice (some ⟨w.heap.size + 1, 0, none⟩) N N) (.slice none 0 0)) (by omega)).mono (Nat.le_succ _)
theorem begin_rows {w3 : World} {B base bx g N : Nat} {f : Int} (t1 t2 : TypeId) (h : IRow w3 base g (List.replicate N 0)) (hf : I64 f) (hN : N ≤ 4) (hB : B ≤ bx) (hb : bx < base) (hb3 : bx < w3.heap.size) (u v z : Value) :
  StateO (((((w3.alloc (.cells #[.int .i64 f, .int .i64 0, .slice (some ⟨g, 0, none⟩) N N, .slice none 0 0] t1)).alloc (.cells #[.slice (some ⟨w3.heap.size, 0, none⟩) 1 1, .int .i64 (-1)] t2)).setCell ⟨bx, 0, none⟩ u).setCell ⟨bx, 1, none⟩ v).setCell ⟨bx, 2, none⟩ z) B
   (.agg #[.slice (some ⟨w3.heap.size + 1, 0, none⟩) 1 1, .int .i64 0, .slice none 0 0]) ⟨[⟨[⟨f, 0, List.replicate N 0, []⟩], -1⟩], 0, []⟩ := by
 have hs4 : (w3.alloc (.cells #[.int .i64 f, .int .i64 0, .slice (some ⟨g, 0, none⟩) N N, .slice none 0 0] t1)).heap.size = w3.heap.size + 1 := Array.size_push _
 have hE4 : Ext w3 (w3.alloc (.cells #[.int .i64 f, .int .i64 0, .slice (some ⟨g, 0, none⟩) N N, .slice none 0 0] t1)) := (Ext.refl _).alloc _
 have hr4 := RowAt.made w3 #[.int .i64 f, .int .i64 0, .slice (some ⟨g, 0, none⟩) N N, .slice none 0 0] t1 4 1 B (by omega) (by unfold maxLen; omega) rfl
 generalize w3.alloc (.cells #[.int .i64 f, .int .i64 0, .slice (some ⟨g, 0, none⟩) N N, .slice none 0 0] t1) = w4 at *
 have hE5 : Ext w4 (w4.alloc (.cells #[.slice (some ⟨w3.heap.size, 0, none⟩) 1 1, .int .i64 (-1)] t2)) := (Ext.refl _).alloc _
 have hr5 := RowAt.made w4 #[.slice (some ⟨w3.heap.size, 0, none⟩) 1 1, .int .i64 (-1)] t2 2 1 B (by omega) (by unfold maxLen; omega) rfl
 rw [hs4] at hr5
 generalize w4.alloc (.cells #[.slice (some ⟨w3.heap.size, 0, none⟩) 1 1, .int .i64 (-1)] t2) = w5 at *
 have hch := chg3 w5 bx u v z
 generalize ((w5.setCell ⟨bx, 0, none⟩ u).setCell ⟨bx, 1, none⟩ v).setCell ⟨bx, 2, none⟩ z = w6 at *
 have hg3 : ∀ k, rowBlock (.slice (some ⟨g, 0, none⟩) N N) = some k → k = g ∧ base ≤ g ∧ g < w3.heap.size := fun k hk => by
  have h1 := h.lt2 (by decide) k (by rw [List.length_replicate]; exact hk)
  have h2 := h.le k (by rw [List.length_replicate]; exact hk)
  have : k = g := by
   by_cases hN0 : N = 0
   ·subst hN0; simp [rowBlock] at hk
   ·rw [rowBlock_some _ _ _ _ hN0] at hk; cases hk; rfl
  subst this
  exact ⟨rfl, h2, h1⟩
 have hin : ints (List.replicate N 0) = ints (List.replicate N 0) := rfl
 have hloc : RowAt w6 B 1 (.slice (some ⟨g, 0, none⟩) N N) (List.replicate N (0 : Int)).length (ints (List.replicate N 0)) := by
  have h1 := (((h.ext hE4).ext hE5).mono (show B ≤ base by omega))
  unfold IRow at h1
  rw [List.length_replicate] at h1 ⊢
  exact h1.chg hch (fun k hk e => by obtain ⟨rfl, h2, _⟩ := hg3 k hk; omega) (by decide)
 have b4 : rowBlock (.slice (some ⟨w3.heap.size, 0, none⟩) 1 1) = some w3.heap.size := rowBlock_some _ _ _ _ (by decide)
 have b5 : rowBlock (.slice (some ⟨w3.heap.size + 1, 0, none⟩) 1 1) = some (w3.heap.size + 1) := rowBlock_some _ _ _ _ (by decide)
 have b0 : rowBlock (.slice none 0 0) = none := rfl
 refine ⟨⟨[⟨[⟨⟨f, 0, List.replicate N 0, []⟩, .slice (some ⟨g, 0, none⟩) N N, .slice none 0 0⟩], -1, .slice (some ⟨w3.heap.size, 0, none⟩) 1 1⟩], 0, [], .slice (some ⟨w3.heap.size + 1, 0, none⟩) 1 1, .slice none 0 0⟩, rfl, ⟨⟨I64.zero, by simp⟩, ?_, RowAt.nil _ _ _ _, ?_, by simp, ?_⟩, rfl⟩
 ·exact hr5.chg hch (fun k hk e => by rw [b5] at hk; cases hk; omega) (by decide)
 ·intro y hy
  rw [List.mem_singleton.1 hy]
  refine ⟨I64.neg1, (hr4.ext hE5 (by decide)).chg hch (fun k hk e => by rw [b4] at hk; cases hk; omega) (by decide), ?_, by simp⟩
  intro x hx
  rw [List.mem_singleton.1 hx]
  refine ⟨⟨hf, I64.zero, fun n hn => by rw [List.eq_of_mem_replicate hn]; exact I64.zero, by simp⟩, hloc, RowAt.nil _ _ _ _, by simp; try omega, by simp⟩
 ·unfold PState.bl PFiber.bl PFrame.bl
  simp only [List.flatMap_cons, List.flatMap_nil, b4, b5, b0, Option.toList_some, Option.toList_none, List.append_nil]
  cases hk : rowBlock (.slice (some ⟨g, 0, none⟩) N N) with
  | none => simp
  | some k =>
   obtain ⟨rfl, h2, h3⟩ := hg3 k hk
   simp
   try omega
theorem first_own (p : List GFunc) (v : Value) (S : Nat → Prop) (w : World) (hp : Funcs w S v p) (hz : progErr p = 0) :
  Calls Tryz.prog 34 #[v] w fun e w' => (∃ x, e = .returned x ∧ StateO w' w.heap.size x (beginG p)) ∧ Ext w w' := by
 have HP := Lib.hid hp
 have hRP := progErr_zero hz
 have hpos := hRP.pos
 obtain ⟨_, _, hR'⟩ := funcErr_zero (hRP.func 0 hpos)
 have hR : RightF p p[0] := by have := hR' (by simpa using hpos); simpa using this
 have RA := alloc_keep
 have c0 := Lib.hid (Cx.new w [.slice none 0 0, .int .i64 0, .slice none 0 0] 26 (j := 0) rfl)
 have c1 := Lib.hid (Cx.new w [.slice none 0 0, .int .i64 0, .slice none 0 0] 26 (j := 1) rfl)
 have c2 := Lib.hid (Cx.new w [.slice none 0 0, .int .i64 0, .slice none 0 0] 26 (j := 2) rfl)
 have HS1 : Hid ((w.alloc (.cells #[.slice none 0 0, .int .i64 0, .slice none 0 0] 26)).heap.size = w.heap.size + 1) := Array.size_push _
 obtain ⟨a, cap, rfl, _, _, _⟩ := hp
 obtain ⟨F, hF⟩ : ∃ F, freshFrame p 0 = F := ⟨_, rfl⟩
 have HF := Lib.hid hF
 have HG : Hid (beginG p = ⟨[⟨[F], -1⟩], 0, []⟩) := by unfold Hid beginG; rw [← hF]
 rw [HG.out]
 clear hz hRP hF
 go_enter Tryz.func34, Tryz.ntmps34
 go_wp2_with (first
  | (go_at_call 59; refine (frame_own p _ S 0 0 rfl _ (Funcs.stays (Ext.stays ((Ext.refl w).alloc _)) HP.out) hpos hR).mono ?_; rintro e w3 ⟨⟨g, N, rfl, hfx, hN, hI, hg, hrow⟩, hE3⟩; rw [HS1.out] at hrow hg; rw [HF.out] at hfx; have HE4 := Lib.hid ((hE3.alloc (.cells #[.int .i64 0, .int .i64 0, .slice (some ⟨g, 0, none⟩) N N, .slice none 0 0] 43)).alloc (.cells #[.slice (some ⟨w3.heap.size, 0, none⟩) 1 1, .int .i64 (-1)] 41)); obtain ⟨⟨d0, d0'⟩, ⟨d1, d1'⟩, ⟨d2, d2'⟩⟩ := (⟨c0.out.ext HE4.out, c1.out.ext HE4.out, c2.out.ext HE4.out⟩ : _ ∧ _ ∧ _)))
 refine bodyPost_ret (results_cell_mid rfl _ _ w.heap.size 0 _ _ rfl (box3 ⟨d0, d0'⟩ ⟨d1, d1'⟩ ⟨d2, d2'⟩ _ _ _) rfl rfl (by kernel_rfl)) rfl ?_
 refine ⟨⟨_, rfl, ?_⟩, ext3 (((Ext.refl w).alloc _).trans (hE3.trans (((Ext.refl _).alloc _).alloc _))) _ _ _⟩
 have hsz := hE3.size
 rw [HS1.out] at hsz
 subst hfx
 exact begin_rows 43 41 hrow hI hN (Nat.le_refl _) (Nat.lt_succ_self _) (by omega) _ _ _
theorem begin_own (p : List GFunc) (v : Value) (S : Nat → Prop) (w : World) (hp : Funcs w S v p) (h0 : progErr p = 0) :
  Calls Tryz.prog 12 #[v] w fun e w' => (∃ x, e = .returned (.tuple #[x, .int .i64 0]) ∧ StateO w' w.heap.size x (beginG p)) ∧ Ext w w' := by
 have HP := Lib.hid hp
 obtain ⟨a, cap, rfl, _, _, _⟩ := hp
 have b0 := Cx.new w [.slice none 0 0, .int .i64 0, .slice none 0 0] 26 (j := 0) rfl
 have b1 := Cx.new w [.slice none 0 0, .int .i64 0, .slice none 0 0] 26 (j := 1) rfl
 have b2 := Cx.new w [.slice none 0 0, .int .i64 0, .slice none 0 0] 26 (j := 2) rfl
 have H0 := Lib.hid h0
 clear h0
 go_enter Tryz.func12, Tryz.ntmps12
 go_wp2_with (first
  | (go_at_call 33; (with_reducible refine (progCheck_any p _ S _ (Funcs.stays (Ext.stays ((Ext.refl w).alloc _)) HP.out)).mono ?_); rintro e w2 ⟨rfl, hb2⟩; rw [H0.out]; have c0 := b0.ext hb2; have c1 := b1.ext hb2; have c2 := b2.ext hb2; have HB2 := Lib.hid (((Ext.refl w).alloc _).trans hb2); clear hb2)
  | (go_at_call 34; (with_reducible refine (first_own p _ S _ (Funcs.stays (Ext.stays HB2.out) HP.out) H0.out).mono ?_); rintro e w3 ⟨⟨x, rfl, hx⟩, hb3⟩; have HX := Lib.hid hx; obtain ⟨a1, n1, a2, n2, rfl⟩ := hx.few; obtain ⟨⟨d0, d0'⟩, ⟨d1, d1'⟩, ⟨d2, d2'⟩⟩ := (⟨c0.ext hb3, c1.ext hb3, c2.ext hb3⟩ : _ ∧ _ ∧ _); have HB3 := Lib.hid (HB2.out.trans hb3); clear hb3))
 refine bodyPost_ret (results_cell2 rfl _ _ w.heap.size 0 _ _ rfl (box3 ⟨d0, d0'⟩ ⟨d1, d1'⟩ ⟨d2, d2'⟩ _ _ _) rfl rfl (by kernel_rfl)) rfl ?_
 refine ⟨⟨_, rfl, ?_⟩, ext3 HB3.out _ _ _⟩
 have hs : w.heap.size < w2.heap.size := c0.lt
 exact (HX.out.chg (chg3 _ _ _ _ _) (fun g hg e => by omega)).mono (Nat.le_of_lt hs)
end Go.Proofs.YtgahbngbpfilgaaGreat
end
section
set_option maxHeartbeats 4000000
set_option maxRecDepth 100000
namespace Go.Proofs.YtgahbngbpfilgaaGreat
open Go Go.RowKit Go.Maps
def MapN (w : World) (b n : Nat) (f : Int → Int) : Prop :=
 ∃ D : DataW Unit, w.ownsMap Tryz.prog 3 (plainElem Tryz.prog 3) b n D ∧ IsMap D ∧ ∀ k, D.atKey (.int .i64 k) (.lit (.int .i64 0)) = .lit (.int .i64 (f k))
theorem MapN.made (w : World) : MapN (w.alloc (.map #[] 0)) w.heap.size 0 (fun _ => 0) := ⟨.map [], World.ownsMap_made w _ _ _, isMap_empty, fun _ => rfl⟩
theorem MapN.chg {M : Nat → Prop} {w w' : World} {b n : Nat} {f : Int → Int} (h : MapN w b n f) (hc : Chg M w w') (hM : ¬ M b) : MapN w' b n f := by
 obtain ⟨D, ⟨es, clock, hb, h2⟩, h3⟩ := h
 exact ⟨D, ⟨es, clock, hc.heap hM hb, h2⟩, h3⟩
theorem MapN.ext {w w' : World} {b n : Nat} {f : Int → Int} (h : MapN w b n f) (hc : Ext w w') : MapN w' b n f := h.chg (M := fun _ => False) (Chg.of_ext hc) (fun h => h)
theorem MapN.lt {w : World} {b n : Nat} {f : Int → Int} (h : MapN w b n f) : b < w.heap.size := by
 obtain ⟨D, h1, _⟩ := h
 exact h1.lt
theorem MapN.more {w : World} {b n n' : Nat} {f g : Int → Int} (h : MapN w b n f) (hn : n ≤ n') (hf : ∀ k, f k = g k) : MapN w b n' g := by
 obtain ⟨D, h1, h2, h3⟩ := h
 exact ⟨D, h1.mono hn, h2, fun k => by rw [h3 k, hf k]⟩
theorem MapN.put {w : World} {b n n' : Nat} {f g : Int → Int} {D : DataW Unit} {x y : Int} (h : w.ownsMap Tryz.prog 3 (plainElem Tryz.prog 3) b n' (D.put (.int .i64 x) (.lit (.int .i64 y)))) (hD : IsMap D)
  (hf : ∀ k, D.atKey (.int .i64 k) (.lit (.int .i64 0)) = .lit (.int .i64 (f k))) (hn : n' ≤ n) (hx : g x = y) (hg : ∀ k, k ≠ x → g k = f k) : MapN w b n g := by
 refine ⟨_, h.mono hn, hD.put _ _, fun k => ?_⟩
 by_cases e : k = x
 ·subst e
  rw [atKey_put_same hD (by unfold WideAt.IsKeyLit; trivial), hx]
 ·rw [atKey_put_other (by intro h; injection h with _ h2; exact e h2), hf k, hg k e]
def mapF (l : List Int) (k : Nat) (j : Int) : Int := if 0 ≤ j ∧ j < k ∧ 0 ≤ l.getD j.toNat 0 then keepN l j.toNat else 0
theorem mapF_here {l : List Int} {k : Nat} (h : 0 ≤ l.getD k 0) : mapF l (k + 1) k = keepN l k := by
 unfold mapF
 rw [if_pos ⟨by omega, by omega, by simpa using h⟩]
 rfl
theorem mapF_other {l : List Int} {k : Nat} (j : Int) (e : j ≠ k) : mapF l (k + 1) j = mapF l k j := by
 unfold mapF
 have : (0 ≤ j ∧ j < k ∧ 0 ≤ l.getD j.toNat 0) ↔ (0 ≤ j ∧ j < (k + 1 : Nat) ∧ 0 ≤ l.getD j.toNat 0) := by omega
 simp only [this]
structure TO (w2 w5 : World) (m b8 : Nat) (A L : Int) (l : List Int) (k : Nat) (cur : List GOp) (wx : World) : Prop where
 ext : Ext w2 wx
 mp : MapN wx m k (mapF l k)
 c0 : Cx wx b8 0 (.int .i64 A)
 c1 : Cx wx b8 1 (.int .i64 L)
 c2 : ∃ v, Cx wx b8 2 v ∧ RowAt wx (b8 + 1) 2 v cur.length (cur.flatMap opF)
 size : w5.heap.size ≤ wx.heap.size
theorem TO.grow {w2 w5 : World} {m b8 : Nat} {A L : Int} {l : List Int} {k : Nat} {acc : List GOp} {wx W7 W8 : World} {y : GOp} {v v1 : Value} (h : TO w2 w5 m b8 A L l k acc wx) (hb : w2.heap.size ≤ b8) (hg : m < b8)
  (he : Ext wx W7) (hc : Cx wx b8 2 v) (hr : RowAt wx (b8 + 1) 2 v acc.length (acc.flatMap opF)) (hn : NewRow W7 W8 (b8 + 1) 2 v v1 (acc.length + 1) (acc.flatMap opF ++ opF y)) :
  TO w2 w5 m b8 A L l k (acc ++ [y]) (W8.setCell ⟨b8, 2, none⟩ v1) ∧ Cx W8 b8 2 v := by
 have hM : ∀ q, rowBlock v = some q → b8 + 1 ≤ q := hr.le
 have hch := hn.2.1
 have k2 : Cx W8 b8 2 v := (hc.ext he).chg hch (fun e => by have := hM _ e; omega)
 refine ⟨⟨?_, ?_, ?_, ?_, ⟨v1, k2.set v1, ?_⟩, ?_⟩, k2⟩
 ·exact (Chg.ext_from (h.ext.trans he) hch (fun q e => by have := hM _ e; omega)).setCell (p := ⟨b8, 2, none⟩) hb _
 ·exact ((h.mp.ext he).chg hch (fun e => by have := hM _ e; omega)).chg (chg_one W8 b8 2 v1) (by omega)
 ·exact ((h.c0.ext he).chg hch (fun e => by have := hM _ e; omega)).other (.inr (by omega)) _
 ·exact ((h.c1.ext he).chg hch (fun e => by have := hM _ e; omega)).other (.inr (by omega)) _
 ·rw [List.length_append, List.length_singleton, List.flatMap_append, List.flatMap_singleton]
  exact hn.1.chg (chg_one W8 b8 2 v1) (fun q e hq => by have := hn.1.le _ e; omega) (by decide)
 ·have e1 := h.size
  have e2 := he.size
  have e3 := hch.size
  have e4 : (W8.setCell ⟨b8, 2, none⟩ v1).heap.size = W8.heap.size := size_setCells b8 [v1] 2 W8
  omega
theorem TO.put {w2 w5 : World} {m b8 : Nat} {A L : Int} {l : List Int} {k : Nat} {acc : List GOp} {W6 W7 : World} {v : Value} {D : DataW Unit} (h : TO w2 w5 m b8 A L l k acc W6) (hb : w2.heap.size ≤ m) (hm : m < b8)
  (h0 : 0 ≤ l.getD k 0) (hal : acc.length = keepN l k) (hD : IsMap D) (hf : ∀ k', D.atKey (.int .i64 k') (.lit (.int .i64 0)) = .lit (.int .i64 (mapF l k k')))
  (hown : W7.ownsMap Tryz.prog 3 (plainElem Tryz.prog 3) m (k + 1) (D.put (.int .i64 k) (.lit (.int .i64 acc.length)))) (hg : W6.grownBy W7 (some m)) (hc : Cx W6 b8 2 v) (hr : RowAt W6 (b8 + 1) 2 v acc.length (acc.flatMap opF)) :
  (TO w2 w5 m b8 A L l (k + 1) acc W7 ∧ Cx W7 b8 2 v ∧ RowAt W7 (b8 + 1) 2 v acc.length (acc.flatMap opF)) ∧ Chg (· = m) W6 W7 := by
 have hch : Chg (· = m) W6 W7 := (Chg.refl _ _).grown hg (fun k e => by cases e; exact .inl rfl)
 have k2 := hc.chg hch (by omega)
 have k3 : RowAt W7 (b8 + 1) 2 v acc.length (acc.flatMap opF) := hr.chg hch (fun q e hq => by have := hr.le _ e; omega) (by decide)
 refine ⟨⟨⟨?_, ?_, h.c0.chg hch (by omega), h.c1.chg hch (by omega), ⟨v, k2, k3⟩, Nat.le_trans h.size hch.size⟩, k2, k3⟩, hch⟩
 ·exact Chg.ext_from h.ext hch (fun q e => by omega)
 ·exact MapN.put hown hD hf (Nat.le_refl _) (by rw [mapF_here h0, hal]) (fun j e => mapF_other j e)
theorem opF_set {cur : List GOp} {j : Nat} (hj : j < cur.length) (n : Int) : (cur.flatMap opF).set (j * 2 + 1) (.int .i64 n) = (cur.set j ⟨cur[j].kind, n⟩).flatMap opF := by
 induction cur generalizing j with
 | nil => simp at hj
 | cons x cur ih =>
  cases j with
  | zero => simp [opF]
  | succ j =>
   have := ih (j := j) (by simpa using hj)
   rw [List.flatMap_cons, Nat.succ_mul]
   simpa [opF] using this
theorem TO.store {w2 w5 : World} {m b8 : Nat} {A L : Int} {l : List Int} {k : Nat} {cur : List GOp} {wx : World} {g o cap j : Nat} (h : TO w2 w5 m b8 A L l k cur wx) (hb : w2.heap.size ≤ b8) (hm : m < b8)
  (hc : Cx wx b8 2 (.slice (some ⟨g, o, none⟩) cur.length cap)) (hr : RowAt wx (b8 + 1) 2 (.slice (some ⟨g, o, none⟩) cur.length cap) cur.length (cur.flatMap opF)) (hg : b8 + 1 ≤ g) (hj : j < cur.length) (n : Int) :
  TO w2 w5 m b8 A L l k (cur.set j ⟨cur[j].kind, n⟩) (wx.setCell ⟨g, o + j * 2 + 1, none⟩ (.int .i64 n)) := by
 rw [Nat.add_assoc]
 have hch := chg_one wx g (o + (j * 2 + 1)) (.int .i64 n)
 refine ⟨h.ext.setCell (p := ⟨g, _, none⟩) (show w2.heap.size ≤ g by omega) _, h.mp.chg hch (by omega), h.c0.chg hch (by omega), h.c1.chg hch (by omega), ⟨_, hc.chg hch (by omega), ?_⟩, Nat.le_trans h.size hch.size⟩
 have := hr.store (j := j * 2 + 1) (by omega) (.int .i64 n)
 rw [opF_set hj] at this
 rw [List.length_set]
 exact this
end Go.Proofs.YtgahbngbpfilgaaGreat
end
section
set_option maxHeartbeats 4000000
set_option maxRecDepth 100000
namespace Go.Proofs.YtgahbngbpfilgaaGreat
open Go Go.RowKit
end Go.Proofs.YtgahbngbpfilgaaGreat
end
section
set_option maxHeartbeats 4000000
set_option maxRecDepth 100000
namespace Go.Proofs.YtgahbngbpfilgaaGreat
open Go Go.RowKit
set_option maxRecDepth 100000 in
theorem infoF : (Tryz.prog.info? 63).map (fun i => (i.zero, i.size, i.bytes)) = some (some (.agg #[.int .i64 0, .int .i64 0, .slice none 0 0]), 3, 40) := by kernel_rfl
theorem RowAt.lt {w : World} {base size : Nat} {v : Value} {n : Nat} {xs : List Value} (h : RowAt w base size v n xs) (hs : 0 < size) : ∀ g, rowBlock v = some g → g < w.heap.size := by
 obtain ⟨_, a, cap, rfl, _, _, h3⟩ := h
 intro g hg
 rcases h3 with h0 | ⟨g', o, rfl, _, _, ht⟩
 ·subst h0; cases a <;> simp [rowBlock] at hg
 ·by_cases hc : cap = 0
  ·subst hc; simp [rowBlock] at hg
  ·rw [rowBlock_some g' o n cap hc] at hg
   cases hg
   obtain ⟨v, hv⟩ := Option.isSome_iff_exists.1 (ht 0 (Nat.mul_pos (by omega) hs)).1
   exact lt_of_cell hv
theorem Sl.map {α β : Type} {E : Nat → Nat → β → Prop} {sz bytes : Nat} {v : Value} {l : List α} (f : α → β) (h : Sl (fun b o y => E b o (f y)) sz bytes v l) : Sl E sz bytes v (l.map f) := by
 obtain ⟨a, cap, rfl, h1, h2, h3⟩ := h
 refine ⟨a, cap, by rw [List.length_map], by rw [List.length_map]; exact h1, by rw [List.length_map]; exact h2, fun i hi => ?_⟩
 obtain ⟨b, o, e, h4⟩ := h3 i (by rwa [List.length_map] at hi)
 exact ⟨b, o, e, by rw [List.getElem_map]; exact h4⟩
def funcF (y : GFunc × Value) : List Value := [.int .i64 y.1.args, .int .i64 y.1.locals, y.2]
structure FRow (w : World) (base : Nat) (v : Value) (fs : List (GFunc × Value)) : Prop where
 row : RowAt w base 3 v fs.length (fs.flatMap funcF)
 ops : ∀ y ∈ fs, I64 y.1.args ∧ I64 y.1.locals ∧ Ops w (fun b => base ≤ b ∧ rowBlock v ≠ some b) y.2 y.1.code
theorem FRow.nil (w : World) (base : Nat) : FRow w base (.slice none 0 0) [] := ⟨RowAt.nil _ _ _ _, by simp⟩
theorem FRow.chg {M : Nat → Prop} {w w' : World} {base : Nat} {v : Value} {fs : List (GFunc × Value)} (h : FRow w base v fs) (hc : Chg M w w') (hM : ∀ b, base ≤ b → ¬ M b) : FRow w' base v fs :=
 ⟨h.row.chg hc (fun g e => hM g (h.row.le g e)) (by decide), fun y hy => ⟨(h.ops y hy).1, (h.ops y hy).2.1, Ops.stays (hc.stays (fun b hb => hM b hb.1)) (h.ops y hy).2.2⟩⟩
theorem FRow.ext {w w' : World} {base : Nat} {v : Value} {fs : List (GFunc × Value)} (h : FRow w base v fs) (he : Ext w w') : FRow w' base v fs := h.chg (M := fun _ => False) (Chg.of_ext he) (fun _ _ h => h)
theorem FRow.grow {w w' : World} {base : Nat} {v v' : Value} {fs : List (GFunc × Value)} {y : GFunc × Value} (h : FRow w base v fs) (hn : NewRow w w' base 3 v v' (fs.length + 1) (fs.flatMap funcF ++ funcF y))
  (hy : I64 y.1.args ∧ I64 y.1.locals ∧ Ops w (fun b => base ≤ b ∧ rowBlock v ≠ some b) y.2 y.1.code) : FRow w' base v' (fs ++ [y]) := by
 obtain ⟨hr, hc, hb⟩ := hn
 refine ⟨?_, fun z hz => ?_⟩
 ·rw [List.length_append, List.length_singleton, List.flatMap_append, List.flatMap_singleton]
  exact hr
 ·have hz' : I64 z.1.args ∧ I64 z.1.locals ∧ Ops w (fun b => base ≤ b ∧ rowBlock v ≠ some b) z.2 z.1.code := by
   rcases List.mem_append.1 hz with h1 | h1
   ·exact h.ops z h1
   ·rw [List.mem_singleton] at h1; subst h1; exact hy
  refine ⟨hz'.1, hz'.2.1, Ops.stays (fun b o u hS hu => ⟨hc.cell hS.2 hu, hS.1, ?_⟩) hz'.2.2⟩
  rcases hb with e | e
  ·rw [e]; exact hS.2
  ·intro e2
   have := e b e2
   have := lt_of_cell hu
   omega
theorem FRow.funcs {w : World} {base : Nat} {v : Value} {fs : List (GFunc × Value)} (h : FRow w base v fs) (hb : fs.length ≤ 1000000) : Funcs w (base ≤ ·) v (fs.map Prod.fst) := by
 refine Sl.map Prod.fst (Sl.of_row funcF h.row (fun _ => rfl) (by omega) fun b o y hbb _ hy hc => ?_)
 obtain ⟨i1, i2, i3⟩ := h.ops y hy
 exact ⟨⟨hbb, hc 0 _ rfl, i1⟩, ⟨hbb, hc 1 _ rfl, i2⟩, y.2, hc 2 _ rfl, Ops.stays (Stays.widen (fun b hb => hb.1)) i3⟩
theorem src_func (w : World) (F : GFunc) (a : Option Addr) (n cap : Nat) (t : TypeId) : SrcSl (w.alloc (.cells #[.int .i64 F.args, .int .i64 F.locals, .slice a n cap] t)) 3 (.slice (some ⟨w.heap.size, 0, none⟩) 1 1) 1 (funcF (F, .slice a n cap)) := by
 refine ⟨_, 1, rfl, rfl, by simp [funcF, Value.oneCell'], .inr ⟨_, rfl, fun j u hj => ?_⟩⟩
 match j, hj with
 | 0, hj => cases hj; rw [Addr.add_zero']; exact World.cell?_alloc_new w _ _ 0
 | 1, hj => cases hj; exact World.cell?_alloc_new w _ _ 1
 | 2, hj => cases hj; exact World.cell?_alloc_new w _ _ 2
end Go.Proofs.YtgahbngbpfilgaaGreat
end
