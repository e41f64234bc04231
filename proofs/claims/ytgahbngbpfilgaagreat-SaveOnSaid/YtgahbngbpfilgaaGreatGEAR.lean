/- Merged texts: contracts and plain facts, one part behind another; each part begins with what it says. -/
import Derived.Test.YtgahbngbpfilgaaGreatGEAD
import Derived.Test.YtgahbngbpfilgaaGreatGEAF
import Derived.Test.YtgahbngbpfilgaaGreatGEAP
import Derived.Test.YtgahbngbpfilgaaGreatGEAQ
section
set_option maxHeartbeats 4000000
set_option maxRecDepth 100000
namespace Go.Proofs.YtgahbngbpfilgaaGreat
open Go Go.RowKit
theorem add_end {w5 w6 Wv : World} {B b gl : Nat} {P : PState} {an : Int} {N : Nat} {v1 : Value} (h : OwnS w5 B b P) (hE : Ext w5 w6) (hrow : RowAt w6 w5.heap.size 1 (.slice (some ⟨gl, 0, none⟩) N N) N (ints (List.replicate N 0))) (tf tb : TypeId)
  (hRV : NewRow ((w6.alloc (.cells #[.int .i64 an, .int .i64 0, .slice (some ⟨gl, 0, none⟩) N N, .slice none 0 0] tf)).alloc (.cells #[.slice (some ⟨w6.heap.size, 0, none⟩) 1 1, .int .i64 (-1)] tb)) Wv B 2 P.vfs v1 (P.fs.length + 1) (P.fs.flatMap fiberF ++ [.slice (some ⟨w6.heap.size, 0, none⟩) 1 1, .int .i64 (-1)]))
  (hgl : w5.heap.size ≤ gl) (hI : I64 an) (hN : N ≤ 1000) (hl : P.fs.length < 1000) :
  Turn w5 (Wv.setCell ⟨b, 0, none⟩ v1) B b P { P.g with fibers := P.g.fibers ++ [⟨[⟨an, 0, List.replicate N 0, []⟩], -1⟩] } := by
 obtain ⟨r1, r2, r3⟩ := hRV
 let X : PFrame := ⟨⟨an, 0, List.replicate N 0, []⟩, .slice (some ⟨gl, 0, none⟩) N N, .slice none 0 0⟩
 let Y : PFiber := ⟨[X], -1, .slice (some ⟨w6.heap.size, 0, none⟩) 1 1⟩
 have hBw : B ≤ w5.heap.size := Nat.le_trans h.le (Nat.le_of_lt h.c0.lt)
 have hEm : Ext w5 ((w6.alloc (.cells #[.int .i64 an, .int .i64 0, .slice (some ⟨gl, 0, none⟩) N N, .slice none 0 0] tf)).alloc (.cells #[.slice (some ⟨w6.heap.size, 0, none⟩) 1 1, .int .i64 (-1)] tb)) := (hE.alloc _).alloc _
 have hE6 : Ext w6 ((w6.alloc (.cells #[.int .i64 an, .int .i64 0, .slice (some ⟨gl, 0, none⟩) N N, .slice none 0 0] tf)).alloc (.cells #[.slice (some ⟨w6.heap.size, 0, none⟩) 1 1, .int .i64 (-1)] tb)) := ((Ext.refl _).alloc _).alloc _
 have hold : ∀ k, rowBlock P.vfs = some k → k < w5.heap.size := fun k hk => h.lt k (List.mem_cons_of_mem _ (PState.mem_vfs hk))
 have h56 := hE.size
 have hvb : ∀ k, rowBlock (.slice (some ⟨gl, 0, none⟩) N N) = some k → k = gl ∧ gl < w6.heap.size := fun k hk => by
  by_cases h0 : N = 0
  ·subst h0; simp [rowBlock] at hk
  ·have h1 := hrow.lt2 (by decide) k hk
   rw [rowBlock_some _ _ _ _ h0] at hk
   cases hk
   exact ⟨rfl, h1⟩
 have hXO : FrameO Wv B X := by
  refine ⟨⟨hI, I64.zero, fun k hk => ?_, fun k hk => by cases hk⟩, ?_, RowAt.nil _ _ _ _, ⟨by show (List.replicate N (0 : Int)).length ≤ 1000; rw [List.length_replicate]; exact hN, by show 0 ≤ 1000; omega⟩⟩
  ·rw [List.eq_of_mem_replicate hk]; exact I64.zero
  ·show RowAt Wv B 1 (.slice (some ⟨gl, 0, none⟩) N N) (List.replicate N (0 : Int)).length (ints (List.replicate N 0))
   rw [List.length_replicate]
   refine ((hrow.mono hBw).ext hE6 (by decide)).chg r2 (fun k hk e => ?_) (by decide)
   have := (hvb k hk).1
   have := hold k e
   omega
 have hYO : FiberO Wv B Y := by
  refine ⟨I64.neg1, ?_, fun u hu => ?_, by show 1 ≤ 1000; omega⟩
  ·have hm := RowAt.made w6 #[.int .i64 an, .int .i64 0, .slice (some ⟨gl, 0, none⟩) N N, .slice none 0 0] tf 4 1 B (by omega) (by unfold maxLen; omega) rfl
   refine (hm.ext ((Ext.refl _).alloc _) (by decide)).chg r2 (fun k hk e => ?_) (by decide)
   have hk' : w6.heap.size = k := by simpa [rowBlock] using hk
   have := hold k e
   omega
  ·rw [List.mem_singleton.1 hu]; exact hXO
 have hms : ((w6.alloc (.cells #[.int .i64 an, .int .i64 0, .slice (some ⟨gl, 0, none⟩) N N, .slice none 0 0] tf)).alloc (.cells #[.slice (some ⟨w6.heap.size, 0, none⟩) 1 1, .int .i64 (-1)] tb)).heap.size = w6.heap.size + 2 := by simp
 have hv1 : rowBlock v1 = rowBlock P.vfs ∨ ∀ k, rowBlock v1 = some k → w6.heap.size + 2 ≤ k := r3.imp id fun e k hk => by have := e k hk; omega
 have hYbl : ∀ k ∈ Y.bl, k = w6.heap.size ∨ (k = gl ∧ gl < w6.heap.size) := fun k hk => by
  unfold PFiber.bl at hk
  simp only [Y, List.flatMap_cons, List.flatMap_nil, List.append_nil, List.mem_append] at hk
  rcases hk with h1 | h1
  ·left; simpa [rowBlock, eq_comm] using h1
  ·unfold PFrame.bl at h1
   rcases List.mem_append.1 h1 with h2 | h2
   ·exact .inr (hvb k (by simpa using h2))
   ·simp [X, rowBlock] at h2
 obtain ⟨o9, c9⟩ := h.addFiber (y := Y) (v1 := v1) ((Chg.of_ext hEm).trans r2) (by
   rw [List.length_append, List.length_singleton, List.flatMap_append]; exact r1) hYO hl (hv1.imp id fun e k hk => by have := e k hk; omega) (by
   unfold PFiber.bl
   simp only [Y, List.flatMap_cons, List.flatMap_nil, List.append_nil]
   unfold PFrame.bl
   rw [show rowBlock X.vs = none from rfl, show rowBlock (.slice (some ⟨w6.heap.size, 0, none⟩) 1 1) = some w6.heap.size from rowBlock_some _ _ _ _ (by decide)]
   cases hr : rowBlock X.vl with
   | none => simp
   | some k =>
    have h3 := hvb k hr
    have h4 : w6.heap.size ≠ k := by omega
    simp [h4]) (fun k hk => by
   refine ⟨by rcases hYbl k hk with h1 | h1 <;> omega, fun e => ?_⟩
   rcases hv1 with h2 | h2
   ·have := hold k (h2 ▸ e)
    rcases hYbl k hk with h1 | h1 <;> omega
   ·have := h2 k e
    rcases hYbl k hk with h1 | h1 <;> omega)
 refine ⟨⟨_, o9, ?_, fun k hk => ?_⟩, c9⟩
 ·unfold PState.g
  simp [Y, X, PFiber.g]
 ·unfold PState.bl at hk
  simp only [List.flatMap_append, List.mem_append] at hk
  rcases hk with (h3 | h3) | h3 | h3
  ·have h4 : rowBlock v1 = some k := by simpa using h3
   rcases hv1 with h5 | h5
   ·exact .inl (PState.mem_vfs (h5 ▸ h4))
   ·have := h5 k h4
    exact .inr (by omega)
  ·exact .inl (PState.mem_vo (by simpa using h3))
  ·obtain ⟨z, hz, h4⟩ := List.mem_flatMap.1 h3
   exact .inl (PState.mem_fs hz h4)
  ·have h4 : k ∈ Y.bl := by simpa using h3
   exact .inr (by rcases hYbl k h4 with h1 | h1 <;> omega)
theorem funcs_turn {w w' : World} {B b : Nat} {P : PState} {v : Value} {p : List GFunc} (h : OwnS w B b P) (hp : Funcs w (· < B) v p) (hc : Chg (· ∈ b :: P.bl) w w') : Funcs w' (· < B) v p :=
 Funcs.stays (hc.stays (fun k hk hm => by have := h.ge k hm; omega)) hp
theorem engFiber_any (n : Nat) {P : PState} {w : World} {B b eb : Nat} {p : List GFunc} {a : Option Addr} {cp : Nat} (h : EngS w B b eb p a cp P) (hp : Funcs w (· < B) (.slice a p.length cp) p) (ht : HasTop P.g P.g.now) (hr : Room P.g) (h5 : P.g.fibers.length ≤ 5) (hb : MakeFit p n) :
  Calls Tryz.prog 107 #[.pointer (some ⟨eb, 0, none⟩), .int .i64 n] w fun e w' => e = endS (makeG p P.g n).1 ∧ Did w w' B b P (makeG p P.g n) := by
 obtain ⟨-, hn, hL0, hL9⟩ := hb
 have hn : n < p.length := by omega
 obtain ⟨N, hN⟩ : ∃ N : Nat, (funcOf p n).locals = N := ⟨(funcOf p n).locals.toNat, by omega⟩
 have hN9 : N ≤ 900 := by omega
 have hfl : P.g.fibers.length = P.fs.length := by unfold PState.g; simp
 rw [hfl] at h5
 have hG : makeG p P.g n = if P.fs.length = 5 then (2, P.g) else (0, { pushG P.g P.g.now P.fs.length with fibers := (pushG P.g P.g.now P.fs.length).fibers ++ [⟨[⟨n, 0, List.replicate N 0, []⟩], -1⟩] }) := by
  unfold makeG freshFrame
  rw [hfl, hN]
  rfl
 have hby := Sl.bd hp
 obtain ⟨av, cv, ev, hcv, _⟩ := h.own.row.shape
 obtain ⟨c0, c0'⟩ := h.own.c0
 rw [ev] at c0
 obtain ⟨⟨x0, x0'⟩, ⟨x1, x1'⟩⟩ := h.eng
 have H := Lib.hid h
 have HP := Lib.hid hp
 have HT := Lib.hid ht
 have HR := Lib.hid hr
 have HN := Lib.hid hN
 have HG := Lib.hid hG
 have HFL := Lib.hid hfl
 obtain ⟨i2, hi2, hz6, hz7, hz8⟩ := info_parts infoFb
 have RA := alloc_keep
 clear h hp ht hr hN hG hfl ev hcv hL0 hL9
 generalize hM : P.fs.length = M at *
 have HM := Lib.hid hM
 clear hM
 go_enter Tryz.func107, Tryz.ntmps107
 rcases Nat.lt_or_ge M 5 with hlt | hlt
 ·have T : decide (((M : Nat) : Int) < 5) = true := decide_eq_true (by omega)
  have HGE : Hid (makeG p P.g n = (0, { pushG P.g P.g.now M with fibers := (pushG P.g P.g.now M).fibers ++ [⟨[⟨n, 0, List.replicate N 0, []⟩], -1⟩] })) := by unfold Hid; rw [HG.out, if_neg (by omega)]
  go_upto_region 3 with (first
   | (go_at_call 123; (with_reducible refine (stepMust_any _ _ _).mono ?_); rintro e w3 ⟨he, rfl⟩; simp only [mustS] at he; subst he)
   | (go_at_call 74; (with_reducible refine (engPush_new H.out.own H.out.eng HT.out HR.out (M : Int) (I64.nat (by omega)) _).mono ?_); rintro e w5 ⟨rfl, t5⟩))
  obtain ⟨P5, h5', g5, s5, c5⟩ := H.out.turn t5
  have hl5 : P5.fs.length = M := by
   have e1 : P5.fs.length = P5.g.fibers.length := by unfold PState.g; simp
   rw [e1, g5]
   exact (modFib_len _ _ _).trans HFL.out
  obtain ⟨a5, c5v, e5, hc5, hm5⟩ := h5'.own.row.shape
  obtain ⟨k50, k50'⟩ := h5'.own.c0
  rw [e5, hl5] at k50
  obtain ⟨⟨y0, y0'⟩, ⟨y1, y1'⟩⟩ := h5'.eng
  have HP5 := Lib.hid (funcs_turn H.out.own HP.out c5)
  have H5 := Lib.hid h5'
  have HG5 := Lib.hid g5
  have HS5 := Lib.hid s5
  have HC5 := Lib.hid c5
  have HL5 := Lib.hid hl5
  have HE5 := Lib.hid e5
  have HROW5 : Hid (RowAt w5 B 2 (.slice a5 M c5v) M (P5.fs.flatMap fiberF)) := by unfold Hid; rw [← hl5, ← e5]; exact h5'.own.row
  have HBW : Hid (B ≤ w5.heap.size) := Nat.le_trans h5'.own.le (Nat.le_of_lt h5'.own.c0.lt)
  have HNB : Hid (∀ k, rowBlock (.slice a5 M c5v) = some k → k ≠ b ∧ k ≠ eb) := by
   unfold Hid
   rw [← hl5, ← e5]
   exact fun k e => ⟨fun e' => h5'.own.dis.1 (PState.mem_vfs (e' ▸ e)), fun e' => h5'.off (List.mem_cons_of_mem _ (PState.mem_vfs (e' ▸ e)))⟩
  clear h5' g5 s5 c5 hl5 e5 t5 hc5 hm5 x0 x0' x1 x1' c0 c0'
  rename World => w5
  refine wp_region_rt (fun w' => w'.cell? ⟨eb, 0, none⟩ = some (.pointer (some ⟨b, 0, none⟩)) ∧ w'.cell? ⟨eb, 1, none⟩ = some (.slice a p.length cp) ∧ w'.cell? ⟨b, 0, none⟩ = some (.slice a5 M c5v))
   23 [0, 1, 2, 3, 4, 5, 6, 7, 8, 9, 10, 11, 12, 13, 14, 15] [16, 17, 18, 19, 20, 21, 22, 23] (by kernel_rfl) (by kernel_rfl) (fun _ _ _ _ _ h => h) (by exact ⟨y0, y1, k50⟩) ?_
  (try simp only [pickOps, List.filterMap_cons, List.filterMap_nil, List.getElem?_cons_zero, List.getElem?_cons_succ])
  repeat (
   refine readsQ_do (by rfl) ?_
   apply Exists.intro
   refine ⟨fun w' hw' => ?_, ?_⟩
   focus
    (try dsimp only at hw')
    go_split_ands
    go_simp
    (try with_reducible rfl)
   (try dsimp only [Act.put])
   (try simp only [List.setIfInBounds_toArray, List.set_cons_succ, List.set_cons_zero]))
  refine readsQ_nil ?_
  have HPD := Lib.hid (Funcs.stays (Ext.stays (Ext.refl w5).drew) HP5.out)
  refine tailW_step ?_
  go_wp2_with (first
   | (go_at_call 59; (with_reducible refine (frameO_any p _ (· < B) n N _ HPD.out hn HN.out hN9).mono ?_); rintro e w6 ⟨⟨gl, rfl, hrow6, hgl6⟩, hx6⟩))
  have hE6 : Ext w5 w6 := (Ext.refl w5).drew.trans hx6
  have HE6 := Lib.hid hE6
  have HROW6 : Hid (RowAt w6 w5.heap.size 1 (.slice (some ⟨gl, 0, none⟩) N N) N (ints (List.replicate N 0))) := hrow6
  have HGL : Hid (w5.heap.size ≤ gl) := hgl6
  have S6 := Lib.hid (⟨Ext.cell hE6 y0, Ext.cell hE6 y1, Ext.cell hE6 k50⟩ : _ ∧ _ ∧ _)
  clear hE6 hrow6 hgl6 hx6
  refine nextW_go S6.out ?_
  refine tailW_step ?_
  go_wp2_with fail
  have hA7 : Ext w6 (w6.alloc (.cells #[.int .i64 n, .int .i64 0, .slice (some ⟨gl, 0, none⟩) N N, .slice none 0 0] 43)) := (Ext.refl _).alloc _
  have S7 := Lib.hid (⟨Ext.cell hA7 S6.out.1, Ext.cell hA7 S6.out.2.1, Ext.cell hA7 S6.out.2.2⟩ : _ ∧ _ ∧ _)
  clear hA7
  refine nextW_go S7.out ?_
  refine tailW_step ?_
  go_wp2_with fail
  refine nextW_go S7.out ?_
  refine tailW_step ?_
  go_wp2_with fail
  have hA8 : Ext w6 ((w6.alloc (.cells #[.int .i64 n, .int .i64 0, .slice (some ⟨gl, 0, none⟩) N N, .slice none 0 0] 43)).alloc (.cells #[.slice (some ⟨w6.heap.size, 0, none⟩) 1 1, .int .i64 (-1)] 41)) := ((Ext.refl _).alloc _).alloc _
  have HA8 := Lib.hid hA8
  have S8 := Lib.hid (⟨Ext.cell hA8 S6.out.1, Ext.cell hA8 S6.out.2.1, Ext.cell hA8 S6.out.2.2⟩ : _ ∧ _ ∧ _)
  clear hA8
  have HS66 : Hid ((w6.alloc (.cells #[.int .i64 n, .int .i64 0, .slice (some ⟨gl, 0, none⟩) N N, .slice none 0 0] 43)).heap.size = w6.heap.size + 1) := Array.size_push _
  refine nextW_go S8.out ?_
  refine tailW_step ?_
  go_wp2_with (first
   | (at_builtin; refine wpList_append_row rfl _ _ 23 rfl B 41 i2 (.agg #[.slice none 0 0, .int .i64 0]) 2 32 Tryz.underlying23 hi2 hz6 hz7 hz8 rfl (by decide) _ _ _ rfl (by exact (HROW5.out.ext (HE6.out.trans HA8.out) (by decide))) 1 _ (by rw [← HS66.out]; exact src_cells _ _ 2 rfl (by simp [Value.oneCell']) _) (by unfold maxLen; omega) (by omega) (by exact Nat.le_trans HBW.out (Ext.size (HE6.out.trans HA8.out))) ?_; intro v1 Wv1 rv1; have RV := Lib.hid rv1; obtain ⟨a9, cap9, rfl, _, _⟩ := rv1.1.shape; clear rv1))
  have hRV : NewRow ((w6.alloc (.cells #[.int .i64 n, .int .i64 0, .slice (some ⟨gl, 0, none⟩) N N, .slice none 0 0] 43)).alloc (.cells #[.slice (some ⟨w6.heap.size, 0, none⟩) 1 1, .int .i64 (-1)] 41)) Wv1 B 2 (.slice a5 M c5v) (.slice a9 (M + 1) cap9) (M + 1) (P5.fs.flatMap fiberF ++ [.slice (some ⟨w6.heap.size, 0, none⟩) 1 1, .int .i64 (-1)]) := RV.out
  have SS := Lib.hid (⟨Chg.cell hRV.2.1 (fun e => (HNB.out eb e).2 rfl) S8.out.1, Chg.cell hRV.2.1 (fun e => (HNB.out eb e).2 rfl) S8.out.2.1, Chg.cell hRV.2.1 (fun e => (HNB.out b e).1 rfl) S8.out.2.2⟩ : _ ∧ _ ∧ _)
  obtain ⟨v0, v0'⟩ := (Cx.ext (W := w5) ⟨k50, k50'⟩ (HE6.out.trans HA8.out)).chg hRV.2.1 (fun e => (HNB.out b e).1 rfl)
  refine nextW_go SS.out ?_
  refine tailW_step ?_
  go_wp2_with fail
  refine nextW_go SS.out ?_
  refine tailW_step ?_
  go_wp2_with fail
  refine nextW_go SS.out ?_
  refine tailW_step ?_
  go_wp2_with fail
  refine nextW_end ?_
  go_end0
  rw [HGE.out]
  have hfin := add_end H5.out.own HE6.out HROW6.out 43 41 (by rw [HE5.out, HL5.out]; exact hRV) HGL.out (I64.nat (by omega)) (by omega) (by rw [HL5.out]; omega)
  refine ⟨rfl, Did.of (Turn.step HC5.out HS5.out ?_)⟩
  rw [HG5.out] at hfin
  exact hfin
 ·have T : decide (((M : Nat) : Int) < 5) = false := decide_eq_false (by omega)
  have HGE : Hid (makeG p P.g n = (2, P.g)) := by unfold Hid; rw [HG.out, if_pos (by omega)]
  go_wp2_with (first
   | (go_at_call 123; (with_reducible refine (stepMust_any _ _ _).mono ?_); rintro e w3 ⟨he, rfl⟩; simp only [mustS] at he; subst he))
  rw [HGE.out]
  exact ⟨rfl, rfl, ⟨Chg.refl _ _, fun h => by cases h⟩⟩
end Go.Proofs.YtgahbngbpfilgaaGreat
end
section
set_option maxHeartbeats 2000000
set_option maxRecDepth 100000
namespace Go.Proofs.YtgahbngbpfilgaaGreat
open Go Go.RowKit
theorem indexI_any (l : List Int) (v : Value) (x : Int) (S : Nat → Prop) (w : World) (hl : Ints w S v l) :
  Calls Tryz.prog 120 #[v, .int .i64 x] w fun e w' => (∃ i : Int, e = .returned (.int .i64 i) ∧ (0 ≤ i ↔ x ∈ l) ∧ I64 i) ∧ Ext w w' := by
 have HL := Lib.hid hl
 obtain ⟨pa, ca, rfl, hca, hba, _⟩ := hl
 go_enter Tryz.func120, Tryz.ntmps120
 go_wp2_with fail
 go_loopw [8] (fun q wr => ∃ k : Nat, k ≤ l.length ∧ q = .int .i64 k ∧ Ext w wr ∧ x ∉ l.take k) (fun q _ => l.length - (intOf q).toNat)
 case atStart => exact ⟨0, Nat.zero_le _, rfl, Ext.refl _, by simp⟩
 case round =>
  obtain ⟨k, hk, rfl, hb3, htk⟩ := hrel
  have HB3 := Lib.hid hb3
  have HTK := Lib.hid htk
  clear hb3 htk
  by_cases hlt : k < l.length
  ·obtain ⟨ba, oa, _, e1, _, _, _, x0, _⟩ := HL.out.get hlt
   simp only [Value.slice.injEq] at e1
   obtain ⟨rfl, -, rfl⟩ := e1
   rw [Nat.mul_one] at x0
   have x1 := Ext.cell HB3.out x0
   have HM : Hid (l[k] ∈ l) := List.getElem_mem hlt
   have HS : Hid (l.take (k + 1) = l.take k ++ [l[k]]) := List.take_succ_eq_append_getElem hlt
   clear x0
   generalize l[k] = u at *
   by_cases hu : x = u
   ·have TT : (x == u) = true := by simp [hu]
    have HX : Hid (x ∈ l) := hu ▸ HM.out
    clear hu
    go_wp2_with fail
    go_ret
    exact ⟨⟨k, rfl, ⟨fun _ => HX.out, fun _ => by omega⟩, I64.nat (by omega)⟩, HB3.out⟩
   ·have TT : (x == u) = false := by simp [hu]
    have HX : Hid (x ∉ l.take (k + 1)) := by unfold Hid; rw [HS.out, List.mem_append, List.mem_singleton]; exact fun h => h.elim HTK.out hu
    clear hu
    go_wp2_with fail
    go_roundw
    case rel => exact ⟨k + 1, by omega, by go_num, HB3.out, HX.out⟩
    case measure => simp [intOf]; omega
  ·obtain rfl : k = l.length := by omega
   have HX : Hid (x ∉ l) := by have := HTK.out; rwa [List.take_length] at this
   go_wp2_with fail
   go_ret
   exact ⟨⟨-1, rfl, ⟨fun h => by omega, fun h => (HX.out h).elim⟩, I64.small (by omega) (by omega)⟩, HB3.out⟩
theorem containsI_any (l : List Int) (v : Value) (x : Int) (S : Nat → Prop) (w : World) (hl : Ints w S v l) :
  Calls Tryz.prog 101 #[v, .int .i64 x] w fun e w' => e = .returned (.bool (decide (x ∈ l))) ∧ Ext w w' := by
 have HL := Lib.hid hl
 obtain ⟨pa, ca, rfl, hca, hba, _⟩ := hl
 obtain ⟨t, ht⟩ : ∃ t, decide (x ∈ l) = t := ⟨_, rfl⟩
 rw [ht]
 have HT := Lib.hid ht
 clear ht
 go_enter Tryz.func101, Tryz.ntmps101
 go_wp2_with (first
  | (go_at_call 120; (with_reducible refine (indexI_any l _ x S _ HL.out).mono ?_); rintro e w2 ⟨⟨i, rfl, hi, _⟩, hx⟩; have HI := Lib.hid hi; clear hi))
 go_ret
 refine ⟨?_, hx⟩
 exact congrArg (fun b => Ending.returned (.bool b)) ((decide_eq_decide.2 HI.out).trans HT.out)
end Go.Proofs.YtgahbngbpfilgaaGreat
end
section
set_option maxHeartbeats 4000000
set_option maxRecDepth 100000
namespace Go.Proofs.YtgahbngbpfilgaaGreat
open Go Go.RowKit
def LineRetS (B : Nat) (s : GState) (e : Ending) (w' : World) : Prop :=
 match lineS s with
 | none => e = .returned (.tuple #[.slice none 0 0, .bool false])
 | some l => ∃ a c, e = .returned (.tuple #[.slice a l.length c, .bool true]) ∧ Ints w' (B ≤ ·) (.slice a l.length c) l
theorem line_any (s : GState) (vs : Value) (T : Nat → Prop) (w : World) (hs : StateV w T vs s) (hc : Callers s) :
  Calls Tryz.prog 68 #[vs] w fun e w' => LineRetS w.heap.size s e w' ∧ Ext w w' := by
 obtain ⟨fs, now, outs⟩ := s
 obtain ⟨x, y, rfl, hfs, _, hout⟩ := hs
 have HFS := Lib.hid hfs
 obtain ⟨af, cf, rfl, _, _, _⟩ := hfs
 obtain ⟨ao, co, rfl, _, _, _⟩ := hout
 simp only at *
 have RA := alloc_keep
 obtain ⟨i0, hi0, hz0, hz1, hz2⟩ := info_parts infoI
 have HC := Lib.hid hc
 have hfew := hc.few
 simp only at hfew
 clear hc
 obtain ⟨S, hS⟩ : ∃ S : GState, (⟨fs, now, outs⟩ : GState) = S := ⟨_, rfl⟩
 have hl0 : lineGo fs (fs.length + 2 - ([] : List Int).length) now [] = lineS S := by rw [← hS]; rfl
 have HS := Lib.hid hS
 have bx0 := Lib.hid (Cx.new w [.slice af fs.length cf, .int .i64 now, .slice ao outs.length co] 26 (j := 0) rfl)
 have bx1 := Lib.hid (Cx.new w [.slice af fs.length cf, .int .i64 now, .slice ao outs.length co] 26 (j := 1) rfl)
 have hE1 := (Ext.refl w).alloc (.cells #[.slice af fs.length cf, .int .i64 now, .slice ao outs.length co] 26)
 have hL0 : LineOn fs now [] := ⟨HC.out.now, List.nodup_nil, by simp⟩
 have HL0 := Lib.hid hl0
 have HLN := Lib.hid hL0
 have HE1 := Lib.hid hE1
 have HSZ1 : Hid ((w.alloc (.cells #[.slice af fs.length cf, .int .i64 now, .slice ao outs.length co] 26)).heap.size = w.heap.size + 1) := Array.size_push _
 rw [hS]
 clear hl0 hL0 hE1 hS
 go_enter Tryz.func68, Tryz.ntmps68
 go_wp2_with fail
 generalize w.alloc (.cells #[.slice af fs.length cf, .int .i64 now, .slice ao outs.length co] 26) = w1 at *
 have hsz1 := bx0.out.lt
 go_loopw [4, 5] (fun q4 q5 wr => ∃ n out, q5 = .int .i64 n ∧ LineOn fs n out ∧ lineGo fs (fs.length + 2 - out.length) n out = lineS S ∧ Ext w1 wr ∧ RowAt wr (w.heap.size + 1) 1 q4 out.length (ints out) ∧ lenV q4 = out.length) (fun q4 _ _ => fs.length + 1 - lenV q4)
 case atStart => exact ⟨now, [], rfl, HLN.out, HL0.out, Ext.refl _, RowAt.nil _ _ _ _, rfl⟩
 case round =>
  obtain ⟨n, out, rfl, hln, hlg, hb, hrow, _⟩ := hrel
  have HLN2 := Lib.hid hln
  have HLG := Lib.hid hlg
  have HB := Lib.hid hb
  have HROW := Lib.hid hrow
  have hol := hln.len
  obtain ⟨ar, capr, rfl, _, _⟩ := hrow.shape
  have hnow := hln.now
  obtain ⟨kf, hkf⟩ : ∃ kf, fs.length + 2 - out.length = kf + 1 := ⟨fs.length + 1 - out.length, by omega⟩
  rw [hkf] at HLG
  clear hln hlg hb hrow HLN HL0
  by_cases h0 : n < 0
  ·have T0 : decide (0 ≤ n) = false := decide_eq_false (by omega)
   have HRES : Hid (lineS S = some out) := by unfold Hid; rw [← HLG.out, lineGo_neg h0]
   clear h0 HLG hkf
   have hfin : ∀ wq, Ext wr wq → Ints wq (w.heap.size ≤ ·) (.slice ar out.length capr) out := fun wq hq => by
    refine Ints.of_row (base := w.heap.size + 1) (by rw [flatMap_intF]; exact HROW.out.ext hq (by decide)) (by omega) (fun x hx => ?_) _ (fun b hb _ => by show w.heap.size ≤ b; omega)
    have := HLN2.out.range x hx
    exact ⟨by omega, by omega⟩
   have HFIN := Lib.hid hfin
   clear hfin
   go_wp2_with fail
   go_ret2
   refine ⟨?_, HE1.out.trans HB.out⟩
   unfold LineRetS
   rw [HRES.out]
   exact ⟨ar, capr, rfl, HFIN.out _ (Ext.refl _)⟩
  ·have T0 : decide (0 ≤ n) = true := decide_eq_true (by omega)
   obtain ⟨m, rfl⟩ : ∃ m : Nat, n = m := ⟨n.toNat, by omega⟩
   have hml : m < fs.length := by omega
   clear hnow
   have HI64 : Hid (∀ x ∈ out, I64 x) := fun x hx => by
    have := HLN2.out.range x hx
    exact ⟨by omega, by omega⟩
   have HOUT : Hid (Ints wr (fun _ => True) (.slice ar out.length capr) out) := Ints.of_row (base := w.heap.size + 1) (by rw [flatMap_intF]; exact HROW.out) (by omega) HI64.out _ (fun _ _ _ => trivial)
   by_cases hmem : (m : Int) ∈ out
   ·have HM : Hid (decide ((m : Int) ∈ out) = true) := decide_eq_true hmem
    have HRES : Hid (lineS S = none) := by unfold Hid; rw [← HLG.out]; exact lineGo_mem (by omega) hmem
    clear hmem
    go_wp2_with (first
     | (go_at_call 101; (with_reducible refine (containsI_any out _ _ _ _ HOUT.out).mono ?_); rintro e w2 ⟨rfl, hx2⟩; rw [HM.out]))
    go_ret2
    refine ⟨?_, HE1.out.trans (HB.out.trans hx2)⟩
    unfold LineRetS
    rw [HRES.out]
    rfl
   ·have HM : Hid (decide ((m : Int) ∈ out) = false) := decide_eq_false hmem
    have HNM2 : Hid ((m : Int) ∉ out) := hmem
    clear hmem
    have HNX := Lib.hid (HLN2.out.next (by omega) HNM2.out HC.out.all)
    have HLG2 : Hid (lineGo fs kf (callerOf fs m) (out ++ [(m : Int)]) = lineS S) := by unfold Hid; rw [← lineGo_next (n := (m : Int)) (by omega) HNM2.out]; exact HLG.out
    obtain ⟨bf, of, _, ef, _, _, _, _, f1, _⟩ := HFS.out.get hml
    simp only [Value.slice.injEq] at ef
    obtain ⟨rfl, -, rfl⟩ := ef
    have HCL : Hid (fs[m].caller = callerOf fs m) := by unfold Hid callerOf; rw [show (m : Int).toNat = m by omega]; simp [List.getD, List.getElem?_eq_getElem hml]
    rw [HCL.out] at f1
    generalize callerOf fs m = cl at *
    clear h0 HLG
    go_upto_region 7 with (first
     | (go_at_call 101; (with_reducible refine (containsI_any out _ _ _ _ HOUT.out).mono ?_); rintro e w2 ⟨rfl, hx2⟩; rw [HM.out]))
    have HRW := Lib.hid (HROW.out.ext hx2 (by decide))
    have HBW := Lib.hid (HB.out.trans hx2)
    have HS7 : Hid ((w2.alloc (.cells #[.int .i64 (m : Int)] 3)).heap.size = w2.heap.size + 1) := Array.size_push _
    have HB1 : Hid (w.heap.size + 1 ≤ w2.heap.size) := by unfold Hid; rw [← HSZ1.out]; exact HBW.out.size
    clear hx2
    go_wp2_with (first
     | (at_builtin; refine wpList_append_row rfl _ _ 24 rfl (w.heap.size + 1) 3 i0 (.int .i64 0) 1 8 Tryz.underlying24 hi0 hz0 hz1 hz2 rfl (by decide) _ _ _ rfl (by exact HRW.out.ext ((Ext.refl _).alloc _) (by decide)) 1 (ints [(m : Int)]) (src_one _ _ _) (by unfold maxLen; omega) (by omega) (by rw [HS7.out]; exact Nat.le_succ_of_le HB1.out) ?_; intro v1 Wv1 rv1; have RV := Lib.hid rv1; obtain ⟨a9, cap9, rfl, _, _⟩ := rv1.1.shape; have HX9 := Lib.hid (Chg.ext_from (HBW.out.alloc (.cells #[.int .i64 (m : Int)] 3)) RV.out.2.1 (fun g e => by rw [HSZ1.out]; exact HRW.out.le g e)); have k0 := (bx0.out.ext HX9.out).1; have k1 := Ext.cell (HE1.out.trans HX9.out) f1; clear rv1))
    go_roundw
    case rel => exact ⟨cl, out ++ [(m : Int)], rfl, HNX.out, by rw [← HLG2.out, List.length_append, List.length_singleton, show fs.length + 2 - (out.length + 1) = kf by omega], HX9.out, by rw [List.length_append, List.length_singleton, ints_app]; exact RV.out.1, by rw [List.length_append, List.length_singleton]; rfl⟩
    case measure => simp [lenV]; omega
end Go.Proofs.YtgahbngbpfilgaaGreat
end
section
set_option maxHeartbeats 4000000
set_option maxRecDepth 100000
namespace Go.Proofs.YtgahbngbpfilgaaGreat
open Go Go.RowKit
theorem nonzero_any (n : Int) (w : World) : Calls Tryz.prog 122 #[.int .i64 n] w fun e w' => e = .returned (.bool (n != 0)) ∧ w = w' := by
 go_enter Tryz.func122, Tryz.ntmps122
 go_wp2_with fail
 go_ret
 exact ⟨rfl, rfl⟩
theorem indexFunc_any (l : List Int) (v : Value) (S : Nat → Prop) (w : World) (hl : Ints w S v l) :
  Calls Tryz.prog 127 #[v, .func (.func 122) #[] #[]] w fun e w' => (∃ i : Int, e = .returned (.int .i64 i) ∧ (0 ≤ i ↔ ∃ k, k < l.length ∧ l.getD k 0 ≠ 0)) ∧ Ext w w' := by
 have HL := Lib.hid hl
 obtain ⟨pa, ca, rfl, hca, hba, _⟩ := hl
 go_enter Tryz.func127, Tryz.ntmps127
 go_wp2_with fail
 go_loopw [8] (fun q wr => ∃ k : Nat, k ≤ l.length ∧ q = .int .i64 k ∧ Ext w wr ∧ ∀ i, i < k → l.getD i 0 = 0) (fun q _ => l.length - (intOf q).toNat)
 case atStart => exact ⟨0, Nat.zero_le _, rfl, Ext.refl _, fun i hi => absurd hi (Nat.not_lt_zero _)⟩
 case round =>
  obtain ⟨k, hk, rfl, hb3, htk⟩ := hrel
  have HB3 := Lib.hid hb3
  have HTK := Lib.hid htk
  clear hb3 htk
  by_cases hlt : k < l.length
  ·obtain ⟨ba, oa, rfl, x0⟩ := Ints.at' HL.out hlt
   have x1 := Ext.cell HB3.out x0
   clear x0
   obtain ⟨u, hu⟩ : ∃ u, l.getD k 0 = u := ⟨_, rfl⟩
   rw [hu] at x1
   have HU := Lib.hid hu
   clear hu
   by_cases h0 : u = 0
   ·have HT : Hid ((u != 0) = false) := by unfold Hid; rw [bne_eq_false_iff_eq]; exact h0
    have HX : Hid (∀ i, i < k + 1 → l.getD i 0 = 0) := fun i hi => by
     by_cases e : i = k
     ·rw [e, HU.out]; exact h0
     ·exact HTK.out i (by omega)
    clear h0
    go_wp2_with (first | (go_at_call 122; (with_reducible refine (nonzero_any _ _).mono ?_); rintro e w4 ⟨rfl, rfl⟩; rw [HT.out]))
    go_roundw
    case rel => exact ⟨k + 1, by omega, by go_num, HB3.out, HX.out⟩
    case measure => simp [intOf]; omega
   ·have HT : Hid ((u != 0) = true) := bne_iff_ne.2 h0
    have HX : Hid (∃ k, k < l.length ∧ l.getD k 0 ≠ 0) := ⟨k, hlt, by rw [HU.out]; exact h0⟩
    clear h0
    go_wp2_with (first | (go_at_call 122; (with_reducible refine (nonzero_any _ _).mono ?_); rintro e w4 ⟨rfl, rfl⟩; rw [HT.out]))
    go_ret
    exact ⟨⟨k, rfl, ⟨fun _ => HX.out, fun _ => by omega⟩⟩, HB3.out⟩
  ·obtain rfl : k = l.length := by omega
   have HX : Hid (¬ ∃ k, k < l.length ∧ l.getD k 0 ≠ 0) := fun ⟨k, h1, h2⟩ => h2 (HTK.out k h1)
   clear hlt
   go_wp2_with fail
   go_ret
   exact ⟨⟨-1, rfl, ⟨fun h => by omega, fun h => (HX.out h).elim⟩⟩, HB3.out⟩
theorem containsFunc_any (l : List Int) (v : Value) (S : Nat → Prop) (w : World) (hl : Ints w S v l) :
  Calls Tryz.prog 121 #[v, .func (.func 122) #[] #[]] w fun e w' => e = .returned (.bool (!allK l.length (fun k => decide (l.getD k 0 = 0)))) ∧ Ext w w' := by
 have HL := Lib.hid hl
 obtain ⟨pa, ca, rfl, hca, hba, _⟩ := hl
 obtain ⟨t, ht⟩ : ∃ t, (!allK l.length (fun k => decide (l.getD k 0 = 0))) = t := ⟨_, rfl⟩
 rw [ht]
 have HT : Hid (decide (∃ k, k < l.length ∧ l.getD k 0 ≠ 0) = t) := by
  unfold Hid
  rw [← ht]
  cases h : allK l.length (fun k => decide (l.getD k 0 = 0)) with
  | true =>
   have := allK_of h
   exact decide_eq_false (fun ⟨k, h1, h2⟩ => h2 (of_decide_eq_true (this k h1)))
  | false =>
   refine decide_eq_true (Classical.byContradiction fun hn => ?_)
   have : allK l.length (fun k => decide (l.getD k 0 = 0)) = true := allK_true fun k hk => decide_eq_true (Classical.byContradiction fun h2 => hn ⟨k, hk, h2⟩)
   rw [this] at h
   cases h
 clear ht
 go_enter Tryz.func121, Tryz.ntmps121
 go_wp2_with (first
  | (go_at_call 127; (with_reducible refine (indexFunc_any l _ S _ HL.out).mono ?_); rintro e w2 ⟨⟨i, rfl, hi⟩, hx⟩; have HI := Lib.hid hi; clear hi))
 go_ret
 refine ⟨?_, hx⟩
 exact congrArg (fun b => Ending.returned (.bool b)) ((decide_eq_decide.2 HI.out).trans HT.out)
theorem stateFresh_any (p : List GFunc) (v : Value) (S T : Nat → Prop) (x : GFiber) (vx : Value) (w : World) (hp : Funcs w S v p) (hx : FiberV w T vx x) (hf : ∀ h : 0 < x.frames.length, 0 ≤ x.frames[0].func ∧ x.frames[0].func < p.length) :
  Calls Tryz.prog 104 #[v, vx] w fun e w' => e = .returned (.bool (freshB p x)) ∧ Ext w w' := by
 have HP := Lib.hid hp
 obtain ⟨fs, cl⟩ := x
 obtain ⟨vf, rfl, hfr, _⟩ := hx
 have hfr0 := hfr
 obtain ⟨a1, c1, rfl, _, _, _⟩ := hfr
 simp only at *
 have RA := alloc_keep
 obtain ⟨r, hr⟩ : ∃ r, freshB p ⟨fs, cl⟩ = r := ⟨_, rfl⟩
 rw [hr]
 have HR := Lib.hid hr
 clear hr
 by_cases h1 : fs.length = 1
 ·have T1 : ((fs.length : Int) != 1) = false := by rw [bne_eq_false_iff_eq]; omega
  obtain ⟨x, rfl⟩ : ∃ x, fs = [x] := List.length_eq_one_iff.1 h1
  obtain ⟨b0, b1⟩ := hf (by simp)
  obtain ⟨bf, of, cf, e1, _, _, ⟨_, x0, _⟩, ⟨_, x1, _⟩, ⟨vl, x2, hls⟩, ⟨vs, x3, hss⟩⟩ := hfr0.get (i := 0) (by simp)
  simp only [Value.slice.injEq, List.getElem_cons_zero] at e1 x0 x1 hls hss b0 b1
  obtain ⟨rfl, -, rfl⟩ := e1
  rw [Nat.zero_mul, Nat.add_zero] at x0 x1 x2 x3
  obtain ⟨fn, at_, ls, st⟩ := x
  simp only at *
  obtain ⟨n, rfl⟩ : ∃ n : Nat, fn = n := ⟨fn.toNat, by omega⟩
  have hn : n < p.length := by omega
  obtain ⟨b, o, cap, rfl, hcap, hby, ⟨_, hA, iA⟩, _, _⟩ := hp.get hn
  have hF := funcOf_nat hn
  have HLS := Lib.hid hls
  obtain ⟨a2, c2, rfl, _, _, _⟩ := hls
  obtain ⟨a3, c3, rfl, _, _, _⟩ := hss
  have HRR : Hid (r = (decide (at_ = 0) && decide (p[n].args = 1) && decide (st.length = 0) && allK ls.length (fun k => decide (ls.getD k 0 = 0)))) := by
   unfold Hid
   rw [← HR.out]
   unfold freshB
   simp only [List.getD_cons_zero, hF]
   simp
  clear hF HR hfr0 hp b0 b1 hf h1
  by_cases h2 : at_ = 0
  ·have T2 : (at_ == 0) = true := by simp [h2]
   by_cases h3 : p[n].args = 1
   ·have T3 : (p[n].args == 1) = true := by simp [h3]
    by_cases h4 : st.length = 0
    ·have T4 : ((st.length : Int) == 0) = true := by simp [h4]
     have HR2 : Hid (r = allK ls.length (fun k => decide (ls.getD k 0 = 0))) := by unfold Hid; rw [HRR.out]; simp [h2, h3, h4]
     clear h2 h3 h4 HRR
     go_enter Tryz.func104, Tryz.ntmps104
     go_wp2_with (first
      | (go_at_call 121; (with_reducible refine (containsFunc_any ls _ _ _ (Ints.stays (Ext.stays (((Ext.refl w).alloc _).alloc _)) HLS.out)).mono ?_); rintro e w2 ⟨rfl, hx2⟩; rw [← HR2.out]))
     go_ret
     exact ⟨rfl, by ((repeat (first | assumption | exact Ext.refl _ | (exact And.left (by assumption)) | refine Ext.alloc ?_ _ | refine Ext.drew ?_ | refine Ext.drewN ?_ _ | refine Ext.setCell ?_ (by simp) _ | refine Ext.setCell ?_ (by simp; omega) _ | refine Ext.trans ?_ (by assumption))); done)⟩
    ·have T4 : ((st.length : Int) == 0) = false := beq_eq_false_iff_ne.2 (by omega)
     have HR2 : Hid (r = false) := by unfold Hid; rw [HRR.out]; simp [h4]
     clear h2 h3 h4 HRR
     go_enter Tryz.func104, Tryz.ntmps104
     go_wp2_with fail
     go_ret
     exact ⟨by rw [HR2.out]; rfl, by ((repeat (first | assumption | exact Ext.refl _ | (exact And.left (by assumption)) | refine Ext.alloc ?_ _ | refine Ext.drew ?_ | refine Ext.drewN ?_ _ | refine Ext.setCell ?_ (by simp) _ | refine Ext.setCell ?_ (by simp; omega) _ | refine Ext.trans ?_ (by assumption))); done)⟩
   ·have T3 : (p[n].args == 1) = false := beq_eq_false_iff_ne.2 h3
    have HR2 : Hid (r = false) := by unfold Hid; rw [HRR.out]; simp [h3]
    clear h2 h3 HRR
    go_enter Tryz.func104, Tryz.ntmps104
    go_wp2_with fail
    go_ret
    exact ⟨by rw [HR2.out]; rfl, by ((repeat (first | assumption | exact Ext.refl _ | (exact And.left (by assumption)) | refine Ext.alloc ?_ _ | refine Ext.drew ?_ | refine Ext.drewN ?_ _ | refine Ext.setCell ?_ (by simp) _ | refine Ext.setCell ?_ (by simp; omega) _ | refine Ext.trans ?_ (by assumption))); done)⟩
  ·have T2 : (at_ == 0) = false := beq_eq_false_iff_ne.2 h2
   have HR2 : Hid (r = false) := by unfold Hid; rw [HRR.out]; simp [h2]
   clear h2 HRR
   go_enter Tryz.func104, Tryz.ntmps104
   go_wp2_with fail
   go_ret
   exact ⟨by rw [HR2.out]; rfl, by ((repeat (first | assumption | exact Ext.refl _ | (exact And.left (by assumption)) | refine Ext.alloc ?_ _ | refine Ext.drew ?_ | refine Ext.drewN ?_ _ | refine Ext.setCell ?_ (by simp) _ | refine Ext.setCell ?_ (by simp; omega) _ | refine Ext.trans ?_ (by assumption))); done)⟩
 ·have T1 : ((fs.length : Int) != 1) = true := bne_iff_ne.2 (by omega)
  have HR2 : Hid (r = false) := by unfold Hid; rw [← HR.out]; unfold freshB; simp [h1]
  obtain ⟨a, cap, rfl, _, _, _⟩ := hp
  clear h1 HR
  go_enter Tryz.func104, Tryz.ntmps104
  go_wp2_with fail
  go_ret
  exact ⟨by rw [HR2.out]; rfl, by ((repeat (first | assumption | exact Ext.refl _ | (exact And.left (by assumption)) | refine Ext.alloc ?_ _ | refine Ext.drew ?_ | refine Ext.drewN ?_ _ | refine Ext.setCell ?_ (by simp) _ | refine Ext.setCell ?_ (by simp; omega) _ | refine Ext.trans ?_ (by assumption))); done)⟩
end Go.Proofs.YtgahbngbpfilgaaGreat
end
