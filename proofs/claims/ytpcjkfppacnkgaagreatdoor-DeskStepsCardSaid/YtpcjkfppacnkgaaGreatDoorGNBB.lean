/- Merged texts: contracts and plain facts, one part behind another; each part begins with what it says. -/
import Derived.Test.YtpcjkfppacnkgaaGreatDoorGNAP
import Derived.Test.YtpcjkfppacnkgaaGreatDoorGNAV
import Derived.Test.YtpcjkfppacnkgaaGreatDoorGNBA
import Derived.BigRegion
section
/- The engine of package step: a new fiber. -/
set_option maxHeartbeats 4000000
set_option maxRecDepth 100000
namespace Go.Proofs.YtpcjkfppacnkgaaGreatDoor
open Go Go.RowKit

theorem add_end {w5 w6 Wv : World} {B b gl : Nat} {P : PState} {an : Int} {N : Nat} {v1 : Value} (h : OwnS w5 B b P) (hE : Ext w5 w6) (hrow : RowAt w6 w5.heap.size 1 (.slice (some ⟨gl, 0, none⟩) N N) N (ints (List.replicate N 0))) (tf tb : TypeId)
    (hRV : NewRow ((w6.alloc (.cells #[.int .i64 an, .int .i64 0, .slice (some ⟨gl, 0, none⟩) N N, .slice none 0 0] tf)).alloc (.cells #[.slice (some ⟨w6.heap.size, 0, none⟩) 1 1, .int .i64 (-1)] tb)) Wv B 2 P.vfs v1 (P.fs.length + 1) (P.fs.flatMap fiberF ++ [.slice (some ⟨w6.heap.size, 0, none⟩) 1 1, .int .i64 (-1)]))
    (hgl : w5.heap.size ≤ gl) (hI : I64 an) (hN : N ≤ 1000) (hl : P.fs.length < 1000) :
    Turn w5 (Wv.setCell ⟨b, 0, none⟩ v1) B b P { P.g with fibers := P.g.fibers ++ [⟨[⟨an, 0, List.replicate N 0, []⟩], -1⟩] } := by
  obtain ⟨r1, r2, r3⟩ := hRV
  let X : PFrame := ⟨⟨an, 0, List.replicate N 0, []⟩, .slice (some ⟨gl, 0, none⟩) N N, .slice none 0 0⟩
  let Y : PFiber := ⟨[X], -1, .slice (some ⟨w6.heap.size, 0, none⟩) 1 1⟩
  have hBw : B ≤ w5.heap.size := Nat.le_trans h.le (Nat.le_of_lt h.c0.lt)
  have hEm : Ext w5 ((w6.alloc (.cells #[.int .i64 an, .int .i64 0, .slice (some ⟨gl, 0, none⟩) N N, .slice none 0 0] tf)).alloc (.cells #[.slice (some ⟨w6.heap.size, 0, none⟩) 1 1, .int .i64 (-1)] tb)) := (hE.alloc _).alloc _
  have hE6 : Ext w6 ((w6.alloc (.cells #[.int .i64 an, .int .i64 0, .slice (some ⟨gl, 0, none⟩) N N, .slice none 0 0] tf)).alloc (.cells #[.slice (some ⟨w6.heap.size, 0, none⟩) 1 1, .int .i64 (-1)] tb)) := ((Ext.refl _).alloc _).alloc _
  have hold : ∀ k, rowBlock P.vfs = some k → k < w5.heap.size := fun k hk => h.lt k (List.mem_cons_of_mem _ (PState.mem_vfs hk))
  have h56 := hE.size
  have hvb : ∀ k, rowBlock (.slice (some ⟨gl, 0, none⟩) N N) = some k → k = gl ∧ gl < w6.heap.size := fun k hk => by
    by_cases h0 : N = 0
    · subst h0; simp [rowBlock] at hk
    · have h1 := hrow.lt2 (by decide) k hk
      rw [rowBlock_some _ _ _ _ h0] at hk
      cases hk
      exact ⟨rfl, h1⟩
  have hXO : FrameO Wv B X := by
    refine ⟨⟨hI, I64.zero, fun k hk => ?_, fun k hk => by cases hk⟩, ?_, RowAt.nil _ _ _ _, ⟨by show (List.replicate N (0 : Int)).length ≤ 1000; rw [List.length_replicate]; exact hN, by show 0 ≤ 1000; omega⟩⟩
    · rw [List.eq_of_mem_replicate hk]; exact I64.zero
    · show RowAt Wv B 1 (.slice (some ⟨gl, 0, none⟩) N N) (List.replicate N (0 : Int)).length (ints (List.replicate N 0))
      rw [List.length_replicate]
      refine ((hrow.mono hBw).ext hE6 (by decide)).chg r2 (fun k hk e => ?_) (by decide)
      have := (hvb k hk).1
      have := hold k e
      omega
  have hYO : FiberO Wv B Y := by
    refine ⟨I64.neg1, ?_, fun u hu => ?_, by show 1 ≤ 1000; omega⟩
    · have hm := RowAt.made w6 #[.int .i64 an, .int .i64 0, .slice (some ⟨gl, 0, none⟩) N N, .slice none 0 0] tf 4 1 B (by omega) (by unfold maxLen; omega) rfl
      refine (hm.ext ((Ext.refl _).alloc _) (by decide)).chg r2 (fun k hk e => ?_) (by decide)
      have hk' : w6.heap.size = k := by simpa [rowBlock] using hk
      have := hold k e
      omega
    · rw [List.mem_singleton.1 hu]; exact hXO
  have hms : ((w6.alloc (.cells #[.int .i64 an, .int .i64 0, .slice (some ⟨gl, 0, none⟩) N N, .slice none 0 0] tf)).alloc (.cells #[.slice (some ⟨w6.heap.size, 0, none⟩) 1 1, .int .i64 (-1)] tb)).heap.size = w6.heap.size + 2 := by simp
  have hv1 : rowBlock v1 = rowBlock P.vfs ∨ ∀ k, rowBlock v1 = some k → w6.heap.size + 2 ≤ k := r3.imp id fun e k hk => by have := e k hk; omega
  have hYbl : ∀ k ∈ Y.bl, k = w6.heap.size ∨ (k = gl ∧ gl < w6.heap.size) := fun k hk => by
    unfold PFiber.bl at hk
    simp only [Y, List.flatMap_cons, List.flatMap_nil, List.append_nil, List.mem_append] at hk
    rcases hk with h1 | h1
    · left; simpa [rowBlock, eq_comm] using h1
    · unfold PFrame.bl at h1
      rcases List.mem_append.1 h1 with h2 | h2
      · exact .inr (hvb k (by simpa using h2))
      · simp [X, rowBlock] at h2
  obtain ⟨o9, c9⟩ := h.addFiber (y := Y) (v1 := v1) ((Chg.of_ext hEm).trans r2) (by
      rw [List.length_append, List.length_singleton, List.flatMap_append]; exact r1) hYO hl (hv1.imp id fun e k hk => by have := e k hk; omega) (by
      unfold PFiber.bl
      simp only [Y, List.flatMap_cons, List.flatMap_nil, List.append_nil]
      unfold PFrame.bl
      rw [show rowBlock X.vs = none from rfl, show rowBlock (.slice (some ⟨w6.heap.size, 0, none⟩) 1 1) = some w6.heap.size from rowBlock_some _ _ _ _ (by decide)]
      cases hr : rowBlock X.vl with
      | none => simp
      | some k =>
        have h3 := hvb k hr
        have h4 : w6.heap.size ≠ k := by omega
        simp [h4]) (fun k hk => by
      refine ⟨by rcases hYbl k hk with h1 | h1 <;> omega, fun e => ?_⟩
      rcases hv1 with h2 | h2
      · have := hold k (h2 ▸ e)
        rcases hYbl k hk with h1 | h1 <;> omega
      · have := h2 k e
        rcases hYbl k hk with h1 | h1 <;> omega)
  refine ⟨⟨_, o9, ?_, fun k hk => ?_⟩, c9⟩
  · unfold PState.g
    simp [Y, X, PFiber.g]
  · unfold PState.bl at hk
    simp only [List.flatMap_append, List.mem_append] at hk
    rcases hk with (h3 | h3) | h3 | h3
    · have h4 : rowBlock v1 = some k := by simpa using h3
      rcases hv1 with h5 | h5
      · exact .inl (PState.mem_vfs (h5 ▸ h4))
      · have := h5 k h4
        exact .inr (by omega)
    · exact .inl (PState.mem_vo (by simpa using h3))
    · obtain ⟨z, hz, h4⟩ := List.mem_flatMap.1 h3
      exact .inl (PState.mem_fs hz h4)
    · have h4 : k ∈ Y.bl := by simpa using h3
      exact .inr (by rcases hYbl k h4 with h1 | h1 <;> omega)

theorem funcs_turn {w w' : World} {B b : Nat} {P : PState} {v : Value} {p : List GFunc} (h : OwnS w B b P) (hp : Funcs w (· < B) v p) (hc : Chg (· ∈ b :: P.bl) w w') : Funcs w' (· < B) v p :=
  Funcs.stays (hc.stays (fun k hk hm => by have := h.ge k hm; omega)) hp

theorem engFiber_any (n : Nat) {P : PState} {w : World} {B b eb : Nat} {p : List GFunc} {a : Option Addr} {cp : Nat} (h : EngS w B b eb p a cp P) (hp : Funcs w (· < B) (.slice a p.length cp) p) (ht : HasTop P.g P.g.now) (hr : Room P.g) (h5 : P.g.fibers.length ≤ 5) (hb : MakeFit p n) :
    Calls Tryz.prog 196 #[.pointer (some ⟨eb, 0, none⟩), .int .i64 n] w fun e w' => e = endS (makeG p P.g n).1 ∧ Did w w' B b P (makeG p P.g n) := by
  obtain ⟨-, hn, hL0, hL9⟩ := hb
  have hn : n < p.length := by omega
  obtain ⟨N, hN⟩ : ∃ N : Nat, (funcOf p n).locals = N := ⟨(funcOf p n).locals.toNat, by omega⟩
  have hN9 : N ≤ 900 := by omega
  have hfl : P.g.fibers.length = P.fs.length := by unfold PState.g; simp
  rw [hfl] at h5
  have hG : makeG p P.g n = if P.fs.length = 5 then (2, P.g) else (0, { pushG P.g P.g.now P.fs.length with fibers := (pushG P.g P.g.now P.fs.length).fibers ++ [⟨[⟨n, 0, List.replicate N 0, []⟩], -1⟩] }) := by
    unfold makeG freshFrame
    rw [hfl, hN]
    rfl
  have hby := Sl.bd hp
  obtain ⟨av, cv, ev, hcv, _⟩ := h.own.row.shape
  obtain ⟨c0, c0'⟩ := h.own.c0
  rw [ev] at c0
  obtain ⟨⟨x0, x0'⟩, ⟨x1, x1'⟩⟩ := h.eng
  have H := Lib.hid h
  have HP := Lib.hid hp
  have HT := Lib.hid ht
  have HR := Lib.hid hr
  have HN := Lib.hid hN
  have HG := Lib.hid hG
  have HFL := Lib.hid hfl
  obtain ⟨i2, hi2, hz6, hz7, hz8⟩ := info_parts infoFb
  have RA := alloc_keep
  clear h hp ht hr hN hG hfl ev hcv hL0 hL9
  generalize hM : P.fs.length = M at *
  have HM := Lib.hid hM
  clear hM
  go_enter Tryz.func196, Tryz.ntmps196
  rcases Nat.lt_or_ge M 5 with hlt | hlt
  · have T : decide (((M : Nat) : Int) < 5) = true := decide_eq_true (by omega)
    have HGE : Hid (makeG p P.g n = (0, { pushG P.g P.g.now M with fibers := (pushG P.g P.g.now M).fibers ++ [⟨[⟨n, 0, List.replicate N 0, []⟩], -1⟩] })) := by unfold Hid; rw [HG.out, if_neg (by omega)]
    go_upto_region 3 with (first
      | (go_at_call 210; (with_reducible refine (stepMust_any _ _ _).mono ?_); rintro e w3 ⟨he, rfl⟩; simp only [mustS] at he; subst he)
      | (go_at_call 159; (with_reducible refine (engPush_new H.out.own H.out.eng HT.out HR.out (M : Int) (I64.nat (by omega)) _).mono ?_); rintro e w5 ⟨rfl, t5⟩))
    obtain ⟨P5, h5', g5, s5, c5⟩ := H.out.turn t5
    have hl5 : P5.fs.length = M := by
      have e1 : P5.fs.length = P5.g.fibers.length := by unfold PState.g; simp
      rw [e1, g5]
      exact (modFib_len _ _ _).trans HFL.out
    obtain ⟨a5, c5v, e5, hc5, hm5⟩ := h5'.own.row.shape
    obtain ⟨k50, k50'⟩ := h5'.own.c0
    rw [e5, hl5] at k50
    obtain ⟨⟨y0, y0'⟩, ⟨y1, y1'⟩⟩ := h5'.eng
    have HP5 := Lib.hid (funcs_turn H.out.own HP.out c5)
    have H5 := Lib.hid h5'
    have HG5 := Lib.hid g5
    have HS5 := Lib.hid s5
    have HC5 := Lib.hid c5
    have HL5 := Lib.hid hl5
    have HE5 := Lib.hid e5
    have HROW5 : Hid (RowAt w5 B 2 (.slice a5 M c5v) M (P5.fs.flatMap fiberF)) := by unfold Hid; rw [← hl5, ← e5]; exact h5'.own.row
    have HBW : Hid (B ≤ w5.heap.size) := Nat.le_trans h5'.own.le (Nat.le_of_lt h5'.own.c0.lt)
    have HNB : Hid (∀ k, rowBlock (.slice a5 M c5v) = some k → k ≠ b ∧ k ≠ eb) := by
      unfold Hid
      rw [← hl5, ← e5]
      exact fun k e => ⟨fun e' => h5'.own.dis.1 (PState.mem_vfs (e' ▸ e)), fun e' => h5'.off (List.mem_cons_of_mem _ (PState.mem_vfs (e' ▸ e)))⟩
    clear h5' g5 s5 c5 hl5 e5 t5 hc5 hm5 x0 x0' x1 x1' c0 c0'
    rename World => w5
    refine wp_region_rt (fun w' => w'.cell? ⟨eb, 0, none⟩ = some (.pointer (some ⟨b, 0, none⟩)) ∧ w'.cell? ⟨eb, 1, none⟩ = some (.slice a p.length cp) ∧ w'.cell? ⟨b, 0, none⟩ = some (.slice a5 M c5v))
      23 [0, 1, 2, 3, 4, 5, 6, 7, 8, 9, 10, 11, 12, 13, 14, 15] [16, 17, 18, 19, 20, 21, 22, 23] (by kernel_rfl) (by kernel_rfl) (fun _ _ _ _ _ h => h) (by exact ⟨y0, y1, k50⟩) ?_
    (try simp only [pickOps, List.filterMap_cons, List.filterMap_nil, List.getElem?_cons_zero, List.getElem?_cons_succ])
    repeat (
      refine readsQ_do (by rfl) ?_
      apply Exists.intro
      refine ⟨fun w' hw' => ?_, ?_⟩
      focus
        (try dsimp only at hw')
        go_split_ands
        go_simp
        (try with_reducible rfl)
      (try dsimp only [Act.put])
      (try simp only [List.setIfInBounds_toArray, List.set_cons_succ, List.set_cons_zero]))
    refine readsQ_nil ?_
    have HPD := Lib.hid (Funcs.stays (Ext.stays (Ext.refl w5).drew) HP5.out)
    refine tailW_step ?_
    go_wp2_with (first
      | (go_at_call 68; (with_reducible refine (frameO_any p _ (· < B) n N _ HPD.out hn HN.out hN9).mono ?_); rintro e w6 ⟨⟨gl, rfl, hrow6, hgl6⟩, hx6⟩))
    have hE6 : Ext w5 w6 := (Ext.refl w5).drew.trans hx6
    have HE6 := Lib.hid hE6
    have HROW6 : Hid (RowAt w6 w5.heap.size 1 (.slice (some ⟨gl, 0, none⟩) N N) N (ints (List.replicate N 0))) := hrow6
    have HGL : Hid (w5.heap.size ≤ gl) := hgl6
    have S6 := Lib.hid (⟨Ext.cell hE6 y0, Ext.cell hE6 y1, Ext.cell hE6 k50⟩ : _ ∧ _ ∧ _)
    clear hE6 hrow6 hgl6 hx6
    refine nextW_go S6.out ?_
    refine tailW_step ?_
    go_wp2_with fail
    have hA7 : Ext w6 (w6.alloc (.cells #[.int .i64 n, .int .i64 0, .slice (some ⟨gl, 0, none⟩) N N, .slice none 0 0] 108)) := (Ext.refl _).alloc _
    have S7 := Lib.hid (⟨Ext.cell hA7 S6.out.1, Ext.cell hA7 S6.out.2.1, Ext.cell hA7 S6.out.2.2⟩ : _ ∧ _ ∧ _)
    clear hA7
    refine nextW_go S7.out ?_
    refine tailW_step ?_
    go_wp2_with fail
    refine nextW_go S7.out ?_
    refine tailW_step ?_
    go_wp2_with fail
    have hA8 : Ext w6 ((w6.alloc (.cells #[.int .i64 n, .int .i64 0, .slice (some ⟨gl, 0, none⟩) N N, .slice none 0 0] 108)).alloc (.cells #[.slice (some ⟨w6.heap.size, 0, none⟩) 1 1, .int .i64 (-1)] 112)) := ((Ext.refl _).alloc _).alloc _
    have HA8 := Lib.hid hA8
    have S8 := Lib.hid (⟨Ext.cell hA8 S6.out.1, Ext.cell hA8 S6.out.2.1, Ext.cell hA8 S6.out.2.2⟩ : _ ∧ _ ∧ _)
    clear hA8
    have HS66 : Hid ((w6.alloc (.cells #[.int .i64 n, .int .i64 0, .slice (some ⟨gl, 0, none⟩) N N, .slice none 0 0] 108)).heap.size = w6.heap.size + 1) := Array.size_push _
    refine nextW_go S8.out ?_
    refine tailW_step ?_
    go_wp2_with (first
      | (at_builtin; refine wpList_append_row rfl _ _ 56 rfl B 112 i2 (.agg #[.slice none 0 0, .int .i64 0]) 2 32 Tryz.underlying56 hi2 hz6 hz7 hz8 rfl (by decide) _ _ _ rfl (by exact (HROW5.out.ext (HE6.out.trans HA8.out) (by decide))) 1 _ (by rw [← HS66.out]; exact src_cells _ _ 2 rfl (by simp [Value.oneCell']) _) (by unfold maxLen; omega) (by omega) (by exact Nat.le_trans HBW.out (Ext.size (HE6.out.trans HA8.out))) ?_; intro v1 Wv1 rv1; have RV := Lib.hid rv1; obtain ⟨a9, cap9, rfl, _, _⟩ := rv1.1.shape; clear rv1))
    have hRV : NewRow ((w6.alloc (.cells #[.int .i64 n, .int .i64 0, .slice (some ⟨gl, 0, none⟩) N N, .slice none 0 0] 108)).alloc (.cells #[.slice (some ⟨w6.heap.size, 0, none⟩) 1 1, .int .i64 (-1)] 112)) Wv1 B 2 (.slice a5 M c5v) (.slice a9 (M + 1) cap9) (M + 1) (P5.fs.flatMap fiberF ++ [.slice (some ⟨w6.heap.size, 0, none⟩) 1 1, .int .i64 (-1)]) := RV.out
    have SS := Lib.hid (⟨Chg.cell hRV.2.1 (fun e => (HNB.out eb e).2 rfl) S8.out.1, Chg.cell hRV.2.1 (fun e => (HNB.out eb e).2 rfl) S8.out.2.1, Chg.cell hRV.2.1 (fun e => (HNB.out b e).1 rfl) S8.out.2.2⟩ : _ ∧ _ ∧ _)
    obtain ⟨v0, v0'⟩ := (Cx.ext (W := w5) ⟨k50, k50'⟩ (HE6.out.trans HA8.out)).chg hRV.2.1 (fun e => (HNB.out b e).1 rfl)
    refine nextW_go SS.out ?_
    refine tailW_step ?_
    go_wp2_with fail
    refine nextW_go SS.out ?_
    refine tailW_step ?_
    go_wp2_with fail
    refine nextW_go SS.out ?_
    refine tailW_step ?_
    go_wp2_with fail
    refine nextW_end ?_
    go_end0
    rw [HGE.out]
    have hfin := add_end H5.out.own HE6.out HROW6.out 108 112 (by rw [HE5.out, HL5.out]; exact hRV) HGL.out (I64.nat (by omega)) (by omega) (by rw [HL5.out]; omega)
    refine ⟨rfl, Did.of (Turn.step HC5.out HS5.out ?_)⟩
    rw [HG5.out] at hfin
    exact hfin
  · have T : decide (((M : Nat) : Int) < 5) = false := decide_eq_false (by omega)
    have HGE : Hid (makeG p P.g n = (2, P.g)) := by unfold Hid; rw [HG.out, if_pos (by omega)]
    go_wp2_with (first
      | (go_at_call 210; (with_reducible refine (stepMust_any _ _ _).mono ?_); rintro e w3 ⟨he, rfl⟩; simp only [mustS] at he; subst he))
    rw [HGE.out]
    exact ⟨rfl, rfl, ⟨Chg.refl _ _, fun h => by cases h⟩⟩
end Go.Proofs.YtpcjkfppacnkgaaGreatDoor
end
section
/- The engine of package step: resume. -/
set_option maxHeartbeats 4000000
set_option maxRecDepth 100000
namespace Go.Proofs.YtpcjkfppacnkgaaGreatDoor
open Go Go.RowKit

theorem LineRetS.ll {B : Nat} {s : GState} {e : Ending} {w : World} (h : LineRetS B s e w) : ∃ a c ok, e = .returned (.tuple #[.slice a (lineLL s).length c, .bool ok]) ∧ Ints w (B ≤ ·) (.slice a (lineLL s).length c) (lineLL s) := by
  unfold LineRetS at h
  unfold lineLL
  cases hl : lineS s with
  | none => rw [hl] at h; exact ⟨none, 0, false, h, Sl.nil _ _ _⟩
  | some l => rw [hl] at h; obtain ⟨a, c, e1, h1⟩ := h; exact ⟨a, c, true, e1, h1⟩

theorem funcs_turn' {w w' : World} {B b : Nat} {P : PState} {v : Value} {p : List GFunc} (h : OwnS w B b P) (hp : Funcs w (· < B) v p) (hc : Chg (· ∈ b :: P.bl) w w') : Funcs w' (· < B) v p :=
  Funcs.stays (hc.stays (fun k hk hm => by have := h.ge k hm; omega)) hp

theorem stepMust_to (c : Bool) (r : Int) (w : World) : Calls Tryz.prog 210 #[.bool c, .int .i64 r] w fun e w' => e = mustS c r ∧ w = w' :=
  (stepMust_any c r w).mono fun _ _ h => ⟨h.1, h.2.symm⟩

theorem EngS.setNow' {w : World} {B b eb : Nat} {p : List GFunc} {a : Option Addr} {cp : Nat} {P : PState} (h : EngS w B b eb p a cp P) (n : Int) (hI : I64 n) : EngS (w.setCell ⟨b, 1, none⟩ (.int .i64 n)) B b eb p a cp { P with now := n } :=
  ⟨h.own.setNow n hI, h.eng.chg (chg_one w b 1 _) (fun e => h.off (by rw [show eb = b from e]; exact List.mem_cons_self)), h.off⟩

/-- Who can be resumed is fresh, or not at its first op. -/
def FreshFit (p : List GFunc) (s : GState) : Prop := ∀ f : GFiber, f = (popG (popG s)).fibers.getD (lastV (popG s)).toNat default → 0 ≤ lastV (popG s) → lastV (popG s) < (popG (popG s)).fibers.length → lastV (popG s) ∉ lineLL (popG (popG s)) → 0 < f.frames.length →
  freshB p f = decide ((topOf f).at_ = 0) ∧ ∀ h : 0 < f.frames.length, 0 ≤ f.frames[0].func ∧ f.frames[0].func < p.length

theorem engResume_any {P : PState} {w : World} {B b eb : Nat} {p : List GFunc} {a : Option Addr} {cp : Nat} (h : EngS w B b eb p a cp P) (hp : Funcs w (· < B) (.slice a p.length cp) p) (ht : HasTop P.g P.g.now) (hr : Room P.g) (hb : ResumeFit P.g) (hff : FreshFit p P.g) :
    Calls Tryz.prog 197 #[.pointer (some ⟨eb, 0, none⟩)] w fun e w' => e = endS (resumeG P.g).1 ∧ Did w w' B b P (resumeG P.g) := by
  obtain ⟨hl, hco, hloc⟩ := hb
  have hLI := h.own.lastI ht (by omega)
  have H := Lib.hid h
  have HP := Lib.hid hp
  have HT := Lib.hid ht
  have HL := Lib.hid hl
  have HD := Lib.hid (drop_two _ ht hl)
  have HFF := Lib.hid hff
  clear h hp ht hl hff
  have RA := alloc_keep
  generalize hv : lastV P.g = v at *
  have HV := Lib.hid hv
  generalize hn : lastV (popG P.g) = n at *
  have HN := Lib.hid hn
  clear hv hn
  go_enter Tryz.func197, Tryz.ntmps197
  go_upto_region 1 with (first
    | (go_at_call 160; (with_reducible refine (engPull_k H.out.own H.out.eng HT.out 2 HL.out 2 rfl).mono ?_); rintro e w2 ⟨v1, rfl, hv1, t2⟩; rw [HD.out] at hv1; rw [leave_two] at t2; obtain ⟨b1, o1, c1, rfl, c0, c1', hnI, _⟩ := ints_two hv1))
  obtain ⟨P2, h2, g2, s2, ch2⟩ := H.out.turn t2
  have HP2 := Lib.hid (funcs_turn' H.out.own HP.out ch2)
  clear hv1 t2
  refine wp_region_ext (by kernel_rfl) (by kernel_rfl) ?_
  repeat (first
    | go_big_quiet_skip
    | (go_big_quiet_want
       unfold Oper.quiet
       apply Exists.intro
       refine ⟨fun w' hw' => ?_, ?_⟩
       focus
         have hcq := Ext.keep hw'
         go_simp
         first
           | with_reducible rfl
           
       (try dsimp only [Act.put])
       (try simp only [List.setIfInBounds_toArray, List.set_cons_succ, List.set_cons_zero])
       go_big_quiet_on))
  refine wpQuiet_nil ?_
  intro wq hq
  rename World => wk
  have H2 := Lib.hid (h2.ext hq)
  have HPQ := Lib.hid (Funcs.stays (Ext.stays hq) HP2.out)
  have HG2 := Lib.hid g2
  have HS2 := Lib.hid s2
  have HC2 := Lib.hid (ch2.trans (Chg.of_ext hq))
  clear h2 g2 s2 ch2 hq c0 c1' HP2 HP
  obtain ⟨⟨c20, c20'⟩, ⟨c21, c21'⟩, ⟨c22, c22'⟩⟩ := (⟨H2.out.own.c0, H2.out.own.c1, H2.out.own.c2⟩ : _ ∧ _ ∧ _)
  obtain ⟨⟨x0, x0'⟩, ⟨x1, x1'⟩⟩ := H2.out.eng
  have hfw := H2.out.own.few.1
  obtain ⟨a2, cp2, e2, _, _⟩ := H2.out.own.row.shape
  rw [e2] at c20
  have HE2 := Lib.hid e2
  clear e2
  have HY : Hid (resumeG P.g = if ¬ (0 ≤ n ∧ n < P2.fs.length) then (5, P.g) else if n ∈ lineLL P2.g ∨ (P2.g.fibers.getD n.toNat default).frames.length = 0 then (6, P.g) else (0, wakeG P2.g n v)) := by
    unfold Hid resumeG
    rw [HN.out, HV.out, ← HG2.out]
    have e : P2.fs.length = P.g.fibers.length := by
      have : P2.fs.length = P2.g.fibers.length := by unfold PState.g; simp
      rw [this, HG2.out]
      unfold popG modTop
      rw [modFib_len, modFib_len]
    rw [e]
  have hbad : ∀ w9 (r : Int) , Ext wk w9 → r ≠ 0 → Did w w9 B b P (r, P.g) := fun w9 r hx hr0 => ⟨HC2.out.trans (Chg.of_ext hx), fun h => absurd h hr0⟩
  have HBAD := Lib.hid hbad
  clear hbad
  by_cases hn0 : 0 ≤ n
  case neg =>
    have T1 : decide (0 ≤ n) = false := decide_eq_false hn0
    have HE : Hid (resumeG P.g = (5, P.g)) := by unfold Hid; rw [HY.out, if_pos (fun h => hn0 h.1)]
    clear hn0
    go_wp2_with (first
      | (go_at_call 210; (with_reducible refine (stepMust_to _ _ _).mono ?_); rintro e w3 ⟨he, rfl⟩; simp only [mustS] at he; subst he))
    rw [HE.out]
    exact ⟨rfl, rfl, HBAD.out _ _ (Ext.refl _) (by decide)⟩
  have T1 : decide (0 ≤ n) = true := decide_eq_true hn0
  by_cases hn1 : n < P2.fs.length
  case neg =>
    have T2 : decide (n < (P2.fs.length : Int)) = false := decide_eq_false hn1
    have HE : Hid (resumeG P.g = (5, P.g)) := by unfold Hid; rw [HY.out, if_pos (fun h => hn1 h.2)]
    clear hn0 hn1
    go_wp2_with (first
      | (go_at_call 210; (with_reducible refine (stepMust_to _ _ _).mono ?_); rintro e w3 ⟨he, rfl⟩; simp only [mustS] at he; subst he))
    rw [HE.out]
    exact ⟨rfl, rfl, HBAD.out _ _ (Ext.refl _) (by decide)⟩
  have T2 : decide (n < (P2.fs.length : Int)) = true := decide_eq_true hn1
  obtain ⟨L, y, R, hP, hnL⟩ := hasFib (P := P2) ⟨hn0, hn1⟩
  have hfl : P2.g.fibers.length = P2.fs.length := by unfold PState.g; simp
  have hcal : Callers P2.g := (by rw [HG2.out]; exact hco : CallersOk P2.g).callers (by rw [hfl]; exact hfw)
  have HCAL := Lib.hid hcal
  have hst := (H2.out.own).state (fun g => B ≤ g) (fun _ h => h)
  rw [HE2.out] at hst
  have HST := Lib.hid hst
  obtain ⟨g, o, cap, hvf, hlt, d0, d1, hbl⟩ := (H2.out.own).place hP
  have HVF := Lib.hid hvf
  rw [HE2.out] at hvf
  simp only [Value.slice.injEq, true_and] at hvf
  obtain ⟨rfl, rfl⟩ := hvf
  have e := HY.out
  rw [if_neg (fun h => h ⟨hn0, hn1⟩), hnL, Int.toNat_natCast, fib_at hP] at e
  have hlen : y.g.frames.length = y.fr.length := by unfold PFiber.g; simp
  rw [hlen] at e
  have HYY := Lib.hid e
  have hym : y ∈ P2.fs := by rw [hP]; simp
  have hyO := (H2.out.own).fs y hym
  obtain ⟨ay, cy, ey, _, _⟩ := hyO.row.shape
  rw [ey] at d0
  obtain ⟨d0, d0'⟩ := d0
  have hFV : FiberV wk (B ≤ ·) (.agg #[.slice ay y.fr.length cy, .int .i64 y.caller]) y.g := ⟨_, rfl, by rw [← ey]; exact hyO.frames _ (fun _ h => h), hyO.i⟩
  have HFV := Lib.hid hFV
  have HEY := Lib.hid ey
  have HP2 := Lib.hid hP
  have hloc2 : 0 < y.fr.length → (topOf y.g).at_ = 0 → 0 < (topOf y.g).locals.length := by
    have := hloc
    rw [← HG2.out, hnL, Int.toNat_natCast, fib_at hP, hfl, hlen] at this
    exact fun hf => this ⟨by omega, by omega, hf⟩
  have HLOC := Lib.hid hloc2
  have hff2 : (L.length : Int) ∉ lineLL P2.g → 0 < y.fr.length → freshB p y.g = decide ((topOf y.g).at_ = 0) ∧ ∀ h : 0 < y.g.frames.length, 0 ≤ y.g.frames[0].func ∧ y.g.frames[0].func < p.length := by
    have := HFF.out y.g
    rw [HN.out, ← HG2.out, hnL, Int.toNat_natCast, fib_at hP, hfl] at this
    exact fun h1 h2 => this rfl (by omega) (by omega) h1 (by rw [hlen]; exact h2)
  have HF2 := Lib.hid hff2
  have D1 := Lib.hid d1
  subst hnL
  have hnF : L.length < (P2.fs).length := hlt
  clear hcal hst e hlen hym ey hP hloc2 hco hloc HY d1 hfl hff2 HFF hFV hyO hn0 hn1
  by_cases hm : (L.length : Int) ∈ lineLL P2.g
  · have HM : Hid (decide ((L.length : Int) ∈ lineLL P2.g) = true) := decide_eq_true hm
    have e := HYY.out
    rw [if_pos (Or.inl hm)] at e
    have HE := Lib.hid e
    clear e hm
    go_wp2_with (first
      | (go_at_call 210; (with_reducible refine (stepMust_to _ _ _).mono ?_); rintro e w3 ⟨he, rfl⟩; simp only [mustS] at he; subst he)
      | (go_at_call 109; (with_reducible refine (line_any P2.g _ _ _ HST.out HCAL.out).mono ?_); rintro e w5 ⟨hlr, hx5⟩; obtain ⟨al, cl, ok, rfl, hline⟩ := hlr.ll; have HLN := Lib.hid hline; have HX5 := Lib.hid hx5; clear hlr hline)
      | (go_at_call 90; (with_reducible refine (containsI_any (lineLL P2.g) _ _ _ _ HLN.out).mono ?_); rintro e w6 ⟨rfl, hx6⟩; rw [HM.out]))
    rw [HE.out]
    exact ⟨rfl, rfl, HBAD.out _ _ (HX5.out.trans hx6) (by decide)⟩
  have HM : Hid (decide ((L.length : Int) ∈ lineLL P2.g) = false) := decide_eq_false hm
  have HNM := Lib.hid hm
  by_cases hz : y.fr.length = 0
  · have T3 : decide ((y.fr.length : Int) > 0) = false := decide_eq_false (by omega)
    have T3' : decide (0 < (y.fr.length : Int)) = false := decide_eq_false (by omega)
    have T3n : decide (0 < y.fr.length) = false := decide_eq_false (by omega)
    have e := HYY.out
    rw [if_pos (Or.inr hz)] at e
    have HE := Lib.hid e
    clear e hm hz
    go_wp2_with (first
      | (go_at_call 210; (with_reducible refine (stepMust_to _ _ _).mono ?_); rintro e w3 ⟨he, rfl⟩; simp only [mustS] at he; subst he)
      | (go_at_call 109; (with_reducible refine (line_any P2.g _ _ _ HST.out HCAL.out).mono ?_); rintro e w5 ⟨hlr, hx5⟩; obtain ⟨al, cl, ok, rfl, hline⟩ := hlr.ll; have HLN := Lib.hid hline; have HX5 := Lib.hid hx5; clear hlr hline)
      | (go_at_call 90; (with_reducible refine (containsI_any (lineLL P2.g) _ _ _ _ HLN.out).mono ?_); rintro e w6 ⟨rfl, hx6⟩; rw [HM.out]; have f0 := Ext.cell (HX5.out.trans hx6) c20; have f1 := Ext.cell (HX5.out.trans hx6) d0; have f2 := Ext.cell (HX5.out.trans hx6) x0))
    rw [HE.out]
    exact ⟨rfl, rfl, HBAD.out _ _ (HX5.out.trans hx6) (by decide)⟩
  have T3 : decide ((y.fr.length : Int) > 0) = true := decide_eq_true (by omega)
  have T3' : decide (0 < (y.fr.length : Int)) = true := decide_eq_true (by omega)
  have T3n : decide (0 < y.fr.length) = true := decide_eq_true (by omega)
  have e := HYY.out
  rw [if_neg (by rintro (h | h); exact hm h; exact hz h)] at e
  have HE := Lib.hid e
  obtain ⟨F, x, hfr⟩ := split_last y.fr (by omega)
  have HFR := Lib.hid hfr
  obtain ⟨hfb, hfn⟩ := HF2.out hm (by omega)
  have HFB := Lib.hid hfb
  have HFN := Lib.hid hfn
  clear e hm hz HYY hfr hfb hfn HF2
  go_upto_region 5 with (first
    | (go_at_call 210; (with_reducible refine (stepMust_to _ _ _).mono ?_); rintro e w3 ⟨he, rfl⟩; simp only [mustS] at he; subst he)
    | (go_at_call 109; (with_reducible refine (line_any P2.g _ _ _ HST.out HCAL.out).mono ?_); rintro e w5 ⟨hlr, hx5⟩; obtain ⟨al, cl, ok, rfl, hline⟩ := hlr.ll; have HLN := Lib.hid hline; have HX5 := Lib.hid hx5; clear hlr hline)
    | (go_at_call 90; (with_reducible refine (containsI_any (lineLL P2.g) _ _ _ _ HLN.out).mono ?_); rintro e w6 ⟨rfl, hx6⟩; rw [HM.out]; have f0 := Ext.cell (HX5.out.trans hx6) c20; have f1 := Ext.cell (HX5.out.trans hx6) d0; have f2 := Ext.cell (HX5.out.trans hx6) x0))
  have HX6 := Lib.hid (HX5.out.trans hx6)
  obtain ⟨y1, y1'⟩ := Cx.ext (W := wk) ⟨x1, x1'⟩ HX6.out
  have f3 := Ext.cell HX6.out D1.out.1
  clear hx6
  obtain ⟨rfb, hrfb⟩ : ∃ rfb, freshB p y.g = rfb := ⟨_, rfl⟩
  have HRF := Lib.hid hrfb
  clear hrfb
  have HP6 := Lib.hid (Funcs.stays (Ext.stays HX6.out) HPQ.out)
  have HV6 := Lib.hid (FiberV.stays (Ext.stays HX6.out) HFV.out)
  refine wp_region_ext (by kernel_rfl) (by kernel_rfl) ?_
  repeat (first
    | go_big_quiet_skip
    | (go_big_quiet_want
       unfold Oper.quiet
       apply Exists.intro
       refine ⟨fun w' hw' => ?_, ?_⟩
       focus
         have hcq := Ext.keep hw'
         go_simp
         first
           | with_reducible rfl
           | (go_at_call 142; refine (stateFresh_any p _ _ _ y.g _ _ (Funcs.stays (Ext.stays hw') HP6.out) (FiberV.stays (Ext.stays hw') HV6.out) HFN.out).mono ?_; rintro e w8 ⟨rfl, hx8⟩; rw [HRF.out]; exact ⟨rfl, hw'.trans hx8⟩)
       (try dsimp only [Act.put])
       (try simp only [List.setIfInBounds_toArray, List.set_cons_succ, List.set_cons_zero])
       go_big_quiet_on))
  refine wpQuiet_nil ?_
  intro wq hq
  rename World => w7
  have HE7 := Lib.hid (HX6.out.trans hq)
  obtain ⟨y0, y0'⟩ := Cx.ext (W := wk) ⟨x0, x0'⟩ HE7.out
  obtain ⟨z0, z0'⟩ := Cx.ext (W := wk) ⟨c20, c20'⟩ HE7.out
  obtain ⟨z1, z1'⟩ := Cx.ext (W := wk) ⟨c21, c21'⟩ HE7.out
  obtain ⟨e1, e1'⟩ := D1.out.ext HE7.out
  have hgb : g ≠ b := fun e => H2.out.own.dis.1 (e ▸ PState.mem_vfs hbl)
  have hbg : b ≠ g := fun e => hgb e.symm
  have heg : eb ≠ g := fun e => H2.out.off (List.mem_cons_of_mem _ (e ▸ PState.mem_vfs hbl))
  clear hq y1 y1' f0 f1 f2 f3
  go_upto_region 6 with fail
  refine wp_region_rtt (fun w' => w'.cell? ⟨eb, 0, none⟩ = some (.pointer (some ⟨b, 0, none⟩)) ∧ w'.cell? ⟨b, 0, none⟩ = some (.slice (some ⟨g, o, none⟩) P2.fs.length cp2) ∧ w'.cell? ⟨b, 1, none⟩ = some (.int .i64 P2.now)) 25 [0, 1, 2, 3, 4, 5, 6, 7, 8, 9, 10, 11, 12, 13, 14, 15, 16, 17, 18, 19, 20, 21] [22, 23, 24, 25] (by kernel_rfl) (by kernel_rfl) (fun _ _ _ _ _ h => h) (by exact ⟨y0, z0, z1⟩) ?_
  (try simp only [pickOps, List.filterMap_cons, List.filterMap_nil, List.getElem?_cons_zero, List.getElem?_cons_succ])
  repeat (
    refine readsQ_do (by rfl) ?_
    apply Exists.intro
    refine ⟨fun w' hw' => ?_, ?_⟩
    focus
      (try dsimp only at hw')
      go_split_ands
      go_simp
      (try with_reducible rfl)
    (try dsimp only [Act.put])
    (try simp only [List.setIfInBounds_toArray, List.set_cons_succ, List.set_cons_zero]))
  refine readsQ_nil ?_
  have S7 := Lib.hid (⟨(Cx.other (W := w7) ⟨y0, y0'⟩ (b' := g) (j' := o + L.length * 2 + 1) (.inl heg) (.int .i64 P2.now)).1, (Cx.other (W := w7) ⟨z0, z0'⟩ (b' := g) (j' := o + L.length * 2 + 1) (.inl hbg) (.int .i64 P2.now)).1, (Cx.other (W := w7) ⟨z1, z1'⟩ (b' := g) (j' := o + L.length * 2 + 1) (.inl hbg) (.int .i64 P2.now)).1⟩ : _ ∧ _ ∧ _)
  refine tailW_step ?_
  go_wp2_with fail
  refine nextW_go (by exact S7.out) ?_
  refine tailW_step ?_
  go_wp2_with fail
  refine nextW_go (by exact S7.out) ?_
  refine tailW_step ?_
  go_wp2_with fail
  refine nextW_go (by exact S7.out) ?_
  refine tailW_step ?_
  go_wp2_with fail
  refine nextW_end ?_
  have hI : I64 (L.length : Int) := hnI
  have h7 := H2.out.ext HE7.out
  obtain ⟨o7, c7⟩ := h7.own.setCaller HP2.out HVF.out P2.now (h7.own.i.1)
  have hE7 : EngS _ B b eb p a cp _ := h7.with (c7.mono (fun k _ hk => List.mem_cons_of_mem _ hk)) o7 (fun k hk => .inl (by
    unfold PState.bl at hk ⊢
    rw [HP2.out]
    simp only [List.flatMap_append, List.flatMap_cons] at hk ⊢
    exact hk))
  have hE8 := hE7.setNow' (L.length : Int) hI
  have C8 := Lib.hid ((Chg.of_ext HE7.out).trans (c7.mono (M' := fun k => k ∈ b :: P2.bl) (fun k _ hk => List.mem_cons_of_mem _ hk)) |>.trans ((chg_one _ b 1 (.int .i64 (L.length : Int))).mono (fun k _ hk => by rw [show k = b from hk]; exact List.mem_cons_self)))
  obtain ⟨W8, hW8⟩ : ∃ W8, W8 = (w7.setCell ⟨g, o + L.length * 2 + 1, none⟩ (.int .i64 P2.now)).setCell ⟨b, 1, none⟩ (.int .i64 (L.length : Int)) := ⟨_, rfl⟩
  rw [← hW8] at hE8 C8
  simp only [← hW8]
  obtain ⟨P4, HO8, hs4, hn4, hg4, hb4⟩ : ∃ P4, Hid (EngS W8 B b eb p a cp P4) ∧ Spot P4 L { y with caller := P2.now } R F x ∧ P4.now = (L.length : Int) ∧ P4.g = { modFib P2.g (L.length : Int) (fun f => { f with caller := P2.g.now }) with now := (L.length : Int) } ∧ ∀ k ∈ P4.bl, k ∈ P2.bl ∨ wk.heap.size ≤ k := by
    refine ⟨_, Lib.hid hE8, ⟨rfl, HFR.out⟩, rfl, ?_, fun k hk => .inl ?_⟩
    · have e := modFib_at (n := (L.length : Int)) HP2.out rfl (y' := { y with caller := P2.now }) (g := fun f => { f with caller := P2.g.now }) rfl
      rw [e]
      rfl
    · unfold PState.bl at hk ⊢
      rw [HP2.out]
      simp only [List.flatMap_append, List.flatMap_cons] at hk ⊢
      exact hk
  obtain ⟨gf, og, cf, hvf4, _, _, q0, q1, q2, _, _⟩ := (HO8.out).own.spot hs4
  have X2 := Lib.hid q2
  have HV4 := Lib.hid hvf4
  have HS4 := Lib.hid hs4
  have HN4 := Lib.hid hn4
  have hat : topOf y.g = x.f := top_at HFR.out
  have HW : Hid (wakeG P2.g (L.length : Int) v = if x.f.at_ = 0 then modTop P4.g (L.length : Int) (fun z => { z with locals := z.locals.set 0 v }) else pushG P4.g (L.length : Int) v) := by
    unfold Hid wakeG
    rw [Int.toNat_natCast, fib_at HP2.out, hat, hg4]
  have hlc := HLOC.out (by rw [HFR.out]; simp)
  rw [hat] at hlc
  have HLC := Lib.hid hlc
  have hrf : decide (x.f.at_ = 0) = rfb := by rw [← hat, ← HFB.out]; exact HRF.out
  have HRB := Lib.hid hrf
  have ht4 : HasTop P4.g P4.g.now := by
    have e : P4.g.now = (L.length : Int) := hn4
    rw [e]
    refine ⟨by omega, ?_, ?_⟩
    · show (L.length : Int) < ((P4.fs.map PFiber.g).length : Nat)
      rw [hs4.fs]; simp; omega
    · rw [Int.toNat_natCast, fib_at hs4.fs]
      show 0 < (y.fr.map PFrame.f).length
      rw [HFR.out]; simp
  have HT4 := Lib.hid ht4
  have hr4 : Room P4.g := by
    rw [hg4, HG2.out]
    exact ((hr.pop).pop).caller _ _
  have HR4 := Lib.hid hr4
  clear q0 q1 q2 hvf4 hs4 hat hlc hg4 o7 c7 hn4 hrf ht4 hr4 h7 hE7 hE8 hW8 y0 y0' z0 z0' z1 z1' e1 e1' S7
  by_cases ha : x.f.at_ = 0
  · have HRT : Hid (rfb = true) := by unfold Hid; rw [← HRB.out]; exact decide_eq_true ha
    obtain rfl := HRT.out
    have e := HW.out
    rw [if_pos ha] at e
    have HWE := Lib.hid e
    have h0l := HLC.out ha
    have hxO := ((HO8.out).own.fs { y with caller := P2.now } (by rw [HS4.out.fs]; simp)).fr x (by rw [HS4.out.fr]; simp)
    obtain ⟨al9, cl9, ex, hcl, _⟩ := hxO.l.shape
    have hlr := hxO.l
    rw [ex] at hlr
    obtain ⟨gl, ol, rfl, _, hcells⟩ := hlr.cell h0l
    have z0 := (hcells 0 (by omega)).1
    rw [ints_get _ _ h0l] at z0
    have Z0 : Hid (Cx W8 gl ol (.int .i64 (x.f.locals.getD 0 0))) := Lib.hid ⟨z0, (hcells 0 (by omega)).2⟩
    have HEX := Lib.hid ex
    have X3 : Hid (Cx W8 gf (og + F.length * 4 + 2) (.slice (some ⟨gl, ol, none⟩) x.f.locals.length cl9)) := by unfold Hid; rw [← ex]; exact X2.out
    clear e ha hlr hcells hxO ex z0
    go_wp2_with (first
      | (go_at_call 158; (with_reducible refine (engTop_any (HO8.out.own.ext (by ((repeat (first | assumption | exact Ext.refl _ | (exact And.left (by assumption)) | refine Ext.alloc ?_ _ | refine Ext.drew ?_ | refine Ext.drewN ?_ _ | refine Ext.setCell ?_ (by simp) _ | refine Ext.setCell ?_ (by simp; omega) _ | refine Ext.trans ?_ (by assumption))); done))) (HO8.out.eng.ext (by ((repeat (first | assumption | exact Ext.refl _ | (exact And.left (by assumption)) | refine Ext.alloc ?_ _ | refine Ext.drew ?_ | refine Ext.drewN ?_ _ | refine Ext.setCell ?_ (by simp) _ | refine Ext.setCell ?_ (by simp; omega) _ | refine Ext.trans ?_ (by assumption))); done))) HS4.out HV4.out HN4.out).mono ?_); rintro e w9 ⟨rfl, hx9⟩; have hx9 := (Ext.refl W8).drew.trans hx9; obtain ⟨x3, x3'⟩ := (X3.out).ext hx9; obtain ⟨z0, z0'⟩ := (Z0.out).ext hx9; have HX9 := Lib.hid hx9; clear hx9))
    refine bodyPost_ret (results_none rfl _ _ _) rfl ?_
    rw [HE.out, HWE.out]
    obtain ⟨o9, c9⟩ := ((HO8.out).own.ext HX9.out).setLocal HS4.out HEX.out 0 h0l v hLI
    exact ⟨rfl, Did.of (Turn.step HC2.out HS2.out (Turn.step ((C8.out).trans (Chg.of_ext HX9.out)) hb4 ⟨⟨_, o9, (modTop_at HS4.out rfl rfl).symm, repl_bl HS4.out (fun k hk => .inl hk)⟩, c9⟩))⟩
  · have HRT : Hid (rfb = false) := by unfold Hid; rw [← HRB.out]; exact decide_eq_false ha
    obtain rfl := HRT.out
    have e := HW.out
    rw [if_neg ha] at e
    have HWE := Lib.hid e
    clear e ha
    go_wp2_with (first
      | (go_at_call 159; (with_reducible refine (engPush_any (HO8.out.own.ext (by ((repeat (first | assumption | exact Ext.refl _ | (exact And.left (by assumption)) | refine Ext.alloc ?_ _ | refine Ext.drew ?_ | refine Ext.drewN ?_ _ | refine Ext.setCell ?_ (by simp) _ | refine Ext.setCell ?_ (by simp; omega) _ | refine Ext.trans ?_ (by assumption))); done))) (HO8.out.eng.ext (by ((repeat (first | assumption | exact Ext.refl _ | (exact And.left (by assumption)) | refine Ext.alloc ?_ _ | refine Ext.drew ?_ | refine Ext.drewN ?_ _ | refine Ext.setCell ?_ (by simp) _ | refine Ext.setCell ?_ (by simp; omega) _ | refine Ext.trans ?_ (by assumption))); done))) HT4.out HR4.out v hLI (by simp)).mono ?_); rintro e w10 ⟨rfl, t10⟩))
    go_end0
    rw [HE.out, HWE.out]
    rw [show P4.g.now = (L.length : Int) from HN4.out] at t10
    exact ⟨rfl, Did.of (Turn.step HC2.out HS2.out (Turn.step C8.out hb4 (Turn.pre (show Ext W8 (W8.alloc (.cells #[.int .i64 v] 3)).drew by ((repeat (first | assumption | exact Ext.refl _ | (exact And.left (by assumption)) | refine Ext.alloc ?_ _ | refine Ext.drew ?_ | refine Ext.drewN ?_ _ | refine Ext.setCell ?_ (by simp) _ | refine Ext.setCell ?_ (by simp; omega) _ | refine Ext.trans ?_ (by assumption))); done)) t10)))⟩
end Go.Proofs.YtpcjkfppacnkgaaGreatDoor
end
section
/- The engine of package step: far. -/
set_option maxHeartbeats 4000000
set_option maxRecDepth 100000
namespace Go.Proofs.YtpcjkfppacnkgaaGreatDoor
open Go Go.RowKit

/-- Bounds of a state whose op is done. -/
structure FarFit (p : List GFunc) (s : GState) (k : Int) : Prop where
  out : s.out.length ≤ 30
  fibers : s.fibers.length ≤ 5
  frames : (curF s).frames.length ≤ 6
  fresh : k = 14 → FreshFit p s

theorem engFar_any {P : PState} {w : World} {B b eb : Nat} {p : List GFunc} {a : Option Addr} {cp : Nat} (k c : Int) (h : EngS w B b eb p a cp P) (hp : Funcs w (· < B) (.slice a p.length cp) p) (ht : HasTop P.g P.g.now) (hr : Room P.g) (hw : WorkFit p P.g k c) (hi : FarFit p P.g k) (hk : 11 ≤ k ∧ k ≤ 16) :
    Calls Tryz.prog 169 #[.pointer (some ⟨eb, 0, none⟩), .agg #[.int .i64 k, .int .i64 c]] w fun e w' => e = endS (workG p P.g k c).1 ∧ Did w w' B b P (workG p P.g k c) := by
  have he : Ext w (w.alloc (.cells #[.int .i64 k, .int .i64 c] 51)) := (Ext.refl _).alloc _
  have H1 := Lib.hid (h.ext he)
  have HP1 := Lib.hid (Funcs.stays (Ext.stays he) hp)
  have HT := Lib.hid ht
  have HR := Lib.hid hr
  have HI := Lib.hid hi
  have RA := alloc_keep
  clear h hp ht hr hi he
  have hcs : k = 11 ∨ k = 12 ∨ k = 13 ∨ k = 14 ∨ k = 15 ∨ k = 16 := by omega
  obtain ⟨r, hwr⟩ : ∃ r, workG p P.g k c = r := ⟨_, rfl⟩
  rw [hwr]
  have HW := Lib.hid hwr
  have hfin : ∀ w2, Did (w.alloc (.cells #[.int .i64 k, .int .i64 c] 51)) w2 B b P r → Did w w2 B b P r := fun w2 d => Did.pre ((Ext.refl _).alloc _) d
  have HFIN := Lib.hid hfin
  clear hwr hfin hk
  obtain ⟨r1, hr1⟩ : ∃ r1, r.1 = r1 := ⟨_, rfl⟩
  rw [hr1]
  have HR1 := Lib.hid hr1
  clear hr1
  rcases hcs with rfl | rfl | rfl | rfl | rfl | rfl
  · have hcf : CallFit p P.g c := by simpa [WorkFit] using hw
    obtain ⟨n, rfl⟩ : ∃ n : Nat, c = n := ⟨c.toNat, by have := hcf.1; omega⟩
    have HCF := Lib.hid hcf
    have HWE : Hid (callG p P.g n = r) := by unfold Hid; rw [← HW.out]; simp [workG]
    clear hw hcf HW
    by_cases hz : r1 = 0
    · have HZ : Hid (endS r1 = .returned (.tuple #[])) := by unfold Hid endS; rw [if_pos hz]
      clear hz
      go_enter Tryz.func169, Tryz.ntmps169
      go_wp2_with (first
        | (go_at_call 194; (with_reducible refine (engCall_any n H1.out HP1.out HT.out HI.out.frames HCF.out).mono ?_); rintro e w2 ⟨he, d2⟩; rw [HWE.out, HR1.out, HZ.out] at he; rw [HWE.out] at d2; subst he))
      go_end0
      rw [HZ.out]
      exact ⟨rfl, HFIN.out _ d2⟩
    · have HZ : Hid (endS r1 = .panicked (refusalS r1)) := by unfold Hid endS; rw [if_neg hz]
      clear hz
      go_enter Tryz.func169, Tryz.ntmps169
      go_wp2_with (first
        | (go_at_call 194; (with_reducible refine (engCall_any n H1.out HP1.out HT.out HI.out.frames HCF.out).mono ?_); rintro e w2 ⟨he, d2⟩; rw [HWE.out, HR1.out, HZ.out] at he; rw [HWE.out] at d2; subst he))
      rw [HZ.out]
      exact ⟨rfl, rfl, HFIN.out _ d2⟩
  · have hcf : ReturnFit P.g := by simpa [WorkFit] using hw
    have HCF := Lib.hid hcf
    have HWE : Hid (returnG P.g = r) := by unfold Hid; rw [← HW.out]; simp [workG]
    clear hw hcf HW
    by_cases hz : r1 = 0
    · have HZ : Hid (endS r1 = .returned (.tuple #[])) := by unfold Hid endS; rw [if_pos hz]
      clear hz
      go_enter Tryz.func169, Tryz.ntmps169
      go_wp2_with (first
        | (go_at_call 195; (with_reducible refine (engGive_any H1.out HT.out HR.out HI.out.out HCF.out).mono ?_); rintro e w2 ⟨he, d2⟩; rw [HWE.out, HR1.out, HZ.out] at he; rw [HWE.out] at d2; subst he))
      go_end0
      rw [HZ.out]
      exact ⟨rfl, HFIN.out _ d2⟩
    · have HZ : Hid (endS r1 = .panicked (refusalS r1)) := by unfold Hid endS; rw [if_neg hz]
      clear hz
      go_enter Tryz.func169, Tryz.ntmps169
      go_wp2_with (first
        | (go_at_call 195; (with_reducible refine (engGive_any H1.out HT.out HR.out HI.out.out HCF.out).mono ?_); rintro e w2 ⟨he, d2⟩; rw [HWE.out, HR1.out, HZ.out] at he; rw [HWE.out] at d2; subst he))
      rw [HZ.out]
      exact ⟨rfl, rfl, HFIN.out _ d2⟩
  · have hcf : MakeFit p c := by simpa [WorkFit] using hw
    obtain ⟨n, rfl⟩ : ∃ n : Nat, c = n := ⟨c.toNat, by have := hcf.1; omega⟩
    have HCF := Lib.hid hcf
    have HWE : Hid (makeG p P.g n = r) := by unfold Hid; rw [← HW.out]; simp [workG]
    clear hw hcf HW
    by_cases hz : r1 = 0
    · have HZ : Hid (endS r1 = .returned (.tuple #[])) := by unfold Hid endS; rw [if_pos hz]
      clear hz
      go_enter Tryz.func169, Tryz.ntmps169
      go_wp2_with (first
        | (go_at_call 196; (with_reducible refine (engFiber_any n H1.out HP1.out HT.out HR.out HI.out.fibers HCF.out).mono ?_); rintro e w2 ⟨he, d2⟩; rw [HWE.out, HR1.out, HZ.out] at he; rw [HWE.out] at d2; subst he))
      go_end0
      rw [HZ.out]
      exact ⟨rfl, HFIN.out _ d2⟩
    · have HZ : Hid (endS r1 = .panicked (refusalS r1)) := by unfold Hid endS; rw [if_neg hz]
      clear hz
      go_enter Tryz.func169, Tryz.ntmps169
      go_wp2_with (first
        | (go_at_call 196; (with_reducible refine (engFiber_any n H1.out HP1.out HT.out HR.out HI.out.fibers HCF.out).mono ?_); rintro e w2 ⟨he, d2⟩; rw [HWE.out, HR1.out, HZ.out] at he; rw [HWE.out] at d2; subst he))
      rw [HZ.out]
      exact ⟨rfl, rfl, HFIN.out _ d2⟩
  · have hcf : ResumeFit P.g := by simpa [WorkFit] using hw
    have HCF := Lib.hid hcf
    have HWE : Hid (resumeG P.g = r) := by unfold Hid; rw [← HW.out]; simp [workG]
    clear hw hcf HW
    by_cases hz : r1 = 0
    · have HZ : Hid (endS r1 = .returned (.tuple #[])) := by unfold Hid endS; rw [if_pos hz]
      clear hz
      go_enter Tryz.func169, Tryz.ntmps169
      go_wp2_with (first
        | (go_at_call 197; (with_reducible refine (engResume_any H1.out HP1.out HT.out HR.out HCF.out (HI.out.fresh rfl)).mono ?_); rintro e w2 ⟨he, d2⟩; rw [HWE.out, HR1.out, HZ.out] at he; rw [HWE.out] at d2; subst he))
      go_end0
      rw [HZ.out]
      exact ⟨rfl, HFIN.out _ d2⟩
    · have HZ : Hid (endS r1 = .panicked (refusalS r1)) := by unfold Hid endS; rw [if_neg hz]
      clear hz
      go_enter Tryz.func169, Tryz.ntmps169
      go_wp2_with (first
        | (go_at_call 197; (with_reducible refine (engResume_any H1.out HP1.out HT.out HR.out HCF.out (HI.out.fresh rfl)).mono ?_); rintro e w2 ⟨he, d2⟩; rw [HWE.out, HR1.out, HZ.out] at he; rw [HWE.out] at d2; subst he))
      rw [HZ.out]
      exact ⟨rfl, rfl, HFIN.out _ d2⟩
  · have hcf : 1 ≤ (curX P.g).stack.length ∧ BackFit (popG P.g) := by simpa [WorkFit] using hw
    have HCF := Lib.hid hcf
    have HWE : Hid (yieldG P.g = r) := by unfold Hid; rw [← HW.out]; simp [workG]
    clear hw hcf HW
    by_cases hz : r1 = 0
    · have HZ : Hid (endS r1 = .returned (.tuple #[])) := by unfold Hid endS; rw [if_pos hz]
      clear hz
      go_enter Tryz.func169, Tryz.ntmps169
      go_wp2_with (first
        | (go_at_call 198; (with_reducible refine (engYield_any H1.out HT.out HR.out HCF.out.1 HCF.out.2).mono ?_); rintro e w2 ⟨he, d2⟩; rw [HWE.out, HR1.out, HZ.out] at he; rw [HWE.out] at d2; subst he))
      go_end0
      rw [HZ.out]
      exact ⟨rfl, HFIN.out _ d2⟩
    · have HZ : Hid (endS r1 = .panicked (refusalS r1)) := by unfold Hid endS; rw [if_neg hz]
      clear hz
      go_enter Tryz.func169, Tryz.ntmps169
      go_wp2_with (first
        | (go_at_call 198; (with_reducible refine (engYield_any H1.out HT.out HR.out HCF.out.1 HCF.out.2).mono ?_); rintro e w2 ⟨he, d2⟩; rw [HWE.out, HR1.out, HZ.out] at he; rw [HWE.out] at d2; subst he))
      rw [HZ.out]
      exact ⟨rfl, rfl, HFIN.out _ d2⟩
  · have hcf : 1 ≤ (curX P.g).stack.length := by simpa [WorkFit] using hw
    have HCF := Lib.hid hcf
    have HWE : Hid (putG (popG P.g) (lastV P.g) = r) := by unfold Hid; rw [← HW.out]; simp [workG]
    have hLI := H1.out.own.lastI HT.out hcf
    clear hw hcf HW
    generalize hlv : lastV P.g = v at *
    have HLV := Lib.hid hlv
    clear hlv
    by_cases hz : r1 = 0
    · have HZ : Hid (endS r1 = .returned (.tuple #[])) := by unfold Hid endS; rw [if_pos hz]
      clear hz
      go_enter Tryz.func169, Tryz.ntmps169
      go_wp2_with (first
        | (go_at_call 161; (with_reducible refine (engOne_any H1.out.own H1.out.eng HT.out HCF.out).mono ?_); rintro e w2 ⟨rfl, t2⟩; rw [HLV.out]; obtain ⟨P2, h2, g2, s2, c2⟩ := H1.out.turn t2; have H2 := Lib.hid h2; have HG2 := Lib.hid g2; have HS2 := Lib.hid s2; have HC2 := Lib.hid c2; have HO2 : Hid (P2.g.out.length ≤ 30) := (by unfold Hid; rw [g2]; exact HI.out.out); clear t2 h2 g2 s2 c2)
        | (go_at_call 199; (with_reducible refine (engPut_any H2.out HO2.out v hLI).mono ?_); rintro e w3 ⟨he, d3⟩; rw [HG2.out, HWE.out, HR1.out, HZ.out] at he; rw [HG2.out, HWE.out] at d3; subst he))
      go_end0
      rw [HZ.out]
      exact ⟨rfl, HFIN.out _ (Did.step HC2.out HS2.out d3)⟩
    · have HZ : Hid (endS r1 = .panicked (refusalS r1)) := by unfold Hid endS; rw [if_neg hz]
      clear hz
      go_enter Tryz.func169, Tryz.ntmps169
      go_wp2_with (first
        | (go_at_call 161; (with_reducible refine (engOne_any H1.out.own H1.out.eng HT.out HCF.out).mono ?_); rintro e w2 ⟨rfl, t2⟩; rw [HLV.out]; obtain ⟨P2, h2, g2, s2, c2⟩ := H1.out.turn t2; have H2 := Lib.hid h2; have HG2 := Lib.hid g2; have HS2 := Lib.hid s2; have HC2 := Lib.hid c2; have HO2 : Hid (P2.g.out.length ≤ 30) := (by unfold Hid; rw [g2]; exact HI.out.out); clear t2 h2 g2 s2 c2)
        | (go_at_call 199; (with_reducible refine (engPut_any H2.out HO2.out v hLI).mono ?_); rintro e w3 ⟨he, d3⟩; rw [HG2.out, HWE.out, HR1.out, HZ.out] at he; rw [HG2.out, HWE.out] at d3; subst he))
      rw [HZ.out]
      exact ⟨rfl, rfl, HFIN.out _ (Did.step HC2.out HS2.out d3)⟩
end Go.Proofs.YtpcjkfppacnkgaaGreatDoor
end
section
/- The engine of package step: do. -/
set_option maxHeartbeats 8000000
set_option maxRecDepth 100000
namespace Go.Proofs.YtpcjkfppacnkgaaGreatDoor
open Go Go.RowKit

theorem endS_zero : endS 0 = .returned (.tuple #[]) := by unfold endS; rw [if_pos rfl]

theorem engDo_any {P : PState} {w : World} {B b eb : Nat} {p : List GFunc} {pa : Option Addr} {cp : Nat} (hE : EngS w B b eb p pa cp P) (hp : Funcs w (· < B) (.slice pa p.length cp) p) (hf : FewS P.g) (hfit : OpFit p P.g) (hi : FarFit p (advG P.g) (opAt p (curX P.g)).kind) (hkk : 0 ≤ (opAt p (curX P.g)).kind ∧ (opAt p (curX P.g)).kind ≤ 16) :
    Calls Tryz.prog 133 #[.pointer (some ⟨eb, 0, none⟩)] w fun e w' => e = endS (doneG p P.g).1 ∧ Did w w' B b P (doneG p P.g) := by
  obtain ⟨⟨ht, hn0, hn1, ha0, ha1⟩, hwf⟩ := hfit
  have h := hE.own
  obtain ⟨L, y, R, F, x, hs, hnw⟩ := hasSpot ht
  have hnw : P.now = L.length := hnw
  have hcx := curX_at hs hnw
  rw [hcx] at hn0 hn1 ha0 ha1 hwf hi hkk
  obtain ⟨fn, hfn⟩ : ∃ n : Nat, x.f.func = n := ⟨x.f.func.toNat, by omega⟩
  obtain ⟨at', hat⟩ : ∃ n : Nat, x.f.at_ = n := ⟨x.f.at_.toNat, by omega⟩
  have hfl : fn < p.length := by omega
  have hF : funcOf p x.f.func = p[fn] := by rw [hfn]; unfold funcOf; simp [List.getD, List.getElem?_eq_getElem hfl]
  rw [hF] at ha1
  have hal : at' < p[fn].code.length := by omega
  have hop : opAt p x.f = p[fn].code[at'] := by unfold opAt; rw [hF, hat]; simp [List.getD, List.getElem?_eq_getElem hal]
  rw [hop] at hwf hi hkk
  have hD : doneG p P.g = workG p (advG P.g) p[fn].code[at'].kind p[fn].code[at'].a := by unfold doneG; rw [hcx, hop]
  obtain ⟨bp, op, capp, epa, hcapp, hby, _, _, vc, hcv, hops⟩ := hp.get hfl
  simp only [Value.slice.injEq, true_and] at epa
  obtain ⟨rfl, rfl⟩ := epa
  obtain ⟨bc, oc, capc, rfl, hcapc, hbyc, ⟨_, hk0, hk1⟩, _, hq0, hq1⟩ := hops.get hal
  obtain ⟨k, hk⟩ : ∃ k, p[fn].code[at'].kind = k := ⟨_, rfl⟩
  obtain ⟨a, ha⟩ : ∃ a, p[fn].code[at'].a = a := ⟨_, rfl⟩
  obtain ⟨M, hM⟩ : ∃ M, p[fn].code.length = M := ⟨_, rfl⟩
  rw [hk] at hk0 hk1 hwf hD hi hkk
  rw [ha] at hq0 hq1 hwf hD
  rw [hM] at hal hcv hcapc hbyc
  obtain ⟨g, o, cap, hyv, hcap, hmax, ⟨f0, _⟩, ⟨f1, f1'⟩, _, _, hbl⟩ := h.spot hs
  rw [hfn] at f0
  rw [hat] at f1
  have KA : IntKind.i64.wrap ((at' : Int) + 1) = (at' : Int) + 1 := IntWalk.i64_in _ (by omega)
  have HP := Lib.hid hp
  have H := Lib.hid h
  have HEng := Lib.hid hE
  have HS := Lib.hid hs
  have HNW := Lib.hid hnw
  have HYV := Lib.hid hyv
  have HD := Lib.hid hD
  have HF := Lib.hid hf
  have HT := Lib.hid ht
  have HWF := Lib.hid hwf
  have HBL := Lib.hid hbl
  have HAT := Lib.hid hat
  have HFF := Lib.hid hi
  have HKK := Lib.hid hkk
  obtain ⟨e1, e1'⟩ := hE.eng.e1
  have RA := alloc_keep
  clear hp h hE hs hnw hyv hD hf ht hwf hcx hop hF hbl hn0 hn1 ha0 ha1 hM hk ha hops hfn hat hi hkk
  go_enter Tryz.func133, Tryz.ntmps133
  go_upto_region 1 with (first
    | (go_at_call 158; (with_reducible refine (engTop_any H.out HEng.out.eng HS.out HYV.out HNW.out).mono ?_); rintro e w2 ⟨rfl, hx2⟩))
  have HX2 := Lib.hid hx2
  have f0 := Ext.cell hx2 f0
  have f1w := f1
  have f1 := Ext.cell hx2 f1
  have e1w := Ext.cell hx2 e1
  have hcv := Ext.cell hx2 hcv
  have hk0 := Ext.cell hx2 hk0
  have hq0 := Ext.cell hx2 hq0
  clear hx2
  have f1'2 := (Cx.ext (W' := w2) ⟨f1w, f1'⟩ HX2.out).2
  refine wp_region_rtt (fun w' => w'.cell? ⟨eb, 1, none⟩ = some (.slice (some ⟨bp, op, none⟩) p.length cp) ∧ w'.cell? ⟨g, o + F.length * 4, none⟩ = some (.int .i64 fn) ∧ w'.cell? ⟨g, o + F.length * 4 + 1, none⟩ = some (.int .i64 at') ∧ w'.cell? ⟨bp, op + fn * 3 + 2, none⟩ = some (.slice (some ⟨bc, oc, none⟩) M capc) ∧ w'.cell? ⟨bc, oc + at' * 2, none⟩ = some (.int .i64 k) ∧ w'.cell? ⟨bc, oc + at' * 2 + 1, none⟩ = some (.int .i64 a))
    18 [0, 1, 2, 3, 4, 5, 6, 7, 8, 9, 10, 11, 12, 13, 14, 15, 16] [17, 18] (by kernel_rfl) (by kernel_rfl) (fun _ _ _ _ _ h => h) (by exact ⟨e1w, f0, f1, hcv, hk0, hq0⟩) ?_
  (try simp only [pickOps, List.filterMap_cons, List.filterMap_nil, List.getElem?_cons_zero, List.getElem?_cons_succ])
  repeat (
    refine readsQ_do (by rfl) ?_
    apply Exists.intro
    refine ⟨fun w' hw' => ?_, ?_⟩
    focus
      (try dsimp only at hw')
      go_split_ands
      go_simp
      (try with_reducible rfl)
    (try dsimp only [Act.put])
    (try simp only [List.setIfInBounds_toArray, List.set_cons_succ, List.set_cons_zero]))
  refine readsQ_nil ?_
  refine tailW_step ?_
  go_wp2_with fail
  refine nextW_go (by refine ⟨?_, ?_, ?_, ?_, ?_, ?_⟩ <;> simp [*]) ?_
  refine tailW_step ?_
  go_wp2_with fail
  refine nextW_end ?_
  have f1b := (Cx.ext (W := w2) ⟨f1, f1'2⟩ ((Ext.refl w2).alloc (.cells #[.int .i64 k, .int .i64 a] 51))).2
  go_upto_region 3 with fail
  obtain ⟨W4, hW4⟩ : ∃ W4, W4 = ((w2.alloc (.cells #[.int .i64 k, .int .i64 a] 51)).setCell ⟨g, o + F.length * 4 + 1, none⟩ (.int .i64 ((at' : Int) + 1))).drew := ⟨_, rfl⟩
  rw [← hW4]
  obtain ⟨P1, y1, x1, HO, HS1, HYV1, HNW1, HG1, C4, BL4, HXF1⟩ : ∃ P1 y1 x1, Hid (OwnS W4 B b P1) ∧ Hid (Spot P1 L y1 R F x1) ∧ Hid (y1.vf = .slice (some ⟨g, o, none⟩) (F ++ [x1]).length cap) ∧ Hid (P1.now = L.length) ∧ Hid (P1.g = advG P.g) ∧ Hid (Chg (· ∈ b :: P.bl) w W4) ∧ Hid (∀ k ∈ P1.bl, k ∈ P.bl) ∧ Hid (x1.f.locals = x.f.locals ∧ x1.f.stack = x.f.stack) := by
    have h9 := ((H.out).ext (HX2.out.alloc (.cells #[.int .i64 k, .int .i64 a] 51))).setAt HS.out HYV.out ((at' : Int) + 1) (by unfold I64; omega)
    refine ⟨replTop P L y R F ⟨{ x.f with at_ := (at' : Int) + 1 }, x.vl, x.vs⟩, { y with fr := F ++ [⟨{ x.f with at_ := (at' : Int) + 1 }, x.vl, x.vs⟩] }, ⟨{ x.f with at_ := (at' : Int) + 1 }, x.vl, x.vs⟩, ?_, ⟨rfl, rfl⟩, by rw [List.length_append]; have := HYV.out; rw [List.length_append] at this; exact this, HNW.out, ?_, ?_, ?_, ⟨rfl, rfl⟩⟩
    · rw [hW4]; exact h9.1.ext (Ext.refl _).drew
    · unfold Hid advG
      refine (modTop_at HS.out HNW.out ?_).symm
      rw [HAT.out]
    · rw [hW4]
      exact ((Chg.of_ext (HX2.out.alloc _)).trans h9.2).drew
    · intro k hk
      exact repl_same (x' := ⟨{ x.f with at_ := (at' : Int) + 1 }, x.vl, x.vs⟩) HS.out rfl k hk
  have hbx : w2.heap.size ∉ b :: P1.bl := fun hm => by
    have h1 : w2.heap.size ∈ b :: P.bl := by
      rcases List.mem_cons.1 hm with e | e
      · rw [e]; exact List.mem_cons_self
      · exact List.mem_cons_of_mem _ (BL4.out _ e)
    have := (H.out).lt _ h1
    have := HX2.out.size
    omega
  have hcap0 : cap ≠ 0 := by simp at hcap; omega
  have hgb2 : w2.heap.size ≠ g := fun e => hbx (List.mem_cons_of_mem _ ((HS1.out).bl (.inl (by rw [HYV1.out, e]; exact rowBlock_some _ _ _ _ hcap0))))
  have hb0 : Cx W4 w2.heap.size 0 (.int .i64 k) := by rw [hW4]; exact (((Cx.new w2 [.int .i64 k, .int .i64 a] _ (j := 0) rfl).other (.inl hgb2) _).ext (Ext.refl _).drew)
  have hb1 : Cx W4 w2.heap.size 1 (.int .i64 a) := by rw [hW4]; exact (((Cx.new w2 [.int .i64 k, .int .i64 a] _ (j := 1) rfl).other (.inl hgb2) _).ext (Ext.refl _).drew)
  have HEN := Lib.hid (HEng.out.with C4.out HO.out (fun k hk => .inl (BL4.out k hk)))
  have HBX := Lib.hid hbx
  have HB0 := Lib.hid hb0
  have HB1 := Lib.hid hb1
  obtain ⟨hb0, -⟩ := hb0
  obtain ⟨hb1, -⟩ := hb1
  generalize w2.heap.size = bx at *
  have hD2 := HD.out
  rw [← HG1.out] at hD2
  have HD2 := Lib.hid hD2
  have hw2 := HWF.out
  rw [← HG1.out] at hw2
  have HW2 := Lib.hid hw2
  have hff2 := HFF.out
  rw [← HG1.out] at hff2
  have HFF2 := Lib.hid hff2
  have HT1 : Hid (HasTop P1.g P1.g.now) := by unfold Hid; rw [HG1.out]; exact (HT.out).top _
  have HR1 : Hid (Room P1.g) := by unfold Hid; rw [HG1.out]; exact (HF.out).room.top _ (fun _ => Nat.le_refl _)
  have HPL : Hid (Funcs W4 (· < B) (.slice (some ⟨bp, op, none⟩) p.length cp) p) := Funcs.stays ((C4.out).stays (fun k hk hm => by have := (H.out).ge k hm; omega)) HP.out
  obtain ⟨x0, x0'⟩ := HEN.out.eng.e0
  clear hW4 hbx hgb2 f0 f1 f1' f1'2 f1b f1w hcv hk0 hq0 e1 e1' e1w hD2 hw2 hff2 HX2 HD HWF HFF hcap hmax
  rename World => w2
  by_cases h0 : k = 0
  · subst h0
    have HWK : Hid (workG p P1.g 0 a = (0, pushG P1.g P1.g.now a)) := by unfold Hid workG; rw [if_pos rfl]
    go_wp2_with (first
      | (go_at_call 159; (with_reducible refine (engPush_new HEN.out.own HEN.out.eng HT1.out HR1.out a hq1 _).mono ?_); rintro e w5 ⟨rfl, t5⟩))
    go_end0
    obtain ⟨e9, d9⟩ := done_ok HD2.out HWK.out C4.out BL4.out (Did.of t5)
    rw [e9]
    exact ⟨endS_zero.symm, d9⟩
  have T0 : (k == 0) = false := beq_false_of_ne h0
  by_cases h1 : k = 1
  · subst h1
    have HWK : Hid (workG p P1.g 1 a = (0, popG P1.g)) := by unfold Hid workG; simp
    have hst : 1 ≤ (curX P1.g).stack.length := by have h := HW2.out; unfold WorkFit at h; simpa using h
    have HST := Lib.hid hst
    go_wp2_with (first
      | (go_at_call 160; (with_reducible refine (engPull_k HEN.out.own HEN.out.eng HT1.out 1 HST.out 1 rfl).mono ?_); rintro e w5 ⟨v1, rfl, _, t5⟩; rw [leave_one] at t5))
    go_end0
    obtain ⟨e9, d9⟩ := done_ok HD2.out HWK.out C4.out BL4.out (Did.of t5)
    rw [e9]
    exact ⟨endS_zero.symm, d9⟩
  have T1 : (k == 1) = false := beq_false_of_ne h1
  by_cases h2 : k = 2
  · subst h2
    have hfit : 0 ≤ a ∧ a < (curX P1.g).locals.length := by have h := HW2.out; unfold WorkFit at h; simpa using h
    obtain ⟨an, han⟩ : ∃ n : Nat, a = n := ⟨a.toNat, by omega⟩
    subst han
    have hcx := curX_at HS1.out HNW1.out
    rw [hcx] at hfit
    have hxl : an < x1.f.locals.length := by omega
    have hxO := ((HO.out).fs y1 (by rw [(HS1.out).fs]; simp)).fr x1 (by rw [(HS1.out).fr]; simp)
    obtain ⟨al9, cl9, ex, hcl, _⟩ := hxO.l.shape
    have hlr := hxO.l
    rw [ex] at hlr
    obtain ⟨gl, ol, rfl, _, hcells⟩ := hlr.cell (by omega)
    have z0 := (hcells an (by omega)).1
    rw [ints_get _ _ hxl] at z0
    obtain ⟨u, hu⟩ : ∃ u, x1.f.locals.getD an 0 = u := ⟨_, rfl⟩
    have hui : I64 u := by rw [← hu, List.getD_eq_getElem?_getD, List.getElem?_eq_getElem hxl]; exact hxO.i.2.2.1 _ (List.getElem_mem _)
    rw [hu] at z0
    have HWK : Hid (workG p P1.g 2 an = (0, pushG P1.g P1.g.now u)) := by unfold Hid workG; rw [if_neg (by decide), if_neg (by decide), if_pos rfl, Int.toNat_natCast, hcx, hu]
    obtain ⟨g', o', cap', hv', _, _, _, _, ⟨x2, _⟩, _, _⟩ := (HO.out).spot HS1.out
    rw [HYV1.out] at hv'
    simp only [Value.slice.injEq, Option.some.injEq, Addr.mk.injEq] at hv'
    obtain ⟨⟨rfl, rfl, -⟩, -, rfl⟩ := hv'
    rw [ex] at x2
    clear hxO hlr hcells hcx ex hu
    go_upto_region 10 with fail
    refine wp_region_rtt (fun w' => w'.cell? ⟨g, o + F.length * 4 + 2, none⟩ = some (.slice (some ⟨gl, ol, none⟩) x1.f.locals.length cl9) ∧ w'.cell? ⟨bx, 1, none⟩ = some (.int .i64 an) ∧ w'.cell? ⟨gl, ol + an, none⟩ = some (.int .i64 u)) 10 [0, 1, 2, 3, 4, 5, 6, 7, 8] [9, 10] (by kernel_rfl) (by kernel_rfl) (fun _ _ _ _ _ h => h) (by exact ⟨x2, hb1, z0⟩) ?_
    (try simp only [pickOps, List.filterMap_cons, List.filterMap_nil, List.getElem?_cons_zero, List.getElem?_cons_succ])
    repeat (
      refine readsQ_do (by rfl) ?_
      apply Exists.intro
      refine ⟨fun w' hw' => ?_, ?_⟩
      focus
        (try dsimp only at hw')
        go_split_ands
        go_simp
        (try with_reducible rfl)
      (try dsimp only [Act.put])
      (try simp only [List.setIfInBounds_toArray, List.set_cons_succ, List.set_cons_zero]))
    refine readsQ_nil ?_
    refine tailW_step ?_
    go_wp2_with fail
    refine nextW_go (by refine ⟨?_, ?_, ?_⟩ <;> simp [*]) ?_
    refine tailW_step ?_
    go_wp2_with (first
      | (go_at_call 159; (with_reducible refine (engPush_any (HEN.out.own.ext (by ((repeat (first | assumption | exact Ext.refl _ | (exact And.left (by assumption)) | refine Ext.alloc ?_ _ | refine Ext.drew ?_ | refine Ext.drewN ?_ _ | refine Ext.setCell ?_ (by simp) _ | refine Ext.setCell ?_ (by simp; omega) _ | refine Ext.trans ?_ (by assumption))); done))) (HEN.out.eng.ext (by ((repeat (first | assumption | exact Ext.refl _ | (exact And.left (by assumption)) | refine Ext.alloc ?_ _ | refine Ext.drew ?_ | refine Ext.drewN ?_ _ | refine Ext.setCell ?_ (by simp) _ | refine Ext.setCell ?_ (by simp; omega) _ | refine Ext.trans ?_ (by assumption))); done))) HT1.out HR1.out u hui (by simp)).mono ?_); rintro e w5 ⟨rfl, t5⟩))
    refine nextW_end ?_
    go_end0
    obtain ⟨e9, d9⟩ := done_ok HD2.out HWK.out C4.out BL4.out (Did.of (Turn.pre (show Ext w2 (w2.alloc (.cells #[.int .i64 u] 3)).drew by ((repeat (first | assumption | exact Ext.refl _ | (exact And.left (by assumption)) | refine Ext.alloc ?_ _ | refine Ext.drew ?_ | refine Ext.drewN ?_ _ | refine Ext.setCell ?_ (by simp) _ | refine Ext.setCell ?_ (by simp; omega) _ | refine Ext.trans ?_ (by assumption))); done)) t5))
    rw [e9]
    exact ⟨endS_zero.symm, d9⟩
  have T2 : (k == 2) = false := beq_false_of_ne h2
  by_cases h3 : k = 3
  · subst h3
    have hfit : 0 ≤ a ∧ a < (curX P1.g).locals.length ∧ 1 ≤ (curX P1.g).stack.length := by have h := HW2.out; unfold WorkFit at h; simpa using h
    obtain ⟨an, han⟩ : ∃ n : Nat, a = n := ⟨a.toNat, by omega⟩
    subst han
    have hcx := curX_at HS1.out HNW1.out
    have hlv : lastV P1.g = x1.f.stack.getD (x1.f.stack.length - 1) 0 := by unfold lastV; rw [hcx]
    have hLI := HO.out.lastI HT1.out hfit.2.2
    rw [hcx] at hfit
    rw [hlv] at hLI
    have hxl : an < x1.f.locals.length := by omega
    have hst1 : 1 ≤ x1.f.stack.length := hfit.2.2
    have hxO := ((HO.out).fs y1 (by rw [(HS1.out).fs]; simp)).fr x1 (by rw [(HS1.out).fr]; simp)
    obtain ⟨al9, cl9, ex, hcl, _⟩ := hxO.l.shape
    have hlr := hxO.l
    rw [ex] at hlr
    obtain ⟨gl, ol, rfl, _, hcells⟩ := hlr.cell (by omega)
    have z0 := hcells an (by omega)
    rw [ints_get _ _ hxl] at z0
    have HWK : Hid (workG p P1.g 3 an = (0, modTop (popG P1.g) P1.g.now fun x => { x with locals := x.locals.set an (lastV P1.g) })) := by unfold Hid workG; simp
    obtain ⟨g', o', cap', hv', _, _, _, _, ⟨x2, _⟩, _, _⟩ := (HO.out).spot HS1.out
    rw [HYV1.out] at hv'
    simp only [Value.slice.injEq, Option.some.injEq, Addr.mk.injEq] at hv'
    obtain ⟨⟨rfl, rfl, -⟩, -, rfl⟩ := hv'
    rw [ex] at x2
    have HEX := Lib.hid ex
    have HLV := Lib.hid hlv
    have HST1 := Lib.hid hst1
    have HCX := Lib.hid hcx
    have Z0 := Lib.hid z0
    have HSEP := Lib.hid ((HO.out).sep HS1.out)
    obtain ⟨z1, -⟩ := z0
    clear hxO hlr hcells hcx ex hlv hst1 hfit
    go_upto_region 12 with fail
    refine wp_region_rtt (fun w' => w'.cell? ⟨g, o + F.length * 4 + 2, none⟩ = some (.slice (some ⟨gl, ol, none⟩) x1.f.locals.length cl9) ∧ w'.cell? ⟨bx, 1, none⟩ = some (.int .i64 an)) 9 [0, 1, 2, 3, 4, 5, 6] [7, 8, 9] (by kernel_rfl) (by kernel_rfl) (fun _ _ _ _ _ h => h) (by exact ⟨x2, hb1⟩) ?_
    (try simp only [pickOps, List.filterMap_cons, List.filterMap_nil, List.getElem?_cons_zero, List.getElem?_cons_succ])
    repeat (
      refine readsQ_do (by rfl) ?_
      apply Exists.intro
      refine ⟨fun w' hw' => ?_, ?_⟩
      focus
        (try dsimp only at hw')
        go_split_ands
        go_simp
        (try with_reducible rfl)
      (try dsimp only [Act.put])
      (try simp only [List.setIfInBounds_toArray, List.set_cons_succ, List.set_cons_zero]))
    refine readsQ_nil ?_
    refine tailW_step ?_
    go_wp2_with (first
      | (go_at_call 161; (with_reducible refine (engOne_at (HEN.out.own.ext (Ext.refl _).drew) (HEN.out.eng.ext (Ext.refl _).drew) HS1.out HNW1.out HST1.out).mono ?_); rintro e w5 ⟨rfl, ⟨v2, o5, hb5⟩, c5⟩))
    have HO5 := Lib.hid o5
    have HC5 := Lib.hid c5
    have HB5 := Lib.hid hb5
    have hs5 : Spot (replTop P1 L y1 R F ⟨{ x1.f with stack := x1.f.stack.dropLast }, x1.vl, v2⟩) L { y1 with fr := F ++ [⟨{ x1.f with stack := x1.f.stack.dropLast }, x1.vl, v2⟩] } R F ⟨{ x1.f with stack := x1.f.stack.dropLast }, x1.vl, v2⟩ := ⟨rfl, rfl⟩
    obtain ⟨g5, o5', cap5, hv5, _, _, _, _, ⟨q2, _⟩, _, _⟩ := o5.spot hs5
    have hv5 : y1.vf = .slice (some ⟨g5, o5', none⟩) (F ++ [(⟨{ x1.f with stack := x1.f.stack.dropLast }, x1.vl, v2⟩ : PFrame)]).length cap5 := hv5
    rw [HYV1.out] at hv5
    simp only [Value.slice.injEq, Option.some.injEq, Addr.mk.injEq] at hv5
    obtain ⟨⟨rfl, rfl, -⟩, -, rfl⟩ := hv5
    have q2 : w5.cell? ⟨g, o + F.length * 4 + 2, none⟩ = some x1.vl := q2
    rw [HEX.out] at q2
    have hrl : rowBlock x1.vl = some gl := by rw [HEX.out]; exact rowBlock_some _ _ _ _ (by have := hxl; intro e; omega)
    have hgl5 : ¬ (rowBlock y1.vf = some gl ∨ rowBlock x1.vs = some gl) := by
      rintro (e | e)
      · exact HSEP.out.1 gl e (by unfold PFrame.bl; simp [hrl])
      · exact HSEP.out.2.1 gl hrl e
    obtain ⟨z5, z5'⟩ := (Cx.ext (W := w2) Z0.out (Ext.refl w2).drew).chg c5 hgl5
    have hb15 : w5.cell? ⟨bx, 1, none⟩ = some (.int .i64 an) := Chg.cell c5 (fun e => HBX.out (List.mem_cons_of_mem _ (HS1.out.bl (e.imp id (fun e => by unfold PFrame.bl; simp [e]))))) (by simpa using hb1)
    clear o5 c5 hb5
    refine nextW_go (by exact ⟨q2, hb15⟩) ?_
    refine tailW_step ?_
    go_wp2_with fail
    refine nextW_go (by exact ⟨q2, hb15⟩) ?_
    refine tailW_step ?_
    go_wp2_with fail
    refine nextW_end ?_
    go_end0
    obtain ⟨o9, c9⟩ := (HO5.out).setLocal hs5 HEX.out an hxl _ hLI
    have hpop : popG P1.g = (replTop P1 L y1 R F ⟨{ x1.f with stack := x1.f.stack.dropLast }, x1.vl, v2⟩).g := modTop_at HS1.out HNW1.out rfl
    have tt : Turn w5 (w5.setCell ⟨gl, ol + an, none⟩ (.int .i64 (x1.f.stack.getD (x1.f.stack.length - 1) 0))) B b (replTop P1 L y1 R F ⟨{ x1.f with stack := x1.f.stack.dropLast }, x1.vl, v2⟩) (modTop (popG P1.g) P1.g.now fun x => { x with locals := x.locals.set an (lastV P1.g) }) := by
      refine ⟨⟨_, o9, ?_, repl_bl hs5 (fun k hk => .inl hk)⟩, c9⟩
      rw [hpop, HLV.out]
      exact (modTop_at hs5 (show P1.g.now = _ from HNW1.out) rfl).symm
    obtain ⟨e9, d9⟩ := done_ok HD2.out HWK.out C4.out BL4.out (Did.of (Turn.pre (Ext.refl w2).drew (Turn.step (chg_spot HS1.out HC5.out) (repl_bl HS1.out (frame_bl (.inl HB5.out))) tt)))
    rw [e9]
    exact ⟨endS_zero.symm, d9⟩
  have T3 : (k == 3) = false := beq_false_of_ne h3
  by_cases h4 : k = 4
  · subst h4
    have HWK : Hid (workG p P1.g 4 a = (0, pushG (popG (popG P1.g)) P1.g.now (reckG 4 (lastV (popG P1.g)) (lastV P1.g)))) := by unfold Hid workG; simp
    have hst : 2 ≤ (curX P1.g).stack.length := by have h := HW2.out; unfold WorkFit at h; simpa using h
    have HST := Lib.hid hst
    go_wp2_with (first
      | (go_at_call 162; (with_reducible refine (engTwo_any 4 163 (fun _ _ => rfl) clos4 (fun _ _ => reck_i64 _ _ _) HEN.out HT1.out HR1.out HST.out).mono ?_); rintro e w5 ⟨rfl, t5⟩))
    go_end0
    obtain ⟨e9, d9⟩ := done_ok HD2.out HWK.out C4.out BL4.out (Did.of t5)
    rw [e9]
    exact ⟨endS_zero.symm, d9⟩
  have T4 : (k == 4) = false := beq_false_of_ne h4
  by_cases h5 : k = 5
  · subst h5
    have HWK : Hid (workG p P1.g 5 a = (0, pushG (popG (popG P1.g)) P1.g.now (reckG 5 (lastV (popG P1.g)) (lastV P1.g)))) := by unfold Hid workG; simp
    have hst : 2 ≤ (curX P1.g).stack.length := by have h := HW2.out; unfold WorkFit at h; simpa using h
    have HST := Lib.hid hst
    go_wp2_with (first
      | (go_at_call 162; (with_reducible refine (engTwo_any 5 164 (fun _ _ => rfl) clos5 (fun _ _ => reck_i64 _ _ _) HEN.out HT1.out HR1.out HST.out).mono ?_); rintro e w5 ⟨rfl, t5⟩))
    go_end0
    obtain ⟨e9, d9⟩ := done_ok HD2.out HWK.out C4.out BL4.out (Did.of t5)
    rw [e9]
    exact ⟨endS_zero.symm, d9⟩
  have T5 : (k == 5) = false := beq_false_of_ne h5
  by_cases h6 : k = 6
  · subst h6
    have HWK : Hid (workG p P1.g 6 a = (0, pushG (popG (popG P1.g)) P1.g.now (reckG 6 (lastV (popG P1.g)) (lastV P1.g)))) := by unfold Hid workG; simp
    have hst : 2 ≤ (curX P1.g).stack.length := by have h := HW2.out; unfold WorkFit at h; simpa using h
    have HST := Lib.hid hst
    go_wp2_with (first
      | (go_at_call 162; (with_reducible refine (engTwo_any 6 165 (fun _ _ => rfl) clos6 (fun _ _ => reck_i64 _ _ _) HEN.out HT1.out HR1.out HST.out).mono ?_); rintro e w5 ⟨rfl, t5⟩))
    go_end0
    obtain ⟨e9, d9⟩ := done_ok HD2.out HWK.out C4.out BL4.out (Did.of t5)
    rw [e9]
    exact ⟨endS_zero.symm, d9⟩
  have T6 : (k == 6) = false := beq_false_of_ne h6
  by_cases h7 : k = 7
  · subst h7
    have HWK : Hid (workG p P1.g 7 a = (0, pushG (popG (popG P1.g)) P1.g.now (reckG 7 (lastV (popG P1.g)) (lastV P1.g)))) := by unfold Hid workG; simp
    have hst : 2 ≤ (curX P1.g).stack.length := by have h := HW2.out; unfold WorkFit at h; simpa using h
    have HST := Lib.hid hst
    go_wp2_with (first
      | (go_at_call 162; (with_reducible refine (engTwo_any 7 166 (fun _ _ => rfl) clos7 (fun _ _ => reck_i64 _ _ _) HEN.out HT1.out HR1.out HST.out).mono ?_); rintro e w5 ⟨rfl, t5⟩))
    go_end0
    obtain ⟨e9, d9⟩ := done_ok HD2.out HWK.out C4.out BL4.out (Did.of t5)
    rw [e9]
    exact ⟨endS_zero.symm, d9⟩
  have T7 : (k == 7) = false := beq_false_of_ne h7
  by_cases h8 : k = 8
  · subst h8
    have HWK : Hid (workG p P1.g 8 a = (0, pushG (popG (popG P1.g)) P1.g.now (reckG 8 (lastV (popG P1.g)) (lastV P1.g)))) := by unfold Hid workG; simp
    have hst : 2 ≤ (curX P1.g).stack.length := by have h := HW2.out; unfold WorkFit at h; simpa using h
    have HST := Lib.hid hst
    go_wp2_with (first
      | (go_at_call 162; (with_reducible refine (engTwo_any 8 168 (fun _ _ => rfl) clos8 (fun _ _ => reck_i64 _ _ _) HEN.out HT1.out HR1.out HST.out).mono ?_); rintro e w5 ⟨rfl, t5⟩))
    go_end0
    obtain ⟨e9, d9⟩ := done_ok HD2.out HWK.out C4.out BL4.out (Did.of t5)
    rw [e9]
    exact ⟨endS_zero.symm, d9⟩
  have T8 : (k == 8) = false := beq_false_of_ne h8
  by_cases h9 : k = 9
  · subst h9
    have HWK : Hid (workG p P1.g 9 a = (0, setAtG P1.g a)) := by unfold Hid workG; simp
    obtain ⟨g', o', cap', hv', _, _, _, ⟨x2, x2'⟩, _, _, _⟩ := (HO.out).spot HS1.out
    rw [HYV1.out] at hv'
    simp only [Value.slice.injEq, Option.some.injEq, Addr.mk.injEq] at hv'
    obtain ⟨⟨rfl, rfl, -⟩, -, rfl⟩ := hv'
    go_wp2_with fail
    go_end0
    obtain ⟨e9, d9⟩ := done_ok HD2.out HWK.out C4.out BL4.out (Did.of (let h9 := (HO.out).setAt HS1.out HYV1.out a hq1; ⟨⟨_, h9.1, (modTop_at HS1.out HNW1.out rfl).symm, fun k hk => .inl (repl_same (x' := ⟨{ x1.f with at_ := a }, x1.vl, x1.vs⟩) HS1.out rfl k hk)⟩, h9.2⟩))
    rw [e9]
    exact ⟨endS_zero.symm, d9⟩
  have T9 : (k == 9) = false := beq_false_of_ne h9
  by_cases h10 : k = 10
  · subst h10
    have hst : 1 ≤ (curX P1.g).stack.length := by have h := HW2.out; unfold WorkFit at h; simpa using h
    have hcx := curX_at HS1.out HNW1.out
    have hlv : lastV P1.g = x1.f.stack.getD (x1.f.stack.length - 1) 0 := by unfold lastV; rw [hcx]
    rw [hcx] at hst
    have HWK : Hid (workG p P1.g 10 a = (0, if x1.f.stack.getD (x1.f.stack.length - 1) 0 = 0 then setAtG (popG P1.g) a else popG P1.g)) := by unfold Hid workG; rw [hlv]; simp
    have HST1 := Lib.hid hst
    clear hst hcx hlv
    generalize hu : x1.f.stack.getD (x1.f.stack.length - 1) 0 = u at *
    have HU := Lib.hid hu
    clear hu
    go_upto_if 101 with (first
      | (go_at_call 161; (with_reducible refine (engOne_at HEN.out.own HEN.out.eng HS1.out HNW1.out HST1.out).mono ?_); rintro e w5 ⟨rfl, ⟨v2, o5, hb5⟩, c5⟩; rw [HU.out]))
    have HO5 := Lib.hid o5
    have HC5 := Lib.hid c5
    have HB5 := Lib.hid hb5
    have hs5 : Spot (replTop P1 L y1 R F ⟨{ x1.f with stack := x1.f.stack.dropLast }, x1.vl, v2⟩) L { y1 with fr := F ++ [⟨{ x1.f with stack := x1.f.stack.dropLast }, x1.vl, v2⟩] } R F ⟨{ x1.f with stack := x1.f.stack.dropLast }, x1.vl, v2⟩ := ⟨rfl, rfl⟩
    have HS5 := Lib.hid hs5
    have hpop : popG P1.g = (replTop P1 L y1 R F ⟨{ x1.f with stack := x1.f.stack.dropLast }, x1.vl, v2⟩).g := modTop_at HS1.out HNW1.out rfl
    have HPOP := Lib.hid hpop
    obtain ⟨g5, o5', cap5, hv5, _, _, _, ⟨q1, q1'⟩, _, _, _⟩ := o5.spot hs5
    have hv5 : y1.vf = .slice (some ⟨g5, o5', none⟩) (F ++ [(⟨{ x1.f with stack := x1.f.stack.dropLast }, x1.vl, v2⟩ : PFrame)]).length cap5 := hv5
    rw [HYV1.out] at hv5
    simp only [Value.slice.injEq, Option.some.injEq, Addr.mk.injEq] at hv5
    obtain ⟨⟨rfl, rfl, -⟩, -, rfl⟩ := hv5
    have hb15 : w5.cell? ⟨bx, 1, none⟩ = some (.int .i64 a) := Chg.cell c5 (fun e => HBX.out (List.mem_cons_of_mem _ (HS1.out.bl (e.imp id (fun e => by unfold PFrame.bl; simp [e]))))) hb1
    clear o5 c5 hb5 hs5 hpop
    by_cases hu : u = 0
    · have TU : (u == 0) = true := by simpa using hu
      have TU' : decide (u = 0) = true := decide_eq_true hu
      have hwk := HWK.out
      rw [if_pos hu] at hwk
      have HWK2 := Lib.hid hwk
      clear hwk hu
      go_wp2_with fail
      go_end0
      obtain ⟨o9, c9⟩ := (HO5.out).setAt HS5.out (show PFiber.vf { y1 with fr := F ++ [⟨{ x1.f with stack := x1.f.stack.dropLast }, x1.vl, v2⟩] } = .slice (some ⟨g, o, none⟩) (F ++ [x1]).length cap from HYV1.out) a hq1
      have tt : Turn w5 (w5.setCell ⟨g, o + F.length * 4 + 1, none⟩ (.int .i64 a)) B b (replTop P1 L y1 R F ⟨{ x1.f with stack := x1.f.stack.dropLast }, x1.vl, v2⟩) (setAtG (popG P1.g) a) := by
        refine ⟨⟨_, o9, ?_, repl_bl HS5.out (fun k hk => .inl hk)⟩, c9⟩
        rw [HPOP.out]
        exact (modTop_at HS5.out (show P1.g.now = _ from HNW1.out) rfl).symm
      obtain ⟨e9, d9⟩ := done_ok HD2.out HWK2.out C4.out BL4.out (Did.of (Turn.step (chg_spot HS1.out HC5.out) (repl_bl HS1.out (frame_bl (.inl HB5.out))) tt))
      rw [e9]
      exact ⟨endS_zero.symm, d9⟩
    · have TU : (u == 0) = false := beq_false_of_ne hu
      have TU' : decide (u = 0) = false := decide_eq_false hu
      have hwk := HWK.out
      rw [if_neg hu] at hwk
      have HWK2 := Lib.hid hwk
      clear hwk hu
      go_wp2_with fail
      go_end0
      obtain ⟨e9, d9⟩ := done_ok HD2.out HWK2.out C4.out BL4.out (Did.of ⟨⟨_, HO5.out, HPOP.out.symm, repl_bl HS1.out (frame_bl (.inl HB5.out))⟩, chg_spot HS1.out HC5.out⟩)
      rw [e9]
      exact ⟨endS_zero.symm, d9⟩
  have T10 : (k == 10) = false := beq_false_of_ne h10
  have hk11 : 11 ≤ k ∧ k ≤ 16 := by have := HKK.out; omega
  obtain ⟨r, hwr⟩ : ∃ r, workG p P1.g k a = r := ⟨_, rfl⟩
  have HWR := Lib.hid hwr
  have hdr : ∀ w9, Did w2 w9 B b P1 r → Did w w9 B b P (doneG p P.g) := fun w9 d => (done_ok HD2.out HWR.out C4.out BL4.out d).2
  have hd1 : (doneG p P.g).1 = r.1 := by rw [HD2.out, HWR.out]
  have HDR := Lib.hid hdr
  have HD1 := Lib.hid hd1
  clear hwr hdr hd1
  obtain ⟨r1, hr1⟩ : ∃ r1, r.1 = r1 := ⟨_, rfl⟩
  have HRR := Lib.hid hr1
  clear hr1
  by_cases hz : r1 = 0
  · have HZ : Hid (endS r1 = .returned (.tuple #[])) := by unfold Hid endS; rw [if_pos hz]
    clear hz
    go_wp2_with (first
      | (go_at_call 169; (with_reducible refine (engFar_any k a HEN.out HPL.out HT1.out HR1.out HW2.out HFF2.out hk11).mono ?_); rintro e w5 ⟨he, d5⟩; rw [HWR.out, HRR.out, HZ.out] at he; rw [HWR.out] at d5; subst he))
    go_end0
    rw [HD1.out, HRR.out, HZ.out]
    exact ⟨rfl, HDR.out _ d5⟩
  · have HZ : Hid (endS r1 = .panicked (refusalS r1)) := by unfold Hid endS; rw [if_neg hz]
    clear hz
    go_wp2_with (first
      | (go_at_call 169; (with_reducible refine (engFar_any k a HEN.out HPL.out HT1.out HR1.out HW2.out HFF2.out hk11).mono ?_); rintro e w5 ⟨he, d5⟩; rw [HWR.out, HRR.out, HZ.out] at he; rw [HWR.out] at d5; subst he))
    rw [HD1.out, HRR.out, HZ.out]
    exact ⟨rfl, rfl, HDR.out _ d5⟩
end Go.Proofs.YtpcjkfppacnkgaaGreatDoor
end
