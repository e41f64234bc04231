/- Merged texts: contracts and plain facts, one part behind another; each part begins with what it says. -/
import Derived.Test.YtgahbngbpfilgaaGreatGHAH
import Derived.Test.YtgahbngbpfilgaaGreatGHAJ
import Derived.Test.YtgahbngbpfilgaaGreatGHAK
section
set_option maxHeartbeats 4000000
set_option maxRecDepth 100000
namespace Go.Proofs.YtgahbngbpfilgaaGreat
open Go Go.RowKit
theorem OwnS.ge {W : World} {B b : Nat} {P : PState} (h : OwnS W B b P) : ∀ g ∈ b :: P.bl, B ≤ g := by
 intro g hg
 rcases List.mem_cons.1 hg with rfl | hg
 ·exact h.le
 ·unfold PState.bl at hg
  rcases List.mem_append.1 hg with h1 | h1
  ·rcases List.mem_append.1 h1 with h2 | h2
   ·exact h.row.le g (by simpa using h2)
   ·exact h.out.le g (by simpa using h2)
  ·obtain ⟨y, hy, h2⟩ := List.mem_flatMap.1 h1
   unfold PFiber.bl at h2
   rcases List.mem_append.1 h2 with h3 | h3
   ·exact (h.fs y hy).row.le g (by simpa using h3)
   ·obtain ⟨x, hx, h4⟩ := List.mem_flatMap.1 h3
    unfold PFrame.bl at h4
    rcases List.mem_append.1 h4 with h5 | h5
    ·exact ((h.fs y hy).fr x hx).l.le g (by simpa using h5)
    ·exact ((h.fs y hy).fr x hx).s.le g (by simpa using h5)
theorem curF_frames (s : GState) (h : HasTop s s.now) (g : GFrame → GFrame) : (curF (modTop s s.now g)).frames.length = (curF s).frames.length := by
 unfold modTop
 rw [curF_mod s ⟨h.1, h.2.1⟩]
 simp
theorem FewS.cur {s : GState} (h : FewS s) (ht : HasTop s s.now) : (curF s).frames.length < 1000 := by
 have hm : curF s ∈ s.fibers := by
  unfold curF
  rw [List.getD_eq_getElem?_getD, List.getElem?_eq_getElem (by have := ht.1; have := ht.2.1; omega)]
  exact List.getElem_mem _
 have := (h.2.2 _ hm).1
 omega
theorem repl_same {P : PState} {L R : List PFiber} {y : PFiber} {F : List PFrame} {x x' : PFrame} (hs : Spot P L y R F x) (h : x'.bl = x.bl) : ∀ g ∈ (replTop P L y R F x').bl, g ∈ P.bl := by
 intro g hg
 rcases repl_bl (n := g + 1) hs (fun k hk => .inl (h ▸ hk)) g hg with h1 | h1
 ·exact h1
 ·omega
theorem done_ok {p : List GFunc} {w W4 w' : World} {B b : Nat} {P P1 : PState} {k a : Int} {r : Int × GState} (hD : doneG p P.g = workG p P1.g k a) (hw : workG p P1.g k a = r) (c : Chg (· ∈ b :: P.bl) w W4) (bl : ∀ k ∈ P1.bl, k ∈ P.bl) (d : Did W4 w' B b P1 r) :
  (doneG p P.g).1 = r.1 ∧ Did w w' B b P (doneG p P.g) := by
 rw [hD, hw]
 exact ⟨rfl, Did.step c (fun k hk => .inl (bl k hk)) d⟩
theorem reck_i64 (k a b : Int) : I64 (reckG k a b) := by
 have hw : ∀ n, I64 (wrap64 n) := fun n => by unfold I64 wrap64; omega
 have ht : ∀ t, I64 (truthG t) := fun t => by cases t <;> (unfold I64 truthG; decide)
 unfold reckG
 split
 ·exact hw _
 ·split
  ·exact hw _
  ·split
   ·exact hw _
   ·split <;> exact ht _
theorem not_grown {P P5 : PState} {b bx n : Nat} (h : bx ∉ b :: P.bl) (hs : ∀ g ∈ P5.bl, g ∈ P.bl ∨ n ≤ g) (hlt : bx < n) : bx ∉ b :: P5.bl := fun hm => by
 rcases List.mem_cons.1 hm with rfl | h1
 ·exact h List.mem_cons_self
 ·rcases hs bx h1 with h2 | h2
  ·exact h (List.mem_cons_of_mem _ h2)
  ·omega
theorem cells3_ext {w w' : World} {a b c : Addr} {x y z : Value} (h : w.cell? a = some x ∧ w.cell? b = some y ∧ w.cell? c = some z) (he : Ext w w') : w'.cell? a = some x ∧ w'.cell? b = some y ∧ w'.cell? c = some z :=
 ⟨(Ext.keep he a (by rw [h.1]; rfl)).trans h.1, (Ext.keep he b (by rw [h.2.1]; rfl)).trans h.2.1, (Ext.keep he c (by rw [h.2.2]; rfl)).trans h.2.2⟩
theorem add_fin {w5 w6 Wv : World} {B b : Nat} {P : PState} {an : Int} {N : Nat} {v1 : Value} (h : OwnS w5 B b P) (hE : Ext w5 w6) (hrow : RowAt w6 w5.heap.size 1 (.slice (some ⟨w5.heap.size, 0, none⟩) N N) N (ints (List.replicate N 0))) (tf tb : TypeId)
  (hRV : NewRow ((w6.alloc (.cells #[.int .i64 an, .int .i64 0, .slice (some ⟨w5.heap.size, 0, none⟩) N N, .slice none 0 0] tf)).alloc (.cells #[.slice (some ⟨w6.heap.size, 0, none⟩) 1 1, .int .i64 (-1)] tb)) Wv B 2 P.vfs v1 (P.fs.length + 1) (P.fs.flatMap fiberF ++ [.slice (some ⟨w6.heap.size, 0, none⟩) 1 1, .int .i64 (-1)]))
  (hI : I64 an) (hN : N ≤ 1000) (hl : P.fs.length < 1000) :
  Turn w5 (Wv.setCell ⟨b, 0, none⟩ v1) B b P { P.g with fibers := P.g.fibers ++ [⟨[⟨an, 0, List.replicate N 0, []⟩], -1⟩] } := by
 obtain ⟨r1, r2, r3⟩ := hRV
 let X : PFrame := ⟨⟨an, 0, List.replicate N 0, []⟩, .slice (some ⟨w5.heap.size, 0, none⟩) N N, .slice none 0 0⟩
 let Y : PFiber := ⟨[X], -1, .slice (some ⟨w6.heap.size, 0, none⟩) 1 1⟩
 have hBw : B ≤ w5.heap.size := Nat.le_trans h.le (Nat.le_of_lt h.c0.lt)
 have hEm : Ext w5 ((w6.alloc (.cells #[.int .i64 an, .int .i64 0, .slice (some ⟨w5.heap.size, 0, none⟩) N N, .slice none 0 0] tf)).alloc (.cells #[.slice (some ⟨w6.heap.size, 0, none⟩) 1 1, .int .i64 (-1)] tb)) := (hE.alloc _).alloc _
 have hE6 : Ext w6 ((w6.alloc (.cells #[.int .i64 an, .int .i64 0, .slice (some ⟨w5.heap.size, 0, none⟩) N N, .slice none 0 0] tf)).alloc (.cells #[.slice (some ⟨w6.heap.size, 0, none⟩) 1 1, .int .i64 (-1)] tb)) := ((Ext.refl _).alloc _).alloc _
 have hold : ∀ k, rowBlock P.vfs = some k → k < w5.heap.size := fun k hk => h.lt k (List.mem_cons_of_mem _ (PState.mem_vfs hk))
 have h56 := hE.size
 have hvb : ∀ k, rowBlock (.slice (some ⟨w5.heap.size, 0, none⟩) N N) = some k → k = w5.heap.size ∧ w5.heap.size < w6.heap.size := fun k hk => by
  by_cases h0 : N = 0
  ·subst h0; simp [rowBlock] at hk
  ·have h1 := hrow.lt2 (by decide) k hk
   rw [rowBlock_some _ _ _ _ h0] at hk
   cases hk
   exact ⟨rfl, h1⟩
 have hXO : FrameO Wv B X := by
  refine ⟨⟨hI, I64.zero, fun k hk => ?_, fun k hk => by cases hk⟩, ?_, RowAt.nil _ _ _ _, ⟨by show (List.replicate N (0 : Int)).length ≤ 1000; rw [List.length_replicate]; exact hN, by show 0 ≤ 1000; omega⟩⟩
  ·rw [List.eq_of_mem_replicate hk]; exact I64.zero
  ·show RowAt Wv B 1 (.slice (some ⟨w5.heap.size, 0, none⟩) N N) (List.replicate N (0 : Int)).length (ints (List.replicate N 0))
   rw [List.length_replicate]
   refine ((hrow.mono hBw).ext hE6 (by decide)).chg r2 (fun k hk e => ?_) (by decide)
   have := (hvb k hk).1
   have := hold k e
   omega
 have hYO : FiberO Wv B Y := by
  refine ⟨I64.neg1, ?_, fun u hu => ?_, by show 1 ≤ 1000; omega⟩
  ·have hm := RowAt.made w6 #[.int .i64 an, .int .i64 0, .slice (some ⟨w5.heap.size, 0, none⟩) N N, .slice none 0 0] tf 4 1 B (by omega) (by unfold maxLen; omega) rfl
   refine (hm.ext ((Ext.refl _).alloc _) (by decide)).chg r2 (fun k hk e => ?_) (by decide)
   have hk' : w6.heap.size = k := by simpa [rowBlock] using hk
   have := hold k e
   omega
  ·rw [List.mem_singleton.1 hu]; exact hXO
 have hms : ((w6.alloc (.cells #[.int .i64 an, .int .i64 0, .slice (some ⟨w5.heap.size, 0, none⟩) N N, .slice none 0 0] tf)).alloc (.cells #[.slice (some ⟨w6.heap.size, 0, none⟩) 1 1, .int .i64 (-1)] tb)).heap.size = w6.heap.size + 2 := by simp
 have hv1 : rowBlock v1 = rowBlock P.vfs ∨ ∀ k, rowBlock v1 = some k → w6.heap.size + 2 ≤ k := r3.imp id fun e k hk => by have := e k hk; omega
 have hYbl : ∀ k ∈ Y.bl, k = w6.heap.size ∨ (k = w5.heap.size ∧ w5.heap.size < w6.heap.size) := fun k hk => by
  unfold PFiber.bl at hk
  simp only [Y, List.flatMap_cons, List.flatMap_nil, List.append_nil, List.mem_append] at hk
  rcases hk with h1 | h1
  ·left; simpa [rowBlock, eq_comm] using h1
  ·unfold PFrame.bl at h1
   rcases List.mem_append.1 h1 with h2 | h2
   ·exact .inr (hvb k (by simpa using h2))
   ·simp [X, rowBlock] at h2
 obtain ⟨o9, c9⟩ := h.addFiber (y := Y) (v1 := v1) ((Chg.of_ext hEm).trans r2) (by
   rw [List.length_append, List.length_singleton, List.flatMap_append]; exact r1) hYO hl (hv1.imp id fun e k hk => by have := e k hk; omega) (by
   unfold PFiber.bl
   simp only [Y, List.flatMap_cons, List.flatMap_nil, List.append_nil]
   unfold PFrame.bl
   rw [show rowBlock X.vs = none from rfl, show rowBlock (.slice (some ⟨w6.heap.size, 0, none⟩) 1 1) = some w6.heap.size from rowBlock_some _ _ _ _ (by decide)]
   cases hr : rowBlock X.vl with
   | none => simp
   | some k =>
    have h3 := hvb k hr
    have h4 : w6.heap.size ≠ k := by omega
    simp [h4]) (fun k hk => by
   refine ⟨by rcases hYbl k hk with h1 | h1 <;> omega, fun e => ?_⟩
   rcases hv1 with h2 | h2
   ·have := hold k (h2 ▸ e)
    rcases hYbl k hk with h1 | h1 <;> omega
   ·have := h2 k e
    rcases hYbl k hk with h1 | h1 <;> omega)
 refine ⟨⟨_, o9, ?_, fun k hk => ?_⟩, c9⟩
 ·unfold PState.g
  simp [Y, X, PFiber.g]
 ·unfold PState.bl at hk
  simp only [List.flatMap_append, List.mem_append] at hk
  rcases hk with (h3 | h3) | h3 | h3
  ·have h4 : rowBlock v1 = some k := by simpa using h3
   rcases hv1 with h5 | h5
   ·exact .inl (PState.mem_vfs (h5 ▸ h4))
   ·have := h5 k h4
    exact .inr (by omega)
  ·exact .inl (PState.mem_vo (by simpa using h3))
  ·obtain ⟨z, hz, h4⟩ := List.mem_flatMap.1 h3
   exact .inl (PState.mem_fs hz h4)
  ·have h4 : k ∈ Y.bl := by simpa using h3
   exact .inr (by rcases hYbl k h4 with h1 | h1 <;> omega)
theorem done_any (p : List GFunc) (v : Value) {P : PState} {w : World} {B b : Nat} (hp : Funcs w (· < B) v p) (h : OwnS w B b P) (hf : FewS P.g) (hfit : OpFit p P.g) :
    Calls Tryz.prog 60 #[v, .pointer (some ⟨b, 0, none⟩)] w fun e w' => e = .returned (.int .i64 (doneG p P.g).1) ∧ Did w w' B b P (doneG p P.g) := by
  obtain ⟨⟨ht, hn0, hn1, ha0, ha1⟩, hwf⟩ := hfit
  obtain ⟨L, y, R, F, x, hs, hnw⟩ := hasSpot ht
  have hnw : P.now = L.length := hnw
  have hcx := curX_at hs hnw
  rw [hcx] at hn0 hn1 ha0 ha1 hwf
  obtain ⟨fn, hfn⟩ : ∃ n : Nat, x.f.func = n := ⟨x.f.func.toNat, by omega⟩
  obtain ⟨at', hat⟩ : ∃ n : Nat, x.f.at_ = n := ⟨x.f.at_.toNat, by omega⟩
  have hfl : fn < p.length := by omega
  have hF : funcOf p x.f.func = p[fn] := by rw [hfn]; unfold funcOf; simp [List.getD, List.getElem?_eq_getElem hfl]
  rw [hF] at ha1
  have hal : at' < p[fn].code.length := by omega
  have hop : opAt p x.f = p[fn].code[at'] := by unfold opAt; rw [hF, hat]; simp [List.getD, List.getElem?_eq_getElem hal]
  rw [hop] at hwf
  have hD : doneG p P.g = workG p (advG P.g) p[fn].code[at'].kind p[fn].code[at'].a := by unfold doneG; rw [hcx, hop]
  obtain ⟨bp, op, capp, rfl, hcapp, hby, _, _, vc, hcv, hops⟩ := hp.get hfl
  obtain ⟨bc, oc, capc, rfl, hcapc, hbyc, ⟨_, hk0, hk1⟩, _, hq0, hq1⟩ := hops.get hal
  obtain ⟨k, hk⟩ : ∃ k, p[fn].code[at'].kind = k := ⟨_, rfl⟩
  obtain ⟨a, ha⟩ : ∃ a, p[fn].code[at'].a = a := ⟨_, rfl⟩
  obtain ⟨M, hM⟩ : ∃ M, p[fn].code.length = M := ⟨_, rfl⟩
  rw [hk] at hk0 hk1 hwf hD
  rw [ha] at hq0 hq1 hwf hD
  rw [hM] at hal hcv hcapc hbyc
  obtain ⟨g, o, cap, hyv, hcap, hmax, ⟨f0, _⟩, ⟨f1, f1'⟩, _, _, hbl⟩ := h.spot hs
  rw [hfn] at f0
  rw [hat] at f1
  have KA : IntKind.i64.wrap ((at' : Int) + 1) = (at' : Int) + 1 := IntWalk.i64_in _ (by omega)
  have hlen2 : P.fs.length ≤ 1000 := h.few.1
  have HP := Lib.hid hp
  have H := Lib.hid h
  have HS := Lib.hid hs
  have HNW := Lib.hid hnw
  have HYV := Lib.hid hyv
  have HD := Lib.hid hD
  have HF := Lib.hid hf
  have HT := Lib.hid ht
  have HWF := Lib.hid hwf
  have HBL := Lib.hid hbl
  have HAT := Lib.hid hat
  obtain ⟨i0, hi0, hz0, hz1, hz2⟩ := info_parts infoI
  obtain ⟨i2, hi2, hz6, hz7, hz8⟩ := info_parts infoFb
  have RA := alloc_keep
  obtain ⟨c1, -⟩ := h.c1
  rw [hnw] at c1
  clear hp h hs hnw hyv hD hf ht hwf hcx hop hF hbl hn0 hn1 ha0 ha1 hM hk ha hops hfn hat
  go_enter Tryz.func60, Tryz.ntmps60
  go_upto_region 2 with (first
    | (go_at_call 91; (with_reducible refine (top_any H.out HS.out HYV.out L.length rfl).mono ?_); rintro e w2 ⟨rfl, hx2⟩))
  have HX2 := Lib.hid hx2
  have f0 := Ext.cell hx2 f0
  have f1w := f1
  have f1 := Ext.cell hx2 f1
  have hcv := Ext.cell hx2 hcv
  have hk0 := Ext.cell hx2 hk0
  have hq0 := Ext.cell hx2 hq0
  clear hx2
  have f1'2 := (Cx.ext (W' := w2) ⟨f1w, f1'⟩ HX2.out).2
  refine wp_region_rt (fun w' => w'.cell? ⟨g, o + F.length * 4, none⟩ = some (.int .i64 fn) ∧ w'.cell? ⟨g, o + F.length * 4 + 1, none⟩ = some (.int .i64 at') ∧ w'.cell? ⟨bp, op + fn * 3 + 2, none⟩ = some (.slice (some ⟨bc, oc, none⟩) M capc) ∧ w'.cell? ⟨bc, oc + at' * 2, none⟩ = some (.int .i64 k) ∧ w'.cell? ⟨bc, oc + at' * 2 + 1, none⟩ = some (.int .i64 a))
    15 [0, 1, 2, 3, 4, 5, 6, 7, 8, 9, 10, 11, 12, 13] [14, 15] (by kernel_rfl) (by kernel_rfl) (fun _ _ _ _ _ h => h) ⟨f0, f1, hcv, hk0, hq0⟩ ?_
  (try simp only [pickOps, List.filterMap_cons, List.filterMap_nil, List.getElem?_cons_zero, List.getElem?_cons_succ])
  repeat (
    refine readsQ_do (by rfl) ?_
    apply Exists.intro
    refine ⟨fun w' hw' => ?_, ?_⟩
    focus
      (try dsimp only at hw')
      go_split_ands
      go_simp
      (try with_reducible rfl)
    (try dsimp only [Act.put])
    (try simp only [List.setIfInBounds_toArray, List.set_cons_succ, List.set_cons_zero]))
  refine readsQ_nil ?_
  refine tailW_step ?_
  go_wp2_with fail
  refine nextW_go (by refine ⟨?_, ?_, ?_, ?_, ?_⟩ <;> simp [*]) ?_
  refine tailW_step ?_
  go_wp2_with fail
  refine nextW_end ?_
  have f1b := (Cx.ext (W := w2) ⟨f1, f1'2⟩ ((Ext.refl w2).alloc (.cells #[.int .i64 k, .int .i64 a] 59))).2
  go_upto_region 4 with fail
  obtain ⟨W4, hW4⟩ : ∃ W4, W4 = ((w2.alloc (.cells #[.int .i64 k, .int .i64 a] 59)).setCell ⟨g, o + F.length * 4 + 1, none⟩ (.int .i64 ((at' : Int) + 1))).drew := ⟨_, rfl⟩
  rw [← hW4]
  obtain ⟨P1, y1, x1, HO, HS1, HYV1, HNW1, HG1, C4, BL4, HXF1⟩ : ∃ P1 y1 x1, Hid (OwnS W4 B b P1) ∧ Hid (Spot P1 L y1 R F x1) ∧ Hid (y1.vf = .slice (some ⟨g, o, none⟩) (F ++ [x1]).length cap) ∧ Hid (P1.now = L.length) ∧ Hid (P1.g = advG P.g) ∧ Hid (Chg (· ∈ b :: P.bl) w W4) ∧ Hid (∀ k ∈ P1.bl, k ∈ P.bl) ∧ Hid (x1.f.locals = x.f.locals ∧ x1.f.stack = x.f.stack) := by
    have h9 := ((H.out).ext (HX2.out.alloc (.cells #[.int .i64 k, .int .i64 a] 59))).setAt HS.out HYV.out ((at' : Int) + 1) (by unfold I64; omega)
    refine ⟨replTop P L y R F ⟨{ x.f with at_ := (at' : Int) + 1 }, x.vl, x.vs⟩, { y with fr := F ++ [⟨{ x.f with at_ := (at' : Int) + 1 }, x.vl, x.vs⟩] }, ⟨{ x.f with at_ := (at' : Int) + 1 }, x.vl, x.vs⟩, ?_, ⟨rfl, rfl⟩, by rw [List.length_append]; have := HYV.out; rw [List.length_append] at this; exact this, HNW.out, ?_, ?_, ?_, ⟨rfl, rfl⟩⟩
    · rw [hW4]; exact h9.1.ext (Ext.refl _).drew
    · unfold Hid advG
      refine (modTop_at HS.out HNW.out ?_).symm
      rw [HAT.out]
    · rw [hW4]
      exact ((Chg.of_ext (HX2.out.alloc _)).trans h9.2).drew
    · intro k hk
      exact repl_same (x' := ⟨{ x.f with at_ := (at' : Int) + 1 }, x.vl, x.vs⟩) HS.out rfl k hk
  have hbx : w2.heap.size ∉ b :: P1.bl := fun hm => by
    have h1 : w2.heap.size ∈ b :: P.bl := by
      rcases List.mem_cons.1 hm with e | e
      · rw [e]; exact List.mem_cons_self
      · exact List.mem_cons_of_mem _ (BL4.out _ e)
    have := (H.out).lt _ h1
    have := HX2.out.size
    omega
  have hcap0 : cap ≠ 0 := by simp at hcap; omega
  have hgb2 : w2.heap.size ≠ g := fun e => hbx (List.mem_cons_of_mem _ ((HS1.out).bl (.inl (by rw [HYV1.out, e]; exact rowBlock_some _ _ _ _ hcap0))))
  have hb0 : Cx W4 w2.heap.size 0 (.int .i64 k) := by rw [hW4]; exact (((Cx.new w2 [.int .i64 k, .int .i64 a] _ (j := 0) rfl).other (.inl hgb2) _).ext (Ext.refl _).drew)
  have hb1 : Cx W4 w2.heap.size 1 (.int .i64 a) := by rw [hW4]; exact (((Cx.new w2 [.int .i64 k, .int .i64 a] _ (j := 1) rfl).other (.inl hgb2) _).ext (Ext.refl _).drew)
  have HBX := Lib.hid hbx
  have HB1 := Lib.hid hb1
  obtain ⟨hb0, -⟩ := hb0
  obtain ⟨hb1, -⟩ := hb1
  generalize w2.heap.size = bx at *
  have hD2 := HD.out
  rw [← HG1.out] at hD2
  have HD2 := Lib.hid hD2
  have hw2 := HWF.out
  rw [← HG1.out] at hw2
  have HW2 := Lib.hid hw2
  have HT1 : Hid (HasTop P1.g P1.g.now) := by unfold Hid; rw [HG1.out]; exact (HT.out).top _
  have HTL : Hid (HasTop P1.g (L.length : Int)) := by unfold Hid; rw [← HNW1.out]; exact HT1.out
  have HR1 : Hid (Room P1.g) := by unfold Hid; rw [HG1.out]; exact (HF.out).room.top _ (fun _ => Nat.le_refl _)
  have HOUT : Hid (P1.g.out.length < 1000) := by unfold Hid; rw [HG1.out]; have := (HF.out).2.1; show P.g.out.length < 1000; omega
  have HCUR : Hid ((curF P1.g).frames.length < 1000) := by unfold Hid; rw [HG1.out]; unfold advG; rw [curF_frames _ HT.out]; exact (HF.out).cur HT.out
  have HPL : Hid (Funcs W4 (· < B) (.slice (some ⟨bp, op, none⟩) p.length capp) p) := Funcs.stays ((C4.out).stays (fun k hk hm => by have := (H.out).ge k hm; omega)) HP.out
  have hcb := (HO.out).c1.1
  rw [HNW1.out] at hcb
  clear hW4 hbx hgb2 f0 f1 f1' f1'2 f1b f1w hcv hk0 hq0 c1 hD2 hw2 HX2 HD HWF hcap hmax
  rename World => w2
  by_cases h0 : k = 0
  · subst h0
    have HWK : Hid (workG p P1.g 0 a = (0, pushG P1.g (L.length : Int) a)) := by unfold Hid workG; rw [if_pos rfl, show P1.g.now = (L.length : Int) from HNW1.out]
    go_upto_region 9 with fail
    refine wp_region_ext_tail 7 (by kernel_rfl) (by kernel_rfl) ?_
    simp only [List.take_succ_cons, List.take_zero, List.drop_succ_cons, List.drop_zero]
    repeat (first
      | go_big_quiet_skip
      | (go_big_quiet_want
         unfold Oper.quiet
         apply Exists.intro
         refine ⟨fun w' hw' => ?_, ?_⟩
         focus
           have hcq := Ext.keep hw'
           go_simp
           first
             | with_reducible rfl
         (try dsimp only [Act.put])
         (try simp only [List.setIfInBounds_toArray, List.set_cons_succ, List.set_cons_zero])
         go_big_quiet_on))
    refine wpQuiet_nil ?_
    intro wq hq
    go_wp2_with (first
      | (go_at_call 92; (with_reducible refine (push_any ((HO.out).ext (by ((repeat (first | assumption | exact Ext.refl _ | (exact And.left (by assumption)) | refine Ext.alloc ?_ _ | refine Ext.drew ?_ | refine Ext.drewN ?_ _ | refine Ext.setCell ?_ (by simp) _ | refine Ext.setCell ?_ (by simp; omega) _ | refine Ext.trans ?_ (by assumption))); done))) (L.length : Int) HTL.out HR1.out a hq1).mono ?_); rintro e w5 ⟨rfl, t5⟩))
    go_ret
    obtain ⟨e9, d9⟩ := done_ok HD2.out HWK.out C4.out BL4.out (Did.of (Turn.pre (by ((repeat (first | assumption | exact Ext.refl _ | (exact And.left (by assumption)) | refine Ext.alloc ?_ _ | refine Ext.drew ?_ | refine Ext.drewN ?_ _ | refine Ext.setCell ?_ (by simp) _ | refine Ext.setCell ?_ (by simp; omega) _ | refine Ext.trans ?_ (by assumption))); done)) t5))
    rw [e9]
    exact ⟨rfl, d9⟩
  have T0 : (k == 0) = false := beq_false_of_ne h0
  by_cases h1 : k = 1
  · subst h1
    have HWK : Hid (workG p P1.g 1 a = (0, popG P1.g)) := by unfold Hid workG; simp
    have hst : 1 ≤ (curX P1.g).stack.length := by have h := HW2.out; unfold WorkFit at h; simpa using h
    have HST := Lib.hid hst
    go_wp2_with (first
      | (go_at_call 93; (with_reducible refine (pull_any HO.out HT1.out HST.out).mono ?_); rintro e w5 ⟨rfl, t5⟩))
    go_ret
    obtain ⟨e9, d9⟩ := done_ok HD2.out HWK.out C4.out BL4.out (Did.of t5)
    rw [e9]
    exact ⟨rfl, d9⟩
  have T1 : (k == 1) = false := beq_false_of_ne h1
  by_cases h2 : k = 2
  · subst h2
    have hfit : 0 ≤ a ∧ a < (curX P1.g).locals.length := by have h := HW2.out; unfold WorkFit at h; simpa using h
    obtain ⟨an, han⟩ : ∃ n : Nat, a = n := ⟨a.toNat, by omega⟩
    subst han
    have hcx := curX_at HS1.out HNW1.out
    rw [hcx] at hfit
    have hxl : an < x1.f.locals.length := by omega
    have hxO := ((HO.out).fs y1 (by rw [(HS1.out).fs]; simp)).fr x1 (by rw [(HS1.out).fr]; simp)
    obtain ⟨al9, cl9, ex, hcl, _⟩ := hxO.l.shape
    have hlr := hxO.l
    rw [ex] at hlr
    obtain ⟨gl, ol, rfl, _, hcells⟩ := hlr.cell (by omega)
    have z0 := (hcells an (by omega)).1
    rw [ints_get _ _ hxl] at z0
    obtain ⟨u, hu⟩ : ∃ u, x1.f.locals.getD an 0 = u := ⟨_, rfl⟩
    have hui : I64 u := by rw [← hu, List.getD_eq_getElem?_getD, List.getElem?_eq_getElem hxl]; exact hxO.i.2.2.1 _ (List.getElem_mem _)
    rw [hu] at z0
    have HWK : Hid (workG p P1.g 2 an = (0, pushG P1.g (L.length : Int) u)) := by unfold Hid workG; rw [if_neg (by decide), if_neg (by decide), if_pos rfl, Int.toNat_natCast, hcx, hu, show P1.g.now = (L.length : Int) from HNW1.out]
    obtain ⟨g', o', cap', hv', _, _, _, _, ⟨x2, _⟩, _, _⟩ := (HO.out).spot HS1.out
    rw [HYV1.out] at hv'
    simp only [Value.slice.injEq, Option.some.injEq, Addr.mk.injEq] at hv'
    obtain ⟨⟨rfl, rfl, -⟩, -, rfl⟩ := hv'
    rw [ex] at x2
    clear hxO hlr hcells hcx ex hu
    go_upto_region 13 with fail
    refine wp_region_ext_tail 13 (by kernel_rfl) (by kernel_rfl) ?_
    simp only [List.take_succ_cons, List.take_zero, List.drop_succ_cons, List.drop_zero]
    repeat (first
      | go_big_quiet_skip
      | (go_big_quiet_want
         unfold Oper.quiet
         apply Exists.intro
         refine ⟨fun w' hw' => ?_, ?_⟩
         focus
           have hcq := Ext.keep hw'
           go_simp
           first
             | with_reducible rfl
         (try dsimp only [Act.put])
         (try simp only [List.setIfInBounds_toArray, List.set_cons_succ, List.set_cons_zero])
         go_big_quiet_on))
    refine wpQuiet_nil ?_
    intro wq hq
    go_wp2_with (first
      | (go_at_call 92; (with_reducible refine (push_any ((HO.out).ext (by ((repeat (first | assumption | exact Ext.refl _ | (exact And.left (by assumption)) | refine Ext.alloc ?_ _ | refine Ext.drew ?_ | refine Ext.drewN ?_ _ | refine Ext.setCell ?_ (by simp) _ | refine Ext.setCell ?_ (by simp; omega) _ | refine Ext.trans ?_ (by assumption))); done))) (L.length : Int) HTL.out HR1.out u hui).mono ?_); rintro e w5 ⟨rfl, t5⟩))
    go_ret
    obtain ⟨e9, d9⟩ := done_ok HD2.out HWK.out C4.out BL4.out (Did.of (Turn.pre (by ((repeat (first | assumption | exact Ext.refl _ | (exact And.left (by assumption)) | refine Ext.alloc ?_ _ | refine Ext.drew ?_ | refine Ext.drewN ?_ _ | refine Ext.setCell ?_ (by simp) _ | refine Ext.setCell ?_ (by simp; omega) _ | refine Ext.trans ?_ (by assumption))); done)) t5))
    rw [e9]
    exact ⟨rfl, d9⟩
  have T2 : (k == 2) = false := beq_false_of_ne h2
  by_cases h9 : k = 9
  · subst h9
    have HWK : Hid (workG p P1.g 9 a = (0, setAtG P1.g a)) := by unfold Hid workG; simp
    obtain ⟨g', o', cap', hv', _, _, _, ⟨x2, x2'⟩, _, _, _⟩ := (HO.out).spot HS1.out
    rw [HYV1.out] at hv'
    simp only [Value.slice.injEq, Option.some.injEq, Addr.mk.injEq] at hv'
    obtain ⟨⟨rfl, rfl, -⟩, -, rfl⟩ := hv'
    go_wp2_with fail
    go_ret
    obtain ⟨e9, d9⟩ := done_ok HD2.out HWK.out C4.out BL4.out (Did.of (let h9 := (HO.out).setAt HS1.out HYV1.out a hq1; ⟨⟨_, h9.1, (modTop_at HS1.out HNW1.out rfl).symm, fun k hk => .inl (repl_same (x' := ⟨{ x1.f with at_ := a }, x1.vl, x1.vs⟩) HS1.out rfl k hk)⟩, h9.2⟩))
    rw [e9]
    exact ⟨rfl, d9⟩
  have T9 : (k == 9) = false := beq_false_of_ne h9
  by_cases h11 : k = 11
  · subst h11
    have hfit : CallFit p P1.g a := by have h := HW2.out; unfold WorkFit at h; simpa using h
    obtain ⟨an, han⟩ : ∃ n : Nat, a = n := ⟨a.toNat, by have := hfit.1; omega⟩
    subst han
    have HWK : Hid (workG p P1.g 11 an = callG p P1.g an) := by unfold Hid workG; simp
    have HFIT := Lib.hid hfit
    go_wp2_with (first
      | (go_at_call 94; (with_reducible refine (called_any p _ _ an HPL.out HO.out HT1.out HCUR.out HFIT.out).mono ?_); rintro e w5 ⟨rfl, t5⟩))
    go_ret
    obtain ⟨e9, d9⟩ := done_ok HD2.out HWK.out C4.out BL4.out (t5)
    rw [e9]
    exact ⟨rfl, d9⟩
  have T11 : (k == 11) = false := beq_false_of_ne h11
  by_cases h12 : k = 12
  · subst h12
    have hfit : ReturnFit P1.g := by have h := HW2.out; unfold WorkFit at h; simpa using h
    have HWK : Hid (workG p P1.g 12 a = returnG P1.g) := by unfold Hid workG; simp
    have HFIT := Lib.hid hfit
    go_wp2_with (first
      | (go_at_call 95; (with_reducible refine (given_any HO.out HT1.out HR1.out HOUT.out HFIT.out).mono ?_); rintro e w5 ⟨rfl, t5⟩))
    go_ret
    obtain ⟨e9, d9⟩ := done_ok HD2.out HWK.out C4.out BL4.out (t5)
    rw [e9]
    exact ⟨rfl, d9⟩
  have T12 : (k == 12) = false := beq_false_of_ne h12
  by_cases h14 : k = 14
  · subst h14
    have hfit : ResumeFit P1.g := by have h := HW2.out; unfold WorkFit at h; simpa using h
    have HWK : Hid (workG p P1.g 14 a = resumeG P1.g) := by unfold Hid workG; simp
    have HFIT := Lib.hid hfit
    go_wp2_with (first
      | (go_at_call 96; (with_reducible refine (resumed_any HO.out HT1.out HR1.out HFIT.out).mono ?_); rintro e w5 ⟨rfl, t5⟩))
    go_ret
    obtain ⟨e9, d9⟩ := done_ok HD2.out HWK.out C4.out BL4.out (t5)
    rw [e9]
    exact ⟨rfl, d9⟩
  have T14 : (k == 14) = false := beq_false_of_ne h14
  by_cases h15 : k = 15
  · subst h15
    have hfit : 1 ≤ (curX P1.g).stack.length ∧ BackFit (popG P1.g) := by have h := HW2.out; unfold WorkFit at h; simpa using h
    have HWK : Hid (workG p P1.g 15 a = yieldG P1.g) := by unfold Hid workG; simp
    have HFIT := Lib.hid hfit
    go_wp2_with (first
      | (go_at_call 97; (with_reducible refine (yielded_any HO.out HT1.out HR1.out (HFIT.out).1 (HFIT.out).2).mono ?_); rintro e w5 ⟨rfl, t5⟩))
    go_ret
    obtain ⟨e9, d9⟩ := done_ok HD2.out HWK.out C4.out BL4.out (t5)
    rw [e9]
    exact ⟨rfl, d9⟩
  have T15 : (k == 15) = false := beq_false_of_ne h15
  by_cases h16 : k = 16
  · subst h16
    have hfit : 1 ≤ (curX P1.g).stack.length := by have h := HW2.out; unfold WorkFit at h; simpa using h
    have HWK : Hid (workG p P1.g 16 a = putG (popG P1.g) (lastV P1.g)) := by unfold Hid workG; simp
    have HFIT := Lib.hid hfit
    have hLI := (HO.out).lastI HT1.out hfit
    generalize hlv : lastV P1.g = u at *
    have HLV := Lib.hid hlv
    clear hlv
    go_wp2_with (first
      | (go_at_call 93; (with_reducible refine (pull_any HO.out HT1.out HFIT.out).mono ?_); rintro e w5 ⟨rfl, t5⟩; rw [HLV.out]; obtain ⟨⟨P5, o5, g5, s5⟩, c5⟩ := t5; have HO5 := Lib.hid o5; have HG5 := Lib.hid g5; have hl5 : P5.g.out.length < 1000 := (by rw [g5]; exact HOUT.out); clear o5 g5)
      | (go_at_call 98; (with_reducible refine (put_any HO5.out hl5 u hLI).mono ?_); rintro e w6 ⟨rfl, t6⟩; rw [HG5.out] at t6 ⊢))
    go_ret
    obtain ⟨e9, d9⟩ := done_ok HD2.out HWK.out C4.out BL4.out (Did.step c5 s5 t6)
    rw [e9]
    exact ⟨rfl, d9⟩
  have T16 : (k == 16) = false := beq_false_of_ne h16
  by_cases h3 : k = 3
  · subst h3
    have hfit : 0 ≤ a ∧ a < (curX P1.g).locals.length ∧ 1 ≤ (curX P1.g).stack.length := by have h := HW2.out; unfold WorkFit at h; simpa using h
    obtain ⟨an, han⟩ : ∃ n : Nat, a = n := ⟨a.toNat, by omega⟩
    subst han
    have hcx := curX_at HS1.out HNW1.out
    rw [hcx] at hfit
    obtain ⟨st, u, hst⟩ := split_last x1.f.stack (by omega)
    have hlast : lastV P1.g = u := by unfold lastV; rw [hcx, hst]; exact getD_last _ _ _ _ rfl
    have hui : I64 u := by have := (HO.out).lastI HT1.out (by rw [hcx]; omega); rwa [hlast] at this
    have HST := Lib.hid hst
    obtain ⟨g', o', cap', hv', _, _, _, ⟨x1a, x1a'⟩, ⟨x2, x2'⟩, _, hblg⟩ := (HO.out).spot HS1.out
    rw [HYV1.out] at hv'
    simp only [Value.slice.injEq, Option.some.injEq, Addr.mk.injEq] at hv'
    obtain ⟨⟨rfl, rfl, -⟩, -, rfl⟩ := hv'
    have hbxc : ¬ (rowBlock y1.vf = some bx ∨ rowBlock x1.vs = some bx) := by
      rintro (e | e)
      · exact HBX.out (List.mem_cons_of_mem _ ((HS1.out).bl (.inl e)))
      · exact HBX.out (List.mem_cons_of_mem _ ((HS1.out).bl (.inr (by unfold PFrame.bl; simp [e]))))
    have HBXC := Lib.hid hbxc
    clear hbxc
    have hxl : an < x1.f.locals.length := by omega
    have HWK : Hid (workG p P1.g 3 an = (0, modTop (popG P1.g) (L.length : Int) fun x => { x with locals := x.locals.set an u })) := by unfold Hid workG; rw [if_neg (by decide), if_neg (by decide), if_neg (by decide), if_pos rfl, Int.toNat_natCast, hlast, show P1.g.now = (L.length : Int) from HNW1.out]
    obtain ⟨al9, cl9, ex, hcl, _⟩ := (((HO.out).fs y1 (by rw [(HS1.out).fs]; simp)).fr x1 (by rw [(HS1.out).fr]; simp)).l.shape
    have hlr := (((HO.out).fs y1 (by rw [(HS1.out).fs]; simp)).fr x1 (by rw [(HS1.out).fr]; simp)).l
    rw [ex] at hlr
    obtain ⟨gl, ol, rfl, _, _⟩ := hlr.cell (by omega)
    rw [ex] at x2
    have HEX := Lib.hid ex
    clear hlr ex hcl hcx hlast hst
    go_upto_region 15 with fail
    refine wp_region_rt (fun w' => w'.cell? ⟨g, o + F.length * 4 + 2, none⟩ = some (.slice (some ⟨gl, ol, none⟩) x1.f.locals.length cl9) ∧ w'.cell? ⟨bx, 1, none⟩ = some (.int .i64 an))
      9 [0, 1, 2, 3, 4, 5, 6] [7, 8, 9] (by kernel_rfl) (by kernel_rfl) (fun _ _ _ _ _ h => h) ⟨x2, hb1⟩ ?_
    (try simp only [pickOps, List.filterMap_cons, List.filterMap_nil, List.getElem?_cons_zero, List.getElem?_cons_succ])
    repeat (
      refine readsQ_do (by rfl) ?_
      apply Exists.intro
      refine ⟨fun w' hw' => ?_, ?_⟩
      focus
        (try dsimp only at hw')
        go_split_ands
        go_simp
        (try with_reducible rfl)
      (try dsimp only [Act.put])
      (try simp only [List.setIfInBounds_toArray, List.set_cons_succ, List.set_cons_zero]))
    refine readsQ_nil ?_
    refine tailW_step ?_
    go_wp2_with (first
      | (go_at_call 93; (with_reducible refine (pull_at ((HO.out).ext (Ext.refl _).drew) HS1.out HNW1.out st u HST.out).mono ?_); rintro e w5 ⟨rfl, ⟨v5, o5, hv5⟩, c5⟩))
    obtain ⟨P5, y5, x5, HO5, HS5, HY5, HX5, HG5, BL5, C5⟩ : ∃ P5 y5 x5, Hid (OwnS w5 B b P5) ∧ Hid (Spot P5 L y5 R F x5) ∧ Hid (y5.vf = .slice (some ⟨g, o, none⟩) (F ++ [x5]).length cap) ∧ Hid (x5.vl = x1.vl ∧ x5.f.locals = x1.f.locals) ∧ Hid (P5.g = popG P1.g ∧ P5.now = L.length) ∧ Hid (∀ k ∈ P5.bl, k ∈ P1.bl ∨ w2.heap.size ≤ k) ∧ Hid (Chg (· ∈ b :: P1.bl) w2 w5) := by
      refine ⟨_, _, _, o5, ⟨rfl, rfl⟩, ?_, ⟨rfl, rfl⟩, ⟨(modTop_at HS1.out HNW1.out ?_).symm, HNW1.out⟩, repl_bl HS1.out (frame_bl (.inl hv5)), (Chg.of_ext (Ext.refl _).drew).trans (chg_spot HS1.out c5)⟩
      · have := HYV1.out
        rw [List.length_append, List.length_singleton] at this ⊢
        exact this
      · rw [HST.out]; simp
    obtain ⟨g', o', cap', hv', _, _, _, ⟨z1, z1'⟩, ⟨z2, z2'⟩, _, _⟩ := (HO5.out).spot HS5.out
    rw [HY5.out] at hv'
    simp only [Value.slice.injEq, Option.some.injEq, Addr.mk.injEq] at hv'
    obtain ⟨⟨rfl, rfl, -⟩, -, rfl⟩ := hv'
    have hb1' := Chg.cell c5 (b := bx) (o := 1) HBXC.out (by simpa using hb1)
    clear o5 hv5 c5
    rw [(HX5.out).1, HEX.out] at z2
    have HEX5 : Hid (x5.vl = .slice (some ⟨gl, ol, none⟩) x1.f.locals.length cl9) := by unfold Hid; rw [(HX5.out).1]; exact HEX.out
    have hxl5 : an < x5.f.locals.length := by rw [(HX5.out).2]; exact hxl
    have hlr5 := (((HO5.out).fs y5 (by rw [(HS5.out).fs]; simp)).fr x5 (by rw [(HS5.out).fr]; simp)).l
    rw [HEX5.out, (HX5.out).2] at hlr5
    obtain ⟨gl', ol', e5, _, hcells⟩ := hlr5.cell (by omega)
    simp only [Option.some.injEq, Addr.mk.injEq] at e5
    obtain ⟨rfl, rfl, -⟩ := e5
    obtain ⟨q0, q0'⟩ := hcells an (by omega)
    rw [ints_get _ _ hxl] at q0
    clear hcells hlr5
    refine nextW_go ⟨z2, hb1'⟩ ?_
    refine tailW_step ?_
    go_wp2_with fail
    refine nextW_go ⟨z2, hb1'⟩ ?_
    refine tailW_step ?_
    go_wp2_with fail
    refine nextW_end ?_
    go_wp2_with fail
    go_ret
    obtain ⟨e9, d9⟩ := done_ok HD2.out HWK.out C4.out BL4.out (Did.of (by
      obtain ⟨k1, k2⟩ := (HO5.out).setLocal HS5.out HEX5.out an hxl5 u hui
      refine Turn.step C5.out BL5.out ⟨⟨_, k1, ?_, fun k hk => .inl (repl_same (x' := ⟨{ x5.f with locals := x5.f.locals.set an u }, x5.vl, x5.vs⟩) HS5.out rfl k hk)⟩, k2⟩
      rw [← (HG5.out).1]
      exact (modTop_at HS5.out rfl rfl).symm))
    rw [e9]
    exact ⟨rfl, d9⟩
  have T3 : (k == 3) = false := beq_false_of_ne h3
  by_cases h10 : k = 10
  · subst h10
    have hfit : 1 ≤ (curX P1.g).stack.length := by have h := HW2.out; unfold WorkFit at h; simpa using h
    have hcx := curX_at HS1.out HNW1.out
    rw [hcx] at hfit
    obtain ⟨st, u, hst⟩ := split_last x1.f.stack (by omega)
    have hlast : lastV P1.g = u := by unfold lastV; rw [hcx, hst]; exact getD_last _ _ _ _ rfl
    have hui : I64 u := by have := (HO.out).lastI HT1.out (by rw [hcx]; omega); rwa [hlast] at this
    have HST := Lib.hid hst
    obtain ⟨g', o', cap', hv', _, _, _, ⟨x1a, x1a'⟩, ⟨x2, x2'⟩, _, hblg⟩ := (HO.out).spot HS1.out
    rw [HYV1.out] at hv'
    simp only [Value.slice.injEq, Option.some.injEq, Addr.mk.injEq] at hv'
    obtain ⟨⟨rfl, rfl, -⟩, -, rfl⟩ := hv'
    have hbxc : ¬ (rowBlock y1.vf = some bx ∨ rowBlock x1.vs = some bx) := by
      rintro (e | e)
      · exact HBX.out (List.mem_cons_of_mem _ ((HS1.out).bl (.inl e)))
      · exact HBX.out (List.mem_cons_of_mem _ ((HS1.out).bl (.inr (by unfold PFrame.bl; simp [e]))))
    have HBXC := Lib.hid hbxc
    clear hbxc
    clear hcx hst
    by_cases hu0 : u = 0
    · have TU : (u == 0) = true := by rw [hu0]; rfl
      have HWK : Hid (workG p P1.g 10 a = (0, setAtG (popG P1.g) a)) := by unfold Hid workG; simp [hlast, hu0]
      clear hlast hu0
      go_upto_region 20 with (first
        | (go_at_call 93; (with_reducible refine (pull_at HO.out HS1.out HNW1.out st u HST.out).mono ?_); rintro e w5 ⟨rfl, ⟨v5, o5, hv5⟩, c5⟩))
      obtain ⟨P5, y5, x5, HO5, HS5, HY5, HX5, HG5, BL5, C5⟩ : ∃ P5 y5 x5, Hid (OwnS w5 B b P5) ∧ Hid (Spot P5 L y5 R F x5) ∧ Hid (y5.vf = .slice (some ⟨g, o, none⟩) (F ++ [x5]).length cap) ∧ Hid (x5.vl = x1.vl ∧ x5.f.locals = x1.f.locals) ∧ Hid (P5.g = popG P1.g ∧ P5.now = L.length) ∧ Hid (∀ k ∈ P5.bl, k ∈ P1.bl ∨ w2.heap.size ≤ k) ∧ Hid (Chg (· ∈ b :: P1.bl) w2 w5) := by
        refine ⟨_, _, _, o5, ⟨rfl, rfl⟩, ?_, ⟨rfl, rfl⟩, ⟨(modTop_at HS1.out HNW1.out ?_).symm, HNW1.out⟩, repl_bl HS1.out (frame_bl (.inl hv5)), chg_spot HS1.out c5⟩
        · have := HYV1.out
          rw [List.length_append, List.length_singleton] at this ⊢
          exact this
        · rw [HST.out]; simp
      obtain ⟨g', o', cap', hv', _, _, _, ⟨z1, z1'⟩, ⟨z2, z2'⟩, _, _⟩ := (HO5.out).spot HS5.out
      rw [HY5.out] at hv'
      simp only [Value.slice.injEq, Option.some.injEq, Addr.mk.injEq] at hv'
      obtain ⟨⟨rfl, rfl, -⟩, -, rfl⟩ := hv'
      have hb1' := Chg.cell c5 (b := bx) (o := 1) HBXC.out hb1
      clear o5 hv5 c5
      go_wp2_with fail
      go_ret
      obtain ⟨e9, d9⟩ := done_ok HD2.out HWK.out C4.out BL4.out (Did.of (by
        obtain ⟨k1, k2⟩ := (HO5.out).setAt HS5.out HY5.out a hq1
        refine Turn.step C5.out BL5.out ⟨⟨_, k1, ?_, fun k hk => .inl (repl_same (x' := ⟨{ x5.f with at_ := a }, x5.vl, x5.vs⟩) HS5.out rfl k hk)⟩, k2⟩
        rw [← (HG5.out).1]
        exact (modTop_at HS5.out (HG5.out).2 rfl).symm))
      rw [e9]
      exact ⟨rfl, d9⟩
    · have TU : (u == 0) = false := beq_false_of_ne hu0
      have HWK : Hid (workG p P1.g 10 a = (0, popG P1.g)) := by unfold Hid workG; simp [hlast, hu0]
      have HFIT : Hid (1 ≤ (curX P1.g).stack.length) := by have h := HW2.out; unfold WorkFit at h; unfold Hid; simpa using h
      have HLAST := Lib.hid hlast
      clear hlast hu0
      go_wp2_with (first
        | (go_at_call 93; (with_reducible refine (pull_any HO.out HT1.out HFIT.out).mono ?_); rintro e w5 ⟨rfl, t5⟩; rw [HLAST.out]))
      go_ret
      obtain ⟨e9, d9⟩ := done_ok HD2.out HWK.out C4.out BL4.out (Did.of t5)
      rw [e9]
      exact ⟨rfl, d9⟩
  have T10 : (k == 10) = false := beq_false_of_ne h10
  by_cases h13 : k = 13
  · subst h13
    have hfit : MakeFit p a := by have h := HW2.out; unfold WorkFit at h; simpa using h
    obtain ⟨hm0, hm1, hm2, hm3⟩ := hfit
    obtain ⟨an, han⟩ : ∃ n : Nat, a = n := ⟨a.toNat, by omega⟩
    subst han
    have hanl : an < p.length := by omega
    have hFF : funcOf p an = p[an] := by unfold funcOf; simp [List.getD, List.getElem?_eq_getElem hanl]
    obtain ⟨N, hN⟩ : ∃ N : Nat, (funcOf p an).locals = N := ⟨(funcOf p an).locals.toNat, by omega⟩
    have hN9 : N ≤ 900 := by omega
    have HNF : Hid (p[an].locals = N) := by unfold Hid; rw [← hFF]; exact hN
    have hfr : freshFrame p an = ⟨an, 0, List.replicate N 0, []⟩ := by unfold freshFrame; rw [hN]; rfl
    have hfl1 : P1.g.fibers.length = P1.fs.length := by unfold PState.g; simp
    have hf9 : P1.fs.length ≤ 900 := by
      rw [← hfl1, HG1.out]
      have := (HF.out).1
      unfold advG modTop
      rw [modFib_len]; exact this
    obtain ⟨c10, -⟩ := (HO.out).c0
    obtain ⟨av, cv, ev, hcv1, hcv2⟩ := (HO.out).row.shape
    rw [ev] at c10
    by_cases h5 : P1.fs.length = 5
    · have T5 : (((P1.fs.length : Nat) : Int) == 5) = true := by rw [h5]; rfl
      have HWK : Hid (workG p P1.g 13 an = (2, P1.g)) := by unfold Hid workG makeG; simp [hfl1, h5]
      clear hfl1 h5 hN hfr hFF
      go_wp2_with fail
      go_ret
      obtain ⟨e9, d9⟩ := done_ok HD2.out HWK.out C4.out BL4.out (⟨Chg.refl _ _, fun h => by cases h⟩)
      rw [e9]
      exact ⟨rfl, d9⟩
    · have T5 : (((P1.fs.length : Nat) : Int) == 5) = false := beq_false_of_ne (by omega)
      have HWK : Hid (workG p P1.g 13 an = (0, { pushG P1.g (L.length : Int) P1.fs.length with fibers := (pushG P1.g (L.length : Int) P1.fs.length).fibers ++ [⟨[⟨an, 0, List.replicate N 0, []⟩], -1⟩] })) := by
        unfold Hid workG makeG
        simp only [hfl1, hfr, show P1.g.now = (L.length : Int) from HNW1.out]
        simp [h5]
      clear hfl1 h5 hN hfr hFF
      go_upto_region 28 with fail
      refine wp_region_ext_tail 10 (by kernel_rfl) (by kernel_rfl) ?_
      simp only [List.take_succ_cons, List.take_zero, List.drop_succ_cons, List.drop_zero]
      repeat (first
        | go_big_quiet_skip
        | (go_big_quiet_want
           unfold Oper.quiet
           apply Exists.intro
           refine ⟨fun w' hw' => ?_, ?_⟩
           focus
             have hcq := Ext.keep hw'
             go_simp
             first
               | with_reducible rfl
           (try dsimp only [Act.put])
           (try simp only [List.setIfInBounds_toArray, List.set_cons_succ, List.set_cons_zero])
           go_big_quiet_on))
      refine wpQuiet_nil ?_
      intro wq hq
      go_upto_region 29 with (first
        | (go_at_call 92; (with_reducible refine (push_any ((HO.out).ext (by ((repeat (first | assumption | exact Ext.refl _ | (exact And.left (by assumption)) | refine Ext.alloc ?_ _ | refine Ext.drew ?_ | refine Ext.drewN ?_ _ | refine Ext.setCell ?_ (by simp) _ | refine Ext.setCell ?_ (by simp; omega) _ | refine Ext.trans ?_ (by assumption))); done))) (L.length : Int) HTL.out HR1.out P1.fs.length (I64.nat (by omega))).mono ?_); rintro e w5 ⟨rfl, t5⟩))
      obtain ⟨⟨P5, o5, g5, s5⟩, c5⟩ := Turn.pre (by ((repeat (first | assumption | exact Ext.refl _ | (exact And.left (by assumption)) | refine Ext.alloc ?_ _ | refine Ext.drew ?_ | refine Ext.drewN ?_ _ | refine Ext.setCell ?_ (by simp) _ | refine Ext.setCell ?_ (by simp; omega) _ | refine Ext.trans ?_ (by assumption))); done)) t5
      obtain ⟨a5, c5v, e5, hc5, hm5⟩ := o5.row.shape
      obtain ⟨k50, -⟩ := o5.c0
      rw [e5] at k50
      have hl5 : P5.fs.length = P1.fs.length := by
        have e1 : P5.fs.length = P5.g.fibers.length := by unfold PState.g; simp
        have e2 : P1.fs.length = P1.g.fibers.length := by unfold PState.g; simp
        rw [e1, e2, g5]
        unfold pushG modTop
        rw [modFib_len]
      have hb15 := Chg.cell c5 (b := bx) (o := 1) HBX.out hb1
      have hp5 : Funcs w5 (· < B) (.slice (some ⟨bp, op, none⟩) p.length capp) p := Funcs.stays (c5.stays (fun k hk hm => by have := (HO.out).ge k hm; omega)) HPL.out
      obtain ⟨_, _, _, ep, _, _, _, ⟨_, hpL, _⟩, _⟩ := hp5.get hanl
      simp only [Value.slice.injEq, Option.some.injEq, Addr.mk.injEq] at ep
      obtain ⟨⟨rfl, rfl, -⟩, -, rfl⟩ := ep
      rw [HNF.out] at hpL
      have HB5 : Hid (B ≤ w5.heap.size) := Nat.le_trans o5.le (Nat.le_of_lt o5.c0.lt)
      have HO5 := Lib.hid o5
      have HG5 := Lib.hid g5
      have HS5 := Lib.hid s5
      have HC5 := Lib.hid c5
      have HE5 := Lib.hid e5
      have HL5 := Lib.hid hl5
      have hl59 : P5.fs.length ≤ 900 := by omega
      have HROW5 : Hid (RowAt w5 B 2 (.slice a5 P5.fs.length c5v) P5.fs.length (P5.fs.flatMap fiberF)) := by unfold Hid; rw [← e5]; exact o5.row
      have HNB5 : Hid (¬ rowBlock (.slice a5 P5.fs.length c5v) = some b) := by unfold Hid; rw [← e5]; exact fun e => o5.dis.1 (PState.mem_vfs e)
      have HNX5 : Hid (¬ rowBlock (.slice a5 P5.fs.length c5v) = some bx) := by unfold Hid; rw [← e5]; exact fun e => not_grown HBX.out s5 (Cx.lt HB1.out) (List.mem_cons_of_mem _ (PState.mem_vfs e))
      have HNP5 : Hid (¬ rowBlock (.slice a5 P5.fs.length c5v) = some bp) := by
        unfold Hid
        rw [← e5]
        intro e
        have h1 := o5.ge bp (List.mem_cons_of_mem _ (PState.mem_vfs e))
        obtain ⟨b7, o7, _, e7, _, _, ⟨h7, _⟩, _⟩ := hp5.get hanl
        simp only [Value.slice.injEq, Option.some.injEq, Addr.mk.injEq] at e7
        rw [← e7.1.1] at h7
        have : bp < B := h7
        omega
      clear o5 g5 s5 c5 e5 hp5 t5 hq hl5
      rename World => w5
      have HK50 := Lib.hid k50
      have HB15 := Lib.hid hb15
      have HPL5 := Lib.hid hpL
      refine wp_region_rt (fun w' => w'.cell? ⟨b, 0, none⟩ = some (.slice a5 P5.fs.length c5v) ∧ w'.cell? ⟨bx, 1, none⟩ = some (.int .i64 an) ∧ w'.cell? ⟨bp, op + an * 3 + 1, none⟩ = some (.int .i64 N))
        21 [0, 1, 2, 3, 4, 5, 6, 7, 8, 9, 10, 11, 12] [13, 14, 15, 16, 17, 18, 19, 20, 21] (by kernel_rfl) (by kernel_rfl) (fun _ _ _ _ _ h => h) ⟨k50, hb15, hpL⟩ ?_
      (try simp only [pickOps, List.filterMap_cons, List.filterMap_nil, List.getElem?_cons_zero, List.getElem?_cons_succ])
      repeat (
        refine readsQ_do (by rfl) ?_
        apply Exists.intro
        refine ⟨fun w' hw' => ?_, ?_⟩
        focus
          (try dsimp only at hw')
          go_split_ands
          go_simp
          (try with_reducible rfl)
        (try dsimp only [Act.put])
        (try simp only [List.setIfInBounds_toArray, List.set_cons_succ, List.set_cons_zero]))
      refine readsQ_nil ?_
      refine tailW_step ?_
      go_wp2_with (first
        | (at_make; refine wpList_make_full _ rfl _ _ 24 rfl w5.heap.size 3 i0 (.int .i64 0) 1 Tryz.underlying24 hi0 hz0 hz1 .i64 .i64 _ _ N rfl rfl rfl rfl (by rw [hz2]; omega) (by unfold maxLen; omega) (by simp) ?_; intro w6 hown6 hgr6; have hE6 := (Ext.refl w5).drew.trans (ext_none hgr6); have hrow6 := IRow.made hown6))
      have HE6 := Lib.hid hE6
      have hS6 : w6.cell? ⟨b, 0, none⟩ = some (.slice a5 P5.fs.length c5v) ∧ w6.cell? ⟨bx, 1, none⟩ = some (.int .i64 an) ∧ w6.cell? ⟨bp, op + an * 3 + 1, none⟩ = some (.int .i64 N) := ⟨Ext.cell hE6 HK50.out, Ext.cell hE6 HB15.out, Ext.cell hE6 HPL5.out⟩
      have HS6 := Lib.hid hS6
      clear hE6 hgr6 hown6 hS6 k50 hb15 hpL
      refine nextW_go HS6.out ?_
      refine tailW_step ?_
      go_wp2_with fail
      refine nextW_go HS6.out ?_
      refine tailW_step ?_
      go_wp2_with fail
      have HS7 : Hid ((w6.alloc (.cells #[.int .i64 an, .int .i64 0, .slice (some ⟨w5.heap.size, 0, none⟩) N N, .slice none 0 0] 43)).cell? ⟨b, 0, none⟩ = some (.slice a5 P5.fs.length c5v) ∧ (w6.alloc (.cells #[.int .i64 an, .int .i64 0, .slice (some ⟨w5.heap.size, 0, none⟩) N N, .slice none 0 0] 43)).cell? ⟨bx, 1, none⟩ = some (.int .i64 an) ∧ (w6.alloc (.cells #[.int .i64 an, .int .i64 0, .slice (some ⟨w5.heap.size, 0, none⟩) N N, .slice none 0 0] 43)).cell? ⟨bp, op + an * 3 + 1, none⟩ = some (.int .i64 N)) :=
        ⟨Ext.cell ((Ext.refl _).alloc _) (HS6.out).1, Ext.cell ((Ext.refl _).alloc _) (HS6.out).2.1, Ext.cell ((Ext.refl _).alloc _) (HS6.out).2.2⟩
      refine nextW_go HS7.out ?_
      refine tailW_step ?_
      go_wp2_with fail
      refine nextW_go HS7.out ?_
      refine tailW_step ?_
      go_wp2_with fail
      have HS8 := Lib.hid (cells3_ext (HS7.out) ((Ext.refl _).alloc (.cells #[.slice (some ⟨w6.heap.size, 0, none⟩) 1 1, .int .i64 (-1)] 41)))
      have HS66 : Hid ((w6.alloc (.cells #[.int .i64 an, .int .i64 0, .slice (some ⟨w5.heap.size, 0, none⟩) N N, .slice none 0 0] 43)).heap.size = w6.heap.size + 1) := Array.size_push _
      refine nextW_go HS8.out ?_
      refine tailW_step ?_
      go_wp2_with (first
        | (at_builtin; refine wpList_append_row rfl _ _ 23 rfl B 41 i2 (.agg #[.slice none 0 0, .int .i64 0]) 2 32 Tryz.underlying23 hi2 hz6 hz7 hz8 rfl (by decide) _ _ _ rfl (by exact (HROW5.out.ext (((HE6.out).alloc _).alloc _) (by decide))) 1 _ (by rw [← HS66.out]; exact src_cells _ _ 2 rfl (by simp [Value.oneCell']) _) (by unfold maxLen; omega) (by omega) (by exact Nat.le_trans HB5.out (Ext.size (((HE6.out).alloc _).alloc _))) ?_; intro v1 Wv1 rv1; have RV := Lib.hid rv1; obtain ⟨a9, cap9, rfl, _, _⟩ := rv1.1.shape; clear rv1))
      have hRV : NewRow ((w6.alloc (.cells #[.int .i64 an, .int .i64 0, .slice (some ⟨w5.heap.size, 0, none⟩) N N, .slice none 0 0] 43)).alloc (.cells #[.slice (some ⟨w6.heap.size, 0, none⟩) 1 1, .int .i64 (-1)] 41)) Wv1 B 2 (.slice a5 P5.fs.length c5v) (.slice a9 (P5.fs.length + 1) cap9) (P5.fs.length + 1) (P5.fs.flatMap fiberF ++ [.slice (some ⟨w6.heap.size, 0, none⟩) 1 1, .int .i64 (-1)]) := RV.out
      have HRV := Lib.hid hRV
      have HS9 : Hid (Wv1.cell? ⟨b, 0, none⟩ = some (.slice a5 P5.fs.length c5v) ∧ Wv1.cell? ⟨bx, 1, none⟩ = some (.int .i64 an) ∧ Wv1.cell? ⟨bp, op + an * 3 + 1, none⟩ = some (.int .i64 N)) :=
        ⟨Chg.cell hRV.2.1 HNB5.out (HS8.out).1, Chg.cell hRV.2.1 HNX5.out (HS8.out).2.1, Chg.cell hRV.2.1 HNP5.out (HS8.out).2.2⟩
      have HCB9 : Hid (Cx Wv1 b 0 (.slice a5 P5.fs.length c5v)) := by
        have h1 := (((HO5.out).c0.ext ((HE6.out).alloc (.cells #[.int .i64 an, .int .i64 0, .slice (some ⟨w5.heap.size, 0, none⟩) N N, .slice none 0 0] 43))).ext ((Ext.refl _).alloc (.cells #[.slice (some ⟨w6.heap.size, 0, none⟩) 1 1, .int .i64 (-1)] 41))).chg hRV.2.1 HNB5.out
        rw [HE5.out] at h1
        exact h1
      obtain ⟨q9, q9'⟩ := HCB9.out
      clear hRV
      refine nextW_go HS9.out ?_
      refine tailW_step ?_
      go_wp2_with fail
      refine nextW_go HS9.out ?_
      refine tailW_step ?_
      go_wp2_with fail
      refine nextW_go HS9.out ?_
      refine tailW_step ?_
      go_wp2_with fail
      refine nextW_end ?_
      go_wp2_with fail
      go_ret
      obtain ⟨e9, d9⟩ := done_ok HD2.out HWK.out C4.out BL4.out (Did.of (by
        have hr6 : RowAt w6 w5.heap.size 1 (.slice (some ⟨w5.heap.size, 0, none⟩) N N) N (ints (List.replicate N 0)) := by have := hrow6; unfold IRow at this; rwa [List.length_replicate] at this
        have h9 := add_fin (HO5.out) (HE6.out) hr6 43 41 (by rw [HE5.out]; exact HRV.out) (I64.nat (n := an) (by omega)) (by omega) (by omega)
        rw [HG5.out] at h9
        exact Turn.step HC5.out HS5.out h9))
      rw [e9]
      exact ⟨rfl, d9⟩
  have T13 : (k == 13) = false := beq_false_of_ne h13
  have hfit : 2 ≤ (curX P1.g).stack.length := by have h := HW2.out; unfold WorkFit at h; rwa [if_neg h0, if_neg h1, if_neg h2, if_neg h3, if_neg h9, if_neg h10, if_neg h11, if_neg h12, if_neg h13, if_neg h14, if_neg h15, if_neg h16] at h
  have HWK : Hid (workG p P1.g k a = (0, pushG (popG (popG P1.g)) (L.length : Int) (reckG k (lastV (popG P1.g)) (lastV P1.g)))) := by
    unfold Hid workG
    rw [if_neg h0, if_neg h1, if_neg h2, if_neg h3, if_neg h9, if_neg h10, if_neg h11, if_neg h12, if_neg h13, if_neg h14, if_neg h15, if_neg h16, show P1.g.now = (L.length : Int) from HNW1.out]
  have HFIT : Hid (1 ≤ (curX P1.g).stack.length) := by unfold Hid; omega
  have HFIT2 : Hid (1 ≤ (curX (popG P1.g)).stack.length) := by unfold Hid; rw [curX_pop P1.g HT1.out]; show 1 ≤ (curX P1.g).stack.dropLast.length; rw [List.length_dropLast]; omega
  generalize hlv : lastV P1.g = v1 at *
  generalize hlv2 : lastV (popG P1.g) = v2 at *
  have HLV := Lib.hid hlv
  have HLV2 := Lib.hid hlv2
  have hri : I64 (reckG k v2 v1) := reck_i64 k v2 v1
  obtain ⟨rv, hrv⟩ : ∃ rv, reckG k v2 v1 = rv := ⟨_, rfl⟩
  rw [hrv] at hri
  have HRV := Lib.hid hrv
  clear h0 h1 h2 h3 h9 h10 h11 h12 h13 h14 h15 h16 hfit hlv hlv2 hrv
  go_upto_region 7 with (first
    | (go_at_call 93; (with_reducible refine (pull_any HO.out HT1.out HFIT.out).mono ?_); rintro e w5 ⟨rfl, t5⟩; rw [HLV.out]; obtain ⟨⟨P5, o5, g5, s5⟩, c5⟩ := t5; have HO5 := Lib.hid o5; have HG5 := Lib.hid g5; have HT5 : Hid (HasTop P5.g P5.g.now) := (by unfold Hid; rw [g5]; exact (HT1.out).pop); have HF5 : Hid (1 ≤ (curX P5.g).stack.length) := (by unfold Hid; rw [g5]; exact HFIT2.out); have hnb5 : bx ∉ b :: P5.bl := (not_grown HBX.out s5 (Cx.lt HB1.out)); have HB05 := Chg.cell c5 (b := bx) (o := 0) HBX.out hb0; have HN5 := Lib.hid hnb5; have HS5 := Lib.hid s5; have HC5 := Lib.hid c5; have hlt5 := c5.size; clear o5 g5 s5 c5 hnb5)
    | (go_at_call 93; (with_reducible refine (pull_any HO5.out HT5.out HF5.out).mono ?_); rintro e w6 ⟨rfl, t6⟩; rw [HG5.out, HLV2.out]; obtain ⟨⟨P6, o6, g6, s6⟩, c6⟩ := t6; have HB06 := Chg.cell c6 (b := bx) (o := 0) HN5.out HB05; have HO6 := Lib.hid o6; have HG6 : Hid (P6.g = popG (popG P1.g)) := (by unfold Hid; rw [g6, HG5.out]); have HS6 := Lib.hid s6; have HC6 := Lib.hid c6; clear o6 g6 s6 c6))
  have HN6 : Hid (P6.now = L.length) := by have h : P6.g.now = P1.g.now := (by rw [HG6.out]; rfl); unfold Hid; rw [show P6.now = P6.g.now from rfl, h]; exact HNW1.out
  have HT6 : Hid (HasTop P6.g (L.length : Int)) := by unfold Hid; rw [HG6.out]; exact (HTL.out).pop.pop
  have HR6 : Hid (Room P6.g) := by unfold Hid; rw [HG6.out]; exact (HR1.out).pop.pop
  obtain ⟨c61, -⟩ := (HO6.out).c1
  rw [HN6.out] at c61
  refine wp_region_ext_tail 10 (by kernel_rfl) (by kernel_rfl) ?_
  simp only [List.take_succ_cons, List.take_zero, List.drop_succ_cons, List.drop_zero]
  repeat (first
    | go_big_quiet_skip
    | (go_big_quiet_want
       unfold Oper.quiet
       apply Exists.intro
       refine ⟨fun w' hw' => ?_, ?_⟩
       focus
         have hcq := Ext.keep hw'
         go_simp
         first
           | with_reducible rfl
           | (go_at_call 99; refine (reckoned_any k v2 v1 _).mono ?_; rintro e w7 ⟨rfl, rfl⟩; rw [HRV.out]; exact ⟨rfl, hw'⟩)
       (try dsimp only [Act.put])
       (try simp only [List.setIfInBounds_toArray, List.set_cons_succ, List.set_cons_zero])
       go_big_quiet_on))
  refine wpQuiet_nil ?_
  intro wq hq
  go_wp2_with (first
    | (go_at_call 92; (with_reducible refine (push_any ((HO6.out).ext (by ((repeat (first | assumption | exact Ext.refl _ | (exact And.left (by assumption)) | refine Ext.alloc ?_ _ | refine Ext.drew ?_ | refine Ext.drewN ?_ _ | refine Ext.setCell ?_ (by simp) _ | refine Ext.setCell ?_ (by simp; omega) _ | refine Ext.trans ?_ (by assumption))); done))) (L.length : Int) HT6.out HR6.out rv hri).mono ?_); rintro e w8 ⟨rfl, t8⟩))
  go_ret
  have hw3 := HWK.out
  rw [HRV.out, ← HG6.out] at hw3
  obtain ⟨e9, d9⟩ := done_ok HD2.out hw3 C4.out BL4.out (Did.of (Turn.step HC5.out HS5.out (Turn.step HC6.out HS6.out (Turn.pre (by ((repeat (first | assumption | exact Ext.refl _ | (exact And.left (by assumption)) | refine Ext.alloc ?_ _ | refine Ext.drew ?_ | refine Ext.drewN ?_ _ | refine Ext.setCell ?_ (by simp) _ | refine Ext.setCell ?_ (by simp; omega) _ | refine Ext.trans ?_ (by assumption))); done)) t8))))
  rw [e9]
  exact ⟨rfl, d9⟩
end Go.Proofs.YtgahbngbpfilgaaGreat
end
section
set_option maxHeartbeats 4000000
set_option maxRecDepth 100000
namespace Go.Proofs.YtgahbngbpfilgaaGreat
open Go Go.RowKit
theorem frameB_nat {p : List GFunc} (hz : progErr p = 0) {x : GFrame} (h : frameB p x = true) : ∃ (n m : Nat) (hn : n < p.length), x.func = n ∧ x.at_ = m ∧ m < p[n].code.length ∧ (x.locals.length : Int) = p[n].locals ∧ 0 ≤ (hgt p n).getD m 0 ∧ (hgt p n).length = p[n].code.length ∧ p[n].code.length ≤ 24 := by
 unfold frameB at h
 simp only [Bool.and_eq_true, decide_eq_true_eq] at h
 obtain ⟨⟨⟨h1, h2⟩, h3⟩, h4⟩ := h
 obtain ⟨n, hn⟩ : ∃ n : Nat, x.func = n := ⟨x.func.toNat, by omega⟩
 have hnl : n < p.length := by omega
 rw [hn, funcOf_nat hnl] at h2 h3
 rw [hn] at h4
 obtain ⟨m, hm⟩ : ∃ m : Nat, x.at_ = m := ⟨x.at_.toNat, by omega⟩
 rw [hm] at h3 h4
 exact ⟨n, m, hnl, hn, hm, by omega, h2, by simpa using h4, hgt_len hz hnl, (rightAt hz hnl).1.len⟩
theorem waits_any (p : List GFunc) (v : Value) (S T : Nat → Prop) (x : GFrame) (vx : Value) (kind a : Int) (w : World) (hp : Funcs w S v p) (hz : progErr p = 0) (hx : FrameV w T vx x) (hf : frameB p x = true) :
    Calls Tryz.prog 49 #[v, vx, .int .i64 kind, .int .i64 a] w fun e w' => e = .returned (.bool (waitB p x kind a)) ∧ Ext w w' := by
  have HP := Lib.hid hp
  have HZ := Lib.hid hz
  obtain ⟨n, m, hn, e1, e2, hm, _, hu0, hlm, h24⟩ := frameB_nat hz hf
  obtain ⟨fn, at_, ls, st⟩ := x
  simp only at e1 e2
  subst e1 e2
  obtain ⟨vs, vt, rfl, _, _, hls, hst⟩ := hx
  obtain ⟨a1, c1, rfl, _, _, _⟩ := hls
  obtain ⟨a2, c2, rfl, _, hst2, _⟩ := hst
  simp only at *
  have RA := alloc_keep
  obtain ⟨b, o, cap, rfl, hcap, hby, ⟨_, hA, iA⟩, ⟨_, hL, iL⟩, vc, hC, hcode⟩ := hp.get hn
  obtain ⟨ca, ccap, rfl, hcc, hcby, hops⟩ := hcode
  have hF := funcOf_nat hn
  have hlm1 := Nat.le_of_eq hlm
  have hlm2 := Nat.le_of_eq hlm.symm
  obtain ⟨u, hu⟩ : ∃ u, (hgt p n).getD m 0 = u := ⟨_, rfl⟩
  have HU := Lib.hid hu
  rw [hu] at hu0
  obtain ⟨r, hr⟩ : ∃ r, waitB p ⟨n, m, ls, st⟩ kind a = r := ⟨_, rfl⟩
  rw [hr]
  have HR := Lib.hid hr
  have HF := Lib.hid hF
  have HO := Lib.hid hops
  clear hp hz hf hr hF hu hlm hops
  by_cases h1 : m = 0
  · have HRR : Hid (r = false) := by unfold Hid; rw [← HR.out]; unfold waitB; simp [h1]
    subst h1
    go_enter Tryz.func49, Tryz.ntmps49
    go_wp2_with (first
      | (go_at_call 47; refine (heights_right p _ _ n _ (Funcs.stays (Ext.stays ((Ext.refl w).alloc _)) HP.out) HZ.out hn).mono ?_; rintro e w2 ⟨⟨a3, c3, rfl, hi⟩, hx2⟩; have hc2 := Ext.keep hx2))
    refine wp_region_ext (by kernel_rfl) (by kernel_rfl) ?_
    repeat (first
      | go_big_quiet_skip
      | (go_big_quiet_want
         unfold Oper.quiet
         apply Exists.intro
         refine ⟨fun w' hw' => ?_, ?_⟩
         focus
           have hcq := Ext.keep hw'
           go_simp
           first
             | with_reducible rfl
             | fail
         (try dsimp only [Act.put])
         (try simp only [List.setIfInBounds_toArray, List.set_cons_succ, List.set_cons_zero])
         go_big_quiet_on))
    refine wpQuiet_nil ?_
    intro wq hq
    go_wp2_with fail
    go_ret
    exact ⟨by rw [HRR.out]; rfl, ((Ext.refl w).alloc _).trans (hx2.trans hq)⟩
  · obtain ⟨j, hj⟩ : ∃ j, m = j + 1 := ⟨m - 1, by omega⟩
    have hjl : j < p[n].code.length := by omega
    have KK4 : IntKind.i64.wrap ((m : Int) - 1) = (j : Int) := by rw [IntWalk.i64_in _ (by omega)]; omega
    have T1 : ((m : Int) == 0) = false := beq_eq_false_iff_ne.2 (by omega)
    have hml : m < (hgt p n).length := by omega
    have HUG : Hid ((hgt p n)[m] = u) := by unfold Hid; rw [← HU.out]; simp [List.getD, List.getElem?_eq_getElem hml]
    by_cases h2 : (st.length : Int) = u - 1
    · have T2 : ((st.length : Int) != u - 1) = false := by rw [bne_eq_false_iff_eq]; exact h2
      obtain ⟨cb, co, rfl, ⟨_, z0, _⟩, _, z1, _⟩ := HO.out j hjl
      obtain ⟨y, hy⟩ : ∃ y, p[n].code[j] = y := ⟨_, rfl⟩
      have HB : Hid (opBack p ⟨n, m, ls, st⟩ = y) := by
        unfold Hid opBack
        rw [HF.out]
        show p[n].code.getD ((m : Int) - 1).toNat default = y
        rw [show ((m : Int) - 1).toNat = j by omega, ← hy]
        simp [List.getD, List.getElem?_eq_getElem hjl]
      rw [hy] at z0 z1
      clear hy
      obtain ⟨k1, k2⟩ := y
      simp only at z0 z1
      have HRR : Hid (r = (decide (k1 = kind) && (!decide (kind = 11) || decide (k2 = a)))) := by
        unfold Hid
        rw [← HR.out]
        unfold waitB
        rw [HB.out]
        simp only
        rw [decide_eq_false (show ¬ (m : Int) = 0 by omega), show (hgt p (n : Int)).getD ((m : Int).toNat) 0 = u from HU.out, decide_eq_true h2]
        simp
      clear h1 h2 hj HR HB
      go_enter Tryz.func49, Tryz.ntmps49
      go_wp2_with (first
        | (go_at_call 47; refine (heights_right p _ _ n _ (Funcs.stays (Ext.stays ((Ext.refl w).alloc _)) HP.out) HZ.out hn).mono ?_; rintro e w2 ⟨⟨a3, c3, rfl, hi⟩, hx2⟩; have hc2 := Ext.keep hx2; obtain ⟨bl, ol, rfl, x0⟩ := Ints.at' hi (m := m) (by omega); have iU := hi.i64 _ (List.getElem_mem (show m < (hgt p n).length by omega)); rw [HUG.out] at iU; rw [HU.out] at x0; unfold I64 at iU; have KK3 : IntKind.i64.wrap (u - 1) = u - 1 := IntWalk.i64_in _ (by omega)))
      refine wp_region_ext (by kernel_rfl) (by kernel_rfl) ?_
      repeat (first
        | go_big_quiet_skip
        | (go_big_quiet_want
           unfold Oper.quiet
           apply Exists.intro
           refine ⟨fun w' hw' => ?_, ?_⟩
           focus
             have hcq := Ext.keep hw'
             go_simp
             first
               | with_reducible rfl
               | fail
           (try dsimp only [Act.put])
           (try simp only [List.setIfInBounds_toArray, List.set_cons_succ, List.set_cons_zero])
           go_big_quiet_on))
      refine wpQuiet_nil ?_
      intro wq hq
      have HQ := Lib.hid (((Ext.refl w).alloc _).trans (hx2.trans hq))
      have z0' := Ext.cell HQ.out z0
      have z1' := Ext.cell HQ.out z1
      have hC' := Ext.cell HQ.out hC
      have q0 := Ext.cell (hx2.trans hq) (Cx.new w [.int .i64 n, .int .i64 m, .slice a1 ls.length c1, .slice a2 st.length c2] 43 (j := 0) rfl).1
      have q1 := Ext.cell (hx2.trans hq) (Cx.new w [.int .i64 n, .int .i64 m, .slice a1 ls.length c1, .slice a2 st.length c2] 43 (j := 1) rfl).1
      go_upto_region 4 with fail
      go_region
      have y0 := (Cx.ext (Cx.new wq [.int .i64 k1, .int .i64 k2] 59 (j := 0) rfl) (Ext.refl _).drew).1
      have y1 := (Cx.ext (Cx.new wq [.int .i64 k1, .int .i64 k2] 59 (j := 1) rfl) (Ext.refl _).drew).1
      have hE5 := HQ.out.trans ((Ext.refl wq).alloc (.cells #[.int .i64 k1, .int .i64 k2] 59)).drew
      generalize (wq.alloc (.cells #[.int .i64 k1, .int .i64 k2] 59)).drew = w5 at *
      clear z0 z1 hC z0' z1' hC' q0 q1 hx2 hq
      by_cases h5 : k1 = kind
      · have T5 : (k1 == kind) = true := by simp [h5]
        by_cases h6 : kind = 11
        · have T6 : (kind != 11) = false := by rw [bne_eq_false_iff_eq]; exact h6
          have HR2 : Hid (r = decide (k2 = a)) := by unfold Hid; rw [HRR.out]; simp [h5, h6]
          have TE : (k2 == a) = decide (k2 = a) := by rw [Bool.eq_iff_iff]; simp
          clear h5 h6
          go_wp2_with fail
          go_ret
          exact ⟨by rw [HR2.out, ← TE]; rfl, hE5⟩
        · have T6 : (kind != 11) = true := bne_iff_ne.2 h6
          have HR2 : Hid (r = true) := by unfold Hid; rw [HRR.out]; simp [h5, h6]
          clear h5 h6
          go_wp2_with fail
          go_ret
          exact ⟨by rw [HR2.out]; rfl, hE5⟩
      · have T5 : (k1 == kind) = false := by simp [h5]
        have HR2 : Hid (r = false) := by unfold Hid; rw [HRR.out]; simp [h5]
        clear h5
        go_wp2_with fail
        go_ret
        exact ⟨by rw [HR2.out]; rfl, hE5⟩
    · have T2 : ((st.length : Int) != u - 1) = true := bne_iff_ne.2 h2
      have HRR : Hid (r = false) := by
        unfold Hid
        rw [← HR.out]
        unfold waitB
        rw [show (hgt p (GFrame.func ⟨n, m, ls, st⟩)).getD (GFrame.at_ ⟨n, m, ls, st⟩).toNat 0 = u from HU.out]
        simp only
        rw [decide_eq_false h2]
        simp
      clear h1 h2 hj HR
      go_enter Tryz.func49, Tryz.ntmps49
      go_wp2_with (first
        | (go_at_call 47; refine (heights_right p _ _ n _ (Funcs.stays (Ext.stays ((Ext.refl w).alloc _)) HP.out) HZ.out hn).mono ?_; rintro e w2 ⟨⟨a3, c3, rfl, hi⟩, hx2⟩; have hc2 := Ext.keep hx2; obtain ⟨bl, ol, rfl, x0⟩ := Ints.at' hi (m := m) (by omega); have iU := hi.i64 _ (List.getElem_mem (show m < (hgt p n).length by omega)); rw [HUG.out] at iU; rw [HU.out] at x0; unfold I64 at iU; have KK3 : IntKind.i64.wrap (u - 1) = u - 1 := IntWalk.i64_in _ (by omega)))
      refine wp_region_ext (by kernel_rfl) (by kernel_rfl) ?_
      repeat (first
        | go_big_quiet_skip
        | (go_big_quiet_want
           unfold Oper.quiet
           apply Exists.intro
           refine ⟨fun w' hw' => ?_, ?_⟩
           focus
             have hcq := Ext.keep hw'
             go_simp
             first
               | with_reducible rfl
               | fail
           (try dsimp only [Act.put])
           (try simp only [List.setIfInBounds_toArray, List.set_cons_succ, List.set_cons_zero])
           go_big_quiet_on))
      refine wpQuiet_nil ?_
      intro wq hq
      go_wp2_with fail
      go_ret
      exact ⟨by rw [HRR.out]; rfl, ((Ext.refl w).alloc _).trans (hx2.trans hq)⟩
theorem fresh_any (p : List GFunc) (v : Value) (S T : Nat → Prop) (x : GFiber) (vx : Value) (w : World) (hp : Funcs w S v p) (hx : FiberV w T vx x) (hf : ∀ h : 0 < x.frames.length, 0 ≤ x.frames[0].func ∧ x.frames[0].func < p.length) :
  Calls Tryz.prog 50 #[v, vx] w fun e w' => e = .returned (.bool (freshB p x)) ∧ Ext w w' := by
 have HP := Lib.hid hp
 obtain ⟨fs, cl⟩ := x
 obtain ⟨vf, rfl, hfr, _⟩ := hx
 have hfr0 := hfr
 obtain ⟨a1, c1, rfl, _, _, _⟩ := hfr
 simp only at *
 have RA := alloc_keep
 obtain ⟨r, hr⟩ : ∃ r, freshB p ⟨fs, cl⟩ = r := ⟨_, rfl⟩
 rw [hr]
 have HR := Lib.hid hr
 clear hr
 by_cases h1 : fs.length = 1
 ·have T1 : ((fs.length : Int) != 1) = false := by rw [bne_eq_false_iff_eq]; omega
  obtain ⟨x, rfl⟩ : ∃ x, fs = [x] := List.length_eq_one_iff.1 h1
  obtain ⟨b0, b1⟩ := hf (by simp)
  obtain ⟨bf, of, cf, e1, _, _, ⟨_, x0, _⟩, ⟨_, x1, _⟩, ⟨vl, x2, hls⟩, ⟨vs, x3, hss⟩⟩ := hfr0.get (i := 0) (by simp)
  simp only [Value.slice.injEq, List.getElem_cons_zero] at e1 x0 x1 hls hss b0 b1
  obtain ⟨rfl, -, rfl⟩ := e1
  rw [Nat.zero_mul, Nat.add_zero] at x0 x1 x2 x3
  obtain ⟨fn, at_, ls, st⟩ := x
  simp only at *
  obtain ⟨n, rfl⟩ : ∃ n : Nat, fn = n := ⟨fn.toNat, by omega⟩
  have hn : n < p.length := by omega
  obtain ⟨b, o, cap, rfl, hcap, hby, ⟨_, hA, iA⟩, _, _⟩ := hp.get hn
  have hF := funcOf_nat hn
  have HLS := Lib.hid hls
  obtain ⟨a2, c2, rfl, _, _, _⟩ := hls
  obtain ⟨a3, c3, rfl, _, _, _⟩ := hss
  have HRR : Hid (r = (decide (at_ = 0) && decide (p[n].args = 1) && decide (st.length = 0) && allK ls.length (fun k => decide (ls.getD k 0 = 0)))) := by
   unfold Hid
   rw [← HR.out]
   unfold freshB
   simp only [List.getD_cons_zero, hF]
   simp
  clear hF HR hfr0 hp b0 b1 hf h1
  by_cases h2 : at_ = 0
  ·have T2 : (at_ != 0) = false := by rw [bne_eq_false_iff_eq]; exact h2
   by_cases h3 : p[n].args = 1
   ·have T3 : (p[n].args != 1) = false := by rw [bne_eq_false_iff_eq]; exact h3
    by_cases h4 : st.length = 0
    ·have T4 : ((st.length : Int) != 0) = false := by rw [bne_eq_false_iff_eq]; omega
     have HR2 : Hid (r = allK ls.length (fun k => decide (ls.getD k 0 = 0))) := by unfold Hid; rw [HRR.out]; simp [h2, h3, h4]
     clear h2 h3 h4 HRR
     go_enter Tryz.func50, Tryz.ntmps50
     have BX := Lib.hid (Cx.new w [.slice (some ⟨bf, of, none⟩) 1 c1, .int .i64 cl] 41 (j := 0) rfl)
     have HX2 := Lib.hid x2
     go_wp2_with fail
     go_loopw [5] (fun q wr => ∃ k : Nat, k ≤ ls.length ∧ q = .int .i64 k ∧ Ext (w.alloc (.cells #[.slice (some ⟨bf, of, none⟩) 1 c1, .int .i64 cl] 41)) wr ∧ ∀ i, i < k → ls.getD i 0 = 0) (fun q _ => ls.length - (intOf q).toNat)
     case atStart => exact ⟨0, Nat.zero_le _, rfl, Ext.refl _, fun i hi => absurd hi (Nat.not_lt_zero _)⟩
     case round =>
      obtain ⟨k, hk, rfl, hb, hz0⟩ := hrel
      have HB := Lib.hid hb
      have HZ0 := Lib.hid hz0
      have q0 := (BX.out.ext hb).1
      have q2 := Ext.cell (((Ext.refl w).alloc _).trans hb) HX2.out
      clear hb hz0 x0 x1 x2 x3 hA
      by_cases hlt : k < ls.length
      ·obtain ⟨bl, ol, rfl, l0⟩ := Ints.at' HLS.out hlt
       have l1 := Ext.cell (((Ext.refl w).alloc _).trans HB.out) l0
       clear l0
       generalize hu : ls.getD k 0 = u at *
       have HU := Lib.hid hu
       clear hu
       by_cases h0 : u = 0
       ·have T0 : (u != 0) = false := by rw [bne_eq_false_iff_eq]; exact h0
        have HZ1 : Hid (∀ i, i < k + 1 → ls.getD i 0 = 0) := fun i hi => by
         by_cases e : i = k
         ·rw [e, HU.out]; exact h0
         ·exact HZ0.out i (by omega)
        clear h0
        go_wp2_with fail
        go_roundw
        case rel => exact ⟨k + 1, by omega, by go_num, HB.out, HZ1.out⟩
        case measure => simp [intOf]; omega
       ·have T0 : (u != 0) = true := bne_iff_ne.2 h0
        have HR3 : Hid (r = false) := by unfold Hid; rw [HR2.out]; exact allK_false hlt (by rw [HU.out]; exact decide_eq_false h0)
        clear h0
        go_wp2_with fail
        go_ret
        exact ⟨by rw [HR3.out]; rfl, ((Ext.refl w).alloc _).trans HB.out⟩
      ·obtain rfl : k = ls.length := by omega
       have HR3 : Hid (r = true) := by unfold Hid; rw [HR2.out]; exact allK_true (fun i hi => decide_eq_true (HZ0.out i hi))
       clear hlt
       go_wp2_with fail
       go_ret
       exact ⟨by rw [HR3.out]; rfl, ((Ext.refl w).alloc _).trans HB.out⟩
    ·have T4 : ((st.length : Int) != 0) = true := bne_iff_ne.2 (by omega)
     have HR2 : Hid (r = false) := by unfold Hid; rw [HRR.out]; simp [h4]
     clear h2 h3 h4 HRR
     go_enter Tryz.func50, Tryz.ntmps50
     go_wp2_with fail
     go_ret
     exact ⟨by rw [HR2.out]; rfl, (Ext.refl w).alloc _⟩
   ·have T3 : (p[n].args != 1) = true := bne_iff_ne.2 h3
    have HR2 : Hid (r = false) := by unfold Hid; rw [HRR.out]; simp [h3]
    clear h2 h3 HRR
    go_enter Tryz.func50, Tryz.ntmps50
    go_wp2_with fail
    go_ret
    exact ⟨by rw [HR2.out]; rfl, (Ext.refl w).alloc _⟩
  ·have T2 : (at_ != 0) = true := bne_iff_ne.2 h2
   have HR2 : Hid (r = false) := by unfold Hid; rw [HRR.out]; simp [h2]
   clear h2 HRR
   go_enter Tryz.func50, Tryz.ntmps50
   go_wp2_with fail
   go_ret
   exact ⟨by rw [HR2.out]; rfl, (Ext.refl w).alloc _⟩
 ·have T1 : ((fs.length : Int) != 1) = true := bne_iff_ne.2 (by omega)
  have HR2 : Hid (r = false) := by unfold Hid; rw [← HR.out]; unfold freshB; simp [h1]
  obtain ⟨a, cap, rfl, _, _, _⟩ := hp
  clear h1 HR
  go_enter Tryz.func50, Tryz.ntmps50
  go_wp2_with fail
  go_ret
  exact ⟨by rw [HR2.out]; rfl, (Ext.refl w).alloc _⟩
end Go.Proofs.YtgahbngbpfilgaaGreat
end
section
set_option maxHeartbeats 4000000
set_option maxRecDepth 100000
namespace Go.Proofs.YtgahbngbpfilgaaGreat
open Go Go.RowKit
structure FrameAt (w : World) (b o : Nat) (x : GFrame) (vl vs : Value) : Prop where
 f : w.cell? ⟨b, o, none⟩ = some (.int .i64 x.func)
 a : w.cell? ⟨b, o + 1, none⟩ = some (.int .i64 x.at_)
 l : w.cell? ⟨b, o + 2, none⟩ = some vl
 s : w.cell? ⟨b, o + 3, none⟩ = some vs
theorem FrameAt.ext {w w' : World} {b o : Nat} {x : GFrame} {vl vs : Value} (h : FrameAt w b o x vl vs) (he : Ext w w') : FrameAt w' b o x vl vs := ⟨Ext.cell he h.f, Ext.cell he h.a, Ext.cell he h.l, Ext.cell he h.s⟩
theorem Frames.at' {w : World} {S : Nat → Prop} {a : Option Addr} {fs : List GFrame} {n c : Nat} (h : Frames w S (.slice a n c) fs) {k : Nat} (hk : k < fs.length) :
  ∃ b o al cl as_ cs, a = some ⟨b, o, none⟩ ∧ FrameAt w b (o + k * 4) (fs.getD k default) (.slice al (fs.getD k default).locals.length cl) (.slice as_ (fs.getD k default).stack.length cs) ∧
   FrameV w S (.agg #[.int .i64 (fs.getD k default).func, .int .i64 (fs.getD k default).at_, .slice al (fs.getD k default).locals.length cl, .slice as_ (fs.getD k default).stack.length cs]) (fs.getD k default) := by
 have e : fs.getD k default = fs[k] := by simp [List.getD, List.getElem?_eq_getElem hk]
 rw [e]
 obtain ⟨b, o, c', e1, _, _, ⟨_, x0, i0⟩, ⟨_, x1, i1⟩, ⟨vl, x2, hl⟩, ⟨vs, x3, hs⟩⟩ := h.get hk
 simp only [Value.slice.injEq] at e1
 obtain ⟨rfl, -, rfl⟩ := e1
 have hl2 := hl
 have hs2 := hs
 obtain ⟨al, cl, rfl, _, _, _⟩ := hl
 obtain ⟨as_, cs, rfl, _, _, _⟩ := hs
 exact ⟨b, o, al, cl, as_, cs, rfl, ⟨x0, x1, x2, x3⟩, _, _, rfl, i0, i1, hl2, hs2⟩
theorem fiberFine_any (p : List GFunc) (v : Value) (S T : Nat → Prop) (x : GFiber) (vx : Value) (on runs : Bool) (w : World) (hp : Funcs w S v p) (hz : progErr p = 0) (hx : FiberV w T vx x) :
    Calls Tryz.prog 23 #[v, vx, .bool on, .bool runs] w fun e w' => e = .returned (.bool (fiberB p x on runs)) ∧ Ext w w' := by
  have HP := Lib.hid hp
  have HZ := Lib.hid hz
  have HX := Lib.hid hx
  obtain ⟨ap, capp, rfl, _, _, _⟩ := hp
  obtain ⟨fs, cl⟩ := x
  obtain ⟨vf, rfl, hfr, _⟩ := hx
  have HFR := Lib.hid hfr
  obtain ⟨af, cf, rfl, _, hby, _⟩ := hfr
  simp only at *
  have RA := alloc_keep
  have hlen5 := (progErr_zero hz).most
  have KK1 : IntKind.i64.wrap ((p.length : Int) - 1) = (p.length : Int) - 1 := IntWalk.i64_in _ (by omega)
  obtain ⟨r, hr⟩ : ∃ r, fiberB p ⟨fs, cl⟩ on runs = r := ⟨_, rfl⟩
  rw [hr]
  have HR := Lib.hid hr
  clear hr hz
  have BX := Lib.hid (⟨Cx.new w [.slice af fs.length cf, .int .i64 cl] 41 (j := 0) rfl, Cx.new w [.slice af fs.length cf, .int .i64 cl] 41 (j := 1) rfl⟩ : _ ∧ _)
  have HE1 := Lib.hid ((Ext.refl w).alloc (.cells #[.slice af fs.length cf, .int .i64 cl] 41))
  by_cases h0 : fs.length = 0
  · have T0 : ((fs.length : Int) == 0) = true := by simp [h0]
    have HR2 : Hid (r = (!on && decide (cl = -1))) := by unfold Hid; rw [← HR.out]; unfold fiberB; rw [if_pos h0]
    clear h0
    cases on with
    | true =>
      go_enter Tryz.func23, Tryz.ntmps23
      go_wp2_with fail
      go_ret
      exact ⟨by rw [HR2.out]; rfl, HE1.out⟩
    | false =>
      have TE : (cl == -1) = decide (cl = -1) := by rw [Bool.eq_iff_iff]; simp
      have HR3 : Hid (r = (cl == -1)) := by unfold Hid; rw [HR2.out, TE]; rfl
      clear TE
      go_enter Tryz.func23, Tryz.ntmps23
      go_wp2_with fail
      go_ret
      exact ⟨by rw [HR3.out]; rfl, HE1.out⟩
  · have T0 : ((fs.length : Int) == 0) = false := beq_eq_false_iff_ne.2 (by omega)
    have HR2 : Hid (r = (allK fs.length (onB p fs) && topB p ⟨fs, cl⟩ on runs (fs.getD (fs.length - 1) default))) := by unfold Hid; rw [← HR.out]; unfold fiberB; rw [if_neg h0]
    clear HR
    go_enter Tryz.func23, Tryz.ntmps23
    go_wp2_with fail
    generalize w.alloc (.cells #[.slice af fs.length cf, .int .i64 cl] 41) = w1 at *
    go_loopw [10] (fun q wr => ∃ k : Nat, k ≤ fs.length ∧ q = .int .i64 k ∧ Ext w1 wr ∧ ∀ i, i < k → onB p fs i = true) (fun q _ => fs.length - (intOf q).toNat)
    case atStart => exact ⟨0, Nat.zero_le _, rfl, Ext.refl _, fun i hi => absurd hi (Nat.not_lt_zero _)⟩
    case round =>
      obtain ⟨k, hk, rfl, hb, hall⟩ := hrel
      have HB := Lib.hid hb
      have HALL := Lib.hid hall
      obtain ⟨⟨q0, -⟩, ⟨q1, -⟩⟩ := (⟨BX.out.1.ext hb, BX.out.2.ext hb⟩ : _ ∧ _)
      clear hb hall
      by_cases hlt : k < fs.length
      · obtain ⟨bf, of, al, cl1, as_, cs1, rfl, hfa, hfv⟩ := (Frames.stays (Ext.stays (HE1.out.trans HB.out)) HFR.out).at' hlt
        have HFV := Lib.hid hfv
        obtain ⟨x0, x1, x2, x3⟩ := hfa
        clear hfv
        obtain ⟨k1, hk1⟩ : ∃ k1, k1 = k + 1 := ⟨_, rfl⟩
        have HK1 := Lib.hid hk1
        have KK2 : IntKind.i64.wrap ((k : Int) + 1) = (k1 : Int) := by rw [IntWalk.i64_in _ (by omega), hk1]; rfl
        clear hk1
        by_cases h1 : frameB p (fs.getD k default) = true
        · have HF1 := Lib.hid h1
          by_cases h2 : k + 1 < fs.length
          · have h21 : k1 < fs.length := by rw [HK1.out]; exact h2
            have T2 : decide ((k1 : Int) < (fs.length : Int)) = true := decide_eq_true (by omega)
            obtain ⟨bg, og, _, _, _, _, eg, hga, _⟩ := (Frames.stays (Ext.stays (HE1.out.trans HB.out)) HFR.out).at' h21
            simp only [Option.some.injEq, Addr.mk.injEq, and_true] at eg
            obtain ⟨rfl, rfl⟩ := eg
            have y0 := hga.f
            clear hga
            have HOB : Hid (onB p fs k = (decide (0 ≤ (fs.getD k1 default).func ∧ (fs.getD k1 default).func < p.length) && waitB p (fs.getD k default) 11 (fs.getD k1 default).func)) := by
              rw [HK1.out]
              unfold Hid onB
              rw [h1, decide_eq_true h2]
              rfl
            generalize fs.getD k1 default = y at *
            generalize fs.getD k default = x at *
            obtain ⟨yf, hyf⟩ : ∃ yf, y.func = yf := ⟨_, rfl⟩
            rw [hyf] at y0 HOB
            clear hyf h1 h2
            by_cases h3 : 0 ≤ yf ∧ yf < p.length
            · have HW1 : Hid (decide (0 ≤ yf ∧ yf ≤ (p.length : Int) - 1) = true) := decide_eq_true (by omega)
              cases h4 : waitB p x 11 yf with
              | true =>
                have HW2 := Lib.hid h4
                have HO : Hid (onB p fs k = true) := by unfold Hid; rw [HOB.out, h4, decide_eq_true h3]; rfl
                clear h3 h4
                go_upto_region 7 with fail
                refine wp_region_ext (by kernel_rfl) (by kernel_rfl) ?_
                repeat (first
                  | go_big_quiet_skip
                  | (go_big_quiet_want
                     unfold Oper.quiet
                     apply Exists.intro
                     refine ⟨fun w' hw' => ?_, ?_⟩
                     focus
                       have hcq := Ext.keep hw'
                       go_simp
                       first
                         | with_reducible rfl
                         | (go_at_call 48; refine (frameFine_any p _ _ _ x _ _ (Funcs.stays (Ext.stays ((HE1.out.trans HB.out).trans hw')) HP.out) HZ.out (FrameV.stays (Ext.stays hw') HFV.out)).mono ?_; rintro e w2 ⟨rfl, hx2⟩; rw [HF1.out]; exact ⟨rfl, hw'.trans hx2⟩) | (go_at_call 21; refine (within_any _ _ _ _).mono ?_; rintro e w2 ⟨rfl, rfl⟩; rw [HW1.out]; exact ⟨rfl, hw'⟩) | (go_at_call 49; refine (waits_any p _ _ _ x _ _ _ _ (Funcs.stays (Ext.stays ((HE1.out.trans HB.out).trans hw')) HP.out) HZ.out (FrameV.stays (Ext.stays hw') HFV.out) HF1.out).mono ?_; rintro e w2 ⟨rfl, hx2⟩; rw [HW2.out]; exact ⟨rfl, hw'.trans hx2⟩)
                     (try dsimp only [Act.put])
                     (try simp only [List.setIfInBounds_toArray, List.set_cons_succ, List.set_cons_zero])
                     go_big_quiet_on))
                refine wpQuiet_nil ?_
                intro wq hq
                go_wp2_with fail
                go_roundw
                case rel => exact ⟨k + 1, by omega, by rw [HK1.out], HB.out.trans hq, fun i hi => by
                  by_cases e : i = k
                  · rw [e]; exact HO.out
                  · exact HALL.out i (by omega)⟩
                case measure => simp [intOf, HK1.out]; omega
              | false =>
                have HW2 := Lib.hid h4
                have HO : Hid (r = false) := by unfold Hid; rw [HR2.out, allK_false hlt (by rw [HOB.out, h4, decide_eq_true h3]; rfl)]; rfl
                clear h3 h4
                go_upto_region 7 with fail
                refine wp_region_ext (by kernel_rfl) (by kernel_rfl) ?_
                repeat (first
                  | go_big_quiet_skip
                  | (go_big_quiet_want
                     unfold Oper.quiet
                     apply Exists.intro
                     refine ⟨fun w' hw' => ?_, ?_⟩
                     focus
                       have hcq := Ext.keep hw'
                       go_simp
                       first
                         | with_reducible rfl
                         | (go_at_call 48; refine (frameFine_any p _ _ _ x _ _ (Funcs.stays (Ext.stays ((HE1.out.trans HB.out).trans hw')) HP.out) HZ.out (FrameV.stays (Ext.stays hw') HFV.out)).mono ?_; rintro e w2 ⟨rfl, hx2⟩; rw [HF1.out]; exact ⟨rfl, hw'.trans hx2⟩) | (go_at_call 21; refine (within_any _ _ _ _).mono ?_; rintro e w2 ⟨rfl, rfl⟩; rw [HW1.out]; exact ⟨rfl, hw'⟩) | (go_at_call 49; refine (waits_any p _ _ _ x _ _ _ _ (Funcs.stays (Ext.stays ((HE1.out.trans HB.out).trans hw')) HP.out) HZ.out (FrameV.stays (Ext.stays hw') HFV.out) HF1.out).mono ?_; rintro e w2 ⟨rfl, hx2⟩; rw [HW2.out]; exact ⟨rfl, hw'.trans hx2⟩)
                     (try dsimp only [Act.put])
                     (try simp only [List.setIfInBounds_toArray, List.set_cons_succ, List.set_cons_zero])
                     go_big_quiet_on))
                refine wpQuiet_nil ?_
                intro wq hq
                go_wp2_with fail
                go_ret
                exact ⟨by rw [HO.out]; rfl, (HE1.out.trans HB.out).trans hq⟩
            · have HW1 : Hid (decide (0 ≤ yf ∧ yf ≤ (p.length : Int) - 1) = false) := decide_eq_false (by omega)
              have HO : Hid (r = false) := by unfold Hid; rw [HR2.out, allK_false hlt (by rw [HOB.out, decide_eq_false h3]; rfl)]; rfl
              clear h3
              go_upto_region 7 with fail
              refine wp_region_ext (by kernel_rfl) (by kernel_rfl) ?_
              repeat (first
                | go_big_quiet_skip
                | (go_big_quiet_want
                   unfold Oper.quiet
                   apply Exists.intro
                   refine ⟨fun w' hw' => ?_, ?_⟩
                   focus
                     have hcq := Ext.keep hw'
                     go_simp
                     first
                       | with_reducible rfl
                       | (go_at_call 48; refine (frameFine_any p _ _ _ x _ _ (Funcs.stays (Ext.stays ((HE1.out.trans HB.out).trans hw')) HP.out) HZ.out (FrameV.stays (Ext.stays hw') HFV.out)).mono ?_; rintro e w2 ⟨rfl, hx2⟩; rw [HF1.out]; exact ⟨rfl, hw'.trans hx2⟩) | (go_at_call 21; refine (within_any _ _ _ _).mono ?_; rintro e w2 ⟨rfl, rfl⟩; rw [HW1.out]; exact ⟨rfl, hw'⟩)
                   (try dsimp only [Act.put])
                   (try simp only [List.setIfInBounds_toArray, List.set_cons_succ, List.set_cons_zero])
                   go_big_quiet_on))
              refine wpQuiet_nil ?_
              intro wq hq
              go_wp2_with fail
              go_ret
              exact ⟨by rw [HO.out]; rfl, (HE1.out.trans HB.out).trans hq⟩
          · have T2 : decide ((k1 : Int) < (fs.length : Int)) = false := decide_eq_false (by rw [HK1.out]; omega)
            have T2n : decide (k1 < fs.length) = false := decide_eq_false (by rw [HK1.out]; omega)
            have HO : Hid (onB p fs k = true) := by unfold Hid onB; rw [h1, decide_eq_false h2]; rfl
            generalize fs.getD k default = x at *
            clear h1 h2
            go_upto_region 7 with fail
            refine wp_region_ext (by kernel_rfl) (by kernel_rfl) ?_
            repeat (first
              | go_big_quiet_skip
              | (go_big_quiet_want
                 unfold Oper.quiet
                 apply Exists.intro
                 refine ⟨fun w' hw' => ?_, ?_⟩
                 focus
                   have hcq := Ext.keep hw'
                   go_simp
                   first
                     | with_reducible rfl
                     | (go_at_call 48; refine (frameFine_any p _ _ _ x _ _ (Funcs.stays (Ext.stays ((HE1.out.trans HB.out).trans hw')) HP.out) HZ.out (FrameV.stays (Ext.stays hw') HFV.out)).mono ?_; rintro e w2 ⟨rfl, hx2⟩; rw [HF1.out]; exact ⟨rfl, hw'.trans hx2⟩)
                 (try dsimp only [Act.put])
                 (try simp only [List.setIfInBounds_toArray, List.set_cons_succ, List.set_cons_zero])
                 go_big_quiet_on))
            refine wpQuiet_nil ?_
            intro wq hq
            go_wp2_with fail
            go_roundw
            case rel => exact ⟨k + 1, by omega, by rw [HK1.out], HB.out.trans hq, fun i hi => by
              by_cases e : i = k
              · rw [e]; exact HO.out
              · exact HALL.out i (by omega)⟩
            case measure => simp [intOf, HK1.out]; omega
        · have HF1 : Hid (frameB p (fs.getD k default) = false) := Bool.eq_false_iff.2 h1
          have HO : Hid (r = false) := by unfold Hid; rw [HR2.out, allK_false hlt (by unfold onB; rw [HF1.out]; rfl)]; rfl
          generalize fs.getD k default = x at *
          clear h1
          go_upto_region 7 with fail
          refine wp_region_ext (by kernel_rfl) (by kernel_rfl) ?_
          repeat (first
            | go_big_quiet_skip
            | (go_big_quiet_want
               unfold Oper.quiet
               apply Exists.intro
               refine ⟨fun w' hw' => ?_, ?_⟩
               focus
                 have hcq := Ext.keep hw'
                 go_simp
                 first
                   | with_reducible rfl
                   | (go_at_call 48; refine (frameFine_any p _ _ _ x _ _ (Funcs.stays (Ext.stays ((HE1.out.trans HB.out).trans hw')) HP.out) HZ.out (FrameV.stays (Ext.stays hw') HFV.out)).mono ?_; rintro e w2 ⟨rfl, hx2⟩; rw [HF1.out]; exact ⟨rfl, hw'.trans hx2⟩)
               (try dsimp only [Act.put])
               (try simp only [List.setIfInBounds_toArray, List.set_cons_succ, List.set_cons_zero])
               go_big_quiet_on))
          refine wpQuiet_nil ?_
          intro wq hq
          go_wp2_with fail
          go_ret
          exact ⟨by rw [HO.out]; rfl, (HE1.out.trans HB.out).trans hq⟩
      · obtain rfl : k = fs.length := by omega
        have HR3 : Hid (r = topB p ⟨fs, cl⟩ on runs (fs.getD (fs.length - 1) default)) := by unfold Hid; rw [HR2.out, allK_true HALL.out, Bool.true_and]
        obtain ⟨j, hj⟩ : ∃ j, fs.length = j + 1 := ⟨fs.length - 1, by omega⟩
        have hjl : j < fs.length := by omega
        have hon := HALL.out j hjl
        have HF1 : Hid (frameB p (fs.getD j default) = true) := by
          unfold Hid
          unfold onB at hon
          rw [Bool.and_eq_true] at hon
          exact hon.1
        have HFR0 : Hid (∀ h : 0 < fs.length, 0 ≤ fs[0].func ∧ fs[0].func < p.length) := fun h => by
          have h1 := HALL.out 0 h
          unfold onB at h1
          rw [Bool.and_eq_true] at h1
          have h2 := h1.1
          unfold frameB at h2
          simp only [Bool.and_eq_true, decide_eq_true_eq] at h2
          have e : fs.getD 0 default = fs[0] := by simp [List.getD, List.getElem?_eq_getElem h]
          rw [e] at h2
          exact h2.1.1.1
        rw [show fs.length - 1 = j by omega] at HR3
        obtain ⟨bf, of, al, cl1, as_, cs1, rfl, hfa, hfv⟩ := (Frames.stays (Ext.stays (HE1.out.trans HB.out)) HFR.out).at' hjl
        have KK2 : IntKind.i64.wrap ((fs.length : Int) - 1) = (j : Int) := by rw [IntWalk.i64_in _ (by omega)]; omega
        have HFV := Lib.hid hfv
        obtain ⟨x0, x1, x2, x3⟩ := hfa
        clear hfv hon hlt
        generalize fs.getD j default = x at *
        clear hj
        rename World => wr
        obtain ⟨n, m, hn, e1, e2, hm, _, hu0, hlm, h24⟩ := frameB_nat HZ.out HF1.out
        obtain ⟨fn, at_, ls, st⟩ := x
        simp only at e1 e2
        subst e1 e2
        simp only at *
        have hlm1 := Nat.le_of_eq hlm
        have hlm2 := Nat.le_of_eq hlm.symm
        have tb := Lib.hid (⟨(Cx.new wr [.int .i64 n, .int .i64 m, .slice al ls.length cl1, .slice as_ st.length cs1] 43 (j := 0) rfl).1, (Cx.new wr [.int .i64 n, .int .i64 m, .slice al ls.length cl1, .slice as_ st.length cs1] 43 (j := 1) rfl).1, (Cx.new wr [.int .i64 n, .int .i64 m, .slice al ls.length cl1, .slice as_ st.length cs1] 43 (j := 2) rfl).1, (Cx.new wr [.int .i64 n, .int .i64 m, .slice al ls.length cl1, .slice as_ st.length cs1] 43 (j := 3) rfl).1⟩ : _ ∧ _ ∧ _ ∧ _)
        have hEX : Ext wr (wr.alloc (.cells #[.int .i64 n, .int .i64 m, .slice al ls.length cl1, .slice as_ st.length cs1] 43)) := (Ext.refl _).alloc _
        have HEX0 := Lib.hid hEX
        have q0' := Ext.cell hEX q0
        have q1' := Ext.cell hEX q1
        clear hlm hEX
        go_upto_region 10 with fail
        generalize wr.heap.size = bt at *
        generalize wr.alloc (.cells #[.int .i64 n, .int .i64 m, .slice al ls.length cl1, .slice as_ st.length cs1] 43) = w5 at *
        have HE5 := Lib.hid ((HE1.out.trans HB.out).trans HEX0.out)
        obtain ⟨t0, t1, t2, t3⟩ := tb.out
        clear q0 q1 x0 x1 x2 x3
        cases runs with
        | true =>
          have hml : m < (hgt p n).length := by omega
          obtain ⟨u, hu⟩ : ∃ u, (hgt p n).getD m 0 = u := ⟨_, rfl⟩
          have HU := Lib.hid hu
          have HR4 : Hid (r = ((st.length : Int) == u)) := by
            unfold Hid
            rw [HR3.out]
            unfold topB fullB
            rw [if_pos rfl, show (hgt p (GFrame.func ⟨n, m, ls, st⟩)).getD (GFrame.at_ ⟨n, m, ls, st⟩).toNat 0 = u from HU.out, Bool.eq_iff_iff]
            simp
          clear hu
          go_upto_region 12 with (first
            | (go_at_call 47; refine (heights_right p _ _ n _ (Funcs.stays (Ext.stays HE5.out) HP.out) HZ.out hn).mono ?_; rintro e w2 ⟨⟨a3, c3, rfl, hi⟩, hx2⟩; obtain ⟨bl, ol, rfl, l0⟩ := Ints.at' hi (m := m) (by omega); rw [HU.out] at l0))
          have t1' := Ext.cell hx2 t1
          have t3' := Ext.cell hx2 t3
          refine wp_region_ext (by kernel_rfl) (by kernel_rfl) ?_
          repeat (first
            | go_big_quiet_skip
            | (go_big_quiet_want
               unfold Oper.quiet
               apply Exists.intro
               refine ⟨fun w' hw' => ?_, ?_⟩
               focus
                 have hcq := Ext.keep hw'
                 go_simp
                 first
                   | with_reducible rfl
                   | fail
               (try dsimp only [Act.put])
               (try simp only [List.setIfInBounds_toArray, List.set_cons_succ, List.set_cons_zero])
               go_big_quiet_on))
          refine wpQuiet_nil ?_
          intro wq hq
          go_wp2_with fail
          go_ret
          exact ⟨by rw [HR4.out]; rfl, HE5.out.trans (hx2.trans hq)⟩
        | false =>
          cases on with
          | true =>
            have HR4 : Hid (r = waitB p ⟨n, m, ls, st⟩ 14 0) := by unfold Hid; rw [HR3.out]; rfl
            go_wp2_with (first
              | (go_at_call 49; refine (waits_any p _ _ _ ⟨n, m, ls, st⟩ _ _ _ _ (Funcs.stays (Ext.stays HE5.out) HP.out) HZ.out (FrameV.stays (Ext.stays HEX0.out) HFV.out) HF1.out).mono ?_; rintro e w2 ⟨rfl, hx2⟩; rw [← HR4.out]))
            go_ret
            exact ⟨rfl, HE5.out.trans hx2⟩
          | false =>
            have HR4 : Hid (r = (decide (cl = -1) && (freshB p ⟨fs, cl⟩ || waitB p ⟨n, m, ls, st⟩ 15 0))) := by unfold Hid; rw [HR3.out]; rfl
            by_cases hc : cl = -1
            · have T1 : (cl == -1) = true := by simp [hc]
              cases hfr : freshB p ⟨fs, cl⟩ with
              | true =>
                have HW := Lib.hid hfr
                have HR5 : Hid (r = true) := by unfold Hid; rw [HR4.out, hfr, decide_eq_true hc]; rfl
                clear hfr hc
                go_wp2_with (first
                  | (go_at_call 50; refine (fresh_any p _ _ _ ⟨fs, cl⟩ _ _ (Funcs.stays (Ext.stays HE5.out) HP.out) (FiberV.stays (Ext.stays HE5.out) HX.out) HFR0.out).mono ?_; rintro e w2 ⟨rfl, hx2⟩; rw [HW.out]))
                go_ret
                exact ⟨by rw [HR5.out]; rfl, HE5.out.trans hx2⟩
              | false =>
                have HW := Lib.hid hfr
                have HR5 : Hid (r = waitB p ⟨n, m, ls, st⟩ 15 0) := by unfold Hid; rw [HR4.out, hfr, decide_eq_true hc]; rfl
                clear hfr hc
                go_wp2_with (first
                  | (go_at_call 50; refine (fresh_any p _ _ _ ⟨fs, cl⟩ _ _ (Funcs.stays (Ext.stays HE5.out) HP.out) (FiberV.stays (Ext.stays HE5.out) HX.out) HFR0.out).mono ?_; rintro e w2 ⟨rfl, hx2⟩; rw [HW.out]; have s0 := Ext.cell hx2 t0; have s1 := Ext.cell hx2 t1; have s2 := Ext.cell hx2 t2; have s3 := Ext.cell hx2 t3)
                  | (go_at_call 49; refine (waits_any p _ _ _ ⟨n, m, ls, st⟩ _ _ _ _ (Funcs.stays (Ext.stays (HE5.out.trans hx2)) HP.out) HZ.out (FrameV.stays (Ext.stays (HEX0.out.trans hx2)) HFV.out) HF1.out).mono ?_; rintro e w3 ⟨rfl, hx3⟩; rw [← HR5.out]))
                go_ret
                exact ⟨rfl, (HE5.out.trans hx2).trans hx3⟩
            · have T1 : (cl == -1) = false := beq_eq_false_iff_ne.2 hc
              have HR5 : Hid (r = false) := by unfold Hid; rw [HR4.out, decide_eq_false hc]; rfl
              clear hc
              go_wp2_with fail
              go_ret
              exact ⟨by rw [HR5.out]; rfl, HE5.out⟩
end Go.Proofs.YtgahbngbpfilgaaGreat
end
section
set_option maxHeartbeats 4000000
set_option maxRecDepth 100000
namespace Go.Proofs.YtgahbngbpfilgaaGreat
open Go Go.RowKit
theorem Fibers.at' {w : World} {S : Nat → Prop} {a : Option Addr} {fs : List GFiber} {n c : Nat} (h : Fibers w S (.slice a n c) fs) {k : Nat} (hk : k < fs.length) :
  ∃ b o af cf, a = some ⟨b, o, none⟩ ∧ w.cell? ⟨b, o + k * 2, none⟩ = some (.slice af (fs.getD k default).frames.length cf) ∧ w.cell? ⟨b, o + k * 2 + 1, none⟩ = some (.int .i64 (fs.getD k default).caller) ∧
   FiberV w S (.agg #[.slice af (fs.getD k default).frames.length cf, .int .i64 (fs.getD k default).caller]) (fs.getD k default) := by
 have e : fs.getD k default = fs[k] := by simp [List.getD, List.getElem?_eq_getElem hk]
 rw [e]
 obtain ⟨b, o, c', e1, _, _, ⟨vf, x0, hf⟩, ⟨_, x1, i1⟩⟩ := h.get hk
 simp only [Value.slice.injEq] at e1
 obtain ⟨rfl, -, rfl⟩ := e1
 have hf2 := hf
 obtain ⟨af, cf, rfl, _, _, _⟩ := hf
 exact ⟨b, o, af, cf, rfl, x0, x1, _, rfl, hf2, i1⟩
theorem stateError_any (p : List GFunc) (v : Value) (S T : Nat → Prop) (s : GState) (vs : Value) (w : World) (hp : Funcs w S v p) (hs : StateV w T vs s) :
    Calls Tryz.prog 5 #[v, vs] w fun e w' => e = .returned (.int .i64 (stateErr p s)) ∧ Ext w w' := by
  have HP := Lib.hid hp
  have HS := Lib.hid hs
  obtain ⟨ap, capp, rfl, _, _, _⟩ := hp
  obtain ⟨x, y, rfl, hfs, _, hout⟩ := hs
  have HFS := Lib.hid hfs
  obtain ⟨af, cf, rfl, _, _, _⟩ := hfs
  obtain ⟨ao, co, rfl, _, _, _⟩ := hout
  have RA := alloc_keep
  obtain ⟨r, hr⟩ : ∃ r, stateErr p s = r := ⟨_, rfl⟩
  rw [hr]
  have HR := Lib.hid hr
  clear hr
  have BX := Lib.hid (⟨Cx.new w [.slice af s.fibers.length cf, .int .i64 s.now, .slice ao s.out.length co] 26 (j := 0) rfl, Cx.new w [.slice af s.fibers.length cf, .int .i64 s.now, .slice ao s.out.length co] 26 (j := 1) rfl, Cx.new w [.slice af s.fibers.length cf, .int .i64 s.now, .slice ao s.out.length co] 26 (j := 2) rfl⟩ : _ ∧ _ ∧ _)
  have HE1 := Lib.hid ((Ext.refl w).alloc (.cells #[.slice af s.fibers.length cf, .int .i64 s.now, .slice ao s.out.length co] 26))
  by_cases hz : progErr p = 0
  · have HZ := Lib.hid hz
    have HR1 : Hid (r = if 5 < s.fibers.length ∨ 30 < s.out.length then 2 else if allK s.fibers.length (framesFew s) = false then 2 else if s.fibers.length = 0 then 5 else if ¬ (-1 ≤ s.now ∧ s.now ≤ (s.fibers.length : Int) - 1) then 3 else if allK s.fibers.length (callersB s) = false then 3 else lineErr p s) := by
      unfold Hid
      rw [← HR.out]
      unfold stateErr
      rw [if_neg (fun h => h hz)]
    have TZ : Hid (progErr p = 0) := hz
    clear hz HR
    go_enter Tryz.func5, Tryz.ntmps5
    go_upto_region 4 with (first
      | (go_at_call 20; (with_reducible refine (progError_any p _ S _ (Funcs.stays (Ext.stays HE1.out) HP.out)).mono ?_); rintro e w2 ⟨rfl, hx2⟩; rw [HZ.out]))
    have HE2 := Lib.hid (HE1.out.trans hx2)
    have BX2 := Lib.hid (⟨BX.out.1.ext hx2, BX.out.2.1.ext hx2, BX.out.2.2.ext hx2⟩ : _ ∧ _ ∧ _)
    obtain ⟨⟨b0, -⟩, ⟨b1, -⟩, ⟨b2, -⟩⟩ := BX2.out
    clear hx2 HE1 BX
    rename World => w2
    by_cases h5 : 5 < s.fibers.length
    · have T5 : decide ((5 : Int) < (s.fibers.length : Int)) = true := decide_eq_true (by omega)
      have HR2 : Hid (r = 2) := by unfold Hid; rw [HR1.out, if_pos (.inl h5)]
      clear h5
      go_wp2_with fail
      go_ret
      exact ⟨by rw [HR2.out]; rfl, HE2.out⟩
    · have T5 : decide ((5 : Int) < (s.fibers.length : Int)) = false := decide_eq_false (by omega)
      have T5n : decide (5 < s.fibers.length) = false := decide_eq_false h5
      by_cases h30 : 30 < s.out.length
      · have T30 : decide ((30 : Int) < (s.out.length : Int)) = true := decide_eq_true (by omega)
        have HR2 : Hid (r = 2) := by unfold Hid; rw [HR1.out, if_pos (.inr h30)]
        clear h30
        go_wp2_with fail
        go_ret
        exact ⟨by rw [HR2.out]; rfl, HE2.out⟩
      · have T30 : decide ((30 : Int) < (s.out.length : Int)) = false := decide_eq_false (by omega)
        have T30n : decide (30 < s.out.length) = false := decide_eq_false h30
        have HR2 : Hid (r = if allK s.fibers.length (framesFew s) = false then 2 else if s.fibers.length = 0 then 5 else if ¬ (-1 ≤ s.now ∧ s.now ≤ (s.fibers.length : Int) - 1) then 3 else if allK s.fibers.length (callersB s) = false then 3 else lineErr p s) := by
          unfold Hid; rw [HR1.out, if_neg (by omega)]
        have h5' : s.fibers.length ≤ 5 := by omega
        clear h30 h5 HR1
        go_upto_region 6 with fail
        clear T5 T5n T30 T30n b0 b1 b2
        go_wp2_with fail
        go_loopw [6] (fun q wr => ∃ k : Nat, k ≤ s.fibers.length ∧ q = .int .i64 k ∧ Ext w2 wr ∧ ∀ i, i < k → framesFew s i = true) (fun q _ => s.fibers.length - (intOf q).toNat)
        case atStart => exact ⟨0, Nat.zero_le _, rfl, Ext.refl _, fun i hi => absurd hi (Nat.not_lt_zero _)⟩
        case round =>
          obtain ⟨k, hk, rfl, hb, hall⟩ := hrel
          have HB := Lib.hid hb
          have HALL := Lib.hid hall
          obtain ⟨⟨b0, -⟩, ⟨b1, -⟩, ⟨b2, -⟩⟩ := (⟨BX2.out.1.ext hb, BX2.out.2.1.ext hb, BX2.out.2.2.ext hb⟩ : _ ∧ _ ∧ _)
          clear hb hall
          by_cases hlt : k < s.fibers.length
          · obtain ⟨bf, of, ag, cg, rfl, x0, x1, _⟩ := (Fibers.stays (Ext.stays (HE2.out.trans HB.out)) HFS.out).at' hlt
            obtain ⟨m, hm⟩ : ∃ m, (s.fibers.getD k default).frames.length = m := ⟨_, rfl⟩
            rw [hm] at x0
            have HM := Lib.hid hm
            clear hm x1
            by_cases h6 : m ≤ 6
            · have T6 : decide ((6 : Int) < (m : Int)) = false := decide_eq_false (by omega)
              have T6n : decide (6 < m) = false := decide_eq_false (by omega)
              have HO : Hid (framesFew s k = true) := by unfold Hid framesFew; rw [HM.out]; exact decide_eq_true h6
              clear h6
              go_wp2_with fail
              go_roundw
              case rel => exact ⟨k + 1, by omega, by go_num, HB.out, fun i hi => by
                by_cases e : i = k
                · rw [e]; exact HO.out
                · exact HALL.out i (by omega)⟩
              case measure => simp [intOf]; omega
            · have T6 : decide ((6 : Int) < (m : Int)) = true := decide_eq_true (by omega)
              have HR3 : Hid (r = 2) := by unfold Hid; rw [HR2.out, if_pos (allK_false hlt (by unfold framesFew; rw [HM.out]; exact decide_eq_false h6))]
              clear h6
              go_wp2_with fail
              go_ret
              exact ⟨by rw [HR3.out]; rfl, HE2.out.trans HB.out⟩
          · obtain rfl : k = s.fibers.length := by omega
            have HR3 : Hid (r = if s.fibers.length = 0 then 5 else if ¬ (-1 ≤ s.now ∧ s.now ≤ (s.fibers.length : Int) - 1) then 3 else if allK s.fibers.length (callersB s) = false then 3 else lineErr p s) := by
              unfold Hid; rw [HR2.out, allK_true HALL.out, if_neg (by decide)]
            have HE3 := Lib.hid (HE2.out.trans HB.out)
            have BX3 := Lib.hid (⟨BX2.out.1.ext HB.out, BX2.out.2.1.ext HB.out, BX2.out.2.2.ext HB.out⟩ : _ ∧ _ ∧ _)
            clear HE2 BX2 HR2 HALL hlt
            rename World => w3
            by_cases h0 : s.fibers.length = 0
            · have T0 : ((s.fibers.length : Int) == 0) = true := by simp [h0]
              have HR4 : Hid (r = 5) := by unfold Hid; rw [HR3.out, if_pos h0]
              clear h0
              go_wp2_with fail
              go_ret
              exact ⟨by rw [HR4.out]; rfl, HE3.out⟩
            · have T0 : ((s.fibers.length : Int) == 0) = false := beq_eq_false_iff_ne.2 (by omega)
              have hpos : 0 < s.fibers.length := by omega
              have KK : IntKind.i64.wrap ((s.fibers.length : Int) - 1) = (s.fibers.length : Int) - 1 := IntWalk.i64_in _ (by omega)
              by_cases hn : -1 ≤ s.now ∧ s.now ≤ (s.fibers.length : Int) - 1
              · have HW1 : Hid (decide (-1 ≤ s.now ∧ s.now ≤ (s.fibers.length : Int) - 1) = true) := decide_eq_true hn
                have HNOW := Lib.hid hn
                have HR4 : Hid (r = if allK s.fibers.length (callersB s) = false then 3 else lineErr p s) := by unfold Hid; rw [HR3.out, if_neg h0, if_neg (fun h => h hn)]
                clear h0 hn HR3
                go_upto_region 15 with (first
                  | (go_at_call 21; (with_reducible refine (within_any _ _ _ _).mono ?_); rintro e w4 ⟨rfl, rfl⟩; rw [HW1.out]))
                go_wp2_with fail
                clear b0 b1 b2
                go_loopw [7] (fun q wr => ∃ k : Nat, k ≤ s.fibers.length ∧ q = .int .i64 k ∧ Ext w3 wr ∧ ∀ i, i < k → callersB s i = true) (fun q _ => s.fibers.length - (intOf q).toNat)
                case atStart => exact ⟨0, Nat.zero_le _, rfl, Ext.refl _, fun i hi => absurd hi (Nat.not_lt_zero _)⟩
                case round =>
                  obtain ⟨k, hk, rfl, hb, hall⟩ := hrel
                  have HB := Lib.hid hb
                  have HALL := Lib.hid hall
                  obtain ⟨⟨b0, -⟩, ⟨b1, -⟩, ⟨b2, -⟩⟩ := (⟨BX3.out.1.ext hb, BX3.out.2.1.ext hb, BX3.out.2.2.ext hb⟩ : _ ∧ _ ∧ _)
                  clear hb hall
                  by_cases hlt : k < s.fibers.length
                  · obtain ⟨bf, of, ag, cg, rfl, x0, x1, _⟩ := (Fibers.stays (Ext.stays (HE3.out.trans HB.out)) HFS.out).at' hlt
                    obtain ⟨m, hm⟩ : ∃ m, (s.fibers.getD k default).caller = m := ⟨_, rfl⟩
                    rw [hm] at x1
                    have HM := Lib.hid hm
                    clear hm x0
                    by_cases h6 : -1 ≤ m ∧ m ≤ (s.fibers.length : Int) - 1
                    · have HW2 : Hid (decide (-1 ≤ m ∧ m ≤ (s.fibers.length : Int) - 1) = true) := decide_eq_true h6
                      have HO : Hid (callersB s k = true) := by unfold Hid callersB; rw [HM.out]; exact decide_eq_true h6
                      clear h6
                      go_upto_region 18 with fail
                      refine wp_region_ext (by kernel_rfl) (by kernel_rfl) ?_
                      repeat (first
                        | go_big_quiet_skip
                        | (go_big_quiet_want
                           unfold Oper.quiet
                           apply Exists.intro
                           refine ⟨fun w' hw' => ?_, ?_⟩
                           focus
                             have hcq := Ext.keep hw'
                             go_simp
                             first
                               | with_reducible rfl
                               | (go_at_call 21; refine (within_any _ _ _ _).mono ?_; rintro e w4 ⟨rfl, rfl⟩; rw [HW2.out]; exact ⟨rfl, hw'⟩)
                           (try dsimp only [Act.put])
                           (try simp only [List.setIfInBounds_toArray, List.set_cons_succ, List.set_cons_zero])
                           go_big_quiet_on))
                      refine wpQuiet_nil ?_
                      intro wq hq
                      go_wp2_with fail
                      go_roundw
                      case rel => exact ⟨k + 1, by omega, by go_num, HB.out.trans hq, fun i hi => by
                        by_cases e : i = k
                        · rw [e]; exact HO.out
                        · exact HALL.out i (by omega)⟩
                      case measure => simp [intOf]; omega
                    · have HW2 : Hid (decide (-1 ≤ m ∧ m ≤ (s.fibers.length : Int) - 1) = false) := decide_eq_false h6
                      have HR5 : Hid (r = 3) := by unfold Hid; rw [HR4.out, if_pos (allK_false hlt (by unfold callersB; rw [HM.out]; exact decide_eq_false h6))]
                      clear h6
                      go_upto_region 18 with fail
                      refine wp_region_ext (by kernel_rfl) (by kernel_rfl) ?_
                      repeat (first
                        | go_big_quiet_skip
                        | (go_big_quiet_want
                           unfold Oper.quiet
                           apply Exists.intro
                           refine ⟨fun w' hw' => ?_, ?_⟩
                           focus
                             have hcq := Ext.keep hw'
                             go_simp
                             first
                               | with_reducible rfl
                               | (go_at_call 21; refine (within_any _ _ _ _).mono ?_; rintro e w4 ⟨rfl, rfl⟩; rw [HW2.out]; exact ⟨rfl, hw'⟩)
                           (try dsimp only [Act.put])
                           (try simp only [List.setIfInBounds_toArray, List.set_cons_succ, List.set_cons_zero])
                           go_big_quiet_on))
                      refine wpQuiet_nil ?_
                      intro wq hq
                      go_wp2_with fail
                      go_ret
                      exact ⟨by rw [HR5.out]; rfl, (HE3.out.trans HB.out).trans hq⟩
                  · obtain rfl : k = s.fibers.length := by omega
                    have HR5 : Hid (r = lineErr p s) := by unfold Hid; rw [HR4.out, allK_true HALL.out, if_neg (by decide)]
                    have HCS : Hid (Callers s) := ⟨HNOW.out, fun k hk => of_decide_eq_true (HALL.out k hk), by omega⟩
                    have HE4 := Lib.hid (HE3.out.trans HB.out)
                    have BX4 := Lib.hid (⟨BX3.out.1.ext HB.out, BX3.out.2.1.ext HB.out, BX3.out.2.2.ext HB.out⟩ : _ ∧ _ ∧ _)
                    clear HE3 BX3 HR4 HALL hlt
                    rename World => w4
                    cases hl : lineS s with
                    | none =>
                      have HL := Lib.hid hl
                      have HR6 : Hid (r = 1) := by unfold Hid; rw [HR5.out]; unfold lineErr; rw [hl]
                      clear hl
                      go_wp2_with (first
                        | (go_at_call 22; (with_reducible refine (lineOf_any s _ _ _ (StateV.stays (Ext.stays HE4.out) HS.out) HCS.out).mono ?_); rintro e w5 ⟨hlr, hx5⟩; unfold LineRet at hlr; rw [HL.out] at hlr; obtain rfl := hlr))
                      go_ret
                      exact ⟨by rw [HR6.out]; rfl, HE4.out.trans hx5⟩
                    | some l =>
                      have HL := Lib.hid hl
                      have HR6 : Hid (r = if lineEnd l = false then 1 else if s.now = -1 ∧ 0 < (s.fibers.getD 0 default).frames.length then 1 else if allK s.fibers.length (fibK p s l) = false then 1 else 0) := by unfold Hid; rw [HR5.out]; unfold lineErr; rw [hl]
                      clear hl HR5
                      go_upto_region 21 with (first
                        | (go_at_call 22; (with_reducible refine (lineOf_any s _ _ _ (StateV.stays (Ext.stays HE4.out) HS.out) HCS.out).mono ?_); rintro e w5 ⟨hlr, hx5⟩; unfold LineRet at hlr; rw [HL.out] at hlr; obtain ⟨al, cl, rfl, hline⟩ := hlr))
                      have HLINE := Lib.hid hline
                      have HE5 := Lib.hid (HE4.out.trans hx5)
                      have BX5 := Lib.hid (⟨BX4.out.1.ext hx5, BX4.out.2.1.ext hx5, BX4.out.2.2.ext hx5⟩ : _ ∧ _ ∧ _)
                      clear HE4 BX4 hx5 hline b0 b1 b2
                      rename World => w5
                      obtain ⟨⟨b0, -⟩, ⟨b1, -⟩, ⟨b2, -⟩⟩ := BX5.out
                      cases hle : lineEnd l with
                      | false =>
                        have HR7 : Hid (r = 1) := by unfold Hid; rw [HR6.out, if_pos hle]
                        clear hle
                        go_wp2_with fail
                        go_ret
                        exact ⟨by rw [HR7.out]; rfl, HE5.out⟩
                      | true =>
                        have HR7 : Hid (r = if s.now = -1 ∧ 0 < (s.fibers.getD 0 default).frames.length then 1 else if allK s.fibers.length (fibK p s l) = false then 1 else 0) := by unfold Hid; rw [HR6.out, if_neg (by rw [hle]; decide)]
                        clear hle HR6
                        obtain ⟨bf, of, ag, cg, rfl, x0, x1, _⟩ := (Fibers.stays (Ext.stays HE5.out) HFS.out).at' hpos
                        rw [Nat.zero_mul, Nat.add_zero] at x0
                        obtain ⟨m, hm⟩ : ∃ m, (s.fibers.getD 0 default).frames.length = m := ⟨_, rfl⟩
                        rw [hm] at x0 HR7
                        have HM := Lib.hid hm
                        clear hm x1
                        by_cases hbad : s.now = -1 ∧ 0 < m
                        · have T1 : (s.now == -1) = true := by simp [hbad.1]
                          have T2 : decide ((0 : Int) < (m : Int)) = true := decide_eq_true (by omega)
                          have T2n : decide (0 < m) = true := decide_eq_true hbad.2
                          have HR8 : Hid (r = 1) := by unfold Hid; rw [HR7.out, if_pos hbad]
                          clear hbad
                          go_wp2_with fail
                          go_ret
                          exact ⟨by rw [HR8.out]; rfl, HE5.out⟩
                        · have HR8 : Hid (r = if allK s.fibers.length (fibK p s l) = false then 1 else 0) := by unfold Hid; rw [HR7.out, if_neg hbad]
                          go_cut [92] (fun v9 wx => v9 = .bool false ∧ w5 = wx)
                          case first =>
                            by_cases h1 : s.now = -1
                            · have T1 : (s.now == -1) = true := by simp [h1]
                              have T2 : decide ((0 : Int) < (m : Int)) = false := decide_eq_false (by omega)
                              have T2n : decide (0 < m) = false := decide_eq_false (by omega)
                              clear hbad h1
                              go_wp2_with fail
                              go_meet
                              exact ⟨rfl, rfl⟩
                            · have T1 : (s.now == -1) = false := beq_eq_false_iff_ne.2 h1
                              clear hbad h1
                              go_wp2_with fail
                              go_meet
                              exact ⟨rfl, rfl⟩
                          case rest =>
                            obtain ⟨rfl, rfl⟩ := hcut
                            obtain ⟨hh, hhe⟩ : ∃ hh, decide ((0 : Int) ∈ l) = hh := ⟨_, rfl⟩
                            have HH := Lib.hid hhe
                            clear hbad hhe HR7 b0 b1 b2 x0
                            go_wp2_with fail
                            go_loopw [10] (fun q wr => ∃ k : Nat, k ≤ s.fibers.length ∧ q = .int .i64 k ∧ Ext w5 wr ∧ ∀ i, i < k → fibK p s l i = true) (fun q _ => s.fibers.length - (intOf q).toNat)
                            case atStart => exact ⟨0, Nat.zero_le _, rfl, Ext.refl _, fun i hi => absurd hi (Nat.not_lt_zero _)⟩
                            case round =>
                              obtain ⟨k, hk, rfl, hb, hall⟩ := hrel
                              have HB := Lib.hid hb
                              have HALL := Lib.hid hall
                              obtain ⟨⟨b0, -⟩, ⟨b1, -⟩, ⟨b2, -⟩⟩ := (⟨BX5.out.1.ext hb, BX5.out.2.1.ext hb, BX5.out.2.2.ext hb⟩ : _ ∧ _ ∧ _)
                              clear hb hall
                              by_cases hlt : k < s.fibers.length
                              · obtain ⟨bg, og, a0, c0, e0, z0, _, _⟩ := (Fibers.stays (Ext.stays (HE5.out.trans HB.out)) HFS.out).at' hpos
                                simp only [Option.some.injEq, Addr.mk.injEq, and_true] at e0
                                obtain ⟨rfl, rfl⟩ := e0
                                rw [Nat.zero_mul, Nat.add_zero, HM.out] at z0
                                obtain ⟨bg, og, a2, c2, e2, y0, y1, hfv⟩ := (Fibers.stays (Ext.stays (HE5.out.trans HB.out)) HFS.out).at' hlt
                                simp only [Option.some.injEq, Addr.mk.injEq, and_true] at e2
                                obtain ⟨rfl, rfl⟩ := e2
                                have HFV := Lib.hid hfv
                                have TE : decide ((k : Int) = s.now) = ((k : Int) == s.now) := by rw [Bool.eq_iff_iff]; simp
                                obtain ⟨on, hon⟩ : ∃ on, decide ((k : Int) ∈ l) = on := ⟨_, rfl⟩
                                have HON := Lib.hid hon
                                obtain ⟨runs, hruns⟩ : ∃ runs, ((k : Int) == s.now) = runs := ⟨_, rfl⟩
                                have HKD : Hid (fibK p s l k = (fiberB p (s.fibers.getD k default) on runs && !(decide (k = 0) && !hh && decide (0 < m)))) := by
                                  unfold Hid fibK
                                  rw [hon, TE, hruns, HH.out, HM.out]
                                clear hon TE hfv
                                generalize s.fibers.getD k default = f at *
                                cases hf : fiberB p f on runs with
                                | false =>
                                  have HF := Lib.hid hf
                                  have HK : Hid (fibK p s l k = false) := by unfold Hid; rw [HKD.out, hf]; rfl
                                  clear hf
                                  have HR9 : Hid (r = 1) := by unfold Hid; rw [HR8.out, if_pos (allK_false hlt HK.out)]
                                  go_upto_region 26 with fail
                                  refine wp_region_ext (by kernel_rfl) (by kernel_rfl) ?_
                                  repeat (first
                                    | go_big_quiet_skip
                                    | (go_big_quiet_want
                                       unfold Oper.quiet
                                       apply Exists.intro
                                       refine ⟨fun w' hw' => ?_, ?_⟩
                                       focus
                                         have hcq := Ext.keep hw'
                                         go_simp
                                         first
                                           | with_reducible rfl
                                           | (go_at_call 24; refine (has_any l _ _ _ _ (Ints.stays (Ext.stays (HB.out.trans hw')) HLINE.out)).mono ?_; rintro e w7 ⟨rfl, hx7⟩; first | (rw [HH.out]; exact ⟨rfl, hw'.trans hx7⟩) | (rw [HON.out]; exact ⟨rfl, hw'.trans hx7⟩)) | (go_at_call 23; refine (fiberFine_any p _ _ _ f _ on _ _ (Funcs.stays (Ext.stays ((HE5.out.trans HB.out).trans hw')) HP.out) HZ.out (FiberV.stays (Ext.stays hw') HFV.out)).mono ?_; rintro e w7 ⟨rfl, hx7⟩; rw [HF.out]; exact ⟨rfl, hw'.trans hx7⟩)
                                       (try dsimp only [Act.put])
                                       (try simp only [List.setIfInBounds_toArray, List.set_cons_succ, List.set_cons_zero])
                                       go_big_quiet_on))
                                  refine wpQuiet_nil ?_
                                  intro wq hq
                                  go_wp2_with fail
                                  go_ret
                                  exact ⟨by rw [HR9.out]; rfl, (HE5.out.trans HB.out).trans hq⟩
                                | true =>
                                  have HF := Lib.hid hf
                                  have HKD2 : Hid (fibK p s l k = !(decide (k = 0) && !hh && decide (0 < m))) := by unfold Hid; rw [HKD.out, hf, Bool.true_and]
                                  clear hf
                                  by_cases hk0 : k = 0
                                  · have T0 : ((k : Int) == 0) = true := by simp [hk0]
                                    have HKD3 : Hid (fibK p s l k = !(!hh && decide (0 < m))) := by unfold Hid; rw [HKD2.out, decide_eq_true hk0, Bool.true_and]
                                    clear hk0
                                    cases hh with
                                    | true =>
                                      have HK : Hid (fibK p s l k = true) := by unfold Hid; rw [HKD3.out]; rfl
                                      go_upto_region 26 with fail
                                      refine wp_region_ext (by kernel_rfl) (by kernel_rfl) ?_
                                      repeat (first
                                        | go_big_quiet_skip
                                        | (go_big_quiet_want
                                           unfold Oper.quiet
                                           apply Exists.intro
                                           refine ⟨fun w' hw' => ?_, ?_⟩
                                           focus
                                             have hcq := Ext.keep hw'
                                             go_simp
                                             first
                                               | with_reducible rfl
                                               | (go_at_call 24; refine (has_any l _ _ _ _ (Ints.stays (Ext.stays (HB.out.trans hw')) HLINE.out)).mono ?_; rintro e w7 ⟨rfl, hx7⟩; first | (rw [HH.out]; exact ⟨rfl, hw'.trans hx7⟩) | (rw [HON.out]; exact ⟨rfl, hw'.trans hx7⟩)) | (go_at_call 23; refine (fiberFine_any p _ _ _ f _ on _ _ (Funcs.stays (Ext.stays ((HE5.out.trans HB.out).trans hw')) HP.out) HZ.out (FiberV.stays (Ext.stays hw') HFV.out)).mono ?_; rintro e w7 ⟨rfl, hx7⟩; rw [HF.out]; exact ⟨rfl, hw'.trans hx7⟩)
                                           (try dsimp only [Act.put])
                                           (try simp only [List.setIfInBounds_toArray, List.set_cons_succ, List.set_cons_zero])
                                           go_big_quiet_on))
                                      refine wpQuiet_nil ?_
                                      intro wq hq
                                      go_wp2_with fail
                                      go_roundw
                                      case rel => exact ⟨k + 1, by omega, by go_num, HB.out.trans hq, fun i hi => by
                                        by_cases e : i = k
                                        · rw [e]; exact HK.out
                                        · exact HALL.out i (by omega)⟩
                                      case measure => simp [intOf]; omega
                                    | false =>
                                      by_cases hm0 : 0 < m
                                      · have T3 : decide ((0 : Int) < (m : Int)) = true := decide_eq_true (by omega)
                                        have T3n : decide (0 < m) = true := decide_eq_true hm0
                                        have HK : Hid (fibK p s l k = false) := by unfold Hid; rw [HKD3.out, T3n]; rfl
                                        clear hm0
                                        have HR9 : Hid (r = 1) := by unfold Hid; rw [HR8.out, if_pos (allK_false hlt HK.out)]
                                        go_upto_region 26 with fail
                                        refine wp_region_ext (by kernel_rfl) (by kernel_rfl) ?_
                                        repeat (first
                                          | go_big_quiet_skip
                                          | (go_big_quiet_want
                                             unfold Oper.quiet
                                             apply Exists.intro
                                             refine ⟨fun w' hw' => ?_, ?_⟩
                                             focus
                                               have hcq := Ext.keep hw'
                                               go_simp
                                               first
                                                 | with_reducible rfl
                                                 | (go_at_call 24; refine (has_any l _ _ _ _ (Ints.stays (Ext.stays (HB.out.trans hw')) HLINE.out)).mono ?_; rintro e w7 ⟨rfl, hx7⟩; first | (rw [HH.out]; exact ⟨rfl, hw'.trans hx7⟩) | (rw [HON.out]; exact ⟨rfl, hw'.trans hx7⟩)) | (go_at_call 23; refine (fiberFine_any p _ _ _ f _ on _ _ (Funcs.stays (Ext.stays ((HE5.out.trans HB.out).trans hw')) HP.out) HZ.out (FiberV.stays (Ext.stays hw') HFV.out)).mono ?_; rintro e w7 ⟨rfl, hx7⟩; rw [HF.out]; exact ⟨rfl, hw'.trans hx7⟩)
                                             (try dsimp only [Act.put])
                                             (try simp only [List.setIfInBounds_toArray, List.set_cons_succ, List.set_cons_zero])
                                             go_big_quiet_on))
                                        refine wpQuiet_nil ?_
                                        intro wq hq
                                        go_wp2_with fail
                                        go_ret
                                        exact ⟨by rw [HR9.out]; rfl, (HE5.out.trans HB.out).trans hq⟩
                                      · have T3 : decide ((0 : Int) < (m : Int)) = false := decide_eq_false (by omega)
                                        have T3n : decide (0 < m) = false := decide_eq_false hm0
                                        have HK : Hid (fibK p s l k = true) := by unfold Hid; rw [HKD3.out, T3n]; rfl
                                        clear hm0
                                        go_upto_region 26 with fail
                                        refine wp_region_ext (by kernel_rfl) (by kernel_rfl) ?_
                                        repeat (first
                                          | go_big_quiet_skip
                                          | (go_big_quiet_want
                                             unfold Oper.quiet
                                             apply Exists.intro
                                             refine ⟨fun w' hw' => ?_, ?_⟩
                                             focus
                                               have hcq := Ext.keep hw'
                                               go_simp
                                               first
                                                 | with_reducible rfl
                                                 | (go_at_call 24; refine (has_any l _ _ _ _ (Ints.stays (Ext.stays (HB.out.trans hw')) HLINE.out)).mono ?_; rintro e w7 ⟨rfl, hx7⟩; first | (rw [HH.out]; exact ⟨rfl, hw'.trans hx7⟩) | (rw [HON.out]; exact ⟨rfl, hw'.trans hx7⟩)) | (go_at_call 23; refine (fiberFine_any p _ _ _ f _ on _ _ (Funcs.stays (Ext.stays ((HE5.out.trans HB.out).trans hw')) HP.out) HZ.out (FiberV.stays (Ext.stays hw') HFV.out)).mono ?_; rintro e w7 ⟨rfl, hx7⟩; rw [HF.out]; exact ⟨rfl, hw'.trans hx7⟩)
                                             (try dsimp only [Act.put])
                                             (try simp only [List.setIfInBounds_toArray, List.set_cons_succ, List.set_cons_zero])
                                             go_big_quiet_on))
                                        refine wpQuiet_nil ?_
                                        intro wq hq
                                        go_wp2_with fail
                                        go_roundw
                                        case rel => exact ⟨k + 1, by omega, by go_num, HB.out.trans hq, fun i hi => by
                                          by_cases e : i = k
                                          · rw [e]; exact HK.out
                                          · exact HALL.out i (by omega)⟩
                                        case measure => simp [intOf]; omega
                                  · have T0 : ((k : Int) == 0) = false := beq_eq_false_iff_ne.2 (by omega)
                                    have HK : Hid (fibK p s l k = true) := by unfold Hid; rw [HKD2.out, decide_eq_false hk0]; rfl
                                    clear hk0
                                    go_upto_region 26 with fail
                                    refine wp_region_ext (by kernel_rfl) (by kernel_rfl) ?_
                                    repeat (first
                                      | go_big_quiet_skip
                                      | (go_big_quiet_want
                                         unfold Oper.quiet
                                         apply Exists.intro
                                         refine ⟨fun w' hw' => ?_, ?_⟩
                                         focus
                                           have hcq := Ext.keep hw'
                                           go_simp
                                           first
                                             | with_reducible rfl
                                             | (go_at_call 24; refine (has_any l _ _ _ _ (Ints.stays (Ext.stays (HB.out.trans hw')) HLINE.out)).mono ?_; rintro e w7 ⟨rfl, hx7⟩; first | (rw [HH.out]; exact ⟨rfl, hw'.trans hx7⟩) | (rw [HON.out]; exact ⟨rfl, hw'.trans hx7⟩)) | (go_at_call 23; refine (fiberFine_any p _ _ _ f _ on _ _ (Funcs.stays (Ext.stays ((HE5.out.trans HB.out).trans hw')) HP.out) HZ.out (FiberV.stays (Ext.stays hw') HFV.out)).mono ?_; rintro e w7 ⟨rfl, hx7⟩; rw [HF.out]; exact ⟨rfl, hw'.trans hx7⟩)
                                         (try dsimp only [Act.put])
                                         (try simp only [List.setIfInBounds_toArray, List.set_cons_succ, List.set_cons_zero])
                                         go_big_quiet_on))
                                    refine wpQuiet_nil ?_
                                    intro wq hq
                                    go_wp2_with fail
                                    go_roundw
                                    case rel => exact ⟨k + 1, by omega, by go_num, HB.out.trans hq, fun i hi => by
                                      by_cases e : i = k
                                      · rw [e]; exact HK.out
                                      · exact HALL.out i (by omega)⟩
                                    case measure => simp [intOf]; omega
                              · obtain rfl : k = s.fibers.length := by omega
                                have HR9 : Hid (r = 0) := by unfold Hid; rw [HR8.out, allK_true HALL.out, if_neg (by decide)]
                                clear hlt
                                go_wp2_with fail
                                go_ret
                                exact ⟨by rw [HR9.out]; rfl, HE5.out.trans HB.out⟩
              · have HW1 : Hid (decide (-1 ≤ s.now ∧ s.now ≤ (s.fibers.length : Int) - 1) = false) := decide_eq_false hn
                have HR4 : Hid (r = 3) := by unfold Hid; rw [HR3.out, if_neg h0, if_pos hn]
                clear h0 hn HR3
                go_wp2_with (first
                  | (go_at_call 21; (with_reducible refine (within_any _ _ _ _).mono ?_); rintro e w4 ⟨rfl, rfl⟩; rw [HW1.out]))
                go_ret
                exact ⟨by rw [HR4.out]; rfl, HE3.out⟩
  · have HR1 : Hid (r = progErr p) := by unfold Hid; rw [← HR.out]; unfold stateErr; rw [if_pos hz]
    obtain ⟨q, hq⟩ : ∃ q, progErr p = q := ⟨_, rfl⟩
    rw [hq] at hz HR1
    have HQ := Lib.hid hq
    have TB : (q != 0) = true := bne_iff_ne.2 hz
    clear hz hq HR
    go_enter Tryz.func5, Tryz.ntmps5
    go_wp2_with (first
      | (go_at_call 20; (with_reducible refine (progError_any p _ S _ (Funcs.stays (Ext.stays HE1.out) HP.out)).mono ?_); rintro e w2 ⟨rfl, hx2⟩; rw [HQ.out]))
    go_ret
    exact ⟨by rw [HR1.out]; rfl, HE1.out.trans hx2⟩
end Go.Proofs.YtgahbngbpfilgaaGreat
end
