/- Merged texts: contracts and plain facts, one part behind another; each part begins with what it says. -/
import Derived.Test.YtfajkebkhdcapaaGUAK
import Derived.Test.YtfajkebkhdcapaaGUAP
import Derived.Test.YtfajkebkhdcapaaGUAQ
import Derived.Test.YtfajkebkhdcapaaGUAR
import Derived.Laws.IdiomCopy
section
/- A state in own memory turned into another: contract of the document's called. -/
set_option maxHeartbeats 4000000
set_option maxRecDepth 100000
namespace Go.Proofs.Ytfajkebkhdcapaa
open Go Go.RowKit

/-- How far the args are pulled. -/
structure CallI (w wr : World) (B b : Nat) (P : PState) (p : List GFunc) (a : Int) (bx gl N j : Nat) (P' : PState) : Prop where
  own : OwnS wr B b P'
  g : P'.g = leaveG P.g j
  bl : ∀ k ∈ P'.bl, k ∈ P.bl ∨ w.heap.size ≤ k
  chg : Chg (· ∈ b :: P.bl) w wr
  nb : bx ∉ b :: P'.bl
  nl : gl ∉ b :: P'.bl
  row : RowAt wr w.heap.size 1 (.slice (some ⟨gl, 0, none⟩) N N) N (ints (argsOf p P.g a j))
  c0 : Cx wr bx 0 (.int .i64 a)
  c1 : Cx wr bx 1 (.int .i64 0)
  c2 : Cx wr bx 2 (.slice (some ⟨gl, 0, none⟩) N N)
  c3 : Cx wr bx 3 (.slice none 0 0)
theorem CallI.ext {w wr wr' : World} {B b : Nat} {P P' : PState} {p : List GFunc} {a : Int} {bx gl N j : Nat} (h : CallI w wr B b P p a bx gl N j P') (he : Ext wr wr') : CallI w wr' B b P p a bx gl N j P' :=
  ⟨h.own.ext he, h.g, h.bl, h.chg.trans (Chg.of_ext he), h.nb, h.nl, h.row.ext he (by decide), h.c0.ext he, h.c1.ext he, h.c2.ext he, h.c3.ext he⟩

theorem CallI.cell {w wr : World} {B b : Nat} {P P' : PState} {p : List GFunc} {a : Int} {bx gl N j : Nat} (h : CallI w wr B b P p a bx gl N j P') {r : Nat} (hr : r < N) (hN : N = (argsOf p P.g a j).length) : ∃ u, Cx wr gl r u := by
  obtain ⟨g, o, e, _, hc⟩ := h.row.cell (by omega)
  simp only [Option.some.injEq, Addr.mk.injEq] at e
  obtain ⟨rfl, rfl, -⟩ := e
  have := hc r (by omega)
  rw [ints_get _ _ (by omega), Nat.zero_add] at this
  exact ⟨_, this⟩
theorem CallI.pull {w wr wr' : World} {B b : Nat} {P P' : PState} {p : List GFunc} {a : Int} {bx gl N j r : Nat} (h : CallI w wr B b P p a bx gl N j P') (ht : HasTop P.g P.g.now) (hgl : w.heap.size ≤ gl) (hne : gl ≠ bx)
    (hj : j < (funcOf p a).args.toNat) (hl : j < (curX P.g).stack.length) (hr : (funcOf p a).args.toNat - j - 1 = r) (hN : r < N) (hNN : N = (argsOf p P.g a j).length) (t : Turn wr wr' B b P' (popG P'.g)) :
    ∃ P'', CallI w (wr'.setCell ⟨gl, r, none⟩ (.int .i64 (lastV P'.g))) B b P p a bx gl N (j + 1) P'' := by
  have hlg : gl < wr.heap.size := by
    obtain ⟨g, o, e, _, hc⟩ := h.row.cell (by omega)
    simp only [Option.some.injEq, Addr.mk.injEq] at e
    obtain ⟨rfl, rfl, -⟩ := e
    have := (hc 0 (by omega)).1
    rw [ints_get _ _ (by omega)] at this
    exact lt_of_cell this
  have hlb := h.c0.lt
  have hNM : ∀ k, k ∉ b :: P'.bl → ¬ (k ∈ b :: P'.bl) := fun k h => h
  obtain ⟨⟨P'', o, e, hs⟩, hc⟩ := t
  have nsub : ∀ k, k < wr.heap.size → k ∉ b :: P'.bl → k ∉ b :: P''.bl := fun k hk hn hm => by
    rcases List.mem_cons.1 hm with rfl | h1
    · exact hn List.mem_cons_self
    · rcases hs k h1 with h2 | h2
      · exact hn (List.mem_cons_of_mem _ h2)
      · omega
  have hnl := nsub gl hlg h.nl
  have hnb := nsub bx hlb h.nb
  have hC := chg_one wr' gl r (.int .i64 (lastV P'.g))
  have hrow : RowAt wr' w.heap.size 1 (.slice (some ⟨gl, 0, none⟩) N N) N (ints (argsOf p P.g a j)) := h.row.chg hc (fun k hk e => by
    have : k = gl := by
      by_cases h0 : N = 0
      · omega
      · rw [rowBlock_some _ _ _ _ h0] at hk; cases hk; rfl
    subst this; exact h.nl e) (by decide)
  refine ⟨P'', o.chg hC (fun e => hnl (by rw [show b = gl from e]; exact List.mem_cons_self)) (fun k hk e => hnl (by rw [← show k = gl from e]; exact List.mem_cons_of_mem _ hk)), ?_, fun k hk => ?_, ?_, hnb, hnl, ?_, ?_, ?_, ?_, ?_⟩
  · rw [e, h.g, ← leave_succ]
  · rcases hs k hk with h1 | h1
    · exact h.bl k h1
    · exact .inr (Nat.le_trans h.chg.size h1)
  · refine (h.chg.trans' hc fun n hn hm => ?_).setCell (p := ⟨gl, r, none⟩) (.inr hgl) _
    rcases List.mem_cons.1 hm with rfl | h1
    · exact List.mem_cons_self
    · rcases h.bl n h1 with h2 | h2
      · exact List.mem_cons_of_mem _ h2
      · omega
  · rw [← argsOf_succ p P.g ht a j hj hl, hr, ← ints_set, ← h.g]
    have h9 := hrow.store (j := r) (by omega) (.int .i64 (lastV P'.g))
    rwa [Nat.zero_add] at h9
  · exact (h.c0.chg hc h.nb).other (.inl (Ne.symm hne)) _
  · exact (h.c1.chg hc h.nb).other (.inl (Ne.symm hne)) _
  · exact (h.c2.chg hc h.nb).other (.inl (Ne.symm hne)) _
  · exact (h.c3.chg hc h.nb).other (.inl (Ne.symm hne)) _

theorem src_drew {w : World} {size : Nat} {x : Value} {m : Nat} {news : List Value} (h : SrcSl w size x m news) : SrcSl w.drew size x m news := h
end Go.Proofs.Ytfajkebkhdcapaa
end
section
/- The engine of package step: a new frame, call. -/
set_option maxHeartbeats 4000000
set_option maxRecDepth 100000
namespace Go.Proofs.Ytfajkebkhdcapaa
open Go Go.RowKit

/-- A frame that is new, its locals of its own. -/
theorem frameO_any (p : List GFunc) (v : Value) (S : Nat → Prop) (n N : Nat) (w : World) (hp : Funcs w S v p) (hn : n < p.length) (hN : (funcOf p n).locals = N) (hN9 : N ≤ 900) :
    Calls Try.prog 47 #[v, .int .i64 n] w fun e w' => (∃ g, e = .returned (.agg #[.int .i64 n, .int .i64 0, .slice (some ⟨g, 0, none⟩) N N, .slice none 0 0]) ∧ RowAt w' w.heap.size 1 (.slice (some ⟨g, 0, none⟩) N N) N (ints (List.replicate N 0)) ∧ w.heap.size ≤ g) ∧ Ext w w' := by
  have hF : funcOf p n = p[n] := by unfold funcOf; simp [List.getD, List.getElem?_eq_getElem hn]
  rw [hF] at hN
  obtain ⟨b, o, cap, rfl, hcap, hby, _, ⟨_, hL, iL⟩, _⟩ := hp.get hn
  rw [hN] at hL
  obtain ⟨i0, hi0, hz0, hz1, hz2⟩ := info_parts infoI
  have RA := alloc_keep
  have c0 := Lib.hid (Cx.new w [.int .i64 0, .int .i64 0, .slice none 0 0, .slice none 0 0] 45 (j := 0) rfl)
  have c1 := Lib.hid (Cx.new w [.int .i64 0, .int .i64 0, .slice none 0 0, .slice none 0 0] 45 (j := 1) rfl)
  have c2 := Lib.hid (Cx.new w [.int .i64 0, .int .i64 0, .slice none 0 0, .slice none 0 0] 45 (j := 2) rfl)
  have c3 := Lib.hid (Cx.new w [.int .i64 0, .int .i64 0, .slice none 0 0, .slice none 0 0] 45 (j := 3) rfl)
  clear hp hN hF
  go_enter Try.func47, Try.ntmps47
  go_wp2_with (first
    | (at_make; refine wpList_make_full _ rfl _ _ 27 rfl (w.heap.size + 1) 3 i0 (.int .i64 0) 1 Try.underlying27 hi0 hz0 hz1 .i64 .i64 _ _ N rfl rfl rfl rfl (by rw [hz2]; omega) (by unfold maxLen; omega) (by simp) ?_; intro w3 hown3 hgr3; have hE3 := ext_none hgr3; have hrow := IRow.made hown3; obtain ⟨⟨d0, d0'⟩, ⟨d1, d1'⟩, ⟨d2, d2'⟩, ⟨d3, d3'⟩⟩ := (⟨c0.out.ext hE3, c1.out.ext hE3, c2.out.ext hE3, c3.out.ext hE3⟩ : _ ∧ _ ∧ _ ∧ _)))
  have hs1 : (w.alloc (.cells #[.int .i64 0, .int .i64 0, .slice none 0 0, .slice none 0 0] 45)).heap.size = w.heap.size + 1 := Array.size_push _
  rw [hs1] at hrow
  refine bodyPost_ret (results_cell_mid rfl _ _ w.heap.size 0 _ _ rfl (box4 ⟨d0, d0'⟩ ⟨d1, d1'⟩ ⟨d2, d2'⟩ ⟨d3, d3'⟩ _ _ _ _) rfl rfl (by kernel_rfl)) rfl ?_
  refine ⟨⟨w.heap.size + 1, rfl, ?_, by omega⟩, ext4 (((Ext.refl w).alloc _).trans hE3) _ _ _ _⟩
  have h9 := hrow.chg (chg4 w3 w.heap.size (.int .i64 n) (.int .i64 0) (.slice (some ⟨w.heap.size + 1, 0, none⟩) N N) (.slice none 0 0)) (by omega)
  have h9 := h9.mono (base' := w.heap.size) (by omega)
  unfold IRow at h9
  rwa [List.length_replicate] at h9

/-- copy of ints to the front of a row of ints. -/
theorem copy_row {w : World} {base gl N A c1 : Nat} {a1 : Option Addr} {S : Nat → Prop} {l r : List Int} (hd : RowAt w base 1 (.slice (some ⟨gl, 0, none⟩) N N) N (ints r)) (hs : Ints w S (.slice a1 A c1) l) (hA : A ≤ N) :
    ∃ w9, (∀ ty, (Builtin.copy_ #[27, 27] ty #[.slice (some ⟨gl, 0, none⟩) N N, .slice a1 A c1]).run Try.prog w = .ok (goInt A) w9) ∧ RowAt w9 base 1 (.slice (some ⟨gl, 0, none⟩) N N) N (ints (l ++ r.drop A)) ∧ Chg (fun k => k = gl ∧ 0 < A) w w9 := by
  have hsrc := hs.srcV
  obtain ⟨a', c', e, _, _, _⟩ := hs
  simp only [Value.slice.injEq] at e
  obtain ⟨-, hlen, -⟩ := e
  subst hlen
  have hsz : (Try.prog.info? 3).map (·.size) = some 1 := infoIs
  rcases Nat.eq_zero_or_pos l.length with h0 | h0
  · have hl : l = [] := List.eq_nil_of_length_eq_zero h0
    subst hl
    refine ⟨w, fun ty => ?_, by simpa using hd, Chg.refl _ _⟩
    exact run_copy_none w _ _ ty _ _ _ _ _ _ _ Try.underlying27 hsz (by simp)
  · obtain ⟨a2, c2, e, hnl, hone, hsr⟩ := hsrc
    simp only [Value.slice.injEq, true_and] at e
    obtain ⟨rfl, rfl⟩ := e
    obtain ⟨ad, rfl, hcell⟩ := hsr.resolve_left (by omega)
    obtain ⟨hxl, a3, c3, e, h1, h2, h3⟩ := hd
    simp only [Value.slice.injEq, true_and] at e
    obtain ⟨rfl, rfl⟩ := e
    obtain ⟨g, o, e, hb, hc, ht⟩ := h3.resolve_left (by omega)
    simp only [Option.some.injEq, Addr.mk.injEq] at e
    obtain ⟨rfl, rfl, -⟩ := e
    have hrl : r.length = N := by rw [ints_len] at hxl; omega
    have hsm : ∀ j, j < (ints l).length → (w.cell? ⟨gl, 0 + j, none⟩).isSome = true := fun j hj => (ht j (by rw [ints_len] at hj; omega)).1
    refine ⟨w.setCells gl 0 (ints l), fun ty => ?_, ?_, Chg.setCells (M := fun k => k = gl ∧ 0 < l.length) (Chg.refl _ _) (.inl ⟨rfl, h0⟩) 0 _⟩
    · have := run_copy_cells w 27 27 ty 3 gl 0 N N ad l.length c1 (ints l) Try.underlying27 hsz (by rw [ints_len]; exact (Nat.min_eq_left hA).symm) (fun j v hj => hcell j v hj) hsm (fun j hj => (ht j (by rw [ints_len] at hj; omega)).2) hone
      rw [ints_len] at this
      exact this
    · refine ⟨by rw [ints_len, List.length_append, List.length_drop]; omega, _, _, rfl, Nat.le_refl _, h2, .inr ⟨gl, 0, rfl, hb, fun j hj => ?_, fun j hj => ?_⟩⟩
      · rw [ints_app]
        by_cases hjl : j < l.length
        · rw [List.getElem?_append_left (by rw [ints_len]; exact hjl), World.cell?_setCells_in gl (ints l) 0 w hsm j (by rw [ints_len]; exact hjl), List.getElem?_eq_getElem]
        · rw [List.getElem?_append_right (by rw [ints_len]; omega), World.cell?_setCells_out gl (ints l) 0 w ⟨gl, 0 + j, none⟩ (fun _ _ => .inr (by rw [ints_len]; show 0 + l.length ≤ 0 + j; omega)), hc j hj, ints_len]
          unfold Proofs.Ytfajkebkhdcapaa.ints
          rw [List.getElem?_map, List.getElem?_map, List.getElem?_drop]
          congr 2
          omega
      · have := ht j hj
        rw [World.frozen?_setCells]
        refine ⟨?_, this.2⟩
        by_cases hjl : j < l.length
        · rw [World.cell?_setCells_in gl (ints l) 0 w hsm j (by rw [ints_len]; exact hjl)]; rfl
        · rw [World.cell?_setCells_out gl (ints l) 0 w ⟨gl, 0 + j, none⟩ (fun _ _ => .inr (by rw [ints_len]; show 0 + l.length ≤ 0 + j; omega))]; exact this.1
end Go.Proofs.Ytfajkebkhdcapaa
end
section
/- A state in own memory turned into another: contract of the document's resumed. -/
set_option maxHeartbeats 4000000
set_option maxRecDepth 100000
namespace Go.Proofs.Ytfajkebkhdcapaa
open Go Go.RowKit

end Go.Proofs.Ytfajkebkhdcapaa
end
section
/- A state in own memory turned into another: contract of the document's done. -/
set_option maxHeartbeats 4000000
set_option maxRecDepth 100000
namespace Go.Proofs.Ytfajkebkhdcapaa
open Go Go.RowKit

theorem OwnS.ge {W : World} {B b : Nat} {P : PState} (h : OwnS W B b P) : ∀ g ∈ b :: P.bl, B ≤ g := by
  intro g hg
  rcases List.mem_cons.1 hg with rfl | hg
  · exact h.le
  · unfold PState.bl at hg
    rcases List.mem_append.1 hg with h1 | h1
    · rcases List.mem_append.1 h1 with h2 | h2
      · exact h.row.le g (by simpa using h2)
      · exact h.out.le g (by simpa using h2)
    · obtain ⟨y, hy, h2⟩ := List.mem_flatMap.1 h1
      unfold PFiber.bl at h2
      rcases List.mem_append.1 h2 with h3 | h3
      · exact (h.fs y hy).row.le g (by simpa using h3)
      · obtain ⟨x, hx, h4⟩ := List.mem_flatMap.1 h3
        unfold PFrame.bl at h4
        rcases List.mem_append.1 h4 with h5 | h5
        · exact ((h.fs y hy).fr x hx).l.le g (by simpa using h5)
        · exact ((h.fs y hy).fr x hx).s.le g (by simpa using h5)
theorem curF_frames (s : GState) (h : HasTop s s.now) (g : GFrame → GFrame) : (curF (modTop s s.now g)).frames.length = (curF s).frames.length := by
  unfold modTop
  rw [curF_mod s ⟨h.1, h.2.1⟩]
  simp
theorem FewS.cur {s : GState} (h : FewS s) (ht : HasTop s s.now) : (curF s).frames.length < 1000 := by
  have hm : curF s ∈ s.fibers := by
    unfold curF
    rw [List.getD_eq_getElem?_getD, List.getElem?_eq_getElem (by have := ht.1; have := ht.2.1; omega)]
    exact List.getElem_mem _
  have := (h.2.2 _ hm).1
  omega

theorem repl_same {P : PState} {L R : List PFiber} {y : PFiber} {F : List PFrame} {x x' : PFrame} (hs : Spot P L y R F x) (h : x'.bl = x.bl) : ∀ g ∈ (replTop P L y R F x').bl, g ∈ P.bl := by
  intro g hg
  rcases repl_bl (n := g + 1) hs (fun k hk => .inl (h ▸ hk)) g hg with h1 | h1
  · exact h1
  · omega
theorem done_ok {p : List GFunc} {w W4 w' : World} {B b : Nat} {P P1 : PState} {k a : Int} {r : Int × GState} (hD : doneG p P.g = workG p P1.g k a) (hw : workG p P1.g k a = r) (c : Chg (· ∈ b :: P.bl) w W4) (bl : ∀ k ∈ P1.bl, k ∈ P.bl) (d : Did W4 w' B b P1 r) :
    (doneG p P.g).1 = r.1 ∧ Did w w' B b P (doneG p P.g) := by
  rw [hD, hw]
  exact ⟨rfl, Did.step c (fun k hk => .inl (bl k hk)) d⟩
theorem reck_i64 (k a b : Int) : I64 (reckG k a b) := by
  have hw : ∀ n, I64 (wrap64 n) := fun n => by unfold I64 wrap64; omega
  have ht : ∀ t, I64 (truthG t) := fun t => by cases t <;> (unfold I64 truthG; decide)
  unfold reckG
  split
  · exact hw _
  · split
    · exact hw _
    · split
      · exact hw _
      · split <;> exact ht _
end Go.Proofs.Ytfajkebkhdcapaa
end
