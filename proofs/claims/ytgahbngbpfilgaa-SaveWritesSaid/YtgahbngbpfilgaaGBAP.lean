/- Merged texts: contracts and plain facts, one part behind another; each part begins with what it says. -/
import Derived.Test.YtgahbngbpfilgaaGBAI
import Derived.Test.YtgahbngbpfilgaaGBAJ
import Derived.Test.YtgahbngbpfilgaaGBAO
import Derived.Laws.IdiomCopy
import Derived.WalkSmall
section
/- The engine of package step: slices.Clone of a row of ints, pull, one. -/
set_option maxHeartbeats 4000000
set_option maxRecDepth 100000
namespace Go.Proofs.Ytgahbngbpfilgaa
open Go Go.RowKit

end Go.Proofs.Ytgahbngbpfilgaa
end
section
/- The engine of package step: must, push by number, two, put, back, yield. -/
set_option maxHeartbeats 4000000
set_option maxRecDepth 100000
namespace Go.Proofs.Ytgahbngbpfilgaa
open Go Go.RowKit

/-- The engine, its box apart from the state. -/
structure EngS (w : World) (B b eb : Nat) (p : List GFunc) (a : Option Addr) (cp : Nat) (P : PState) : Prop where
  own : OwnS w B b P
  eng : Eng w eb b p a cp
  off : eb ∉ b :: P.bl
theorem EngS.ext {w w' : World} {B b eb : Nat} {p : List GFunc} {a : Option Addr} {cp : Nat} {P : PState} (h : EngS w B b eb p a cp P) (he : Ext w w') : EngS w' B b eb p a cp P := ⟨h.own.ext he, h.eng.ext he, h.off⟩
theorem Eng.chg {M : Nat → Prop} {w w' : World} {eb b : Nat} {p : List GFunc} {a : Option Addr} {cap : Nat} (h : Eng w eb b p a cap) (hc : Chg M w w') (hM : ¬ M eb) : Eng w' eb b p a cap := ⟨h.e0.chg hc hM, h.e1.chg hc hM⟩
theorem EngS.with {w w' : World} {B b eb : Nat} {p : List GFunc} {a : Option Addr} {cp : Nat} {P P' : PState} (h : EngS w B b eb p a cp P) (hc : Chg (· ∈ b :: P.bl) w w') (ho : OwnS w' B b P') (hs : ∀ g ∈ P'.bl, g ∈ P.bl ∨ w.heap.size ≤ g) : EngS w' B b eb p a cp P' :=
  ⟨ho, h.eng.chg hc h.off, not_grown' h.off hs h.eng.e0.lt⟩
where
  not_grown' {P P5 : PState} {b bx n : Nat} (h : bx ∉ b :: P.bl) (hs : ∀ g ∈ P5.bl, g ∈ P.bl ∨ n ≤ g) (hlt : bx < n) : bx ∉ b :: P5.bl := fun hm => by
    rcases List.mem_cons.1 hm with rfl | h1
    · exact h List.mem_cons_self
    · rcases hs bx h1 with h2 | h2
      · exact h (List.mem_cons_of_mem _ h2)
      · omega
theorem EngS.turn {w w' : World} {B b eb : Nat} {p : List GFunc} {a : Option Addr} {cp : Nat} {P : PState} {s : GState} (h : EngS w B b eb p a cp P) (t : Turn w w' B b P s) :
    ∃ P', EngS w' B b eb p a cp P' ∧ P'.g = s ∧ (∀ g ∈ P'.bl, g ∈ P.bl ∨ w.heap.size ≤ g) ∧ Chg (· ∈ b :: P.bl) w w' := by
  obtain ⟨⟨P', o, e, hs⟩, hc⟩ := t
  exact ⟨P', h.with hc o hs, e, hs, hc⟩

end Go.Proofs.Ytgahbngbpfilgaa
end
section
/- A state in own memory turned into another: contract of the document's called. -/
set_option maxHeartbeats 4000000
set_option maxRecDepth 100000
namespace Go.Proofs.Ytgahbngbpfilgaa
open Go Go.RowKit

/-- How far the args are pulled. -/
structure CallI (w wr : World) (B b : Nat) (P : PState) (p : List GFunc) (a : Int) (bx gl N j : Nat) (P' : PState) : Prop where
  own : OwnS wr B b P'
  g : P'.g = leaveG P.g j
  bl : ∀ k ∈ P'.bl, k ∈ P.bl ∨ w.heap.size ≤ k
  chg : Chg (· ∈ b :: P.bl) w wr
  nb : bx ∉ b :: P'.bl
  nl : gl ∉ b :: P'.bl
  row : RowAt wr w.heap.size 1 (.slice (some ⟨gl, 0, none⟩) N N) N (ints (argsOf p P.g a j))
  c0 : Cx wr bx 0 (.int .i64 a)
  c1 : Cx wr bx 1 (.int .i64 0)
  c2 : Cx wr bx 2 (.slice (some ⟨gl, 0, none⟩) N N)
  c3 : Cx wr bx 3 (.slice none 0 0)
theorem CallI.ext {w wr wr' : World} {B b : Nat} {P P' : PState} {p : List GFunc} {a : Int} {bx gl N j : Nat} (h : CallI w wr B b P p a bx gl N j P') (he : Ext wr wr') : CallI w wr' B b P p a bx gl N j P' :=
  ⟨h.own.ext he, h.g, h.bl, h.chg.trans (Chg.of_ext he), h.nb, h.nl, h.row.ext he (by decide), h.c0.ext he, h.c1.ext he, h.c2.ext he, h.c3.ext he⟩

theorem CallI.cell {w wr : World} {B b : Nat} {P P' : PState} {p : List GFunc} {a : Int} {bx gl N j : Nat} (h : CallI w wr B b P p a bx gl N j P') {r : Nat} (hr : r < N) (hN : N = (argsOf p P.g a j).length) : ∃ u, Cx wr gl r u := by
  obtain ⟨g, o, e, _, hc⟩ := h.row.cell (by omega)
  simp only [Option.some.injEq, Addr.mk.injEq] at e
  obtain ⟨rfl, rfl, -⟩ := e
  have := hc r (by omega)
  rw [ints_get _ _ (by omega), Nat.zero_add] at this
  exact ⟨_, this⟩
theorem CallI.pull {w wr wr' : World} {B b : Nat} {P P' : PState} {p : List GFunc} {a : Int} {bx gl N j r : Nat} (h : CallI w wr B b P p a bx gl N j P') (ht : HasTop P.g P.g.now) (hgl : w.heap.size ≤ gl) (hne : gl ≠ bx)
    (hj : j < (funcOf p a).args.toNat) (hl : j < (curX P.g).stack.length) (hr : (funcOf p a).args.toNat - j - 1 = r) (hN : r < N) (hNN : N = (argsOf p P.g a j).length) (t : Turn wr wr' B b P' (popG P'.g)) :
    ∃ P'', CallI w (wr'.setCell ⟨gl, r, none⟩ (.int .i64 (lastV P'.g))) B b P p a bx gl N (j + 1) P'' := by
  have hlg : gl < wr.heap.size := by
    obtain ⟨g, o, e, _, hc⟩ := h.row.cell (by omega)
    simp only [Option.some.injEq, Addr.mk.injEq] at e
    obtain ⟨rfl, rfl, -⟩ := e
    have := (hc 0 (by omega)).1
    rw [ints_get _ _ (by omega)] at this
    exact lt_of_cell this
  have hlb := h.c0.lt
  have hNM : ∀ k, k ∉ b :: P'.bl → ¬ (k ∈ b :: P'.bl) := fun k h => h
  obtain ⟨⟨P'', o, e, hs⟩, hc⟩ := t
  have nsub : ∀ k, k < wr.heap.size → k ∉ b :: P'.bl → k ∉ b :: P''.bl := fun k hk hn hm => by
    rcases List.mem_cons.1 hm with rfl | h1
    · exact hn List.mem_cons_self
    · rcases hs k h1 with h2 | h2
      · exact hn (List.mem_cons_of_mem _ h2)
      · omega
  have hnl := nsub gl hlg h.nl
  have hnb := nsub bx hlb h.nb
  have hC := chg_one wr' gl r (.int .i64 (lastV P'.g))
  have hrow : RowAt wr' w.heap.size 1 (.slice (some ⟨gl, 0, none⟩) N N) N (ints (argsOf p P.g a j)) := h.row.chg hc (fun k hk e => by
    have : k = gl := by
      by_cases h0 : N = 0
      · omega
      · rw [rowBlock_some _ _ _ _ h0] at hk; cases hk; rfl
    subst this; exact h.nl e) (by decide)
  refine ⟨P'', o.chg hC (fun e => hnl (by rw [show b = gl from e]; exact List.mem_cons_self)) (fun k hk e => hnl (by rw [← show k = gl from e]; exact List.mem_cons_of_mem _ hk)), ?_, fun k hk => ?_, ?_, hnb, hnl, ?_, ?_, ?_, ?_, ?_⟩
  · rw [e, h.g, ← leave_succ]
  · rcases hs k hk with h1 | h1
    · exact h.bl k h1
    · exact .inr (Nat.le_trans h.chg.size h1)
  · refine (h.chg.trans' hc fun n hn hm => ?_).setCell (p := ⟨gl, r, none⟩) (.inr hgl) _
    rcases List.mem_cons.1 hm with rfl | h1
    · exact List.mem_cons_self
    · rcases h.bl n h1 with h2 | h2
      · exact List.mem_cons_of_mem _ h2
      · omega
  · rw [← argsOf_succ p P.g ht a j hj hl, hr, ← ints_set, ← h.g]
    have h9 := hrow.store (j := r) (by omega) (.int .i64 (lastV P'.g))
    rwa [Nat.zero_add] at h9
  · exact (h.c0.chg hc h.nb).other (.inl (Ne.symm hne)) _
  · exact (h.c1.chg hc h.nb).other (.inl (Ne.symm hne)) _
  · exact (h.c2.chg hc h.nb).other (.inl (Ne.symm hne)) _
  · exact (h.c3.chg hc h.nb).other (.inl (Ne.symm hne)) _

theorem cell_other {W : World} {bx g j : Nat} {u : Value} (h : W.cell? ⟨bx, 2, none⟩ = some u) (hne : bx ≠ g) (v : Value) : (W.setCell ⟨g, j, none⟩ v).cell? ⟨bx, 2, none⟩ = some u := by
  rw [World.cell?_setCell_other (a := ⟨g, j, none⟩) (b := ⟨bx, 2, none⟩) (h := by intro e; simp only [Addr.mk.injEq] at e; omega)]; exact h
theorem src_drew {w : World} {size : Nat} {x : Value} {m : Nat} {news : List Value} (h : SrcSl w size x m news) : SrcSl w.drew size x m news := h
theorem call_fin {w wq Wm Wv : World} {B b : Nat} {P P' : PState} {p : List GFunc} {n : Int} {bx gl N j : Nat} {L R : List PFiber} {y : PFiber} {F : List PFrame} {x : PFrame} {g o nn cap : Nat} {v1 : Value} (h : CallI w wq B b P p n bx gl N j P')
    (hs : Spot P' L y R F x) (hnw : P'.now = L.length) (hv : P'.vfs = .slice (some ⟨g, o, none⟩) nn cap) (hRV : NewRow Wm Wv B 4 y.vf v1 (y.fr.length + 1) (y.fr.flatMap frameF ++ [.int .i64 n, .int .i64 0, .slice (some ⟨gl, 0, none⟩) N N, .slice none 0 0]))
    (hE : Ext wq Wm) (h9 : y.fr.length < 1000) (hgl : w.heap.size = gl) (hB : B ≤ gl) (hlt : 0 < N → gl < bx) (hI : I64 n) (hA : ∀ k ∈ argsOf p P.g n j, I64 k) (hlen : (argsOf p P.g n j).length = N) (hN : N ≤ 1000) :
    Did w (Wv.setCell ⟨g, o + L.length * 2, none⟩ v1) B b P (0, modFib (leaveG P.g j) P.g.now fun f => { f with frames := f.frames ++ [⟨n, 0, argsOf p P.g n j, []⟩] }) := by
  obtain ⟨r1, r2, r3⟩ := hRV
  have hym : y ∈ P'.fs := by rw [hs.fs]; simp
  have hyb : ∀ k, rowBlock y.vf = some k → k ∈ P'.bl := fun k hk => PState.mem_fs hym (by unfold PFiber.bl; simp [hk])
  have hvb : ∀ k, rowBlock (.slice (some ⟨gl, 0, none⟩) N N) = some k → k = gl ∧ 0 < N := fun k hk => by
    by_cases h0 : N = 0
    · subst h0; simp [rowBlock] at hk
    · rw [rowBlock_some _ _ _ _ h0] at hk; cases hk; exact ⟨rfl, by omega⟩
  let X : PFrame := ⟨⟨n, 0, argsOf p P.g n j, []⟩, .slice (some ⟨gl, 0, none⟩) N N, .slice none 0 0⟩
  have hXbl : ∀ k ∈ X.bl, k = gl ∧ 0 < N := fun k hk => by
    unfold PFrame.bl at hk
    rcases List.mem_append.1 hk with h1 | h1
    · exact hvb k (by simpa using h1)
    · simp [X, rowBlock] at h1
  have hlg : 0 < N → gl < wq.heap.size := fun h0 => Nat.lt_trans (hlt h0) h.c0.lt
  have hXO : FrameO Wv B X := by
    refine ⟨⟨hI, I64.zero, hA, fun k hk => by cases hk⟩, ?_, RowAt.nil _ _ _ _, ⟨by show (argsOf p P.g n j).length ≤ 1000; omega, by show 0 ≤ 1000; omega⟩⟩
    show RowAt Wv B 1 (.slice (some ⟨gl, 0, none⟩) N N) (argsOf p P.g n j).length (ints (argsOf p P.g n j))
    rw [hlen]
    refine ((h.row.mono (by omega)).ext hE (by decide)).chg r2 (fun k hk e => ?_) (by decide)
    obtain ⟨rfl, _⟩ := hvb k hk
    exact h.nl (List.mem_cons_of_mem _ (hyb _ e))
  have hcg : Chg (fun k => rowBlock y.vf = some k) wq Wv := (Chg.of_ext hE).trans r2
  have hv1 : rowBlock v1 = rowBlock y.vf ∨ ∀ k, rowBlock v1 = some k → wq.heap.size ≤ k := r3.imp id fun e k hk => Nat.le_trans hE.size (e k hk)
  obtain ⟨o9, c9⟩ := h.own.addFrame (x := X) hs.fs hv hcg (by
      have e : (y.fr ++ [X]).flatMap frameF = y.fr.flatMap frameF ++ [.int .i64 n, .int .i64 0, .slice (some ⟨gl, 0, none⟩) N N, .slice none 0 0] := by rw [List.flatMap_append]; rfl
      rw [e, List.length_append, List.length_singleton]; exact r1) hXO h9 hv1 (by
      show ((rowBlock (.slice (some ⟨gl, 0, none⟩) N N)).toList ++ (rowBlock (.slice none 0 0)).toList).Nodup
      cases rowBlock (.slice (some ⟨gl, 0, none⟩) N N) <;> simp [rowBlock]) (fun k hk => by
      obtain ⟨rfl, h0⟩ := hXbl k hk
      refine ⟨h.nl, fun e => ?_⟩
      rcases hv1 with h1 | h1
      · exact h.nl (List.mem_cons_of_mem _ (hyb _ (h1 ▸ e)))
      · have := h1 _ e; have := hlg h0; omega)
  refine Did.of ⟨⟨_, o9, ?_, fun k hk => ?_⟩, h.chg.trans' c9 fun k hk hm => ?_⟩
  · rw [← h.g]
    refine (modFib_at hs.fs (n := P.g.now) ?_ ?_).symm
    · have e : P'.g.now = P.g.now := by rw [h.g]; rfl
      rw [← e]; exact hnw
    · unfold PFiber.g
      simp [X]
  · unfold PState.bl at hk
    simp only [List.flatMap_append, List.flatMap_cons, List.mem_append] at hk
    have hback : k ∈ P'.bl → k ∈ P.bl ∨ w.heap.size ≤ k := h.bl k
    rcases hk with (h3 | h3) | h3 | h3 | h3
    · exact hback (PState.mem_vfs (by simpa using h3))
    · exact hback (PState.mem_vo (by simpa using h3))
    · obtain ⟨z, hz, h4⟩ := List.mem_flatMap.1 h3
      exact hback (PState.mem_fs (y := z) (by rw [hs.fs]; simp [hz]) h4)
    · unfold PFiber.bl at h3
      simp only [List.flatMap_append, List.mem_append] at h3
      rcases h3 with h4 | h4 | h4
      · have h5 : rowBlock v1 = some k := by simpa using h4
        rcases hv1 with h6 | h6
        · exact hback (hyb k (h6 ▸ h5))
        · exact .inr (Nat.le_trans h.chg.size (h6 k h5))
      · refine hback (PState.mem_fs hym ?_)
        unfold PFiber.bl
        exact List.mem_append.2 (.inr h4)
      · have h5 : k ∈ X.bl := by simpa using h4
        exact .inr (by rw [hgl, (hXbl k h5).1]; exact Nat.le_refl _)
    · obtain ⟨z, hz, h4⟩ := List.mem_flatMap.1 h3
      exact hback (PState.mem_fs (y := z) (by rw [hs.fs]; simp [hz]) h4)
  · rcases h.bl k hm with h1 | h1
    · exact List.mem_cons_of_mem _ h1
    · omega
theorem called_any (p : List GFunc) (v : Value) (S : Nat → Prop) {P : PState} {w : World} {B b : Nat} (n : Nat) (hp : Funcs w S v p) (h : OwnS w B b P) (ht : HasTop P.g P.g.now) (hfr9 : (curF P.g).frames.length < 1000) (hb : CallFit p P.g n) :
    Calls Try.prog 147 #[v, .pointer (some ⟨b, 0, none⟩), .int .i64 n] w fun e w' => e = .returned (.int .i64 (callG p P.g n).1) ∧ Did w w' B b P (callG p P.g n) := by
  obtain ⟨-, hn, hA0, hAL, hL9, hst⟩ := hb
  have hn : n < p.length := by omega
  have hF : funcOf p n = p[n] := by unfold funcOf; simp [List.getD, List.getElem?_eq_getElem hn]
  obtain ⟨A, hA⟩ : ∃ A : Nat, (funcOf p n).args = A := ⟨(funcOf p n).args.toNat, by omega⟩
  obtain ⟨N, hN⟩ : ∃ N : Nat, (funcOf p n).locals = N := ⟨(funcOf p n).locals.toNat, by omega⟩
  obtain ⟨bp, op, cap, rfl, hcap, hby, ⟨_, hpA, _⟩, ⟨_, hpL, _⟩, _⟩ := hp.get hn
  rw [← hF, hA] at hpA
  rw [← hF, hN] at hpL
  have hAN : A ≤ N := by omega
  have hAs : A ≤ (curX P.g).stack.length := by omega
  have hN9 : N ≤ 900 := by omega
  have hAt : (funcOf p n).args.toNat = A := by omega
  have hNt : (funcOf p n).locals.toNat = N := by omega
  have ha0 : argsOf p P.g n 0 = List.replicate N 0 := by rw [argsOf_zero p P.g n ⟨hA0, hAL⟩, hNt]
  have hal : ∀ j, j ≤ A → (argsOf p P.g n j).length = N := fun j hj => by rw [argsOf_len p P.g n j (by omega) (by omega) ⟨hA0, hAL⟩, hNt]
  have H := Lib.hid h
  have HT := Lib.hid ht
  have HP := Lib.hid hp
  have HA := Lib.hid hA
  have HN := Lib.hid hN
  have HAT := Lib.hid hAt
  have HA0 := Lib.hid ha0
  have HAL := Lib.hid hal
  have HB : Hid (B ≤ w.heap.size) := Nat.le_trans h.le (Nat.le_of_lt h.c0.lt)
  obtain ⟨i0, hi0, hz0, hz1, hz2⟩ := info_parts infoI
  have RA := alloc_keep
  have KA : IntKind.i64.wrap ((A : Int) - 1) = (A : Int) - 1 := IntWalk.i64_in _ (by omega)
  clear hp h hF hA0 hAL hL9 hA hN hAt hNt ha0 hal
  go_enter Try.func147, Try.ntmps147
  go_wp2_with (first
    | (at_make; refine wpList_make_full _ rfl _ _ 24 rfl w.heap.size 3 i0 (.int .i64 0) 1 Try.underlying24 hi0 hz0 hz1 .i64 .i64 _ _ N rfl rfl rfl rfl (by rw [hz2]; omega) (by unfold maxLen; omega) (by simp) ?_; intro w3 hown3 hgr3; have hE3 := ext_none hgr3; have hrow := IRow.made hown3; have hpA3 := Ext.cell hE3 hpA))
  have HS3 : Hid (w.heap.size ≤ w3.heap.size) := hE3.size
  obtain ⟨W4, hW4⟩ : ∃ W4, W4 = w3.alloc (.cells #[.int .i64 n, .int .i64 0, .slice (some ⟨w.heap.size, 0, none⟩) N N, .slice none 0 0] 70) := ⟨_, rfl⟩
  have hE4 : Ext w W4 := by rw [hW4]; exact hE3.alloc _
  have hgl3 : w.heap.size < w3.heap.size ∨ N = 0 := by
    by_cases h0 : N = 0
    · exact .inr h0
    · refine .inl ?_
      have hr : RowAt w3 w.heap.size 1 (.slice (some ⟨w.heap.size, 0, none⟩) N N) N (ints (List.replicate N 0)) := by have := hrow; unfold IRow at this; rwa [List.length_replicate] at this
      exact hr.lt2 (by decide) _ (rowBlock_some _ _ _ _ h0)
  have hI0 : CallI w W4 B b P p n w3.heap.size w.heap.size N 0 P := by
    have hlt := (H.out).lt
    refine ⟨(H.out).ext hE4, (leave_zero _).symm, fun k hk => .inl hk, Chg.of_ext hE4, fun hm => ?_, fun hm => ?_, ?_, ?_, ?_, ?_, ?_⟩
    · have := hlt _ hm; have := HS3.out; omega
    · have := hlt _ hm; omega
    · rw [HA0.out]
      have hr : RowAt w3 w.heap.size 1 (.slice (some ⟨w.heap.size, 0, none⟩) N N) N (ints (List.replicate N 0)) := by have := hrow; unfold IRow at this; rwa [List.length_replicate] at this
      rw [hW4]
      exact hr.ext ((Ext.refl _).alloc _) (by decide)
    · rw [hW4]; exact Cx.new w3 [.int .i64 n, .int .i64 0, .slice (some ⟨w.heap.size, 0, none⟩) N N, .slice none 0 0] _ (j := 0) rfl
    · rw [hW4]; exact Cx.new w3 [.int .i64 n, .int .i64 0, .slice (some ⟨w.heap.size, 0, none⟩) N N, .slice none 0 0] _ (j := 1) rfl
    · rw [hW4]; exact Cx.new w3 [.int .i64 n, .int .i64 0, .slice (some ⟨w.heap.size, 0, none⟩) N N, .slice none 0 0] _ (j := 2) rfl
    · rw [hW4]; exact Cx.new w3 [.int .i64 n, .int .i64 0, .slice (some ⟨w.heap.size, 0, none⟩) N N, .slice none 0 0] _ (j := 3) rfl
  rw [← hW4]
  have HI0 := Lib.hid hI0
  generalize hbx : w3.heap.size = bx at *
  have HBX : Hid (w.heap.size ≤ bx ∧ (w.heap.size < bx ∨ N = 0)) := ⟨HS3.out, hgl3⟩
  clear hE3 hgr3 hrow hpA hpL hpA3 hW4 hE4 hgl3 hI0 hbx HS3 hown3
  generalize hgl : w.heap.size = gl at *
  have HGL := Lib.hid hgl
  clear hgl
  go_loopw [8] (fun q8 wr => ∃ (j r : Nat) (P' : PState), j + r = A ∧ q8 = .int .i64 ((r : Int) - 1) ∧ CallI w wr B b P p n bx gl N j P') (fun q _ => (intOf q + 1).toNat)
  case atStart => exact ⟨0, A, P, by omega, rfl, HI0.out⟩
  case round =>
    obtain ⟨j, r, P', hjr, rfl, hI⟩ := hrel
    have HI := Lib.hid hI
    clear hI
    rcases r with _ | r
    · have e1 : (((0 : Nat) : Int) - 1) = -1 := rfl
      rw [e1]
      obtain rfl : j = A := by omega
      clear e1
      have hT' : HasTop P'.g P'.g.now := by rw [(HI.out).g]; exact (HT.out).leave _
      obtain ⟨L, y, R, F, x, hs, hnw⟩ := hasSpot hT'
      have hnw : P'.now = L.length := hnw
      obtain ⟨g, o, cap2, hvf, hlt, d0, -, hbl⟩ := (HI.out).own.place hs.fs
      obtain ⟨ay, cy, ey, hcy, _⟩ := ((HI.out).own.fs y (by rw [hs.fs]; simp)).row.shape
      have hfew := ((HI.out).own.fs y (by rw [hs.fs]; simp)).few
      obtain ⟨c0, c0'⟩ := (HI.out).own.c0
      obtain ⟨k1, k1'⟩ := (HI.out).own.c1
      rw [hnw] at k1
      rw [hvf] at c0
      rw [ey] at d0
      have hCF : curF P'.g = y.g := curF_at hs.fs hnw
      have hfl : (curF P.g).frames.length = y.fr.length := by
        have e : (curF P'.g).frames.length = (curF P.g).frames.length := by
          rw [(HI.out).g]
          unfold leaveG modTop
          rw [curF_mod P.g ⟨(HT.out).1, (HT.out).2.1⟩]
          simp
        rw [← e, hCF]
        unfold PFiber.g
        simp
      have HS := Lib.hid hs
      have HVF := Lib.hid hvf
      have HEY := Lib.hid ey
      have HNW := Lib.hid hnw
      have HFL := Lib.hid hfl
      have HBL := Lib.hid hbl
      have D0 := Lib.hid d0
      obtain ⟨d0, d0'⟩ := d0
      clear hT' hvf ey hnw hfl hs hCF hbl
      go_upto_region 6 with fail
      by_cases h6 : y.fr.length = 6
      · have T6 : (((y.fr.length : Nat) : Int) == 6) = true := by rw [h6]; rfl
        have HG : Hid (callG p P.g n = (2, P.g)) := by unfold Hid callG; rw [if_pos (by rw [HFL.out]; exact h6)]
        clear h6
        refine wp_region_ext (by kernel_rfl) (by kernel_rfl) ?_
        repeat (first
          | go_big_quiet_skip
          | (go_big_quiet_want
             unfold Oper.quiet
             apply Exists.intro
             refine ⟨fun w' hw' => ?_, ?_⟩
             focus
               have hcq := Ext.keep hw'
               go_simp
               first
                 | with_reducible rfl
                 
             (try dsimp only [Act.put])
             (try simp only [List.setIfInBounds_toArray, List.set_cons_succ, List.set_cons_zero])
             go_big_quiet_on))
        refine wpQuiet_nil ?_
        intro wq hq
        go_wp2_with fail
        go_ret
        rw [HG.out]
        exact ⟨rfl, ⟨(HI.out).chg.trans (Chg.of_ext hq), fun h => by cases h⟩⟩
      · have T6 : (((y.fr.length : Nat) : Int) == 6) = false := beq_false_of_ne (by omega)
        have HG : Hid (callG p P.g n = (0, modFib (leaveG P.g (funcOf p n).args.toNat) P.g.now fun f => { f with frames := f.frames ++ [⟨n, 0, argsOf p P.g n (funcOf p n).args.toNat, []⟩] })) := by unfold Hid callG; rw [if_neg (by rw [HFL.out]; exact h6)]
        clear h6
        refine wp_region_ext (by kernel_rfl) (by kernel_rfl) ?_
        repeat (first
          | go_big_quiet_skip
          | (go_big_quiet_want
             unfold Oper.quiet
             apply Exists.intro
             refine ⟨fun w' hw' => ?_, ?_⟩
             focus
               have hcq := Ext.keep hw'
               go_simp
               first
                 | with_reducible rfl
                 
             (try dsimp only [Act.put])
             (try simp only [List.setIfInBounds_toArray, List.set_cons_succ, List.set_cons_zero])
             go_big_quiet_on))
        refine wpQuiet_nil ?_
        intro wq hq
        have HQ := Lib.hid hq
        obtain ⟨i1, hi1, hz3, hz4, hz5⟩ := info_parts infoFr
        have HIQ := Lib.hid ((HI.out).ext hq)
        obtain ⟨c0, c0'⟩ := Cx.ext (W := wr) ⟨c0, c0'⟩ hq
        obtain ⟨k1, k1'⟩ := Cx.ext (W := wr) ⟨k1, k1'⟩ hq
        obtain ⟨d0, d0'⟩ := Cx.ext (W := wr) ⟨d0, d0'⟩ hq
        obtain ⟨b0, b0'⟩ := (HIQ.out).c0
        obtain ⟨b1, b1'⟩ := (HIQ.out).c1
        obtain ⟨b2, b2'⟩ := (HIQ.out).c2
        obtain ⟨b3, b3'⟩ := (HIQ.out).c3
        clear hq
        go_upto_region 8 with fail
        refine wp_region_rt (fun w' => w'.cell? ⟨b, 0, none⟩ = some (.slice (some ⟨g, o, none⟩) P'.fs.length cap2) ∧ w'.cell? ⟨b, 1, none⟩ = some (.int .i64 (L.length : Int)) ∧ w'.cell? ⟨g, o + L.length * 2, none⟩ = some (.slice ay y.fr.length cy) ∧
            w'.cell? ⟨bx, 0, none⟩ = some (.int .i64 n) ∧ w'.cell? ⟨bx, 1, none⟩ = some (.int .i64 0) ∧ w'.cell? ⟨bx, 2, none⟩ = some (.slice (some ⟨gl, 0, none⟩) N N) ∧ w'.cell? ⟨bx, 3, none⟩ = some (.slice none 0 0))
          24 [0, 1, 2, 3, 4, 5, 6, 7, 8, 9, 10, 11, 12, 13, 14, 15, 16, 17, 18, 19] [20, 21, 22, 23, 24] (by kernel_rfl) (by kernel_rfl) (fun _ _ _ _ _ h => h) (by refine ⟨?_, ?_, ?_, ?_, ?_, ?_, ?_⟩ <;> simpa) ?_
        (try simp only [pickOps, List.filterMap_cons, List.filterMap_nil, List.getElem?_cons_zero, List.getElem?_cons_succ])
        repeat (
          refine readsQ_do (by rfl) ?_
          apply Exists.intro
          refine ⟨fun w' hw' => ?_, ?_⟩
          focus
            (try dsimp only at hw')
            go_split_ands
            go_simp
            (try with_reducible rfl)
          (try dsimp only [Act.put])
          (try simp only [List.setIfInBounds_toArray, List.set_cons_succ, List.set_cons_zero]))
        refine readsQ_nil ?_
        have hown := (HIQ.out).own
        have hyO := hown.fs y (by rw [(HS.out).fs]; simp)
        have HROW : Hid (RowAt wq B 4 (.slice ay y.fr.length cy) y.fr.length (y.fr.flatMap frameF)) := by unfold Hid; rw [← HEY.out]; exact hyO.row
        have HX9 : Hid (frameF ⟨⟨n, 0, argsOf p P.g n j, []⟩, .slice (some ⟨gl, 0, none⟩) N N, .slice none 0 0⟩ = [.int .i64 n, .int .i64 0, .slice (some ⟨gl, 0, none⟩) N N, .slice none 0 0]) := rfl
        have HBW : Hid (B ≤ wq.heap.size) := Nat.le_trans HB.out (by rw [← HGL.out]; exact (HIQ.out).chg.size)
        have HGY : Hid (∀ k, rowBlock (.slice ay y.fr.length cy) = some k → k ≠ b ∧ k ≠ g ∧ k ≠ bx ∧ k ∈ P'.bl) := by
          intro k hk
          rw [← HEY.out] at hk
          have hm : k ∈ y.bl := by unfold PFiber.bl; simp [hk]
          have hym : y ∈ P'.fs := by rw [(HS.out).fs]; simp
          have hmp := PState.mem_fs hym hm
          obtain ⟨d0, d1, _⟩ := hown.dis
          exact ⟨fun e => d0 (e ▸ hmp), fun e => (d1 g HBL.out).2 y hym (e ▸ hm), fun e => (HIQ.out).nb (List.mem_cons_of_mem _ (e ▸ hmp)), hmp⟩
        have HIQ2 := Lib.hid ((HIQ.out).ext ((Ext.refl wq).alloc (.cells #[.int .i64 n, .int .i64 0, .slice (some ⟨gl, 0, none⟩) N N, .slice none 0 0] 70)).drew)
        have D0Q := Lib.hid (Cx.ext (W := wq) ⟨d0, d0'⟩ ((Ext.refl wq).alloc (.cells #[.int .i64 n, .int .i64 0, .slice (some ⟨gl, 0, none⟩) N N, .slice none 0 0] 70)).drew)
        clear hown hyO
        refine tailW_step ?_
        go_wp2_with fail
        refine nextW_go (by refine ⟨?_, ?_, ?_, ?_, ?_, ?_, ?_⟩ <;> simp [*]) ?_
        refine tailW_step ?_
        go_wp2_with (first
          | (at_builtin; refine wpList_append_row rfl _ _ 66 rfl B 70 i1 (.agg #[.int .i64 0, .int .i64 0, .slice none 0 0, .slice none 0 0]) 4 64 Try.underlying66 hi1 hz3 hz4 hz5 rfl (by decide) _ _ _ rfl (by exact (HROW.out.ext (((Ext.refl _).alloc _).drew) (by decide))) 1 _ (by exact src_drew (src_cells _ _ 4 rfl (by simp [Value.oneCell']) _)) (by unfold maxLen; omega) (by omega) (by exact Nat.le_trans HBW.out (Ext.size (((Ext.refl _).alloc _).drew))) ?_; intro v1 Wv1 rv1; have RV := Lib.hid rv1; obtain ⟨a9, cap9, rfl, _, _⟩ := rv1.1.shape; clear rv1))
        have hRV : NewRow (wq.alloc (.cells #[.int .i64 n, .int .i64 0, .slice (some ⟨gl, 0, none⟩) N N, .slice none 0 0] 70)).drew Wv1 B 4 (.slice ay y.fr.length cy) (.slice a9 (y.fr.length + 1) cap9) (y.fr.length + 1) (y.fr.flatMap frameF ++ [.int .i64 n, .int .i64 0, .slice (some ⟨gl, 0, none⟩) N N, .slice none 0 0]) := RV.out
        have e0 := Chg.cell hRV.2.1 (b := b) (o := 0) (fun e => (HGY.out b e).1 rfl) (HIQ2.out).own.c0.1
        have e1 := Chg.cell hRV.2.1 (b := b) (o := 1) (fun e => (HGY.out b e).1 rfl) (HIQ2.out).own.c1.1
        have e2 := Cx.chg (D0Q.out) hRV.2.1 (fun e => (HGY.out g e).2.1 rfl)
        have e3 := Chg.cell hRV.2.1 (b := bx) (o := 0) (fun e => (HGY.out bx e).2.2.1 rfl) (HIQ2.out).c0.1
        have e4 := Chg.cell hRV.2.1 (b := bx) (o := 1) (fun e => (HGY.out bx e).2.2.1 rfl) (HIQ2.out).c1.1
        have e5 := Chg.cell hRV.2.1 (b := bx) (o := 2) (fun e => (HGY.out bx e).2.2.1 rfl) (HIQ2.out).c2.1
        have e6 := Chg.cell hRV.2.1 (b := bx) (o := 3) (fun e => (HGY.out bx e).2.2.1 rfl) (HIQ2.out).c3.1
        rw [HVF.out] at e0
        rw [HNW.out] at e1
        have HSS := Lib.hid (⟨e0, e1, e2.1, e3, e4, e5, e6⟩ : _ ∧ _ ∧ _ ∧ _ ∧ _ ∧ _ ∧ _)
        refine nextW_go HSS.out ?_
        obtain ⟨e2, e2'⟩ := e2
        clear e0 e1 e3 e4 e5 e6
        refine tailW_step ?_
        go_wp2_with fail
        refine nextW_go HSS.out ?_
        refine tailW_step ?_
        go_wp2_with fail
        refine nextW_go HSS.out ?_
        refine tailW_step ?_
        go_wp2_with fail
        refine nextW_end ?_
        go_wp2_with fail
        go_ret
        rw [HG.out, HAT.out]
        have hfin := call_fin (HIQ.out) (HS.out) (HNW.out) (HVF.out) (by rw [HEY.out]; exact hRV) (Ext.refl wq |>.alloc _ |>.drew) (by rw [← HFL.out]; exact hfr9) (HGL.out) (HB.out) (fun hN => by have := (HBX.out).2; omega) (I64.nat (by omega)) (argsOf_i64 p P.g n _ ((H.out).i64s HT.out).1) (by rw [HAL.out _ (Nat.le_refl _)]) (by omega)
        exact ⟨rfl, hfin⟩
    · have e1 : (((r + 1 : Nat) : Int) - 1) = (r : Int) := by omega
      rw [e1]
      have hT' : HasTop P'.g P'.g.now := by rw [(HI.out).g]; exact (HT.out).leave j
      have hcx : (curX P'.g).stack.length = (curX P.g).stack.length - j := by rw [(HI.out).g, curX_leave _ HT.out, List.length_take]; omega
      have HT' := Lib.hid hT'
      have HL' : Hid (1 ≤ (curX P'.g).stack.length) := by unfold Hid; omega
      obtain ⟨x2, x2'⟩ := (HI.out).c2
      have hrN : r < N := by omega
      have KR : IntKind.i64.wrap ((r : Int) - 1) = (r : Int) - 1 := IntWalk.i64_in _ (by omega)
      have hne2 : bx ≠ gl := by have := (HBX.out).2; omega
      clear hT' hcx e1
      go_upto_region 5 with fail
      obtain ⟨u, hu⟩ := (HI.out).cell hrN (by rw [HAL.out j (by omega)])
      have HU := Lib.hid hu
      clear hu
      go_region_held3 (fun w' => w'.cell? ⟨bx, 2, none⟩ = some (.slice (some ⟨gl, 0, none⟩) N N))
        (first | assumption | exact cell_other (by assumption) hne2 _)
        ((go_at_call 146; (with_reducible refine (pull_any ((HI.out).own.ext (by ((repeat (first | assumption | exact Ext.refl _ | (exact And.left (by assumption)) | refine Ext.alloc ?_ _ | refine Ext.drew ?_ | refine Ext.drewN ?_ _ | refine Ext.setCell ?_ (by simp) _ | refine Ext.setCell ?_ (by simp; omega) _ | refine Ext.trans ?_ (by assumption))); done))) HT'.out HL'.out).mono ?_); rintro e w2 ⟨rfl, t2⟩; have hk2 : w2.cell? ⟨bx, 2, none⟩ = some (.slice (some ⟨gl, 0, none⟩) N N) := Chg.cell t2.chg (HI.out).nb (by simpa using x2); obtain ⟨y2, y2'⟩ := ((HU.out).ext (Ext.refl _).drew).chg t2.chg (HI.out).nl))
      go_wp2_with fail
      have t3 : Turn wr w2 B b P' (popG P'.g) := Turn.pre (Ext.refl _).drew t2
      obtain ⟨P'', hI2⟩ := (HI.out).pull HT.out (Nat.le_of_eq HGL.out) (Ne.symm hne2) (by rw [HAT.out]; omega) (by omega) (by rw [HAT.out]; omega) hrN (by rw [HAL.out j (by omega)]) t3
      go_roundw
      case rel => exact ⟨j + 1, r, P'', by omega, rfl, hI2⟩
      case measure => simp [intOf]
end Go.Proofs.Ytgahbngbpfilgaa
end
section
/- The engine of package step: a new frame, call. -/
set_option maxHeartbeats 4000000
set_option maxRecDepth 100000
namespace Go.Proofs.Ytgahbngbpfilgaa
open Go Go.RowKit

end Go.Proofs.Ytgahbngbpfilgaa
end
