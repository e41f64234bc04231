/- Merged texts: contracts and plain facts, one part behind another; each part begins with what it says. -/
import Derived.Test.YtgahbngbpfilgaaGreatGHAI
section
set_option maxHeartbeats 4000000
set_option maxRecDepth 100000
namespace Go.Proofs.YtgahbngbpfilgaaGreat
open Go Go.RowKit
theorem split_at {α : Type} (l : List α) (n : Nat) (h : n < l.length) : ∃ L y R, l = L ++ y :: R ∧ L.length = n :=
 ⟨l.take n, l[n], l.drop (n + 1), by rw [List.getElem_cons_drop, List.take_append_drop], by rw [List.length_take]; omega⟩
theorem split_last {α : Type} (l : List α) (h : 0 < l.length) : ∃ F x, l = F ++ [x] :=
 ⟨l.dropLast, l.getLast (by intro e; subst e; simp at h), (List.dropLast_concat_getLast _).symm⟩
theorem getD_mid {α : Type} (L : List α) (y : α) (R : List α) (d : α) : (L ++ y :: R).getD L.length d = y := by simp [List.getD]
theorem getD_last {α : Type} (F : List α) (x : α) (d : α) (n : Nat) (h : n = (F ++ [x]).length - 1) : (F ++ [x]).getD n d = x := by
 subst h; simp [List.getD]
theorem modify_mid {α : Type} (L : List α) (y : α) (R : List α) (g : α → α) : (L ++ y :: R).modify L.length g = L ++ g y :: R := by
 induction L with
 | nil => rfl
 | cons a L ih => simp only [List.cons_append, List.length_cons, List.modify_succ_cons, ih]
theorem modify_last {α : Type} (F : List α) (x : α) (g : α → α) (n : Nat) (h : n = (F ++ [x]).length - 1) : (F ++ [x]).modify n g = F ++ [g x] := by
 have : n = F.length := by simp at h; exact h
 subst this
 exact modify_mid F x [] g
theorem mem_modify' {α : Type} (g : α → α) : ∀ (l : List α) (n : Nat) (y : α), y ∈ l.modify n g → y ∈ l ∨ ∃ x ∈ l, y = g x
 | [], n, y, h => by cases n <;> simp at h
 | a :: l, 0, y, h => by
  simp only [List.modify_zero_cons, List.mem_cons] at h
  rcases h with rfl | h
  ·exact .inr ⟨a, by simp, rfl⟩
  ·exact .inl (by simp [h])
 | a :: l, n + 1, y, h => by
  simp only [List.modify_succ_cons, List.mem_cons] at h
  rcases h with rfl | h
  ·exact .inl (by simp)
  ·rcases mem_modify' g l n y h with h | ⟨x, hx, e⟩
   ·exact .inl (by simp [h])
   ·exact .inr ⟨x, by simp [hx], e⟩
section
variable {P : PState} {L R : List PFiber} {y : PFiber} {F : List PFrame} {x : PFrame}
theorem fib_at (hP : P.fs = L ++ y :: R) : P.g.fibers.getD L.length default = y.g := by
 show (P.fs.map PFiber.g).getD L.length default = y.g
 rw [hP, List.map_append, List.map_cons]
 have := getD_mid (L.map PFiber.g) y.g (R.map PFiber.g) default
 rwa [List.length_map] at this
theorem top_at (hf : y.fr = F ++ [x]) : topOf y.g = x.f := by
 unfold topOf
 show (y.fr.map PFrame.f).getD ((y.fr.map PFrame.f).length - 1) default = x.f
 rw [hf, List.map_append, List.map_cons, List.map_nil]
 exact getD_last _ _ _ _ rfl
theorem modFib_at (hP : P.fs = L ++ y :: R) {n : Int} (hn : n = L.length) {y' : PFiber} {g : GFiber → GFiber} (h : y'.g = g y.g) : modFib P.g n g = PState.g { P with fs := L ++ y' :: R } := by
 subst hn
 unfold modFib PState.g
 simp only [GState.mk.injEq, and_true]
 rw [hP, List.map_append, List.map_cons, List.map_append, List.map_cons, Int.toNat_natCast]
 have := modify_mid (L.map PFiber.g) y.g (R.map PFiber.g) g
 rw [List.length_map] at this
 rw [this, h]
theorem modTop_at (hs : Spot P L y R F x) {n : Int} (hn : n = L.length) {x' : PFrame} {g : GFrame → GFrame} (h : x'.f = g x.f) : modTop P.g n g = (replTop P L y R F x').g := by
 unfold modTop replTop
 refine modFib_at hs.fs hn ?_
 unfold PFiber.g
 simp only [GFiber.mk.injEq, and_true]
 rw [hs.fr, List.map_append, List.map_append, List.map_cons, List.map_cons, List.map_nil, modify_last _ _ _ _ rfl, h]
theorem curF_at (hP : P.fs = L ++ y :: R) (hn : P.now = L.length) : curF P.g = y.g := by
 unfold curF
 rw [show P.g.now = P.now from rfl, hn, Int.toNat_natCast]
 exact fib_at hP
theorem curX_at (hs : Spot P L y R F x) (hn : P.now = L.length) : curX P.g = x.f := by
 unfold curX
 rw [curF_at hs.fs hn, top_at hs.fr]
end
theorem hasFib {P : PState} {n : Int} (h : 0 ≤ n ∧ n < P.fs.length) : ∃ L y R, P.fs = L ++ y :: R ∧ n = (L.length : Int) := by
 obtain ⟨L, y, R, e, hl⟩ := split_at P.fs n.toNat (by omega)
 exact ⟨L, y, R, e, by omega⟩
theorem hasSpot {P : PState} {n : Int} (h : HasTop P.g n) : ∃ L y R F x, Spot P L y R F x ∧ n = (L.length : Int) := by
 obtain ⟨h0, h1, h2⟩ := h
 have h1' : n < P.fs.length := by simpa [PState.g] using h1
 obtain ⟨L, y, R, e, hl⟩ := hasFib ⟨h0, h1'⟩
 rw [hl, Int.toNat_natCast, fib_at e] at h2
 obtain ⟨F, x, hf⟩ := split_last y.fr (by simpa [PFiber.g] using h2)
 exact ⟨L, y, R, F, x, ⟨e, hf⟩, hl⟩
structure Turn (W W' : World) (B b : Nat) (P : PState) (s' : GState) : Prop where
 own : ∃ P', OwnS W' B b P' ∧ P'.g = s' ∧ ∀ g ∈ P'.bl, g ∈ P.bl ∨ W.heap.size ≤ g
 chg : Chg (· ∈ b :: P.bl) W W'
theorem Turn.refl {W : World} {B b : Nat} {P : PState} (h : OwnS W B b P) : Turn W W B b P P.g := ⟨⟨P, h, rfl, fun _ h => .inl h⟩, Chg.refl _ _⟩
theorem Turn.step {W W1 W2 : World} {B b : Nat} {P P1 : PState} {s2 : GState} (hc : Chg (· ∈ b :: P.bl) W W1) (hs : ∀ g ∈ P1.bl, g ∈ P.bl ∨ W.heap.size ≤ g) (h : Turn W1 W2 B b P1 s2) : Turn W W2 B b P s2 := by
 obtain ⟨⟨P2, o2, g2, s2'⟩, c2⟩ := h
 refine ⟨⟨P2, o2, g2, fun g hg => ?_⟩, hc.trans' c2 fun n hn hm => ?_⟩
 ·rcases s2' g hg with h1 | h1
  ·exact hs g h1
  ·exact .inr (Nat.le_trans hc.size h1)
 ·rcases List.mem_cons.1 hm with rfl | h1
  ·exact List.mem_cons_self
  ·rcases hs n h1 with h2 | h2
   ·exact List.mem_cons_of_mem _ h2
   ·omega
theorem Turn.ext {W W1 : World} {B b : Nat} {P : PState} {s : GState} (h : Turn W W1 B b P s) {W2 : World} (he : Ext W1 W2) : Turn W W2 B b P s := by
 obtain ⟨⟨P1, o1, g1, s1⟩, c1⟩ := h
 exact ⟨⟨P1, o1.ext he, g1, s1⟩, c1.trans (Chg.of_ext he)⟩
theorem Turn.pre {W W1 W2 : World} {B b : Nat} {P : PState} {s : GState} (he : Ext W W1) (h : Turn W1 W2 B b P s) : Turn W W2 B b P s :=
 Turn.step (Chg.of_ext he) (fun _ h => .inl h) h
structure Did (W W' : World) (B b : Nat) (P : PState) (r : Int × GState) : Prop where
 chg : Chg (· ∈ b :: P.bl) W W'
 turn : r.1 = 0 → Turn W W' B b P r.2
theorem Did.of {W W' : World} {B b : Nat} {P : PState} {s : GState} (h : Turn W W' B b P s) : Did W W' B b P (0, s) := ⟨h.chg, fun _ => h⟩
theorem Did.step {W W1 W2 : World} {B b : Nat} {P P1 : PState} {r : Int × GState} (hc : Chg (· ∈ b :: P.bl) W W1) (hs : ∀ g ∈ P1.bl, g ∈ P.bl ∨ W.heap.size ≤ g) (h : Did W1 W2 B b P1 r) : Did W W2 B b P r := by
 refine ⟨hc.trans' h.chg fun n hn hm => ?_, fun h0 => Turn.step hc hs (h.turn h0)⟩
 rcases List.mem_cons.1 hm with rfl | h1
 ·exact List.mem_cons_self
 ·rcases hs n h1 with h2 | h2
  ·exact List.mem_cons_of_mem _ h2
  ·omega
theorem Spot.bl {P : PState} {L R : List PFiber} {y : PFiber} {F : List PFrame} {x : PFrame} (hs : Spot P L y R F x) {g : Nat} : (rowBlock y.vf = some g ∨ g ∈ x.bl) → g ∈ P.bl := by
 intro h
 refine PState.mem_fs (y := y) (by rw [hs.fs]; simp) ?_
 unfold PFiber.bl
 rcases h with h | h
 ·simp [h]
 ·exact List.mem_append.2 (.inr (List.mem_flatMap.2 ⟨x, by rw [hs.fr]; simp, h⟩))
theorem repl_bl {P : PState} {L R : List PFiber} {y : PFiber} {F : List PFrame} {x x' : PFrame} (hs : Spot P L y R F x) {n : Nat} (h : ∀ g ∈ x'.bl, g ∈ x.bl ∨ n ≤ g) : ∀ g ∈ (replTop P L y R F x').bl, g ∈ P.bl ∨ n ≤ g := by
 intro g hg
 unfold replTop PState.bl at hg
 simp only [List.flatMap_append, List.flatMap_cons, List.mem_append] at hg
 have e : PFiber.bl { y with fr := F ++ [x'] } = (rowBlock y.vf).toList ++ (F.flatMap PFrame.bl ++ x'.bl) := by unfold PFiber.bl; simp
 rw [e] at hg
 simp only [List.mem_append] at hg
 have hL : ∀ z ∈ P.fs, g ∈ z.bl → g ∈ P.bl := fun z hz h => PState.mem_fs hz h
 have hfm : ∀ (l : List PFiber), (∀ z ∈ l, z ∈ P.fs) → g ∈ l.flatMap PFiber.bl → g ∈ P.bl := fun l hl h => by
  obtain ⟨z, hz, h2⟩ := List.mem_flatMap.1 h
  exact hL z (hl z hz) h2
 rcases hg with (h1 | h1) | h1 | (h1 | h1 | h1) | h1
 ·exact .inl (PState.mem_vfs (by simpa using h1))
 ·exact .inl (PState.mem_vo (by simpa using h1))
 ·exact .inl (hfm L (fun z hz => by rw [hs.fs]; simp [hz]) h1)
 ·exact .inl (hs.bl (.inl (by simpa using h1)))
 ·obtain ⟨z, hz, h2⟩ := List.mem_flatMap.1 h1
  refine .inl (hL y (by rw [hs.fs]; simp) ?_)
  unfold PFiber.bl
  exact List.mem_append.2 (.inr (List.mem_flatMap.2 ⟨z, by rw [hs.fr]; simp [hz], h2⟩))
 ·rcases h g h1 with h2 | h2
  ·exact .inl (hs.bl (.inr h2))
  ·exact .inr h2
 ·exact .inl (hfm R (fun z hz => by rw [hs.fs]; simp [hz]) h1)
theorem frame_bl {x : PFrame} {f : GFrame} {v1 : Value} {n : Nat} (h : rowBlock v1 = rowBlock x.vs ∨ ∀ k, rowBlock v1 = some k → n ≤ k) : ∀ g ∈ PFrame.bl ⟨f, x.vl, v1⟩, g ∈ x.bl ∨ n ≤ g := by
 intro g hg
 unfold PFrame.bl at hg ⊢
 rcases List.mem_append.1 hg with h1 | h1
 ·exact .inl (List.mem_append.2 (.inl h1))
 ·rcases h with h | h
  ·exact .inl (List.mem_append.2 (.inr (by rw [← h]; exact h1)))
  ·exact .inr (h g (by simpa using h1))
theorem chg_spot {P : PState} {L R : List PFiber} {y : PFiber} {F : List PFrame} {x : PFrame} {b : Nat} (hs : Spot P L y R F x) {W W' : World} (h : Chg (fun k => rowBlock y.vf = some k ∨ rowBlock x.vs = some k) W W') : Chg (· ∈ b :: P.bl) W W' :=
 h.mono (fun k _ hk => List.mem_cons_of_mem _ (hs.bl (hk.imp id (fun e => by unfold PFrame.bl; simp [e]))))
def Room (s : GState) : Prop := ∀ f ∈ s.fibers, ∀ x ∈ f.frames, x.stack.length < 1000
theorem Room.fib {s : GState} (h : Room s) (n : Int) {g : GFiber → GFiber} (hg : ∀ f, (∀ x ∈ f.frames, x.stack.length < 1000) → ∀ x ∈ (g f).frames, x.stack.length < 1000) : Room (modFib s n g) := by
 intro f hf
 rcases mem_modify' g _ _ _ hf with h1 | ⟨z, h1, rfl⟩
 ·exact h f h1
 ·exact hg z (h z h1)
theorem Room.top {s : GState} (h : Room s) (n : Int) {g : GFrame → GFrame} (hg : ∀ x, (g x).stack.length ≤ x.stack.length) : Room (modTop s n g) :=
 h.fib n fun f hf x hx => by
  rcases mem_modify' g _ _ _ hx with h1 | ⟨z, h1, rfl⟩
  ·exact hf x h1
  ·exact Nat.lt_of_le_of_lt (hg z) (hf z h1)
theorem Room.pop {s : GState} (h : Room s) : Room (popG s) := h.top _ fun _ => by simp
theorem Room.drop {s : GState} (h : Room s) : Room (dropG s) := h.fib _ fun _ hf x hx => hf x (List.dropLast_subset _ hx)
theorem Room.caller {s : GState} (h : Room s) (n c : Int) : Room (modFib s n fun f => { f with caller := c }) := h.fib n fun _ hf x hx => hf x hx
theorem Room.now {s : GState} (h : Room s) (n : Int) : Room { s with now := n } := h
theorem FewS.room {s : GState} (h : FewS s) : Room s := fun f hf x hx => by have := ((h.2.2 f hf).2 x hx).2; omega
theorem push_any {P : PState} {w : World} {B b : Nat} (h : OwnS w B b P) (n : Int) (ht : HasTop P.g n) (hr : Room P.g) (v : Int) (hv : I64 v) :
  Calls Tryz.prog 92 #[.pointer (some ⟨b, 0, none⟩), .int .i64 n, .int .i64 v] w fun e w' => e = .returned (.tuple #[]) ∧ Turn w w' B b P (pushG P.g n v) := by
 obtain ⟨L, y, R, F, x, hs, rfl⟩ := hasSpot ht
 have hx : x.f.stack.length < 1000 := hr y.g (by unfold PState.g; rw [hs.fs]; simp) x.f (by unfold PFiber.g; rw [hs.fr]; simp)
 refine (push_at h hs L.length rfl v hv hx).mono ?_
 rintro e w' ⟨rfl, ⟨v1, o1, hv1⟩, hc⟩
 exact ⟨rfl, ⟨⟨_, o1, (modTop_at hs rfl rfl).symm, repl_bl hs (frame_bl hv1)⟩, chg_spot hs hc⟩⟩
theorem pull_any {P : PState} {w : World} {B b : Nat} (h : OwnS w B b P) (ht : HasTop P.g P.g.now) (hl : 1 ≤ (curX P.g).stack.length) :
  Calls Tryz.prog 93 #[.pointer (some ⟨b, 0, none⟩)] w fun e w' => e = .returned (.int .i64 (lastV P.g)) ∧ Turn w w' B b P (popG P.g) := by
 obtain ⟨L, y, R, F, x, hs, hn⟩ := hasSpot ht
 have hcx := curX_at hs hn
 rw [hcx] at hl
 obtain ⟨st, u, hst⟩ := split_last x.f.stack (by omega)
 have hlast : lastV P.g = u := by unfold lastV; rw [hcx, hst]; exact getD_last _ _ _ _ rfl
 refine (pull_at h hs hn st u hst).mono ?_
 rintro e w' ⟨rfl, ⟨v1, o1, hv1⟩, hc⟩
 refine ⟨by rw [hlast], ⟨⟨_, o1, (modTop_at hs hn ?_).symm, repl_bl hs (frame_bl (.inl hv1))⟩, chg_spot hs hc⟩⟩
 simp [hst]
theorem OwnS.i64s {P : PState} {w : World} {B b : Nat} (h : OwnS w B b P) (ht : HasTop P.g P.g.now) : (∀ k ∈ (curX P.g).stack, I64 k) ∧ (∀ k ∈ (curX P.g).locals, I64 k) := by
 obtain ⟨L, y, R, F, x, hs, hn⟩ := hasSpot ht
 rw [curX_at hs hn]
 have hx := (h.fs y (by rw [hs.fs]; simp)).fr x (by rw [hs.fr]; simp)
 exact ⟨hx.i.2.2.2, hx.i.2.2.1⟩
theorem OwnS.lastI {P : PState} {w : World} {B b : Nat} (h : OwnS w B b P) (ht : HasTop P.g P.g.now) (hl : 1 ≤ (curX P.g).stack.length) : I64 (lastV P.g) := by
 refine (h.i64s ht).1 _ ?_
 unfold lastV
 rw [List.getD_eq_getElem?_getD, List.getElem?_eq_getElem (by omega)]
 exact List.getElem_mem _
theorem put_any {P : PState} {w : World} {B b : Nat} (h : OwnS w B b P) (hl : P.g.out.length < 1000) (v : Int) (hv : I64 v) :
  Calls Tryz.prog 98 #[.pointer (some ⟨b, 0, none⟩), .int .i64 v] w fun e w' => e = .returned (.int .i64 (putG P.g v).1) ∧ Did w w' B b P (putG P.g v) := by
 have hl' : P.out.length < 1000 := hl
 obtain ⟨ao, co, eo, hco, hmo⟩ := h.out.shape
 have c2 := h.c2
 have HRO : Hid (RowAt w B 1 (.slice ao P.out.length co) P.out.length (ints P.out)) := by unfold Hid; rw [← eo]; exact h.out
 rw [eo] at c2
 have C2 := Lib.hid c2
 have HEO := Lib.hid eo
 have H := Lib.hid h
 have HB : Hid (B ≤ w.heap.size) := Nat.le_trans h.le (Nat.le_of_lt h.c0.lt)
 have HBO : Hid (¬ rowBlock (.slice ao P.out.length co) = some b) := by unfold Hid; rw [← eo]; exact fun e => h.dis.1 (PState.mem_vo e)
 obtain ⟨i0, hi0, hz0, hz1, hz2⟩ := info_parts infoI
 have RA := alloc_keep
 by_cases h30 : P.out.length = 30
 ·have HG : Hid (putG P.g v = (2, P.g)) := by unfold Hid putG; rw [if_pos (show P.g.out.length = 30 from h30)]
  rw [HG.out]
  have T : decide (((P.out.length : Nat) : Int) = 30) = true := decide_eq_true (by omega)
  have T' : (((P.out.length : Nat) : Int) == 30) = true := by simpa using T
  obtain ⟨c2, -⟩ := C2.out
  clear h eo h30 hl hl' hco hmo
  generalize P.out.length = m at *
  go_enter Tryz.func98, Tryz.ntmps98
  go_wp2_with fail
  go_ret
  exact ⟨rfl, ⟨Chg.refl _ _, fun h => by cases h⟩⟩
 ·have HG : Hid (putG P.g v = (0, { P.g with out := P.g.out ++ [v] })) := by unfold Hid putG; rw [if_neg (show ¬ P.g.out.length = 30 from h30)]
  rw [HG.out]
  have T : decide (((P.out.length : Nat) : Int) = 30) = false := decide_eq_false (by omega)
  have T' : (((P.out.length : Nat) : Int) == 30) = false := by simpa using T
  obtain ⟨c2, c2'⟩ := C2.out
  clear h eo h30 hl hco hmo
  go_enter Tryz.func98, Tryz.ntmps98
  go_wp2_with (first
   | (at_builtin; refine wpList_append_row rfl _ _ 24 rfl B 3 i0 (.int .i64 0) 1 8 Tryz.underlying24 hi0 hz0 hz1 hz2 rfl (by decide) _ _ _ rfl (by exact (HRO.out.ext ((Ext.refl _).alloc _) (by decide))) 1 (ints [v]) (src_one _ _ _) (by unfold maxLen; omega) (by omega) (by exact Nat.le_trans HB.out (Ext.size ((Ext.refl _).alloc _))) ?_; intro v1 Wv1 rv1; have RV := Lib.hid rv1; obtain ⟨k0, k0'⟩ := (C2.out.ext ((Ext.refl w).alloc _)).chg rv1.2.1 HBO.out; obtain ⟨a9, cap9, rfl, _, _⟩ := rv1.1.shape; clear rv1))
  go_ret
  have hRV : NewRow (w.alloc (.cells #[.int .i64 v] 3)) Wv1 B 1 (.slice ao P.out.length co) (.slice a9 (P.out.length + 1) cap9) (P.out.length + 1) (ints P.out ++ ints [v]) := RV.out
  have hA : Ext w (w.alloc (.cells #[.int .i64 v] 3)) := (Ext.refl _).alloc _
  obtain ⟨r1, r2, r3⟩ := hRV
  have hfin := H.out.setOut (W1 := Wv1) (out := P.out ++ [v]) (v1 := .slice a9 (P.out.length + 1) cap9)
   ((Chg.of_ext hA).trans (r2.mono (fun k _ e => by rw [HEO.out]; exact e)))
   (by rw [List.length_append, List.length_singleton, ints_app]; exact r1) (fun k hk => by rcases List.mem_append.1 hk with h1 | h1; exact H.out.i.2 k h1; rw [List.mem_singleton.1 h1]; exact hv)
   (by rw [List.length_append, List.length_singleton]; omega) (r3.imp (fun e => by rw [HEO.out]; exact e) (fun e k hk => Nat.le_trans hA.size (e k hk)))
  refine ⟨rfl, Did.of ⟨⟨_, hfin.1, rfl, fun g hg => ?_⟩, hfin.2⟩⟩
  unfold PState.bl at hg
  rcases List.mem_append.1 hg with h1 | h1
  ·rcases List.mem_append.1 h1 with h2 | h2
   ·exact .inl (PState.mem_vfs (by simpa using h2))
   ·have h3 : rowBlock (.slice a9 (P.out.length + 1) cap9) = some g := by simpa using h2
    rcases r3 with e | e
    ·exact .inl (PState.mem_vo (by rw [HEO.out, ← e]; exact h3))
    ·exact .inr (Nat.le_trans hA.size (e g h3))
  ·obtain ⟨z, hz, h2⟩ := List.mem_flatMap.1 h1
   exact .inl (PState.mem_fs hz h2)
theorem truth_any (t : Bool) (w : World) : Calls Tryz.prog 118 #[.bool t] w fun e w' => e = .returned (.int .i64 (truthG t)) ∧ w' = w := by
 cases t with
 | true =>
  go_enter Tryz.func118, Tryz.ntmps118
  go_wp2_with fail
  go_ret
  exact ⟨rfl, rfl⟩
 | false =>
  go_enter Tryz.func118, Tryz.ntmps118
  go_wp2_with fail
  go_ret
  exact ⟨rfl, rfl⟩
theorem beq_dec (a c : Int) : (a == c) = decide (a = c) := by
 by_cases e : a = c
 ·rw [decide_eq_true e, e]; exact beq_self_eq_true c
 ·rw [beq_false_of_ne e, decide_eq_false e]
theorem reckoned_any (k a c : Int) (w : World) : Calls Tryz.prog 99 #[.int .i64 k, .int .i64 a, .int .i64 c] w fun e w' => e = .returned (.int .i64 (reckG k a c)) ∧ w' = w := by
 by_cases h4 : k = 4
 ·subst h4
  go_enter Tryz.func99, Tryz.ntmps99
  go_wp2_with fail
  go_ret
  exact ⟨rfl, rfl⟩
 by_cases h5 : k = 5
 ·subst h5
  go_enter Tryz.func99, Tryz.ntmps99
  go_wp2_with fail
  go_ret
  exact ⟨rfl, rfl⟩
 by_cases h6 : k = 6
 ·subst h6
  go_enter Tryz.func99, Tryz.ntmps99
  go_wp2_with fail
  go_ret
  exact ⟨rfl, rfl⟩
 by_cases h7 : k = 7
 ·subst h7
  go_enter Tryz.func99, Tryz.ntmps99
  go_wp2_with (first
   | (go_at_call 118; refine (truth_any _ _).mono ?_; rintro e w2 ⟨rfl, rfl⟩))
  go_ret
  exact ⟨rfl, rfl⟩
 have HG : Hid (reckG k a c = truthG (decide (a = c))) := by unfold Hid reckG; rw [if_neg h4, if_neg h5, if_neg h6, if_neg h7]
 rw [HG.out]
 have T4 : (k == 4) = false := beq_false_of_ne h4
 have T5 : (k == 5) = false := beq_false_of_ne h5
 have T6 : (k == 6) = false := beq_false_of_ne h6
 have T7 : (k == 7) = false := beq_false_of_ne h7
 clear h4 h5 h6 h7
 go_enter Tryz.func99, Tryz.ntmps99
 go_wp2_with (first
  | (go_at_call 118; refine (truth_any _ _).mono ?_; rintro e w2 ⟨rfl, rfl⟩))
 go_ret
 exact ⟨by show Ending.returned (Value.int .i64 (truthG (a == c))) = _; rw [beq_dec], rfl⟩
end Go.Proofs.YtgahbngbpfilgaaGreat
end
section
set_option maxHeartbeats 4000000
set_option maxRecDepth 100000
namespace Go.Proofs.YtgahbngbpfilgaaGreat
open Go Go.RowKit
theorem modFib_len (s : GState) (n : Int) (g : GFiber → GFiber) : (modFib s n g).fibers.length = s.fibers.length := by unfold modFib; simp
theorem modFib_get (s : GState) (n : Int) (g : GFiber → GFiber) (m : Nat) (hm : m < s.fibers.length) : (modFib s n g).fibers.getD m default = if n.toNat = m then g (s.fibers.getD m default) else s.fibers.getD m default := by
 unfold modFib
 show (s.fibers.modify n.toNat g).getD m default = _
 rw [List.getD_eq_getElem?_getD, List.getElem?_modify, List.getD_eq_getElem?_getD, List.getElem?_eq_getElem hm]
 by_cases h : n.toNat = m <;> simp [h]
theorem HasTop.fib {s : GState} {n : Int} (h : HasTop s n) (m : Int) {g : GFiber → GFiber} (hg : ∀ f, 0 < f.frames.length → 0 < (g f).frames.length) : HasTop (modFib s m g) n := by
 obtain ⟨h0, h1, h2⟩ := h
 refine ⟨h0, by rw [modFib_len]; exact h1, ?_⟩
 rw [modFib_get _ _ _ _ (by omega)]
 split
 ·exact hg _ h2
 ·exact h2
theorem HasTop.top {s : GState} {n : Int} (h : HasTop s n) (m : Int) {g : GFrame → GFrame} : HasTop (modTop s m g) n := h.fib m fun f hf => by simpa using hf
theorem HasTop.pop {s : GState} {n : Int} (h : HasTop s n) : HasTop (popG s) n := h.top _
theorem OwnS.back {P : PState} {L R : List PFiber} {y : PFiber} {W : World} {B b g o n cap : Nat} (h : OwnS W B b P) (hP : P.fs = L ++ y :: R) (hn : P.now = L.length) (hv : P.vfs = .slice (some ⟨g, o, none⟩) n cap) :
  ∃ P1, OwnS ((W.setCell ⟨b, 1, none⟩ (.int .i64 y.caller)).setCell ⟨g, o + L.length * 2 + 1, none⟩ (.int .i64 (-1))) B b P1 ∧ P1.g = { modFib P.g P.g.now (fun f => { f with caller := -1 }) with now := y.caller } ∧ (∀ g, g ∈ P1.bl ↔ g ∈ P.bl) ∧
   Chg (· ∈ b :: P.bl) W ((W.setCell ⟨b, 1, none⟩ (.int .i64 y.caller)).setCell ⟨g, o + L.length * 2 + 1, none⟩ (.int .i64 (-1))) := by
 have hym : y ∈ P.fs := by rw [hP]; simp
 have o2 := h.setNow y.caller (h.fs y hym).i
 have o3 := OwnS.setCaller (P := { P with now := y.caller }) o2 hP hv (-1) (by unfold I64; decide)
 refine ⟨_, o3.1, ?_, fun k => ?_, ?_⟩
 ·have e := modFib_at hP (n := P.g.now) hn (y' := { y with caller := -1 }) (g := fun f => { f with caller := -1 }) rfl
  rw [e]
  rfl
 ·unfold PState.bl
  rw [hP]
  simp only [List.flatMap_append, List.flatMap_cons]
  rfl
 ·exact ((chg_one W b 1 (.int .i64 y.caller)).mono (fun k _ hk => by rw [show k = b from hk]; exact List.mem_cons_self)).trans (o3.2.mono fun k _ hk => List.mem_cons_of_mem _ hk)
theorem yielded_any {P : PState} {w : World} {B b : Nat} (h : OwnS w B b P) (ht : HasTop P.g P.g.now) (hr : Room P.g) (hl : 1 ≤ (curX P.g).stack.length) (hb : BackFit (popG P.g)) :
    Calls Tryz.prog 97 #[.pointer (some ⟨b, 0, none⟩)] w fun e w' => e = .returned (.int .i64 (yieldG P.g).1) ∧ Did w w' B b P (yieldG P.g) := by
  have hLI := h.lastI ht hl
  have H := Lib.hid h
  have HT := Lib.hid ht
  have HL := Lib.hid hl
  clear h
  have RA := alloc_keep
  generalize hv : lastV P.g = v at *
  have HV := Lib.hid hv
  go_enter Tryz.func97, Tryz.ntmps97
  go_upto_region 2 with (first
    | (go_at_call 93; (with_reducible refine (pull_any H.out HT.out HL.out).mono ?_); rintro e w2 ⟨rfl, t2⟩; rw [HV.out]))
  clear hv
  obtain ⟨⟨P1, o1, g1, s1⟩, c1⟩ := t2
  have hr1 : Room P1.g := by rw [g1]; exact hr.pop
  have ht1 : HasTop P1.g P1.g.now := by rw [g1]; exact ht.pop
  rw [← g1] at hb
  have HY : Hid (yieldG P.g = if (curF P1.g).caller < 0 then (7, P.g) else (0, backG P1.g v)) := by unfold Hid yieldG; rw [← g1, HV.out]
  obtain ⟨L, y, R, F, x, hs, hn⟩ := hasSpot ht1
  have hn : P1.now = L.length := hn
  have hP := hs.fs
  have hcur := curF_at hP hn
  obtain ⟨g, o, cap, hvf, hlt, d0, ⟨d1, d1'⟩, hbl⟩ := o1.place hP
  have hym : y ∈ P1.fs := by rw [hP]; simp
  have hgb : ¬ g = b := fun e => o1.dis.1 (e ▸ PState.mem_vfs hbl)
  have hbg : ¬ b = g := fun e => hgb e.symm
  obtain ⟨c0, c0'⟩ := o1.c0
  obtain ⟨k1, k1'⟩ := o1.c1
  rw [hn] at k1
  rw [hvf] at c0
  have HC := Lib.hid hcur
  have HVF := Lib.hid hvf
  have HB := Lib.hid hb
  have HP := Lib.hid hP
  have HN := Lib.hid hn
  have HO := Lib.hid o1
  have HC1 := Lib.hid c1
  have HS1 := Lib.hid s1
  have HR1 := Lib.hid hr1
  clear hcur hvf hb hP hn hs ht1 o1 c1 s1 hr1 d0 hbl hym g1 hr ht hl HT HL
  generalize hcl : y.caller = cl at *
  have HCL := Lib.hid hcl
  clear hcl
  by_cases hc : cl < 0
  · have T : decide (cl < 0) = true := decide_eq_true hc
    have HYE : Hid (yieldG P.g = (7, P.g)) := by unfold Hid; rw [HY.out, HC.out, show y.g.caller = cl from HCL.out, if_pos hc]
    clear hc
    refine wp_region_ext (by kernel_rfl) (by kernel_rfl) ?_
    repeat (first
      | go_big_quiet_skip
      | (go_big_quiet_want
         unfold Oper.quiet
         apply Exists.intro
         refine ⟨fun w' hw' => ?_, ?_⟩
         focus
           have hcq := Ext.keep hw'
           go_simp
           first
             | with_reducible rfl
         (try dsimp only [Act.put])
         (try simp only [List.setIfInBounds_toArray, List.set_cons_succ, List.set_cons_zero])
         go_big_quiet_on))
    refine wpQuiet_nil ?_
    intro wq hq
    obtain ⟨d1, d1'⟩ := Cx.ext (W := w2) ⟨d1, d1'⟩ hq
    obtain ⟨c0, c0'⟩ := Cx.ext (W := w2) ⟨c0, c0'⟩ hq
    obtain ⟨k1, k1'⟩ := Cx.ext (W := w2) ⟨k1, k1'⟩ hq
    go_wp2_with fail
    go_ret
    rw [HYE.out]
    exact ⟨rfl, ⟨HC1.out.trans (Chg.of_ext hq), fun h => by cases h⟩⟩
  · have T : decide (cl < 0) = false := decide_eq_false hc
    have HYE : Hid (yieldG P.g = (0, backG P1.g v)) := by unfold Hid; rw [HY.out, HC.out, show y.g.caller = cl from HCL.out, if_neg hc]
    clear hc
    refine wp_region_ext (by kernel_rfl) (by kernel_rfl) ?_
    repeat (first
      | go_big_quiet_skip
      | (go_big_quiet_want
         unfold Oper.quiet
         apply Exists.intro
         refine ⟨fun w' hw' => ?_, ?_⟩
         focus
           have hcq := Ext.keep hw'
           go_simp
           first
             | with_reducible rfl
         (try dsimp only [Act.put])
         (try simp only [List.setIfInBounds_toArray, List.set_cons_succ, List.set_cons_zero])
         go_big_quiet_on))
    refine wpQuiet_nil ?_
    intro wq hq
    obtain ⟨d1, d1'⟩ := Cx.ext (W := w2) ⟨d1, d1'⟩ hq
    obtain ⟨c0, c0'⟩ := Cx.ext (W := w2) ⟨c0, c0'⟩ hq
    obtain ⟨k1, k1'⟩ := Cx.ext (W := w2) ⟨k1, k1'⟩ hq
    obtain ⟨P2, o2, g2, b2, c2⟩ := (HO.out.ext hq).back HP.out HN.out HVF.out
    rw [HCL.out] at o2 g2 c2
    have HTB : HasTop P2.g cl := by
      rw [g2]
      rcases HB.out with h1 | h1
      · rw [HC.out, show y.g.caller = cl from HCL.out] at h1; exact absurd h1 (of_decide_eq_false T)
      · rw [HC.out, show y.g.caller = cl from HCL.out] at h1; exact h1
    have HR2 : Room P2.g := by rw [g2]; exact HR1.out.caller _ _
    have HO2 := Lib.hid o2
    have C3 := Lib.hid ((Chg.of_ext hq).trans c2)
    clear c2 o2
    go_wp2_with (first
      | (go_at_call 92; (with_reducible refine (push_any HO2.out cl HTB HR2 v hLI).mono ?_); rintro e w3 ⟨rfl, t3⟩))
    go_ret
    rw [HYE.out]
    refine ⟨rfl, Did.of (Turn.step HC1.out HS1.out (Turn.step C3.out (fun k hk => .inl ((b2 k).1 hk)) ?_))⟩
    have e : backG P1.g v = pushG P2.g cl v := by unfold backG; rw [HC.out, g2, show y.g.caller = cl from HCL.out]
    rw [e]
    exact t3
theorem RowAt.cutF {α : Type} (f : α → List Value) {sz : Nat} (hf : ∀ y, (f y).length = sz) {W : World} {B cap : Nat} {a : Option Addr} {F : List α} {x : α} (h : RowAt W B sz (.slice a (F ++ [x]).length cap) (F ++ [x]).length ((F ++ [x]).flatMap f)) : RowAt W B sz (.slice a F.length cap) F.length (F.flatMap f) := by
 obtain ⟨hl, a', cap', e, h1, h2, h3⟩ := h
 simp only [Value.slice.injEq] at e
 obtain ⟨rfl, -, rfl⟩ := e
 rw [List.length_append, List.length_singleton] at h1
 refine ⟨flat_len f hf F, _, _, rfl, by omega, h2, h3.imp id ?_⟩
 rintro ⟨g, o, rfl, hb, hc, ht⟩
 refine ⟨g, o, rfl, hb, fun j hj => ?_, ht⟩
 rw [hc j (by rw [List.length_append, List.length_singleton, Nat.add_mul]; omega), List.flatMap_append, List.getElem?_append_left (by rw [flat_len f hf]; omega)]
theorem OwnS.fnodup {P : PState} {W : World} {B b : Nat} {L R : List PFiber} {y : PFiber} (h : OwnS W B b P) (hP : P.fs = L ++ y :: R) : y.bl.Nodup := by
 have h1 := (List.nodup_cons.1 h.nodup).2
 unfold PState.bl at h1
 rw [hP, List.flatMap_append, List.flatMap_cons] at h1
 exact (List.nodup_append.1 (List.nodup_append.1 (List.nodup_append.1 h1).2.1).2.1).1
theorem OwnS.dropTop {P : PState} {L R : List PFiber} {y : PFiber} {F : List PFrame} {x : PFrame} {W : World} {B b g o n cap gf og cf : Nat} (h : OwnS W B b P) (hs : Spot P L y R F x) (hv : P.vfs = .slice (some ⟨g, o, none⟩) n cap) (hf : y.vf = .slice (some ⟨gf, og, none⟩) (F ++ [x]).length cf) :
  OwnS (W.setCell ⟨g, o + L.length * 2, none⟩ (.slice (some ⟨gf, og, none⟩) F.length cf)) B b { P with fs := L ++ ⟨F, y.caller, .slice (some ⟨gf, og, none⟩) F.length cf⟩ :: R } ∧ Chg (· ∈ P.bl) W (W.setCell ⟨g, o + L.length * 2, none⟩ (.slice (some ⟨gf, og, none⟩) F.length cf)) ∧
  ∀ k ∈ PState.bl { P with fs := L ++ ⟨F, y.caller, .slice (some ⟨gf, og, none⟩) F.length cf⟩ :: R }, k ∈ P.bl := by
 have hym : y ∈ P.fs := by rw [hs.fs]; simp
 have hy := h.fs y hym
 have hrow := hy.row
 rw [hs.fr, hf] at hrow
 have hfew := hy.few
 rw [hs.fr] at hfew
 have hrb : rowBlock (.slice (some ⟨gf, og, none⟩) F.length cf) = rowBlock y.vf := by rw [hf]; rfl
 have hbl : PFiber.bl ⟨F, y.caller, .slice (some ⟨gf, og, none⟩) F.length cf⟩ = (rowBlock y.vf).toList ++ F.flatMap PFrame.bl := by unfold PFiber.bl; rw [hrb]
 have hbl2 : y.bl = (rowBlock y.vf).toList ++ F.flatMap PFrame.bl ++ x.bl := by unfold PFiber.bl; rw [hs.fr]; simp
 have hnd := h.fnodup hs.fs
 rw [hbl2] at hnd
 have hsub : ∀ k ∈ PFiber.bl ⟨F, y.caller, .slice (some ⟨gf, og, none⟩) F.length cf⟩, k ∈ y.bl := fun k hk => by rw [hbl] at hk; rw [hbl2]; exact List.mem_append.2 (.inl hk)
 obtain ⟨h1, h2⟩ := h.setFrames (y' := ⟨F, y.caller, .slice (some ⟨gf, og, none⟩) F.length cf⟩) hs.fs hv (W1 := W) (Chg.refl _ _) rfl
  ⟨hy.i, hrow.cutF frameF (fun _ => rfl), fun u hu => hy.fr u (by rw [hs.fr]; simp [show u ∈ F from hu]), by simp at hfew; show F.length ≤ 1000; omega⟩ (by rw [hbl]; exact (List.nodup_append.1 hnd).1) (fun k hk => .inl (hsub k hk))
 refine ⟨h1, h2, fun k hk => ?_⟩
 unfold PState.bl at hk
 simp only [List.flatMap_append, List.flatMap_cons, List.mem_append] at hk
 rcases hk with (h3 | h3) | h3 | h3 | h3
 ·exact PState.mem_vfs (by simpa using h3)
 ·exact PState.mem_vo (by simpa using h3)
 ·obtain ⟨z, hz, h4⟩ := List.mem_flatMap.1 h3
  exact PState.mem_fs (y := z) (by rw [hs.fs]; simp [hz]) h4
 ·exact PState.mem_fs hym (hsub k h3)
 ·obtain ⟨z, hz, h4⟩ := List.mem_flatMap.1 h3
  exact PState.mem_fs (y := z) (by rw [hs.fs]; simp [hz]) h4
theorem given_any {P : PState} {w : World} {B b : Nat} (h : OwnS w B b P) (ht : HasTop P.g P.g.now) (hr : Room P.g) (ho : P.g.out.length < 1000) (hb : ReturnFit P.g) :
    Calls Tryz.prog 95 #[.pointer (some ⟨b, 0, none⟩)] w fun e w' => e = .returned (.int .i64 (returnG P.g).1) ∧ Did w w' B b P (returnG P.g) := by
  obtain ⟨hl, hb⟩ := hb
  have hLI := h.lastI ht hl
  have H := Lib.hid h
  have HT := Lib.hid ht
  have HL := Lib.hid hl
  clear h
  have RA := alloc_keep
  generalize hv : lastV P.g = v at *
  have HV := Lib.hid hv
  go_enter Tryz.func95, Tryz.ntmps95
  go_upto_region 2 with (first
    | (go_at_call 93; (with_reducible refine (pull_any H.out HT.out HL.out).mono ?_); rintro e w2 ⟨rfl, t2⟩; rw [HV.out]))
  clear hv
  obtain ⟨⟨P1, o1, g1, s1⟩, c1⟩ := t2
  have hr1 : Room P1.g := by rw [g1]; exact hr.pop
  have ht1 : HasTop P1.g P1.g.now := by rw [g1]; exact ht.pop
  have ho1 : P1.g.out.length < 1000 := by rw [g1]; exact ho
  rw [← g1] at hb
  have HY : Hid (returnG P.g = if 0 < (curF (dropG P1.g)).frames.length then (0, pushG (dropG P1.g) P1.g.now v) else if (curF (dropG P1.g)).caller < 0 then putG { dropG P1.g with now := -1 } v else (0, backG (dropG P1.g) v)) := by
    unfold Hid returnG; rw [← g1, HV.out, show P.g.now = P1.g.now from by rw [g1]; rfl]
  obtain ⟨L, y, R, F, x, hs, hn⟩ := hasSpot ht1
  have hn : P1.now = L.length := hn
  have hP := hs.fs
  obtain ⟨g, o, cap, hvf, hlt, d0, -, hbl⟩ := o1.place hP
  obtain ⟨gf, og, cf, hyf, hcf, -, -, -, -, -, -⟩ := o1.spot hs
  have hym : y ∈ P1.fs := by rw [hP]; simp
  have hgb : ¬ g = b := fun e => o1.dis.1 (e ▸ PState.mem_vfs hbl)
  have hbg : ¬ b = g := fun e => hgb e.symm
  have hfr : (F ++ [x]).length ≤ 1000 := by
    have := (o1.fs y hym).few
    rwa [hs.fr] at this
  have hlen : (F ++ [x]).length = F.length + 1 := by simp
  have hmN : F.length < (F ++ [x]).length := by omega
  have KK : IntKind.i64.wrap (((F ++ [x]).length : Int) - 1) = (F.length : Int) := by
    have e : (((F ++ [x]).length : Int) - 1) = (F.length : Int) := by omega
    rw [e]; exact IntWalk.i64_in _ (by omega)
  obtain ⟨c0, c0'⟩ := o1.c0
  obtain ⟨k1, k1'⟩ := o1.c1
  rw [hn] at k1
  rw [hvf] at c0
  rw [hyf] at d0
  obtain ⟨d0, d0'⟩ := d0
  have HVF := Lib.hid hvf
  have HYF := Lib.hid hyf
  have HB := Lib.hid hb
  have HP := Lib.hid hP
  have HN := Lib.hid hn
  have HS := Lib.hid hs
  have HO := Lib.hid o1
  have HC1 := Lib.hid c1
  have HS1 := Lib.hid s1
  have HR1 := Lib.hid hr1
  clear hvf hyf hb hP hn hs ht1 o1 c1 s1 hr1 hbl hym g1 hr ht hl HT HL hlen ho
  generalize hN : (F ++ [x]).length = N at *
  have HNN := Lib.hid hN
  clear hN
  refine wp_region_ext (by kernel_rfl) (by kernel_rfl) ?_
  repeat (first
    | go_big_quiet_skip
    | (go_big_quiet_want
       unfold Oper.quiet
       apply Exists.intro
       refine ⟨fun w' hw' => ?_, ?_⟩
       focus
         have hcq := Ext.keep hw'
         go_simp
         first
           | with_reducible rfl
       (try dsimp only [Act.put])
       (try simp only [List.setIfInBounds_toArray, List.set_cons_succ, List.set_cons_zero])
       go_big_quiet_on))
  refine wpQuiet_nil ?_
  intro wq hq
  obtain ⟨d0, d0'⟩ := Cx.ext (W := w2) ⟨d0, d0'⟩ hq
  obtain ⟨c0, c0'⟩ := Cx.ext (W := w2) ⟨c0, c0'⟩ hq
  obtain ⟨k1, k1'⟩ := Cx.ext (W := w2) ⟨k1, k1'⟩ hq
  go_upto_region 3 with fail
  go_cut [29] (fun _ wr => OwnS wr B b { P1 with fs := L ++ ⟨F, y.caller, .slice (some ⟨gf, og, none⟩) F.length cf⟩ :: R } ∧ Chg (· ∈ b :: P1.bl) wq wr)
  case first =>
    go_region
    go_wp2_with fail
    go_meet
    have h9 := (HO.out.ext hq).dropTop HS.out HVF.out (by rw [HNN.out]; exact HYF.out)
    exact ⟨h9.1.ext (Ext.refl _).drew, (h9.2.1.mono (fun k _ hk => List.mem_cons_of_mem _ hk)).drew⟩
  case rest =>
    rename World => w3
    obtain ⟨o3, c3⟩ := hcut
    have b3 : ∀ k ∈ PState.bl { P1 with fs := L ++ ⟨F, y.caller, .slice (some ⟨gf, og, none⟩) F.length cf⟩ :: R }, k ∈ P1.bl ∨ w2.heap.size ≤ k := fun k hk => .inl (((HO.out.ext hq).dropTop HS.out HVF.out (by rw [HNN.out]; exact HYF.out)).2.2 k hk)
    have c4 := (Chg.of_ext hq).trans c3
    have hg3 : PState.g { P1 with fs := L ++ ⟨F, y.caller, .slice (some ⟨gf, og, none⟩) F.length cf⟩ :: R } = dropG P1.g := by
      unfold dropG
      refine (modFib_at HP.out (n := P1.g.now) HN.out ?_).symm
      unfold PFiber.g
      simp [HS.out.fr]
    have hf3 : PState.fs { P1 with fs := L ++ ⟨F, y.caller, .slice (some ⟨gf, og, none⟩) F.length cf⟩ :: R } = L ++ ⟨F, y.caller, .slice (some ⟨gf, og, none⟩) F.length cf⟩ :: R := rfl
    have hn3 : PState.now { P1 with fs := L ++ ⟨F, y.caller, .slice (some ⟨gf, og, none⟩) F.length cf⟩ :: R } = L.length := HN.out
    have hv3 : ∃ n, PState.vfs { P1 with fs := L ++ ⟨F, y.caller, .slice (some ⟨gf, og, none⟩) F.length cf⟩ :: R } = .slice (some ⟨g, o, none⟩) n cap := ⟨_, HVF.out⟩
    have ho3 : (PState.g { P1 with fs := L ++ ⟨F, y.caller, .slice (some ⟨gf, og, none⟩) F.length cf⟩ :: R }).out.length < 1000 := ho1
    have hr3 : Room (PState.g { P1 with fs := L ++ ⟨F, y.caller, .slice (some ⟨gf, og, none⟩) F.length cf⟩ :: R }) := by rw [hg3]; exact HR1.out.drop
    have hcur : curF (dropG P1.g) = PFiber.g ⟨F, y.caller, .slice (some ⟨gf, og, none⟩) F.length cf⟩ := by rw [← hg3]; exact curF_at hf3 hn3
    have hfl : (curF (dropG P1.g)).frames.length = F.length := by rw [hcur]; show (F.map PFrame.f).length = _; rw [List.length_map]
    have hcl : (curF (dropG P1.g)).caller = y.caller := by rw [hcur]; rfl
    have hnow : P1.g.now = L.length := HN.out
    have hht : 0 < F.length → HasTop (dropG P1.g) L.length := fun h0 => by
      refine ⟨by omega, ?_, ?_⟩
      · rw [← hg3]
        show (L.length : Int) < ((L ++ _ :: R).map PFiber.g).length
        simp
        omega
      · rw [← hnow]
        show 0 < (curF (dropG P1.g)).frames.length
        rw [hfl]; exact h0
    have HB' := HB.out
    rw [hfl] at HB'
    have HYL := HY.out
    rw [hfl, hcl] at HYL
    generalize ({ P1 with fs := L ++ ⟨F, y.caller, .slice (some ⟨gf, og, none⟩) F.length cf⟩ :: R } : PState) = P3 at *
    obtain ⟨n3, hv3⟩ := hv3
    obtain ⟨g', o', cap', e3, -, d0, ⟨d1, d1'⟩, -⟩ := o3.place hf3
    rw [hv3] at e3
    simp only [Value.slice.injEq, Option.some.injEq, Addr.mk.injEq] at e3
    obtain ⟨⟨rfl, rfl, -⟩, -, -⟩ := e3
    obtain ⟨d0, d0'⟩ := d0
    obtain ⟨k1, k1'⟩ := o3.c1
    rw [hn3] at k1
    have HO3 := Lib.hid o3
    have HT3 := Lib.hid hht
    have HB3 := Lib.hid HB'
    have HG3 := Lib.hid hg3
    have HF3 := Lib.hid hf3
    have HN3 := Lib.hid hn3
    have HV3 := Lib.hid hv3
    have HR3 := Lib.hid hr3
    have HCL := Lib.hid hcl
    have HC4 := Lib.hid c4
    have HB4 := Lib.hid b3
    have HYY := Lib.hid HYL
    clear o3 hht HB' hg3 hf3 hn3 hv3 hr3 c4 b3 HYL hcur hfl hcl hnow c3 HY HB KK hmN
    generalize hcl : y.caller = cl at *
    have HCC := Lib.hid hcl
    generalize hm : F.length = m at *
    clear hcl hm
    by_cases h0 : 0 < m
    · have T : decide ((m : Int) > 0) = true := decide_eq_true (by omega)
      have T' : decide (0 < (m : Int)) = true := decide_eq_true (by omega)
      have HTT : HasTop P3.g (L.length : Int) := by rw [HG3.out]; exact HT3.out h0
      have e := HYY.out
      rw [if_pos h0] at e
      have HE := Lib.hid e
      clear e
      go_wp2_with (first
        | (go_at_call 92; (with_reducible refine (push_any HO3.out L.length HTT HR3.out v hLI).mono ?_); rintro e w5 ⟨rfl, t5⟩))
      go_ret
      rw [HE.out]
      refine ⟨rfl, Did.of (Turn.step HC1.out HS1.out (Turn.step HC4.out HB4.out ?_))⟩
      rw [← HG3.out, show P1.g.now = L.length from HN.out]
      exact t5
    · have T : decide ((m : Int) > 0) = false := decide_eq_false (by omega)
      have T' : decide (0 < (m : Int)) = false := decide_eq_false (by omega)
      by_cases hc : cl < 0
      · have T2 : decide (cl < 0) = true := decide_eq_true hc
        have e := HYY.out
        rw [if_neg h0, if_pos hc, ← HG3.out] at e
        have HE := Lib.hid e
        have ho4 : (PState.g { P3 with now := -1 }).out.length < 1000 := ho3
        have HO4 := Lib.hid ((HO3.out).setNow (-1) (by unfold I64; decide))
        clear e hc
        go_wp2_with (first
          | (go_at_call 98; (with_reducible refine (put_any HO4.out ho4 v hLI).mono ?_); rintro e w5 ⟨rfl, t5⟩))
        go_ret
        rw [HE.out]
        exact ⟨rfl, Did.step HC1.out HS1.out (Did.step HC4.out HB4.out (Did.step (P1 := { P3 with now := -1 }) ((chg_one w3 b 1 (.int .i64 (-1))).mono (fun k _ hk => by rw [show k = b from hk]; exact List.mem_cons_self)) (fun k hk => .inl hk) t5))⟩
      · have T2 : decide (cl < 0) = false := decide_eq_false hc
        have e := HYY.out
        rw [if_neg h0, if_neg hc, ← HG3.out] at e
        have HE := Lib.hid e
        obtain ⟨P4, o4, g4, b4, c4⟩ := (HO3.out).back HF3.out HN3.out HV3.out
        dsimp only at o4 g4 c4
        have HO4 := Lib.hid o4
        have C4 := Lib.hid c4
        have hcu : (curF P3.g).caller = cl := by rw [HG3.out]; exact HCL.out
        have HTB : HasTop P4.g cl := by
          rw [g4]
          rcases HB3.out with h1 | h1
          · exact absurd h1 h0
          · rw [← HG3.out] at h1
            rcases h1 with h1 | h1
            · rw [hcu] at h1; exact absurd h1 hc
            · rw [hcu] at h1; exact h1
        have HR4 : Room P4.g := by rw [g4]; exact HR3.out.caller _ _
        clear e o4 c4 hc
        go_wp2_with (first
          | (go_at_call 92; (with_reducible refine (push_any HO4.out cl HTB HR4 v hLI).mono ?_); rintro e w5 ⟨rfl, t5⟩))
        go_ret
        rw [HE.out]
        refine ⟨rfl, Did.of (Turn.step HC1.out HS1.out (Turn.step HC4.out HB4.out (Turn.step C4.out (fun k hk => .inl ((b4 k).1 hk)) ?_)))⟩
        have e : backG P3.g v = pushG P4.g cl v := by unfold backG; rw [hcu, g4]
        rw [e]
        exact t5
end Go.Proofs.YtgahbngbpfilgaaGreat
end
section
set_option maxHeartbeats 1000000
namespace Go.Proofs.YtgahbngbpfilgaaGreat
open Go Go.RowKit
theorem OwnS.setAt {P : PState} {L R : List PFiber} {y : PFiber} {F : List PFrame} {x : PFrame} {W : World} {B b g o n cap : Nat} (h : OwnS W B b P) (hs : Spot P L y R F x) (hv : y.vf = .slice (some ⟨g, o, none⟩) n cap) (a : Int) (hI : I64 a) :
  OwnS (W.setCell ⟨g, o + F.length * 4 + 1, none⟩ (.int .i64 a)) B b (replTop P L y R F ⟨{ x.f with at_ := a }, x.vl, x.vs⟩) ∧ Chg (· ∈ b :: P.bl) W (W.setCell ⟨g, o + F.length * 4 + 1, none⟩ (.int .i64 a)) := by
 obtain ⟨s1, s2, s3⟩ := h.sep hs
 have hy := h.fs y (by rw [hs.fs]; simp)
 have hx := hy.fr x (by rw [hs.fr]; simp)
 have hrow := hy.row
 rw [hs.fr] at hrow
 obtain ⟨g', o', cap', e1, hbl, _⟩ := RowAt.place frameF (fun _ => rfl) hrow
 rw [hv] at e1
 simp only [Value.slice.injEq, Option.some.injEq, Addr.mk.injEq] at e1
 obtain ⟨⟨rfl, rfl, -⟩, -, rfl⟩ := e1
 have hCh := chg_one W g (o + F.length * 4 + 1) (.int .i64 a)
 have hgx : ∀ k ∈ x.bl, ¬ k = g := fun k hk e => by subst e; exact s1 _ hbl hk
 have hx' := hx.chg hCh hgx
 refine ⟨h.frame hs.fs hs.fr hCh (fun k hk _ => .inl (by rw [show k = g from hk]; exact hbl)) ⟨⟨hx.i.1, hI, hx.i.2.2⟩, hx'.l, hx'.s, hx.few⟩ ?_ s3 (fun k hk => .inl hk), hCh.mono (fun k _ hk => List.mem_cons_of_mem _ (hs.bl (.inl (by rw [show k = g from hk]; exact hbl))))⟩
 rw [hv] at hrow ⊢
 exact hrow.storeAt frameF (fun _ => rfl) (by decide) rfl
theorem OwnS.setLocal {P : PState} {L R : List PFiber} {y : PFiber} {F : List PFrame} {x : PFrame} {W : World} {B b g o n cap : Nat} (h : OwnS W B b P) (hs : Spot P L y R F x) (hv : x.vl = .slice (some ⟨g, o, none⟩) n cap) (i : Nat) (hi : i < x.f.locals.length) (v : Int) (hI : I64 v) :
  OwnS (W.setCell ⟨g, o + i, none⟩ (.int .i64 v)) B b (replTop P L y R F ⟨{ x.f with locals := x.f.locals.set i v }, x.vl, x.vs⟩) ∧ Chg (· ∈ b :: P.bl) W (W.setCell ⟨g, o + i, none⟩ (.int .i64 v)) := by
 obtain ⟨s1, s2, s3⟩ := h.sep hs
 have hy := h.fs y (by rw [hs.fs]; simp)
 have hx := hy.fr x (by rw [hs.fr]; simp)
 have hl := hx.l
 obtain ⟨a1, c1, e1, _, _⟩ := hl.shape
 have e2 := hv
 rw [e1] at e2
 simp only [Value.slice.injEq] at e2
 obtain ⟨rfl, rfl, rfl⟩ := e2
 rw [e1] at hl
 obtain ⟨g', o', e3, hbk, hcell⟩ := hl.cell (by omega)
 simp only [Option.some.injEq, Addr.mk.injEq] at e3
 obtain ⟨rfl, rfl, -⟩ := e3
 have hcap : c1 ≠ 0 := by
  intro e; subst e
  obtain ⟨_, _, _, e4, h5, _⟩ := hl
  simp only [Value.slice.injEq] at e4
  omega
 have hbl : rowBlock x.vl = some g := by rw [e1]; exact rowBlock_some _ _ _ _ hcap
 have hgm : g ∈ x.bl := by unfold PFrame.bl; simp [hbl]
 have hCh := chg_one W g (o + i) (.int .i64 v)
 refine ⟨h.frame hs.fs hs.fr hCh (fun k hk _ => .inr (by rw [show k = g from hk]; exact hgm)) ⟨⟨hx.i.1, hx.i.2.1, fun k hk => ?_, hx.i.2.2.2⟩, ?_, ?_, ?_, hx.few.2⟩ ?_ s3 (fun k hk => .inl hk), hCh.mono (fun k _ hk => List.mem_cons_of_mem _ (hs.bl (.inr (by rw [show k = g from hk]; exact hgm))))⟩
 ·rcases List.mem_or_eq_of_mem_set hk with h1 | h1
  ·exact hx.i.2.2.1 k h1
  ·rw [h1]; exact hI
 ·show RowAt _ B 1 x.vl (x.f.locals.set i v).length (ints (x.f.locals.set i v))
  rw [← ints_set, List.length_set]
  have := hl.store (j := i) (by omega) (.int .i64 v)
  rw [e1]
  exact this
 ·exact hx.s.chg hCh (fun k hk e => s2 g hbl (by rw [show k = g from e] at hk; exact hk)) (by decide)
 ·show (x.f.locals.set i v).length ≤ 1000
  rw [List.length_set]; exact hx.few.1
 ·have hrow := hy.row
  rw [hs.fr] at hrow
  have h2 := hrow.chg hCh (fun k hk e => s1 k hk (by rw [show k = g from e]; exact hgm)) (by decide)
  simp only [List.flatMap_append, List.length_append, List.length_cons, List.flatMap_cons] at h2 ⊢
  exact h2
theorem topOf_mod (f : GFiber) (h : 0 < f.frames.length) (g : GFrame → GFrame) : topOf { f with frames := f.frames.modify (f.frames.length - 1) g } = g (topOf f) := by
 unfold topOf
 obtain ⟨F, x, hf⟩ := split_last f.frames h
 simp only [hf, List.length_modify]
 rw [modify_last _ _ _ _ rfl]
 have e : (F ++ [g x]).length = (F ++ [x]).length := by simp
 rw [← e, getD_last _ _ _ _ rfl, e, getD_last _ _ _ _ rfl]
theorem curF_mod (s : GState) (h : 0 ≤ s.now ∧ s.now < s.fibers.length) (g : GFiber → GFiber) : curF (modFib s s.now g) = g (curF s) := by
 unfold curF
 show (modFib s s.now g).fibers.getD s.now.toNat default = _
 rw [modFib_get _ _ _ _ (by omega), if_pos rfl]
theorem curX_mod (s : GState) (h : HasTop s s.now) (g : GFrame → GFrame) : curX (modTop s s.now g) = g (curX s) := by
 unfold curX modTop
 rw [curF_mod s ⟨h.1, h.2.1⟩]
 exact topOf_mod _ h.2.2 g
theorem curX_pop (s : GState) (h : HasTop s s.now) : curX (popG s) = { curX s with stack := (curX s).stack.dropLast } := curX_mod s h _
theorem LineRet.ll {B : Nat} {s : GState} {e : Ending} {w : World} (h : LineRet B s e w) : ∃ a c ok, e = .returned (.tuple #[.slice a (lineLL s).length c, .bool ok]) ∧ Ints w (B ≤ ·) (.slice a (lineLL s).length c) (lineLL s) := by
 unfold LineRet at h
 unfold lineLL
 cases hl : lineS s with
 | none => rw [hl] at h; exact ⟨none, 0, false, h, Sl.nil _ _ _⟩
 | some l => rw [hl] at h; obtain ⟨a, c, h1, h2⟩ := h; exact ⟨a, c, _, h1, h2⟩
theorem CallersOk.callers {s : GState} (h : CallersOk s) (hf : s.fibers.length ≤ 1000) : Callers s :=
 ⟨h.1, fun k hk => by
  rw [List.getD_eq_getElem?_getD, List.getElem?_eq_getElem hk]
  exact h.2 _ (List.getElem_mem _), hf⟩
end Go.Proofs.YtgahbngbpfilgaaGreat
end
section
set_option maxHeartbeats 4000000
set_option maxRecDepth 100000
namespace Go.Proofs.YtgahbngbpfilgaaGreat
open Go Go.RowKit
theorem resumed_any {P : PState} {w : World} {B b : Nat} (h : OwnS w B b P) (ht : HasTop P.g P.g.now) (hr : Room P.g) (hb : ResumeFit P.g) :
  Calls Tryz.prog 96 #[.pointer (some ⟨b, 0, none⟩)] w fun e w' => e = .returned (.int .i64 (resumeG P.g).1) ∧ Did w w' B b P (resumeG P.g) := by
 obtain ⟨hl, hco, hloc⟩ := hb
 have hLI := h.lastI ht (by omega)
 have hcx := curX_pop P.g ht
 have hl1 : 1 ≤ (curX (popG P.g)).stack.length := by rw [hcx]; show 1 ≤ (curX P.g).stack.dropLast.length; rw [List.length_dropLast]; omega
 have H := Lib.hid h
 have HT := Lib.hid ht
 have HL : Hid (1 ≤ (curX P.g).stack.length) := by unfold Hid; omega
 have HL1 := Lib.hid hl1
 clear h hcx hl hl1
 have RA := alloc_keep
 generalize hv : lastV P.g = v at *
 have HV := Lib.hid hv
 generalize hn : lastV (popG P.g) = n at *
 have HN := Lib.hid hn
 go_enter Tryz.func96, Tryz.ntmps96
 clear hv hn
 go_upto_if 20 with (first
  | (go_at_call 93; (with_reducible refine (pull_any H.out HT.out HL.out).mono ?_); rintro e w2 ⟨rfl, t2⟩; rw [HV.out]; obtain ⟨⟨P1, o1, g1, s1⟩, c1⟩ := t2; have HO1 := Lib.hid o1; have HG1 := Lib.hid g1; have HS1 := Lib.hid s1; have HC1 := Lib.hid c1; have HT1 : Hid (HasTop P1.g P1.g.now) := (by unfold Hid; rw [HG1.out]; exact HT.out.pop); have HL2 : Hid (1 ≤ (curX P1.g).stack.length) := (by unfold Hid; rw [HG1.out]; exact HL1.out); clear o1 g1 s1 c1)
  | (go_at_call 93; (with_reducible refine (pull_any HO1.out HT1.out HL2.out).mono ?_); rintro e w3 ⟨rfl, t3⟩; rw [HG1.out, HN.out]; obtain ⟨⟨P2, o2, g2, s2⟩, c2⟩ := t3; have HO2 := Lib.hid o2; have HG2 := Lib.hid g2; have HS2 := Lib.hid s2; have HC2 := Lib.hid c2; obtain ⟨c20, c20'⟩ := o2.c0; obtain ⟨c21, c21'⟩ := o2.c1; obtain ⟨c22, c22'⟩ := o2.c2; have hfw := o2.few.1; obtain ⟨a2, cp2, e2, _, _⟩ := o2.row.shape; rw [e2] at c20; have HE2 := Lib.hid e2; clear o2 g2 s2 c2 e2; have KK : IntKind.i64.wrap ((P2.fs.length : Int) - 1) = (P2.fs.length : Int) - 1 := (by exact IntWalk.i64_in _ (by omega)))
  | (go_at_call 21; (with_reducible refine (within_any _ _ _ _).mono ?_); rintro e w4 ⟨rfl, rfl⟩; obtain ⟨tw, htw⟩ : ∃ tw, decide (0 ≤ n ∧ n ≤ (P2.fs.length : Int) - 1) = tw := ⟨_, rfl⟩; rw [htw]; have HTW := Lib.hid htw; clear htw))
 have hg2 : P2.g = popG (popG P.g) := by rw [HG2.out, HG1.out]
 have HY : Hid (resumeG P.g = if ¬ (0 ≤ n ∧ n < P2.fs.length) then (5, P.g) else if n ∈ lineLL P2.g ∨ (P2.g.fibers.getD n.toNat default).frames.length = 0 then (6, P.g) else (0, wakeG P2.g n v)) := by
  unfold Hid resumeG
  rw [HN.out, HV.out, ← hg2]
  have e : P2.fs.length = P.g.fibers.length := by
   have : P2.fs.length = P2.g.fibers.length := by unfold PState.g; simp
   rw [this, hg2]
   unfold popG modTop
   rw [modFib_len, modFib_len]
  rw [e]
 clear hg2
 cases tw with
 | false =>
  have e := HY.out
  have h0 := of_decide_eq_false HTW.out
  rw [if_pos (fun h => h0 (by omega))] at e
  have HE := Lib.hid e
  clear e h0
  go_wp2_with fail
  go_ret
  rw [HE.out]
  exact ⟨rfl, Did.step HC1.out HS1.out (Did.step HC2.out HS2.out ⟨Chg.refl _ _, fun h => by cases h⟩)⟩
 | true =>
 obtain ⟨h0, h1⟩ := of_decide_eq_true HTW.out
 obtain ⟨L, y, R, hP, hnL⟩ := hasFib (P := P2) ⟨h0, by omega⟩
 have hfl : P2.g.fibers.length = P2.fs.length := by unfold PState.g; simp
 have hcal : Callers P2.g := (by rw [HG2.out, HG1.out]; exact hco : CallersOk P2.g).callers (by rw [hfl]; exact hfw)
 have HCAL := Lib.hid hcal
 have hst := (HO2.out).state (fun g => B ≤ g) (fun _ h => h)
 rw [HE2.out] at hst
 have HST := Lib.hid hst
 obtain ⟨g, o, cap, hvf, hlt, d0, d1, hbl⟩ := (HO2.out).place hP
 have HVF := Lib.hid hvf
 rw [HE2.out] at hvf
 simp only [Value.slice.injEq, true_and] at hvf
 obtain ⟨rfl, rfl⟩ := hvf
 have e := HY.out
 rw [if_neg (fun h => h ⟨h0, by omega⟩), hnL, Int.toNat_natCast, fib_at hP] at e
 have hlen : y.g.frames.length = y.fr.length := by unfold PFiber.g; simp
 rw [hlen] at e
 have HYY := Lib.hid e
 have hym : y ∈ P2.fs := by rw [hP]; simp
 obtain ⟨ay, cy, ey, _, _⟩ := ((HO2.out).fs y hym).row.shape
 rw [ey] at d0
 obtain ⟨d0, d0'⟩ := d0
 have HEY := Lib.hid ey
 have HP := Lib.hid hP
 have hloc2 : 0 < y.fr.length → (topOf y.g).at_ = 0 → 0 < (topOf y.g).locals.length := by
  have := hloc
  rw [← HG1.out, ← HG2.out, hnL, Int.toNat_natCast, fib_at hP, hfl, hlen] at this
  exact fun hf => this ⟨by omega, by omega, hf⟩
 have HLOC := Lib.hid hloc2
 have D1 := Lib.hid d1
 subst hnL
 clear hcal hst e hlen hym ey hP hloc2 hco hloc h0 h1 HY d1 hfl
 by_cases hm : (L.length : Int) ∈ lineLL P2.g
 ·have HM : Hid (decide ((L.length : Int) ∈ lineLL P2.g) = true) := decide_eq_true hm
  have e := HYY.out
  rw [if_pos (Or.inl hm)] at e
  have HE := Lib.hid e
  clear e hm
  go_wp2_with (first
   | (go_at_call 22; (with_reducible refine (lineOf_any P2.g _ _ _ HST.out HCAL.out).mono ?_); rintro e w5 ⟨hlr, hx5⟩; obtain ⟨al, cl, ok, rfl, hline⟩ := hlr.ll; have HLN := Lib.hid hline; have HX5 := Lib.hid hx5; clear hlr hline)
   | (go_at_call 24; (with_reducible refine (has_any (lineLL P2.g) _ _ _ _ HLN.out).mono ?_); rintro e w6 ⟨rfl, hx6⟩; rw [HM.out]))
  go_ret
  rw [HE.out]
  exact ⟨rfl, Did.step HC1.out HS1.out (Did.step HC2.out HS2.out ⟨Chg.of_ext (HX5.out.trans hx6), fun h => by cases h⟩)⟩
 have HM : Hid (decide ((L.length : Int) ∈ lineLL P2.g) = false) := decide_eq_false hm
 by_cases hz : y.fr.length = 0
 ·have T2 : decide ((y.fr.length : Int) = 0) = true := decide_eq_true (by omega)
  have T2' : ((y.fr.length : Int) == 0) = true := by simpa using hz
  have e := HYY.out
  rw [if_pos (Or.inr hz)] at e
  have HE := Lib.hid e
  clear e hm hz
  go_wp2_with (first
   | (go_at_call 22; (with_reducible refine (lineOf_any P2.g _ _ _ HST.out HCAL.out).mono ?_); rintro e w5 ⟨hlr, hx5⟩; obtain ⟨al, cl, ok, rfl, hline⟩ := hlr.ll; have HLN := Lib.hid hline; have HX5 := Lib.hid hx5; clear hlr hline)
   | (go_at_call 24; (with_reducible refine (has_any (lineLL P2.g) _ _ _ _ HLN.out).mono ?_); rintro e w6 ⟨rfl, hx6⟩; rw [HM.out]; have f0 := Ext.cell (HX5.out.trans hx6) c20; have f1 := Ext.cell (HX5.out.trans hx6) d0))
  go_ret
  rw [HE.out]
  exact ⟨rfl, Did.step HC1.out HS1.out (Did.step HC2.out HS2.out ⟨Chg.of_ext (HX5.out.trans hx6), fun h => by cases h⟩)⟩
 have T2 : decide ((y.fr.length : Int) = 0) = false := decide_eq_false (by omega)
 have T2' : ((y.fr.length : Int) == 0) = false := by simpa using hz
 have e := HYY.out
 rw [if_neg (by rintro (h | h); exact hm h; exact hz h)] at e
 have HE := Lib.hid e
 obtain ⟨F, x, hfr⟩ := split_last y.fr (by omega)
 have HFR := Lib.hid hfr
 clear e hm hz HYY hfr
 go_upto_region 8 with (first
  | (go_at_call 22; (with_reducible refine (lineOf_any P2.g _ _ _ HST.out HCAL.out).mono ?_); rintro e w5 ⟨hlr, hx5⟩; obtain ⟨al, cl, ok, rfl, hline⟩ := hlr.ll; have HLN := Lib.hid hline; have HX5 := Lib.hid hx5; clear hlr hline)
  | (go_at_call 24; (with_reducible refine (has_any (lineLL P2.g) _ _ _ _ HLN.out).mono ?_); rintro e w6 ⟨rfl, hx6⟩; rw [HM.out]; have f0 := Ext.cell (HX5.out.trans hx6) c20; have f1 := Ext.cell (HX5.out.trans hx6) d0))
 have HX6 := Lib.hid (HX5.out.trans hx6)
 obtain ⟨f2, f2'⟩ := Cx.ext (W := w3) ⟨c21, c21'⟩ HX6.out
 obtain ⟨f3, f3'⟩ := (D1.out).ext HX6.out
 clear hx6
 go_cut [53] (fun _ wr => OwnS wr B b { P2 with fs := L ++ { y with caller := P2.now } :: R } ∧ Chg (· ∈ P2.bl) w6 wr)
 case first =>
  go_region
  go_wp2_with fail
  go_meet
  have h9 := ((HO2.out).ext HX6.out).setCaller HP.out HVF.out P2.now ((HO2.out).i.1)
  exact ⟨h9.1.ext (Ext.refl _).drew, h9.2.drew⟩
 case rest =>
  rename World => w7
  obtain ⟨o7, c7⟩ := hcut
  have hI : I64 (L.length : Int) := by unfold I64; omega
  have C8 := Lib.hid ((Chg.of_ext HX6.out).trans (c7.mono (M' := fun k => k ∈ b :: P2.bl) (fun k _ hk => List.mem_cons_of_mem _ hk)) |>.trans ((chg_one w7 b 1 (.int .i64 (L.length : Int))).mono (fun k _ hk => by rw [show k = b from hk]; exact List.mem_cons_self)))
  obtain ⟨P4, HO8, hs4, hg4, hb4⟩ : ∃ P4, Hid (OwnS (w7.setCell ⟨b, 1, none⟩ (.int .i64 (L.length : Int))) B b P4) ∧ Spot P4 L { y with caller := P2.now } R F x ∧ P4.g = { modFib P2.g (L.length : Int) (fun f => { f with caller := P2.g.now }) with now := (L.length : Int) } ∧ ∀ k ∈ P4.bl, k ∈ P2.bl ∨ w3.heap.size ≤ k := by
   refine ⟨_, Lib.hid (o7.setNow (L.length : Int) hI), ⟨rfl, HFR.out⟩, ?_, fun k hk => .inl ?_⟩
   ·have e := modFib_at (n := (L.length : Int)) HP.out rfl (y' := { y with caller := P2.now }) (g := fun f => { f with caller := P2.g.now }) rfl
    rw [e]
    rfl
   ·unfold PState.bl at hk ⊢
    rw [HP.out]
    simp only [List.flatMap_append, List.flatMap_cons] at hk ⊢
    exact hk
  obtain ⟨gf, og, cf, hvf4, _, _, x0, x1, x2, _, _⟩ := (HO8.out).spot hs4
  have X1 := Lib.hid x1
  have X2 := Lib.hid x2
  have HV4 := Lib.hid hvf4
  have HS4 := Lib.hid hs4
  have hat : topOf y.g = x.f := top_at HFR.out
  have HW : Hid (wakeG P2.g (L.length : Int) v = if x.f.at_ = 0 then modTop P4.g (L.length : Int) (fun z => { z with locals := z.locals.set 0 v }) else pushG P4.g (L.length : Int) v) := by
   unfold Hid wakeG
   rw [Int.toNat_natCast, fib_at HP.out, hat, hg4]
  have hlc := HLOC.out (by rw [HFR.out]; simp)
  rw [hat] at hlc
  have HLC := Lib.hid hlc
  have ht4 : HasTop P4.g (L.length : Int) := by
   refine ⟨by omega, ?_, ?_⟩
   ·show (L.length : Int) < ((P4.fs.map PFiber.g).length : Nat)
    rw [hs4.fs]; simp; omega
   ·rw [Int.toNat_natCast, fib_at hs4.fs]
    show 0 < (y.fr.map PFrame.f).length
    rw [HFR.out]; simp
  have hr4 : Room P4.g := by
   rw [hg4, HG2.out, HG1.out]
   exact ((hr.pop).pop).caller _ _
  obtain ⟨e1, e1'⟩ := o7.c1
  clear x0 x1 x2 hvf4 hs4 hat hlc hg4 o7 c7
  by_cases ha : x.f.at_ = 0
  ·have T3 : decide (x.f.at_ = 0) = true := decide_eq_true ha
   have T3' : (x.f.at_ == 0) = true := by rw [ha]; rfl
   have e := HW.out
   rw [if_pos ha] at e
   have HWE := Lib.hid e
   have h0l := HLC.out ha
   have hxO := ((HO8.out).fs { y with caller := P2.now } (by rw [HS4.out.fs]; simp)).fr x (by rw [HS4.out.fr]; simp)
   obtain ⟨al9, cl9, ex, hcl, _⟩ := hxO.l.shape
   have hlr := hxO.l
   rw [ex] at hlr
   obtain ⟨gl, ol, rfl, _, hcells⟩ := hlr.cell h0l
   have z0 := (hcells 0 (by omega)).1
   rw [ints_get _ _ h0l] at z0
   have Z0 : Hid (Cx (w7.setCell ⟨b, 1, none⟩ (.int .i64 (L.length : Int))) gl ol (.int .i64 (x.f.locals.getD 0 0))) := Lib.hid ⟨z0, (hcells 0 (by omega)).2⟩
   have HEX := Lib.hid ex
   have X3 : Hid (Cx (w7.setCell ⟨b, 1, none⟩ (.int .i64 (L.length : Int))) gf (og + F.length * 4 + 2) (.slice (some ⟨gl, ol, none⟩) x.f.locals.length cl9)) := by unfold Hid; rw [← ex]; exact X2.out
   clear e ha hlr hcells hxO ex z0
   go_wp2_with (first
    | (go_at_call 91; (with_reducible refine (top_any HO8.out HS4.out HV4.out L.length rfl).mono ?_); rintro e w9 ⟨rfl, hx9⟩; obtain ⟨x1, x1'⟩ := (X1.out).ext hx9; obtain ⟨x3, x3'⟩ := (X3.out).ext hx9; obtain ⟨z0, z0'⟩ := (Z0.out).ext hx9; have HX9 := Lib.hid hx9; clear hx9))
   go_ret
   rw [HE.out, HWE.out]
   obtain ⟨o9, c9⟩ := ((HO8.out).ext HX9.out).setLocal HS4.out HEX.out 0 h0l v hLI
   exact ⟨rfl, Did.of (Turn.step HC1.out HS1.out (Turn.step HC2.out HS2.out (Turn.step ((C8.out).trans (Chg.of_ext HX9.out)) hb4 ⟨⟨_, o9, (modTop_at HS4.out rfl rfl).symm, repl_bl HS4.out (fun k hk => .inl hk)⟩, c9⟩)))⟩
  ·have T3 : decide (x.f.at_ = 0) = false := decide_eq_false ha
   have T3' : (x.f.at_ == 0) = false := beq_false_of_ne ha
   have e := HW.out
   rw [if_neg ha] at e
   have HWE := Lib.hid e
   clear e ha
   go_wp2_with (first
    | (go_at_call 91; (with_reducible refine (top_any HO8.out HS4.out HV4.out L.length rfl).mono ?_); rintro e w9 ⟨rfl, hx9⟩; obtain ⟨x1, x1'⟩ := (X1.out).ext hx9; have HX9 := Lib.hid hx9; clear hx9)
    | (go_at_call 92; (with_reducible refine (push_any ((HO8.out).ext HX9.out) L.length ht4 hr4 v hLI).mono ?_); rintro e w10 ⟨rfl, t10⟩))
   go_ret
   rw [HE.out, HWE.out]
   exact ⟨rfl, Did.of (Turn.step HC1.out HS1.out (Turn.step HC2.out HS2.out (Turn.step ((C8.out).trans (Chg.of_ext HX9.out)) hb4 t10)))⟩
end Go.Proofs.YtgahbngbpfilgaaGreat
end
