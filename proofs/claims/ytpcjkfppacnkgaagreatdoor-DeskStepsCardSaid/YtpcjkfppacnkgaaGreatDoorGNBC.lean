/- Merged texts: contracts and plain facts, one part behind another; each part begins with what it says. -/
import Derived.Test.YtpcjkfppacnkgaaGreatDoorGNAT
import Derived.Test.YtpcjkfppacnkgaaGreatDoorGNAW
import Derived.Test.YtpcjkfppacnkgaaGreatDoorGNAZ
import Derived.Test.YtpcjkfppacnkgaaGreatDoorGNBB
import Derived.Deep.Slices
import Derived.Recover
import Derived.Tactics2
section
/- Fibers and frames as they came, and a row of them that is being copied part by part. No condition. -/
set_option maxHeartbeats 4000000
set_option maxRecDepth 100000
namespace Go.Proofs.YtpcjkfppacnkgaaGreatDoor
open Go Go.RowKit

instance : Inhabited PFrame := ⟨⟨default, .slice none 0 0, .slice none 0 0⟩⟩
instance : Inhabited PFiber := ⟨⟨[], 0, .slice none 0 0⟩⟩

theorem Sl.srcM {α : Type} {E : Nat → Nat → α → Prop} {sz bytes : Nat} {v : Value} {l : List α} {w : World} (f : α → List Value) (h : Sl E sz bytes v l) (hf : ∀ y, (f y).length = sz)
    (h1 : ∀ b o y, E b o y → ∀ u ∈ f y, u.oneCell' = true) (hE : ∀ b o y, E b o y → ∀ j u, (f y)[j]? = some u → w.cell? ⟨b, o + j, none⟩ = some u) : SrcSl w sz v l.length (l.flatMap f) := by
  have hlen := flat_len f hf l
  obtain ⟨a, cap, rfl, h2, h3, h4⟩ := h
  refine ⟨a, cap, rfl, hlen, ?_, ?_⟩
  · intro u hu
    obtain ⟨y, hyl, hy⟩ := List.mem_flatMap.1 hu
    obtain ⟨i, hi, rfl⟩ := List.getElem_of_mem hyl
    obtain ⟨b, o, _, he⟩ := h4 i hi
    exact h1 _ _ _ he u hy
  · by_cases h0 : l.length = 0
    · exact .inl h0
    · right
      obtain ⟨b, o, rfl, _⟩ := h4 0 (by omega)
      refine ⟨_, rfl, fun j u hj => ?_⟩
      have key : ∀ (l : List α) (j : Nat) (u : Value), (l.flatMap f)[j]? = some u → ∃ i r, ∃ h : i < l.length, j = i * sz + r ∧ (f l[i])[r]? = some u := by
        intro l
        induction l with
        | nil => intro j u h; simp at h
        | cons y l ih =>
          intro j u h
          rw [List.flatMap_cons] at h
          by_cases hj : j < sz
          · rw [List.getElem?_append_left (by rw [hf]; exact hj)] at h
            exact ⟨0, j, by simp, by simp, h⟩
          · rw [List.getElem?_append_right (by rw [hf]; omega), hf] at h
            obtain ⟨i, r, hi, e, hu⟩ := ih _ _ h
            exact ⟨i + 1, r, by simpa using hi, by rw [Nat.add_mul]; omega, by simpa using hu⟩
      obtain ⟨i, r, hi, rfl, hu⟩ := key l j u hj
      obtain ⟨b', o', e, hE'⟩ := h4 i hi
      simp only [Option.some.injEq, Addr.mk.injEq] at e
      obtain ⟨rfl, rfl, _⟩ := e
      have := hE _ _ _ hE' r u hu
      rw [Addr.add_lit, ← Nat.add_assoc]
      exact this

theorem Sl.choose {α β : Type} [Inhabited β] {E : Nat → Nat → α → Prop} {R : Nat → Nat → α → β → Prop} {sz bytes : Nat} {v : Value} {l : List α} (h : Sl E sz bytes v l) (hR : ∀ b o x, E b o x → ∃ y, R b o x y) :
    ∃ ys : List β, ys.length = l.length ∧ Sl (fun b o y => ∃ x, R b o x y) sz bytes v ys ∧ ∀ i (hi : i < l.length), ∃ b o, R b o l[i] (ys.getD i default) := by
  obtain ⟨a, cap, rfl, h1, h2, h3⟩ := h
  have key : ∀ i, i < l.length → ∃ y : β, ∀ hi : i < l.length, ∃ b o, a = some ⟨b, o, none⟩ ∧ R b (o + i * sz) l[i] y := fun i hi => by
    obtain ⟨b, o, e, he⟩ := h3 i hi
    obtain ⟨y, hy⟩ := hR _ _ _ he
    exact ⟨y, fun _ => ⟨b, o, e, hy⟩⟩
  obtain ⟨Z, hZ⟩ := Go.Deep.choose_lt key
  refine ⟨(List.range l.length).map Z, by simp, ⟨a, cap, by simp, by simpa using h1, by simpa using h2, fun i hi => ?_⟩, fun i hi => ?_⟩
  · have hi' : i < l.length := by simpa using hi
    obtain ⟨b, o, e, hr⟩ := hZ i hi' hi'
    exact ⟨b, o, e, l[i], by simpa using hr⟩
  · obtain ⟨b, o, e, hr⟩ := hZ i hi hi
    refine ⟨b, o + i * sz, ?_⟩
    simpa [List.getD, List.getElem?_eq_getElem, hi] using hr

def RawB (w : World) (T : Nat → Prop) (b o : Nat) (x : GFiber) (y : PFiber) : Prop :=
  w.cell? ⟨b, o, none⟩ = some y.vf ∧ w.cell? ⟨b, o + 1, none⟩ = some (.int .i64 y.caller) ∧ Frames w T y.vf x.frames ∧ y.caller = x.caller ∧ I64 x.caller
theorem Fibers.raw {w : World} {T : Nat → Prop} {v : Value} {l : List GFiber} (h : Fibers w T v l) :
    ∃ ys : List PFiber, ys.length = l.length ∧ SrcSl w 2 v l.length (ys.flatMap fiberF) ∧ ∀ i (hi : i < l.length), Frames w T (ys.getD i default).vf l[i].frames ∧ (ys.getD i default).caller = l[i].caller ∧ I64 l[i].caller := by
  obtain ⟨ys, hl, hs, hr⟩ := Sl.choose (R := RawB w T) h (fun b o x ⟨⟨v, h1, h2⟩, h3⟩ => ⟨⟨[], x.caller, v⟩, h1, h3.2.1, h2, rfl, h3.2.2⟩)
  refine ⟨ys, hl, ?_, fun i hi => ?_⟩
  · rw [← hl]
    refine Sl.srcM fiberF hs (fun _ => rfl) (fun b o y ⟨x, h1, h2, ⟨a, c, e, _⟩, _⟩ u hu => ?_) (fun b o y ⟨x, h1, h2, _⟩ j u hj => ?_)
    · simp only [fiberF, List.mem_cons, List.not_mem_nil, or_false] at hu
      rcases hu with rfl | rfl
      · rw [e]; rfl
      · rfl
    · match j, hj with
      | 0, hj => cases hj; exact h1
      | 1, hj => cases hj; exact h2
  · obtain ⟨b, o, h1, h2, h3, h4, h5⟩ := hr i hi
    exact ⟨h3, h4, h5⟩
def RawF (w : World) (T : Nat → Prop) (b o : Nat) (x : GFrame) (y : PFrame) : Prop :=
  w.cell? ⟨b, o, none⟩ = some (.int .i64 y.f.func) ∧ w.cell? ⟨b, o + 1, none⟩ = some (.int .i64 y.f.at_) ∧ w.cell? ⟨b, o + 2, none⟩ = some y.vl ∧ w.cell? ⟨b, o + 3, none⟩ = some y.vs ∧ FrameV w T (.agg #[.int .i64 x.func, .int .i64 x.at_, y.vl, y.vs]) x ∧ y.f = x
theorem Frames.raw {w : World} {T : Nat → Prop} {v : Value} {l : List GFrame} (h : Frames w T v l) :
    ∃ ys : List PFrame, ys.length = l.length ∧ SrcSl w 4 v l.length (ys.flatMap frameF) ∧ ∀ i (hi : i < l.length), FrameV w T (.agg #[.int .i64 l[i].func, .int .i64 l[i].at_, (ys.getD i default).vl, (ys.getD i default).vs]) l[i] ∧ (ys.getD i default).f = l[i] := by
  obtain ⟨ys, hl, hs, hr⟩ := Sl.choose (R := RawF w T) h (fun b o x ⟨i0, i1, ⟨v, h1, h2⟩, u, h3, h4⟩ => ⟨⟨x, v, u⟩, i0.2.1, i1.2.1, h1, h3, ⟨v, u, rfl, i0.2.2, i1.2.2, h2, h4⟩, rfl⟩)
  refine ⟨ys, hl, ?_, fun i hi => ?_⟩
  · rw [← hl]
    refine Sl.srcM frameF hs (fun _ => rfl) (fun b o y ⟨x, h1, h2, h3, h4, ⟨s, t, e, _, _, ⟨a, c, e1, _⟩, ⟨a', c', e2, _⟩⟩, _⟩ u hu => ?_) (fun b o y ⟨x, h1, h2, h3, h4, _⟩ j u hj => ?_)
    · simp only [Value.agg.injEq, Array.mk.injEq, List.cons.injEq, and_true, true_and] at e
      obtain ⟨e3, e4⟩ := e
      simp only [frameF, List.mem_cons, List.not_mem_nil, or_false] at hu
      rcases hu with rfl | rfl | rfl | rfl
      · rfl
      · rfl
      · rw [e3, e1]; rfl
      · rw [e4, e2]; rfl
    · match j, hj with
      | 0, hj => cases hj; exact h1
      | 1, hj => cases hj; exact h2
      | 2, hj => cases hj; exact h3
      | 3, hj => cases hj; exact h4
  · obtain ⟨b, o, _, _, _, _, h5, h6⟩ := hr i hi
    exact ⟨h5, h6⟩

/-- Frames, the first ones copied. -/
structure MidF (W : World) (B : Nat) (v : Value) (dn rs : List PFrame) : Prop where
  row : RowAt W B 4 v (dn ++ rs).length ((dn ++ rs).flatMap frameF)
  fr : ∀ x ∈ dn, FrameO W B x
  nodup : ((rowBlock v).toList ++ dn.flatMap PFrame.bl).Nodup
/-- Fibers, the first ones copied. -/
structure MidB (W : World) (B : Nat) (v : Value) (dn rs : List PFiber) : Prop where
  row : RowAt W B 2 v (dn ++ rs).length ((dn ++ rs).flatMap fiberF)
  fs : ∀ y ∈ dn, FiberO W B y
  nodup : ((rowBlock v).toList ++ dn.flatMap PFiber.bl).Nodup
theorem MidF.chg {M : Nat → Prop} {W W' : World} {B : Nat} {v : Value} {dn rs : List PFrame} (h : MidF W B v dn rs) (hc : Chg M W W') (hM : ∀ g, B ≤ g → ¬ M g) : MidF W' B v dn rs :=
  ⟨h.row.chg hc (fun g hg => hM g (h.row.le g hg)) (by decide), fun x hx => (h.fr x hx).chg hc (fun g hg => hM g (by
    have hx' := h.fr x hx
    unfold PFrame.bl at hg
    rcases List.mem_append.1 hg with h1 | h1
    · exact hx'.l.le g (by simpa using h1)
    · exact hx'.s.le g (by simpa using h1))), h.nodup⟩
theorem MidF.new {W : World} {B : Nat} {v : Value} {rs : List PFrame} (h : RowAt W B 4 v rs.length (rs.flatMap frameF)) : MidF W B v [] rs :=
  ⟨h, (fun x hx => by cases hx), by cases rowBlock v <;> simp⟩
theorem MidB.new {W : World} {B : Nat} {v : Value} {rs : List PFiber} (h : RowAt W B 2 v rs.length (rs.flatMap fiberF)) : MidB W B v [] rs :=
  ⟨h, (fun x hx => by cases hx), by cases rowBlock v <;> simp⟩

theorem MidF.step {wr W1 W2 : World} {B g o n cap : Nat} {dn rs : List PFrame} {x : PFrame} {v1 v2 : Value} (h : MidF wr B (.slice (some ⟨g, o, none⟩) n cap) dn (x :: rs)) (hB : B ≤ wr.heap.size) (h1 : Ext wr W1) (h2 : Ext W1 W2)
    (r1 : RowAt W1 wr.heap.size 1 v1 x.f.locals.length (ints x.f.locals)) (r2 : RowAt W2 W1.heap.size 1 v2 x.f.stack.length (ints x.f.stack))
    (hI : I64 x.f.func ∧ I64 x.f.at_ ∧ (∀ k ∈ x.f.locals, I64 k) ∧ ∀ k ∈ x.f.stack, I64 k) (hf : x.f.locals.length ≤ 900 ∧ x.f.stack.length ≤ 900) :
    MidF ((W2.setCell ⟨g, o + dn.length * 4 + 2, none⟩ v1).setCell ⟨g, o + dn.length * 4 + 3, none⟩ v2) B (.slice (some ⟨g, o, none⟩) n cap) (dn ++ [⟨x.f, v1, v2⟩]) rs ∧
      Chg (· = g) wr ((W2.setCell ⟨g, o + dn.length * 4 + 2, none⟩ v1).setCell ⟨g, o + dn.length * 4 + 3, none⟩ v2) := by
  have hE := h1.trans h2
  obtain ⟨g', o', cap', e, hbl, _, _, _⟩ := RowAt.place frameF (fun _ => rfl) h.row
  simp only [Value.slice.injEq, Option.some.injEq, Addr.mk.injEq] at e
  obtain ⟨⟨rfl, rfl, -⟩, -, rfl⟩ := e
  have hgl : g < wr.heap.size := h.row.lt2 (by decide) g hbl
  have hc : Chg (· = g) W2 ((W2.setCell ⟨g, o + dn.length * 4 + 2, none⟩ v1).setCell ⟨g, o + dn.length * 4 + 3, none⟩ v2) := (chg_one _ _ _ _).trans (chg_one _ _ _ _)
  have hcw : Chg (· = g) wr ((W2.setCell ⟨g, o + dn.length * 4 + 2, none⟩ v1).setCell ⟨g, o + dn.length * 4 + 3, none⟩ v2) := (Chg.of_ext hE).trans hc
  have b1 : ∀ k, rowBlock v1 = some k → wr.heap.size ≤ k ∧ k < W1.heap.size := fun k hk => ⟨r1.le k hk, r1.lt2 (by decide) k hk⟩
  have b2 : ∀ k, rowBlock v2 = some k → W1.heap.size ≤ k := fun k hk => r2.le k hk
  have hs1 := h1.size
  refine ⟨⟨?_, fun z hz => ?_, ?_⟩, hcw⟩
  · have e1 := (h.row.ext hE (by decide)).storeAt frameF (fun _ => rfl) (L := dn) (y := x) (y' := ⟨x.f, v1, x.vs⟩) (R := rs) (r := 2) (by decide) (u := v1) rfl
    have e2 := e1.storeAt frameF (fun _ => rfl) (L := dn) (y := ⟨x.f, v1, x.vs⟩) (y' := ⟨x.f, v1, v2⟩) (R := rs) (r := 3) (by decide) (u := v2) rfl
    rw [show dn ++ [⟨x.f, v1, v2⟩] ++ rs = dn ++ ⟨x.f, v1, v2⟩ :: rs by simp]
    exact e2
  · rcases List.mem_append.1 hz with hz | hz
    · refine (h.fr z hz).chg hcw fun k hk e => ?_
      have e : k = g := e
      subst e
      exact (List.nodup_append.1 h.nodup).2.2 k (by simp [hbl]) k (List.mem_flatMap.2 ⟨z, hz, hk⟩) rfl
    · obtain rfl := List.mem_singleton.1 hz
      refine ⟨hI, ?_, ?_, by show x.f.locals.length ≤ 1000 ∧ x.f.stack.length ≤ 1000; omega⟩
      · exact ((r1.mono hB).ext h2 (by decide)).chg hc (fun k hk e => by have e : k = g := e; have := b1 k hk; omega) (by decide)
      · exact (r2.mono (Nat.le_trans hB hs1)).chg hc (fun k hk e => by have e : k = g := e; have := b2 k hk; omega) (by decide)
  · rw [List.flatMap_append, ← List.append_assoc, List.nodup_append]
    refine ⟨h.nodup, ?_, fun a ha c hc' e => ?_⟩
    · simp only [List.flatMap_cons, List.flatMap_nil, List.append_nil]
      unfold PFrame.bl
      rw [List.nodup_append]
      refine ⟨by cases rowBlock v1 <;> simp, by cases rowBlock v2 <;> simp, fun a ha c hc' e => ?_⟩
      subst e
      have h3 := b1 a (by simpa using ha)
      have h4 := b2 a (by simpa using hc')
      omega
    · subst e
      have hold : a < wr.heap.size := by
        rcases List.mem_append.1 ha with h3 | h3
        · exact h.row.lt2 (by decide) a (by simpa using h3)
        · obtain ⟨z, hz, h4⟩ := List.mem_flatMap.1 h3
          exact (h.fr z hz).lt a h4
      simp only [List.flatMap_cons, List.flatMap_nil, List.append_nil] at hc'
      unfold PFrame.bl at hc'
      rcases List.mem_append.1 hc' with h3 | h3
      · have := b1 a (by simpa using h3); omega
      · have := b2 a (by simpa using h3); omega

theorem MidF.blocks {W : World} {B : Nat} {v : Value} {dn rs : List PFrame} (h : MidF W B v dn rs) : ∀ k ∈ (rowBlock v).toList ++ dn.flatMap PFrame.bl, B ≤ k := fun k hk => by
  rcases List.mem_append.1 hk with h1 | h1
  · exact h.row.le k (by simpa using h1)
  · obtain ⟨x, hx, h2⟩ := List.mem_flatMap.1 h1
    unfold PFrame.bl at h2
    rcases List.mem_append.1 h2 with h3 | h3
    · exact (h.fr x hx).l.le k (by simpa using h3)
    · exact (h.fr x hx).s.le k (by simpa using h3)
theorem MidB.step {wk wr : World} {B g o n cap : Nat} {dn rs : List PFiber} {y : PFiber} {vf : Value} {xs : List PFrame} (h : MidB wk B (.slice (some ⟨g, o, none⟩) n cap) dn (y :: rs)) (hB : B ≤ wk.heap.size) (hc : Chg (· = g) wk wr)
    (hrow : RowAt wr B 2 (.slice (some ⟨g, o, none⟩) n cap) (dn ++ ⟨[], y.caller, vf⟩ :: rs).length ((dn ++ ⟨[], y.caller, vf⟩ :: rs).flatMap fiberF)) (hm : MidF wr wk.heap.size vf xs []) (hI : I64 y.caller) (hx : xs.length ≤ 900) :
    MidB wr B (.slice (some ⟨g, o, none⟩) n cap) (dn ++ [⟨xs, y.caller, vf⟩]) rs := by
  obtain ⟨g', o', cap', e, hbl, _, _, _⟩ := RowAt.place fiberF (fun _ => rfl) h.row
  simp only [Value.slice.injEq, Option.some.injEq, Addr.mk.injEq] at e
  obtain ⟨⟨rfl, rfl, -⟩, -, rfl⟩ := e
  have hrow4 := hm.row
  rw [List.append_nil] at hrow4
  refine ⟨?_, fun z hz => ?_, ?_⟩
  · rw [show dn ++ [⟨xs, y.caller, vf⟩] ++ rs = dn ++ ⟨xs, y.caller, vf⟩ :: rs by simp]
    have e1 : (dn ++ ⟨xs, y.caller, vf⟩ :: rs).flatMap fiberF = (dn ++ (⟨[], y.caller, vf⟩ : PFiber) :: rs).flatMap fiberF := by
      rw [List.flatMap_append, List.flatMap_append, List.flatMap_cons, List.flatMap_cons]; rfl
    have e2 : (dn ++ ⟨xs, y.caller, vf⟩ :: rs).length = (dn ++ (⟨[], y.caller, vf⟩ : PFiber) :: rs).length := by simp
    rw [e1, e2]
    exact hrow
  · rcases List.mem_append.1 hz with hz | hz
    · refine (h.fs z hz).chg hc fun k hk e => ?_
      have e : k = g := e
      subst e
      exact (List.nodup_append.1 h.nodup).2.2 k (by simp [hbl]) k (List.mem_flatMap.2 ⟨z, hz, hk⟩) rfl
    · obtain rfl := List.mem_singleton.1 hz
      exact ⟨hI, hrow4.mono hB, fun u hu => (hm.fr u hu).mono hB, by show xs.length ≤ 1000; omega⟩
  · rw [List.flatMap_append, ← List.append_assoc, List.nodup_append]
    refine ⟨h.nodup, ?_, fun a ha c hc' e => ?_⟩
    · simp only [List.flatMap_cons, List.flatMap_nil, List.append_nil]
      exact hm.nodup
    · subst e
      have hold : a < wk.heap.size := by
        rcases List.mem_append.1 ha with h3 | h3
        · exact h.row.lt2 (by decide) a (by simpa using h3)
        · obtain ⟨z, hz, h4⟩ := List.mem_flatMap.1 h3
          exact (h.fs z hz).lt a h4
      simp only [List.flatMap_cons, List.flatMap_nil, List.append_nil] at hc'
      have := hm.blocks a hc'
      omega

theorem cloneB_any (n : Nat) (xs : List Value) (v : Value) (w : World) (hl : SrcSl w 2 v n xs) (hn : n ≤ 1000) :
    Calls Tryz.prog 130 #[v] w fun e w' => (∃ v1, e = .returned v1 ∧ RowAt w' w.heap.size 2 v1 n xs) ∧ Ext w w' := by
  have HSRC := Lib.hid hl
  obtain ⟨a, c, rfl, hc, hb, hel⟩ := hl
  obtain ⟨i0, hi0, hz0, hz1, hz2⟩ := info_parts infoFb
  have RA := alloc_keep
  cases a with
  | none =>
    have hn0 : n = 0 := by
      rcases hel with h | ⟨ad, e, _⟩
      · exact h
      · cases e
    subst hn0
    have hx0 : xs = [] := List.eq_nil_of_length_eq_zero (by simpa using hc)
    subst hx0
    have hbn : ∀ w, (binOp .eql 56 (.slice none 0 c) (.slice none 0 0)).run Tryz.prog w = .ok (.bool true) w := fun w => by kernel_rfl
    clear hel hc hb
    go_enter Tryz.func130, Tryz.ntmps130
    go_wp2_with fail
    go_ret
    exact ⟨⟨_, rfl, RowAt.nil _ _ _ _⟩, Ext.refl _⟩
  | some ad =>
    have hbn : ∀ w, (binOp .eql 56 (.slice (some ad) n c) (.slice none 0 0)).run Tryz.prog w = .ok (.bool false) w := fun w => by kernel_rfl
    clear hel hc hb
    go_enter Tryz.func130, Tryz.ntmps130
    go_wp2_with (first
      | (at_builtin; refine wpList_append_row rfl _ _ 56 rfl w.heap.size 112 i0 (.agg #[.slice none 0 0, .int .i64 0]) 2 32 Tryz.underlying56 hi0 hz0 hz1 hz2 rfl (by decide) _ _ _ rfl (RowAt.nil _ _ _ _) n xs (src_up HSRC.out (by ((repeat (first | assumption | exact Ext.refl _ | (exact And.left (by assumption)) | refine Ext.alloc ?_ _ | refine Ext.drew ?_ | refine Ext.drewN ?_ _ | refine Ext.setCell ?_ (by simp) _ | refine Ext.setCell ?_ (by simp; omega) _ | refine Ext.trans ?_ (by assumption))); done))) (by unfold maxLen; omega) (by omega) (by exact Ext.size (by ((repeat (first | assumption | exact Ext.refl _ | (exact And.left (by assumption)) | refine Ext.alloc ?_ _ | refine Ext.drew ?_ | refine Ext.drewN ?_ _ | refine Ext.setCell ?_ (by simp) _ | refine Ext.setCell ?_ (by simp; omega) _ | refine Ext.trans ?_ (by assumption))); done))) ?_; intro v1 Wv1 rv1; have RV := Lib.hid rv1; have hxv := row_ext rv1; obtain ⟨a9, cap9, rfl, _, _⟩ := rv1.1.shape; clear rv1))
    go_ret
    have hR := RV.out
    rw [Nat.zero_add, List.nil_append] at hR
    exact ⟨⟨_, rfl, hR.1⟩, by ((repeat (first | assumption | exact Ext.refl _ | (exact And.left (by assumption)) | refine Ext.alloc ?_ _ | refine Ext.drew ?_ | refine Ext.drewN ?_ _ | refine Ext.setCell ?_ (by simp) _ | refine Ext.setCell ?_ (by simp; omega) _ | refine Ext.trans ?_ (by assumption))); done)⟩
theorem cloneF_any (n : Nat) (xs : List Value) (v : Value) (w : World) (hl : SrcSl w 4 v n xs) (hn : n ≤ 1000) :
    Calls Tryz.prog 131 #[v] w fun e w' => (∃ v1, e = .returned v1 ∧ RowAt w' w.heap.size 4 v1 n xs) ∧ Ext w w' := by
  have HSRC := Lib.hid hl
  obtain ⟨a, c, rfl, hc, hb, hel⟩ := hl
  obtain ⟨i0, hi0, hz0, hz1, hz2⟩ := info_parts infoFr
  have RA := alloc_keep
  cases a with
  | none =>
    have hn0 : n = 0 := by
      rcases hel with h | ⟨ad, e, _⟩
      · exact h
      · cases e
    subst hn0
    have hx0 : xs = [] := List.eq_nil_of_length_eq_zero (by simpa using hc)
    subst hx0
    have hbn : ∀ w, (binOp .eql 110 (.slice none 0 c) (.slice none 0 0)).run Tryz.prog w = .ok (.bool true) w := fun w => by kernel_rfl
    clear hel hc hb
    go_enter Tryz.func131, Tryz.ntmps131
    go_wp2_with fail
    go_ret
    exact ⟨⟨_, rfl, RowAt.nil _ _ _ _⟩, Ext.refl _⟩
  | some ad =>
    have hbn : ∀ w, (binOp .eql 110 (.slice (some ad) n c) (.slice none 0 0)).run Tryz.prog w = .ok (.bool false) w := fun w => by kernel_rfl
    clear hel hc hb
    go_enter Tryz.func131, Tryz.ntmps131
    go_wp2_with (first
      | (at_builtin; refine wpList_append_row rfl _ _ 110 rfl w.heap.size 108 i0 (.agg #[.int .i64 0, .int .i64 0, .slice none 0 0, .slice none 0 0]) 4 64 Tryz.underlying110 hi0 hz0 hz1 hz2 rfl (by decide) _ _ _ rfl (RowAt.nil _ _ _ _) n xs (src_up HSRC.out (by ((repeat (first | assumption | exact Ext.refl _ | (exact And.left (by assumption)) | refine Ext.alloc ?_ _ | refine Ext.drew ?_ | refine Ext.drewN ?_ _ | refine Ext.setCell ?_ (by simp) _ | refine Ext.setCell ?_ (by simp; omega) _ | refine Ext.trans ?_ (by assumption))); done))) (by unfold maxLen; omega) (by omega) (by exact Ext.size (by ((repeat (first | assumption | exact Ext.refl _ | (exact And.left (by assumption)) | refine Ext.alloc ?_ _ | refine Ext.drew ?_ | refine Ext.drewN ?_ _ | refine Ext.setCell ?_ (by simp) _ | refine Ext.setCell ?_ (by simp; omega) _ | refine Ext.trans ?_ (by assumption))); done))) ?_; intro v1 Wv1 rv1; have RV := Lib.hid rv1; have hxv := row_ext rv1; obtain ⟨a9, cap9, rfl, _, _⟩ := rv1.1.shape; clear rv1))
    go_ret
    have hR := RV.out
    rw [Nat.zero_add, List.nil_append] at hR
    exact ⟨⟨_, rfl, hR.1⟩, by ((repeat (first | assumption | exact Ext.refl _ | (exact And.left (by assumption)) | refine Ext.alloc ?_ _ | refine Ext.drew ?_ | refine Ext.drewN ?_ _ | refine Ext.setCell ?_ (by simp) _ | refine Ext.setCell ?_ (by simp; omega) _ | refine Ext.trans ?_ (by assumption))); done)⟩
end Go.Proofs.YtpcjkfppacnkgaaGreatDoor
end
section
/- A region that draws its order, as in RTailZ, with one operation more that looks at no memory and comes ahead of the last one. No condition. -/
set_option maxHeartbeats 400000
namespace Go.Proofs.YtpcjkfppacnkgaaGreatDoor
open Go

section
variable {P : Program} {md : Region.Mode} {ops : Array Oper} {Q : Exit → Act → World → Prop} {S : World → Prop} {z : Nat}

theorem wpAnyW_of_any : ∀ (fuel : Nat) (listed : Array Bool) (a : Act) (w : World), wpAny P md ops Q fuel listed a w → wpAnyW P md ops Q (fun _ => True) z fuel listed a w
  | 0, _, _, _, h => h
  | fuel + 1, _, _, _, h => ⟨h.1, fun i hi => wpOp_mono (fun a' w' h' => ⟨.inr trivial, wpAnyW_of_any fuel _ a' w' h'⟩) (h.2 i hi)⟩

theorem wpAnyZ_firstT {i F : Nat} {oi : Oper} {v : Value} (hiz : i ≠ z) (hz : waitsT md ops F z i = true) (hi : ops[i]? = some oi) (hsel : ∀ (j : Nat) (o : Oper) cs b, ops[j]? = some o → o.op ≠ .select cs b)
    (hQ : ∀ c a w, Q (.panic c) (a.put oi.dst v) w → Q (.panic c) a w) :
    ∀ (fuel : Nat) (listed : Array Bool) (a : Act) (w : World), listed.size = ops.size → ClosedL md ops listed →
      (∀ j oj, ops[j]? = some oj → j ≠ i → listed.getD j true = false → (∀ e ∈ oj.after, Region.binds md e = true → e.on ≠ i) → oi.apart ops oj = true) →
      i ∈ Region.ready md ops listed → YieldsIf P ops S oi v a → S w →
      wpAnyZ P md ops Q S z fuel (listed.setIfInBounds i true) (a.put oi.dst v) w → wpAnyZ P md ops Q S z (fuel + 1) listed a w := by
  intro fuel
  induction fuel with
  | zero =>
    intro listed a w _ _ _ hr hy hS H
    refine ⟨fun h => (by rw [h] at hr; cases hr), fun j hj => ?_⟩
    by_cases hji : j = i
    · subst hji; exact hy.wpOp hi hS (by rw [if_neg hiz]; exact ⟨hS, H⟩)
    · have := ready_mono hj hji
      rw [H.1] at this
      cases this
  | succ fuel ih =>
    intro listed a w hsz hcl hfree hr hy hS H
    refine ⟨fun h => (by rw [h] at hr; cases hr), fun j hj => ?_⟩
    by_cases hji : j = i
    · subst hji; exact hy.wpOp hi hS (by rw [if_neg hiz]; exact ⟨hS, H⟩)
    · have h1 := H.2 j (ready_mono hj hji)
      obtain ⟨hjun, oj, hoj, hall⟩ := mem_ready.1 hj
      have hun0 : listed.getD i false ≠ true := fun h => by
        have h0 := (mem_ready.1 hr).1
        rcases Nat.lt_or_ge i listed.size with h' | h'
        · simp [h'] at h0 h; rw [h0] at h; cases h
        · simp [Array.getElem?_eq_none h'] at h
      have hnot : ∀ e ∈ oj.after, Region.binds md e = true → e.on ≠ i := fun e he hb heq => hun0 (heq ▸ hall e he hb)
      have hjz : j ≠ z := fun e => by
        subst e
        exact hun0 (waitsT_listed hcl F j hz (fun ok hk e he hb => by rw [hoj] at hk; cases hk; exact hall e he hb))
      have h2 := wpOp_putIf hoj (hfree j oj hoj hji hjun hnot) (fun cs b => hsel i oi cs b hi) (fun cs b => hsel j oj cs b hoj) hQ hy h1
      have hfree' : ∀ k ok, ops[k]? = some ok → k ≠ i → (listed.setIfInBounds j true).getD k true = false →
          (∀ e ∈ ok.after, Region.binds md e = true → e.on ≠ i) → oi.apart ops ok = true := fun k ok hk hki hun hno => by
        refine hfree k ok hk hki ?_ hno
        by_cases hjk : j = k
        · subst hjk; exact hjun
        · rw [getD_set_ne true hjk] at hun; exact hun
      refine wpOp_mono (fun a' w' h3 => ?_) h2
      have h5 := h3.2
      rw [if_neg hjz] at h5
      rw [if_neg hjz]
      exact ⟨h5.1, ih (listed.setIfInBounds j true) a' w' (by simpa using hsz) (hcl.set hj) hfree' (ready_mono hr (Ne.symm hji)) h3.1 h5.1 (by rw [Array.setIfInBounds_comm _ _ hji]; exact h5.2)⟩

def rzHeadT (md : Region.Mode) (ops : Array Oper) (z z2 : Nat) (tl tl2 : List Nat) : List Nat → Array Bool → Bool
  | [], listed => rzTail md ops z z2 tl2 tl listed
  | k :: l, listed => (Region.ready md ops listed).contains k && Region.free md ops listed k && decide (k < ops.size) && waitsT md ops ops.size z k && decide (k ≠ z) && rzHeadT md ops z z2 tl tl2 l (listed.setIfInBounds k true)
theorem wpAnyZ_headT {l : List Oper} (hl : ops = l.toArray) (hsel : Region.noSelect ops = true) (hQ : ∀ c a d v w, Q (.panic c) (Act.put a (some d) v) w → Q (.panic c) a w) {w : World} (hS : S w) (z2 : Nat) (tl tl2 : List Nat) :
    ∀ (rd : List Nat) (fuel : Nat) (listed : Array Bool) (a : Act), listed.size = ops.size → ClosedL md ops listed → rd.length + (tl.length + tl2.length) = fuel → rzHeadT md ops z z2 tl tl2 rd listed = true →
      readsQ P ops S (fun a' => tailW P ops S (thenZ P ops Q (pickOps l tl2)) (pickOps l tl) a' w) (pickOps l rd) a → wpAnyZ P md ops Q S z fuel listed a w
  | [], fuel, listed, a, hs, _, hf, hB, h => wpAnyZ_tail hl z2 tl2 tl fuel listed a w (by simpa using hf) hB h
  | k :: rd, fuel, listed, a, hs, hcl, hf, hB, h => by
    simp only [rzHeadT, Bool.and_eq_true, decide_eq_true_eq] at hB
    obtain ⟨⟨⟨⟨⟨h1, h2⟩, h3⟩, h4⟩, h6⟩, h5⟩ := hB
    obtain ⟨o, ho⟩ : ∃ o, l[k]? = some o := ⟨l[k]'(by subst hl; simpa using h3), by rw [List.getElem?_eq_getElem]⟩
    have ho' : ops[k]? = some o := by subst hl; simpa using ho
    have e : pickOps l (k :: rd) = o :: pickOps l rd := by unfold pickOps; simp [ho]
    rw [e] at h
    obtain ⟨v, hy, hK⟩ := h
    obtain ⟨f, rfl⟩ : ∃ f, fuel = f + 1 := ⟨fuel - 1, by simp at hf; omega⟩
    have hr : k ∈ Region.ready md ops listed := by simpa using h1
    exact wpAnyZ_firstT h6 h4 ho' (Region.noSelect_spec hsel) (fun c a w h => by cases hd : o.dst with | none => rw [hd] at h; exact h | some d => rw [hd] at h; exact hQ c _ _ _ w h) f listed a w hs hcl (Region.free_spec ho' h2) hr hy hS
      (wpAnyZ_headT hl hsel hQ hS z2 tl tl2 rd f _ _ (by simpa using hs) (hcl.set hr) (by simp at hf; omega) h5 hK)

/-- The check on a region. -/
def rzfB (md : Region.Mode) (ops : Array Oper) (z z2 k : Nat) (rd tl tl2 : List Nat) : Bool :=
  Region.noSelect ops && decide (rd.length + (tl.length + tl2.length) + 1 = ops.size) && (Region.ready md ops (Array.replicate ops.size false)).contains k && Region.free md ops (Array.replicate ops.size false) k && decide (k < ops.size) && waitsT md ops ops.size z2 k && rzHeadT md ops z z2 tl tl2 rd ((Array.replicate ops.size false).setIfInBounds k true)

theorem wp_region_rzf {id : Nat} {l : List Oper} {a : Act} {w : World} (S : World → Prop) (z z2 k : Nat) (rd tl tl2 : List Nat) (hm : P.follows .mixedOrders = true) (hB : rzfB .any l.toArray z z2 k rd tl tl2 = true) (hQ : ∀ c a d v w, Q (.panic c) (Act.put a (some d) v) w → Q (.panic c) a w) (hS : S w.drew)
    (h : readsQ P l.toArray (fun _ => True) (fun a1 => readsQ P l.toArray S (fun a' => tailW P l.toArray S (thenZ P l.toArray Q (pickOps l tl2)) (pickOps l tl) a' w.drew) (pickOps l rd) a1) (pickOps l [k]) a) : (Code.region id l.toArray true).wp P Q a w := by
  simp only [rzfB, Bool.and_eq_true, decide_eq_true_eq] at hB
  obtain ⟨⟨⟨⟨⟨⟨h1, h2⟩, h3⟩, h4⟩, h5⟩, h6⟩, h7⟩ := hB
  refine wp_region_any hm ?_
  obtain ⟨o, ho⟩ : ∃ o, l[k]? = some o := ⟨l[k]'(by simpa using h5), by rw [List.getElem?_eq_getElem]⟩
  have ho' : l.toArray[k]? = some o := by simpa using ho
  have e : pickOps l [k] = [o] := by unfold pickOps; simp [ho]
  rw [e] at h
  obtain ⟨v, hy, hK⟩ := h
  have hr : k ∈ Region.ready .any l.toArray (Array.replicate l.toArray.size false) := by simpa using h3
  rw [← h2]
  refine wpAny_of_weak (S := fun _ => True) (z := z2) _ _ _ _ ?_
  have hsz : (Array.replicate (rd.length + (tl.length + tl2.length) + 1) false).size = l.toArray.size := by rw [Array.size_replicate, h2]
  rw [← h2] at hr h4 h7
  refine wpAnyW_firstT h6 ho' (Region.noSelect_spec h1) (fun c a w h => by cases hd : o.dst with | none => rw [hd] at h; exact h | some d => rw [hd] at h; exact hQ c _ _ _ w h) _ _ a _ hsz (closedL_nil _) (Region.free_spec ho' h4) hr hy trivial ?_
  refine wpAnyW_of_any _ _ _ _ (wpAny_of_Z (S := S) (z := z) _ _ _ _ ?_)
  exact wpAnyZ_headT rfl h1 hQ hS z2 tl tl2 rd _ _ _ (by simpa using hsz) ((closedL_nil _).set hr) rfl h7 hK
end
end Go.Proofs.YtpcjkfppacnkgaaGreatDoor
end
section
/- Contract of state.Own: a state of its own rows. -/
set_option maxHeartbeats 4000000
set_option maxRecDepth 100000
namespace Go.Proofs.YtpcjkfppacnkgaaGreatDoor
open Go Go.RowKit

theorem drop_cons {α : Type} [Inhabited α] {ys : List α} {k : Nat} (h : k < ys.length) : ys.drop k = ys.getD k default :: ys.drop (k + 1) := by
  rw [List.drop_eq_getElem_cons h]; simp [List.getD, List.getElem?_eq_getElem h]
theorem take_snoc {α : Type} {l : List α} {k : Nat} (h : k < l.length) : l.take (k + 1) = l.take k ++ [l[k]] := List.take_succ_eq_append_getElem h

theorem own_any (s : GState) (vs : Value) (T : Nat → Prop) (w : World) (hs : StateV w T vs s) (hf : FewS s) :
    Calls Tryz.prog 91 #[vs] w fun e w' => (∃ P, e = .returned (.agg #[P.vfs, .int .i64 P.now, P.vo]) ∧ OwnR w' w.heap.size P ∧ P.g = s) ∧ Ext w w' := by
  obtain ⟨fs, nw, out⟩ := s
  obtain ⟨xf, xo, rfl, hfs, inow, ho⟩ := hs
  have hIO := ho.i64
  have HO := Lib.hid ho
  obtain ⟨ys, hyl, hysrc, hyr⟩ := Fibers.raw hfs
  obtain ⟨hf1, hf2, hf3⟩ := hf
  have hf1 : fs.length ≤ 900 := hf1
  have hf2 : out.length ≤ 900 := hf2
  have hf3 : ∀ f ∈ fs, FewF f := hf3
  have HF3 := Lib.hid hf3
  have HYR := Lib.hid hyr
  have HYS := Lib.hid hysrc
  have HYL := Lib.hid hyl
  have HIO := Lib.hid hIO
  obtain ⟨af, cf, rfl, _, _, _⟩ := hfs
  obtain ⟨ao, co, rfl, _, _, _⟩ := ho
  have RA := alloc_keep
  have hs0 : (w.alloc (.cells #[.slice af fs.length cf, .int .i64 nw, .slice ao out.length co] 58)).heap.size = w.heap.size + 1 := Array.size_push _
  have q0 := Cx.new w [.slice af fs.length cf, .int .i64 nw, .slice ao out.length co] 58 (j := 0) rfl
  have q1 := Cx.new w [.slice af fs.length cf, .int .i64 nw, .slice ao out.length co] 58 (j := 1) rfl
  have q2 := Cx.new w [.slice af fs.length cf, .int .i64 nw, .slice ao out.length co] 58 (j := 2) rfl
  have r0 := Cx.new (w.alloc (.cells #[.slice af fs.length cf, .int .i64 nw, .slice ao out.length co] 58)) [.slice none 0 0, .int .i64 0, .slice none 0 0] 58 (j := 0) rfl
  have r1 := Cx.new (w.alloc (.cells #[.slice af fs.length cf, .int .i64 nw, .slice ao out.length co] 58)) [.slice none 0 0, .int .i64 0, .slice none 0 0] 58 (j := 1) rfl
  have r2 := Cx.new (w.alloc (.cells #[.slice af fs.length cf, .int .i64 nw, .slice ao out.length co] 58)) [.slice none 0 0, .int .i64 0, .slice none 0 0] 58 (j := 2) rfl
  rw [hs0] at r0 r1 r2
  have hX : Ext (w.alloc (.cells #[.slice af fs.length cf, .int .i64 nw, .slice ao out.length co] 58)) ((w.alloc (.cells #[.slice af fs.length cf, .int .i64 nw, .slice ao out.length co] 58)).alloc (.cells #[.slice none 0 0, .int .i64 0, .slice none 0 0] 58)) := (Ext.refl _).alloc _
  have HQ := Lib.hid (⟨q0.ext hX, q1.ext hX, q2.ext hX, r0, r1, r2⟩ : _ ∧ _ ∧ _ ∧ _ ∧ _ ∧ _)
  have HE1 := Lib.hid (((Ext.refl w).alloc (.cells #[.slice af fs.length cf, .int .i64 nw, .slice ao out.length co] 58)).trans hX)
  have HS1 : Hid (((w.alloc (.cells #[.slice af fs.length cf, .int .i64 nw, .slice ao out.length co] 58)).alloc (.cells #[.slice none 0 0, .int .i64 0, .slice none 0 0] 58)).heap.size = w.heap.size + 2) := by unfold Hid; simp
  clear hs0 q0 q1 q2 r0 r1 r2 hX hyr hysrc hyl hf3 hIO
  go_enter Tryz.func91, Tryz.ntmps91
  go_upto_region 1 with fail
  obtain ⟨w1, hw1⟩ : ∃ w1, w1 = ((w.alloc (.cells #[.slice af fs.length cf, .int .i64 nw, .slice ao out.length co] 58)).alloc (.cells #[.slice none 0 0, .int .i64 0, .slice none 0 0] 58)) := ⟨_, rfl⟩
  rw [← hw1] at HQ HE1 HS1 ⊢
  clear hw1
  obtain ⟨⟨q0, q0'⟩, ⟨q1, q1'⟩, ⟨q2, q2'⟩, -, -, -⟩ := HQ.out
  have HO1 := Lib.hid (Ints.stays (Ext.stays HE1.out) HO.out)
  go_upto_region 2 with (first
    | (go_at_call 129; (with_reducible refine (cloneI_any out _ T _ HO1.out (by omega)).mono ?_); rintro e w2 ⟨⟨v1, rfl, hr1⟩, hx2⟩; obtain ⟨av1, cv1, rfl, _, _⟩ := hr1.shape; obtain ⟨k2, k2'⟩ := (HQ.out.2.2.1).ext hx2))
  obtain ⟨v1, hv1⟩ : ∃ v1, v1 = Value.slice av1 out.length cv1 := ⟨_, rfl⟩
  rw [← hv1] at hr1
  obtain ⟨W2, hW2⟩ : ∃ W2, W2 = w2.setCell ⟨w.heap.size, 2, none⟩ v1 := ⟨_, rfl⟩
  simp only [← hv1, ← hW2]
  have hq := HQ.out
  have a0 : Cx W2 w.heap.size 0 (.slice af fs.length cf) := by rw [hW2]; exact (hq.1.ext hx2).other (.inr (by decide)) _
  have a1 : Cx W2 w.heap.size 1 (.int .i64 nw) := by rw [hW2]; exact (hq.2.1.ext hx2).other (.inr (by decide)) _
  have a2 : Cx W2 w.heap.size 2 v1 := by rw [hW2]; exact (hq.2.2.1.ext hx2).set _
  have a3 : Cx W2 (w.heap.size + 1) 0 (.slice none 0 0) ∧ Cx W2 (w.heap.size + 1) 1 (.int .i64 0) ∧ Cx W2 (w.heap.size + 1) 2 (.slice none 0 0) := by rw [hW2]; exact ⟨(hq.2.2.2.1.ext hx2).other (.inl (by omega)) _, (hq.2.2.2.2.1.ext hx2).other (.inl (by omega)) _, (hq.2.2.2.2.2.ext hx2).other (.inl (by omega)) _⟩
  have hE2 : Ext w W2 := by rw [hW2]; exact (HE1.out.trans hx2).setCell (p := ⟨w.heap.size, 2, none⟩) (Nat.le_refl _) _
  have hro : RowAt W2 (w.heap.size + 2) 1 v1 out.length (ints out) := by
    rw [hW2]
    have hb := HS1.out
    exact (hr1.mono (by omega)).chg (chg_one w2 w.heap.size 2 v1) (fun k hk e => by have e : k = w.heap.size := e; have := hr1.le k hk; omega) (by decide)
  clear hv1 hW2 hq hx2 hr1 q0 q0' q1 q1' q2 q2' k2 k2'
  have HA := Lib.hid (⟨a0, a1, a2, a3⟩ : _ ∧ _ ∧ _ ∧ _)
  have HE2 := Lib.hid hE2
  have HRO := Lib.hid hro
  have HYS2 := Lib.hid (src_up HYS.out hE2)
  obtain ⟨a0, a0'⟩ := a0
  clear a1 a2 a3 hE2 hro
  rename World => w2
  go_upto_region 3 with (first
    | (go_at_call 130; (with_reducible refine (cloneB_any fs.length (ys.flatMap fiberF) _ _ HYS2.out (by omega)).mono ?_); rintro e w3 ⟨⟨v2, rfl, hr2⟩, hx3⟩; obtain ⟨av2, cv2, rfl, _, _⟩ := hr2.shape; obtain ⟨k3, k3'⟩ := (HA.out.1).ext hx3))
  obtain ⟨W3, hW3⟩ : ∃ W3, W3 = w3.setCell ⟨w.heap.size, 0, none⟩ (.slice av2 fs.length cv2) := ⟨_, rfl⟩
  simp only [← hW3]
  have ha := HA.out
  have b0 : Cx W3 w.heap.size 0 (.slice av2 fs.length cv2) := by rw [hW3]; exact (ha.1.ext hx3).set _
  have b1 : Cx W3 w.heap.size 1 (.int .i64 nw) := by rw [hW3]; exact (ha.2.1.ext hx3).other (.inr (by decide)) _
  have b2 : Cx W3 w.heap.size 2 v1 := by rw [hW3]; exact (ha.2.2.1.ext hx3).other (.inr (by decide)) _
  have b3 : Cx W3 (w.heap.size + 1) 0 (.slice none 0 0) ∧ Cx W3 (w.heap.size + 1) 1 (.int .i64 0) ∧ Cx W3 (w.heap.size + 1) 2 (.slice none 0 0) := by rw [hW3]; exact ⟨(ha.2.2.2.1.ext hx3).other (.inl (by omega)) _, (ha.2.2.2.2.1.ext hx3).other (.inl (by omega)) _, (ha.2.2.2.2.2.ext hx3).other (.inl (by omega)) _⟩
  have hE3 : Ext w W3 := by rw [hW3]; exact (HE2.out.trans hx3).setCell (p := ⟨w.heap.size, 0, none⟩) (Nat.le_refl _) _
  have hB2 : w.heap.size + 1 < w2.heap.size := ha.2.2.2.1.lt
  have hvo : ∀ k, rowBlock v1 = some k → w.heap.size + 2 ≤ k ∧ k < w2.heap.size := fun k hk => ⟨HRO.out.le k hk, HRO.out.lt2 (by decide) k hk⟩
  have hro3 : RowAt W3 (w.heap.size + 2) 1 v1 out.length (ints out) := by
    rw [hW3]
    exact (HRO.out.ext hx3 (by decide)).chg (chg_one w3 w.heap.size 0 _) (fun k hk e => by have e : k = w.heap.size := e; have := hvo k hk; omega) (by decide)
  have hr3 : RowAt W3 w2.heap.size 2 (.slice av2 fs.length cv2) fs.length (ys.flatMap fiberF) := by
    rw [hW3]
    exact hr2.chg (chg_one w3 w.heap.size 0 _) (fun k hk e => by have e : k = w.heap.size := e; have := hr2.le k hk; omega) (by decide)
  have HB3 := Lib.hid (⟨b0, b1, b2, b3⟩ : _ ∧ _ ∧ _ ∧ _)
  have HE3 := Lib.hid hE3
  have HRO3 := Lib.hid hro3
  have HMB : Hid (MidB W3 w2.heap.size (.slice av2 fs.length cv2) [] ys) := MidB.new (by rw [HYL.out]; exact hr3)
  have HVO := Lib.hid hvo
  have HBS : Hid (w.heap.size + 1 < w2.heap.size ∧ w2.heap.size ≤ W3.heap.size) := ⟨hB2, by rw [hW3]; exact (Nat.le_trans hx3.size (Nat.le_of_eq (by simp)))⟩
  obtain ⟨b0, b0'⟩ := b0
  clear hW3 ha b1 b2 b3 hE3 hB2 hvo hro3 hr3 hr2 hx3 k3 k3' a0 a0' HA HRO HYS2 HQ HO1 HE1 HS1 HO
  obtain ⟨B1, hB1⟩ : ∃ B1, w2.heap.size = B1 := ⟨_, rfl⟩
  rw [hB1] at HMB HVO HBS
  clear hB1
  go_wp2_with fail
  go_loopw [18] (fun q wr => ∃ dn : List PFiber, q = .int .i64 (dn.length : Int) ∧ dn.length ≤ fs.length ∧ MidB wr B1 (.slice av2 fs.length cv2) dn (ys.drop dn.length) ∧ dn.map PFiber.g = fs.take dn.length ∧ Ext w wr ∧ B1 ≤ wr.heap.size ∧ RowAt wr (w.heap.size + 2) 1 v1 out.length (ints out) ∧
      Cx wr w.heap.size 0 (.slice av2 fs.length cv2) ∧ Cx wr w.heap.size 1 (.int .i64 nw) ∧ Cx wr w.heap.size 2 v1 ∧ Cx wr (w.heap.size + 1) 0 (.slice none 0 0) ∧ Cx wr (w.heap.size + 1) 1 (.int .i64 0) ∧ Cx wr (w.heap.size + 1) 2 (.slice none 0 0)) (fun q _ => fs.length - (intOf q).toNat)
  case atStart => exact ⟨[], rfl, Nat.zero_le _, HMB.out, rfl, HE3.out, HBS.out.2, HRO3.out, HB3.out.1, HB3.out.2.1, HB3.out.2.2.1, HB3.out.2.2.2.1, HB3.out.2.2.2.2.1, HB3.out.2.2.2.2.2⟩
  case round =>
    obtain ⟨dn, rfl, hdn, hmb, hdg, hE, hBw, hro, z0, z1, z2, z3, z4, z5⟩ := hrel
    have HMK := Lib.hid hmb
    have HDG := Lib.hid hdg
    have HEK := Lib.hid hE
    have HBW := Lib.hid hBw
    have HROK := Lib.hid hro
    have HZ := Lib.hid (⟨z0, z1, z2, z3, z4, z5⟩ : _ ∧ _ ∧ _ ∧ _ ∧ _ ∧ _)
    obtain ⟨z0, z0'⟩ := z0
    obtain ⟨z1, z1'⟩ := z1
    obtain ⟨z2, z2'⟩ := z2
    clear hmb hdg hE hBw hro HMB HE3 HRO3 HB3 b0 b0'
    rename World => wk
    by_cases hlt : dn.length < fs.length
    · have hlty : dn.length < ys.length := by rw [HYL.out]; exact hlt
      have hmk := HMK.out
      rw [drop_cons hlty] at hmk
      obtain ⟨hyf, hyc, hyI⟩ := HYR.out dn.length hlt
      have hff : FewF fs[dn.length] := HF3.out _ (List.getElem_mem _)
      obtain ⟨y, hy⟩ : ∃ y, ys.getD dn.length default = y := ⟨_, rfl⟩
      rw [hy] at hmk hyf hyc
      obtain ⟨fb, hfb⟩ : ∃ fb, fs[dn.length] = fb := ⟨_, rfl⟩
      have htk : fs.take (dn.length + 1) = fs.take dn.length ++ [fb] := by rw [take_snoc hlt, hfb]
      rw [hfb] at hyf hyc hyI hff
      obtain ⟨rs, hrs⟩ : ∃ rs, ys.drop (dn.length + 1) = rs := ⟨_, rfl⟩
      rw [hrs] at hmk
      obtain ⟨xs, hxl, hxs, hxr⟩ := Frames.raw hyf
      obtain ⟨g, o, cap, e1, hbl, _, _, hcx⟩ := RowAt.place fiberF (fun _ => rfl) hmk.row
      simp only [Value.slice.injEq] at e1
      obtain ⟨rfl, -, rfl⟩ := e1
      obtain ⟨y0, y0'⟩ := hcx 0 _ (by decide) rfl
      rw [Nat.add_zero] at y0 y0'
      have hfl9 : fb.frames.length ≤ 900 := hff.1
      have HMK2 := Lib.hid hmk
      have HHY := Lib.hid hy
      have HTK := Lib.hid htk
      have HRS := Lib.hid hrs
      have HYC := Lib.hid hyc
      have HFF := Lib.hid hff
      have HXL := Lib.hid hxl
      have HXS := Lib.hid (src_up hxs HEK.out)
      have HXR := Lib.hid hxr
      have HBL := Lib.hid hbl
      have HGB : Hid (B1 ≤ g ∧ g < wk.heap.size) := ⟨hmk.row.le g hbl, hmk.row.lt2 (by decide) g hbl⟩
      clear hmk hy htk hrs hyc hyf hff hxl hxs hxr hbl hcx hfb
      go_upto_region 8 with (first
        | (go_at_call 131; (with_reducible refine (cloneF_any fb.frames.length (xs.flatMap frameF) _ _ HXS.out (by omega)).mono ?_); rintro e w4 ⟨⟨v4, rfl, hr4⟩, hx4⟩; obtain ⟨av4, cv4, rfl, _, _⟩ := hr4.shape; obtain ⟨k4, k4'⟩ := (Cx.ext (W := wk) ⟨y0, y0'⟩ hx4)))
      obtain ⟨W5, hW5⟩ : ∃ W5, W5 = w4.setCell ⟨g, o + dn.length * 2, none⟩ (.slice av4 fb.frames.length cv4) := ⟨_, rfl⟩
      simp only [← hW5]
      have hgb := HGB.out
      have c5 : Cx W5 g (o + dn.length * 2) (.slice av4 fb.frames.length cv4) := by rw [hW5]; exact (Cx.ext (W := wk) ⟨y0, y0'⟩ hx4).set _
      have hc5 : Chg (· = g) wk W5 := by rw [hW5]; exact (Chg.of_ext hx4).trans (chg_one _ _ _ _)
      have hr5 : RowAt W5 wk.heap.size 4 (.slice av4 fb.frames.length cv4) fb.frames.length (xs.flatMap frameF) := by
        rw [hW5]
        exact hr4.chg (chg_one w4 g (o + dn.length * 2) _) (fun k hk e => by have e : k = g := e; have := hr4.le k hk; omega) (by decide)
      have hrow5 : RowAt W5 B1 2 (.slice (some ⟨g, o, none⟩) fs.length cv2) (dn ++ ⟨[], y.caller, .slice av4 fb.frames.length cv4⟩ :: rs).length ((dn ++ ⟨[], y.caller, .slice av4 fb.frames.length cv4⟩ :: rs).flatMap fiberF) := by
        have h0 := (HMK2.out.row.ext hx4 (by decide)).storeAt fiberF (fun _ => rfl) (L := dn) (y := y) (y' := ⟨[], y.caller, .slice av4 fb.frames.length cv4⟩) (R := rs) (r := 0) (by decide) (u := .slice av4 fb.frames.length cv4) rfl
        rw [hW5]
        exact h0
      have hE5 : Ext w W5 := Chg.ext_from HEK.out hc5 (fun k e => by have e : k = g := e; have := HBS.out.1; omega)
      have hne : ∀ {b j : Nat} {v : Value}, Cx wk b j v → b < B1 → Cx W5 b j v := fun h hb => h.chg hc5 (fun e => by have e : _ = g := e; omega)
      have hz := HZ.out
      have hb1 := HBS.out.1
      have HZ5 := Lib.hid (⟨hne hz.1 (by omega), hne hz.2.1 (by omega), hne hz.2.2.1 (by omega), hne hz.2.2.2.1 (by omega), hne hz.2.2.2.2.1 (by omega), hne hz.2.2.2.2.2 (by omega)⟩ : _ ∧ _ ∧ _ ∧ _ ∧ _ ∧ _)
      have HRO5 := Lib.hid (HROK.out.chg hc5 (fun k hk e => by have e : k = g := e; have := HVO.out k hk; omega) (by decide))
      have HMF : Hid (MidF W5 wk.heap.size (.slice av4 fb.frames.length cv4) [] xs) := MidF.new (by rw [HXL.out]; exact hr5)
      have C5 := Lib.hid c5
      have HC5 := Lib.hid hc5
      have HROW5 := Lib.hid hrow5
      have HE5 := Lib.hid hE5
      have HSZ5 : Hid (wk.heap.size ≤ W5.heap.size) := hc5.size
      obtain ⟨c5, c5'⟩ := c5
      clear hW5 hgb hc5 hr5 hrow5 hE5 hne hz hb1 hr4 hx4 k4 k4' y0 y0' z0 z0' z1 z1' z2 z2' z3 z4 z5
      go_wp2_with fail
      go_loopw [38] (fun q wr => ∃ fn : List PFrame, q = .int .i64 (fn.length : Int) ∧ fn.length ≤ fb.frames.length ∧ MidF wr wk.heap.size (.slice av4 fb.frames.length cv4) fn (xs.drop fn.length) ∧ fn.map PFrame.f = fb.frames.take fn.length ∧ Chg (wk.heap.size ≤ ·) W5 wr) (fun q _ => fb.frames.length - (intOf q).toNat)
      case atStart => exact ⟨[], rfl, Nat.zero_le _, HMF.out, rfl, Chg.refl _ _⟩
      case round =>
        obtain ⟨fn, rfl, hfn, hmf, hfg, hcr⟩ := hrel
        have HMR := Lib.hid hmf
        have HFG := Lib.hid hfg
        have HCR := Lib.hid hcr
        have HC5R := Lib.hid (C5.out.chg hcr (fun e => by have := HGB.out; omega))
        clear hmf hfg hcr HMF c5 c5'
        obtain ⟨c5, c5'⟩ := HC5R.out
        rename World => wr
        have HWR : Hid (wk.heap.size ≤ wr.heap.size) := Nat.le_trans HSZ5.out HCR.out.size
        by_cases hlt2 : fn.length < fb.frames.length
        · have hltx : fn.length < xs.length := by rw [HXL.out]; exact hlt2
          have hmr := HMR.out
          rw [drop_cons hltx] at hmr
          obtain ⟨hxv, hxf⟩ := HXR.out fn.length hlt2
          have hfx := HFF.out.2 _ (List.getElem_mem hlt2)
          obtain ⟨x, hx⟩ : ∃ x, xs.getD fn.length default = x := ⟨_, rfl⟩
          rw [hx] at hmr hxv hxf
          have htk2 : fb.frames.take (fn.length + 1) = fb.frames.take fn.length ++ [x.f] := by rw [take_snoc hlt2, hxf]
          rw [← hxf] at hxv hfx
          obtain ⟨rs2, hrs2⟩ : ∃ rs2, xs.drop (fn.length + 1) = rs2 := ⟨_, rfl⟩
          rw [hrs2] at hmr
          obtain ⟨gf, og, capf, e2, hblf, _, _, hcxf⟩ := RowAt.place frameF (fun _ => rfl) hmr.row
          simp only [Value.slice.injEq] at e2
          obtain ⟨rfl, -, rfl⟩ := e2
          obtain ⟨x2, x2'⟩ := hcxf 2 _ (by decide) rfl
          obtain ⟨x3, x3'⟩ := hcxf 3 _ (by decide) rfl
          obtain ⟨vl, vs, ea, iF, iA, hil, his⟩ := hxv
          simp only [Value.agg.injEq, Array.mk.injEq, List.cons.injEq, and_true, true_and] at ea
          obtain ⟨e3, e4⟩ := ea
          rw [← e3] at hil
          rw [← e4] at his
          have HEW : Hid (Ext w wr) := Chg.ext_from HE5.out HCR.out (fun k hk => by have := HEK.out.size; have hk : wk.heap.size ≤ k := hk; omega)
          have HIL := Lib.hid (Ints.stays (Ext.stays HEW.out) hil)
          have HIS := Lib.hid (Ints.stays (Ext.stays HEW.out) his)
          have HI4 := Lib.hid (⟨iF, iA, hil.i64, his.i64⟩ : _ ∧ _ ∧ _ ∧ _)
          have HMR2 := Lib.hid hmr
          have HRS2 := Lib.hid hrs2
          have HTK2 := Lib.hid htk2
          have hl9 := hfx.1
          have hs9 := hfx.2
          clear hmr hxf hfx hx htk2 hrs2 hblf hcxf e3 e4 hil his iF iA
          go_upto_region 12 with fail
          refine wp_region_rzf (fun w' => w'.cell? ⟨gf, og + fn.length * 4 + 2, none⟩ = some x.vl ∧ w'.cell? ⟨gf, og + fn.length * 4 + 3, none⟩ = some x.vs) 14 17 1 [0, 2, 3, 4, 5, 7, 8, 9, 10] [6, 11, 12, 13, 14] [15, 16, 17] (by kernel_rfl) (by kernel_rfl) (fun _ _ _ _ _ h => h) (by exact ⟨x2, x3⟩) ?_
          (try simp only [pickOps, List.filterMap_cons, List.filterMap_nil, List.getElem?_cons_zero, List.getElem?_cons_succ])
          repeat (
            refine readsQ_do (by rfl) ?_
            apply Exists.intro
            refine ⟨fun w' hw' => ?_, ?_⟩
            focus
              (try dsimp only at hw')
              go_split_ands
              go_simp
              (try with_reducible rfl)
            (try dsimp only [Act.put])
            (try simp only [List.setIfInBounds_toArray, List.set_cons_succ, List.set_cons_zero]))
          refine readsQ_nil ?_
          refine tailW_step ?_
          go_wp2_with (first
            | (go_at_call 129; (with_reducible refine (cloneI_any x.f.locals _ T _ (Ints.stays (Ext.stays (Ext.refl wr).drew) HIL.out) (by omega)).mono ?_); rintro e w6 ⟨⟨u1, rfl, hra⟩, hxa⟩; obtain ⟨au1, cu1, rfl, _, _⟩ := hra.shape))
          have hEa : Ext wr w6 := (Ext.refl wr).drew.trans hxa
          have hra : RowAt w6 wr.heap.size 1 (.slice au1 x.f.locals.length cu1) x.f.locals.length (ints x.f.locals) := hra
          have HEA := Lib.hid hEa
          have HRA := Lib.hid hra
          have S6 := Lib.hid (⟨Ext.cell hEa x2, Ext.cell hEa x3⟩ : _ ∧ _)
          clear hEa hra hxa
          refine nextW_go S6.out ?_
          refine tailW_step ?_
          go_wp2_with (first
            | (go_at_call 129; (with_reducible refine (cloneI_any x.f.stack _ T _ (Ints.stays (Ext.stays HEA.out) HIS.out) (by omega)).mono ?_); rintro e w7 ⟨⟨u2, rfl, hrb⟩, hxb⟩; obtain ⟨au2, cu2, rfl, _, _⟩ := hrb.shape))
          have HEB := Lib.hid hxb
          have HRB := Lib.hid hrb
          have S7 := Lib.hid (⟨Ext.cell hxb S6.out.1, Ext.cell hxb S6.out.2⟩ : _ ∧ _)
          obtain ⟨k2, k2'⟩ := Cx.ext (W := wr) ⟨x2, x2'⟩ (HEA.out.trans hxb)
          have k3 := Lib.hid (Cx.ext (W := wr) ⟨x3, x3'⟩ (HEA.out.trans hxb))
          obtain ⟨k4, k4'⟩ := k3.out.other (b' := gf) (j' := og + fn.length * 4 + 2) (.inr (by omega)) (.slice au1 x.f.locals.length cu1)
          clear hrb hxb
          refine nextW_go S7.out ?_
          refine tailW_step ?_
          go_wp2_with fail
          refine nextW_go S7.out ?_
          refine tailW_step ?_
          go_wp2_with fail
          refine nextW_go S7.out ?_
          refine tailW_step ?_
          go_wp2_with fail
          refine nextW_end ?_
          refine thenZ_go ?_
          refine tailW_step ?_
          go_wp2_with fail
          refine nextW_go trivial ?_
          refine tailW_step ?_
          go_wp2_with fail
          refine nextW_go trivial ?_
          refine tailW_step ?_
          go_wp2_with fail
          refine nextW_end ?_
          obtain ⟨m9, c9⟩ := HMR2.out.step HWR.out HEA.out HEB.out HRA.out HRB.out HI4.out ⟨hl9, hs9⟩
          have hmap : (fn ++ [(⟨x.f, .slice au1 x.f.locals.length cu1, .slice au2 x.f.stack.length cu2⟩ : PFrame)]).map PFrame.f = fb.frames.take (fn.length + 1) := by rw [List.map_append, HFG.out, HTK2.out]; rfl
          have hgw : wk.heap.size ≤ gf := HMR2.out.row.le gf (rowBlock_some _ _ _ _ (by intro e; have h0 := HMR2.out.row.shape; obtain ⟨a0, c0, e0, h1, _⟩ := h0; simp only [Value.slice.injEq] at e0; simp at h1; omega))
          go_wp2_with fail
          go_roundw
          case rel => exact ⟨fn ++ [⟨x.f, .slice au1 x.f.locals.length cu1, .slice au2 x.f.stack.length cu2⟩], by first | (simp; done) | go_num, by (simp only [List.length_append, List.length_singleton]) <;> omega, by rw [List.length_append, List.length_singleton, HRS2.out]; exact m9, by rw [List.length_append, List.length_singleton]; exact hmap, HCR.out.trans (c9.mono (fun k _ e => by have e : k = gf := e; show wk.heap.size ≤ k; omega))⟩
          case measure => first | (simp [intOf]; done) | (simp [intOf]; omega)
        · have hfe : fn.length = fb.frames.length := by omega
          have HFE := Lib.hid hfe
          clear hfe
          have hcw : Chg (· = g) wk wr := HC5.out.trans' HCR.out (fun k hk hm => by have hm : wk.heap.size ≤ k := hm; omega)
          have hrowr : RowAt wr B1 2 (.slice (some ⟨g, o, none⟩) fs.length cv2) (dn ++ ⟨[], y.caller, .slice av4 fb.frames.length cv4⟩ :: rs).length ((dn ++ ⟨[], y.caller, .slice av4 fb.frames.length cv4⟩ :: rs).flatMap fiberF) := HROW5.out.chg HCR.out (fun k hk e => by rw [rowBlock_some _ _ _ _ (by have := hlt; intro e0; have h0 := HMK2.out.row.shape; obtain ⟨a0, c0, e0', h1, _⟩ := h0; simp only [Value.slice.injEq] at e0'; simp at h1; omega)] at hk; cases hk; have e : wk.heap.size ≤ g := e; have := HGB.out; omega) (by decide)
          have hmfr : MidF wr wk.heap.size (.slice av4 fb.frames.length cv4) fn [] := by
            have h0 := HMR.out
            rwa [show xs.drop fn.length = [] from List.drop_eq_nil_of_le (by rw [HXL.out, HFE.out]; exact Nat.le_refl _)] at h0
          have m9 := HMK2.out.step HBW.out hcw hrowr hmfr (by rw [HYC.out]; exact hyI) (by have := HFE.out; omega)
          have hmap : (dn ++ [(⟨fn, y.caller, .slice av4 fb.frames.length cv4⟩ : PFiber)]).map PFiber.g = fs.take (dn.length + 1) := by
            rw [List.map_append, HDG.out, HTK.out]
            have : fn.map PFrame.f = fb.frames := by rw [HFG.out, HFE.out, List.take_length]
            simp [PFiber.g, this, HYC.out]
          have hEr : Ext w wr := Chg.ext_from HE5.out HCR.out (fun k hk => by have := HEK.out.size; have hk : wk.heap.size ≤ k := hk; omega)
          have hbl := HBW.out
          have hkk : ∀ {b j : Nat} {v : Value}, Cx W5 b j v → b < B1 → Cx wr b j v := fun h hb => h.chg HCR.out (fun e => by have e : wk.heap.size ≤ _ := e; omega)
          have hz := HZ5.out
          have hb1 := HBS.out.1
          have HREL := Lib.hid (⟨m9, hmap, hEr, Nat.le_trans hbl (Nat.le_trans HSZ5.out HCR.out.size), HRO5.out.chg HCR.out (fun k hk e => by have := HVO.out k hk; have e : wk.heap.size ≤ k := e; omega) (by decide), hkk hz.1 (by omega), hkk hz.2.1 (by omega), hkk hz.2.2.1 (by omega), hkk hz.2.2.2.1 (by omega), hkk hz.2.2.2.2.1 (by omega), hkk hz.2.2.2.2.2 (by omega)⟩ : _ ∧ _ ∧ _ ∧ _ ∧ _ ∧ _ ∧ _ ∧ _ ∧ _ ∧ _ ∧ _)
          clear hcw hrowr hmfr m9 hmap hEr hbl hkk hz hb1
          go_wp2_with fail
          go_roundw
          case rel =>
            obtain ⟨m9, hmap, hEr, hsz, hro, a0, a1, a2, a3, a4, a5⟩ := HREL.out
            exact ⟨dn ++ [⟨fn, y.caller, .slice av4 fb.frames.length cv4⟩], by first | (simp; done) | go_num, by (simp only [List.length_append, List.length_singleton]) <;> omega, by rw [List.length_append, List.length_singleton, HRS.out]; exact m9, by rw [List.length_append, List.length_singleton]; exact hmap, hEr, hsz, hro, a0, a1, a2, a3, a4, a5⟩
          case measure => first | (simp [intOf]; done) | (simp [intOf]; omega)
    · have hde : dn.length = fs.length := by omega
      have HDE := Lib.hid hde
      clear hde
      obtain ⟨av1, cv1, rfl, _, _⟩ := HROK.out.shape
      have hz := HZ.out
      obtain ⟨z2, z2'⟩ := hz.2.2.1
      obtain ⟨z3, z3'⟩ := hz.2.2.2.1
      obtain ⟨z4, z4'⟩ := hz.2.2.2.2.1
      obtain ⟨z5, z5'⟩ := hz.2.2.2.2.2
      clear hz
      go_wp2_with fail
      have hrs : ys.drop dn.length = [] := List.drop_eq_nil_of_le (by rw [HYL.out, HDE.out]; exact Nat.le_refl _)
      have hmb := HMK.out
      rw [hrs] at hmb
      refine bodyPost_ret (results_cell_mid rfl _ _ (w.heap.size + 1) 0 _ _ rfl (box3 ⟨z3, z3'⟩ ⟨z4, z4'⟩ ⟨z5, z5'⟩ _ _ _) rfl rfl (by kernel_rfl)) rfl ?_
      have hb1 := HBS.out.1
      have hdg : dn.map PFiber.g = fs := by rw [HDG.out, HDE.out, List.take_length]
      have hrow := hmb.row
      rw [List.append_nil, HDE.out] at hrow
      have hOR : OwnR wk (w.heap.size + 2) ⟨dn, nw, out, .slice av2 fs.length cv2, .slice av1 out.length cv1⟩ := by
        refine ⟨⟨inow, HIO.out⟩, ?_, HROK.out, fun z hz => (hmb.fs z hz).mono (by omega), ⟨by show dn.length ≤ 1000; rw [HDE.out]; omega, by show out.length ≤ 1000; omega⟩, ?_⟩
        · show RowAt wk (w.heap.size + 2) 2 (.slice av2 fs.length cv2) dn.length (dn.flatMap fiberF)
          rw [HDE.out]
          exact hrow.mono (by omega)
        · unfold PState.bl
          show ((rowBlock (.slice av2 fs.length cv2)).toList ++ (rowBlock (.slice av1 out.length cv1)).toList ++ dn.flatMap PFiber.bl).Nodup
          have h1 := hmb.nodup
          have hge : ∀ k ∈ (rowBlock (.slice av2 fs.length cv2)).toList ++ dn.flatMap PFiber.bl, B1 ≤ k := fun k hk => by
            rcases List.mem_append.1 hk with h2 | h2
            · exact hmb.row.le k (by simpa using h2)
            · obtain ⟨z, hz, h3⟩ := List.mem_flatMap.1 h2
              have hzO := hmb.fs z hz
              unfold PFiber.bl at h3
              rcases List.mem_append.1 h3 with h4 | h4
              · exact hzO.row.le k (by simpa using h4)
              · obtain ⟨x, hx, h5⟩ := List.mem_flatMap.1 h4
                unfold PFrame.bl at h5
                rcases List.mem_append.1 h5 with h6 | h6
                · exact (hzO.fr x hx).l.le k (by simpa using h6)
                · exact (hzO.fr x hx).s.le k (by simpa using h6)
          obtain ⟨n1, n2, n3⟩ := List.nodup_append.1 h1
          rw [List.append_assoc, List.nodup_append]
          refine ⟨n1, ?_, fun a ha c hc e => ?_⟩
          · rw [List.nodup_append]
            refine ⟨by cases rowBlock (.slice av1 out.length cv1) <;> simp, n2, fun a ha c hc e => ?_⟩
            subst e
            have h2 := HVO.out a (by simpa using ha)
            have h3 := hge a (List.mem_append.2 (.inr hc))
            omega
          · subst e
            rcases List.mem_append.1 hc with h2 | h2
            · have h3 := HVO.out a (by simpa using h2)
              have h4 := hge a (List.mem_append.2 (.inl ha))
              omega
            · exact n3 a ha a h2 rfl
      refine ⟨⟨_, rfl, (hOR.chg (chg3 wk (w.heap.size + 1) _ _ _) (fun k hk e => by have h2 := hOR.ge k hk; have e : k = w.heap.size + 1 := e; omega)).mono (by omega), ?_⟩, ?_⟩
      · unfold PState.g
        simp only [hdg]
      · exact ((HEK.out.setCell (p := ⟨w.heap.size + 1, 0, none⟩) (Nat.le_succ _) _).setCell (p := ⟨w.heap.size + 1, 1, none⟩) (Nat.le_succ _) _).setCell (p := ⟨w.heap.size + 1, 2, none⟩) (Nat.le_succ _) _
end Go.Proofs.YtpcjkfppacnkgaaGreatDoor
end
section
/- Contract of step.Turn: what the engine throws is caught. -/
set_option maxHeartbeats 4000000
set_option maxRecDepth 100000
set_option linter.unusedSimpArgs false
namespace Go.Proofs.YtpcjkfppacnkgaaGreatDoor
open Go Go.RowKit

theorem taT_hit (v : Value) (w : World) : (Instr.typeAssert (.iface 173 v) 20 173 true).run Tryz.prog w = .ok (.tuple #[v, .bool true]) w := by
  unfold Instr.typeAssert
  simp only [Sem.run_bind, run_underlying Tryz.underlying173, Result.andThen_ok]
  rfl
theorem zeroT (w : World) : (zeroValue 173).run Tryz.prog w = .ok (.agg #[.int .i64 0]) w := by kernel_rfl
theorem taT_miss (w : World) : (Instr.typeAssert .nilIface 20 173 true).run Tryz.prog w = .ok (.tuple #[.agg #[.int .i64 0], .bool false]) w := by
  unfold Instr.typeAssert
  simp only [Sem.run_bind, run_underlying Tryz.underlying173, Result.andThen_ok, if_true, zeroT]
  rfl

theorem catchT_panicking (b b2 : Nat) (r x : Int) (u0 u1 u2 : Value) (older : List PanicEntry) (w : World) (h0 : Cx w b 0 u0) (h1 : Cx w b 1 u1) (h2 : Cx w b 2 u2) (hc : Cx w b2 0 (.int .i64 x)) (hne : b ≠ b2) :
    CallsD Tryz.prog 132 #[.pointer (some ⟨b, 0, none⟩), .pointer (some ⟨b2, 0, none⟩)] (.panicking ({ v := .iface 173 (.agg #[.int .i64 r]), recovered := false } :: older)) w fun e u' w' =>
      e = .returned (.tuple #[]) ∧ u' = .panicking ({ v := .iface 173 (.agg #[.int .i64 r]), recovered := true } :: older) ∧ (Cx w' b 0 (.slice none 0 0) ∧ Cx w' b 1 (.int .i64 0) ∧ Cx w' b 2 (.slice none 0 0) ∧ Cx w' b2 0 (.int .i64 r)) ∧ Chg (fun k => k = b ∨ k = b2) w w' := by
  refine callsD_of_wpS Tryz.func132 rfl fun c₀ cs hu => ?_
  apply wpS_seq
  apply wpS_region
  simp [wpOpsS, go_sem, recoverD, hu, Tryz.ntmps132, Exit.thenS]
  refine wpS_of_wp ?_
  simp only [Array.replicate, List.reduceReplicate, List.setIfInBounds_toArray, List.set_cons_succ, List.set_cons_zero, List.append_toArray, List.cons_append, List.nil_append]
  have hta := taT_hit
  have RA := alloc_keep
  have hnb : b ≠ w.heap.size := Nat.ne_of_lt h0.lt
  have hnb2 : b2 ≠ w.heap.size := Nat.ne_of_lt hc.lt
  have hX : Ext w (w.alloc (.cells #[.int .i64 r] 173)) := (Ext.refl w).alloc _
  have H := Lib.hid (⟨h0.ext hX, h1.ext hX, h2.ext hX, hc.ext hX⟩ : _ ∧ _ ∧ _ ∧ _)
  have HX := Lib.hid hX
  clear h0 h1 h2 hc hX
  go_upto_region 3 with fail
  obtain ⟨W, hW⟩ : ∃ W, W = w.alloc (.cells #[.int .i64 r] 173) := ⟨_, rfl⟩
  have k0 : Cx W w.heap.size 0 (.int .i64 r) := by rw [hW]; exact Cx.new w [.int .i64 r] _ (j := 0) rfl
  rw [← hW] at H HX ⊢
  obtain ⟨⟨h0, h0'⟩, ⟨h1, h1'⟩, ⟨h2, h2'⟩, ⟨h3, h3'⟩⟩ := H.out
  have KS := Lib.hid (((k0.other (b' := b) (j' := 0) (.inl (Ne.symm hnb)) (.slice none 0 0)).other (b' := b) (j' := 1) (.inl (Ne.symm hnb)) (.int .i64 0)).other (b' := b) (j' := 2) (.inl (Ne.symm hnb)) (.slice none 0 0))
  have K0 := Lib.hid k0
  obtain ⟨k0, -⟩ := k0
  clear hW
  generalize w.heap.size = z at *
  refine wp_region_rt (fun w' => w'.cell? ⟨z, 0, none⟩ = some (.int .i64 r)) 4 [0, 1, 2] [3, 4] (by kernel_rfl) (by kernel_rfl) (fun _ _ _ _ _ h => h) (by exact k0) ?_
  (try simp only [pickOps, List.filterMap_cons, List.filterMap_nil, List.getElem?_cons_zero, List.getElem?_cons_succ])
  repeat (
    refine readsQ_do (by rfl) ?_
    apply Exists.intro
    refine ⟨fun w' hw' => ?_, ?_⟩
    focus
      (try dsimp only at hw')
      go_split_ands
      go_simp
      (try with_reducible rfl)
    (try dsimp only [Act.put])
    (try simp only [List.setIfInBounds_toArray, List.set_cons_succ, List.set_cons_zero]))
  refine readsQ_nil ?_
  refine tailW_step ?_
  go_wp2_with fail
  refine nextW_go (by exact KS.out.1) ?_
  have HS := Lib.hid (((((H.out.2.2.2.other (b' := b) (j' := 0) (.inl (Ne.symm hne)) (.slice none 0 0)).other (b' := b) (j' := 1) (.inl (Ne.symm hne)) (.int .i64 0)).other (b' := b) (j' := 2) (.inl (Ne.symm hne)) (.slice none 0 0))))
  obtain ⟨e3, e3'⟩ := HS.out
  refine tailW_step ?_
  go_wp2_with fail
  refine nextW_end ?_
  go_wp2_with fail
  have q := H.out
  have hx := (Ext.refl ((((W.setCell ⟨b, 0, none⟩ (.slice none 0 0)).setCell ⟨b, 1, none⟩ (.int .i64 0)).setCell ⟨b, 2, none⟩ (.slice none 0 0)).setCell ⟨b2, 0, none⟩ (.int .i64 r))).drew
  refine ⟨rfl, _, rfl, _, results_none rfl _ _ _, rfl, rfl, ⟨Cx.ext ?_ hx, Cx.ext ?_ hx, Cx.ext ?_ hx, Cx.ext ?_ hx⟩, ?_⟩
  · exact (((q.1.set _).other (.inr (by decide)) _).other (.inr (by decide)) _).other (.inl hne) _
  · exact (((q.2.1.other (.inr (by decide)) _).set _).other (.inr (by decide)) _).other (.inl hne) _
  · exact (((q.2.2.1.other (.inr (by decide)) _).other (.inr (by decide)) _).set _).other (.inl hne) _
  · exact (((q.2.2.2.other (.inl (Ne.symm hne)) _).other (.inl (Ne.symm hne)) _).other (.inl (Ne.symm hne)) _).set _
  · exact ((Chg.of_ext HX.out).trans (((chg3 W b _ _ _).mono (fun k _ h => .inl h)).trans ((chg_one _ b2 0 _).mono (fun k _ h => .inr h)))).drew

theorem catchT_idle (b b2 : Nat) (w : World) :
    CallsD Tryz.prog 132 #[.pointer (some ⟨b, 0, none⟩), .pointer (some ⟨b2, 0, none⟩)] .returning w fun e u' w' => e = .returned (.tuple #[]) ∧ u' = .returning ∧ Ext w w' := by
  refine callsD_of_wpS Tryz.func132 rfl fun c₀ cs hu => ?_
  apply wpS_seq
  apply wpS_region
  simp [wpOpsS, go_sem, recoverD, hu, Tryz.ntmps132, Exit.thenS]
  refine wpS_of_wp ?_
  simp only [Array.replicate, List.reduceReplicate, List.setIfInBounds_toArray, List.set_cons_succ, List.set_cons_zero, List.append_toArray, List.cons_append, List.nil_append]
  have hta := taT_miss
  go_wp2_with fail
  refine ⟨rfl, .returning, ?_, _, results_none rfl _ _ _, rfl, rfl, (Ext.refl w).alloc _⟩
  cases c₀
  cases hu
  rfl

theorem resultT (tmps : Array Value) (w : World) (b b2 : Nat) (x y z : Value) (r : Int) (hp : tmps.getD 4 undef = .pointer (some ⟨b, 0, none⟩)) (hp2 : tmps.getD 5 undef = .pointer (some ⟨b2, 0, none⟩)) (hc : Cx w b 0 x ∧ Cx w b 1 y ∧ Cx w b 2 z) (hr : Cx w b2 0 (.int .i64 r)) :
    (results Tryz.f92 tmps).run Tryz.prog w = .ok (.tuple #[.agg #[x, y, z], .int .i64 r]) w := by
  have hp' : tmps[4]?.getD undef = .pointer (some ⟨b, 0, none⟩) := by simpa using hp
  have hp2' : tmps[5]?.getD undef = .pointer (some ⟨b2, 0, none⟩) := by simpa using hp2
  simp [results, Tryz.results92, go_sem, hp', hp2', hc.1.1, hc.2.1.1, hc.2.2.1, hr.1]

/-- What a step of the engine asks for. -/
def ImpFit (p : List GFunc) (s : GState) : Prop := OpFit p s ∧ FarFit p (advG s) (opAt p (curX s)).kind ∧ 0 ≤ (opAt p (curX s)).kind ∧ (opAt p (curX s)).kind ≤ 16

theorem stepTurn_any (p : List GFunc) (v : Value) (S T : Nat → Prop) (s : GState) (vs : Value) (w : World) (hp : Funcs w S v p) (hs : StateV w T vs s) (hf : FewS s) (hfit : s.now < 0 ∨ ImpFit p s) :
    Calls Tryz.prog 92 #[v, vs] w fun e w' => (∃ x, e = .returned (.tuple #[x, .int .i64 (stepG p s).1]) ∧ StateO w' w.heap.size x (stepG p s).2) ∧ Ext w w' := by
  have HP := Lib.hid hp
  have HS := Lib.hid hs
  obtain ⟨a, c, b, d, rfl⟩ := hs.few
  obtain ⟨ap, capp, rfl, _, _, _⟩ := hp
  have RA := alloc_keep
  have hmf : ∀ (fn : Fn) (first cap : Array Value) (w : World), (Instr.makeFunc fn first cap).run Tryz.prog w = .ok (.func fn first cap) w := fun _ _ _ _ => rfl
  obtain ⟨W1, hW1⟩ : ∃ W1, W1 = ((w.alloc (.cells #[.slice a s.fibers.length c, .int .i64 s.now, .slice b s.out.length d] 58)).alloc (.cells #[.slice none 0 0, .int .i64 0, .slice none 0 0] 58)).alloc (.cells #[.int .i64 0] 22) := ⟨_, rfl⟩
  have hz1 : (w.alloc (.cells #[.slice a s.fibers.length c, .int .i64 s.now, .slice b s.out.length d] 58)).heap.size = w.heap.size + 1 := Array.size_push _
  have hz2 : ((w.alloc (.cells #[.slice a s.fibers.length c, .int .i64 s.now, .slice b s.out.length d] 58)).alloc (.cells #[.slice none 0 0, .int .i64 0, .slice none 0 0] 58)).heap.size = w.heap.size + 2 := by simp
  have hx1 : Ext (w.alloc (.cells #[.slice a s.fibers.length c, .int .i64 s.now, .slice b s.out.length d] 58)) W1 := by rw [hW1]; exact ((Ext.refl _).alloc _).alloc _
  have hx2 : Ext ((w.alloc (.cells #[.slice a s.fibers.length c, .int .i64 s.now, .slice b s.out.length d] 58)).alloc (.cells #[.slice none 0 0, .int .i64 0, .slice none 0 0] 58)) W1 := by rw [hW1]; exact (Ext.refl _).alloc _
  have s0 := (Cx.new w [.slice a s.fibers.length c, .int .i64 s.now, .slice b s.out.length d] 58 (j := 0) rfl).ext hx1
  have s1 := (Cx.new w [.slice a s.fibers.length c, .int .i64 s.now, .slice b s.out.length d] 58 (j := 1) rfl).ext hx1
  have s2 := (Cx.new w [.slice a s.fibers.length c, .int .i64 s.now, .slice b s.out.length d] 58 (j := 2) rfl).ext hx1
  have r0 := (Cx.new (w.alloc (.cells #[.slice a s.fibers.length c, .int .i64 s.now, .slice b s.out.length d] 58)) [.slice none 0 0, .int .i64 0, .slice none 0 0] 58 (j := 0) rfl).ext hx2
  have r1 := (Cx.new (w.alloc (.cells #[.slice a s.fibers.length c, .int .i64 s.now, .slice b s.out.length d] 58)) [.slice none 0 0, .int .i64 0, .slice none 0 0] 58 (j := 1) rfl).ext hx2
  have r2 := (Cx.new (w.alloc (.cells #[.slice a s.fibers.length c, .int .i64 s.now, .slice b s.out.length d] 58)) [.slice none 0 0, .int .i64 0, .slice none 0 0] 58 (j := 2) rfl).ext hx2
  have re : Cx W1 (w.heap.size + 2) 0 (.int .i64 0) := by rw [hW1, ← hz2]; exact Cx.new _ [.int .i64 0] _ (j := 0) rfl
  rw [hz1] at r0 r1 r2
  have hE1 : Ext w W1 := by rw [hW1]; exact (((Ext.refl w).alloc _).alloc _).alloc _
  have hS1 : W1.heap.size = w.heap.size + 3 := by rw [hW1]; simp
  have HR := Lib.hid (⟨r0, r1, r2, re⟩ : _ ∧ _ ∧ _ ∧ _)
  have HSS := Lib.hid (⟨s0, s1, s2⟩ : _ ∧ _ ∧ _)
  have HE1 := Lib.hid hE1
  have HS1 := Lib.hid hS1
  clear hz1 hz2 hx1 hx2 s0 s1 s2 r0 r1 r2 re hE1 hS1
  by_cases hn : s.now < 0
  · have T1 : decide (s.now < 0) = true := decide_eq_true hn
    have HG : Hid (stepG p s = (8, ⟨[], 0, []⟩)) := by unfold Hid stepG; rw [if_pos hn]
    clear hn
    obtain ⟨⟨r0, r0'⟩, ⟨r1, r1'⟩, ⟨r2, r2'⟩, ⟨re, re'⟩⟩ := HR.out
    obtain ⟨⟨s0, s0'⟩, ⟨s1, s1'⟩, ⟨s2, s2'⟩⟩ := HSS.out
    have hfin := Lib.hid (box3 ⟨r0, r0'⟩ ⟨r1, r1'⟩ ⟨r2, r2'⟩ (.slice none 0 0) (.int .i64 0) (.slice none 0 0))
    go_enter_defers Tryz.func92, Tryz.ntmps92
    go_upto_region 1 with fail
    rw [← hW1]
    clear hW1
    go_wp2_with fail
    rw [HG.out]
    have q := HR.out
    have hce : Cx ((((W1.setCell ⟨w.heap.size + 1, 0, none⟩ (.slice none 0 0)).setCell ⟨w.heap.size + 1, 1, none⟩ (.int .i64 0)).setCell ⟨w.heap.size + 1, 2, none⟩ (.slice none 0 0)).setCell ⟨w.heap.size + 2, 0, none⟩ (.int .i64 8)) (w.heap.size + 2) 0 (.int .i64 8) :=
      (((q.2.2.2.other (.inl (by omega)) _).other (.inl (by omega)) _).other (.inl (by omega)) _).set _
    refine ⟨_, resultT _ _ (w.heap.size + 1) (w.heap.size + 2) (.slice none 0 0) (.int .i64 0) (.slice none 0 0) 8 rfl rfl ⟨?_, ?_, ?_⟩ hce, ⟨_, rfl, stateO_nil _ _⟩, ?_⟩
    · exact (((q.1.set _).other (.inr (by decide)) _).other (.inr (by decide)) _).other (.inl (by omega)) _
    · exact (((q.2.1.other (.inr (by decide)) _).set _).other (.inr (by decide)) _).other (.inl (by omega)) _
    · exact (((q.2.2.1.other (.inr (by decide)) _).other (.inr (by decide)) _).set _).other (.inl (by omega)) _
    · exact (((HE1.out.setCell (p := ⟨w.heap.size + 1, 0, none⟩) (Nat.le_succ _) _).setCell (p := ⟨w.heap.size + 1, 1, none⟩) (Nat.le_succ _) _).setCell (p := ⟨w.heap.size + 1, 2, none⟩) (Nat.le_succ _) _).setCell (p := ⟨w.heap.size + 2, 0, none⟩) (by show w.heap.size ≤ w.heap.size + 2; omega) _
  · have T1 : decide (s.now < 0) = false := decide_eq_false hn
    obtain ⟨hop, hfar, hkk⟩ := hfit.resolve_left hn
    have HOP := Lib.hid hop
    have HFAR := Lib.hid hfar
    have HKK := Lib.hid hkk
    have HFEW := Lib.hid hf
    have HNN := Lib.hid hn
    have HST1 := Lib.hid (StateV.stays (Ext.stays HE1.out) HS.out)
    have HP1 := Lib.hid (Funcs.stays (Ext.stays HE1.out) HP.out)
    clear hn hop hfar hkk hf hfit
    obtain ⟨⟨s0, s0'⟩, ⟨s1, s1'⟩, ⟨s2, s2'⟩⟩ := HSS.out
    go_enter_defers Tryz.func92, Tryz.ntmps92
    go_upto_region 1 with fail
    rw [← hW1]
    clear hW1
    go_upto_region 5 with (first
      | (go_at_call 91; (with_reducible refine (own_any s _ T _ HST1.out HFEW.out).mono ?_); rintro e w2 ⟨⟨P, rfl, hO, hg⟩, hx2⟩; obtain ⟨av, cv, ev, _, _⟩ := hO.row.shape; obtain ⟨ao, co, eo, _, _⟩ := hO.out.shape; rw [ev, eo]; have HO := Lib.hid hO; have HGP := Lib.hid hg; have HX2 := Lib.hid hx2; have HEV := Lib.hid ev; have HEO := Lib.hid eo; clear hO hg hx2 ev eo))
    clear s0 s0' s1 s1' s2 s2' HSS HST1
    obtain ⟨W3, hW3⟩ : ∃ W3, W3 = w2.alloc (.cells #[.slice av P.fs.length cv, .int .i64 P.now, .slice ao P.out.length co] 58) := ⟨_, rfl⟩
    have c0 : Cx W3 w2.heap.size 0 (.slice av P.fs.length cv) := by rw [hW3]; exact Cx.new w2 [.slice av P.fs.length cv, .int .i64 P.now, .slice ao P.out.length co] _ (j := 0) rfl
    have c1 : Cx W3 w2.heap.size 1 (.int .i64 P.now) := by rw [hW3]; exact Cx.new w2 [.slice av P.fs.length cv, .int .i64 P.now, .slice ao P.out.length co] _ (j := 1) rfl
    have c2 : Cx W3 w2.heap.size 2 (.slice ao P.out.length co) := by rw [hW3]; exact Cx.new w2 [.slice av P.fs.length cv, .int .i64 P.now, .slice ao P.out.length co] _ (j := 2) rfl
    have hE23 : Ext w2 W3 := by rw [hW3]; exact (Ext.refl _).alloc _
    have hOS : OwnS W3 W1.heap.size w2.heap.size P := (HO.out.ext hE23).box (by rw [HEV.out]; exact c0) c1 (by rw [HEO.out]; exact c2) HX2.out.size (fun hm => by have := HO.out.lt _ hm; omega)
    have HOS := Lib.hid hOS
    have HE13 := Lib.hid (HX2.out.trans hE23)
    simp only [← hW3]
    have HB2 : Hid (W1.heap.size ≤ w2.heap.size) := HX2.out.size
    clear hW3 c0 c1 c2 hE23 hOS HO HX2 HEV HEO
    generalize w2.heap.size = bo at *
    go_upto_region 6 with fail
    obtain ⟨W4, hW4⟩ : ∃ W4, W4 = W3.alloc (.cells #[.pointer (some ⟨bo, 0, none⟩), .slice ap p.length capp] 178) := ⟨_, rfl⟩
    have e0 : Cx W4 W3.heap.size 0 (.pointer (some ⟨bo, 0, none⟩)) := by rw [hW4]; exact Cx.new W3 [.pointer (some ⟨bo, 0, none⟩), .slice ap p.length capp] _ (j := 0) rfl
    have e1 : Cx W4 W3.heap.size 1 (.slice ap p.length capp) := by rw [hW4]; exact Cx.new W3 [.pointer (some ⟨bo, 0, none⟩), .slice ap p.length capp] _ (j := 1) rfl
    have hE34 : Ext W3 W4 := by rw [hW4]; exact (Ext.refl _).alloc _
    have HEN : Hid (EngS W4 W1.heap.size bo W3.heap.size p ap capp P) := ⟨HOS.out.ext hE34, ⟨e0, e1⟩, fun hm => by have := HOS.out.lt _ hm; omega⟩
    have HE14 := Lib.hid (HE13.out.trans hE34)
    have HPF := Lib.hid (Funcs.stays (stays_below HE14.out (Nat.le_refl _)) HP1.out)
    simp only [← hW4]
    clear hW4 e0 e1 hE34 HOS HE13 HP1
    generalize W3.heap.size = eb at *
    have q := HR.out
    have hs1 := HS1.out
    have hoff : ∀ (bb j : Nat) (u : Value) (w9 : World), Cx W1 bb j u → bb < W1.heap.size → Chg (· ∈ bo :: P.bl) W4 w9 → Cx w9 bb j u := fun bb j u w9 h hb hc => (h.ext HE14.out).chg hc (fun hm => by have := HEN.out.own.ge _ hm; omega)
    have HOFF := Lib.hid hoff
    have hfew : FewS P.g := by rw [HGP.out]; exact HFEW.out
    have hopp : OpFit p P.g := by rw [HGP.out]; exact HOP.out
    have hfrr : FarFit p (advG P.g) (opAt p (curX P.g)).kind := by rw [HGP.out]; exact HFAR.out
    have hkkk : 0 ≤ (opAt p (curX P.g)).kind ∧ (opAt p (curX P.g)).kind ≤ 16 := by rw [HGP.out]; exact HKK.out
    have hdo := engDo_any HEN.out HPF.out hfew hopp hfrr hkkk
    rw [HGP.out] at hdo
    have HDO := Lib.hid hdo
    clear q hs1 hoff hfew hopp hfrr hkkk hdo
    obtain ⟨r, hr⟩ : ∃ r, (doneG p s).1 = r := ⟨_, rfl⟩
    have HRR := Lib.hid hr
    clear hr
    by_cases hz : r = 0
    · have HZ : Hid (endS r = .returned (.tuple #[])) := by unfold Hid endS; rw [if_pos hz]
      have HG : Hid (stepG p s = (0, (doneG p s).2)) := by unfold Hid stepG; rw [if_neg (show ¬ s.now < 0 by have := HNN.out; omega), if_pos (HRR.out.trans hz)]
      have HRZ : Hid ((doneG p s).1 = 0) := HRR.out.trans hz
      clear hz
      go_upto_region 7 with (first
        | (go_at_call 133; (refine (HDO.out).mono ?_); rintro e w5 ⟨he, d5⟩; rw [HRR.out, HZ.out] at he; subst he))
      obtain ⟨⟨P5, o5, g5, s5⟩, ch5⟩ := d5.turn HRZ.out
      obtain ⟨av5, cv5, ev5, _, _⟩ := o5.row.shape
      obtain ⟨ao5, co5, eo5, _, _⟩ := o5.out.shape
      obtain ⟨k0, k0'⟩ := o5.c0
      obtain ⟨k1, k1'⟩ := o5.c1
      obtain ⟨k2, k2'⟩ := o5.c2
      rw [ev5] at k0
      rw [eo5] at k2
      have q := HR.out
      have hs1 := HS1.out
      have hR5 := Lib.hid (⟨HOFF.out _ _ _ _ q.1 (by omega) ch5, HOFF.out _ _ _ _ q.2.1 (by omega) ch5, HOFF.out _ _ _ _ q.2.2.1 (by omega) ch5, HOFF.out _ _ _ _ q.2.2.2 (by omega) ch5⟩ : _ ∧ _ ∧ _ ∧ _)
      obtain ⟨⟨r0, r0'⟩, ⟨r1, r1'⟩, ⟨r2, r2'⟩, ⟨re, re'⟩⟩ := hR5.out
      have O5 := Lib.hid o5
      have G5 := Lib.hid g5
      have CH5 := Lib.hid ch5
      have EV5 := Lib.hid ev5
      have EO5 := Lib.hid eo5
      clear o5 g5 s5 ch5 ev5 eo5 d5 q hs1
      go_wp2_with fail
      refine leaves_cons (f := 132) (args := #[.pointer (some ⟨w.heap.size + 1, 0, none⟩), .pointer (some ⟨w.heap.size + 1 + 1, 0, none⟩)]) (by simp) (by simp [go_sem]) ?_
      refine (catchT_idle (w.heap.size + 1) (w.heap.size + 1 + 1) _).mono ?_
      rintro e u' w6 ⟨rfl, rfl, hx6⟩
      have q := hR5.out
      have hs1 := HS1.out
      obtain ⟨W5, hW5⟩ : ∃ W5, W5 = (((w5.setCell ⟨w.heap.size + 1, 0, none⟩ (.slice av5 P5.fs.length cv5)).setCell ⟨w.heap.size + 1, 1, none⟩ (.int .i64 P5.now)).setCell ⟨w.heap.size + 1, 2, none⟩ (.slice ao5 P5.out.length co5)).setCell ⟨w.heap.size + 2, 0, none⟩ (.int .i64 0) := ⟨_, rfl⟩
      have hx6 : Ext W5 w6 := by rw [hW5]; exact hx6
      have hch : Chg (fun k => k = w.heap.size + 1 ∨ k = w.heap.size + 2) w5 W5 := by rw [hW5]; exact ((chg3 w5 (w.heap.size + 1) _ _ _).mono (fun k _ h => .inl h)).trans ((chg_one _ (w.heap.size + 2) 0 _).mono (fun k _ h => .inr h))
      rw [HG.out]
      refine ⟨_, resultT _ _ (w.heap.size + 1) (w.heap.size + 2) (.slice av5 P5.fs.length cv5) (.int .i64 P5.now) (.slice ao5 P5.out.length co5) 0 rfl rfl ⟨Cx.ext ?_ hx6, Cx.ext ?_ hx6, Cx.ext ?_ hx6⟩ (Cx.ext ?_ hx6), ⟨_, rfl, P5, by rw [EV5.out, EO5.out], ?_, G5.out⟩, ?_⟩
      · rw [hW5]; exact (((q.1.set _).other (.inr (by decide)) _).other (.inr (by decide)) _).other (.inl (by omega)) _
      · rw [hW5]; exact (((q.2.1.other (.inr (by decide)) _).set _).other (.inr (by decide)) _).other (.inl (by omega)) _
      · rw [hW5]; exact (((q.2.2.1.other (.inr (by decide)) _).other (.inr (by decide)) _).set _).other (.inl (by omega)) _
      · rw [hW5]; exact (((q.2.2.2.other (.inl (by omega)) _).other (.inl (by omega)) _).other (.inl (by omega)) _).set _
      · exact ((O5.out.rows.chg hch (fun k hk e => by have := O5.out.ge k (List.mem_cons_of_mem _ hk); rcases e with e | e <;> omega)).ext hx6).mono (by omega)
      · refine (Chg.ext_from (Chg.ext_from (HE1.out.trans HE14.out) CH5.out (fun k hm => ?_)) hch (fun k e => ?_)).trans hx6
        · have := HEN.out.own.ge k hm; omega
        · rcases e with e | e <;> omega
    · have HZ : Hid (endS r = .panicked (refusalS r)) := by unfold Hid endS; rw [if_neg hz]
      have HG : Hid (stepG p s = (r, ⟨[], 0, []⟩)) := by unfold Hid stepG; rw [if_neg (show ¬ s.now < 0 by have := HNN.out; omega), if_neg (fun h => hz (HRR.out.symm.trans h)), HRR.out]
      clear hz
      go_wp2_with (first
        | (go_at_call 133; (refine (HDO.out).mono ?_); rintro e w5 ⟨he, d5⟩; rw [HRR.out, HZ.out] at he; subst he))
      have q := HR.out
      have hs1 := HS1.out
      have ch5 := d5.chg
      have hR5 := Lib.hid (⟨HOFF.out _ _ _ _ q.1 (by omega) ch5, HOFF.out _ _ _ _ q.2.1 (by omega) ch5, HOFF.out _ _ _ _ q.2.2.1 (by omega) ch5, HOFF.out _ _ _ _ q.2.2.2 (by omega) ch5⟩ : _ ∧ _ ∧ _ ∧ _)
      refine leaves_cons (f := 132) (args := #[.pointer (some ⟨w.heap.size + 1, 0, none⟩), .pointer (some ⟨w.heap.size + 1 + 1, 0, none⟩)]) (by simp) (by simp [go_sem]) ?_
      refine (catchT_panicking (w.heap.size + 1) (w.heap.size + 1 + 1) r 0 _ _ _ [] _ hR5.out.1 hR5.out.2.1 hR5.out.2.2.1 hR5.out.2.2.2 (by omega)).mono ?_
      rintro e u' w6 ⟨rfl, rfl, ⟨k0, k1, k2, ke⟩, hch⟩
      have hset : settle (.panicking ({ v := .iface 173 (.agg #[.int .i64 r]), recovered := true } :: ([] : List PanicEntry))) = .returning := by simp [settle]
      show Leaves _ _ _ _ [] (settle _) _
      rw [hset, HG.out]
      refine ⟨_, resultT _ _ (w.heap.size + 1) (w.heap.size + 2) _ _ _ r rfl rfl ⟨k0, k1, k2⟩ ke, ⟨_, rfl, stateO_nil _ _⟩, ?_⟩
      refine Chg.ext_from (Chg.ext_from (HE1.out.trans HE14.out) ch5 (fun k hm => ?_)) hch (fun k e => ?_)
      · have := HEN.out.own.ge k hm; omega
      · rcases e with e | e <;> omega
end Go.Proofs.YtpcjkfppacnkgaaGreatDoor
end
