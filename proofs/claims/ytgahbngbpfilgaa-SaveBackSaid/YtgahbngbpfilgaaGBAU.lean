/- Merged texts: contracts and plain facts, one part behind another; each part begins with what it says. -/
import Derived.Test.YtgahbngbpfilgaaGBAJ
import Derived.Test.YtgahbngbpfilgaaGBAP
import Derived.Test.YtgahbngbpfilgaaGBAS
import Derived.Test.YtgahbngbpfilgaaGBAT
import Derived.Deep.Slices
import Derived.Recover
import Derived.Tactics2
section
/- Fibers and frames as they came, and a row of them that is being copied part by part. No condition. -/
set_option maxHeartbeats 4000000
set_option maxRecDepth 100000
namespace Go.Proofs.Ytgahbngbpfilgaa
open Go Go.RowKit

instance : Inhabited PFrame := ⟨⟨default, .slice none 0 0, .slice none 0 0⟩⟩
instance : Inhabited PFiber := ⟨⟨[], 0, .slice none 0 0⟩⟩

theorem Sl.choose {α β : Type} [Inhabited β] {E : Nat → Nat → α → Prop} {R : Nat → Nat → α → β → Prop} {sz bytes : Nat} {v : Value} {l : List α} (h : Sl E sz bytes v l) (hR : ∀ b o x, E b o x → ∃ y, R b o x y) :
    ∃ ys : List β, ys.length = l.length ∧ Sl (fun b o y => ∃ x, R b o x y) sz bytes v ys ∧ ∀ i (hi : i < l.length), ∃ b o, R b o l[i] (ys.getD i default) := by
  obtain ⟨a, cap, rfl, h1, h2, h3⟩ := h
  have key : ∀ i, i < l.length → ∃ y : β, ∀ hi : i < l.length, ∃ b o, a = some ⟨b, o, none⟩ ∧ R b (o + i * sz) l[i] y := fun i hi => by
    obtain ⟨b, o, e, he⟩ := h3 i hi
    obtain ⟨y, hy⟩ := hR _ _ _ he
    exact ⟨y, fun _ => ⟨b, o, e, hy⟩⟩
  obtain ⟨Z, hZ⟩ := Go.Deep.choose_lt key
  refine ⟨(List.range l.length).map Z, by simp, ⟨a, cap, by simp, by simpa using h1, by simpa using h2, fun i hi => ?_⟩, fun i hi => ?_⟩
  · have hi' : i < l.length := by simpa using hi
    obtain ⟨b, o, e, hr⟩ := hZ i hi' hi'
    exact ⟨b, o, e, l[i], by simpa using hr⟩
  · obtain ⟨b, o, e, hr⟩ := hZ i hi hi
    refine ⟨b, o + i * sz, ?_⟩
    simpa [List.getD, List.getElem?_eq_getElem, hi] using hr

/-- Frames, the first ones copied. -/
structure MidF (W : World) (B : Nat) (v : Value) (dn rs : List PFrame) : Prop where
  row : RowAt W B 4 v (dn ++ rs).length ((dn ++ rs).flatMap frameF)
  fr : ∀ x ∈ dn, FrameO W B x
  nodup : ((rowBlock v).toList ++ dn.flatMap PFrame.bl).Nodup
/-- Fibers, the first ones copied. -/
structure MidB (W : World) (B : Nat) (v : Value) (dn rs : List PFiber) : Prop where
  row : RowAt W B 2 v (dn ++ rs).length ((dn ++ rs).flatMap fiberF)
  fs : ∀ y ∈ dn, FiberO W B y
  nodup : ((rowBlock v).toList ++ dn.flatMap PFiber.bl).Nodup
theorem MidF.chg {M : Nat → Prop} {W W' : World} {B : Nat} {v : Value} {dn rs : List PFrame} (h : MidF W B v dn rs) (hc : Chg M W W') (hM : ∀ g, B ≤ g → ¬ M g) : MidF W' B v dn rs :=
  ⟨h.row.chg hc (fun g hg => hM g (h.row.le g hg)) (by decide), fun x hx => (h.fr x hx).chg hc (fun g hg => hM g (by
    have hx' := h.fr x hx
    unfold PFrame.bl at hg
    rcases List.mem_append.1 hg with h1 | h1
    · exact hx'.l.le g (by simpa using h1)
    · exact hx'.s.le g (by simpa using h1))), h.nodup⟩
theorem MidF.new {W : World} {B : Nat} {v : Value} {rs : List PFrame} (h : RowAt W B 4 v rs.length (rs.flatMap frameF)) : MidF W B v [] rs :=
  ⟨h, (fun x hx => by cases hx), by cases rowBlock v <;> simp⟩
theorem MidB.new {W : World} {B : Nat} {v : Value} {rs : List PFiber} (h : RowAt W B 2 v rs.length (rs.flatMap fiberF)) : MidB W B v [] rs :=
  ⟨h, (fun x hx => by cases hx), by cases rowBlock v <;> simp⟩

theorem MidF.step {wr W1 W2 : World} {B g o n cap : Nat} {dn rs : List PFrame} {x : PFrame} {v1 v2 : Value} (h : MidF wr B (.slice (some ⟨g, o, none⟩) n cap) dn (x :: rs)) (hB : B ≤ wr.heap.size) (h1 : Ext wr W1) (h2 : Ext W1 W2)
    (r1 : RowAt W1 wr.heap.size 1 v1 x.f.locals.length (ints x.f.locals)) (r2 : RowAt W2 W1.heap.size 1 v2 x.f.stack.length (ints x.f.stack))
    (hI : I64 x.f.func ∧ I64 x.f.at_ ∧ (∀ k ∈ x.f.locals, I64 k) ∧ ∀ k ∈ x.f.stack, I64 k) (hf : x.f.locals.length ≤ 900 ∧ x.f.stack.length ≤ 900) :
    MidF ((W2.setCell ⟨g, o + dn.length * 4 + 2, none⟩ v1).setCell ⟨g, o + dn.length * 4 + 3, none⟩ v2) B (.slice (some ⟨g, o, none⟩) n cap) (dn ++ [⟨x.f, v1, v2⟩]) rs ∧
      Chg (· = g) wr ((W2.setCell ⟨g, o + dn.length * 4 + 2, none⟩ v1).setCell ⟨g, o + dn.length * 4 + 3, none⟩ v2) := by
  have hE := h1.trans h2
  obtain ⟨g', o', cap', e, hbl, _, _, _⟩ := RowAt.place frameF (fun _ => rfl) h.row
  simp only [Value.slice.injEq, Option.some.injEq, Addr.mk.injEq] at e
  obtain ⟨⟨rfl, rfl, -⟩, -, rfl⟩ := e
  have hgl : g < wr.heap.size := h.row.lt2 (by decide) g hbl
  have hc : Chg (· = g) W2 ((W2.setCell ⟨g, o + dn.length * 4 + 2, none⟩ v1).setCell ⟨g, o + dn.length * 4 + 3, none⟩ v2) := (chg_one _ _ _ _).trans (chg_one _ _ _ _)
  have hcw : Chg (· = g) wr ((W2.setCell ⟨g, o + dn.length * 4 + 2, none⟩ v1).setCell ⟨g, o + dn.length * 4 + 3, none⟩ v2) := (Chg.of_ext hE).trans hc
  have b1 : ∀ k, rowBlock v1 = some k → wr.heap.size ≤ k ∧ k < W1.heap.size := fun k hk => ⟨r1.le k hk, r1.lt2 (by decide) k hk⟩
  have b2 : ∀ k, rowBlock v2 = some k → W1.heap.size ≤ k := fun k hk => r2.le k hk
  have hs1 := h1.size
  refine ⟨⟨?_, fun z hz => ?_, ?_⟩, hcw⟩
  · have e1 := (h.row.ext hE (by decide)).storeAt frameF (fun _ => rfl) (L := dn) (y := x) (y' := ⟨x.f, v1, x.vs⟩) (R := rs) (r := 2) (by decide) (u := v1) rfl
    have e2 := e1.storeAt frameF (fun _ => rfl) (L := dn) (y := ⟨x.f, v1, x.vs⟩) (y' := ⟨x.f, v1, v2⟩) (R := rs) (r := 3) (by decide) (u := v2) rfl
    rw [show dn ++ [⟨x.f, v1, v2⟩] ++ rs = dn ++ ⟨x.f, v1, v2⟩ :: rs by simp]
    exact e2
  · rcases List.mem_append.1 hz with hz | hz
    · refine (h.fr z hz).chg hcw fun k hk e => ?_
      have e : k = g := e
      subst e
      exact (List.nodup_append.1 h.nodup).2.2 k (by simp [hbl]) k (List.mem_flatMap.2 ⟨z, hz, hk⟩) rfl
    · obtain rfl := List.mem_singleton.1 hz
      refine ⟨hI, ?_, ?_, by show x.f.locals.length ≤ 1000 ∧ x.f.stack.length ≤ 1000; omega⟩
      · exact ((r1.mono hB).ext h2 (by decide)).chg hc (fun k hk e => by have e : k = g := e; have := b1 k hk; omega) (by decide)
      · exact (r2.mono (Nat.le_trans hB hs1)).chg hc (fun k hk e => by have e : k = g := e; have := b2 k hk; omega) (by decide)
  · rw [List.flatMap_append, ← List.append_assoc, List.nodup_append]
    refine ⟨h.nodup, ?_, fun a ha c hc' e => ?_⟩
    · simp only [List.flatMap_cons, List.flatMap_nil, List.append_nil]
      unfold PFrame.bl
      rw [List.nodup_append]
      refine ⟨by cases rowBlock v1 <;> simp, by cases rowBlock v2 <;> simp, fun a ha c hc' e => ?_⟩
      subst e
      have h3 := b1 a (by simpa using ha)
      have h4 := b2 a (by simpa using hc')
      omega
    · subst e
      have hold : a < wr.heap.size := by
        rcases List.mem_append.1 ha with h3 | h3
        · exact h.row.lt2 (by decide) a (by simpa using h3)
        · obtain ⟨z, hz, h4⟩ := List.mem_flatMap.1 h3
          exact (h.fr z hz).lt a h4
      simp only [List.flatMap_cons, List.flatMap_nil, List.append_nil] at hc'
      unfold PFrame.bl at hc'
      rcases List.mem_append.1 hc' with h3 | h3
      · have := b1 a (by simpa using h3); omega
      · have := b2 a (by simpa using h3); omega

theorem MidF.blocks {W : World} {B : Nat} {v : Value} {dn rs : List PFrame} (h : MidF W B v dn rs) : ∀ k ∈ (rowBlock v).toList ++ dn.flatMap PFrame.bl, B ≤ k := fun k hk => by
  rcases List.mem_append.1 hk with h1 | h1
  · exact h.row.le k (by simpa using h1)
  · obtain ⟨x, hx, h2⟩ := List.mem_flatMap.1 h1
    unfold PFrame.bl at h2
    rcases List.mem_append.1 h2 with h3 | h3
    · exact (h.fr x hx).l.le k (by simpa using h3)
    · exact (h.fr x hx).s.le k (by simpa using h3)
theorem MidB.step {wk wr : World} {B g o n cap : Nat} {dn rs : List PFiber} {y : PFiber} {vf : Value} {xs : List PFrame} (h : MidB wk B (.slice (some ⟨g, o, none⟩) n cap) dn (y :: rs)) (hB : B ≤ wk.heap.size) (hc : Chg (· = g) wk wr)
    (hrow : RowAt wr B 2 (.slice (some ⟨g, o, none⟩) n cap) (dn ++ ⟨[], y.caller, vf⟩ :: rs).length ((dn ++ ⟨[], y.caller, vf⟩ :: rs).flatMap fiberF)) (hm : MidF wr wk.heap.size vf xs []) (hI : I64 y.caller) (hx : xs.length ≤ 900) :
    MidB wr B (.slice (some ⟨g, o, none⟩) n cap) (dn ++ [⟨xs, y.caller, vf⟩]) rs := by
  obtain ⟨g', o', cap', e, hbl, _, _, _⟩ := RowAt.place fiberF (fun _ => rfl) h.row
  simp only [Value.slice.injEq, Option.some.injEq, Addr.mk.injEq] at e
  obtain ⟨⟨rfl, rfl, -⟩, -, rfl⟩ := e
  have hrow4 := hm.row
  rw [List.append_nil] at hrow4
  refine ⟨?_, fun z hz => ?_, ?_⟩
  · rw [show dn ++ [⟨xs, y.caller, vf⟩] ++ rs = dn ++ ⟨xs, y.caller, vf⟩ :: rs by simp]
    have e1 : (dn ++ ⟨xs, y.caller, vf⟩ :: rs).flatMap fiberF = (dn ++ (⟨[], y.caller, vf⟩ : PFiber) :: rs).flatMap fiberF := by
      rw [List.flatMap_append, List.flatMap_append, List.flatMap_cons, List.flatMap_cons]; rfl
    have e2 : (dn ++ ⟨xs, y.caller, vf⟩ :: rs).length = (dn ++ (⟨[], y.caller, vf⟩ : PFiber) :: rs).length := by simp
    rw [e1, e2]
    exact hrow
  · rcases List.mem_append.1 hz with hz | hz
    · refine (h.fs z hz).chg hc fun k hk e => ?_
      have e : k = g := e
      subst e
      exact (List.nodup_append.1 h.nodup).2.2 k (by simp [hbl]) k (List.mem_flatMap.2 ⟨z, hz, hk⟩) rfl
    · obtain rfl := List.mem_singleton.1 hz
      exact ⟨hI, hrow4.mono hB, fun u hu => (hm.fr u hu).mono hB, by show xs.length ≤ 1000; omega⟩
  · rw [List.flatMap_append, ← List.append_assoc, List.nodup_append]
    refine ⟨h.nodup, ?_, fun a ha c hc' e => ?_⟩
    · simp only [List.flatMap_cons, List.flatMap_nil, List.append_nil]
      exact hm.nodup
    · subst e
      have hold : a < wk.heap.size := by
        rcases List.mem_append.1 ha with h3 | h3
        · exact h.row.lt2 (by decide) a (by simpa using h3)
        · obtain ⟨z, hz, h4⟩ := List.mem_flatMap.1 h3
          exact (h.fs z hz).lt a h4
      simp only [List.flatMap_cons, List.flatMap_nil, List.append_nil] at hc'
      have := hm.blocks a hc'
      omega

end Go.Proofs.Ytgahbngbpfilgaa
end
section
/- A region that draws its order, as in RTailZ, with one operation more that looks at no memory and comes ahead of the last one. No condition. -/
set_option maxHeartbeats 400000
namespace Go.Proofs.Ytgahbngbpfilgaa
open Go

section
variable {P : Program} {md : Region.Mode} {ops : Array Oper} {Q : Exit → Act → World → Prop} {S : World → Prop} {z : Nat}

end
end Go.Proofs.Ytgahbngbpfilgaa
end
section
/- Contract of state.Own: a state of its own rows. -/
set_option maxHeartbeats 4000000
set_option maxRecDepth 100000
namespace Go.Proofs.Ytgahbngbpfilgaa
open Go Go.RowKit

end Go.Proofs.Ytgahbngbpfilgaa
end
section
/- Contract of step.Turn: what the engine throws is caught. -/
set_option maxHeartbeats 4000000
set_option maxRecDepth 100000
set_option linter.unusedSimpArgs false
namespace Go.Proofs.Ytgahbngbpfilgaa
open Go Go.RowKit

end Go.Proofs.Ytgahbngbpfilgaa
end
