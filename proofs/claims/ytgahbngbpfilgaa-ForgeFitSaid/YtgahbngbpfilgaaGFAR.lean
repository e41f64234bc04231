/- Merged texts: contracts and plain facts, one part behind another; each part begins with what it says. -/
import Derived.Test.YtgahbngbpfilgaaGFAH
import Derived.Test.YtgahbngbpfilgaaGFAI
import Derived.Test.YtgahbngbpfilgaaGFAQ
section
/- A state in own memory turned into another: contract of the document's done. -/
set_option maxHeartbeats 4000000
set_option maxRecDepth 100000
namespace Go.Proofs.Ytgahbngbpfilgaa
open Go Go.RowKit

theorem OwnS.ge {W : World} {B b : Nat} {P : PState} (h : OwnS W B b P) : ∀ g ∈ b :: P.bl, B ≤ g := by
  intro g hg
  rcases List.mem_cons.1 hg with rfl | hg
  · exact h.le
  · unfold PState.bl at hg
    rcases List.mem_append.1 hg with h1 | h1
    · rcases List.mem_append.1 h1 with h2 | h2
      · exact h.row.le g (by simpa using h2)
      · exact h.out.le g (by simpa using h2)
    · obtain ⟨y, hy, h2⟩ := List.mem_flatMap.1 h1
      unfold PFiber.bl at h2
      rcases List.mem_append.1 h2 with h3 | h3
      · exact (h.fs y hy).row.le g (by simpa using h3)
      · obtain ⟨x, hx, h4⟩ := List.mem_flatMap.1 h3
        unfold PFrame.bl at h4
        rcases List.mem_append.1 h4 with h5 | h5
        · exact ((h.fs y hy).fr x hx).l.le g (by simpa using h5)
        · exact ((h.fs y hy).fr x hx).s.le g (by simpa using h5)
theorem curF_frames (s : GState) (h : HasTop s s.now) (g : GFrame → GFrame) : (curF (modTop s s.now g)).frames.length = (curF s).frames.length := by
  unfold modTop
  rw [curF_mod s ⟨h.1, h.2.1⟩]
  simp
theorem FewS.cur {s : GState} (h : FewS s) (ht : HasTop s s.now) : (curF s).frames.length < 1000 := by
  have hm : curF s ∈ s.fibers := by
    unfold curF
    rw [List.getD_eq_getElem?_getD, List.getElem?_eq_getElem (by have := ht.1; have := ht.2.1; omega)]
    exact List.getElem_mem _
  have := (h.2.2 _ hm).1
  omega

theorem repl_same {P : PState} {L R : List PFiber} {y : PFiber} {F : List PFrame} {x x' : PFrame} (hs : Spot P L y R F x) (h : x'.bl = x.bl) : ∀ g ∈ (replTop P L y R F x').bl, g ∈ P.bl := by
  intro g hg
  rcases repl_bl (n := g + 1) hs (fun k hk => .inl (h ▸ hk)) g hg with h1 | h1
  · exact h1
  · omega
theorem done_ok {p : List GFunc} {w W4 w' : World} {B b : Nat} {P P1 : PState} {k a : Int} {r : Int × GState} (hD : doneG p P.g = workG p P1.g k a) (hw : workG p P1.g k a = r) (c : Chg (· ∈ b :: P.bl) w W4) (bl : ∀ k ∈ P1.bl, k ∈ P.bl) (d : Did W4 w' B b P1 r) :
    (doneG p P.g).1 = r.1 ∧ Did w w' B b P (doneG p P.g) := by
  rw [hD, hw]
  exact ⟨rfl, Did.step c (fun k hk => .inl (bl k hk)) d⟩
theorem reck_i64 (k a b : Int) : I64 (reckG k a b) := by
  have hw : ∀ n, I64 (wrap64 n) := fun n => by unfold I64 wrap64; omega
  have ht : ∀ t, I64 (truthG t) := fun t => by cases t <;> (unfold I64 truthG; decide)
  unfold reckG
  split
  · exact hw _
  · split
    · exact hw _
    · split
      · exact hw _
      · split <;> exact ht _
end Go.Proofs.Ytgahbngbpfilgaa
end
section
/- Contract of the document's waits and fresh. -/
set_option maxHeartbeats 4000000
set_option maxRecDepth 100000
namespace Go.Proofs.Ytgahbngbpfilgaa
open Go Go.RowKit

end Go.Proofs.Ytgahbngbpfilgaa
end
section
/- Contract of the document's fiberFine. -/
set_option maxHeartbeats 4000000
set_option maxRecDepth 100000
namespace Go.Proofs.Ytgahbngbpfilgaa
open Go Go.RowKit

/-- A frame in its cells. -/
structure FrameAt (w : World) (b o : Nat) (x : GFrame) (vl vs : Value) : Prop where
  f : w.cell? ⟨b, o, none⟩ = some (.int .i64 x.func)
  a : w.cell? ⟨b, o + 1, none⟩ = some (.int .i64 x.at_)
  l : w.cell? ⟨b, o + 2, none⟩ = some vl
  s : w.cell? ⟨b, o + 3, none⟩ = some vs
theorem FrameAt.ext {w w' : World} {b o : Nat} {x : GFrame} {vl vs : Value} (h : FrameAt w b o x vl vs) (he : Ext w w') : FrameAt w' b o x vl vs := ⟨Ext.cell he h.f, Ext.cell he h.a, Ext.cell he h.l, Ext.cell he h.s⟩
theorem Frames.at' {w : World} {S : Nat → Prop} {a : Option Addr} {fs : List GFrame} {n c : Nat} (h : Frames w S (.slice a n c) fs) {k : Nat} (hk : k < fs.length) :
    ∃ b o al cl as_ cs, a = some ⟨b, o, none⟩ ∧ FrameAt w b (o + k * 4) (fs.getD k default) (.slice al (fs.getD k default).locals.length cl) (.slice as_ (fs.getD k default).stack.length cs) ∧
      FrameV w S (.agg #[.int .i64 (fs.getD k default).func, .int .i64 (fs.getD k default).at_, .slice al (fs.getD k default).locals.length cl, .slice as_ (fs.getD k default).stack.length cs]) (fs.getD k default) := by
  have e : fs.getD k default = fs[k] := by simp [List.getD, List.getElem?_eq_getElem hk]
  rw [e]
  obtain ⟨b, o, c', e1, _, _, ⟨_, x0, i0⟩, ⟨_, x1, i1⟩, ⟨vl, x2, hl⟩, ⟨vs, x3, hs⟩⟩ := h.get hk
  simp only [Value.slice.injEq] at e1
  obtain ⟨rfl, -, rfl⟩ := e1
  have hl2 := hl
  have hs2 := hs
  obtain ⟨al, cl, rfl, _, _, _⟩ := hl
  obtain ⟨as_, cs, rfl, _, _, _⟩ := hs
  exact ⟨b, o, al, cl, as_, cs, rfl, ⟨x0, x1, x2, x3⟩, _, _, rfl, i0, i1, hl2, hs2⟩

end Go.Proofs.Ytgahbngbpfilgaa
end
section
/- Contract of the document's StateError. -/
set_option maxHeartbeats 4000000
set_option maxRecDepth 100000
namespace Go.Proofs.Ytgahbngbpfilgaa
open Go Go.RowKit

theorem Fibers.at' {w : World} {S : Nat → Prop} {a : Option Addr} {fs : List GFiber} {n c : Nat} (h : Fibers w S (.slice a n c) fs) {k : Nat} (hk : k < fs.length) :
    ∃ b o af cf, a = some ⟨b, o, none⟩ ∧ w.cell? ⟨b, o + k * 2, none⟩ = some (.slice af (fs.getD k default).frames.length cf) ∧ w.cell? ⟨b, o + k * 2 + 1, none⟩ = some (.int .i64 (fs.getD k default).caller) ∧
      FiberV w S (.agg #[.slice af (fs.getD k default).frames.length cf, .int .i64 (fs.getD k default).caller]) (fs.getD k default) := by
  have e : fs.getD k default = fs[k] := by simp [List.getD, List.getElem?_eq_getElem hk]
  rw [e]
  obtain ⟨b, o, c', e1, _, _, ⟨vf, x0, hf⟩, ⟨_, x1, i1⟩⟩ := h.get hk
  simp only [Value.slice.injEq] at e1
  obtain ⟨rfl, -, rfl⟩ := e1
  have hf2 := hf
  obtain ⟨af, cf, rfl, _, _, _⟩ := hf
  exact ⟨b, o, af, cf, rfl, x0, x1, _, rfl, hf2, i1⟩

end Go.Proofs.Ytgahbngbpfilgaa
end
