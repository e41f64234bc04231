/- Merged texts: contracts and plain facts, one part behind another; each part begins with what it says. -/
import Derived.Test.YtfajkebkhdcapaaGUAI
import Derived.Test.YtfajkebkhdcapaaGUAJ
import Derived.Test.YtfajkebkhdcapaaGUAS
section
/- Contract of the document's waits and fresh. -/
set_option maxHeartbeats 4000000
set_option maxRecDepth 100000
namespace Go.Proofs.Ytfajkebkhdcapaa
open Go Go.RowKit

end Go.Proofs.Ytfajkebkhdcapaa
end
section
/- Contract of the document's fiberFine. -/
set_option maxHeartbeats 4000000
set_option maxRecDepth 100000
namespace Go.Proofs.Ytfajkebkhdcapaa
open Go Go.RowKit

/-- A frame in its cells. -/
structure FrameAt (w : World) (b o : Nat) (x : GFrame) (vl vs : Value) : Prop where
  f : w.cell? ⟨b, o, none⟩ = some (.int .i64 x.func)
  a : w.cell? ⟨b, o + 1, none⟩ = some (.int .i64 x.at_)
  l : w.cell? ⟨b, o + 2, none⟩ = some vl
  s : w.cell? ⟨b, o + 3, none⟩ = some vs
theorem FrameAt.ext {w w' : World} {b o : Nat} {x : GFrame} {vl vs : Value} (h : FrameAt w b o x vl vs) (he : Ext w w') : FrameAt w' b o x vl vs := ⟨Ext.cell he h.f, Ext.cell he h.a, Ext.cell he h.l, Ext.cell he h.s⟩
theorem Frames.at' {w : World} {S : Nat → Prop} {a : Option Addr} {fs : List GFrame} {n c : Nat} (h : Frames w S (.slice a n c) fs) {k : Nat} (hk : k < fs.length) :
    ∃ b o al cl as_ cs, a = some ⟨b, o, none⟩ ∧ FrameAt w b (o + k * 4) (fs.getD k default) (.slice al (fs.getD k default).locals.length cl) (.slice as_ (fs.getD k default).stack.length cs) ∧
      FrameV w S (.agg #[.int .i64 (fs.getD k default).func, .int .i64 (fs.getD k default).at_, .slice al (fs.getD k default).locals.length cl, .slice as_ (fs.getD k default).stack.length cs]) (fs.getD k default) := by
  have e : fs.getD k default = fs[k] := by simp [List.getD, List.getElem?_eq_getElem hk]
  rw [e]
  obtain ⟨b, o, c', e1, _, _, ⟨_, x0, i0⟩, ⟨_, x1, i1⟩, ⟨vl, x2, hl⟩, ⟨vs, x3, hs⟩⟩ := h.get hk
  simp only [Value.slice.injEq] at e1
  obtain ⟨rfl, -, rfl⟩ := e1
  have hl2 := hl
  have hs2 := hs
  obtain ⟨al, cl, rfl, _, _, _⟩ := hl
  obtain ⟨as_, cs, rfl, _, _, _⟩ := hs
  exact ⟨b, o, al, cl, as_, cs, rfl, ⟨x0, x1, x2, x3⟩, _, _, rfl, i0, i1, hl2, hs2⟩

end Go.Proofs.Ytfajkebkhdcapaa
end
section
/- Contract of the document's StateError. -/
set_option maxHeartbeats 4000000
set_option maxRecDepth 100000
namespace Go.Proofs.Ytfajkebkhdcapaa
open Go Go.RowKit

theorem Fibers.at' {w : World} {S : Nat → Prop} {a : Option Addr} {fs : List GFiber} {n c : Nat} (h : Fibers w S (.slice a n c) fs) {k : Nat} (hk : k < fs.length) :
    ∃ b o af cf, a = some ⟨b, o, none⟩ ∧ w.cell? ⟨b, o + k * 2, none⟩ = some (.slice af (fs.getD k default).frames.length cf) ∧ w.cell? ⟨b, o + k * 2 + 1, none⟩ = some (.int .i64 (fs.getD k default).caller) ∧
      FiberV w S (.agg #[.slice af (fs.getD k default).frames.length cf, .int .i64 (fs.getD k default).caller]) (fs.getD k default) := by
  have e : fs.getD k default = fs[k] := by simp [List.getD, List.getElem?_eq_getElem hk]
  rw [e]
  obtain ⟨b, o, c', e1, _, _, ⟨vf, x0, hf⟩, ⟨_, x1, i1⟩⟩ := h.get hk
  simp only [Value.slice.injEq] at e1
  obtain ⟨rfl, -, rfl⟩ := e1
  have hf2 := hf
  obtain ⟨af, cf, rfl, _, _, _⟩ := hf
  exact ⟨b, o, af, cf, rfl, x0, x1, _, rfl, hf2, i1⟩

end Go.Proofs.Ytfajkebkhdcapaa
end
section
/- The document's OwnState: a state laid anew in own memory. No condition. -/
set_option maxHeartbeats 4000000
set_option maxRecDepth 100000
namespace Go.Proofs.Ytfajkebkhdcapaa
open Go Go.RowKit

/-- The rows of a state of own memory, without its box. -/
structure OwnR (W : World) (B : Nat) (P : PState) : Prop where
  i : I64 P.now ∧ ∀ n ∈ P.out, I64 n
  row : RowAt W B 2 P.vfs P.fs.length (P.fs.flatMap fiberF)
  out : RowAt W B 1 P.vo P.out.length (ints P.out)
  fs : ∀ y ∈ P.fs, FiberO W B y
  few : P.fs.length ≤ 1000 ∧ P.out.length ≤ 1000
  nodup : P.bl.Nodup
theorem OwnS.rows {W : World} {B b : Nat} {P : PState} (h : OwnS W B b P) : OwnR W B P := ⟨h.i, h.row, h.out, h.fs, h.few, (List.nodup_cons.1 h.nodup).2⟩
theorem OwnR.ext {W W' : World} {B : Nat} {P : PState} (h : OwnR W B P) (he : Ext W W') : OwnR W' B P :=
  ⟨h.i, h.row.ext he (by decide), h.out.ext he (by decide), fun y hy => (h.fs y hy).chg (M := fun _ => False) (Chg.of_ext he) (fun _ _ h => h), h.few, h.nodup⟩
theorem FrameO.mono {W : World} {B B' : Nat} {x : PFrame} (h : FrameO W B x) (hb : B' ≤ B) : FrameO W B' x := ⟨h.i, h.l.mono hb, h.s.mono hb, h.few⟩
theorem FiberO.mono {W : World} {B B' : Nat} {y : PFiber} (h : FiberO W B y) (hb : B' ≤ B) : FiberO W B' y := ⟨h.i, h.row.mono hb, fun x hx => (h.fr x hx).mono hb, h.few⟩
theorem OwnR.mono {W : World} {B B' : Nat} {P : PState} (h : OwnR W B P) (hb : B' ≤ B) : OwnR W B' P := ⟨h.i, h.row.mono hb, h.out.mono hb, fun y hy => (h.fs y hy).mono hb, h.few, h.nodup⟩
theorem OwnR.lt {W : World} {B : Nat} {P : PState} (h : OwnR W B P) : ∀ g ∈ P.bl, g < W.heap.size := by
  intro g hg
  unfold PState.bl at hg
  rcases List.mem_append.1 hg with h1 | h1
  · rcases List.mem_append.1 h1 with h2 | h2
    · exact h.row.lt2 (by decide) g (by simpa using h2)
    · exact h.out.lt2 (by decide) g (by simpa using h2)
  · obtain ⟨y, hy, h2⟩ := List.mem_flatMap.1 h1
    exact (h.fs y hy).lt g h2
/-- Rows and a box make a state of own memory. -/
theorem OwnR.box {W : World} {B b : Nat} {P : PState} (h : OwnR W B P) (c0 : Cx W b 0 P.vfs) (c1 : Cx W b 1 (.int .i64 P.now)) (c2 : Cx W b 2 P.vo) (hb : B ≤ b) (hn : b ∉ P.bl) : OwnS W B b P :=
  ⟨c0, c1, c2, h.i, h.row, h.out, h.fs, hb, h.few, List.nodup_cons.2 ⟨hn, h.nodup⟩⟩

theorem SrcSl.up {w w' : World} {size : Nat} {x : Value} {m : Nat} {news : List Value} (h : SrcSl w size x m news) (he : Ext w w') : SrcSl w' size x m news := by
  obtain ⟨a, c, rfl, h1, h2, h3⟩ := h
  refine ⟨a, c, rfl, h1, h2, h3.imp id fun ⟨ad, ha, hc⟩ => ⟨ad, ha, fun j u hj => ?_⟩⟩
  have hcj := hc j u hj
  rw [Ext.keep he _ (by rw [hcj]; rfl)]
  exact hcj

/-- A fiber that is being laid anew, its box f5. -/
structure BuildF (W : World) (base f5 : Nat) (Y : PFiber) : Prop where
  fo : FiberO W base Y
  nodup : Y.bl.Nodup
  c0 : Cx W f5 0 Y.vf
  c1 : Cx W f5 1 (.int .i64 Y.caller)

theorem BuildF.ge {W : World} {base f5 : Nat} {Y : PFiber} (h : BuildF W base f5 Y) : ∀ k ∈ Y.bl, base ≤ k := fun k hk => by
  unfold PFiber.bl at hk
  rcases List.mem_append.1 hk with h1 | h1
  · exact h.fo.row.le k (by simpa using h1)
  · obtain ⟨x, hx, h2⟩ := List.mem_flatMap.1 h1
    unfold PFrame.bl at h2
    rcases List.mem_append.1 h2 with h3 | h3
    · exact (h.fo.fr x hx).l.le k (by simpa using h3)
    · exact (h.fo.fr x hx).s.le k (by simpa using h3)
end Go.Proofs.Ytfajkebkhdcapaa
end
