/- Merged texts: contracts and plain facts, one part behind another; each part begins with what it says. -/
import Derived.Test.YtgahbngbpfilgaaGFAD
import Derived.Test.YtgahbngbpfilgaaGFAR
import Derived.Test.YtgahbngbpfilgaaGFAS
import Derived.StillTailTactics
import Derived.WalkSmall
section
/- The document's RunOf, of states that fit; after: a state that comes of count(). -/
set_option maxHeartbeats 4000000
set_option maxRecDepth 100000
namespace Go.Proofs.Ytgahbngbpfilgaa
open Go Go.RowKit

end Go.Proofs.Ytgahbngbpfilgaa
end
section
/- Contracts of slices.Index and slices.Contains at bools (of false), and of must: it panics where one is false. -/
set_option maxHeartbeats 2000000
set_option maxRecDepth 100000
namespace Go.Proofs.Ytgahbngbpfilgaa
open Go Go.RowKit

theorem Bools.at' {w : World} {S : Nat → Prop} {a : Option Addr} {l : List Bool} {n c : Nat} (h : Bools w S (.slice a n c) l) {m : Nat} (hm : m < l.length) : ∃ b o, a = some ⟨b, o, none⟩ ∧ w.cell? ⟨b, o + m, none⟩ = some (.bool l[m]) := by
  obtain ⟨b, o, _, e1, _, _, _, x0⟩ := h.get hm
  simp only [Value.slice.injEq] at e1
  obtain ⟨rfl, -, rfl⟩ := e1
  rw [Nat.mul_one] at x0
  exact ⟨b, o, rfl, x0⟩

end Go.Proofs.Ytgahbngbpfilgaa
end
section
/- Contracts of the judge's frame and waits. -/
set_option maxHeartbeats 4000000
set_option maxRecDepth 100000
set_option linter.unusedSimpArgs false
namespace Go.Proofs.Ytgahbngbpfilgaa
open Go Go.RowKit

/-- Heights of all functions, a slice of slices. -/
def HtsL (w : World) : Value → List (List Int) → Prop := Sl (fun b o l => ∃ v, w.cell? ⟨b, o, none⟩ = some v ∧ Ints w (fun _ => True) v l) 1 24
theorem HtsL.ext {w w' : World} {v : Value} {l : List (List Int)} (h : HtsL w v l) (he : Ext w w') : HtsL w' v l :=
  Sl.mono h fun _ _ _ ⟨v, h1, h2⟩ => ⟨v, Ext.cell he h1, Ints.stays (Ext.stays he) h2⟩

/-- A judge in its block. -/
structure Judge (w : World) (b : Nat) (p : List GFunc) (s : GState) (line : List Int) : Prop where
  fs : ∃ a c, w.cell? ⟨b, 0, none⟩ = some (.slice a s.fibers.length c) ∧ Fibers w (fun _ => True) (.slice a s.fibers.length c) s.fibers
  now : w.cell? ⟨b, 1, none⟩ = some (.int .i64 s.now)
  pr : ∃ a c, w.cell? ⟨b, 3, none⟩ = some (.slice a p.length c) ∧ Funcs w (fun _ => True) (.slice a p.length c) p
  hts : ∃ a c, w.cell? ⟨b, 4, none⟩ = some (.slice a p.length c) ∧ HtsL w (.slice a p.length c) ((List.range p.length).map (fun k : Nat => hgt p k))
  ln : ∃ a c, w.cell? ⟨b, 5, none⟩ = some (.slice a line.length c) ∧ Ints w (fun _ => True) (.slice a line.length c) line
theorem Judge.ext {w w' : World} {b : Nat} {p : List GFunc} {s : GState} {line : List Int} (h : Judge w b p s line) (he : Ext w w') : Judge w' b p s line := by
  obtain ⟨a1, c1, h1, h2⟩ := h.fs
  obtain ⟨a3, c3, h5, h6⟩ := h.pr
  obtain ⟨a4, c4, h7, h8⟩ := h.hts
  obtain ⟨a5, c5, h9, h10⟩ := h.ln
  exact ⟨⟨a1, c1, Ext.cell he h1, Fibers.stays (Ext.stays he) h2⟩, Ext.cell he h.now, ⟨a3, c3, Ext.cell he h5, Funcs.stays (Ext.stays he) h6⟩, ⟨a4, c4, Ext.cell he h7, h8.ext he⟩, ⟨a5, c5, Ext.cell he h9, Ints.stays (Ext.stays he) h10⟩⟩
theorem Judge.at' {w : World} {p : List GFunc} {a : Option Addr} {n c : Nat} (h : HtsL w (.slice a n c) ((List.range p.length).map (fun k : Nat => hgt p k))) {k : Nat} (hk : k < p.length) :
    ∃ b o a' c', a = some ⟨b, o, none⟩ ∧ w.cell? ⟨b, o + k, none⟩ = some (.slice a' (hgt p k).length c') ∧ Ints w (fun _ => True) (.slice a' (hgt p k).length c') (hgt p k) := by
  obtain ⟨b, o, _, e1, _, _, v, x0, hi⟩ := h.get (i := k) (by simpa using hk)
  simp only [Value.slice.injEq] at e1
  obtain ⟨rfl, -, -⟩ := e1
  rw [Nat.mul_one] at x0
  simp only [List.getElem_map, List.getElem_range] at hi
  have hi2 := hi
  obtain ⟨a', c', rfl, _, _, _⟩ := hi
  exact ⟨b, o, a', c', rfl, x0, hi2⟩

end Go.Proofs.Ytgahbngbpfilgaa
end
section
/- Contract of the judge's waits. -/
set_option maxHeartbeats 4000000
set_option maxRecDepth 100000
namespace Go.Proofs.Ytgahbngbpfilgaa
open Go Go.RowKit

end Go.Proofs.Ytgahbngbpfilgaa
end
