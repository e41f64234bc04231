/-
  No cell of these rows narrows 'for every input' (looked for: loops, veiled, ifaces, maps, wideKeys, modest, calm, conditions, laid).
  DERIVED. THE GIVEN ROWS OF THIS SEAT. 10 by the template 'for every input the law returns true; each argument reads behind the call as it read before'; 0 by the template 'total and deterministic' (their statements: YtpiechbjponicaaTotals.lean).
  GIVEN WITH THE SEED: the statements are not yours to turn. If you find one false, say at which input.
  Laid BY PROGRAM, IN A SANDBOX (cutbox-rows.mjs): the forced cells as the released guide's own fill.sh prints them over the translation 9f21303e84a1a4a2… (all of the seat's roots in one cut). By AI agents, Wed Nov 11 2026. No macro, syntax, notation, axiom, sorry.
-/
import Derived.Test.YtpiechbjponicaaChecked
import GoSem.Claim
import GoSem.ClaimJoined
import GoSem.ClaimMapViews
import Derived.JoinedTies
import Derived.KernelRfl
namespace Go.Proofs.Ytpiechbjponicaa
/- THE CELL 'sum', in the pinned program and in every row, IS THE sha256 OF THE DUMP (.gsa) THAT YtpiechbjponicaaProg.lean LOADS. Nothing in Lean hashes anything: it is a label: what it is worth is what the hold of that sum in a sandbox is worth. -/
noncomputable def Try.pinned : Pinned := { name := "ytpiechbjponicaa", sum := "9f21303e84a1a4a2a7aef4684adb9efb4c0d133ce7567e6087203544cf33341f", checked := Try.checked }
namespace Rows
def none {H : Type} : Left H := { results := [], args := [] }

/-- 'glebelaw.OpTells': WHATEVER THE INPUT: true; the input reads as it did. -/
def opTellsSpec : ChangeSpec := { name := "opTells", fn := fun _ => fun
  | [d1, d2] => { results := [.lit (.bool true)], args := [d1, d2] }
  | _ => none }
def opTellsRow : OpenClaim := { program := "ytpiechbjponicaa", sum := "9f21303e84a1a4a2a7aef4684adb9efb4c0d133ce7567e6087203544cf33341f", func := "glebe/glebelaw.OpTells", spec := "opTells", unfollowed := true, recurses := true, apart := false }
def OpTellsSaid : Prop := opTellsRow.holds Try.pinned (OpenSpec.ofChange opTellsSpec)

/-- ITS FALSE NEIGHBOUR: 'it returns false'. Refute it at one input. -/
def opTellsWrong : ChangeSpec := { name := "opTells", fn := fun _ => fun
  | [d1, d2] => { results := [.lit (.bool false)], args := [d1, d2] }
  | _ => none }
def OpTellsWrongFalsely : Prop := opTellsRow.holds Try.pinned (OpenSpec.ofChange opTellsWrong)

/-- 'glebelaw.OpChecks': WHATEVER THE INPUT: true; the input reads as it did. -/
def opChecksSpec : ChangeSpec := { name := "opChecks", fn := fun _ => fun
  | [d1, d2] => { results := [.lit (.bool true)], args := [d1, d2] }
  | _ => none }
def opChecksRow : OpenClaim := { program := "ytpiechbjponicaa", sum := "9f21303e84a1a4a2a7aef4684adb9efb4c0d133ce7567e6087203544cf33341f", func := "glebe/glebelaw.OpChecks", spec := "opChecks", unfollowed := true, recurses := true, apart := false }
def OpChecksSaid : Prop := opChecksRow.holds Try.pinned (OpenSpec.ofChange opChecksSpec)

/-- ITS FALSE NEIGHBOUR: 'it returns false'. Refute it at one input. -/
def opChecksWrong : ChangeSpec := { name := "opChecks", fn := fun _ => fun
  | [d1, d2] => { results := [.lit (.bool false)], args := [d1, d2] }
  | _ => none }
def OpChecksWrongFalsely : Prop := opChecksRow.holds Try.pinned (OpenSpec.ofChange opChecksWrong)

/-- 'glebelaw.OpTrue': WHATEVER THE INPUT: true; the input reads as it did. -/
def opTrueSpec : ChangeSpec := { name := "opTrue", fn := fun _ => fun
  | [d1, d2, d3] => { results := [.lit (.bool true)], args := [d1, d2, d3] }
  | _ => none }
def opTrueRow : OpenClaim := { program := "ytpiechbjponicaa", sum := "9f21303e84a1a4a2a7aef4684adb9efb4c0d133ce7567e6087203544cf33341f", func := "glebe/glebelaw.OpTrue", spec := "opTrue", unfollowed := true, recurses := true, apart := false }
def OpTrueSaid : Prop := opTrueRow.holds Try.pinned (OpenSpec.ofChange opTrueSpec)

/-- ITS FALSE NEIGHBOUR: 'it returns false'. Refute it at one input. -/
def opTrueWrong : ChangeSpec := { name := "opTrue", fn := fun _ => fun
  | [d1, d2, d3] => { results := [.lit (.bool false)], args := [d1, d2, d3] }
  | _ => none }
def OpTrueWrongFalsely : Prop := opTrueRow.holds Try.pinned (OpenSpec.ofChange opTrueWrong)

/-- 'glebelaw.ExprTells': WHATEVER THE INPUT: true; the input reads as it did. -/
def exprTellsSpec : ChangeSpec := { name := "exprTells", fn := fun _ => fun
  | [d1, d2, d3] => { results := [.lit (.bool true)], args := [d1, d2, d3] }
  | _ => none }
def exprTellsRow : OpenClaim := { program := "ytpiechbjponicaa", sum := "9f21303e84a1a4a2a7aef4684adb9efb4c0d133ce7567e6087203544cf33341f", func := "glebe/glebelaw.ExprTells", spec := "exprTells", recurses := true, apart := false }
def ExprTellsSaid : Prop := exprTellsRow.holds Try.pinned (OpenSpec.ofChange exprTellsSpec)

/-- ITS FALSE NEIGHBOUR: 'it returns false'. Refute it at one input. -/
def exprTellsWrong : ChangeSpec := { name := "exprTells", fn := fun _ => fun
  | [d1, d2, d3] => { results := [.lit (.bool false)], args := [d1, d2, d3] }
  | _ => none }
def ExprTellsWrongFalsely : Prop := exprTellsRow.holds Try.pinned (OpenSpec.ofChange exprTellsWrong)

/-- 'glebelaw.ExprTrue': WHATEVER THE INPUT: true; the input reads as it did. -/
def exprTrueSpec : ChangeSpec := { name := "exprTrue", fn := fun _ => fun
  | [d1, d2, d3] => { results := [.lit (.bool true)], args := [d1, d2, d3] }
  | _ => none }
def exprTrueRow : OpenClaim := { program := "ytpiechbjponicaa", sum := "9f21303e84a1a4a2a7aef4684adb9efb4c0d133ce7567e6087203544cf33341f", func := "glebe/glebelaw.ExprTrue", spec := "exprTrue", recurses := true, apart := false }
def ExprTrueSaid : Prop := exprTrueRow.holds Try.pinned (OpenSpec.ofChange exprTrueSpec)

/-- ITS FALSE NEIGHBOUR: 'it returns false'. Refute it at one input. -/
def exprTrueWrong : ChangeSpec := { name := "exprTrue", fn := fun _ => fun
  | [d1, d2, d3] => { results := [.lit (.bool false)], args := [d1, d2, d3] }
  | _ => none }
def ExprTrueWrongFalsely : Prop := exprTrueRow.holds Try.pinned (OpenSpec.ofChange exprTrueWrong)

/-- 'glebelaw.FlowHeights': WHATEVER THE INPUT: true; the input reads as it did. -/
def flowHeightsSpec : ChangeSpec := { name := "flowHeights", fn := fun _ => fun
  | [d1, d2] => { results := [.lit (.bool true)], args := [d1, d2] }
  | _ => none }
def flowHeightsRow : OpenClaim := { program := "ytpiechbjponicaa", sum := "9f21303e84a1a4a2a7aef4684adb9efb4c0d133ce7567e6087203544cf33341f", func := "glebe/glebelaw.FlowHeights", spec := "flowHeights", unfollowed := true, recurses := true, apart := false }
def FlowHeightsSaid : Prop := flowHeightsRow.holds Try.pinned (OpenSpec.ofChange flowHeightsSpec)

/-- ITS FALSE NEIGHBOUR: 'it returns false'. Refute it at one input. -/
def flowHeightsWrong : ChangeSpec := { name := "flowHeights", fn := fun _ => fun
  | [d1, d2] => { results := [.lit (.bool false)], args := [d1, d2] }
  | _ => none }
def FlowHeightsWrongFalsely : Prop := flowHeightsRow.holds Try.pinned (OpenSpec.ofChange flowHeightsWrong)

/-- 'glebelaw.FlowSame': WHATEVER THE INPUT: true; the input reads as it did. -/
def flowSameSpec : ChangeSpec := { name := "flowSame", fn := fun _ => fun
  | [d1, d2] => { results := [.lit (.bool true)], args := [d1, d2] }
  | _ => none }
def flowSameRow : OpenClaim := { program := "ytpiechbjponicaa", sum := "9f21303e84a1a4a2a7aef4684adb9efb4c0d133ce7567e6087203544cf33341f", func := "glebe/glebelaw.FlowSame", spec := "flowSame", unfollowed := true, recurses := true, apart := false }
def FlowSameSaid : Prop := flowSameRow.holds Try.pinned (OpenSpec.ofChange flowSameSpec)

/-- ITS FALSE NEIGHBOUR: 'it returns false'. Refute it at one input. -/
def flowSameWrong : ChangeSpec := { name := "flowSame", fn := fun _ => fun
  | [d1, d2] => { results := [.lit (.bool false)], args := [d1, d2] }
  | _ => none }
def FlowSameWrongFalsely : Prop := flowSameRow.holds Try.pinned (OpenSpec.ofChange flowSameWrong)

/-- 'glebelaw.FlowTrue': WHATEVER THE INPUT: true; the input reads as it did. -/
def flowTrueSpec : ChangeSpec := { name := "flowTrue", fn := fun _ => fun
  | [d1, d2, d3] => { results := [.lit (.bool true)], args := [d1, d2, d3] }
  | _ => none }
def flowTrueRow : OpenClaim := { program := "ytpiechbjponicaa", sum := "9f21303e84a1a4a2a7aef4684adb9efb4c0d133ce7567e6087203544cf33341f", func := "glebe/glebelaw.FlowTrue", spec := "flowTrue", unfollowed := true, recurses := true, apart := false }
def FlowTrueSaid : Prop := flowTrueRow.holds Try.pinned (OpenSpec.ofChange flowTrueSpec)

/-- ITS FALSE NEIGHBOUR: 'it returns false'. Refute it at one input. -/
def flowTrueWrong : ChangeSpec := { name := "flowTrue", fn := fun _ => fun
  | [d1, d2, d3] => { results := [.lit (.bool false)], args := [d1, d2, d3] }
  | _ => none }
def FlowTrueWrongFalsely : Prop := flowTrueRow.holds Try.pinned (OpenSpec.ofChange flowTrueWrong)

/-- 'glebelaw.ProgTells': WHATEVER THE INPUT: true; the input reads as it did. -/
def progTellsSpec : ChangeSpec := { name := "progTells", fn := fun _ => fun
  | [d1, d2] => { results := [.lit (.bool true)], args := [d1, d2] }
  | _ => none }
def progTellsRow : OpenClaim := { program := "ytpiechbjponicaa", sum := "9f21303e84a1a4a2a7aef4684adb9efb4c0d133ce7567e6087203544cf33341f", func := "glebe/glebelaw.ProgTells", spec := "progTells", unfollowed := true, recurses := true, apart := false }
def ProgTellsSaid : Prop := progTellsRow.holds Try.pinned (OpenSpec.ofChange progTellsSpec)

/-- ITS FALSE NEIGHBOUR: 'it returns false'. Refute it at one input. -/
def progTellsWrong : ChangeSpec := { name := "progTells", fn := fun _ => fun
  | [d1, d2] => { results := [.lit (.bool false)], args := [d1, d2] }
  | _ => none }
def ProgTellsWrongFalsely : Prop := progTellsRow.holds Try.pinned (OpenSpec.ofChange progTellsWrong)

/-- 'glebelaw.ProgTrue': WHATEVER THE INPUT: true; the input reads as it did. -/
def progTrueSpec : ChangeSpec := { name := "progTrue", fn := fun _ => fun
  | [d1, d2, d3] => { results := [.lit (.bool true)], args := [d1, d2, d3] }
  | _ => none }
def progTrueRow : OpenClaim := { program := "ytpiechbjponicaa", sum := "9f21303e84a1a4a2a7aef4684adb9efb4c0d133ce7567e6087203544cf33341f", func := "glebe/glebelaw.ProgTrue", spec := "progTrue", unfollowed := true, recurses := true, apart := false }
def ProgTrueSaid : Prop := progTrueRow.holds Try.pinned (OpenSpec.ofChange progTrueSpec)

/-- ITS FALSE NEIGHBOUR: 'it returns false'. Refute it at one input. -/
def progTrueWrong : ChangeSpec := { name := "progTrue", fn := fun _ => fun
  | [d1, d2, d3] => { results := [.lit (.bool false)], args := [d1, d2, d3] }
  | _ => none }
def ProgTrueWrongFalsely : Prop := progTrueRow.holds Try.pinned (OpenSpec.ofChange progTrueWrong)

/- THE SECOND FORM. 'bulk': how many values and letters a reading holds, each counted each time it is reached (what is shared counts as often as it is met; a slice's spare places count too). A statement '..UptoSaid' is the law's where the arguments, and the package variables that the reading takes, are together of bulk at most 1048576: NARROWER than '..Said'. Prove '..Said' where nothing that the law and all that it calls make is longer than what came in: it says more and counts as full. Else prove '..UptoSaid'. A law counts once. -/
mutual
def uptoBulk {H : Type} : DataW H → Nat
  | .lit (.string bytes) => bytes.length + 1
  | .lit _ => 1
  | .nil => 1
  | .ptr d => uptoBulk d + 1
  | .slice elems spare => uptoBulkAll elems + uptoBulkAll spare + 1
  | .agg parts => uptoBulkAll parts + 1
  | .iface _ d => uptoBulk d + 1
  | .map entries => uptoBulkEntries entries + 1
  | .held _ => 1
def uptoBulkAll {H : Type} : List (DataW H) → Nat
  | [] => 0
  | d :: r => uptoBulk d + uptoBulkAll r
def uptoBulkEntries {H : Type} : List (Lit × DataW H) → Nat
  | [] => 0
  | x :: r => uptoBulkEntry x + uptoBulkEntries r
def uptoBulkEntry {H : Type} : Lit × DataW H → Nat
  | (.string bytes, d) => bytes.length + uptoBulk d + 1
  | (_, d) => uptoBulk d + 1
 end
def uptoSmall : (H : Type) → List (DataW H) → Bool := fun _ ds => decide (uptoBulkAll ds ≤ 1048576)
def OpenSpec.upto (s : _root_.Go.ChangeSpec) : _root_.Go.OpenSpec := { _root_.Go.OpenSpec.ofChange s with cond := some uptoSmall }

/-- 'glebelaw.OpTells', WHERE WHAT IT READS IS OF BULK AT MOST 1048576: true; the input reads as it did. -/
def opTellsUptoRow : OpenClaim := { program := "ytpiechbjponicaa", sum := "9f21303e84a1a4a2a7aef4684adb9efb4c0d133ce7567e6087203544cf33341f", func := "glebe/glebelaw.OpTells", spec := "opTells", unfollowed := true, recurses := true, apart := false, narrowed := true }
def OpTellsUptoSaid : Prop := opTellsUptoRow.holds Try.pinned (OpenSpec.upto opTellsSpec)

/-- 'glebelaw.OpChecks', WHERE WHAT IT READS IS OF BULK AT MOST 1048576: true; the input reads as it did. -/
def opChecksUptoRow : OpenClaim := { program := "ytpiechbjponicaa", sum := "9f21303e84a1a4a2a7aef4684adb9efb4c0d133ce7567e6087203544cf33341f", func := "glebe/glebelaw.OpChecks", spec := "opChecks", unfollowed := true, recurses := true, apart := false, narrowed := true }
def OpChecksUptoSaid : Prop := opChecksUptoRow.holds Try.pinned (OpenSpec.upto opChecksSpec)

/-- 'glebelaw.OpTrue', WHERE WHAT IT READS IS OF BULK AT MOST 1048576: true; the input reads as it did. -/
def opTrueUptoRow : OpenClaim := { program := "ytpiechbjponicaa", sum := "9f21303e84a1a4a2a7aef4684adb9efb4c0d133ce7567e6087203544cf33341f", func := "glebe/glebelaw.OpTrue", spec := "opTrue", unfollowed := true, recurses := true, apart := false, narrowed := true }
def OpTrueUptoSaid : Prop := opTrueUptoRow.holds Try.pinned (OpenSpec.upto opTrueSpec)

/-- 'glebelaw.ExprTells', WHERE WHAT IT READS IS OF BULK AT MOST 1048576: true; the input reads as it did. -/
def exprTellsUptoRow : OpenClaim := { program := "ytpiechbjponicaa", sum := "9f21303e84a1a4a2a7aef4684adb9efb4c0d133ce7567e6087203544cf33341f", func := "glebe/glebelaw.ExprTells", spec := "exprTells", recurses := true, apart := false, narrowed := true }
def ExprTellsUptoSaid : Prop := exprTellsUptoRow.holds Try.pinned (OpenSpec.upto exprTellsSpec)

/-- 'glebelaw.ExprTrue', WHERE WHAT IT READS IS OF BULK AT MOST 1048576: true; the input reads as it did. -/
def exprTrueUptoRow : OpenClaim := { program := "ytpiechbjponicaa", sum := "9f21303e84a1a4a2a7aef4684adb9efb4c0d133ce7567e6087203544cf33341f", func := "glebe/glebelaw.ExprTrue", spec := "exprTrue", recurses := true, apart := false, narrowed := true }
def ExprTrueUptoSaid : Prop := exprTrueUptoRow.holds Try.pinned (OpenSpec.upto exprTrueSpec)

/-- 'glebelaw.FlowHeights', WHERE WHAT IT READS IS OF BULK AT MOST 1048576: true; the input reads as it did. -/
def flowHeightsUptoRow : OpenClaim := { program := "ytpiechbjponicaa", sum := "9f21303e84a1a4a2a7aef4684adb9efb4c0d133ce7567e6087203544cf33341f", func := "glebe/glebelaw.FlowHeights", spec := "flowHeights", unfollowed := true, recurses := true, apart := false, narrowed := true }
def FlowHeightsUptoSaid : Prop := flowHeightsUptoRow.holds Try.pinned (OpenSpec.upto flowHeightsSpec)

/-- 'glebelaw.FlowSame', WHERE WHAT IT READS IS OF BULK AT MOST 1048576: true; the input reads as it did. -/
def flowSameUptoRow : OpenClaim := { program := "ytpiechbjponicaa", sum := "9f21303e84a1a4a2a7aef4684adb9efb4c0d133ce7567e6087203544cf33341f", func := "glebe/glebelaw.FlowSame", spec := "flowSame", unfollowed := true, recurses := true, apart := false, narrowed := true }
def FlowSameUptoSaid : Prop := flowSameUptoRow.holds Try.pinned (OpenSpec.upto flowSameSpec)

/-- 'glebelaw.FlowTrue', WHERE WHAT IT READS IS OF BULK AT MOST 1048576: true; the input reads as it did. -/
def flowTrueUptoRow : OpenClaim := { program := "ytpiechbjponicaa", sum := "9f21303e84a1a4a2a7aef4684adb9efb4c0d133ce7567e6087203544cf33341f", func := "glebe/glebelaw.FlowTrue", spec := "flowTrue", unfollowed := true, recurses := true, apart := false, narrowed := true }
def FlowTrueUptoSaid : Prop := flowTrueUptoRow.holds Try.pinned (OpenSpec.upto flowTrueSpec)

/-- 'glebelaw.ProgTells', WHERE WHAT IT READS IS OF BULK AT MOST 1048576: true; the input reads as it did. -/
def progTellsUptoRow : OpenClaim := { program := "ytpiechbjponicaa", sum := "9f21303e84a1a4a2a7aef4684adb9efb4c0d133ce7567e6087203544cf33341f", func := "glebe/glebelaw.ProgTells", spec := "progTells", unfollowed := true, recurses := true, apart := false, narrowed := true }
def ProgTellsUptoSaid : Prop := progTellsUptoRow.holds Try.pinned (OpenSpec.upto progTellsSpec)

/-- 'glebelaw.ProgTrue', WHERE WHAT IT READS IS OF BULK AT MOST 1048576: true; the input reads as it did. -/
def progTrueUptoRow : OpenClaim := { program := "ytpiechbjponicaa", sum := "9f21303e84a1a4a2a7aef4684adb9efb4c0d133ce7567e6087203544cf33341f", func := "glebe/glebelaw.ProgTrue", spec := "progTrue", unfollowed := true, recurses := true, apart := false, narrowed := true }
def ProgTrueUptoSaid : Prop := progTrueUptoRow.holds Try.pinned (OpenSpec.upto progTrueSpec)

end Rows
end Go.Proofs.Ytpiechbjponicaa
