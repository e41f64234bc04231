/-
  No cell of these rows narrows 'for every input' (looked for: loops, veiled, ifaces, maps, wideKeys, modest, calm, conditions, laid).
  DERIVED. THE GIVEN ROWS OF THIS SEAT. 9 by the template 'for every input the law returns true; each argument reads behind the call as it read before'; 0 by the template 'total and deterministic' (their statements: YtfajkebkhdcapaaTotals.lean).
  GIVEN WITH THE SEED: the statements are not yours to turn. If you find one false, say at which input.
  Laid BY PROGRAM, IN A SANDBOX (cutbox-rows.mjs): the forced cells as the released guide's own fill.sh prints them over the translation 44fe41384f1591d0… (all of the seat's roots in one cut). By AI agents, Wed Nov 11 2026. No macro, syntax, notation, axiom, sorry.
-/
import Derived.Test.YtfajkebkhdcapaaChecked
import GoSem.Claim
import GoSem.ClaimJoined
import GoSem.ClaimMapViews
import Derived.JoinedTies
import Derived.KernelRfl
namespace Go.Proofs.Ytfajkebkhdcapaa
/- THE CELL 'sum', in the pinned program and in every row, IS THE sha256 OF THE DUMP (.gsa) THAT YtfajkebkhdcapaaProg.lean LOADS. Nothing in Lean hashes anything: it is a label: what it is worth is what the hold of that sum in a sandbox is worth. -/
noncomputable def Try.pinned : Pinned := { name := "ytfajkebkhdcapaa", sum := "44fe41384f1591d04145a767a81a243afc7228ddc8f915e1152ba5bf832ed23d", checked := Try.checked }
namespace Rows
def none {H : Type} : Left H := { results := [], args := [] }

/-- 'glebelaw.TrimSame': WHATEVER THE INPUT: true; the input reads as it did. -/
def trimSameSpec : ChangeSpec := { name := "trimSame", fn := fun _ => fun
  | [d1, d2] => { results := [.lit (.bool true)], args := [d1, d2] }
  | _ => none }
def trimSameRow : OpenClaim := { program := "ytfajkebkhdcapaa", sum := "44fe41384f1591d04145a767a81a243afc7228ddc8f915e1152ba5bf832ed23d", func := "glebe/glebelaw.TrimSame", spec := "trimSame", unfollowed := true, recurses := true, apart := false }
def TrimSameSaid : Prop := trimSameRow.holds Try.pinned (OpenSpec.ofChange trimSameSpec)

/-- ITS FALSE NEIGHBOUR: 'it returns false'. Refute it at one input. -/
def trimSameWrong : ChangeSpec := { name := "trimSame", fn := fun _ => fun
  | [d1, d2] => { results := [.lit (.bool false)], args := [d1, d2] }
  | _ => none }
def TrimSameWrongFalsely : Prop := trimSameRow.holds Try.pinned (OpenSpec.ofChange trimSameWrong)

/-- 'glebelaw.StepRight': WHATEVER THE INPUT: true; the input reads as it did. -/
def stepRightSpec : ChangeSpec := { name := "stepRight", fn := fun _ => fun
  | [d1, d2] => { results := [.lit (.bool true)], args := [d1, d2] }
  | _ => none }
def stepRightRow : OpenClaim := { program := "ytfajkebkhdcapaa", sum := "44fe41384f1591d04145a767a81a243afc7228ddc8f915e1152ba5bf832ed23d", func := "glebe/glebelaw.StepRight", spec := "stepRight", unfollowed := true, recurses := true, apart := false }
def StepRightSaid : Prop := stepRightRow.holds Try.pinned (OpenSpec.ofChange stepRightSpec)

/-- ITS FALSE NEIGHBOUR: 'it returns false'. Refute it at one input. -/
def stepRightWrong : ChangeSpec := { name := "stepRight", fn := fun _ => fun
  | [d1, d2] => { results := [.lit (.bool false)], args := [d1, d2] }
  | _ => none }
def StepRightWrongFalsely : Prop := stepRightRow.holds Try.pinned (OpenSpec.ofChange stepRightWrong)

/-- 'glebelaw.StepOne': WHATEVER THE INPUT: true; the input reads as it did. -/
def stepOneSpec : ChangeSpec := { name := "stepOne", fn := fun _ => fun
  | [d1, d2] => { results := [.lit (.bool true)], args := [d1, d2] }
  | _ => none }
def stepOneRow : OpenClaim := { program := "ytfajkebkhdcapaa", sum := "44fe41384f1591d04145a767a81a243afc7228ddc8f915e1152ba5bf832ed23d", func := "glebe/glebelaw.StepOne", spec := "stepOne", unfollowed := true, recurses := true, apart := false }
def StepOneSaid : Prop := stepOneRow.holds Try.pinned (OpenSpec.ofChange stepOneSpec)

/-- ITS FALSE NEIGHBOUR: 'it returns false'. Refute it at one input. -/
def stepOneWrong : ChangeSpec := { name := "stepOne", fn := fun _ => fun
  | [d1, d2] => { results := [.lit (.bool false)], args := [d1, d2] }
  | _ => none }
def StepOneWrongFalsely : Prop := stepOneRow.holds Try.pinned (OpenSpec.ofChange stepOneWrong)

/-- 'glebelaw.StepBack': WHATEVER THE INPUT: true; the input reads as it did. -/
def stepBackSpec : ChangeSpec := { name := "stepBack", fn := fun _ => fun
  | [d1, d2] => { results := [.lit (.bool true)], args := [d1, d2] }
  | _ => none }
def stepBackRow : OpenClaim := { program := "ytfajkebkhdcapaa", sum := "44fe41384f1591d04145a767a81a243afc7228ddc8f915e1152ba5bf832ed23d", func := "glebe/glebelaw.StepBack", spec := "stepBack", unfollowed := true, recurses := true, apart := false }
def StepBackSaid : Prop := stepBackRow.holds Try.pinned (OpenSpec.ofChange stepBackSpec)

/-- ITS FALSE NEIGHBOUR: 'it returns false'. Refute it at one input. -/
def stepBackWrong : ChangeSpec := { name := "stepBack", fn := fun _ => fun
  | [d1, d2] => { results := [.lit (.bool false)], args := [d1, d2] }
  | _ => none }
def StepBackWrongFalsely : Prop := stepBackRow.holds Try.pinned (OpenSpec.ofChange stepBackWrong)

/-- 'glebelaw.RunAll': WHATEVER THE INPUT: true; the input reads as it did. -/
def runAllSpec : ChangeSpec := { name := "runAll", fn := fun _ => fun
  | [d1, d2] => { results := [.lit (.bool true)], args := [d1, d2] }
  | _ => none }
def runAllRow : OpenClaim := { program := "ytfajkebkhdcapaa", sum := "44fe41384f1591d04145a767a81a243afc7228ddc8f915e1152ba5bf832ed23d", func := "glebe/glebelaw.RunAll", spec := "runAll", unfollowed := true, recurses := true, apart := false }
def RunAllSaid : Prop := runAllRow.holds Try.pinned (OpenSpec.ofChange runAllSpec)

/-- ITS FALSE NEIGHBOUR: 'it returns false'. Refute it at one input. -/
def runAllWrong : ChangeSpec := { name := "runAll", fn := fun _ => fun
  | [d1, d2] => { results := [.lit (.bool false)], args := [d1, d2] }
  | _ => none }
def RunAllWrongFalsely : Prop := runAllRow.holds Try.pinned (OpenSpec.ofChange runAllWrong)

/-- 'glebelaw.RunSplit': WHATEVER THE INPUT: true; the input reads as it did. -/
def runSplitSpec : ChangeSpec := { name := "runSplit", fn := fun _ => fun
  | [d1, d2, d3, d4] => { results := [.lit (.bool true)], args := [d1, d2, d3, d4] }
  | _ => none }
def runSplitRow : OpenClaim := { program := "ytfajkebkhdcapaa", sum := "44fe41384f1591d04145a767a81a243afc7228ddc8f915e1152ba5bf832ed23d", func := "glebe/glebelaw.RunSplit", spec := "runSplit", unfollowed := true, recurses := true, apart := false }
def RunSplitSaid : Prop := runSplitRow.holds Try.pinned (OpenSpec.ofChange runSplitSpec)

/-- ITS FALSE NEIGHBOUR: 'it returns false'. Refute it at one input. -/
def runSplitWrong : ChangeSpec := { name := "runSplit", fn := fun _ => fun
  | [d1, d2, d3, d4] => { results := [.lit (.bool false)], args := [d1, d2, d3, d4] }
  | _ => none }
def RunSplitWrongFalsely : Prop := runSplitRow.holds Try.pinned (OpenSpec.ofChange runSplitWrong)

/-- 'glebelaw.RunFar': WHATEVER THE INPUT: true; the input reads as it did. -/
def runFarSpec : ChangeSpec := { name := "runFar", fn := fun _ => fun
  | [d1, d2, d3] => { results := [.lit (.bool true)], args := [d1, d2, d3] }
  | _ => none }
def runFarRow : OpenClaim := { program := "ytfajkebkhdcapaa", sum := "44fe41384f1591d04145a767a81a243afc7228ddc8f915e1152ba5bf832ed23d", func := "glebe/glebelaw.RunFar", spec := "runFar", unfollowed := true, recurses := true, apart := false }
def RunFarSaid : Prop := runFarRow.holds Try.pinned (OpenSpec.ofChange runFarSpec)

/-- ITS FALSE NEIGHBOUR: 'it returns false'. Refute it at one input. -/
def runFarWrong : ChangeSpec := { name := "runFar", fn := fun _ => fun
  | [d1, d2, d3] => { results := [.lit (.bool false)], args := [d1, d2, d3] }
  | _ => none }
def RunFarWrongFalsely : Prop := runFarRow.holds Try.pinned (OpenSpec.ofChange runFarWrong)

/-- 'glebelaw.RunEnds': WHATEVER THE INPUT: true; the input reads as it did. -/
def runEndsSpec : ChangeSpec := { name := "runEnds", fn := fun _ => fun
  | [d1, d2, d3] => { results := [.lit (.bool true)], args := [d1, d2, d3] }
  | _ => none }
def runEndsRow : OpenClaim := { program := "ytfajkebkhdcapaa", sum := "44fe41384f1591d04145a767a81a243afc7228ddc8f915e1152ba5bf832ed23d", func := "glebe/glebelaw.RunEnds", spec := "runEnds", unfollowed := true, recurses := true, apart := false }
def RunEndsSaid : Prop := runEndsRow.holds Try.pinned (OpenSpec.ofChange runEndsSpec)

/-- ITS FALSE NEIGHBOUR: 'it returns false'. Refute it at one input. -/
def runEndsWrong : ChangeSpec := { name := "runEnds", fn := fun _ => fun
  | [d1, d2, d3] => { results := [.lit (.bool false)], args := [d1, d2, d3] }
  | _ => none }
def RunEndsWrongFalsely : Prop := runEndsRow.holds Try.pinned (OpenSpec.ofChange runEndsWrong)

/-- 'glebelaw.RunBegin': WHATEVER THE INPUT: true; the input reads as it did. -/
def runBeginSpec : ChangeSpec := { name := "runBegin", fn := fun _ => fun
  | [d1, d2] => { results := [.lit (.bool true)], args := [d1, d2] }
  | _ => none }
def runBeginRow : OpenClaim := { program := "ytfajkebkhdcapaa", sum := "44fe41384f1591d04145a767a81a243afc7228ddc8f915e1152ba5bf832ed23d", func := "glebe/glebelaw.RunBegin", spec := "runBegin", unfollowed := true, recurses := true, apart := false }
def RunBeginSaid : Prop := runBeginRow.holds Try.pinned (OpenSpec.ofChange runBeginSpec)

/-- ITS FALSE NEIGHBOUR: 'it returns false'. Refute it at one input. -/
def runBeginWrong : ChangeSpec := { name := "runBegin", fn := fun _ => fun
  | [d1, d2] => { results := [.lit (.bool false)], args := [d1, d2] }
  | _ => none }
def RunBeginWrongFalsely : Prop := runBeginRow.holds Try.pinned (OpenSpec.ofChange runBeginWrong)

/- THE SECOND FORM. 'bulk': how many values and letters a reading holds, each counted each time it is reached (what is shared counts as often as it is met; a slice's spare places count too). A statement '..UptoSaid' is the law's where the arguments, and the package variables that the reading takes, are together of bulk at most 1048576: NARROWER than '..Said'. Prove '..Said' where nothing that the law and all that it calls make is longer than what came in: it says more and counts as full. Else prove '..UptoSaid'. A law counts once. -/
mutual
def uptoBulk {H : Type} : DataW H → Nat
  | .lit (.string bytes) => bytes.length + 1
  | .lit _ => 1
  | .nil => 1
  | .ptr d => uptoBulk d + 1
  | .slice elems spare => uptoBulkAll elems + uptoBulkAll spare + 1
  | .agg parts => uptoBulkAll parts + 1
  | .iface _ d => uptoBulk d + 1
  | .map entries => uptoBulkEntries entries + 1
  | .held _ => 1
def uptoBulkAll {H : Type} : List (DataW H) → Nat
  | [] => 0
  | d :: r => uptoBulk d + uptoBulkAll r
def uptoBulkEntries {H : Type} : List (Lit × DataW H) → Nat
  | [] => 0
  | x :: r => uptoBulkEntry x + uptoBulkEntries r
def uptoBulkEntry {H : Type} : Lit × DataW H → Nat
  | (.string bytes, d) => bytes.length + uptoBulk d + 1
  | (_, d) => uptoBulk d + 1
 end
def uptoSmall : (H : Type) → List (DataW H) → Bool := fun _ ds => decide (uptoBulkAll ds ≤ 1048576)
def OpenSpec.upto (s : _root_.Go.ChangeSpec) : _root_.Go.OpenSpec := { _root_.Go.OpenSpec.ofChange s with cond := some uptoSmall }

/-- 'glebelaw.TrimSame', WHERE WHAT IT READS IS OF BULK AT MOST 1048576: true; the input reads as it did. -/
def trimSameUptoRow : OpenClaim := { program := "ytfajkebkhdcapaa", sum := "44fe41384f1591d04145a767a81a243afc7228ddc8f915e1152ba5bf832ed23d", func := "glebe/glebelaw.TrimSame", spec := "trimSame", unfollowed := true, recurses := true, apart := false, narrowed := true }
def TrimSameUptoSaid : Prop := trimSameUptoRow.holds Try.pinned (OpenSpec.upto trimSameSpec)

/-- 'glebelaw.StepRight', WHERE WHAT IT READS IS OF BULK AT MOST 1048576: true; the input reads as it did. -/
def stepRightUptoRow : OpenClaim := { program := "ytfajkebkhdcapaa", sum := "44fe41384f1591d04145a767a81a243afc7228ddc8f915e1152ba5bf832ed23d", func := "glebe/glebelaw.StepRight", spec := "stepRight", unfollowed := true, recurses := true, apart := false, narrowed := true }
def StepRightUptoSaid : Prop := stepRightUptoRow.holds Try.pinned (OpenSpec.upto stepRightSpec)

/-- 'glebelaw.StepOne', WHERE WHAT IT READS IS OF BULK AT MOST 1048576: true; the input reads as it did. -/
def stepOneUptoRow : OpenClaim := { program := "ytfajkebkhdcapaa", sum := "44fe41384f1591d04145a767a81a243afc7228ddc8f915e1152ba5bf832ed23d", func := "glebe/glebelaw.StepOne", spec := "stepOne", unfollowed := true, recurses := true, apart := false, narrowed := true }
def StepOneUptoSaid : Prop := stepOneUptoRow.holds Try.pinned (OpenSpec.upto stepOneSpec)

/-- 'glebelaw.StepBack', WHERE WHAT IT READS IS OF BULK AT MOST 1048576: true; the input reads as it did. -/
def stepBackUptoRow : OpenClaim := { program := "ytfajkebkhdcapaa", sum := "44fe41384f1591d04145a767a81a243afc7228ddc8f915e1152ba5bf832ed23d", func := "glebe/glebelaw.StepBack", spec := "stepBack", unfollowed := true, recurses := true, apart := false, narrowed := true }
def StepBackUptoSaid : Prop := stepBackUptoRow.holds Try.pinned (OpenSpec.upto stepBackSpec)

/-- 'glebelaw.RunAll', WHERE WHAT IT READS IS OF BULK AT MOST 1048576: true; the input reads as it did. -/
def runAllUptoRow : OpenClaim := { program := "ytfajkebkhdcapaa", sum := "44fe41384f1591d04145a767a81a243afc7228ddc8f915e1152ba5bf832ed23d", func := "glebe/glebelaw.RunAll", spec := "runAll", unfollowed := true, recurses := true, apart := false, narrowed := true }
def RunAllUptoSaid : Prop := runAllUptoRow.holds Try.pinned (OpenSpec.upto runAllSpec)

/-- 'glebelaw.RunSplit', WHERE WHAT IT READS IS OF BULK AT MOST 1048576: true; the input reads as it did. -/
def runSplitUptoRow : OpenClaim := { program := "ytfajkebkhdcapaa", sum := "44fe41384f1591d04145a767a81a243afc7228ddc8f915e1152ba5bf832ed23d", func := "glebe/glebelaw.RunSplit", spec := "runSplit", unfollowed := true, recurses := true, apart := false, narrowed := true }
def RunSplitUptoSaid : Prop := runSplitUptoRow.holds Try.pinned (OpenSpec.upto runSplitSpec)

/-- 'glebelaw.RunFar', WHERE WHAT IT READS IS OF BULK AT MOST 1048576: true; the input reads as it did. -/
def runFarUptoRow : OpenClaim := { program := "ytfajkebkhdcapaa", sum := "44fe41384f1591d04145a767a81a243afc7228ddc8f915e1152ba5bf832ed23d", func := "glebe/glebelaw.RunFar", spec := "runFar", unfollowed := true, recurses := true, apart := false, narrowed := true }
def RunFarUptoSaid : Prop := runFarUptoRow.holds Try.pinned (OpenSpec.upto runFarSpec)

/-- 'glebelaw.RunEnds', WHERE WHAT IT READS IS OF BULK AT MOST 1048576: true; the input reads as it did. -/
def runEndsUptoRow : OpenClaim := { program := "ytfajkebkhdcapaa", sum := "44fe41384f1591d04145a767a81a243afc7228ddc8f915e1152ba5bf832ed23d", func := "glebe/glebelaw.RunEnds", spec := "runEnds", unfollowed := true, recurses := true, apart := false, narrowed := true }
def RunEndsUptoSaid : Prop := runEndsUptoRow.holds Try.pinned (OpenSpec.upto runEndsSpec)

/-- 'glebelaw.RunBegin', WHERE WHAT IT READS IS OF BULK AT MOST 1048576: true; the input reads as it did. -/
def runBeginUptoRow : OpenClaim := { program := "ytfajkebkhdcapaa", sum := "44fe41384f1591d04145a767a81a243afc7228ddc8f915e1152ba5bf832ed23d", func := "glebe/glebelaw.RunBegin", spec := "runBegin", unfollowed := true, recurses := true, apart := false, narrowed := true }
def RunBeginUptoSaid : Prop := runBeginUptoRow.holds Try.pinned (OpenSpec.upto runBeginSpec)

end Rows
end Go.Proofs.Ytfajkebkhdcapaa
