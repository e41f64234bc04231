/-
  No cell of these rows narrows 'for every input' (looked for: loops, veiled, ifaces, maps, wideKeys, modest, calm, conditions, laid).
  DERIVED. THE GIVEN ROWS OF THIS SEAT. 6 by the template 'for every input the law returns true; each argument reads behind the call as it read before'; 0 by the template 'total and deterministic' (their statements: YtgahbngbpfilgaaTotals.lean).
  GIVEN WITH THE SEED: the statements are not yours to turn. If you find one false, say at which input.
  Laid BY PROGRAM, IN A SANDBOX (cutbox-rows.mjs): the forced cells as the released guide's own fill.sh prints them over the translation feada8dff4978b26… (all of the seat's roots in one cut). By AI agents, Wed Nov 11 2026. No macro, syntax, notation, axiom, sorry.
-/
import Derived.Test.YtgahbngbpfilgaaChecked
import GoSem.Claim
import GoSem.ClaimJoined
import GoSem.ClaimMapViews
import Derived.JoinedTies
import Derived.KernelRfl
namespace Go.Proofs.Ytgahbngbpfilgaa
/- THE CELL 'sum', in the pinned program and in every row, IS THE sha256 OF THE DUMP (.gsa) THAT YtgahbngbpfilgaaProg.lean LOADS. Nothing in Lean hashes anything: it is a label: what it is worth is what the hold of that sum in a sandbox is worth. -/
noncomputable def Try.pinned : Pinned := { name := "ytgahbngbpfilgaa", sum := "feada8dff4978b26b8f29c31700368460140a2c02a281fb95d366e10f71aba50", checked := Try.checked }
namespace Rows
def none {H : Type} : Left H := { results := [], args := [] }

/-- 'glebelaw.SaveWrites': WHATEVER THE INPUT: true; the input reads as it did. -/
def saveWritesSpec : ChangeSpec := { name := "saveWrites", fn := fun _ => fun
  | [d1, d2, d3] => { results := [.lit (.bool true)], args := [d1, d2, d3] }
  | _ => none }
def saveWritesRow : OpenClaim := { program := "ytgahbngbpfilgaa", sum := "feada8dff4978b26b8f29c31700368460140a2c02a281fb95d366e10f71aba50", func := "glebe/glebelaw.SaveWrites", spec := "saveWrites", unfollowed := true, recurses := true, apart := false }
def SaveWritesSaid : Prop := saveWritesRow.holds Try.pinned (OpenSpec.ofChange saveWritesSpec)

/-- ITS FALSE NEIGHBOUR: 'it returns false'. Refute it at one input. -/
def saveWritesWrong : ChangeSpec := { name := "saveWrites", fn := fun _ => fun
  | [d1, d2, d3] => { results := [.lit (.bool false)], args := [d1, d2, d3] }
  | _ => none }
def SaveWritesWrongFalsely : Prop := saveWritesRow.holds Try.pinned (OpenSpec.ofChange saveWritesWrong)

/-- 'glebelaw.SaveBack': WHATEVER THE INPUT: true; the input reads as it did. -/
def saveBackSpec : ChangeSpec := { name := "saveBack", fn := fun _ => fun
  | [d1, d2, d3] => { results := [.lit (.bool true)], args := [d1, d2, d3] }
  | _ => none }
def saveBackRow : OpenClaim := { program := "ytgahbngbpfilgaa", sum := "feada8dff4978b26b8f29c31700368460140a2c02a281fb95d366e10f71aba50", func := "glebe/glebelaw.SaveBack", spec := "saveBack", unfollowed := true, recurses := true, apart := false }
def SaveBackSaid : Prop := saveBackRow.holds Try.pinned (OpenSpec.ofChange saveBackSpec)

/-- ITS FALSE NEIGHBOUR: 'it returns false'. Refute it at one input. -/
def saveBackWrong : ChangeSpec := { name := "saveBack", fn := fun _ => fun
  | [d1, d2, d3] => { results := [.lit (.bool false)], args := [d1, d2, d3] }
  | _ => none }
def SaveBackWrongFalsely : Prop := saveBackRow.holds Try.pinned (OpenSpec.ofChange saveBackWrong)

/-- 'glebelaw.ForgeTells': WHATEVER THE INPUT: true; the input reads as it did. -/
def forgeTellsSpec : ChangeSpec := { name := "forgeTells", fn := fun _ => fun
  | [d1, d2, d3] => { results := [.lit (.bool true)], args := [d1, d2, d3] }
  | _ => none }
def forgeTellsRow : OpenClaim := { program := "ytgahbngbpfilgaa", sum := "feada8dff4978b26b8f29c31700368460140a2c02a281fb95d366e10f71aba50", func := "glebe/glebelaw.ForgeTells", spec := "forgeTells", unfollowed := true, recurses := true, apart := false }
def ForgeTellsSaid : Prop := forgeTellsRow.holds Try.pinned (OpenSpec.ofChange forgeTellsSpec)

/-- ITS FALSE NEIGHBOUR: 'it returns false'. Refute it at one input. -/
def forgeTellsWrong : ChangeSpec := { name := "forgeTells", fn := fun _ => fun
  | [d1, d2, d3] => { results := [.lit (.bool false)], args := [d1, d2, d3] }
  | _ => none }
def ForgeTellsWrongFalsely : Prop := forgeTellsRow.holds Try.pinned (OpenSpec.ofChange forgeTellsWrong)

/-- 'glebelaw.ForgeFit': WHATEVER THE INPUT: true; the input reads as it did. -/
def forgeFitSpec : ChangeSpec := { name := "forgeFit", fn := fun _ => fun
  | [d1, d2, d3, d4] => { results := [.lit (.bool true)], args := [d1, d2, d3, d4] }
  | _ => none }
def forgeFitRow : OpenClaim := { program := "ytgahbngbpfilgaa", sum := "feada8dff4978b26b8f29c31700368460140a2c02a281fb95d366e10f71aba50", func := "glebe/glebelaw.ForgeFit", spec := "forgeFit", unfollowed := true, recurses := true, apart := false }
def ForgeFitSaid : Prop := forgeFitRow.holds Try.pinned (OpenSpec.ofChange forgeFitSpec)

/-- ITS FALSE NEIGHBOUR: 'it returns false'. Refute it at one input. -/
def forgeFitWrong : ChangeSpec := { name := "forgeFit", fn := fun _ => fun
  | [d1, d2, d3, d4] => { results := [.lit (.bool false)], args := [d1, d2, d3, d4] }
  | _ => none }
def ForgeFitWrongFalsely : Prop := forgeFitRow.holds Try.pinned (OpenSpec.ofChange forgeFitWrong)

/-- 'glebelaw.ForgeSafe': WHATEVER THE INPUT: true; the input reads as it did. -/
def forgeSafeSpec : ChangeSpec := { name := "forgeSafe", fn := fun _ => fun
  | [d1, d2] => { results := [.lit (.bool true)], args := [d1, d2] }
  | _ => none }
def forgeSafeRow : OpenClaim := { program := "ytgahbngbpfilgaa", sum := "feada8dff4978b26b8f29c31700368460140a2c02a281fb95d366e10f71aba50", func := "glebe/glebelaw.ForgeSafe", spec := "forgeSafe", unfollowed := true, recurses := true, apart := false }
def ForgeSafeSaid : Prop := forgeSafeRow.holds Try.pinned (OpenSpec.ofChange forgeSafeSpec)

/-- ITS FALSE NEIGHBOUR: 'it returns false'. Refute it at one input. -/
def forgeSafeWrong : ChangeSpec := { name := "forgeSafe", fn := fun _ => fun
  | [d1, d2] => { results := [.lit (.bool false)], args := [d1, d2] }
  | _ => none }
def ForgeSafeWrongFalsely : Prop := forgeSafeRow.holds Try.pinned (OpenSpec.ofChange forgeSafeWrong)

/-- 'glebelaw.ForgeRight': WHATEVER THE INPUT: true; the input reads as it did. -/
def forgeRightSpec : ChangeSpec := { name := "forgeRight", fn := fun _ => fun
  | [d1, d2] => { results := [.lit (.bool true)], args := [d1, d2] }
  | _ => none }
def forgeRightRow : OpenClaim := { program := "ytgahbngbpfilgaa", sum := "feada8dff4978b26b8f29c31700368460140a2c02a281fb95d366e10f71aba50", func := "glebe/glebelaw.ForgeRight", spec := "forgeRight", unfollowed := true, recurses := true, apart := false }
def ForgeRightSaid : Prop := forgeRightRow.holds Try.pinned (OpenSpec.ofChange forgeRightSpec)

/-- ITS FALSE NEIGHBOUR: 'it returns false'. Refute it at one input. -/
def forgeRightWrong : ChangeSpec := { name := "forgeRight", fn := fun _ => fun
  | [d1, d2] => { results := [.lit (.bool false)], args := [d1, d2] }
  | _ => none }
def ForgeRightWrongFalsely : Prop := forgeRightRow.holds Try.pinned (OpenSpec.ofChange forgeRightWrong)

/- THE SECOND FORM. 'bulk': how many values and letters a reading holds, each counted each time it is reached (what is shared counts as often as it is met; a slice's spare places count too). A statement '..UptoSaid' is the law's where the arguments, and the package variables that the reading takes, are together of bulk at most 1048576: NARROWER than '..Said'. Prove '..Said' where nothing that the law and all that it calls make is longer than what came in: it says more and counts as full. Else prove '..UptoSaid'. A law counts once. -/
mutual
def uptoBulk {H : Type} : DataW H → Nat
  | .lit (.string bytes) => bytes.length + 1
  | .lit _ => 1
  | .nil => 1
  | .ptr d => uptoBulk d + 1
  | .slice elems spare => uptoBulkAll elems + uptoBulkAll spare + 1
  | .agg parts => uptoBulkAll parts + 1
  | .iface _ d => uptoBulk d + 1
  | .map entries => uptoBulkEntries entries + 1
  | .held _ => 1
def uptoBulkAll {H : Type} : List (DataW H) → Nat
  | [] => 0
  | d :: r => uptoBulk d + uptoBulkAll r
def uptoBulkEntries {H : Type} : List (Lit × DataW H) → Nat
  | [] => 0
  | x :: r => uptoBulkEntry x + uptoBulkEntries r
def uptoBulkEntry {H : Type} : Lit × DataW H → Nat
  | (.string bytes, d) => bytes.length + uptoBulk d + 1
  | (_, d) => uptoBulk d + 1
 end
def uptoSmall : (H : Type) → List (DataW H) → Bool := fun _ ds => decide (uptoBulkAll ds ≤ 1048576)
def OpenSpec.upto (s : _root_.Go.ChangeSpec) : _root_.Go.OpenSpec := { _root_.Go.OpenSpec.ofChange s with cond := some uptoSmall }

/-- 'glebelaw.SaveWrites', WHERE WHAT IT READS IS OF BULK AT MOST 1048576: true; the input reads as it did. -/
def saveWritesUptoRow : OpenClaim := { program := "ytgahbngbpfilgaa", sum := "feada8dff4978b26b8f29c31700368460140a2c02a281fb95d366e10f71aba50", func := "glebe/glebelaw.SaveWrites", spec := "saveWrites", unfollowed := true, recurses := true, apart := false, narrowed := true }
def SaveWritesUptoSaid : Prop := saveWritesUptoRow.holds Try.pinned (OpenSpec.upto saveWritesSpec)

/-- 'glebelaw.SaveBack', WHERE WHAT IT READS IS OF BULK AT MOST 1048576: true; the input reads as it did. -/
def saveBackUptoRow : OpenClaim := { program := "ytgahbngbpfilgaa", sum := "feada8dff4978b26b8f29c31700368460140a2c02a281fb95d366e10f71aba50", func := "glebe/glebelaw.SaveBack", spec := "saveBack", unfollowed := true, recurses := true, apart := false, narrowed := true }
def SaveBackUptoSaid : Prop := saveBackUptoRow.holds Try.pinned (OpenSpec.upto saveBackSpec)

/-- 'glebelaw.ForgeTells', WHERE WHAT IT READS IS OF BULK AT MOST 1048576: true; the input reads as it did. -/
def forgeTellsUptoRow : OpenClaim := { program := "ytgahbngbpfilgaa", sum := "feada8dff4978b26b8f29c31700368460140a2c02a281fb95d366e10f71aba50", func := "glebe/glebelaw.ForgeTells", spec := "forgeTells", unfollowed := true, recurses := true, apart := false, narrowed := true }
def ForgeTellsUptoSaid : Prop := forgeTellsUptoRow.holds Try.pinned (OpenSpec.upto forgeTellsSpec)

/-- 'glebelaw.ForgeFit', WHERE WHAT IT READS IS OF BULK AT MOST 1048576: true; the input reads as it did. -/
def forgeFitUptoRow : OpenClaim := { program := "ytgahbngbpfilgaa", sum := "feada8dff4978b26b8f29c31700368460140a2c02a281fb95d366e10f71aba50", func := "glebe/glebelaw.ForgeFit", spec := "forgeFit", unfollowed := true, recurses := true, apart := false, narrowed := true }
def ForgeFitUptoSaid : Prop := forgeFitUptoRow.holds Try.pinned (OpenSpec.upto forgeFitSpec)

/-- 'glebelaw.ForgeSafe', WHERE WHAT IT READS IS OF BULK AT MOST 1048576: true; the input reads as it did. -/
def forgeSafeUptoRow : OpenClaim := { program := "ytgahbngbpfilgaa", sum := "feada8dff4978b26b8f29c31700368460140a2c02a281fb95d366e10f71aba50", func := "glebe/glebelaw.ForgeSafe", spec := "forgeSafe", unfollowed := true, recurses := true, apart := false, narrowed := true }
def ForgeSafeUptoSaid : Prop := forgeSafeUptoRow.holds Try.pinned (OpenSpec.upto forgeSafeSpec)

/-- 'glebelaw.ForgeRight', WHERE WHAT IT READS IS OF BULK AT MOST 1048576: true; the input reads as it did. -/
def forgeRightUptoRow : OpenClaim := { program := "ytgahbngbpfilgaa", sum := "feada8dff4978b26b8f29c31700368460140a2c02a281fb95d366e10f71aba50", func := "glebe/glebelaw.ForgeRight", spec := "forgeRight", unfollowed := true, recurses := true, apart := false, narrowed := true }
def ForgeRightUptoSaid : Prop := forgeRightUptoRow.holds Try.pinned (OpenSpec.upto forgeRightSpec)

end Rows
end Go.Proofs.Ytgahbngbpfilgaa
