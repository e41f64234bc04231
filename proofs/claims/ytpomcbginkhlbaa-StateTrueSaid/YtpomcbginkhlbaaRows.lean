/-
  No cell of these rows narrows 'for every input' (looked for: loops, veiled, ifaces, maps, wideKeys, modest, calm, conditions, laid).
  DERIVED. THE GIVEN ROWS OF THIS SEAT. 6 by the template 'for every input the law returns true; each argument reads behind the call as it read before'; 0 by the template 'total and deterministic' (their statements: YtpomcbginkhlbaaTotals.lean).
  GIVEN WITH THE SEED: the statements are not yours to turn. If you find one false, say at which input.
  Laid BY PROGRAM, IN A SANDBOX (cutbox-rows.mjs): the forced cells as the released guide's own fill.sh prints them over the translation 6f1b60987a611676… (all of the seat's roots in one cut). By AI agents, Wed Nov 11 2026. No macro, syntax, notation, axiom, sorry.
-/
import Derived.Test.YtpomcbginkhlbaaChecked
import GoSem.Claim
import GoSem.ClaimJoined
import GoSem.ClaimMapViews
import Derived.JoinedTies
import Derived.KernelRfl
namespace Go.Proofs.Ytpomcbginkhlbaa
/- THE CELL 'sum', in the pinned program and in every row, IS THE sha256 OF THE DUMP (.gsa) THAT YtpomcbginkhlbaaProg.lean LOADS. Nothing in Lean hashes anything: it is a label: what it is worth is what the hold of that sum in a sandbox is worth. -/
noncomputable def Try.pinned : Pinned := { name := "ytpomcbginkhlbaa", sum := "6f1b60987a611676cb9e85255186795f55cca45763209d88471c86b57cb1dead", checked := Try.checked }
namespace Rows
def none {H : Type} : Left H := { results := [], args := [] }

/-- 'glebelaw.TrimTells': WHATEVER THE INPUT: true; the input reads as it did. -/
def trimTellsSpec : ChangeSpec := { name := "trimTells", fn := fun _ => fun
  | [d1, d2] => { results := [.lit (.bool true)], args := [d1, d2] }
  | _ => none }
def trimTellsRow : OpenClaim := { program := "ytpomcbginkhlbaa", sum := "6f1b60987a611676cb9e85255186795f55cca45763209d88471c86b57cb1dead", func := "glebe/glebelaw.TrimTells", spec := "trimTells", unfollowed := true, recurses := true, apart := false }
def TrimTellsSaid : Prop := trimTellsRow.holds Try.pinned (OpenSpec.ofChange trimTellsSpec)

/-- ITS FALSE NEIGHBOUR: 'it returns false'. Refute it at one input. -/
def trimTellsWrong : ChangeSpec := { name := "trimTells", fn := fun _ => fun
  | [d1, d2] => { results := [.lit (.bool false)], args := [d1, d2] }
  | _ => none }
def TrimTellsWrongFalsely : Prop := trimTellsRow.holds Try.pinned (OpenSpec.ofChange trimTellsWrong)

/-- 'glebelaw.TrimTrue': WHATEVER THE INPUT: true; the input reads as it did. -/
def trimTrueSpec : ChangeSpec := { name := "trimTrue", fn := fun _ => fun
  | [d1, d2] => { results := [.lit (.bool true)], args := [d1, d2] }
  | _ => none }
def trimTrueRow : OpenClaim := { program := "ytpomcbginkhlbaa", sum := "6f1b60987a611676cb9e85255186795f55cca45763209d88471c86b57cb1dead", func := "glebe/glebelaw.TrimTrue", spec := "trimTrue", unfollowed := true, recurses := true, apart := false }
def TrimTrueSaid : Prop := trimTrueRow.holds Try.pinned (OpenSpec.ofChange trimTrueSpec)

/-- ITS FALSE NEIGHBOUR: 'it returns false'. Refute it at one input. -/
def trimTrueWrong : ChangeSpec := { name := "trimTrue", fn := fun _ => fun
  | [d1, d2] => { results := [.lit (.bool false)], args := [d1, d2] }
  | _ => none }
def TrimTrueWrongFalsely : Prop := trimTrueRow.holds Try.pinned (OpenSpec.ofChange trimTrueWrong)

/-- 'glebelaw.StateTells': WHATEVER THE INPUT: true; the input reads as it did. -/
def stateTellsSpec : ChangeSpec := { name := "stateTells", fn := fun _ => fun
  | [d1, d2] => { results := [.lit (.bool true)], args := [d1, d2] }
  | _ => none }
def stateTellsRow : OpenClaim := { program := "ytpomcbginkhlbaa", sum := "6f1b60987a611676cb9e85255186795f55cca45763209d88471c86b57cb1dead", func := "glebe/glebelaw.StateTells", spec := "stateTells", unfollowed := true, recurses := true, apart := false }
def StateTellsSaid : Prop := stateTellsRow.holds Try.pinned (OpenSpec.ofChange stateTellsSpec)

/-- ITS FALSE NEIGHBOUR: 'it returns false'. Refute it at one input. -/
def stateTellsWrong : ChangeSpec := { name := "stateTells", fn := fun _ => fun
  | [d1, d2] => { results := [.lit (.bool false)], args := [d1, d2] }
  | _ => none }
def StateTellsWrongFalsely : Prop := stateTellsRow.holds Try.pinned (OpenSpec.ofChange stateTellsWrong)

/-- 'glebelaw.StateTrue': WHATEVER THE INPUT: true; the input reads as it did. -/
def stateTrueSpec : ChangeSpec := { name := "stateTrue", fn := fun _ => fun
  | [d1, d2, d3] => { results := [.lit (.bool true)], args := [d1, d2, d3] }
  | _ => none }
def stateTrueRow : OpenClaim := { program := "ytpomcbginkhlbaa", sum := "6f1b60987a611676cb9e85255186795f55cca45763209d88471c86b57cb1dead", func := "glebe/glebelaw.StateTrue", spec := "stateTrue", unfollowed := true, recurses := true, apart := false }
def StateTrueSaid : Prop := stateTrueRow.holds Try.pinned (OpenSpec.ofChange stateTrueSpec)

/-- ITS FALSE NEIGHBOUR: 'it returns false'. Refute it at one input. -/
def stateTrueWrong : ChangeSpec := { name := "stateTrue", fn := fun _ => fun
  | [d1, d2, d3] => { results := [.lit (.bool false)], args := [d1, d2, d3] }
  | _ => none }
def StateTrueWrongFalsely : Prop := stateTrueRow.holds Try.pinned (OpenSpec.ofChange stateTrueWrong)

/-- 'glebelaw.ChainTells': WHATEVER THE INPUT: true; the input reads as it did. -/
def chainTellsSpec : ChangeSpec := { name := "chainTells", fn := fun _ => fun
  | [d1, d2, d3] => { results := [.lit (.bool true)], args := [d1, d2, d3] }
  | _ => none }
def chainTellsRow : OpenClaim := { program := "ytpomcbginkhlbaa", sum := "6f1b60987a611676cb9e85255186795f55cca45763209d88471c86b57cb1dead", func := "glebe/glebelaw.ChainTells", spec := "chainTells", unfollowed := true, recurses := true, apart := false }
def ChainTellsSaid : Prop := chainTellsRow.holds Try.pinned (OpenSpec.ofChange chainTellsSpec)

/-- ITS FALSE NEIGHBOUR: 'it returns false'. Refute it at one input. -/
def chainTellsWrong : ChangeSpec := { name := "chainTells", fn := fun _ => fun
  | [d1, d2, d3] => { results := [.lit (.bool false)], args := [d1, d2, d3] }
  | _ => none }
def ChainTellsWrongFalsely : Prop := chainTellsRow.holds Try.pinned (OpenSpec.ofChange chainTellsWrong)

/-- 'glebelaw.ChainTrue': WHATEVER THE INPUT: true; the input reads as it did. -/
def chainTrueSpec : ChangeSpec := { name := "chainTrue", fn := fun _ => fun
  | [d1, d2] => { results := [.lit (.bool true)], args := [d1, d2] }
  | _ => none }
def chainTrueRow : OpenClaim := { program := "ytpomcbginkhlbaa", sum := "6f1b60987a611676cb9e85255186795f55cca45763209d88471c86b57cb1dead", func := "glebe/glebelaw.ChainTrue", spec := "chainTrue", unfollowed := true, recurses := true, apart := false }
def ChainTrueSaid : Prop := chainTrueRow.holds Try.pinned (OpenSpec.ofChange chainTrueSpec)

/-- ITS FALSE NEIGHBOUR: 'it returns false'. Refute it at one input. -/
def chainTrueWrong : ChangeSpec := { name := "chainTrue", fn := fun _ => fun
  | [d1, d2] => { results := [.lit (.bool false)], args := [d1, d2] }
  | _ => none }
def ChainTrueWrongFalsely : Prop := chainTrueRow.holds Try.pinned (OpenSpec.ofChange chainTrueWrong)

/- THE SECOND FORM. 'bulk': how many values and letters a reading holds, each counted each time it is reached (what is shared counts as often as it is met; a slice's spare places count too). A statement '..UptoSaid' is the law's where the arguments, and the package variables that the reading takes, are together of bulk at most 1048576: NARROWER than '..Said'. Prove '..Said' where nothing that the law and all that it calls make is longer than what came in: it says more and counts as full. Else prove '..UptoSaid'. A law counts once. -/
mutual
def uptoBulk {H : Type} : DataW H → Nat
  | .lit (.string bytes) => bytes.length + 1
  | .lit _ => 1
  | .nil => 1
  | .ptr d => uptoBulk d + 1
  | .slice elems spare => uptoBulkAll elems + uptoBulkAll spare + 1
  | .agg parts => uptoBulkAll parts + 1
  | .iface _ d => uptoBulk d + 1
  | .map entries => uptoBulkEntries entries + 1
  | .held _ => 1
def uptoBulkAll {H : Type} : List (DataW H) → Nat
  | [] => 0
  | d :: r => uptoBulk d + uptoBulkAll r
def uptoBulkEntries {H : Type} : List (Lit × DataW H) → Nat
  | [] => 0
  | x :: r => uptoBulkEntry x + uptoBulkEntries r
def uptoBulkEntry {H : Type} : Lit × DataW H → Nat
  | (.string bytes, d) => bytes.length + uptoBulk d + 1
  | (_, d) => uptoBulk d + 1
 end
def uptoSmall : (H : Type) → List (DataW H) → Bool := fun _ ds => decide (uptoBulkAll ds ≤ 1048576)
def OpenSpec.upto (s : _root_.Go.ChangeSpec) : _root_.Go.OpenSpec := { _root_.Go.OpenSpec.ofChange s with cond := some uptoSmall }

/-- 'glebelaw.TrimTells', WHERE WHAT IT READS IS OF BULK AT MOST 1048576: true; the input reads as it did. -/
def trimTellsUptoRow : OpenClaim := { program := "ytpomcbginkhlbaa", sum := "6f1b60987a611676cb9e85255186795f55cca45763209d88471c86b57cb1dead", func := "glebe/glebelaw.TrimTells", spec := "trimTells", unfollowed := true, recurses := true, apart := false, narrowed := true }
def TrimTellsUptoSaid : Prop := trimTellsUptoRow.holds Try.pinned (OpenSpec.upto trimTellsSpec)

/-- 'glebelaw.TrimTrue', WHERE WHAT IT READS IS OF BULK AT MOST 1048576: true; the input reads as it did. -/
def trimTrueUptoRow : OpenClaim := { program := "ytpomcbginkhlbaa", sum := "6f1b60987a611676cb9e85255186795f55cca45763209d88471c86b57cb1dead", func := "glebe/glebelaw.TrimTrue", spec := "trimTrue", unfollowed := true, recurses := true, apart := false, narrowed := true }
def TrimTrueUptoSaid : Prop := trimTrueUptoRow.holds Try.pinned (OpenSpec.upto trimTrueSpec)

/-- 'glebelaw.StateTells', WHERE WHAT IT READS IS OF BULK AT MOST 1048576: true; the input reads as it did. -/
def stateTellsUptoRow : OpenClaim := { program := "ytpomcbginkhlbaa", sum := "6f1b60987a611676cb9e85255186795f55cca45763209d88471c86b57cb1dead", func := "glebe/glebelaw.StateTells", spec := "stateTells", unfollowed := true, recurses := true, apart := false, narrowed := true }
def StateTellsUptoSaid : Prop := stateTellsUptoRow.holds Try.pinned (OpenSpec.upto stateTellsSpec)

/-- 'glebelaw.StateTrue', WHERE WHAT IT READS IS OF BULK AT MOST 1048576: true; the input reads as it did. -/
def stateTrueUptoRow : OpenClaim := { program := "ytpomcbginkhlbaa", sum := "6f1b60987a611676cb9e85255186795f55cca45763209d88471c86b57cb1dead", func := "glebe/glebelaw.StateTrue", spec := "stateTrue", unfollowed := true, recurses := true, apart := false, narrowed := true }
def StateTrueUptoSaid : Prop := stateTrueUptoRow.holds Try.pinned (OpenSpec.upto stateTrueSpec)

/-- 'glebelaw.ChainTells', WHERE WHAT IT READS IS OF BULK AT MOST 1048576: true; the input reads as it did. -/
def chainTellsUptoRow : OpenClaim := { program := "ytpomcbginkhlbaa", sum := "6f1b60987a611676cb9e85255186795f55cca45763209d88471c86b57cb1dead", func := "glebe/glebelaw.ChainTells", spec := "chainTells", unfollowed := true, recurses := true, apart := false, narrowed := true }
def ChainTellsUptoSaid : Prop := chainTellsUptoRow.holds Try.pinned (OpenSpec.upto chainTellsSpec)

/-- 'glebelaw.ChainTrue', WHERE WHAT IT READS IS OF BULK AT MOST 1048576: true; the input reads as it did. -/
def chainTrueUptoRow : OpenClaim := { program := "ytpomcbginkhlbaa", sum := "6f1b60987a611676cb9e85255186795f55cca45763209d88471c86b57cb1dead", func := "glebe/glebelaw.ChainTrue", spec := "chainTrue", unfollowed := true, recurses := true, apart := false, narrowed := true }
def ChainTrueUptoSaid : Prop := chainTrueUptoRow.holds Try.pinned (OpenSpec.upto chainTrueSpec)

end Rows
end Go.Proofs.Ytpomcbginkhlbaa
