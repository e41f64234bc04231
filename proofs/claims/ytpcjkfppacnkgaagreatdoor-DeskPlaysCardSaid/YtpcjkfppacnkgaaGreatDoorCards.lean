/-
  DERIVED. GIVEN WITH THE SEED: THE CARDS: each row of YtpcjkfppacnkgaaGreatDoorRows.lean that lists a variable, with what it lists TIED to the program's text (the seventh form; the later family's looks); each row that meets fmt, with fmt's text TOLD by the authors' own Lean function (tested against real Go, not proved from fmt's source: count such statements apart). THE CARD IS WHAT COUNTS. Prove the row's statement (the work); the ties are given (YtpcjkfppacnkgaaGreatDoorTie.lean); close each card by the builder's one call (the guide's Derived/Test/ToyasCard.lean, 'card_holds'). Laid BY PROGRAM, IN A SANDBOX (cutbox-door.mjs). By AI agents, Wed Nov 11 2026. No macro, syntax, notation, axiom, sorry.
-/
import Derived.Test.YtpcjkfppacnkgaaGreatDoorRows
import GoSem.ClaimSeven
namespace Go.Proofs.YtpcjkfppacnkgaaGreatDoor
namespace Rows

/-- THE TIED CARD OF 'glebelaw.DeskPlays'. -/
def deskPlaysCard : Claim7 := { stood := { row := deskPlaysRow, standIns := [], harness := (true, "72a8da402024f15c050b2dca0283b090f16dcdf9d3e418487f81a0af5f9a89c4"), looks := true }, kinds := [], alts := [], laidByText := true, laidKinds := [.data, .data, .data, .data, .sentinel, .sentinel, .listed, .data, .pinned], laidTests := true, laidLooks := .later }
def DeskPlaysCardSaid : Prop := Claim7.holds Tryz.pinned (.plain (OpenSpec.ofChange deskPlaysSpec)) deskPlaysCard

/-- THE TIED CARD OF 'glebelaw.DeskSteps'. -/
def deskStepsCard : Claim7 := { stood := { row := deskStepsRow, standIns := [], harness := (true, "72a8da402024f15c050b2dca0283b090f16dcdf9d3e418487f81a0af5f9a89c4"), looks := true }, kinds := [], alts := [], laidByText := true, laidKinds := [.data, .data, .data, .data, .sentinel, .sentinel, .listed, .data, .pinned], laidTests := true, laidLooks := .later }
def DeskStepsCardSaid : Prop := Claim7.holds Tryz.pinned (.plain (OpenSpec.ofChange deskStepsSpec)) deskStepsCard

/-- THE TIED CARD OF 'glebelaw.TextShows'. -/
def textShowsCard : Claim7 := { stood := { row := textShowsRow, standIns := [], harness := (true, "72a8da402024f15c050b2dca0283b090f16dcdf9d3e418487f81a0af5f9a89c4"), looks := true }, kinds := [], alts := [], laidByText := true, laidKinds := [.data, .data, .data, .data, .sentinel, .sentinel, .listed, .data, .pinned], laidTests := true, laidLooks := .later }
def TextShowsCardSaid : Prop := Claim7.holds Tryz.pinned (.plain (OpenSpec.ofChange textShowsSpec)) textShowsCard

/-- THE TIED CARD OF 'glebelaw.RestProgs'. -/
def restProgsCard : Claim7 := { stood := { row := restProgsRow, standIns := [], harness := (true, "72a8da402024f15c050b2dca0283b090f16dcdf9d3e418487f81a0af5f9a89c4"), looks := true }, kinds := [], alts := [], laidByText := true, laidKinds := [.data, .data, .data, .data, .sentinel, .sentinel, .listed, .data, .pinned], laidTests := true, laidLooks := .later }
def RestProgsCardSaid : Prop := Claim7.holds Tryz.pinned (.plain (OpenSpec.ofChange restProgsSpec)) restProgsCard

/-- THE SECOND FORM's CARD OF 'glebelaw.DeskPlays'. -/
def deskPlaysUptoCard : Claim7 := { stood := { row := deskPlaysUptoRow, standIns := [], harness := (true, "72a8da402024f15c050b2dca0283b090f16dcdf9d3e418487f81a0af5f9a89c4"), looks := true }, kinds := [], alts := [], laidByText := true, laidKinds := [.data, .data, .data, .data, .sentinel, .sentinel, .listed, .data, .pinned], laidTests := true, laidLooks := .later }
def DeskPlaysUptoCardSaid : Prop := Claim7.holds Tryz.pinned (.plain (OpenSpec.upto deskPlaysSpec)) deskPlaysUptoCard

/-- THE SECOND FORM's CARD OF 'glebelaw.DeskSteps'. -/
def deskStepsUptoCard : Claim7 := { stood := { row := deskStepsUptoRow, standIns := [], harness := (true, "72a8da402024f15c050b2dca0283b090f16dcdf9d3e418487f81a0af5f9a89c4"), looks := true }, kinds := [], alts := [], laidByText := true, laidKinds := [.data, .data, .data, .data, .sentinel, .sentinel, .listed, .data, .pinned], laidTests := true, laidLooks := .later }
def DeskStepsUptoCardSaid : Prop := Claim7.holds Tryz.pinned (.plain (OpenSpec.upto deskStepsSpec)) deskStepsUptoCard

/-- THE SECOND FORM's CARD OF 'glebelaw.TextShows'. -/
def textShowsUptoCard : Claim7 := { stood := { row := textShowsUptoRow, standIns := [], harness := (true, "72a8da402024f15c050b2dca0283b090f16dcdf9d3e418487f81a0af5f9a89c4"), looks := true }, kinds := [], alts := [], laidByText := true, laidKinds := [.data, .data, .data, .data, .sentinel, .sentinel, .listed, .data, .pinned], laidTests := true, laidLooks := .later }
def TextShowsUptoCardSaid : Prop := Claim7.holds Tryz.pinned (.plain (OpenSpec.upto textShowsSpec)) textShowsUptoCard

/-- THE SECOND FORM's CARD OF 'glebelaw.RestProgs'. -/
def restProgsUptoCard : Claim7 := { stood := { row := restProgsUptoRow, standIns := [], harness := (true, "72a8da402024f15c050b2dca0283b090f16dcdf9d3e418487f81a0af5f9a89c4"), looks := true }, kinds := [], alts := [], laidByText := true, laidKinds := [.data, .data, .data, .data, .sentinel, .sentinel, .listed, .data, .pinned], laidTests := true, laidLooks := .later }
def RestProgsUptoCardSaid : Prop := Claim7.holds Tryz.pinned (.plain (OpenSpec.upto restProgsSpec)) restProgsUptoCard
end Rows
end Go.Proofs.YtpcjkfppacnkgaaGreatDoor
