/-
  DERIVED. GIVEN WITH THE SEED: THE CARDS: each row of YtleighbgfdocfaaGreatDoorRows.lean that lists a variable, with what it lists TIED to the program's text (the seventh form; the later family's looks); each row that meets fmt, with fmt's text TOLD by the authors' own Lean function (tested against real Go, not proved from fmt's source: count such statements apart). THE CARD IS WHAT COUNTS. Prove the row's statement (the work); the ties are given (YtleighbgfdocfaaGreatDoorTie.lean); close each card by the builder's one call (the guide's Derived/Test/ToyasCard.lean, 'card_holds'). Laid BY PROGRAM, IN A SANDBOX (cutbox-door.mjs). By AI agents, Wed Nov 11 2026. No macro, syntax, notation, axiom, sorry.
-/
import Derived.Test.YtleighbgfdocfaaGreatDoorRows
import GoSem.ClaimSeven
namespace Go.Proofs.YtleighbgfdocfaaGreatDoor
namespace Rows

/-- THE TIED CARD OF 'erratalaw32.JoinKeeps'. -/
def joinKeepsCard : Claim7 := { stood := { row := joinKeepsRow, standIns := [], harness := (true, "f2a4b72513ee6f263f737529bc2790dc2dd3e485daf64739d829dcb714974c08"), looks := true }, kinds := [], alts := [], laidByText := true, laidKinds := [.data, .data, .data], laidTests := true, laidLooks := .later }
def JoinKeepsCardSaid : Prop := Claim7.holds Tryz.pinned (.plain (OpenSpec.ofChange joinKeepsSpec)) joinKeepsCard

/-- THE TIED CARD OF 'erratalaw32.JoinTells'. -/
def joinTellsCard : Claim7 := { stood := { row := joinTellsRow, standIns := [], harness := (true, "f2a4b72513ee6f263f737529bc2790dc2dd3e485daf64739d829dcb714974c08"), looks := true }, kinds := [], alts := [], laidByText := true, laidKinds := [.data, .data, .data], laidTests := true, laidLooks := .later }
def JoinTellsCardSaid : Prop := Claim7.holds Tryz.pinned (.plain (OpenSpec.ofChange joinTellsSpec)) joinTellsCard

/-- THE TIED CARD OF 'erratalaw32.JoinTakes'. -/
def joinTakesCard : Claim7 := { stood := { row := joinTakesRow, standIns := [], harness := (true, "f2a4b72513ee6f263f737529bc2790dc2dd3e485daf64739d829dcb714974c08"), looks := true }, kinds := [], alts := [], laidByText := true, laidKinds := [.data, .data, .data], laidTests := true, laidLooks := .later }
def JoinTakesCardSaid : Prop := Claim7.holds Tryz.pinned (.plain (OpenSpec.ofChange joinTakesSpec)) joinTakesCard

/-- THE TIED CARD OF 'erratalaw32.JoinBack'. -/
def joinBackCard : Claim7 := { stood := { row := joinBackRow, standIns := [], harness := (true, "f2a4b72513ee6f263f737529bc2790dc2dd3e485daf64739d829dcb714974c08"), looks := true }, kinds := [], alts := [], laidByText := true, laidKinds := [.data, .data, .data, .sentinel, .sentinel], laidTests := true, laidLooks := .later }
def JoinBackCardSaid : Prop := Claim7.holds Tryz.pinned (.plain (OpenSpec.ofChange joinBackSpec)) joinBackCard

/-- THE SECOND FORM's CARD OF 'erratalaw32.JoinKeeps'. -/
def joinKeepsUptoCard : Claim7 := { stood := { row := joinKeepsUptoRow, standIns := [], harness := (true, "f2a4b72513ee6f263f737529bc2790dc2dd3e485daf64739d829dcb714974c08"), looks := true }, kinds := [], alts := [], laidByText := true, laidKinds := [.data, .data, .data], laidTests := true, laidLooks := .later }
def JoinKeepsUptoCardSaid : Prop := Claim7.holds Tryz.pinned (.plain (OpenSpec.upto joinKeepsSpec)) joinKeepsUptoCard

/-- THE SECOND FORM's CARD OF 'erratalaw32.JoinTells'. -/
def joinTellsUptoCard : Claim7 := { stood := { row := joinTellsUptoRow, standIns := [], harness := (true, "f2a4b72513ee6f263f737529bc2790dc2dd3e485daf64739d829dcb714974c08"), looks := true }, kinds := [], alts := [], laidByText := true, laidKinds := [.data, .data, .data], laidTests := true, laidLooks := .later }
def JoinTellsUptoCardSaid : Prop := Claim7.holds Tryz.pinned (.plain (OpenSpec.upto joinTellsSpec)) joinTellsUptoCard

/-- THE SECOND FORM's CARD OF 'erratalaw32.JoinTakes'. -/
def joinTakesUptoCard : Claim7 := { stood := { row := joinTakesUptoRow, standIns := [], harness := (true, "f2a4b72513ee6f263f737529bc2790dc2dd3e485daf64739d829dcb714974c08"), looks := true }, kinds := [], alts := [], laidByText := true, laidKinds := [.data, .data, .data], laidTests := true, laidLooks := .later }
def JoinTakesUptoCardSaid : Prop := Claim7.holds Tryz.pinned (.plain (OpenSpec.upto joinTakesSpec)) joinTakesUptoCard

/-- THE SECOND FORM's CARD OF 'erratalaw32.JoinBack'. -/
def joinBackUptoCard : Claim7 := { stood := { row := joinBackUptoRow, standIns := [], harness := (true, "f2a4b72513ee6f263f737529bc2790dc2dd3e485daf64739d829dcb714974c08"), looks := true }, kinds := [], alts := [], laidByText := true, laidKinds := [.data, .data, .data, .sentinel, .sentinel], laidTests := true, laidLooks := .later }
def JoinBackUptoCardSaid : Prop := Claim7.holds Tryz.pinned (.plain (OpenSpec.upto joinBackSpec)) joinBackUptoCard
end Rows
end Go.Proofs.YtleighbgfdocfaaGreatDoor
