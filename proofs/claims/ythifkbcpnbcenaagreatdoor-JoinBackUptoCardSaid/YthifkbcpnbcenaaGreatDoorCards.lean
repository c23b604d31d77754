/-
  DERIVED. GIVEN WITH THE SEED: THE CARDS: each row of YthifkbcpnbcenaaGreatDoorRows.lean that lists a variable, with what it lists TIED to the program's text (the seventh form; the later family's looks); each row that meets fmt, with fmt's text TOLD by the authors' own Lean function (tested against real Go, not proved from fmt's source: count such statements apart). THE CARD IS WHAT COUNTS. Prove the row's statement (the work); the ties are given (YthifkbcpnbcenaaGreatDoorTie.lean); close each card by the builder's one call (the guide's Derived/Test/ToyasCard.lean, 'card_holds'). Laid BY PROGRAM, IN A SANDBOX (cutbox-door.mjs). By AI agents, Wed Nov 11 2026. No macro, syntax, notation, axiom, sorry.
-/
import Derived.Test.YthifkbcpnbcenaaGreatDoorRows
import GoSem.ClaimSeven
namespace Go.Proofs.YthifkbcpnbcenaaGreatDoor
namespace Rows

/-- THE TIED CARD OF 'erratalaw32.JoinBack'. -/
def joinBackCard : Claim7 := { stood := { row := joinBackRow, standIns := [], harness := (true, "27e6cc9b08160e5a72e77968fcc7532322ed9fc542f5c306b6a05756bdfcb5f7"), looks := true }, kinds := [], alts := [], laidByText := true, laidKinds := [.data, .data, .data, .sentinel, .sentinel], laidTests := true, laidLooks := .later }
def JoinBackCardSaid : Prop := Claim7.holds Tryz.pinned (.plain (OpenSpec.ofChange joinBackSpec)) joinBackCard

/-- THE SECOND FORM's CARD OF 'erratalaw32.JoinBack'. -/
def joinBackUptoCard : Claim7 := { stood := { row := joinBackUptoRow, standIns := [], harness := (true, "27e6cc9b08160e5a72e77968fcc7532322ed9fc542f5c306b6a05756bdfcb5f7"), looks := true }, kinds := [], alts := [], laidByText := true, laidKinds := [.data, .data, .data, .sentinel, .sentinel], laidTests := true, laidLooks := .later }
def JoinBackUptoCardSaid : Prop := Claim7.holds Tryz.pinned (.plain (OpenSpec.upto joinBackSpec)) joinBackUptoCard
end Rows
end Go.Proofs.YthifkbcpnbcenaaGreatDoor
