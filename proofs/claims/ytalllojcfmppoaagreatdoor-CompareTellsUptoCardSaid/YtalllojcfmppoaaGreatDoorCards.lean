/-
  DERIVED. GIVEN WITH THE SEED: THE CARDS: each row of YtalllojcfmppoaaGreatDoorRows.lean that lists a variable, with what it lists TIED to the program's text (the seventh form; the later family's looks); each row that meets fmt, with fmt's text TOLD by the authors' own Lean function (tested against real Go, not proved from fmt's source: count such statements apart). THE CARD IS WHAT COUNTS. Prove the row's statement (the work); the ties are given (YtalllojcfmppoaaGreatDoorTie.lean); close each card by the builder's one call (the guide's Derived/Test/ToyasCard.lean, 'card_holds'). Laid BY PROGRAM, IN A SANDBOX (cutbox-door.mjs). By AI agents, Wed Nov 11 2026. No macro, syntax, notation, axiom, sorry.
-/
import Derived.Test.YtalllojcfmppoaaGreatDoorRows
import GoSem.ClaimSeven
namespace Go.Proofs.YtalllojcfmppoaaGreatDoor
namespace Rows

/-- THE TIED CARD OF 'erratalaw46.CompareTells'. -/
def compareTellsCard : Claim7 := { stood := { row := compareTellsRow, standIns := [], harness := (true, "e66883cf964aff46172e98facc0b5ec7213435fc5f680f956dc0961548a20103"), looks := true }, kinds := [], alts := [], laidByText := true, laidKinds := [.data, .data, .data, .sentinel, .sentinel], laidTests := true, laidLooks := .later }
def CompareTellsCardSaid : Prop := Claim7.holds Tryz.pinned (.plain (OpenSpec.ofChange compareTellsSpec)) compareTellsCard

/-- THE SECOND FORM's CARD OF 'erratalaw46.CompareTells'. -/
def compareTellsUptoCard : Claim7 := { stood := { row := compareTellsUptoRow, standIns := [], harness := (true, "e66883cf964aff46172e98facc0b5ec7213435fc5f680f956dc0961548a20103"), looks := true }, kinds := [], alts := [], laidByText := true, laidKinds := [.data, .data, .data, .sentinel, .sentinel], laidTests := true, laidLooks := .later }
def CompareTellsUptoCardSaid : Prop := Claim7.holds Tryz.pinned (.plain (OpenSpec.upto compareTellsSpec)) compareTellsUptoCard
end Rows
end Go.Proofs.YtalllojcfmppoaaGreatDoor
