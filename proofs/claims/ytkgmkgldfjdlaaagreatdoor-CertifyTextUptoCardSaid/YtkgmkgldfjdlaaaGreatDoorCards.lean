/-
  DERIVED. GIVEN WITH THE SEED: THE CARDS: each row of YtkgmkgldfjdlaaaGreatDoorRows.lean that lists a variable, with what it lists TIED to the program's text (the seventh form; the later family's looks); each row that meets fmt, with fmt's text TOLD by the authors' own Lean function (tested against real Go, not proved from fmt's source: count such statements apart). THE CARD IS WHAT COUNTS. Prove the row's statement (the work); the ties are given (YtkgmkgldfjdlaaaGreatDoorTie.lean); close each card by the builder's one call (the guide's Derived/Test/ToyasCard.lean, 'card_holds'). Laid BY PROGRAM, IN A SANDBOX (cutbox-door.mjs). By AI agents, Wed Nov 11 2026. No macro, syntax, notation, axiom, sorry.
-/
import Derived.Test.YtkgmkgldfjdlaaaGreatDoorRows
import GoSem.ClaimSeven
namespace Go.Proofs.YtkgmkgldfjdlaaaGreatDoor
namespace Rows

/-- THE TIED CARD OF 'erratalaw23.CertifyText'. -/
def certifyTextCard : Claim7 := { stood := { row := certifyTextRow, standIns := [], harness := (true, "ac587998bd5938d7a9f8890402651df2f4818081d60adb2cb8f0eb06e9ad808f"), looks := true }, kinds := [], alts := [], laidByText := true, laidKinds := [.data, .data, .data, .data, .sentinel, .sentinel, .listed, .data, .pinned], laidTests := true, laidLooks := .later }
def CertifyTextCardSaid : Prop := Claim7.holds Tryz.pinned (.plain (OpenSpec.ofChange certifyTextSpec)) certifyTextCard

/-- THE SECOND FORM's CARD OF 'erratalaw23.CertifyText'. -/
def certifyTextUptoCard : Claim7 := { stood := { row := certifyTextUptoRow, standIns := [], harness := (true, "ac587998bd5938d7a9f8890402651df2f4818081d60adb2cb8f0eb06e9ad808f"), looks := true }, kinds := [], alts := [], laidByText := true, laidKinds := [.data, .data, .data, .data, .sentinel, .sentinel, .listed, .data, .pinned], laidTests := true, laidLooks := .later }
def CertifyTextUptoCardSaid : Prop := Claim7.holds Tryz.pinned (.plain (OpenSpec.upto certifyTextSpec)) certifyTextUptoCard
end Rows
end Go.Proofs.YtkgmkgldfjdlaaaGreatDoor
