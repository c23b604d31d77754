/-
  DERIVED. GIVEN WITH THE SEED: THE CARDS: each row of YtabcengbnoidlaaGreatDoorRows.lean that lists a variable, with what it lists TIED to the program's text (the seventh form; the later family's looks); each row that meets fmt, with fmt's text TOLD by the authors' own Lean function (tested against real Go, not proved from fmt's source: count such statements apart). THE CARD IS WHAT COUNTS. Prove the row's statement (the work); the ties are given (YtabcengbnoidlaaGreatDoorTie.lean); close each card by the builder's one call (the guide's Derived/Test/ToyasCard.lean, 'card_holds'). Laid BY PROGRAM, IN A SANDBOX (cutbox-door.mjs). By AI agents, Wed Nov 11 2026. No macro, syntax, notation, axiom, sorry.
-/
import Derived.Test.YtabcengbnoidlaaGreatDoorRows
import GoSem.ClaimSeven
namespace Go.Proofs.YtabcengbnoidlaaGreatDoor
namespace Rows

/-- THE TIED CARD OF 'erratalaw23.CertifyRules'. -/
def certifyRulesCard : Claim7 := { stood := { row := certifyRulesRow, standIns := [], harness := (true, "9af3dbf77cbc734f685bf597ac24e9236ef1602686b6513acef8380462f9c92d"), looks := true }, kinds := [], alts := [], laidByText := true, laidKinds := [.data, .data, .data, .listed, .data], laidTests := true, laidLooks := .later }
def CertifyRulesCardSaid : Prop := Claim7.holds Tryz.pinned (.plain (OpenSpec.ofChange certifyRulesSpec)) certifyRulesCard

/-- THE TIED CARD OF 'erratalaw23.CertifyChains'. -/
def certifyChainsCard : Claim7 := { stood := { row := certifyChainsRow, standIns := [], harness := (true, "9af3dbf77cbc734f685bf597ac24e9236ef1602686b6513acef8380462f9c92d"), looks := true }, kinds := [], alts := [], laidByText := true, laidKinds := [.data, .data, .data, .listed, .data], laidTests := true, laidLooks := .later }
def CertifyChainsCardSaid : Prop := Claim7.holds Tryz.pinned (.plain (OpenSpec.ofChange certifyChainsSpec)) certifyChainsCard

/-- THE SECOND FORM's CARD OF 'erratalaw23.CertifyRules'. -/
def certifyRulesUptoCard : Claim7 := { stood := { row := certifyRulesUptoRow, standIns := [], harness := (true, "9af3dbf77cbc734f685bf597ac24e9236ef1602686b6513acef8380462f9c92d"), looks := true }, kinds := [], alts := [], laidByText := true, laidKinds := [.data, .data, .data, .listed, .data], laidTests := true, laidLooks := .later }
def CertifyRulesUptoCardSaid : Prop := Claim7.holds Tryz.pinned (.plain (OpenSpec.upto certifyRulesSpec)) certifyRulesUptoCard

/-- THE SECOND FORM's CARD OF 'erratalaw23.CertifyChains'. -/
def certifyChainsUptoCard : Claim7 := { stood := { row := certifyChainsUptoRow, standIns := [], harness := (true, "9af3dbf77cbc734f685bf597ac24e9236ef1602686b6513acef8380462f9c92d"), looks := true }, kinds := [], alts := [], laidByText := true, laidKinds := [.data, .data, .data, .listed, .data], laidTests := true, laidLooks := .later }
def CertifyChainsUptoCardSaid : Prop := Claim7.holds Tryz.pinned (.plain (OpenSpec.upto certifyChainsSpec)) certifyChainsUptoCard
end Rows
end Go.Proofs.YtabcengbnoidlaaGreatDoor
