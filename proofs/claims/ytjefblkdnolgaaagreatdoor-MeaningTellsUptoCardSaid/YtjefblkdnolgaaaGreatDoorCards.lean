/-
  DERIVED. GIVEN WITH THE SEED: THE CARDS: each row of YtjefblkdnolgaaaGreatDoorRows.lean that lists a variable, with what it lists TIED to the program's text (the seventh form; the later family's looks); each row that meets fmt, with fmt's text TOLD by the authors' own Lean function (tested against real Go, not proved from fmt's source: count such statements apart). THE CARD IS WHAT COUNTS. Prove the row's statement (the work); the ties are given (YtjefblkdnolgaaaGreatDoorTie.lean); close each card by the builder's one call (the guide's Derived/Test/ToyasCard.lean, 'card_holds'). Laid BY PROGRAM, IN A SANDBOX (cutbox-door.mjs). By AI agents, Wed Nov 11 2026. No macro, syntax, notation, axiom, sorry.
-/
import Derived.Test.YtjefblkdnolgaaaGreatDoorRows
import GoSem.ClaimSeven
namespace Go.Proofs.YtjefblkdnolgaaaGreatDoor
namespace Rows

/-- THE TIED CARD OF 'erratalaw33.PatternForgets'. -/
def patternForgetsCard : Claim7 := { stood := { row := patternForgetsRow, standIns := [], harness := (true, "54852a4bc1d8f3030d970a274c8bd655702f2a20be7a0a398391c1e347041f14"), looks := true }, kinds := [], alts := [], laidByText := true, laidKinds := [.data, .data, .data], laidTests := true, laidLooks := .later }
def PatternForgetsCardSaid : Prop := Claim7.holds Tryz.pinned (.plain (OpenSpec.ofChange patternForgetsSpec)) patternForgetsCard

/-- THE TIED CARD OF 'erratalaw33.PatternKeys'. -/
def patternKeysCard : Claim7 := { stood := { row := patternKeysRow, standIns := [], harness := (true, "54852a4bc1d8f3030d970a274c8bd655702f2a20be7a0a398391c1e347041f14"), looks := true }, kinds := [], alts := [], laidByText := true, laidKinds := [.data, .data, .data], laidTests := true, laidLooks := .later }
def PatternKeysCardSaid : Prop := Claim7.holds Tryz.pinned (.plain (OpenSpec.ofChange patternKeysSpec)) patternKeysCard

/-- THE TIED CARD OF 'erratalaw33.PatternOrder'. -/
def patternOrderCard : Claim7 := { stood := { row := patternOrderRow, standIns := [], harness := (true, "54852a4bc1d8f3030d970a274c8bd655702f2a20be7a0a398391c1e347041f14"), looks := true }, kinds := [], alts := [], laidByText := true, laidKinds := [.data, .data, .data], laidTests := true, laidLooks := .later }
def PatternOrderCardSaid : Prop := Claim7.holds Tryz.pinned (.plain (OpenSpec.ofChange patternOrderSpec)) patternOrderCard

/-- THE TIED CARD OF 'erratalaw21.MeaningTells'. -/
def meaningTellsCard : Claim7 := { stood := { row := meaningTellsRow, standIns := [], harness := (true, "54852a4bc1d8f3030d970a274c8bd655702f2a20be7a0a398391c1e347041f14"), looks := true }, kinds := [], alts := [], laidByText := true, laidKinds := [.data, .data, .data], laidTests := true, laidLooks := .later }
def MeaningTellsCardSaid : Prop := Claim7.holds Tryz.pinned (.plain (OpenSpec.ofChange meaningTellsSpec)) meaningTellsCard

/-- THE TIED CARD OF 'erratalaw21.MeaningLinear'. -/
def meaningLinearCard : Claim7 := { stood := { row := meaningLinearRow, standIns := [], harness := (true, "54852a4bc1d8f3030d970a274c8bd655702f2a20be7a0a398391c1e347041f14"), looks := true }, kinds := [], alts := [], laidByText := true, laidKinds := [.data, .data, .data], laidTests := true, laidLooks := .later }
def MeaningLinearCardSaid : Prop := Claim7.holds Tryz.pinned (.plain (OpenSpec.ofChange meaningLinearSpec)) meaningLinearCard

/-- THE TIED CARD OF 'erratalaw21.MeaningRows'. -/
def meaningRowsCard : Claim7 := { stood := { row := meaningRowsRow, standIns := [], harness := (true, "54852a4bc1d8f3030d970a274c8bd655702f2a20be7a0a398391c1e347041f14"), looks := true }, kinds := [], alts := [], laidByText := true, laidKinds := [.data, .data, .data], laidTests := true, laidLooks := .later }
def MeaningRowsCardSaid : Prop := Claim7.holds Tryz.pinned (.plain (OpenSpec.ofChange meaningRowsSpec)) meaningRowsCard

/-- THE TIED CARD OF 'erratalaw21.MeaningBack'. -/
def meaningBackCard : Claim7 := { stood := { row := meaningBackRow, standIns := [], harness := (true, "54852a4bc1d8f3030d970a274c8bd655702f2a20be7a0a398391c1e347041f14"), looks := true }, kinds := [], alts := [], laidByText := true, laidKinds := [.data, .data, .data], laidTests := true, laidLooks := .later }
def MeaningBackCardSaid : Prop := Claim7.holds Tryz.pinned (.plain (OpenSpec.ofChange meaningBackSpec)) meaningBackCard

/-- THE TIED CARD OF 'erratalaw33.PatternTells'. -/
def patternTellsCard : Claim7 := { stood := { row := patternTellsRow, standIns := [], harness := (true, "54852a4bc1d8f3030d970a274c8bd655702f2a20be7a0a398391c1e347041f14"), looks := true }, kinds := [], alts := [], laidByText := true, laidKinds := [.data, .data, .data, .sentinel, .sentinel], laidTests := true, laidLooks := .later }
def PatternTellsCardSaid : Prop := Claim7.holds Tryz.pinned (.plain (OpenSpec.ofChange patternTellsSpec)) patternTellsCard

/-- THE TIED CARD OF 'erratalaw33.PatternBack'. -/
def patternBackCard : Claim7 := { stood := { row := patternBackRow, standIns := [], harness := (true, "54852a4bc1d8f3030d970a274c8bd655702f2a20be7a0a398391c1e347041f14"), looks := true }, kinds := [], alts := [], laidByText := true, laidKinds := [.data, .data, .data, .sentinel, .sentinel], laidTests := true, laidLooks := .later }
def PatternBackCardSaid : Prop := Claim7.holds Tryz.pinned (.plain (OpenSpec.ofChange patternBackSpec)) patternBackCard

/-- THE TIED CARD OF 'erratalaw32.JoinSums'. -/
def joinSumsCard : Claim7 := { stood := { row := joinSumsRow, standIns := [], harness := (true, "54852a4bc1d8f3030d970a274c8bd655702f2a20be7a0a398391c1e347041f14"), looks := true }, kinds := [], alts := [], laidByText := true, laidKinds := [.data, .data, .data], laidTests := true, laidLooks := .later }
def JoinSumsCardSaid : Prop := Claim7.holds Tryz.pinned (.plain (OpenSpec.ofChange joinSumsSpec)) joinSumsCard

/-- THE TIED CARD OF 'erratalaw33.PatternSums'. -/
def patternSumsCard : Claim7 := { stood := { row := patternSumsRow, standIns := [], harness := (true, "54852a4bc1d8f3030d970a274c8bd655702f2a20be7a0a398391c1e347041f14"), looks := true }, kinds := [], alts := [], laidByText := true, laidKinds := [.data, .data, .data], laidTests := true, laidLooks := .later }
def PatternSumsCardSaid : Prop := Claim7.holds Tryz.pinned (.plain (OpenSpec.ofChange patternSumsSpec)) patternSumsCard

/-- THE SECOND FORM's CARD OF 'erratalaw33.PatternForgets'. -/
def patternForgetsUptoCard : Claim7 := { stood := { row := patternForgetsUptoRow, standIns := [], harness := (true, "54852a4bc1d8f3030d970a274c8bd655702f2a20be7a0a398391c1e347041f14"), looks := true }, kinds := [], alts := [], laidByText := true, laidKinds := [.data, .data, .data], laidTests := true, laidLooks := .later }
def PatternForgetsUptoCardSaid : Prop := Claim7.holds Tryz.pinned (.plain (OpenSpec.upto patternForgetsSpec)) patternForgetsUptoCard

/-- THE SECOND FORM's CARD OF 'erratalaw33.PatternKeys'. -/
def patternKeysUptoCard : Claim7 := { stood := { row := patternKeysUptoRow, standIns := [], harness := (true, "54852a4bc1d8f3030d970a274c8bd655702f2a20be7a0a398391c1e347041f14"), looks := true }, kinds := [], alts := [], laidByText := true, laidKinds := [.data, .data, .data], laidTests := true, laidLooks := .later }
def PatternKeysUptoCardSaid : Prop := Claim7.holds Tryz.pinned (.plain (OpenSpec.upto patternKeysSpec)) patternKeysUptoCard

/-- THE SECOND FORM's CARD OF 'erratalaw33.PatternOrder'. -/
def patternOrderUptoCard : Claim7 := { stood := { row := patternOrderUptoRow, standIns := [], harness := (true, "54852a4bc1d8f3030d970a274c8bd655702f2a20be7a0a398391c1e347041f14"), looks := true }, kinds := [], alts := [], laidByText := true, laidKinds := [.data, .data, .data], laidTests := true, laidLooks := .later }
def PatternOrderUptoCardSaid : Prop := Claim7.holds Tryz.pinned (.plain (OpenSpec.upto patternOrderSpec)) patternOrderUptoCard

/-- THE SECOND FORM's CARD OF 'erratalaw21.MeaningTells'. -/
def meaningTellsUptoCard : Claim7 := { stood := { row := meaningTellsUptoRow, standIns := [], harness := (true, "54852a4bc1d8f3030d970a274c8bd655702f2a20be7a0a398391c1e347041f14"), looks := true }, kinds := [], alts := [], laidByText := true, laidKinds := [.data, .data, .data], laidTests := true, laidLooks := .later }
def MeaningTellsUptoCardSaid : Prop := Claim7.holds Tryz.pinned (.plain (OpenSpec.upto meaningTellsSpec)) meaningTellsUptoCard

/-- THE SECOND FORM's CARD OF 'erratalaw21.MeaningLinear'. -/
def meaningLinearUptoCard : Claim7 := { stood := { row := meaningLinearUptoRow, standIns := [], harness := (true, "54852a4bc1d8f3030d970a274c8bd655702f2a20be7a0a398391c1e347041f14"), looks := true }, kinds := [], alts := [], laidByText := true, laidKinds := [.data, .data, .data], laidTests := true, laidLooks := .later }
def MeaningLinearUptoCardSaid : Prop := Claim7.holds Tryz.pinned (.plain (OpenSpec.upto meaningLinearSpec)) meaningLinearUptoCard

/-- THE SECOND FORM's CARD OF 'erratalaw21.MeaningRows'. -/
def meaningRowsUptoCard : Claim7 := { stood := { row := meaningRowsUptoRow, standIns := [], harness := (true, "54852a4bc1d8f3030d970a274c8bd655702f2a20be7a0a398391c1e347041f14"), looks := true }, kinds := [], alts := [], laidByText := true, laidKinds := [.data, .data, .data], laidTests := true, laidLooks := .later }
def MeaningRowsUptoCardSaid : Prop := Claim7.holds Tryz.pinned (.plain (OpenSpec.upto meaningRowsSpec)) meaningRowsUptoCard

/-- THE SECOND FORM's CARD OF 'erratalaw21.MeaningBack'. -/
def meaningBackUptoCard : Claim7 := { stood := { row := meaningBackUptoRow, standIns := [], harness := (true, "54852a4bc1d8f3030d970a274c8bd655702f2a20be7a0a398391c1e347041f14"), looks := true }, kinds := [], alts := [], laidByText := true, laidKinds := [.data, .data, .data], laidTests := true, laidLooks := .later }
def MeaningBackUptoCardSaid : Prop := Claim7.holds Tryz.pinned (.plain (OpenSpec.upto meaningBackSpec)) meaningBackUptoCard

/-- THE SECOND FORM's CARD OF 'erratalaw33.PatternTells'. -/
def patternTellsUptoCard : Claim7 := { stood := { row := patternTellsUptoRow, standIns := [], harness := (true, "54852a4bc1d8f3030d970a274c8bd655702f2a20be7a0a398391c1e347041f14"), looks := true }, kinds := [], alts := [], laidByText := true, laidKinds := [.data, .data, .data, .sentinel, .sentinel], laidTests := true, laidLooks := .later }
def PatternTellsUptoCardSaid : Prop := Claim7.holds Tryz.pinned (.plain (OpenSpec.upto patternTellsSpec)) patternTellsUptoCard

/-- THE SECOND FORM's CARD OF 'erratalaw33.PatternBack'. -/
def patternBackUptoCard : Claim7 := { stood := { row := patternBackUptoRow, standIns := [], harness := (true, "54852a4bc1d8f3030d970a274c8bd655702f2a20be7a0a398391c1e347041f14"), looks := true }, kinds := [], alts := [], laidByText := true, laidKinds := [.data, .data, .data, .sentinel, .sentinel], laidTests := true, laidLooks := .later }
def PatternBackUptoCardSaid : Prop := Claim7.holds Tryz.pinned (.plain (OpenSpec.upto patternBackSpec)) patternBackUptoCard

/-- THE SECOND FORM's CARD OF 'erratalaw32.JoinSums'. -/
def joinSumsUptoCard : Claim7 := { stood := { row := joinSumsUptoRow, standIns := [], harness := (true, "54852a4bc1d8f3030d970a274c8bd655702f2a20be7a0a398391c1e347041f14"), looks := true }, kinds := [], alts := [], laidByText := true, laidKinds := [.data, .data, .data], laidTests := true, laidLooks := .later }
def JoinSumsUptoCardSaid : Prop := Claim7.holds Tryz.pinned (.plain (OpenSpec.upto joinSumsSpec)) joinSumsUptoCard

/-- THE SECOND FORM's CARD OF 'erratalaw33.PatternSums'. -/
def patternSumsUptoCard : Claim7 := { stood := { row := patternSumsUptoRow, standIns := [], harness := (true, "54852a4bc1d8f3030d970a274c8bd655702f2a20be7a0a398391c1e347041f14"), looks := true }, kinds := [], alts := [], laidByText := true, laidKinds := [.data, .data, .data], laidTests := true, laidLooks := .later }
def PatternSumsUptoCardSaid : Prop := Claim7.holds Tryz.pinned (.plain (OpenSpec.upto patternSumsSpec)) patternSumsUptoCard
end Rows
end Go.Proofs.YtjefblkdnolgaaaGreatDoor
