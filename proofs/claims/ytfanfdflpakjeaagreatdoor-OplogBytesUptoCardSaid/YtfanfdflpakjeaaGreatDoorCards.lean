/-
  DERIVED. GIVEN WITH THE SEED: THE CARDS: each row of YtfanfdflpakjeaaGreatDoorRows.lean that lists a variable, with what it lists TIED to the program's text (the seventh form; the later family's looks); each row that meets fmt, with fmt's text TOLD by the authors' own Lean function (tested against real Go, not proved from fmt's source: count such statements apart). THE CARD IS WHAT COUNTS. Prove the row's statement (the work); the ties are given (YtfanfdflpakjeaaGreatDoorTie.lean); close each card by the builder's one call (the guide's Derived/Test/ToyasCard.lean, 'card_holds'). Laid BY PROGRAM, IN A SANDBOX (cutbox-door.mjs). By AI agents, Wed Nov 11 2026. No macro, syntax, notation, axiom, sorry.
-/
import Derived.Test.YtfanfdflpakjeaaGreatDoorRows
import GoSem.ClaimSeven
namespace Go.Proofs.YtfanfdflpakjeaaGreatDoor
namespace Rows

/-- THE TIED CARD OF 'hindcastlaw17.CommandParses'. -/
def commandParsesCard : Claim7 := { stood := { row := commandParsesRow, standIns := [], harness := (true, "1b8154fc6baef69c22d04b423b7dd1732c017c73b1e19009b2d3ba36816cfbaf"), looks := true }, kinds := [], alts := [], laidByText := true, laidKinds := [.data, .data, .data, .handle, .sentinel, .sentinel, .data, .data], laidTests := true, laidLooks := .later }
def CommandParsesCardSaid : Prop := Claim7.holds Tryz.pinned (.plain (OpenSpec.ofChange commandParsesSpec)) commandParsesCard

/-- THE TIED CARD OF 'hindcastlaw17.CommandPrints'. -/
def commandPrintsCard : Claim7 := { stood := { row := commandPrintsRow, standIns := [], harness := (true, "1b8154fc6baef69c22d04b423b7dd1732c017c73b1e19009b2d3ba36816cfbaf"), looks := true }, kinds := [], alts := [], laidByText := true, laidKinds := [.data, .data, .data, .handle, .sentinel, .sentinel, .data, .data], laidTests := true, laidLooks := .later }
def CommandPrintsCardSaid : Prop := Claim7.holds Tryz.pinned (.plain (OpenSpec.ofChange commandPrintsSpec)) commandPrintsCard

/-- THE TIED CARD OF 'hindcastlaw17.CommandBack'. -/
def commandBackCard : Claim7 := { stood := { row := commandBackRow, standIns := [], harness := (true, "1b8154fc6baef69c22d04b423b7dd1732c017c73b1e19009b2d3ba36816cfbaf"), looks := true }, kinds := [], alts := [], laidByText := true, laidKinds := [.data, .data, .data, .handle, .sentinel, .sentinel, .data, .data], laidTests := true, laidLooks := .later }
def CommandBackCardSaid : Prop := Claim7.holds Tryz.pinned (.plain (OpenSpec.ofChange commandBackSpec)) commandBackCard

/-- THE TIED CARD OF 'hindcastlaw17.CommandGets'. -/
def commandGetsCard : Claim7 := { stood := { row := commandGetsRow, standIns := [], harness := (true, "1b8154fc6baef69c22d04b423b7dd1732c017c73b1e19009b2d3ba36816cfbaf"), looks := true }, kinds := [], alts := [], laidByText := true, laidKinds := [.data, .data, .data, .handle, .sentinel, .sentinel, .data, .data], laidTests := true, laidLooks := .later }
def CommandGetsCardSaid : Prop := Claim7.holds Tryz.pinned (.plain (OpenSpec.ofChange commandGetsSpec)) commandGetsCard

/-- THE TIED CARD OF 'hindcastlaw17.CommandBytes'. -/
def commandBytesCard : Claim7 := { stood := { row := commandBytesRow, standIns := [], harness := (true, "1b8154fc6baef69c22d04b423b7dd1732c017c73b1e19009b2d3ba36816cfbaf"), looks := true }, kinds := [], alts := [], laidByText := true, laidKinds := [.data, .data, .data, .handle, .sentinel, .sentinel, .data, .data], laidTests := true, laidLooks := .later }
def CommandBytesCardSaid : Prop := Claim7.holds Tryz.pinned (.plain (OpenSpec.ofChange commandBytesSpec)) commandBytesCard

/-- THE TIED CARD OF 'hindcastlaw17.CommandNil'. -/
def commandNilCard : Claim7 := { stood := { row := commandNilRow, standIns := [], harness := (true, "1b8154fc6baef69c22d04b423b7dd1732c017c73b1e19009b2d3ba36816cfbaf"), looks := true }, kinds := [], alts := [], laidByText := true, laidKinds := [.data, .data, .data, .handle, .sentinel, .sentinel, .data, .data], laidTests := true, laidLooks := .later }
def CommandNilCardSaid : Prop := Claim7.holds Tryz.pinned (.plain (OpenSpec.ofChange commandNilSpec)) commandNilCard

/-- THE TIED CARD OF 'hindcastlaw20.OplogAsks'. -/
def oplogAsksCard : Claim7 := { stood := { row := oplogAsksRow, standIns := [], harness := (true, "1b8154fc6baef69c22d04b423b7dd1732c017c73b1e19009b2d3ba36816cfbaf"), looks := true }, kinds := [], alts := [], laidByText := true, laidKinds := [.data, .data, .data, .handle, .sentinel, .sentinel, .data, .data], laidTests := true, laidLooks := .later }
def OplogAsksCardSaid : Prop := Claim7.holds Tryz.pinned (.plain (OpenSpec.ofChange oplogAsksSpec)) oplogAsksCard

/-- THE TIED CARD OF 'hindcastlaw20.OplogTurns'. -/
def oplogTurnsCard : Claim7 := { stood := { row := oplogTurnsRow, standIns := [], harness := (true, "1b8154fc6baef69c22d04b423b7dd1732c017c73b1e19009b2d3ba36816cfbaf"), looks := true }, kinds := [], alts := [], laidByText := true, laidKinds := [.data, .data, .data, .handle, .sentinel, .sentinel, .data, .data], laidTests := true, laidLooks := .later }
def OplogTurnsCardSaid : Prop := Claim7.holds Tryz.pinned (.plain (OpenSpec.ofChange oplogTurnsSpec)) oplogTurnsCard

/-- THE TIED CARD OF 'hindcastlaw20.OplogParts'. -/
def oplogPartsCard : Claim7 := { stood := { row := oplogPartsRow, standIns := [], harness := (true, "1b8154fc6baef69c22d04b423b7dd1732c017c73b1e19009b2d3ba36816cfbaf"), looks := true }, kinds := [], alts := [], laidByText := true, laidKinds := [.data, .data, .data, .handle, .sentinel, .sentinel, .data, .data], laidTests := true, laidLooks := .later }
def OplogPartsCardSaid : Prop := Claim7.holds Tryz.pinned (.plain (OpenSpec.ofChange oplogPartsSpec)) oplogPartsCard

/-- THE TIED CARD OF 'hindcastlaw20.OplogBytes'. -/
def oplogBytesCard : Claim7 := { stood := { row := oplogBytesRow, standIns := [], harness := (true, "1b8154fc6baef69c22d04b423b7dd1732c017c73b1e19009b2d3ba36816cfbaf"), looks := true }, kinds := [], alts := [], laidByText := true, laidKinds := [.data, .data, .data, .handle, .sentinel, .sentinel, .data, .data], laidTests := true, laidLooks := .later }
def OplogBytesCardSaid : Prop := Claim7.holds Tryz.pinned (.plain (OpenSpec.ofChange oplogBytesSpec)) oplogBytesCard

/-- THE TIED CARD OF 'hindcastlaw20.OplogBack'. -/
def oplogBackCard : Claim7 := { stood := { row := oplogBackRow, standIns := [], harness := (true, "1b8154fc6baef69c22d04b423b7dd1732c017c73b1e19009b2d3ba36816cfbaf"), looks := true }, kinds := [], alts := [], laidByText := true, laidKinds := [.data, .data, .data, .handle, .sentinel, .sentinel, .data, .data], laidTests := true, laidLooks := .later }
def OplogBackCardSaid : Prop := Claim7.holds Tryz.pinned (.plain (OpenSpec.ofChange oplogBackSpec)) oplogBackCard

/-- THE TIED CARD OF 'hindcastlaw20.OplogSame'. -/
def oplogSameCard : Claim7 := { stood := { row := oplogSameRow, standIns := [], harness := (true, "1b8154fc6baef69c22d04b423b7dd1732c017c73b1e19009b2d3ba36816cfbaf"), looks := true }, kinds := [], alts := [], laidByText := true, laidKinds := [.data, .data, .data, .handle, .sentinel, .sentinel, .data, .data], laidTests := true, laidLooks := .later }
def OplogSameCardSaid : Prop := Claim7.holds Tryz.pinned (.plain (OpenSpec.ofChange oplogSameSpec)) oplogSameCard

/-- THE SECOND FORM's CARD OF 'hindcastlaw17.CommandParses'. -/
def commandParsesUptoCard : Claim7 := { stood := { row := commandParsesUptoRow, standIns := [], harness := (true, "1b8154fc6baef69c22d04b423b7dd1732c017c73b1e19009b2d3ba36816cfbaf"), looks := true }, kinds := [], alts := [], laidByText := true, laidKinds := [.data, .data, .data, .handle, .sentinel, .sentinel, .data, .data], laidTests := true, laidLooks := .later }
def CommandParsesUptoCardSaid : Prop := Claim7.holds Tryz.pinned (.plain (OpenSpec.upto commandParsesSpec)) commandParsesUptoCard

/-- THE SECOND FORM's CARD OF 'hindcastlaw17.CommandPrints'. -/
def commandPrintsUptoCard : Claim7 := { stood := { row := commandPrintsUptoRow, standIns := [], harness := (true, "1b8154fc6baef69c22d04b423b7dd1732c017c73b1e19009b2d3ba36816cfbaf"), looks := true }, kinds := [], alts := [], laidByText := true, laidKinds := [.data, .data, .data, .handle, .sentinel, .sentinel, .data, .data], laidTests := true, laidLooks := .later }
def CommandPrintsUptoCardSaid : Prop := Claim7.holds Tryz.pinned (.plain (OpenSpec.upto commandPrintsSpec)) commandPrintsUptoCard

/-- THE SECOND FORM's CARD OF 'hindcastlaw17.CommandBack'. -/
def commandBackUptoCard : Claim7 := { stood := { row := commandBackUptoRow, standIns := [], harness := (true, "1b8154fc6baef69c22d04b423b7dd1732c017c73b1e19009b2d3ba36816cfbaf"), looks := true }, kinds := [], alts := [], laidByText := true, laidKinds := [.data, .data, .data, .handle, .sentinel, .sentinel, .data, .data], laidTests := true, laidLooks := .later }
def CommandBackUptoCardSaid : Prop := Claim7.holds Tryz.pinned (.plain (OpenSpec.upto commandBackSpec)) commandBackUptoCard

/-- THE SECOND FORM's CARD OF 'hindcastlaw17.CommandGets'. -/
def commandGetsUptoCard : Claim7 := { stood := { row := commandGetsUptoRow, standIns := [], harness := (true, "1b8154fc6baef69c22d04b423b7dd1732c017c73b1e19009b2d3ba36816cfbaf"), looks := true }, kinds := [], alts := [], laidByText := true, laidKinds := [.data, .data, .data, .handle, .sentinel, .sentinel, .data, .data], laidTests := true, laidLooks := .later }
def CommandGetsUptoCardSaid : Prop := Claim7.holds Tryz.pinned (.plain (OpenSpec.upto commandGetsSpec)) commandGetsUptoCard

/-- THE SECOND FORM's CARD OF 'hindcastlaw17.CommandBytes'. -/
def commandBytesUptoCard : Claim7 := { stood := { row := commandBytesUptoRow, standIns := [], harness := (true, "1b8154fc6baef69c22d04b423b7dd1732c017c73b1e19009b2d3ba36816cfbaf"), looks := true }, kinds := [], alts := [], laidByText := true, laidKinds := [.data, .data, .data, .handle, .sentinel, .sentinel, .data, .data], laidTests := true, laidLooks := .later }
def CommandBytesUptoCardSaid : Prop := Claim7.holds Tryz.pinned (.plain (OpenSpec.upto commandBytesSpec)) commandBytesUptoCard

/-- THE SECOND FORM's CARD OF 'hindcastlaw17.CommandNil'. -/
def commandNilUptoCard : Claim7 := { stood := { row := commandNilUptoRow, standIns := [], harness := (true, "1b8154fc6baef69c22d04b423b7dd1732c017c73b1e19009b2d3ba36816cfbaf"), looks := true }, kinds := [], alts := [], laidByText := true, laidKinds := [.data, .data, .data, .handle, .sentinel, .sentinel, .data, .data], laidTests := true, laidLooks := .later }
def CommandNilUptoCardSaid : Prop := Claim7.holds Tryz.pinned (.plain (OpenSpec.upto commandNilSpec)) commandNilUptoCard

/-- THE SECOND FORM's CARD OF 'hindcastlaw20.OplogAsks'. -/
def oplogAsksUptoCard : Claim7 := { stood := { row := oplogAsksUptoRow, standIns := [], harness := (true, "1b8154fc6baef69c22d04b423b7dd1732c017c73b1e19009b2d3ba36816cfbaf"), looks := true }, kinds := [], alts := [], laidByText := true, laidKinds := [.data, .data, .data, .handle, .sentinel, .sentinel, .data, .data], laidTests := true, laidLooks := .later }
def OplogAsksUptoCardSaid : Prop := Claim7.holds Tryz.pinned (.plain (OpenSpec.upto oplogAsksSpec)) oplogAsksUptoCard

/-- THE SECOND FORM's CARD OF 'hindcastlaw20.OplogTurns'. -/
def oplogTurnsUptoCard : Claim7 := { stood := { row := oplogTurnsUptoRow, standIns := [], harness := (true, "1b8154fc6baef69c22d04b423b7dd1732c017c73b1e19009b2d3ba36816cfbaf"), looks := true }, kinds := [], alts := [], laidByText := true, laidKinds := [.data, .data, .data, .handle, .sentinel, .sentinel, .data, .data], laidTests := true, laidLooks := .later }
def OplogTurnsUptoCardSaid : Prop := Claim7.holds Tryz.pinned (.plain (OpenSpec.upto oplogTurnsSpec)) oplogTurnsUptoCard

/-- THE SECOND FORM's CARD OF 'hindcastlaw20.OplogParts'. -/
def oplogPartsUptoCard : Claim7 := { stood := { row := oplogPartsUptoRow, standIns := [], harness := (true, "1b8154fc6baef69c22d04b423b7dd1732c017c73b1e19009b2d3ba36816cfbaf"), looks := true }, kinds := [], alts := [], laidByText := true, laidKinds := [.data, .data, .data, .handle, .sentinel, .sentinel, .data, .data], laidTests := true, laidLooks := .later }
def OplogPartsUptoCardSaid : Prop := Claim7.holds Tryz.pinned (.plain (OpenSpec.upto oplogPartsSpec)) oplogPartsUptoCard

/-- THE SECOND FORM's CARD OF 'hindcastlaw20.OplogBytes'. -/
def oplogBytesUptoCard : Claim7 := { stood := { row := oplogBytesUptoRow, standIns := [], harness := (true, "1b8154fc6baef69c22d04b423b7dd1732c017c73b1e19009b2d3ba36816cfbaf"), looks := true }, kinds := [], alts := [], laidByText := true, laidKinds := [.data, .data, .data, .handle, .sentinel, .sentinel, .data, .data], laidTests := true, laidLooks := .later }
def OplogBytesUptoCardSaid : Prop := Claim7.holds Tryz.pinned (.plain (OpenSpec.upto oplogBytesSpec)) oplogBytesUptoCard

/-- THE SECOND FORM's CARD OF 'hindcastlaw20.OplogBack'. -/
def oplogBackUptoCard : Claim7 := { stood := { row := oplogBackUptoRow, standIns := [], harness := (true, "1b8154fc6baef69c22d04b423b7dd1732c017c73b1e19009b2d3ba36816cfbaf"), looks := true }, kinds := [], alts := [], laidByText := true, laidKinds := [.data, .data, .data, .handle, .sentinel, .sentinel, .data, .data], laidTests := true, laidLooks := .later }
def OplogBackUptoCardSaid : Prop := Claim7.holds Tryz.pinned (.plain (OpenSpec.upto oplogBackSpec)) oplogBackUptoCard

/-- THE SECOND FORM's CARD OF 'hindcastlaw20.OplogSame'. -/
def oplogSameUptoCard : Claim7 := { stood := { row := oplogSameUptoRow, standIns := [], harness := (true, "1b8154fc6baef69c22d04b423b7dd1732c017c73b1e19009b2d3ba36816cfbaf"), looks := true }, kinds := [], alts := [], laidByText := true, laidKinds := [.data, .data, .data, .handle, .sentinel, .sentinel, .data, .data], laidTests := true, laidLooks := .later }
def OplogSameUptoCardSaid : Prop := Claim7.holds Tryz.pinned (.plain (OpenSpec.upto oplogSameSpec)) oplogSameUptoCard
end Rows
end Go.Proofs.YtfanfdflpakjeaaGreatDoor
