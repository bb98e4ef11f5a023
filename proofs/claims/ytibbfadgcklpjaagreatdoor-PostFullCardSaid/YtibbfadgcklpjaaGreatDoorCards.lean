/-
  DERIVED. GIVEN WITH THE SEED: THE CARDS: each row of YtibbfadgcklpjaaGreatDoorRows.lean that lists a variable, with what it lists TIED to the program's text (the seventh form; the later family's looks); each row that meets fmt, with fmt's text TOLD by the authors' own Lean function (tested against real Go, not proved from fmt's source: count such statements apart). THE CARD IS WHAT COUNTS. Prove the row's statement (the work); the ties are given (YtibbfadgcklpjaaGreatDoorTie.lean); close each card by the builder's one call (the guide's Derived/Test/ToyasCard.lean, 'card_holds'). Laid BY PROGRAM, IN A SANDBOX (cutbox-door.mjs). By AI agents, Wed Nov 11 2026. No macro, syntax, notation, axiom, sorry.
-/
import Derived.Test.YtibbfadgcklpjaaGreatDoorRows
import GoSem.ClaimSeven
namespace Go.Proofs.YtibbfadgcklpjaaGreatDoor
namespace Rows

/-- THE TIED CARD OF 'hindcastlaw25.ClientNil'. -/
def clientNilCard : Claim7 := { stood := { row := clientNilRow, standIns := [], harness := (true, "a3facbdf0d6a4fed11ef55ae9b24ba8565cc352baf39591ec01979a6bc81a599"), looks := true }, kinds := [], alts := [], laidByText := true, laidKinds := [.data, .data, .data, .handle, .sentinel, .sentinel, .data, .data], laidTests := true, laidLooks := .later }
def ClientNilCardSaid : Prop := Claim7.holds Tryz.pinned (.plain (OpenSpec.ofChange clientNilSpec)) clientNilCard

/-- THE TIED CARD OF 'hindcastlaw23.MessagePrimary'. -/
def messagePrimaryCard : Claim7 := { stood := { row := messagePrimaryRow, standIns := [], harness := (true, "a3facbdf0d6a4fed11ef55ae9b24ba8565cc352baf39591ec01979a6bc81a599"), looks := true }, kinds := [], alts := [], laidByText := true, laidKinds := [.data, .data, .data, .handle, .sentinel, .sentinel, .data, .data], laidTests := true, laidLooks := .later }
def MessagePrimaryCardSaid : Prop := Claim7.holds Tryz.pinned (.plain (OpenSpec.ofChange messagePrimarySpec)) messagePrimaryCard

/-- THE TIED CARD OF 'hindcastlaw26.PostFull'. -/
def postFullCard : Claim7 := { stood := { row := postFullRow, standIns := [], harness := (true, "a3facbdf0d6a4fed11ef55ae9b24ba8565cc352baf39591ec01979a6bc81a599"), looks := true }, kinds := [], alts := [], laidByText := true, laidKinds := [.data, .data, .data, .handle, .sentinel, .sentinel, .data, .data], laidTests := true, laidLooks := .later }
def PostFullCardSaid : Prop := Claim7.holds Tryz.pinned (.plain (OpenSpec.ofChange postFullSpec)) postFullCard

/-- THE TIED CARD OF 'hindcastlaw26.PostNil'. -/
def postNilCard : Claim7 := { stood := { row := postNilRow, standIns := [], harness := (true, "a3facbdf0d6a4fed11ef55ae9b24ba8565cc352baf39591ec01979a6bc81a599"), looks := true }, kinds := [], alts := [], laidByText := true, laidKinds := [.data, .data, .data, .handle, .sentinel, .sentinel, .data, .data], laidTests := true, laidLooks := .later }
def PostNilCardSaid : Prop := Claim7.holds Tryz.pinned (.plain (OpenSpec.ofChange postNilSpec)) postNilCard

/-- THE SECOND FORM's CARD OF 'hindcastlaw25.ClientNil'. -/
def clientNilUptoCard : Claim7 := { stood := { row := clientNilUptoRow, standIns := [], harness := (true, "a3facbdf0d6a4fed11ef55ae9b24ba8565cc352baf39591ec01979a6bc81a599"), looks := true }, kinds := [], alts := [], laidByText := true, laidKinds := [.data, .data, .data, .handle, .sentinel, .sentinel, .data, .data], laidTests := true, laidLooks := .later }
def ClientNilUptoCardSaid : Prop := Claim7.holds Tryz.pinned (.plain (OpenSpec.upto clientNilSpec)) clientNilUptoCard

/-- THE SECOND FORM's CARD OF 'hindcastlaw23.MessagePrimary'. -/
def messagePrimaryUptoCard : Claim7 := { stood := { row := messagePrimaryUptoRow, standIns := [], harness := (true, "a3facbdf0d6a4fed11ef55ae9b24ba8565cc352baf39591ec01979a6bc81a599"), looks := true }, kinds := [], alts := [], laidByText := true, laidKinds := [.data, .data, .data, .handle, .sentinel, .sentinel, .data, .data], laidTests := true, laidLooks := .later }
def MessagePrimaryUptoCardSaid : Prop := Claim7.holds Tryz.pinned (.plain (OpenSpec.upto messagePrimarySpec)) messagePrimaryUptoCard

/-- THE SECOND FORM's CARD OF 'hindcastlaw26.PostFull'. -/
def postFullUptoCard : Claim7 := { stood := { row := postFullUptoRow, standIns := [], harness := (true, "a3facbdf0d6a4fed11ef55ae9b24ba8565cc352baf39591ec01979a6bc81a599"), looks := true }, kinds := [], alts := [], laidByText := true, laidKinds := [.data, .data, .data, .handle, .sentinel, .sentinel, .data, .data], laidTests := true, laidLooks := .later }
def PostFullUptoCardSaid : Prop := Claim7.holds Tryz.pinned (.plain (OpenSpec.upto postFullSpec)) postFullUptoCard

/-- THE SECOND FORM's CARD OF 'hindcastlaw26.PostNil'. -/
def postNilUptoCard : Claim7 := { stood := { row := postNilUptoRow, standIns := [], harness := (true, "a3facbdf0d6a4fed11ef55ae9b24ba8565cc352baf39591ec01979a6bc81a599"), looks := true }, kinds := [], alts := [], laidByText := true, laidKinds := [.data, .data, .data, .handle, .sentinel, .sentinel, .data, .data], laidTests := true, laidLooks := .later }
def PostNilUptoCardSaid : Prop := Claim7.holds Tryz.pinned (.plain (OpenSpec.upto postNilSpec)) postNilUptoCard
end Rows
end Go.Proofs.YtibbfadgcklpjaaGreatDoor
