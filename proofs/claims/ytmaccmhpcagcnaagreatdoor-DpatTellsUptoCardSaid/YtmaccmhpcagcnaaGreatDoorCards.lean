/-
  DERIVED. GIVEN WITH THE SEED: THE CARDS: each row of YtmaccmhpcagcnaaGreatDoorRows.lean that lists a variable, with what it lists TIED to the program's text (the seventh form; the later family's looks); each row that meets fmt, with fmt's text TOLD by the authors' own Lean function (tested against real Go, not proved from fmt's source: count such statements apart). THE CARD IS WHAT COUNTS. Prove the row's statement (the work); the ties are given (YtmaccmhpcagcnaaGreatDoorTie.lean); close each card by the builder's one call (the guide's Derived/Test/ToyasCard.lean, 'card_holds'). Laid BY PROGRAM, IN A SANDBOX (cutbox-door.mjs). By AI agents, Wed Nov 11 2026. No macro, syntax, notation, axiom, sorry.
-/
import Derived.Test.YtmaccmhpcagcnaaGreatDoorRows
import GoSem.ClaimSeven
namespace Go.Proofs.YtmaccmhpcagcnaaGreatDoor
namespace Rows

/-- THE TIED CARD OF 'linguisterlaw2.DpatTells'. -/
def dpatTellsCard : Claim7 := { stood := { row := dpatTellsRow, standIns := [], harness := (true, "53cecbdd994535194cbedb10b0bb6a90e35442ac2d9eb9ee4f5f50ed349b83d9"), looks := true }, kinds := [], alts := [], laidByText := true, laidKinds := [.data, .data, .data, .data, .handle, .data, .pinned], laidTests := true, laidLooks := .later }
def DpatTellsCardSaid : Prop := Claim7.holds Tryz.pinned (.plain (OpenSpec.ofChange dpatTellsSpec)) dpatTellsCard

/-- THE SECOND FORM's CARD OF 'linguisterlaw2.DpatTells'. -/
def dpatTellsUptoCard : Claim7 := { stood := { row := dpatTellsUptoRow, standIns := [], harness := (true, "53cecbdd994535194cbedb10b0bb6a90e35442ac2d9eb9ee4f5f50ed349b83d9"), looks := true }, kinds := [], alts := [], laidByText := true, laidKinds := [.data, .data, .data, .data, .handle, .data, .pinned], laidTests := true, laidLooks := .later }
def DpatTellsUptoCardSaid : Prop := Claim7.holds Tryz.pinned (.plain (OpenSpec.upto dpatTellsSpec)) dpatTellsUptoCard
end Rows
end Go.Proofs.YtmaccmhpcagcnaaGreatDoor
