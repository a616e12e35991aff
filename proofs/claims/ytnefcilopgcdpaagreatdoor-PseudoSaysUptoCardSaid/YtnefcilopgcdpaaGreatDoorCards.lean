/-
  DERIVED. GIVEN WITH THE SEED: THE CARDS: each row of YtnefcilopgcdpaaGreatDoorRows.lean that lists a variable, with what it lists TIED to the program's text (the seventh form; the later family's looks); each row that meets fmt, with fmt's text TOLD by the authors' own Lean function (tested against real Go, not proved from fmt's source: count such statements apart). THE CARD IS WHAT COUNTS. Prove the row's statement (the work); the ties are given (YtnefcilopgcdpaaGreatDoorTie.lean); close each card by the builder's one call (the guide's Derived/Test/ToyasCard.lean, 'card_holds'). Laid BY PROGRAM, IN A SANDBOX (cutbox-door.mjs). By AI agents, Wed Nov 11 2026. No macro, syntax, notation, axiom, sorry.
-/
import Derived.Test.YtnefcilopgcdpaaGreatDoorRows
import GoSem.ClaimSeven
namespace Go.Proofs.YtnefcilopgcdpaaGreatDoor
namespace Rows

/-- THE TIED CARD OF 'linguisterlaw4.PseudoSays'. -/
def pseudoSaysCard : Claim7 := { stood := { row := pseudoSaysRow, standIns := [], harness := (true, "6af10edc1cd2734113eb7d043d255415a0441d8c431d0de9dbf03e9a054434bd"), looks := true }, kinds := [], alts := [], laidByText := true, laidKinds := [.data, .data, .data, .data, .handle, .sentinel, .sentinel, .widerDeep, .data, .data, .data, .pinned], laidTests := true, laidLooks := .later }
def PseudoSaysCardSaid : Prop := Claim7.holds Tryz.pinned (.plain (OpenSpec.ofChange pseudoSaysSpec)) pseudoSaysCard

/-- THE SECOND FORM's CARD OF 'linguisterlaw4.PseudoSays'. -/
def pseudoSaysUptoCard : Claim7 := { stood := { row := pseudoSaysUptoRow, standIns := [], harness := (true, "6af10edc1cd2734113eb7d043d255415a0441d8c431d0de9dbf03e9a054434bd"), looks := true }, kinds := [], alts := [], laidByText := true, laidKinds := [.data, .data, .data, .data, .handle, .sentinel, .sentinel, .widerDeep, .data, .data, .data, .pinned], laidTests := true, laidLooks := .later }
def PseudoSaysUptoCardSaid : Prop := Claim7.holds Tryz.pinned (.plain (OpenSpec.upto pseudoSaysSpec)) pseudoSaysUptoCard
end Rows
end Go.Proofs.YtnefcilopgcdpaaGreatDoor
