/-
  DERIVED. GIVEN WITH THE SEED: THE CARDS: each row of YtgkphpjnfigjiaaGreatDoorRows.lean that lists a variable, with what it lists TIED to the program's text (the seventh form; the later family's looks); each row that meets fmt, with fmt's text TOLD by the authors' own Lean function (tested against real Go, not proved from fmt's source: count such statements apart). THE CARD IS WHAT COUNTS. Prove the row's statement (the work); the ties are given (YtgkphpjnfigjiaaGreatDoorTie.lean); close each card by the builder's one call (the guide's Derived/Test/ToyasCard.lean, 'card_holds'). Laid BY PROGRAM, IN A SANDBOX (cutbox-door.mjs). By AI agents, Wed Nov 11 2026. No macro, syntax, notation, axiom, sorry.
-/
import Derived.Test.YtgkphpjnfigjiaaGreatDoorRows
import GoSem.ClaimSeven
namespace Go.Proofs.YtgkphpjnfigjiaaGreatDoor
namespace Rows

/-- THE TIED CARD OF 'linguisterlaw3.MsgBack'. -/
def msgBackCard : Claim7 := { stood := { row := msgBackRow, standIns := [], harness := (true, "3d52aac8cbc1f04da20b5139325edcff1f357b3794a87f7694d62a524a662a20"), looks := true }, kinds := [], alts := [], laidByText := true, laidKinds := [.data, .data, .data, .data, .sentinel, .sentinel, .widerDeep, .pinned], laidTests := true, laidLooks := .later }
def MsgBackCardSaid : Prop := Claim7.holds Tryz.pinned (.plain (OpenSpec.ofChange msgBackSpec)) msgBackCard

/-- THE TIED CARD OF 'linguisterlaw3.MsgPlain'. -/
def msgPlainCard : Claim7 := { stood := { row := msgPlainRow, standIns := [], harness := (true, "3d52aac8cbc1f04da20b5139325edcff1f357b3794a87f7694d62a524a662a20"), looks := true }, kinds := [], alts := [], laidByText := true, laidKinds := [.data, .data, .data, .data, .sentinel, .sentinel, .widerDeep, .pinned], laidTests := true, laidLooks := .later }
def MsgPlainCardSaid : Prop := Claim7.holds Tryz.pinned (.plain (OpenSpec.ofChange msgPlainSpec)) msgPlainCard

/-- THE TIED CARD OF 'linguisterlaw3.MsgTells'. -/
def msgTellsCard : Claim7 := { stood := { row := msgTellsRow, standIns := [], harness := (true, "3d52aac8cbc1f04da20b5139325edcff1f357b3794a87f7694d62a524a662a20"), looks := true }, kinds := [], alts := [], laidByText := true, laidKinds := [.data, .data, .data, .data, .handle, .sentinel, .sentinel, .widerDeep, .pinned], laidTests := true, laidLooks := .later }
def MsgTellsCardSaid : Prop := Claim7.holds Tryz.pinned (.plain (OpenSpec.ofChange msgTellsSpec)) msgTellsCard

/-- THE TIED CARD OF 'linguisterlaw3.MsgWraps'. -/
def msgWrapsCard : Claim7 := { stood := { row := msgWrapsRow, standIns := [], harness := (true, "3d52aac8cbc1f04da20b5139325edcff1f357b3794a87f7694d62a524a662a20"), looks := true }, kinds := [], alts := [], laidByText := true, laidKinds := [.data, .data, .data, .data, .handle, .sentinel, .sentinel, .widerDeep, .pinned], laidTests := true, laidLooks := .later }
def MsgWrapsCardSaid : Prop := Claim7.holds Tryz.pinned (.plain (OpenSpec.ofChange msgWrapsSpec)) msgWrapsCard

/-- THE TIED CARD OF 'linguisterlaw4.PseudoSays'. -/
def pseudoSaysCard : Claim7 := { stood := { row := pseudoSaysRow, standIns := [], harness := (true, "3d52aac8cbc1f04da20b5139325edcff1f357b3794a87f7694d62a524a662a20"), looks := true }, kinds := [], alts := [], laidByText := true, laidKinds := [.data, .data, .data, .data, .handle, .sentinel, .sentinel, .widerDeep, .data, .data, .data, .pinned], laidTests := true, laidLooks := .later }
def PseudoSaysCardSaid : Prop := Claim7.holds Tryz.pinned (.plain (OpenSpec.ofChange pseudoSaysSpec)) pseudoSaysCard

/-- THE SECOND FORM's CARD OF 'linguisterlaw3.MsgBack'. -/
def msgBackUptoCard : Claim7 := { stood := { row := msgBackUptoRow, standIns := [], harness := (true, "3d52aac8cbc1f04da20b5139325edcff1f357b3794a87f7694d62a524a662a20"), looks := true }, kinds := [], alts := [], laidByText := true, laidKinds := [.data, .data, .data, .data, .sentinel, .sentinel, .widerDeep, .pinned], laidTests := true, laidLooks := .later }
def MsgBackUptoCardSaid : Prop := Claim7.holds Tryz.pinned (.plain (OpenSpec.upto msgBackSpec)) msgBackUptoCard

/-- THE SECOND FORM's CARD OF 'linguisterlaw3.MsgPlain'. -/
def msgPlainUptoCard : Claim7 := { stood := { row := msgPlainUptoRow, standIns := [], harness := (true, "3d52aac8cbc1f04da20b5139325edcff1f357b3794a87f7694d62a524a662a20"), looks := true }, kinds := [], alts := [], laidByText := true, laidKinds := [.data, .data, .data, .data, .sentinel, .sentinel, .widerDeep, .pinned], laidTests := true, laidLooks := .later }
def MsgPlainUptoCardSaid : Prop := Claim7.holds Tryz.pinned (.plain (OpenSpec.upto msgPlainSpec)) msgPlainUptoCard

/-- THE SECOND FORM's CARD OF 'linguisterlaw3.MsgTells'. -/
def msgTellsUptoCard : Claim7 := { stood := { row := msgTellsUptoRow, standIns := [], harness := (true, "3d52aac8cbc1f04da20b5139325edcff1f357b3794a87f7694d62a524a662a20"), looks := true }, kinds := [], alts := [], laidByText := true, laidKinds := [.data, .data, .data, .data, .handle, .sentinel, .sentinel, .widerDeep, .pinned], laidTests := true, laidLooks := .later }
def MsgTellsUptoCardSaid : Prop := Claim7.holds Tryz.pinned (.plain (OpenSpec.upto msgTellsSpec)) msgTellsUptoCard

/-- THE SECOND FORM's CARD OF 'linguisterlaw3.MsgWraps'. -/
def msgWrapsUptoCard : Claim7 := { stood := { row := msgWrapsUptoRow, standIns := [], harness := (true, "3d52aac8cbc1f04da20b5139325edcff1f357b3794a87f7694d62a524a662a20"), looks := true }, kinds := [], alts := [], laidByText := true, laidKinds := [.data, .data, .data, .data, .handle, .sentinel, .sentinel, .widerDeep, .pinned], laidTests := true, laidLooks := .later }
def MsgWrapsUptoCardSaid : Prop := Claim7.holds Tryz.pinned (.plain (OpenSpec.upto msgWrapsSpec)) msgWrapsUptoCard

/-- THE SECOND FORM's CARD OF 'linguisterlaw4.PseudoSays'. -/
def pseudoSaysUptoCard : Claim7 := { stood := { row := pseudoSaysUptoRow, standIns := [], harness := (true, "3d52aac8cbc1f04da20b5139325edcff1f357b3794a87f7694d62a524a662a20"), looks := true }, kinds := [], alts := [], laidByText := true, laidKinds := [.data, .data, .data, .data, .handle, .sentinel, .sentinel, .widerDeep, .data, .data, .data, .pinned], laidTests := true, laidLooks := .later }
def PseudoSaysUptoCardSaid : Prop := Claim7.holds Tryz.pinned (.plain (OpenSpec.upto pseudoSaysSpec)) pseudoSaysUptoCard
end Rows
end Go.Proofs.YtgkphpjnfigjiaaGreatDoor
