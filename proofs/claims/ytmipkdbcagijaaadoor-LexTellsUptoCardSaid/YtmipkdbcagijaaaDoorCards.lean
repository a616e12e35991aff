/-
  DERIVED. GIVEN WITH THE SEED: THE CARDS: each row of YtmipkdbcagijaaaDoorRows.lean that lists a variable, with what it lists TIED to the program's text (the seventh form; the later family's looks); each row that meets fmt, with fmt's text TOLD by the authors' own Lean function (tested against real Go, not proved from fmt's source: count such statements apart). THE CARD IS WHAT COUNTS. Prove the row's statement (the work); the ties are given (YtmipkdbcagijaaaDoorTie.lean); close each card by the builder's one call (the guide's Derived/Test/ToyasCard.lean, 'card_holds'). Laid BY PROGRAM, IN A SANDBOX (cutbox-door.mjs). By AI agents, Wed Nov 11 2026. No macro, syntax, notation, axiom, sorry.
-/
import Derived.Test.YtmipkdbcagijaaaDoorRows
import GoSem.ClaimSeven
namespace Go.Proofs.YtmipkdbcagijaaaDoor
namespace Rows

/-- THE TIED CARD OF 'linguisterlaw2.LexBack'. -/
def lexBackCard : Claim7 := { stood := { row := lexBackRow, standIns := [], harness := (true, "be43c915b7677b261d891c2bb45a19d3300ead38011ff7a8f65ecc88f5307f99"), looks := true }, kinds := [], alts := [], laidByText := true, laidKinds := [.data, .pinned], laidTests := true, laidLooks := .later }
def LexBackCardSaid : Prop := Claim7.holds Tryd.pinned (.plain (OpenSpec.ofChange lexBackSpec)) lexBackCard

/-- THE TIED CARD OF 'linguisterlaw6.LexParts'. -/
def lexPartsCard : Claim7 := { stood := { row := lexPartsRow, standIns := [], harness := (true, "be43c915b7677b261d891c2bb45a19d3300ead38011ff7a8f65ecc88f5307f99"), looks := true }, kinds := [], alts := [], laidByText := true, laidKinds := [.data, .pinned], laidTests := true, laidLooks := .later }
def LexPartsCardSaid : Prop := Claim7.holds Tryd.pinned (.plain (OpenSpec.ofChange lexPartsSpec)) lexPartsCard

/-- THE TIED CARD OF 'linguisterlaw2.LexTells'. -/
def lexTellsCard : Claim7 := { stood := { row := lexTellsRow, standIns := [], harness := (true, "be43c915b7677b261d891c2bb45a19d3300ead38011ff7a8f65ecc88f5307f99"), looks := true }, kinds := [], alts := [], laidByText := true, laidKinds := [.data, .handle, .pinned], laidTests := true, laidLooks := .later }
def LexTellsCardSaid : Prop := Claim7.holds Tryd.pinned (.plain (OpenSpec.ofChange lexTellsSpec)) lexTellsCard

/-- THE TIED CARD OF 'linguistertop.TopDays'. -/
def topDaysCard : Claim7 := { stood := { row := topDaysRow, standIns := [], harness := (true, "be43c915b7677b261d891c2bb45a19d3300ead38011ff7a8f65ecc88f5307f99"), looks := true }, kinds := [], alts := [], laidByText := true, laidKinds := [.data, .data, .data, .data, .data, .data, .pinned], laidTests := true, laidLooks := .later }
def TopDaysCardSaid : Prop := Claim7.holds Tryd.pinned (.plain (OpenSpec.ofChange topDaysSpec)) topDaysCard

/-- THE TIED CARD OF 'linguisterlaw2.DpatParts'. -/
def dpatPartsCard : Claim7 := { stood := { row := dpatPartsRow, standIns := [], harness := (true, "be43c915b7677b261d891c2bb45a19d3300ead38011ff7a8f65ecc88f5307f99"), looks := true }, kinds := [], alts := [], laidByText := true, laidKinds := [.data, .data, .data, .data, .data, .pinned], laidTests := true, laidLooks := .later }
def DpatPartsCardSaid : Prop := Claim7.holds Tryd.pinned (.plain (OpenSpec.ofChange dpatPartsSpec)) dpatPartsCard

/-- THE TIED CARD OF 'linguisterlaw2.DpatIso'. -/
def dpatIsoCard : Claim7 := { stood := { row := dpatIsoRow, standIns := [], harness := (true, "be43c915b7677b261d891c2bb45a19d3300ead38011ff7a8f65ecc88f5307f99"), looks := true }, kinds := [], alts := [], laidByText := true, laidKinds := [.data, .data, .data, .data, .data, .pinned], laidTests := true, laidLooks := .later }
def DpatIsoCardSaid : Prop := Claim7.holds Tryd.pinned (.plain (OpenSpec.ofChange dpatIsoSpec)) dpatIsoCard

/-- THE SECOND FORM's CARD OF 'linguisterlaw2.LexBack'. -/
def lexBackUptoCard : Claim7 := { stood := { row := lexBackUptoRow, standIns := [], harness := (true, "be43c915b7677b261d891c2bb45a19d3300ead38011ff7a8f65ecc88f5307f99"), looks := true }, kinds := [], alts := [], laidByText := true, laidKinds := [.data, .pinned], laidTests := true, laidLooks := .later }
def LexBackUptoCardSaid : Prop := Claim7.holds Tryd.pinned (.plain (OpenSpec.upto lexBackSpec)) lexBackUptoCard

/-- THE SECOND FORM's CARD OF 'linguisterlaw6.LexParts'. -/
def lexPartsUptoCard : Claim7 := { stood := { row := lexPartsUptoRow, standIns := [], harness := (true, "be43c915b7677b261d891c2bb45a19d3300ead38011ff7a8f65ecc88f5307f99"), looks := true }, kinds := [], alts := [], laidByText := true, laidKinds := [.data, .pinned], laidTests := true, laidLooks := .later }
def LexPartsUptoCardSaid : Prop := Claim7.holds Tryd.pinned (.plain (OpenSpec.upto lexPartsSpec)) lexPartsUptoCard

/-- THE SECOND FORM's CARD OF 'linguisterlaw2.LexTells'. -/
def lexTellsUptoCard : Claim7 := { stood := { row := lexTellsUptoRow, standIns := [], harness := (true, "be43c915b7677b261d891c2bb45a19d3300ead38011ff7a8f65ecc88f5307f99"), looks := true }, kinds := [], alts := [], laidByText := true, laidKinds := [.data, .handle, .pinned], laidTests := true, laidLooks := .later }
def LexTellsUptoCardSaid : Prop := Claim7.holds Tryd.pinned (.plain (OpenSpec.upto lexTellsSpec)) lexTellsUptoCard

/-- THE SECOND FORM's CARD OF 'linguistertop.TopDays'. -/
def topDaysUptoCard : Claim7 := { stood := { row := topDaysUptoRow, standIns := [], harness := (true, "be43c915b7677b261d891c2bb45a19d3300ead38011ff7a8f65ecc88f5307f99"), looks := true }, kinds := [], alts := [], laidByText := true, laidKinds := [.data, .data, .data, .data, .data, .data, .pinned], laidTests := true, laidLooks := .later }
def TopDaysUptoCardSaid : Prop := Claim7.holds Tryd.pinned (.plain (OpenSpec.upto topDaysSpec)) topDaysUptoCard

/-- THE SECOND FORM's CARD OF 'linguisterlaw2.DpatParts'. -/
def dpatPartsUptoCard : Claim7 := { stood := { row := dpatPartsUptoRow, standIns := [], harness := (true, "be43c915b7677b261d891c2bb45a19d3300ead38011ff7a8f65ecc88f5307f99"), looks := true }, kinds := [], alts := [], laidByText := true, laidKinds := [.data, .data, .data, .data, .data, .pinned], laidTests := true, laidLooks := .later }
def DpatPartsUptoCardSaid : Prop := Claim7.holds Tryd.pinned (.plain (OpenSpec.upto dpatPartsSpec)) dpatPartsUptoCard

/-- THE SECOND FORM's CARD OF 'linguisterlaw2.DpatIso'. -/
def dpatIsoUptoCard : Claim7 := { stood := { row := dpatIsoUptoRow, standIns := [], harness := (true, "be43c915b7677b261d891c2bb45a19d3300ead38011ff7a8f65ecc88f5307f99"), looks := true }, kinds := [], alts := [], laidByText := true, laidKinds := [.data, .data, .data, .data, .data, .pinned], laidTests := true, laidLooks := .later }
def DpatIsoUptoCardSaid : Prop := Claim7.holds Tryd.pinned (.plain (OpenSpec.upto dpatIsoSpec)) dpatIsoUptoCard
end Rows
end Go.Proofs.YtmipkdbcagijaaaDoor
