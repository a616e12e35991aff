/-
  DERIVED. GIVEN WITH THE SEED: THE CARDS: each row of YtmaccmhpcagcnaaDoorRows.lean that lists a variable, with what it lists TIED to the program's text (the seventh form; the later family's looks); each row that meets fmt, with fmt's text TOLD by the authors' own Lean function (tested against real Go, not proved from fmt's source: count such statements apart). THE CARD IS WHAT COUNTS. Prove the row's statement (the work); the ties are given (YtmaccmhpcagcnaaDoorTie.lean); close each card by the builder's one call (the guide's Derived/Test/ToyasCard.lean, 'card_holds'). Laid BY PROGRAM, IN A SANDBOX (cutbox-door.mjs). By AI agents, Wed Nov 11 2026. No macro, syntax, notation, axiom, sorry.
-/
import Derived.Test.YtmaccmhpcagcnaaDoorRows
import GoSem.ClaimSeven
namespace Go.Proofs.YtmaccmhpcagcnaaDoor
namespace Rows

/-- THE TIED CARD OF 'linguistertop.TopDays'. -/
def topDaysCard : Claim7 := { stood := { row := topDaysRow, standIns := [], harness := (true, "fe3622067c0baf1c96705e2eb7f79b01021b36ccb6607db0bb0d7c3af116c5c7"), looks := false }, kinds := [], alts := [], laidByText := true, laidKinds := [.data, .data, .data, .data, .data, .data, .pinned], laidTests := true, laidLooks := .later }
def TopDaysCardSaid : Prop := Claim7.holds Tryd.pinned (.plain (OpenSpec.ofChange topDaysSpec)) topDaysCard

/-- THE TIED CARD OF 'linguisterlaw2.DpatParts'. -/
def dpatPartsCard : Claim7 := { stood := { row := dpatPartsRow, standIns := [], harness := (true, "fe3622067c0baf1c96705e2eb7f79b01021b36ccb6607db0bb0d7c3af116c5c7"), looks := false }, kinds := [], alts := [], laidByText := true, laidKinds := [.data, .data, .data, .data, .data, .pinned], laidTests := true, laidLooks := .later }
def DpatPartsCardSaid : Prop := Claim7.holds Tryd.pinned (.plain (OpenSpec.ofChange dpatPartsSpec)) dpatPartsCard

/-- THE TIED CARD OF 'linguisterlaw2.DpatIso'. -/
def dpatIsoCard : Claim7 := { stood := { row := dpatIsoRow, standIns := [], harness := (true, "fe3622067c0baf1c96705e2eb7f79b01021b36ccb6607db0bb0d7c3af116c5c7"), looks := false }, kinds := [], alts := [], laidByText := true, laidKinds := [.data, .data, .data, .data, .data, .pinned], laidTests := true, laidLooks := .later }
def DpatIsoCardSaid : Prop := Claim7.holds Tryd.pinned (.plain (OpenSpec.ofChange dpatIsoSpec)) dpatIsoCard

/-- THE SECOND FORM's CARD OF 'linguistertop.TopDays'. -/
def topDaysUptoCard : Claim7 := { stood := { row := topDaysUptoRow, standIns := [], harness := (true, "fe3622067c0baf1c96705e2eb7f79b01021b36ccb6607db0bb0d7c3af116c5c7"), looks := false }, kinds := [], alts := [], laidByText := true, laidKinds := [.data, .data, .data, .data, .data, .data, .pinned], laidTests := true, laidLooks := .later }
def TopDaysUptoCardSaid : Prop := Claim7.holds Tryd.pinned (.plain (OpenSpec.upto topDaysSpec)) topDaysUptoCard

/-- THE SECOND FORM's CARD OF 'linguisterlaw2.DpatParts'. -/
def dpatPartsUptoCard : Claim7 := { stood := { row := dpatPartsUptoRow, standIns := [], harness := (true, "fe3622067c0baf1c96705e2eb7f79b01021b36ccb6607db0bb0d7c3af116c5c7"), looks := false }, kinds := [], alts := [], laidByText := true, laidKinds := [.data, .data, .data, .data, .data, .pinned], laidTests := true, laidLooks := .later }
def DpatPartsUptoCardSaid : Prop := Claim7.holds Tryd.pinned (.plain (OpenSpec.upto dpatPartsSpec)) dpatPartsUptoCard

/-- THE SECOND FORM's CARD OF 'linguisterlaw2.DpatIso'. -/
def dpatIsoUptoCard : Claim7 := { stood := { row := dpatIsoUptoRow, standIns := [], harness := (true, "fe3622067c0baf1c96705e2eb7f79b01021b36ccb6607db0bb0d7c3af116c5c7"), looks := false }, kinds := [], alts := [], laidByText := true, laidKinds := [.data, .data, .data, .data, .data, .pinned], laidTests := true, laidLooks := .later }
def DpatIsoUptoCardSaid : Prop := Claim7.holds Tryd.pinned (.plain (OpenSpec.upto dpatIsoSpec)) dpatIsoUptoCard
end Rows
end Go.Proofs.YtmaccmhpcagcnaaDoor
