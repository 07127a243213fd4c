/-
  DERIVED. GIVEN WITH THE SEED: THE CARDS: each row of YtdgbenadoaecoaaDoorRows.lean that lists a variable, with what it lists TIED to the program's text (the seventh form; the later family's looks); each row that meets fmt, with fmt's text TOLD by the authors' own Lean function (tested against real Go, not proved from fmt's source: count such statements apart). THE CARD IS WHAT COUNTS. Prove the row's statement (the work); the ties are given (YtdgbenadoaecoaaDoorTie.lean); close each card by the builder's one call (the guide's Derived/Test/ToyasCard.lean, 'card_holds'). Laid BY PROGRAM, IN A SANDBOX (cutbox-door.mjs). By AI agents, Wed Nov 11 2026. No macro, syntax, notation, axiom, sorry.
-/
import Derived.Test.YtdgbenadoaecoaaDoorRows
import GoSem.ClaimSeven
namespace Go.Proofs.YtdgbenadoaecoaaDoor
namespace Rows

/-- THE TIED CARD OF 'pedigreelaw06.PrintUnlike'. -/
def printUnlikeCard : Claim7 := { stood := { row := printUnlikeRow, standIns := [], harness := (true, "95f1504ddf830e8b9d282400bd46305856bc18386cd2f8ca84f33d68ed73022e"), looks := true }, kinds := [], alts := [], laidByText := true, laidKinds := [.data, .data, .data, .data, .data, .data, .data, .data, .data], laidTests := true, laidLooks := .later }
def PrintUnlikeCardSaid : Prop := Claim7.holds Tryd.pinned (.plain (OpenSpec.ofChange printUnlikeSpec)) printUnlikeCard

/-- THE TIED CARD OF 'pedigreelaw06.PrintLines'. -/
def printLinesCard : Claim7 := { stood := { row := printLinesRow, standIns := [], harness := (true, "95f1504ddf830e8b9d282400bd46305856bc18386cd2f8ca84f33d68ed73022e"), looks := true }, kinds := [], alts := [], laidByText := true, laidKinds := [.data, .data, .data, .data, .data, .data, .data, .data, .data], laidTests := true, laidLooks := .later }
def PrintLinesCardSaid : Prop := Claim7.holds Tryd.pinned (.plain (OpenSpec.ofChange printLinesSpec)) printLinesCard

/-- THE SECOND FORM's CARD OF 'pedigreelaw06.PrintUnlike'. -/
def printUnlikeUptoCard : Claim7 := { stood := { row := printUnlikeUptoRow, standIns := [], harness := (true, "95f1504ddf830e8b9d282400bd46305856bc18386cd2f8ca84f33d68ed73022e"), looks := true }, kinds := [], alts := [], laidByText := true, laidKinds := [.data, .data, .data, .data, .data, .data, .data, .data, .data], laidTests := true, laidLooks := .later }
def PrintUnlikeUptoCardSaid : Prop := Claim7.holds Tryd.pinned (.plain (OpenSpec.upto printUnlikeSpec)) printUnlikeUptoCard

/-- THE SECOND FORM's CARD OF 'pedigreelaw06.PrintLines'. -/
def printLinesUptoCard : Claim7 := { stood := { row := printLinesUptoRow, standIns := [], harness := (true, "95f1504ddf830e8b9d282400bd46305856bc18386cd2f8ca84f33d68ed73022e"), looks := true }, kinds := [], alts := [], laidByText := true, laidKinds := [.data, .data, .data, .data, .data, .data, .data, .data, .data], laidTests := true, laidLooks := .later }
def PrintLinesUptoCardSaid : Prop := Claim7.holds Tryd.pinned (.plain (OpenSpec.upto printLinesSpec)) printLinesUptoCard
end Rows
end Go.Proofs.YtdgbenadoaecoaaDoor
