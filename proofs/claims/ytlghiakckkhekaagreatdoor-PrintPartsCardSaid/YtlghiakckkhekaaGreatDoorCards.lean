/-
  DERIVED. GIVEN WITH THE SEED: THE CARDS: each row of YtlghiakckkhekaaGreatDoorRows.lean that lists a variable, with what it lists TIED to the program's text (the seventh form; the later family's looks); each row that meets fmt, with fmt's text TOLD by the authors' own Lean function (tested against real Go, not proved from fmt's source: count such statements apart). THE CARD IS WHAT COUNTS. Prove the row's statement (the work); the ties are given (YtlghiakckkhekaaGreatDoorTie.lean); close each card by the builder's one call (the guide's Derived/Test/ToyasCard.lean, 'card_holds'). Laid BY PROGRAM, IN A SANDBOX (cutbox-door.mjs). By AI agents, Wed Nov 11 2026. No macro, syntax, notation, axiom, sorry.
-/
import Derived.Test.YtlghiakckkhekaaGreatDoorRows
import GoSem.ClaimSeven
namespace Go.Proofs.YtlghiakckkhekaaGreatDoor
namespace Rows

/-- THE TIED CARD OF 'pedigreelaw06.PrintParts'. -/
def printPartsCard : Claim7 := { stood := { row := printPartsRow, standIns := [], harness := (true, "8e5f5d00bd941419de4c50e2d145212bff63ccbd433706fb4c3c79556eb9ed38"), looks := true }, kinds := [], alts := [], laidByText := true, laidKinds := [.data, .data, .data, .data, .data, .data, .data], laidTests := true, laidLooks := .later }
def PrintPartsCardSaid : Prop := Claim7.holds Tryz.pinned (.plain (OpenSpec.ofChange printPartsSpec)) printPartsCard

/-- THE TIED CARD OF 'pedigreelaw06.PrintRules'. -/
def printRulesCard : Claim7 := { stood := { row := printRulesRow, standIns := [], harness := (true, "8e5f5d00bd941419de4c50e2d145212bff63ccbd433706fb4c3c79556eb9ed38"), looks := true }, kinds := [], alts := [], laidByText := true, laidKinds := [.data, .data, .data, .data, .data, .data, .data, .data], laidTests := true, laidLooks := .later }
def PrintRulesCardSaid : Prop := Claim7.holds Tryz.pinned (.plain (OpenSpec.ofChange printRulesSpec)) printRulesCard

/-- THE TIED CARD OF 'pedigreelaw06.PrintPrograms'. -/
def printProgramsCard : Claim7 := { stood := { row := printProgramsRow, standIns := [], harness := (true, "8e5f5d00bd941419de4c50e2d145212bff63ccbd433706fb4c3c79556eb9ed38"), looks := true }, kinds := [], alts := [], laidByText := true, laidKinds := [.data, .data, .data, .data, .data, .data, .data, .data], laidTests := true, laidLooks := .later }
def PrintProgramsCardSaid : Prop := Claim7.holds Tryz.pinned (.plain (OpenSpec.ofChange printProgramsSpec)) printProgramsCard

/-- THE SECOND FORM's CARD OF 'pedigreelaw06.PrintParts'. -/
def printPartsUptoCard : Claim7 := { stood := { row := printPartsUptoRow, standIns := [], harness := (true, "8e5f5d00bd941419de4c50e2d145212bff63ccbd433706fb4c3c79556eb9ed38"), looks := true }, kinds := [], alts := [], laidByText := true, laidKinds := [.data, .data, .data, .data, .data, .data, .data], laidTests := true, laidLooks := .later }
def PrintPartsUptoCardSaid : Prop := Claim7.holds Tryz.pinned (.plain (OpenSpec.upto printPartsSpec)) printPartsUptoCard

/-- THE SECOND FORM's CARD OF 'pedigreelaw06.PrintRules'. -/
def printRulesUptoCard : Claim7 := { stood := { row := printRulesUptoRow, standIns := [], harness := (true, "8e5f5d00bd941419de4c50e2d145212bff63ccbd433706fb4c3c79556eb9ed38"), looks := true }, kinds := [], alts := [], laidByText := true, laidKinds := [.data, .data, .data, .data, .data, .data, .data, .data], laidTests := true, laidLooks := .later }
def PrintRulesUptoCardSaid : Prop := Claim7.holds Tryz.pinned (.plain (OpenSpec.upto printRulesSpec)) printRulesUptoCard

/-- THE SECOND FORM's CARD OF 'pedigreelaw06.PrintPrograms'. -/
def printProgramsUptoCard : Claim7 := { stood := { row := printProgramsUptoRow, standIns := [], harness := (true, "8e5f5d00bd941419de4c50e2d145212bff63ccbd433706fb4c3c79556eb9ed38"), looks := true }, kinds := [], alts := [], laidByText := true, laidKinds := [.data, .data, .data, .data, .data, .data, .data, .data], laidTests := true, laidLooks := .later }
def PrintProgramsUptoCardSaid : Prop := Claim7.holds Tryz.pinned (.plain (OpenSpec.upto printProgramsSpec)) printProgramsUptoCard
end Rows
end Go.Proofs.YtlghiakckkhekaaGreatDoor
