/-
  DERIVED. GIVEN WITH THE SEED: THE CARDS: each row of YtdgbenadoaecoaaGreatDoorRows.lean that lists a variable, with what it lists TIED to the program's text (the seventh form; the later family's looks); each row that meets fmt, with fmt's text TOLD by the authors' own Lean function (tested against real Go, not proved from fmt's source: count such statements apart). THE CARD IS WHAT COUNTS. Prove the row's statement (the work); the ties are given (YtdgbenadoaecoaaGreatDoorTie.lean); close each card by the builder's one call (the guide's Derived/Test/ToyasCard.lean, 'card_holds'). Laid BY PROGRAM, IN A SANDBOX (cutbox-door.mjs). By AI agents, Wed Nov 11 2026. No macro, syntax, notation, axiom, sorry.
-/
import Derived.Test.YtdgbenadoaecoaaGreatDoorRows
import GoSem.ClaimSeven
namespace Go.Proofs.YtdgbenadoaecoaaGreatDoor
namespace Rows

/-- THE TIED CARD OF 'pedigreelaw06.PrintRules'. -/
def printRulesCard : Claim7 := { stood := { row := printRulesRow, standIns := [], harness := (true, "df6d879edc8ddee8df0082f4dd3e395b7012b6b36e9cc2b699d1d8bc9084cd3e"), looks := true }, kinds := [], alts := [], laidByText := true, laidKinds := [.data, .data, .data, .data, .data, .data, .data, .data], laidTests := true, laidLooks := .later }
def PrintRulesCardSaid : Prop := Claim7.holds Tryz.pinned (.plain (OpenSpec.ofChange printRulesSpec)) printRulesCard

/-- THE TIED CARD OF 'pedigreelaw06.PrintPrograms'. -/
def printProgramsCard : Claim7 := { stood := { row := printProgramsRow, standIns := [], harness := (true, "df6d879edc8ddee8df0082f4dd3e395b7012b6b36e9cc2b699d1d8bc9084cd3e"), looks := true }, kinds := [], alts := [], laidByText := true, laidKinds := [.data, .data, .data, .data, .data, .data, .data, .data], laidTests := true, laidLooks := .later }
def PrintProgramsCardSaid : Prop := Claim7.holds Tryz.pinned (.plain (OpenSpec.ofChange printProgramsSpec)) printProgramsCard

/-- THE SECOND FORM's CARD OF 'pedigreelaw06.PrintRules'. -/
def printRulesUptoCard : Claim7 := { stood := { row := printRulesUptoRow, standIns := [], harness := (true, "df6d879edc8ddee8df0082f4dd3e395b7012b6b36e9cc2b699d1d8bc9084cd3e"), looks := true }, kinds := [], alts := [], laidByText := true, laidKinds := [.data, .data, .data, .data, .data, .data, .data, .data], laidTests := true, laidLooks := .later }
def PrintRulesUptoCardSaid : Prop := Claim7.holds Tryz.pinned (.plain (OpenSpec.upto printRulesSpec)) printRulesUptoCard

/-- THE SECOND FORM's CARD OF 'pedigreelaw06.PrintPrograms'. -/
def printProgramsUptoCard : Claim7 := { stood := { row := printProgramsUptoRow, standIns := [], harness := (true, "df6d879edc8ddee8df0082f4dd3e395b7012b6b36e9cc2b699d1d8bc9084cd3e"), looks := true }, kinds := [], alts := [], laidByText := true, laidKinds := [.data, .data, .data, .data, .data, .data, .data, .data], laidTests := true, laidLooks := .later }
def PrintProgramsUptoCardSaid : Prop := Claim7.holds Tryz.pinned (.plain (OpenSpec.upto printProgramsSpec)) printProgramsUptoCard
end Rows
end Go.Proofs.YtdgbenadoaecoaaGreatDoor
