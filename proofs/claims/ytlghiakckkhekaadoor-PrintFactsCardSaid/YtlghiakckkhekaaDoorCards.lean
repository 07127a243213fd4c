/-
  DERIVED. GIVEN WITH THE SEED: THE CARDS: each row of YtlghiakckkhekaaDoorRows.lean that lists a variable, with what it lists TIED to the program's text (the seventh form; the later family's looks); each row that meets fmt, with fmt's text TOLD by the authors' own Lean function (tested against real Go, not proved from fmt's source: count such statements apart). THE CARD IS WHAT COUNTS. Prove the row's statement (the work); the ties are given (YtlghiakckkhekaaDoorTie.lean); close each card by the builder's one call (the guide's Derived/Test/ToyasCard.lean, 'card_holds'). Laid BY PROGRAM, IN A SANDBOX (cutbox-door.mjs). By AI agents, Wed Nov 11 2026. No macro, syntax, notation, axiom, sorry.
-/
import Derived.Test.YtlghiakckkhekaaDoorRows
import GoSem.ClaimSeven
namespace Go.Proofs.YtlghiakckkhekaaDoor
namespace Rows

/-- THE TIED CARD OF 'pedigreelaw06.PrintTerms'. -/
def printTermsCard : Claim7 := { stood := { row := printTermsRow, standIns := [], harness := (true, "b13bac1fbb765cd4980fbf59466691393ff44b238c5788df16636b960089dfc2"), looks := true }, kinds := [], alts := [], laidByText := true, laidKinds := [.data, .data, .data, .data, .data, .data], laidTests := true, laidLooks := .later }
def PrintTermsCardSaid : Prop := Claim7.holds Tryd.pinned (.plain (OpenSpec.ofChange printTermsSpec)) printTermsCard

/-- THE TIED CARD OF 'pedigreelaw06.PrintExprs'. -/
def printExprsCard : Claim7 := { stood := { row := printExprsRow, standIns := [], harness := (true, "b13bac1fbb765cd4980fbf59466691393ff44b238c5788df16636b960089dfc2"), looks := true }, kinds := [], alts := [], laidByText := true, laidKinds := [.data, .data, .data, .data, .data, .data], laidTests := true, laidLooks := .later }
def PrintExprsCardSaid : Prop := Claim7.holds Tryd.pinned (.plain (OpenSpec.ofChange printExprsSpec)) printExprsCard

/-- THE TIED CARD OF 'pedigreelaw06.PrintFacts'. -/
def printFactsCard : Claim7 := { stood := { row := printFactsRow, standIns := [], harness := (true, "b13bac1fbb765cd4980fbf59466691393ff44b238c5788df16636b960089dfc2"), looks := true }, kinds := [], alts := [], laidByText := true, laidKinds := [.data, .data, .data, .data, .data, .data, .data], laidTests := true, laidLooks := .later }
def PrintFactsCardSaid : Prop := Claim7.holds Tryd.pinned (.plain (OpenSpec.ofChange printFactsSpec)) printFactsCard

/-- THE TIED CARD OF 'pedigreelaw06.PrintUnlike'. -/
def printUnlikeCard : Claim7 := { stood := { row := printUnlikeRow, standIns := [], harness := (true, "b13bac1fbb765cd4980fbf59466691393ff44b238c5788df16636b960089dfc2"), looks := true }, kinds := [], alts := [], laidByText := true, laidKinds := [.data, .data, .data, .data, .data, .data, .data, .data, .data], laidTests := true, laidLooks := .later }
def PrintUnlikeCardSaid : Prop := Claim7.holds Tryd.pinned (.plain (OpenSpec.ofChange printUnlikeSpec)) printUnlikeCard

/-- THE TIED CARD OF 'pedigreelaw06.PrintLines'. -/
def printLinesCard : Claim7 := { stood := { row := printLinesRow, standIns := [], harness := (true, "b13bac1fbb765cd4980fbf59466691393ff44b238c5788df16636b960089dfc2"), looks := true }, kinds := [], alts := [], laidByText := true, laidKinds := [.data, .data, .data, .data, .data, .data, .data, .data, .data], laidTests := true, laidLooks := .later }
def PrintLinesCardSaid : Prop := Claim7.holds Tryd.pinned (.plain (OpenSpec.ofChange printLinesSpec)) printLinesCard

/-- THE SECOND FORM's CARD OF 'pedigreelaw06.PrintTerms'. -/
def printTermsUptoCard : Claim7 := { stood := { row := printTermsUptoRow, standIns := [], harness := (true, "b13bac1fbb765cd4980fbf59466691393ff44b238c5788df16636b960089dfc2"), looks := true }, kinds := [], alts := [], laidByText := true, laidKinds := [.data, .data, .data, .data, .data, .data], laidTests := true, laidLooks := .later }
def PrintTermsUptoCardSaid : Prop := Claim7.holds Tryd.pinned (.plain (OpenSpec.upto printTermsSpec)) printTermsUptoCard

/-- THE SECOND FORM's CARD OF 'pedigreelaw06.PrintExprs'. -/
def printExprsUptoCard : Claim7 := { stood := { row := printExprsUptoRow, standIns := [], harness := (true, "b13bac1fbb765cd4980fbf59466691393ff44b238c5788df16636b960089dfc2"), looks := true }, kinds := [], alts := [], laidByText := true, laidKinds := [.data, .data, .data, .data, .data, .data], laidTests := true, laidLooks := .later }
def PrintExprsUptoCardSaid : Prop := Claim7.holds Tryd.pinned (.plain (OpenSpec.upto printExprsSpec)) printExprsUptoCard

/-- THE SECOND FORM's CARD OF 'pedigreelaw06.PrintFacts'. -/
def printFactsUptoCard : Claim7 := { stood := { row := printFactsUptoRow, standIns := [], harness := (true, "b13bac1fbb765cd4980fbf59466691393ff44b238c5788df16636b960089dfc2"), looks := true }, kinds := [], alts := [], laidByText := true, laidKinds := [.data, .data, .data, .data, .data, .data, .data], laidTests := true, laidLooks := .later }
def PrintFactsUptoCardSaid : Prop := Claim7.holds Tryd.pinned (.plain (OpenSpec.upto printFactsSpec)) printFactsUptoCard

/-- THE SECOND FORM's CARD OF 'pedigreelaw06.PrintUnlike'. -/
def printUnlikeUptoCard : Claim7 := { stood := { row := printUnlikeUptoRow, standIns := [], harness := (true, "b13bac1fbb765cd4980fbf59466691393ff44b238c5788df16636b960089dfc2"), looks := true }, kinds := [], alts := [], laidByText := true, laidKinds := [.data, .data, .data, .data, .data, .data, .data, .data, .data], laidTests := true, laidLooks := .later }
def PrintUnlikeUptoCardSaid : Prop := Claim7.holds Tryd.pinned (.plain (OpenSpec.upto printUnlikeSpec)) printUnlikeUptoCard

/-- THE SECOND FORM's CARD OF 'pedigreelaw06.PrintLines'. -/
def printLinesUptoCard : Claim7 := { stood := { row := printLinesUptoRow, standIns := [], harness := (true, "b13bac1fbb765cd4980fbf59466691393ff44b238c5788df16636b960089dfc2"), looks := true }, kinds := [], alts := [], laidByText := true, laidKinds := [.data, .data, .data, .data, .data, .data, .data, .data, .data], laidTests := true, laidLooks := .later }
def PrintLinesUptoCardSaid : Prop := Claim7.holds Tryd.pinned (.plain (OpenSpec.upto printLinesSpec)) printLinesUptoCard
end Rows
end Go.Proofs.YtlghiakckkhekaaDoor
