/-
  DERIVED. GIVEN WITH THE SEED: THE CARDS: each row of YtiojkfckaalooaaDoorRows.lean that lists a variable, with what it lists TIED to the program's text (the seventh form; the later family's looks); each row that meets fmt, with fmt's text TOLD by the authors' own Lean function (tested against real Go, not proved from fmt's source: count such statements apart). THE CARD IS WHAT COUNTS. Prove the row's statement (the work); the ties are given (YtiojkfckaalooaaDoorTie.lean); close each card by the builder's one call (the guide's Derived/Test/ToyasCard.lean, 'card_holds'). Laid BY PROGRAM, IN A SANDBOX (cutbox-door.mjs). By AI agents, Wed Nov 11 2026. No macro, syntax, notation, axiom, sorry.
-/
import Derived.Test.YtiojkfckaalooaaDoorRows
import GoSem.ClaimSeven
namespace Go.Proofs.YtiojkfckaalooaaDoor
namespace Rows

/-- THE TIED CARD OF 'stackyardlaw05.SchemaParts'. -/
def schemaPartsCard : Claim7 := { stood := { row := schemaPartsRow, standIns := [], harness := (true, "81be98c59e8adc5681a7acb178256d1fcfb404cec9cf2960c809896d89f3225f"), looks := false }, kinds := [], alts := [], laidByText := true, laidKinds := [.data, .data, .pinned], laidTests := true, laidLooks := .later }
def SchemaPartsCardSaid : Prop := Claim7.holds Tryd.pinned (.plain (OpenSpec.ofChange schemaPartsSpec)) schemaPartsCard

/-- THE TIED CARD OF 'stackyardlaw05.SchemaLays'. -/
def schemaLaysCard : Claim7 := { stood := { row := schemaLaysRow, standIns := [], harness := (true, "81be98c59e8adc5681a7acb178256d1fcfb404cec9cf2960c809896d89f3225f"), looks := false }, kinds := [], alts := [], laidByText := true, laidKinds := [.data, .data, .pinned], laidTests := true, laidLooks := .later }
def SchemaLaysCardSaid : Prop := Claim7.holds Tryd.pinned (.plain (OpenSpec.ofChange schemaLaysSpec)) schemaLaysCard

/-- THE TIED CARD OF 'stackyardlaw05.SchemaFits'. -/
def schemaFitsCard : Claim7 := { stood := { row := schemaFitsRow, standIns := [], harness := (true, "81be98c59e8adc5681a7acb178256d1fcfb404cec9cf2960c809896d89f3225f"), looks := false }, kinds := [], alts := [], laidByText := true, laidKinds := [.data, .data, .pinned], laidTests := true, laidLooks := .later }
def SchemaFitsCardSaid : Prop := Claim7.holds Tryd.pinned (.plain (OpenSpec.ofChange schemaFitsSpec)) schemaFitsCard

/-- THE TIED CARD OF 'stackyardlaw05.SchemaRows'. -/
def schemaRowsCard : Claim7 := { stood := { row := schemaRowsRow, standIns := [], harness := (true, "81be98c59e8adc5681a7acb178256d1fcfb404cec9cf2960c809896d89f3225f"), looks := false }, kinds := [], alts := [], laidByText := true, laidKinds := [.data, .data, .pinned], laidTests := true, laidLooks := .later }
def SchemaRowsCardSaid : Prop := Claim7.holds Tryd.pinned (.plain (OpenSpec.ofChange schemaRowsSpec)) schemaRowsCard

/-- THE TIED CARD OF 'stackyardlaw05.SchemaOne'. -/
def schemaOneCard : Claim7 := { stood := { row := schemaOneRow, standIns := [], harness := (true, "81be98c59e8adc5681a7acb178256d1fcfb404cec9cf2960c809896d89f3225f"), looks := false }, kinds := [], alts := [], laidByText := true, laidKinds := [.data, .data, .pinned], laidTests := true, laidLooks := .later }
def SchemaOneCardSaid : Prop := Claim7.holds Tryd.pinned (.plain (OpenSpec.ofChange schemaOneSpec)) schemaOneCard

/-- THE TIED CARD OF 'stackyardlaw05.SchemaTexts'. -/
def schemaTextsCard : Claim7 := { stood := { row := schemaTextsRow, standIns := [], harness := (true, "81be98c59e8adc5681a7acb178256d1fcfb404cec9cf2960c809896d89f3225f"), looks := false }, kinds := [], alts := [], laidByText := true, laidKinds := [.data, .data, .pinned], laidTests := true, laidLooks := .later }
def SchemaTextsCardSaid : Prop := Claim7.holds Tryd.pinned (.plain (OpenSpec.ofChange schemaTextsSpec)) schemaTextsCard

/-- THE TIED CARD OF 'stackyardlaw05.SchemaBack'. -/
def schemaBackCard : Claim7 := { stood := { row := schemaBackRow, standIns := [], harness := (true, "81be98c59e8adc5681a7acb178256d1fcfb404cec9cf2960c809896d89f3225f"), looks := false }, kinds := [], alts := [], laidByText := true, laidKinds := [.data, .data, .pinned], laidTests := true, laidLooks := .later }
def SchemaBackCardSaid : Prop := Claim7.holds Tryd.pinned (.plain (OpenSpec.ofChange schemaBackSpec)) schemaBackCard

/-- THE SECOND FORM's CARD OF 'stackyardlaw05.SchemaParts'. -/
def schemaPartsUptoCard : Claim7 := { stood := { row := schemaPartsUptoRow, standIns := [], harness := (true, "81be98c59e8adc5681a7acb178256d1fcfb404cec9cf2960c809896d89f3225f"), looks := false }, kinds := [], alts := [], laidByText := true, laidKinds := [.data, .data, .pinned], laidTests := true, laidLooks := .later }
def SchemaPartsUptoCardSaid : Prop := Claim7.holds Tryd.pinned (.plain (OpenSpec.upto schemaPartsSpec)) schemaPartsUptoCard

/-- THE SECOND FORM's CARD OF 'stackyardlaw05.SchemaLays'. -/
def schemaLaysUptoCard : Claim7 := { stood := { row := schemaLaysUptoRow, standIns := [], harness := (true, "81be98c59e8adc5681a7acb178256d1fcfb404cec9cf2960c809896d89f3225f"), looks := false }, kinds := [], alts := [], laidByText := true, laidKinds := [.data, .data, .pinned], laidTests := true, laidLooks := .later }
def SchemaLaysUptoCardSaid : Prop := Claim7.holds Tryd.pinned (.plain (OpenSpec.upto schemaLaysSpec)) schemaLaysUptoCard

/-- THE SECOND FORM's CARD OF 'stackyardlaw05.SchemaFits'. -/
def schemaFitsUptoCard : Claim7 := { stood := { row := schemaFitsUptoRow, standIns := [], harness := (true, "81be98c59e8adc5681a7acb178256d1fcfb404cec9cf2960c809896d89f3225f"), looks := false }, kinds := [], alts := [], laidByText := true, laidKinds := [.data, .data, .pinned], laidTests := true, laidLooks := .later }
def SchemaFitsUptoCardSaid : Prop := Claim7.holds Tryd.pinned (.plain (OpenSpec.upto schemaFitsSpec)) schemaFitsUptoCard

/-- THE SECOND FORM's CARD OF 'stackyardlaw05.SchemaRows'. -/
def schemaRowsUptoCard : Claim7 := { stood := { row := schemaRowsUptoRow, standIns := [], harness := (true, "81be98c59e8adc5681a7acb178256d1fcfb404cec9cf2960c809896d89f3225f"), looks := false }, kinds := [], alts := [], laidByText := true, laidKinds := [.data, .data, .pinned], laidTests := true, laidLooks := .later }
def SchemaRowsUptoCardSaid : Prop := Claim7.holds Tryd.pinned (.plain (OpenSpec.upto schemaRowsSpec)) schemaRowsUptoCard

/-- THE SECOND FORM's CARD OF 'stackyardlaw05.SchemaOne'. -/
def schemaOneUptoCard : Claim7 := { stood := { row := schemaOneUptoRow, standIns := [], harness := (true, "81be98c59e8adc5681a7acb178256d1fcfb404cec9cf2960c809896d89f3225f"), looks := false }, kinds := [], alts := [], laidByText := true, laidKinds := [.data, .data, .pinned], laidTests := true, laidLooks := .later }
def SchemaOneUptoCardSaid : Prop := Claim7.holds Tryd.pinned (.plain (OpenSpec.upto schemaOneSpec)) schemaOneUptoCard

/-- THE SECOND FORM's CARD OF 'stackyardlaw05.SchemaTexts'. -/
def schemaTextsUptoCard : Claim7 := { stood := { row := schemaTextsUptoRow, standIns := [], harness := (true, "81be98c59e8adc5681a7acb178256d1fcfb404cec9cf2960c809896d89f3225f"), looks := false }, kinds := [], alts := [], laidByText := true, laidKinds := [.data, .data, .pinned], laidTests := true, laidLooks := .later }
def SchemaTextsUptoCardSaid : Prop := Claim7.holds Tryd.pinned (.plain (OpenSpec.upto schemaTextsSpec)) schemaTextsUptoCard

/-- THE SECOND FORM's CARD OF 'stackyardlaw05.SchemaBack'. -/
def schemaBackUptoCard : Claim7 := { stood := { row := schemaBackUptoRow, standIns := [], harness := (true, "81be98c59e8adc5681a7acb178256d1fcfb404cec9cf2960c809896d89f3225f"), looks := false }, kinds := [], alts := [], laidByText := true, laidKinds := [.data, .data, .pinned], laidTests := true, laidLooks := .later }
def SchemaBackUptoCardSaid : Prop := Claim7.holds Tryd.pinned (.plain (OpenSpec.upto schemaBackSpec)) schemaBackUptoCard
end Rows
end Go.Proofs.YtiojkfckaalooaaDoor
