/-
  DERIVED. GIVEN WITH THE SEED: THE CARDS: each row of YtaccokhdmhomhaaDoorRows.lean that lists a variable, with what it lists TIED to the program's text (the seventh form; the later family's looks); each row that meets fmt, with fmt's text TOLD by the authors' own Lean function (tested against real Go, not proved from fmt's source: count such statements apart). THE CARD IS WHAT COUNTS. Prove the row's statement (the work); the ties are given (YtaccokhdmhomhaaDoorTie.lean); close each card by the builder's one call (the guide's Derived/Test/ToyasCard.lean, 'card_holds'). Laid BY PROGRAM, IN A SANDBOX (cutbox-door.mjs). By AI agents, Wed Nov 11 2026. No macro, syntax, notation, axiom, sorry.
-/
import Derived.Test.YtaccokhdmhomhaaDoorRows
import GoSem.ClaimSeven
namespace Go.Proofs.YtaccokhdmhomhaaDoor
namespace Rows

/-- THE TIED CARD OF 'stackyardlaw13.VectorEvals'. -/
def vectorEvalsCard : Claim7 := { stood := { row := vectorEvalsRow, standIns := [], harness := (true, "c6e7407b2a284b4b5ea618a2ad6bbf6a5db152b2a1fde8884621c361a19dcc53"), looks := false }, kinds := [], alts := [], laidByText := true, laidKinds := [.data, .data, .data, .data, .pinned], laidTests := true, laidLooks := .later }
def VectorEvalsCardSaid : Prop := Claim7.holds Tryd.pinned (.plain (OpenSpec.ofChange vectorEvalsSpec)) vectorEvalsCard

/-- THE TIED CARD OF 'stackyardlaw13.VectorFilters'. -/
def vectorFiltersCard : Claim7 := { stood := { row := vectorFiltersRow, standIns := [], harness := (true, "c6e7407b2a284b4b5ea618a2ad6bbf6a5db152b2a1fde8884621c361a19dcc53"), looks := false }, kinds := [], alts := [], laidByText := true, laidKinds := [.data, .data, .data, .data, .pinned], laidTests := true, laidLooks := .later }
def VectorFiltersCardSaid : Prop := Claim7.holds Tryd.pinned (.plain (OpenSpec.ofChange vectorFiltersSpec)) vectorFiltersCard

/-- THE TIED CARD OF 'stackyardlaw13.VectorRows'. -/
def vectorRowsCard : Claim7 := { stood := { row := vectorRowsRow, standIns := [], harness := (true, "c6e7407b2a284b4b5ea618a2ad6bbf6a5db152b2a1fde8884621c361a19dcc53"), looks := false }, kinds := [], alts := [], laidByText := true, laidKinds := [.data, .data, .data, .data, .pinned], laidTests := true, laidLooks := .later }
def VectorRowsCardSaid : Prop := Claim7.holds Tryd.pinned (.plain (OpenSpec.ofChange vectorRowsSpec)) vectorRowsCard

/-- THE TIED CARD OF 'stackyardlaw13.VectorBoth'. -/
def vectorBothCard : Claim7 := { stood := { row := vectorBothRow, standIns := [], harness := (true, "c6e7407b2a284b4b5ea618a2ad6bbf6a5db152b2a1fde8884621c361a19dcc53"), looks := false }, kinds := [], alts := [], laidByText := true, laidKinds := [.data, .data, .data, .data, .pinned], laidTests := true, laidLooks := .later }
def VectorBothCardSaid : Prop := Claim7.holds Tryd.pinned (.plain (OpenSpec.ofChange vectorBothSpec)) vectorBothCard

/-- THE TIED CARD OF 'stackyardlaw13.VectorLess'. -/
def vectorLessCard : Claim7 := { stood := { row := vectorLessRow, standIns := [], harness := (true, "c6e7407b2a284b4b5ea618a2ad6bbf6a5db152b2a1fde8884621c361a19dcc53"), looks := false }, kinds := [], alts := [], laidByText := true, laidKinds := [.data, .data, .data, .data, .pinned], laidTests := true, laidLooks := .later }
def VectorLessCardSaid : Prop := Claim7.holds Tryd.pinned (.plain (OpenSpec.ofChange vectorLessSpec)) vectorLessCard

/-- THE SECOND FORM's CARD OF 'stackyardlaw13.VectorEvals'. -/
def vectorEvalsUptoCard : Claim7 := { stood := { row := vectorEvalsUptoRow, standIns := [], harness := (true, "c6e7407b2a284b4b5ea618a2ad6bbf6a5db152b2a1fde8884621c361a19dcc53"), looks := false }, kinds := [], alts := [], laidByText := true, laidKinds := [.data, .data, .data, .data, .pinned], laidTests := true, laidLooks := .later }
def VectorEvalsUptoCardSaid : Prop := Claim7.holds Tryd.pinned (.plain (OpenSpec.upto vectorEvalsSpec)) vectorEvalsUptoCard

/-- THE SECOND FORM's CARD OF 'stackyardlaw13.VectorFilters'. -/
def vectorFiltersUptoCard : Claim7 := { stood := { row := vectorFiltersUptoRow, standIns := [], harness := (true, "c6e7407b2a284b4b5ea618a2ad6bbf6a5db152b2a1fde8884621c361a19dcc53"), looks := false }, kinds := [], alts := [], laidByText := true, laidKinds := [.data, .data, .data, .data, .pinned], laidTests := true, laidLooks := .later }
def VectorFiltersUptoCardSaid : Prop := Claim7.holds Tryd.pinned (.plain (OpenSpec.upto vectorFiltersSpec)) vectorFiltersUptoCard

/-- THE SECOND FORM's CARD OF 'stackyardlaw13.VectorRows'. -/
def vectorRowsUptoCard : Claim7 := { stood := { row := vectorRowsUptoRow, standIns := [], harness := (true, "c6e7407b2a284b4b5ea618a2ad6bbf6a5db152b2a1fde8884621c361a19dcc53"), looks := false }, kinds := [], alts := [], laidByText := true, laidKinds := [.data, .data, .data, .data, .pinned], laidTests := true, laidLooks := .later }
def VectorRowsUptoCardSaid : Prop := Claim7.holds Tryd.pinned (.plain (OpenSpec.upto vectorRowsSpec)) vectorRowsUptoCard

/-- THE SECOND FORM's CARD OF 'stackyardlaw13.VectorBoth'. -/
def vectorBothUptoCard : Claim7 := { stood := { row := vectorBothUptoRow, standIns := [], harness := (true, "c6e7407b2a284b4b5ea618a2ad6bbf6a5db152b2a1fde8884621c361a19dcc53"), looks := false }, kinds := [], alts := [], laidByText := true, laidKinds := [.data, .data, .data, .data, .pinned], laidTests := true, laidLooks := .later }
def VectorBothUptoCardSaid : Prop := Claim7.holds Tryd.pinned (.plain (OpenSpec.upto vectorBothSpec)) vectorBothUptoCard

/-- THE SECOND FORM's CARD OF 'stackyardlaw13.VectorLess'. -/
def vectorLessUptoCard : Claim7 := { stood := { row := vectorLessUptoRow, standIns := [], harness := (true, "c6e7407b2a284b4b5ea618a2ad6bbf6a5db152b2a1fde8884621c361a19dcc53"), looks := false }, kinds := [], alts := [], laidByText := true, laidKinds := [.data, .data, .data, .data, .pinned], laidTests := true, laidLooks := .later }
def VectorLessUptoCardSaid : Prop := Claim7.holds Tryd.pinned (.plain (OpenSpec.upto vectorLessSpec)) vectorLessUptoCard
end Rows
end Go.Proofs.YtaccokhdmhomhaaDoor
