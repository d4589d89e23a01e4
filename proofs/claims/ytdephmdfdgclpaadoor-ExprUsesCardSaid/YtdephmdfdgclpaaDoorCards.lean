/-
  DERIVED. GIVEN WITH THE SEED: THE CARDS: each row of YtdephmdfdgclpaaDoorRows.lean that lists a variable, with what it lists TIED to the program's text (the seventh form; the later family's looks); each row that meets fmt, with fmt's text TOLD by the authors' own Lean function (tested against real Go, not proved from fmt's source: count such statements apart). THE CARD IS WHAT COUNTS. Prove the row's statement (the work); the ties are given (YtdephmdfdgclpaaDoorTie.lean); close each card by the builder's one call (the guide's Derived/Test/ToyasCard.lean, 'card_holds'). Laid BY PROGRAM, IN A SANDBOX (cutbox-door.mjs). By AI agents, Wed Nov 11 2026. No macro, syntax, notation, axiom, sorry.
-/
import Derived.Test.YtdephmdfdgclpaaDoorRows
import GoSem.ClaimSeven
namespace Go.Proofs.YtdephmdfdgclpaaDoor
namespace Rows

/-- THE TIED CARD OF 'stackyardlaw10.ExprOthers'. -/
def exprOthersCard : Claim7 := { stood := { row := exprOthersRow, standIns := [], harness := (true, "c122df1207ed960eb5c2cc4cc7b9e559e361f191fb23c5fea1aa6157dc48d893"), looks := false }, kinds := [], alts := [], laidByText := true, laidKinds := [.data, .data, .data, .data, .pinned], laidTests := true, laidLooks := .later }
def ExprOthersCardSaid : Prop := Claim7.holds Tryd.pinned (.plain (OpenSpec.ofChange exprOthersSpec)) exprOthersCard

/-- THE TIED CARD OF 'stackyardlaw10.ExprUses'. -/
def exprUsesCard : Claim7 := { stood := { row := exprUsesRow, standIns := [], harness := (true, "c122df1207ed960eb5c2cc4cc7b9e559e361f191fb23c5fea1aa6157dc48d893"), looks := false }, kinds := [], alts := [], laidByText := true, laidKinds := [.data, .data, .data, .data, .pinned], laidTests := true, laidLooks := .later }
def ExprUsesCardSaid : Prop := Claim7.holds Tryd.pinned (.plain (OpenSpec.ofChange exprUsesSpec)) exprUsesCard

/-- THE TIED CARD OF 'stackyardlaw10.ExprTypes'. -/
def exprTypesCard : Claim7 := { stood := { row := exprTypesRow, standIns := [], harness := (true, "c122df1207ed960eb5c2cc4cc7b9e559e361f191fb23c5fea1aa6157dc48d893"), looks := false }, kinds := [], alts := [], laidByText := true, laidKinds := [.data, .data, .data, .data, .pinned], laidTests := true, laidLooks := .later }
def ExprTypesCardSaid : Prop := Claim7.holds Tryd.pinned (.plain (OpenSpec.ofChange exprTypesSpec)) exprTypesCard

/-- THE TIED CARD OF 'stackyardlaw10.ExprEvals'. -/
def exprEvalsCard : Claim7 := { stood := { row := exprEvalsRow, standIns := [], harness := (true, "c122df1207ed960eb5c2cc4cc7b9e559e361f191fb23c5fea1aa6157dc48d893"), looks := false }, kinds := [], alts := [], laidByText := true, laidKinds := [.data, .data, .data, .data, .pinned], laidTests := true, laidLooks := .later }
def ExprEvalsCardSaid : Prop := Claim7.holds Tryd.pinned (.plain (OpenSpec.ofChange exprEvalsSpec)) exprEvalsCard

/-- THE TIED CARD OF 'stackyardlaw10.ExprKinds'. -/
def exprKindsCard : Claim7 := { stood := { row := exprKindsRow, standIns := [], harness := (true, "c122df1207ed960eb5c2cc4cc7b9e559e361f191fb23c5fea1aa6157dc48d893"), looks := false }, kinds := [], alts := [], laidByText := true, laidKinds := [.data, .data, .data, .data, .pinned], laidTests := true, laidLooks := .later }
def ExprKindsCardSaid : Prop := Claim7.holds Tryd.pinned (.plain (OpenSpec.ofChange exprKindsSpec)) exprKindsCard

/-- THE TIED CARD OF 'stackyardlaw10.ExprTurns'. -/
def exprTurnsCard : Claim7 := { stood := { row := exprTurnsRow, standIns := [], harness := (true, "c122df1207ed960eb5c2cc4cc7b9e559e361f191fb23c5fea1aa6157dc48d893"), looks := false }, kinds := [], alts := [], laidByText := true, laidKinds := [.data, .data, .data, .data, .pinned], laidTests := true, laidLooks := .later }
def ExprTurnsCardSaid : Prop := Claim7.holds Tryd.pinned (.plain (OpenSpec.ofChange exprTurnsSpec)) exprTurnsCard

/-- THE TIED CARD OF 'stackyardlaw10.ExprSwaps'. -/
def exprSwapsCard : Claim7 := { stood := { row := exprSwapsRow, standIns := [], harness := (true, "c122df1207ed960eb5c2cc4cc7b9e559e361f191fb23c5fea1aa6157dc48d893"), looks := false }, kinds := [], alts := [], laidByText := true, laidKinds := [.data, .data, .data, .data, .pinned], laidTests := true, laidLooks := .later }
def ExprSwapsCardSaid : Prop := Claim7.holds Tryd.pinned (.plain (OpenSpec.ofChange exprSwapsSpec)) exprSwapsCard

/-- THE TIED CARD OF 'stackyardlaw10.ExprOrders'. -/
def exprOrdersCard : Claim7 := { stood := { row := exprOrdersRow, standIns := [], harness := (true, "c122df1207ed960eb5c2cc4cc7b9e559e361f191fb23c5fea1aa6157dc48d893"), looks := false }, kinds := [], alts := [], laidByText := true, laidKinds := [.data, .data, .data, .data, .pinned], laidTests := true, laidLooks := .later }
def ExprOrdersCardSaid : Prop := Claim7.holds Tryd.pinned (.plain (OpenSpec.ofChange exprOrdersSpec)) exprOrdersCard

/-- THE SECOND FORM's CARD OF 'stackyardlaw10.ExprOthers'. -/
def exprOthersUptoCard : Claim7 := { stood := { row := exprOthersUptoRow, standIns := [], harness := (true, "c122df1207ed960eb5c2cc4cc7b9e559e361f191fb23c5fea1aa6157dc48d893"), looks := false }, kinds := [], alts := [], laidByText := true, laidKinds := [.data, .data, .data, .data, .pinned], laidTests := true, laidLooks := .later }
def ExprOthersUptoCardSaid : Prop := Claim7.holds Tryd.pinned (.plain (OpenSpec.upto exprOthersSpec)) exprOthersUptoCard

/-- THE SECOND FORM's CARD OF 'stackyardlaw10.ExprUses'. -/
def exprUsesUptoCard : Claim7 := { stood := { row := exprUsesUptoRow, standIns := [], harness := (true, "c122df1207ed960eb5c2cc4cc7b9e559e361f191fb23c5fea1aa6157dc48d893"), looks := false }, kinds := [], alts := [], laidByText := true, laidKinds := [.data, .data, .data, .data, .pinned], laidTests := true, laidLooks := .later }
def ExprUsesUptoCardSaid : Prop := Claim7.holds Tryd.pinned (.plain (OpenSpec.upto exprUsesSpec)) exprUsesUptoCard

/-- THE SECOND FORM's CARD OF 'stackyardlaw10.ExprTypes'. -/
def exprTypesUptoCard : Claim7 := { stood := { row := exprTypesUptoRow, standIns := [], harness := (true, "c122df1207ed960eb5c2cc4cc7b9e559e361f191fb23c5fea1aa6157dc48d893"), looks := false }, kinds := [], alts := [], laidByText := true, laidKinds := [.data, .data, .data, .data, .pinned], laidTests := true, laidLooks := .later }
def ExprTypesUptoCardSaid : Prop := Claim7.holds Tryd.pinned (.plain (OpenSpec.upto exprTypesSpec)) exprTypesUptoCard

/-- THE SECOND FORM's CARD OF 'stackyardlaw10.ExprEvals'. -/
def exprEvalsUptoCard : Claim7 := { stood := { row := exprEvalsUptoRow, standIns := [], harness := (true, "c122df1207ed960eb5c2cc4cc7b9e559e361f191fb23c5fea1aa6157dc48d893"), looks := false }, kinds := [], alts := [], laidByText := true, laidKinds := [.data, .data, .data, .data, .pinned], laidTests := true, laidLooks := .later }
def ExprEvalsUptoCardSaid : Prop := Claim7.holds Tryd.pinned (.plain (OpenSpec.upto exprEvalsSpec)) exprEvalsUptoCard

/-- THE SECOND FORM's CARD OF 'stackyardlaw10.ExprKinds'. -/
def exprKindsUptoCard : Claim7 := { stood := { row := exprKindsUptoRow, standIns := [], harness := (true, "c122df1207ed960eb5c2cc4cc7b9e559e361f191fb23c5fea1aa6157dc48d893"), looks := false }, kinds := [], alts := [], laidByText := true, laidKinds := [.data, .data, .data, .data, .pinned], laidTests := true, laidLooks := .later }
def ExprKindsUptoCardSaid : Prop := Claim7.holds Tryd.pinned (.plain (OpenSpec.upto exprKindsSpec)) exprKindsUptoCard

/-- THE SECOND FORM's CARD OF 'stackyardlaw10.ExprTurns'. -/
def exprTurnsUptoCard : Claim7 := { stood := { row := exprTurnsUptoRow, standIns := [], harness := (true, "c122df1207ed960eb5c2cc4cc7b9e559e361f191fb23c5fea1aa6157dc48d893"), looks := false }, kinds := [], alts := [], laidByText := true, laidKinds := [.data, .data, .data, .data, .pinned], laidTests := true, laidLooks := .later }
def ExprTurnsUptoCardSaid : Prop := Claim7.holds Tryd.pinned (.plain (OpenSpec.upto exprTurnsSpec)) exprTurnsUptoCard

/-- THE SECOND FORM's CARD OF 'stackyardlaw10.ExprSwaps'. -/
def exprSwapsUptoCard : Claim7 := { stood := { row := exprSwapsUptoRow, standIns := [], harness := (true, "c122df1207ed960eb5c2cc4cc7b9e559e361f191fb23c5fea1aa6157dc48d893"), looks := false }, kinds := [], alts := [], laidByText := true, laidKinds := [.data, .data, .data, .data, .pinned], laidTests := true, laidLooks := .later }
def ExprSwapsUptoCardSaid : Prop := Claim7.holds Tryd.pinned (.plain (OpenSpec.upto exprSwapsSpec)) exprSwapsUptoCard

/-- THE SECOND FORM's CARD OF 'stackyardlaw10.ExprOrders'. -/
def exprOrdersUptoCard : Claim7 := { stood := { row := exprOrdersUptoRow, standIns := [], harness := (true, "c122df1207ed960eb5c2cc4cc7b9e559e361f191fb23c5fea1aa6157dc48d893"), looks := false }, kinds := [], alts := [], laidByText := true, laidKinds := [.data, .data, .data, .data, .pinned], laidTests := true, laidLooks := .later }
def ExprOrdersUptoCardSaid : Prop := Claim7.holds Tryd.pinned (.plain (OpenSpec.upto exprOrdersSpec)) exprOrdersUptoCard
end Rows
end Go.Proofs.YtdephmdfdgclpaaDoor
