/-
  DERIVED. GIVEN WITH THE SEED: THE CARDS: each row of YthnimelcbbinaaaDoorRows.lean that lists a variable, with what it lists TIED to the program's text (the seventh form; the later family's looks); each row that meets fmt, with fmt's text TOLD by the authors' own Lean function (tested against real Go, not proved from fmt's source: count such statements apart). THE CARD IS WHAT COUNTS. Prove the row's statement (the work); the ties are given (YthnimelcbbinaaaDoorTie.lean); close each card by the builder's one call (the guide's Derived/Test/ToyasCard.lean, 'card_holds'). Laid BY PROGRAM, IN A SANDBOX (cutbox-door.mjs). By AI agents, Wed Nov 11 2026. No macro, syntax, notation, axiom, sorry.
-/
import Derived.Test.YthnimelcbbinaaaDoorRows
import GoSem.ClaimSeven
namespace Go.Proofs.YthnimelcbbinaaaDoor
namespace Rows

/-- THE TIED CARD OF 'stackyardlaw03.HashSums'. -/
def hashSumsCard : Claim7 := { stood := { row := hashSumsRow, standIns := [], harness := (true, "da17785e2830c9724ae18f3617842d1149682a5f996db1d789ba705813faea3d"), looks := false }, kinds := [], alts := [], laidByText := true, laidKinds := [.data, .data, .data], laidTests := true, laidLooks := .later }
def HashSumsCardSaid : Prop := Claim7.holds Tryd.pinned (.plain (OpenSpec.ofChange hashSumsSpec)) hashSumsCard

/-- THE TIED CARD OF 'stackyardlaw03.HashParts'. -/
def hashPartsCard : Claim7 := { stood := { row := hashPartsRow, standIns := [], harness := (true, "da17785e2830c9724ae18f3617842d1149682a5f996db1d789ba705813faea3d"), looks := false }, kinds := [], alts := [], laidByText := true, laidKinds := [.data, .data, .data], laidTests := true, laidLooks := .later }
def HashPartsCardSaid : Prop := Claim7.holds Tryd.pinned (.plain (OpenSpec.ofChange hashPartsSpec)) hashPartsCard

/-- THE TIED CARD OF 'stackyardlaw03.HashTexts'. -/
def hashTextsCard : Claim7 := { stood := { row := hashTextsRow, standIns := [], harness := (true, "da17785e2830c9724ae18f3617842d1149682a5f996db1d789ba705813faea3d"), looks := false }, kinds := [], alts := [], laidByText := true, laidKinds := [.data, .data, .data], laidTests := true, laidLooks := .later }
def HashTextsCardSaid : Prop := Claim7.holds Tryd.pinned (.plain (OpenSpec.ofChange hashTextsSpec)) hashTextsCard

/-- THE TIED CARD OF 'stackyardlaw03.HashBack'. -/
def hashBackCard : Claim7 := { stood := { row := hashBackRow, standIns := [], harness := (true, "da17785e2830c9724ae18f3617842d1149682a5f996db1d789ba705813faea3d"), looks := false }, kinds := [], alts := [], laidByText := true, laidKinds := [.data, .data, .data], laidTests := true, laidLooks := .later }
def HashBackCardSaid : Prop := Claim7.holds Tryd.pinned (.plain (OpenSpec.ofChange hashBackSpec)) hashBackCard

/-- THE SECOND FORM's CARD OF 'stackyardlaw03.HashSums'. -/
def hashSumsUptoCard : Claim7 := { stood := { row := hashSumsUptoRow, standIns := [], harness := (true, "da17785e2830c9724ae18f3617842d1149682a5f996db1d789ba705813faea3d"), looks := false }, kinds := [], alts := [], laidByText := true, laidKinds := [.data, .data, .data], laidTests := true, laidLooks := .later }
def HashSumsUptoCardSaid : Prop := Claim7.holds Tryd.pinned (.plain (OpenSpec.upto hashSumsSpec)) hashSumsUptoCard

/-- THE SECOND FORM's CARD OF 'stackyardlaw03.HashParts'. -/
def hashPartsUptoCard : Claim7 := { stood := { row := hashPartsUptoRow, standIns := [], harness := (true, "da17785e2830c9724ae18f3617842d1149682a5f996db1d789ba705813faea3d"), looks := false }, kinds := [], alts := [], laidByText := true, laidKinds := [.data, .data, .data], laidTests := true, laidLooks := .later }
def HashPartsUptoCardSaid : Prop := Claim7.holds Tryd.pinned (.plain (OpenSpec.upto hashPartsSpec)) hashPartsUptoCard

/-- THE SECOND FORM's CARD OF 'stackyardlaw03.HashTexts'. -/
def hashTextsUptoCard : Claim7 := { stood := { row := hashTextsUptoRow, standIns := [], harness := (true, "da17785e2830c9724ae18f3617842d1149682a5f996db1d789ba705813faea3d"), looks := false }, kinds := [], alts := [], laidByText := true, laidKinds := [.data, .data, .data], laidTests := true, laidLooks := .later }
def HashTextsUptoCardSaid : Prop := Claim7.holds Tryd.pinned (.plain (OpenSpec.upto hashTextsSpec)) hashTextsUptoCard

/-- THE SECOND FORM's CARD OF 'stackyardlaw03.HashBack'. -/
def hashBackUptoCard : Claim7 := { stood := { row := hashBackUptoRow, standIns := [], harness := (true, "da17785e2830c9724ae18f3617842d1149682a5f996db1d789ba705813faea3d"), looks := false }, kinds := [], alts := [], laidByText := true, laidKinds := [.data, .data, .data], laidTests := true, laidLooks := .later }
def HashBackUptoCardSaid : Prop := Claim7.holds Tryd.pinned (.plain (OpenSpec.upto hashBackSpec)) hashBackUptoCard
end Rows
end Go.Proofs.YthnimelcbbinaaaDoor
