/-
  DERIVED. GIVEN WITH THE SEED: THE CARDS: each row of YtpjafkcmbinjiaaDoorRows.lean that lists a variable, with what it lists TIED to the program's text (the seventh form; the later family's looks); each row that meets fmt, with fmt's text TOLD by the authors' own Lean function (tested against real Go, not proved from fmt's source: count such statements apart). THE CARD IS WHAT COUNTS. Prove the row's statement (the work); the ties are given (YtpjafkcmbinjiaaDoorTie.lean); close each card by the builder's one call (the guide's Derived/Test/ToyasCard.lean, 'card_holds'). Laid BY PROGRAM, IN A SANDBOX (cutbox-door.mjs). By AI agents, Wed Nov 11 2026. No macro, syntax, notation, axiom, sorry.
-/
import Derived.Test.YtpjafkcmbinjiaaDoorRows
import GoSem.ClaimSeven
namespace Go.Proofs.YtpjafkcmbinjiaaDoor
namespace Rows

/-- THE TIED CARD OF 'stackyardlaw16.PruneWider'. -/
def pruneWiderCard : Claim7 := { stood := { row := pruneWiderRow, standIns := [], harness := (true, "65ea185483f82dc91446c43d43cce365ba32d16fb91625f8b592e0bbc39f3a9c"), looks := false }, kinds := [], alts := [], laidByText := true, laidKinds := [.data, .data, .pinned], laidTests := true, laidLooks := .later }
def PruneWiderCardSaid : Prop := Claim7.holds Tryd.pinned (.plain (OpenSpec.ofChange pruneWiderSpec)) pruneWiderCard

/-- THE TIED CARD OF 'stackyardlaw16.PruneNots'. -/
def pruneNotsCard : Claim7 := { stood := { row := pruneNotsRow, standIns := [], harness := (true, "65ea185483f82dc91446c43d43cce365ba32d16fb91625f8b592e0bbc39f3a9c"), looks := false }, kinds := [], alts := [], laidByText := true, laidKinds := [.data, .data, .pinned], laidTests := true, laidLooks := .later }
def PruneNotsCardSaid : Prop := Claim7.holds Tryd.pinned (.plain (OpenSpec.ofChange pruneNotsSpec)) pruneNotsCard

/-- THE TIED CARD OF 'stackyardlaw16.PruneAnswers'. -/
def pruneAnswersCard : Claim7 := { stood := { row := pruneAnswersRow, standIns := [], harness := (true, "65ea185483f82dc91446c43d43cce365ba32d16fb91625f8b592e0bbc39f3a9c"), looks := false }, kinds := [], alts := [], laidByText := true, laidKinds := [.data, .data, .pinned], laidTests := true, laidLooks := .later }
def PruneAnswersCardSaid : Prop := Claim7.holds Tryd.pinned (.plain (OpenSpec.ofChange pruneAnswersSpec)) pruneAnswersCard

/-- THE TIED CARD OF 'stackyardlaw16.PruneSound'. -/
def pruneSoundCard : Claim7 := { stood := { row := pruneSoundRow, standIns := [], harness := (true, "65ea185483f82dc91446c43d43cce365ba32d16fb91625f8b592e0bbc39f3a9c"), looks := false }, kinds := [], alts := [], laidByText := true, laidKinds := [.data, .data, .data, .data, .pinned], laidTests := true, laidLooks := .later }
def PruneSoundCardSaid : Prop := Claim7.holds Tryd.pinned (.plain (OpenSpec.ofChange pruneSoundSpec)) pruneSoundCard

/-- THE SECOND FORM's CARD OF 'stackyardlaw16.PruneWider'. -/
def pruneWiderUptoCard : Claim7 := { stood := { row := pruneWiderUptoRow, standIns := [], harness := (true, "65ea185483f82dc91446c43d43cce365ba32d16fb91625f8b592e0bbc39f3a9c"), looks := false }, kinds := [], alts := [], laidByText := true, laidKinds := [.data, .data, .pinned], laidTests := true, laidLooks := .later }
def PruneWiderUptoCardSaid : Prop := Claim7.holds Tryd.pinned (.plain (OpenSpec.upto pruneWiderSpec)) pruneWiderUptoCard

/-- THE SECOND FORM's CARD OF 'stackyardlaw16.PruneNots'. -/
def pruneNotsUptoCard : Claim7 := { stood := { row := pruneNotsUptoRow, standIns := [], harness := (true, "65ea185483f82dc91446c43d43cce365ba32d16fb91625f8b592e0bbc39f3a9c"), looks := false }, kinds := [], alts := [], laidByText := true, laidKinds := [.data, .data, .pinned], laidTests := true, laidLooks := .later }
def PruneNotsUptoCardSaid : Prop := Claim7.holds Tryd.pinned (.plain (OpenSpec.upto pruneNotsSpec)) pruneNotsUptoCard

/-- THE SECOND FORM's CARD OF 'stackyardlaw16.PruneAnswers'. -/
def pruneAnswersUptoCard : Claim7 := { stood := { row := pruneAnswersUptoRow, standIns := [], harness := (true, "65ea185483f82dc91446c43d43cce365ba32d16fb91625f8b592e0bbc39f3a9c"), looks := false }, kinds := [], alts := [], laidByText := true, laidKinds := [.data, .data, .pinned], laidTests := true, laidLooks := .later }
def PruneAnswersUptoCardSaid : Prop := Claim7.holds Tryd.pinned (.plain (OpenSpec.upto pruneAnswersSpec)) pruneAnswersUptoCard

/-- THE SECOND FORM's CARD OF 'stackyardlaw16.PruneSound'. -/
def pruneSoundUptoCard : Claim7 := { stood := { row := pruneSoundUptoRow, standIns := [], harness := (true, "65ea185483f82dc91446c43d43cce365ba32d16fb91625f8b592e0bbc39f3a9c"), looks := false }, kinds := [], alts := [], laidByText := true, laidKinds := [.data, .data, .data, .data, .pinned], laidTests := true, laidLooks := .later }
def PruneSoundUptoCardSaid : Prop := Claim7.holds Tryd.pinned (.plain (OpenSpec.upto pruneSoundSpec)) pruneSoundUptoCard
end Rows
end Go.Proofs.YtpjafkcmbinjiaaDoor
