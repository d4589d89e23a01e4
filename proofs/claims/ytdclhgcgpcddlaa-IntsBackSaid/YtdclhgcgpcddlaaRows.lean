/-
  No cell of these rows narrows 'for every input' (looked for: loops, veiled, ifaces, maps, wideKeys, modest, calm, conditions, laid).
  DERIVED. THE GIVEN ROWS OF THIS SEAT. 19 by the template 'for every input the law returns true; each argument reads behind the call as it read before'; 0 by the template 'total and deterministic' (their statements: YtdclhgcgpcddlaaTotals.lean).
  GIVEN WITH THE SEED: the statements are not yours to turn. If you find one false, say at which input.
  Laid BY PROGRAM, IN A SANDBOX (cutbox-rows.mjs): the forced cells as the released guide's own fill.sh prints them over the translation cf1992fb1e36e3a6… (all of the seat's roots in one cut). By AI agents, Wed Nov 11 2026. No macro, syntax, notation, axiom, sorry.
-/
import Derived.Test.YtdclhgcgpcddlaaChecked
import GoSem.Claim
import GoSem.ClaimJoined
import GoSem.ClaimMapViews
import Derived.JoinedTies
import Derived.KernelRfl
namespace Go.Proofs.Ytdclhgcgpcddlaa
/- THE CELL 'sum', in the pinned program and in every row, IS THE sha256 OF THE DUMP (.gsa) THAT YtdclhgcgpcddlaaProg.lean LOADS. Nothing in Lean hashes anything: it is a label: what it is worth is what the hold of that sum in a sandbox is worth. -/
noncomputable def Try.pinned : Pinned := { name := "ytdclhgcgpcddlaa", sum := "cf1992fb1e36e3a60de9df93042d87b38676c4675f8996bd9f0234c059060412", checked := Try.checked }
namespace Rows
def none {H : Type} : Left H := { results := [], args := [] }

/-- 'stackyardlaw01.PackWidths': WHATEVER THE INPUT: true; the input reads as it did. -/
def packWidthsSpec : ChangeSpec := { name := "packWidths", fn := fun _ => fun
  | [d1, d2, d3] => { results := [.lit (.bool true)], args := [d1, d2, d3] }
  | _ => none }
def packWidthsRow : OpenClaim := { program := "ytdclhgcgpcddlaa", sum := "cf1992fb1e36e3a60de9df93042d87b38676c4675f8996bd9f0234c059060412", func := "stackyard/stackyardlaw01.PackWidths", spec := "packWidths", unfollowed := true, recurses := true, apart := false }
def PackWidthsSaid : Prop := packWidthsRow.holds Try.pinned (OpenSpec.ofChange packWidthsSpec)

/-- ITS FALSE NEIGHBOUR: 'it returns false'. Refute it at one input. -/
def packWidthsWrong : ChangeSpec := { name := "packWidths", fn := fun _ => fun
  | [d1, d2, d3] => { results := [.lit (.bool false)], args := [d1, d2, d3] }
  | _ => none }
def PackWidthsWrongFalsely : Prop := packWidthsRow.holds Try.pinned (OpenSpec.ofChange packWidthsWrong)

/-- 'stackyardlaw01.PackWords': WHATEVER THE INPUT: true; the input reads as it did. -/
def packWordsSpec : ChangeSpec := { name := "packWords", fn := fun _ => fun
  | [d1, d2] => { results := [.lit (.bool true)], args := [d1, d2] }
  | _ => none }
def packWordsRow : OpenClaim := { program := "ytdclhgcgpcddlaa", sum := "cf1992fb1e36e3a60de9df93042d87b38676c4675f8996bd9f0234c059060412", func := "stackyard/stackyardlaw01.PackWords", spec := "packWords", unfollowed := true, recurses := true, apart := false }
def PackWordsSaid : Prop := packWordsRow.holds Try.pinned (OpenSpec.ofChange packWordsSpec)

/-- ITS FALSE NEIGHBOUR: 'it returns false'. Refute it at one input. -/
def packWordsWrong : ChangeSpec := { name := "packWords", fn := fun _ => fun
  | [d1, d2] => { results := [.lit (.bool false)], args := [d1, d2] }
  | _ => none }
def PackWordsWrongFalsely : Prop := packWordsRow.holds Try.pinned (OpenSpec.ofChange packWordsWrong)

/-- 'stackyardlaw01.PackParts': WHATEVER THE INPUT: true; the input reads as it did. -/
def packPartsSpec : ChangeSpec := { name := "packParts", fn := fun _ => fun
  | [d1, d2, d3] => { results := [.lit (.bool true)], args := [d1, d2, d3] }
  | _ => none }
def packPartsRow : OpenClaim := { program := "ytdclhgcgpcddlaa", sum := "cf1992fb1e36e3a60de9df93042d87b38676c4675f8996bd9f0234c059060412", func := "stackyard/stackyardlaw01.PackParts", spec := "packParts", unfollowed := true, recurses := true, apart := false }
def PackPartsSaid : Prop := packPartsRow.holds Try.pinned (OpenSpec.ofChange packPartsSpec)

/-- ITS FALSE NEIGHBOUR: 'it returns false'. Refute it at one input. -/
def packPartsWrong : ChangeSpec := { name := "packParts", fn := fun _ => fun
  | [d1, d2, d3] => { results := [.lit (.bool false)], args := [d1, d2, d3] }
  | _ => none }
def PackPartsWrongFalsely : Prop := packPartsRow.holds Try.pinned (OpenSpec.ofChange packPartsWrong)

/-- 'stackyardlaw01.PackLeast': WHATEVER THE INPUT: true; the input reads as it did. -/
def packLeastSpec : ChangeSpec := { name := "packLeast", fn := fun _ => fun
  | [d] => { results := [.lit (.bool true)], args := [d] }
  | _ => none }
def packLeastRow : OpenClaim := { program := "ytdclhgcgpcddlaa", sum := "cf1992fb1e36e3a60de9df93042d87b38676c4675f8996bd9f0234c059060412", func := "stackyard/stackyardlaw01.PackLeast", spec := "packLeast", unfollowed := true, recurses := true, apart := false }
def PackLeastSaid : Prop := packLeastRow.holds Try.pinned (OpenSpec.ofChange packLeastSpec)

/-- ITS FALSE NEIGHBOUR: 'it returns false'. Refute it at one input. -/
def packLeastWrong : ChangeSpec := { name := "packLeast", fn := fun _ => fun
  | [d] => { results := [.lit (.bool false)], args := [d] }
  | _ => none }
def PackLeastWrongFalsely : Prop := packLeastRow.holds Try.pinned (OpenSpec.ofChange packLeastWrong)

/-- 'stackyardlaw01.PackReads': WHATEVER THE INPUT: true; the input reads as it did. -/
def packReadsSpec : ChangeSpec := { name := "packReads", fn := fun _ => fun
  | [d1, d2, d3] => { results := [.lit (.bool true)], args := [d1, d2, d3] }
  | _ => none }
def packReadsRow : OpenClaim := { program := "ytdclhgcgpcddlaa", sum := "cf1992fb1e36e3a60de9df93042d87b38676c4675f8996bd9f0234c059060412", func := "stackyard/stackyardlaw01.PackReads", spec := "packReads", unfollowed := true, recurses := true, apart := false }
def PackReadsSaid : Prop := packReadsRow.holds Try.pinned (OpenSpec.ofChange packReadsSpec)

/-- ITS FALSE NEIGHBOUR: 'it returns false'. Refute it at one input. -/
def packReadsWrong : ChangeSpec := { name := "packReads", fn := fun _ => fun
  | [d1, d2, d3] => { results := [.lit (.bool false)], args := [d1, d2, d3] }
  | _ => none }
def PackReadsWrongFalsely : Prop := packReadsRow.holds Try.pinned (OpenSpec.ofChange packReadsWrong)

/-- 'stackyardlaw01.PackBack': WHATEVER THE INPUT: true; the input reads as it did. -/
def packBackSpec : ChangeSpec := { name := "packBack", fn := fun _ => fun
  | [d1, d2, d3, d4] => { results := [.lit (.bool true)], args := [d1, d2, d3, d4] }
  | _ => none }
def packBackRow : OpenClaim := { program := "ytdclhgcgpcddlaa", sum := "cf1992fb1e36e3a60de9df93042d87b38676c4675f8996bd9f0234c059060412", func := "stackyard/stackyardlaw01.PackBack", spec := "packBack", unfollowed := true, recurses := true, apart := false }
def PackBackSaid : Prop := packBackRow.holds Try.pinned (OpenSpec.ofChange packBackSpec)

/-- ITS FALSE NEIGHBOUR: 'it returns false'. Refute it at one input. -/
def packBackWrong : ChangeSpec := { name := "packBack", fn := fun _ => fun
  | [d1, d2, d3, d4] => { results := [.lit (.bool false)], args := [d1, d2, d3, d4] }
  | _ => none }
def PackBackWrongFalsely : Prop := packBackRow.holds Try.pinned (OpenSpec.ofChange packBackWrong)

/-- 'stackyardlaw02.WireSums': WHATEVER THE INPUT: true; the input reads as it did. -/
def wireSumsSpec : ChangeSpec := { name := "wireSums", fn := fun _ => fun
  | [d] => { results := [.lit (.bool true)], args := [d] }
  | _ => none }
def wireSumsRow : OpenClaim := { program := "ytdclhgcgpcddlaa", sum := "cf1992fb1e36e3a60de9df93042d87b38676c4675f8996bd9f0234c059060412", func := "stackyard/stackyardlaw02.WireSums", spec := "wireSums", apart := false }
def WireSumsSaid : Prop := wireSumsRow.holds Try.pinned (OpenSpec.ofChange wireSumsSpec)

/-- ITS FALSE NEIGHBOUR: 'it returns false'. Refute it at one input. -/
def wireSumsWrong : ChangeSpec := { name := "wireSums", fn := fun _ => fun
  | [d] => { results := [.lit (.bool false)], args := [d] }
  | _ => none }
def WireSumsWrongFalsely : Prop := wireSumsRow.holds Try.pinned (OpenSpec.ofChange wireSumsWrong)

/-- 'stackyardlaw02.WireTurns': WHATEVER THE INPUT: true; the input reads as it did. -/
def wireTurnsSpec : ChangeSpec := { name := "wireTurns", fn := fun _ => fun
  | [d1, d2, d3] => { results := [.lit (.bool true)], args := [d1, d2, d3] }
  | _ => none }
def wireTurnsRow : OpenClaim := { program := "ytdclhgcgpcddlaa", sum := "cf1992fb1e36e3a60de9df93042d87b38676c4675f8996bd9f0234c059060412", func := "stackyard/stackyardlaw02.WireTurns", spec := "wireTurns", apart := false }
def WireTurnsSaid : Prop := wireTurnsRow.holds Try.pinned (OpenSpec.ofChange wireTurnsSpec)

/-- ITS FALSE NEIGHBOUR: 'it returns false'. Refute it at one input. -/
def wireTurnsWrong : ChangeSpec := { name := "wireTurns", fn := fun _ => fun
  | [d1, d2, d3] => { results := [.lit (.bool false)], args := [d1, d2, d3] }
  | _ => none }
def WireTurnsWrongFalsely : Prop := wireTurnsRow.holds Try.pinned (OpenSpec.ofChange wireTurnsWrong)

/-- 'stackyardlaw02.WireKeeps': WHATEVER THE INPUT: true; the input reads as it did. -/
def wireKeepsSpec : ChangeSpec := { name := "wireKeeps", fn := fun _ => fun
  | [d1, d2] => { results := [.lit (.bool true)], args := [d1, d2] }
  | _ => none }
def wireKeepsRow : OpenClaim := { program := "ytdclhgcgpcddlaa", sum := "cf1992fb1e36e3a60de9df93042d87b38676c4675f8996bd9f0234c059060412", func := "stackyard/stackyardlaw02.WireKeeps", spec := "wireKeeps", apart := false }
def WireKeepsSaid : Prop := wireKeepsRow.holds Try.pinned (OpenSpec.ofChange wireKeepsSpec)

/-- ITS FALSE NEIGHBOUR: 'it returns false'. Refute it at one input. -/
def wireKeepsWrong : ChangeSpec := { name := "wireKeeps", fn := fun _ => fun
  | [d1, d2] => { results := [.lit (.bool false)], args := [d1, d2] }
  | _ => none }
def WireKeepsWrongFalsely : Prop := wireKeepsRow.holds Try.pinned (OpenSpec.ofChange wireKeepsWrong)

/-- 'stackyardlaw02.WireNumbers': WHATEVER THE INPUT: true; the input reads as it did. -/
def wireNumbersSpec : ChangeSpec := { name := "wireNumbers", fn := fun _ => fun
  | [d1, d2, d3, d4] => { results := [.lit (.bool true)], args := [d1, d2, d3, d4] }
  | _ => none }
def wireNumbersRow : OpenClaim := { program := "ytdclhgcgpcddlaa", sum := "cf1992fb1e36e3a60de9df93042d87b38676c4675f8996bd9f0234c059060412", func := "stackyard/stackyardlaw02.WireNumbers", spec := "wireNumbers", apart := false }
def WireNumbersSaid : Prop := wireNumbersRow.holds Try.pinned (OpenSpec.ofChange wireNumbersSpec)

/-- ITS FALSE NEIGHBOUR: 'it returns false'. Refute it at one input. -/
def wireNumbersWrong : ChangeSpec := { name := "wireNumbers", fn := fun _ => fun
  | [d1, d2, d3, d4] => { results := [.lit (.bool false)], args := [d1, d2, d3, d4] }
  | _ => none }
def WireNumbersWrongFalsely : Prop := wireNumbersRow.holds Try.pinned (OpenSpec.ofChange wireNumbersWrong)

/-- 'stackyardlaw02.WireOne': WHATEVER THE INPUT: true; the input reads as it did. -/
def wireOneSpec : ChangeSpec := { name := "wireOne", fn := fun _ => fun
  | [d1, d2] => { results := [.lit (.bool true)], args := [d1, d2] }
  | _ => none }
def wireOneRow : OpenClaim := { program := "ytdclhgcgpcddlaa", sum := "cf1992fb1e36e3a60de9df93042d87b38676c4675f8996bd9f0234c059060412", func := "stackyard/stackyardlaw02.WireOne", spec := "wireOne", apart := false }
def WireOneSaid : Prop := wireOneRow.holds Try.pinned (OpenSpec.ofChange wireOneSpec)

/-- ITS FALSE NEIGHBOUR: 'it returns false'. Refute it at one input. -/
def wireOneWrong : ChangeSpec := { name := "wireOne", fn := fun _ => fun
  | [d1, d2] => { results := [.lit (.bool false)], args := [d1, d2] }
  | _ => none }
def WireOneWrongFalsely : Prop := wireOneRow.holds Try.pinned (OpenSpec.ofChange wireOneWrong)

/-- 'stackyardlaw02.WireTexts': WHATEVER THE INPUT: true; the input reads as it did. -/
def wireTextsSpec : ChangeSpec := { name := "wireTexts", fn := fun _ => fun
  | [d1, d2, d3, d4] => { results := [.lit (.bool true)], args := [d1, d2, d3, d4] }
  | _ => none }
def wireTextsRow : OpenClaim := { program := "ytdclhgcgpcddlaa", sum := "cf1992fb1e36e3a60de9df93042d87b38676c4675f8996bd9f0234c059060412", func := "stackyard/stackyardlaw02.WireTexts", spec := "wireTexts", apart := false }
def WireTextsSaid : Prop := wireTextsRow.holds Try.pinned (OpenSpec.ofChange wireTextsSpec)

/-- ITS FALSE NEIGHBOUR: 'it returns false'. Refute it at one input. -/
def wireTextsWrong : ChangeSpec := { name := "wireTexts", fn := fun _ => fun
  | [d1, d2, d3, d4] => { results := [.lit (.bool false)], args := [d1, d2, d3, d4] }
  | _ => none }
def WireTextsWrongFalsely : Prop := wireTextsRow.holds Try.pinned (OpenSpec.ofChange wireTextsWrong)

/-- 'stackyardlaw02.WireBack': WHATEVER THE INPUT: true; the input reads as it did. -/
def wireBackSpec : ChangeSpec := { name := "wireBack", fn := fun _ => fun
  | [d1, d2, d3, d4, d5] => { results := [.lit (.bool true)], args := [d1, d2, d3, d4, d5] }
  | _ => none }
def wireBackRow : OpenClaim := { program := "ytdclhgcgpcddlaa", sum := "cf1992fb1e36e3a60de9df93042d87b38676c4675f8996bd9f0234c059060412", func := "stackyard/stackyardlaw02.WireBack", spec := "wireBack", apart := false }
def WireBackSaid : Prop := wireBackRow.holds Try.pinned (OpenSpec.ofChange wireBackSpec)

/-- ITS FALSE NEIGHBOUR: 'it returns false'. Refute it at one input. -/
def wireBackWrong : ChangeSpec := { name := "wireBack", fn := fun _ => fun
  | [d1, d2, d3, d4, d5] => { results := [.lit (.bool false)], args := [d1, d2, d3, d4, d5] }
  | _ => none }
def WireBackWrongFalsely : Prop := wireBackRow.holds Try.pinned (OpenSpec.ofChange wireBackWrong)

/-- 'stackyardlaw06.IntsWords': WHATEVER THE INPUT: true; the input reads as it did. -/
def intsWordsSpec : ChangeSpec := { name := "intsWords", fn := fun _ => fun
  | [d1, d2] => { results := [.lit (.bool true)], args := [d1, d2] }
  | _ => none }
def intsWordsRow : OpenClaim := { program := "ytdclhgcgpcddlaa", sum := "cf1992fb1e36e3a60de9df93042d87b38676c4675f8996bd9f0234c059060412", func := "stackyard/stackyardlaw06.IntsWords", spec := "intsWords", unfollowed := true, recurses := true, apart := false }
def IntsWordsSaid : Prop := intsWordsRow.holds Try.pinned (OpenSpec.ofChange intsWordsSpec)

/-- ITS FALSE NEIGHBOUR: 'it returns false'. Refute it at one input. -/
def intsWordsWrong : ChangeSpec := { name := "intsWords", fn := fun _ => fun
  | [d1, d2] => { results := [.lit (.bool false)], args := [d1, d2] }
  | _ => none }
def IntsWordsWrongFalsely : Prop := intsWordsRow.holds Try.pinned (OpenSpec.ofChange intsWordsWrong)

/-- 'stackyardlaw06.IntsBest': WHATEVER THE INPUT: true; the input reads as it did. -/
def intsBestSpec : ChangeSpec := { name := "intsBest", fn := fun _ => fun
  | [d] => { results := [.lit (.bool true)], args := [d] }
  | _ => none }
def intsBestRow : OpenClaim := { program := "ytdclhgcgpcddlaa", sum := "cf1992fb1e36e3a60de9df93042d87b38676c4675f8996bd9f0234c059060412", func := "stackyard/stackyardlaw06.IntsBest", spec := "intsBest", unfollowed := true, recurses := true, apart := false }
def IntsBestSaid : Prop := intsBestRow.holds Try.pinned (OpenSpec.ofChange intsBestSpec)

/-- ITS FALSE NEIGHBOUR: 'it returns false'. Refute it at one input. -/
def intsBestWrong : ChangeSpec := { name := "intsBest", fn := fun _ => fun
  | [d] => { results := [.lit (.bool false)], args := [d] }
  | _ => none }
def IntsBestWrongFalsely : Prop := intsBestRow.holds Try.pinned (OpenSpec.ofChange intsBestWrong)

/-- 'stackyardlaw06.IntsSmall': WHATEVER THE INPUT: true; the input reads as it did. -/
def intsSmallSpec : ChangeSpec := { name := "intsSmall", fn := fun _ => fun
  | [d1, d2] => { results := [.lit (.bool true)], args := [d1, d2] }
  | _ => none }
def intsSmallRow : OpenClaim := { program := "ytdclhgcgpcddlaa", sum := "cf1992fb1e36e3a60de9df93042d87b38676c4675f8996bd9f0234c059060412", func := "stackyard/stackyardlaw06.IntsSmall", spec := "intsSmall", unfollowed := true, recurses := true, apart := false }
def IntsSmallSaid : Prop := intsSmallRow.holds Try.pinned (OpenSpec.ofChange intsSmallSpec)

/-- ITS FALSE NEIGHBOUR: 'it returns false'. Refute it at one input. -/
def intsSmallWrong : ChangeSpec := { name := "intsSmall", fn := fun _ => fun
  | [d1, d2] => { results := [.lit (.bool false)], args := [d1, d2] }
  | _ => none }
def IntsSmallWrongFalsely : Prop := intsSmallRow.holds Try.pinned (OpenSpec.ofChange intsSmallWrong)

/-- 'stackyardlaw06.IntsNear': WHATEVER THE INPUT: true; the input reads as it did. -/
def intsNearSpec : ChangeSpec := { name := "intsNear", fn := fun _ => fun
  | [d1, d2] => { results := [.lit (.bool true)], args := [d1, d2] }
  | _ => none }
def intsNearRow : OpenClaim := { program := "ytdclhgcgpcddlaa", sum := "cf1992fb1e36e3a60de9df93042d87b38676c4675f8996bd9f0234c059060412", func := "stackyard/stackyardlaw06.IntsNear", spec := "intsNear", unfollowed := true, recurses := true, apart := false }
def IntsNearSaid : Prop := intsNearRow.holds Try.pinned (OpenSpec.ofChange intsNearSpec)

/-- ITS FALSE NEIGHBOUR: 'it returns false'. Refute it at one input. -/
def intsNearWrong : ChangeSpec := { name := "intsNear", fn := fun _ => fun
  | [d1, d2] => { results := [.lit (.bool false)], args := [d1, d2] }
  | _ => none }
def IntsNearWrongFalsely : Prop := intsNearRow.holds Try.pinned (OpenSpec.ofChange intsNearWrong)

/-- 'stackyardlaw06.IntsReads': WHATEVER THE INPUT: true; the input reads as it did. -/
def intsReadsSpec : ChangeSpec := { name := "intsReads", fn := fun _ => fun
  | [d1, d2] => { results := [.lit (.bool true)], args := [d1, d2] }
  | _ => none }
def intsReadsRow : OpenClaim := { program := "ytdclhgcgpcddlaa", sum := "cf1992fb1e36e3a60de9df93042d87b38676c4675f8996bd9f0234c059060412", func := "stackyard/stackyardlaw06.IntsReads", spec := "intsReads", unfollowed := true, recurses := true, apart := false }
def IntsReadsSaid : Prop := intsReadsRow.holds Try.pinned (OpenSpec.ofChange intsReadsSpec)

/-- ITS FALSE NEIGHBOUR: 'it returns false'. Refute it at one input. -/
def intsReadsWrong : ChangeSpec := { name := "intsReads", fn := fun _ => fun
  | [d1, d2] => { results := [.lit (.bool false)], args := [d1, d2] }
  | _ => none }
def IntsReadsWrongFalsely : Prop := intsReadsRow.holds Try.pinned (OpenSpec.ofChange intsReadsWrong)

/-- 'stackyardlaw06.IntsBack': WHATEVER THE INPUT: true; the input reads as it did. -/
def intsBackSpec : ChangeSpec := { name := "intsBack", fn := fun _ => fun
  | [d1, d2, d3] => { results := [.lit (.bool true)], args := [d1, d2, d3] }
  | _ => none }
def intsBackRow : OpenClaim := { program := "ytdclhgcgpcddlaa", sum := "cf1992fb1e36e3a60de9df93042d87b38676c4675f8996bd9f0234c059060412", func := "stackyard/stackyardlaw06.IntsBack", spec := "intsBack", unfollowed := true, recurses := true, apart := false }
def IntsBackSaid : Prop := intsBackRow.holds Try.pinned (OpenSpec.ofChange intsBackSpec)

/-- ITS FALSE NEIGHBOUR: 'it returns false'. Refute it at one input. -/
def intsBackWrong : ChangeSpec := { name := "intsBack", fn := fun _ => fun
  | [d1, d2, d3] => { results := [.lit (.bool false)], args := [d1, d2, d3] }
  | _ => none }
def IntsBackWrongFalsely : Prop := intsBackRow.holds Try.pinned (OpenSpec.ofChange intsBackWrong)

/- THE SECOND FORM. 'bulk': how many values and letters a reading holds, each counted each time it is reached (what is shared counts as often as it is met; a slice's spare places count too). A statement '..UptoSaid' is the law's where the arguments, and the package variables that the reading takes, are together of bulk at most 1048576: NARROWER than '..Said'. Prove '..Said' where nothing that the law and all that it calls make is longer than what came in: it says more and counts as full. Else prove '..UptoSaid'. A law counts once. -/
mutual
def uptoBulk {H : Type} : DataW H → Nat
  | .lit (.string bytes) => bytes.length + 1
  | .lit _ => 1
  | .nil => 1
  | .ptr d => uptoBulk d + 1
  | .slice elems spare => uptoBulkAll elems + uptoBulkAll spare + 1
  | .agg parts => uptoBulkAll parts + 1
  | .iface _ d => uptoBulk d + 1
  | .map entries => uptoBulkEntries entries + 1
  | .held _ => 1
def uptoBulkAll {H : Type} : List (DataW H) → Nat
  | [] => 0
  | d :: r => uptoBulk d + uptoBulkAll r
def uptoBulkEntries {H : Type} : List (Lit × DataW H) → Nat
  | [] => 0
  | x :: r => uptoBulkEntry x + uptoBulkEntries r
def uptoBulkEntry {H : Type} : Lit × DataW H → Nat
  | (.string bytes, d) => bytes.length + uptoBulk d + 1
  | (_, d) => uptoBulk d + 1
 end
def uptoSmall : (H : Type) → List (DataW H) → Bool := fun _ ds => decide (uptoBulkAll ds ≤ 1048576)
def OpenSpec.upto (s : _root_.Go.ChangeSpec) : _root_.Go.OpenSpec := { _root_.Go.OpenSpec.ofChange s with cond := some uptoSmall }

/-- 'stackyardlaw01.PackWidths', WHERE WHAT IT READS IS OF BULK AT MOST 1048576: true; the input reads as it did. -/
def packWidthsUptoRow : OpenClaim := { program := "ytdclhgcgpcddlaa", sum := "cf1992fb1e36e3a60de9df93042d87b38676c4675f8996bd9f0234c059060412", func := "stackyard/stackyardlaw01.PackWidths", spec := "packWidths", unfollowed := true, recurses := true, apart := false, narrowed := true }
def PackWidthsUptoSaid : Prop := packWidthsUptoRow.holds Try.pinned (OpenSpec.upto packWidthsSpec)

/-- 'stackyardlaw01.PackWords', WHERE WHAT IT READS IS OF BULK AT MOST 1048576: true; the input reads as it did. -/
def packWordsUptoRow : OpenClaim := { program := "ytdclhgcgpcddlaa", sum := "cf1992fb1e36e3a60de9df93042d87b38676c4675f8996bd9f0234c059060412", func := "stackyard/stackyardlaw01.PackWords", spec := "packWords", unfollowed := true, recurses := true, apart := false, narrowed := true }
def PackWordsUptoSaid : Prop := packWordsUptoRow.holds Try.pinned (OpenSpec.upto packWordsSpec)

/-- 'stackyardlaw01.PackParts', WHERE WHAT IT READS IS OF BULK AT MOST 1048576: true; the input reads as it did. -/
def packPartsUptoRow : OpenClaim := { program := "ytdclhgcgpcddlaa", sum := "cf1992fb1e36e3a60de9df93042d87b38676c4675f8996bd9f0234c059060412", func := "stackyard/stackyardlaw01.PackParts", spec := "packParts", unfollowed := true, recurses := true, apart := false, narrowed := true }
def PackPartsUptoSaid : Prop := packPartsUptoRow.holds Try.pinned (OpenSpec.upto packPartsSpec)

/-- 'stackyardlaw01.PackLeast', WHERE WHAT IT READS IS OF BULK AT MOST 1048576: true; the input reads as it did. -/
def packLeastUptoRow : OpenClaim := { program := "ytdclhgcgpcddlaa", sum := "cf1992fb1e36e3a60de9df93042d87b38676c4675f8996bd9f0234c059060412", func := "stackyard/stackyardlaw01.PackLeast", spec := "packLeast", unfollowed := true, recurses := true, apart := false, narrowed := true }
def PackLeastUptoSaid : Prop := packLeastUptoRow.holds Try.pinned (OpenSpec.upto packLeastSpec)

/-- 'stackyardlaw01.PackReads', WHERE WHAT IT READS IS OF BULK AT MOST 1048576: true; the input reads as it did. -/
def packReadsUptoRow : OpenClaim := { program := "ytdclhgcgpcddlaa", sum := "cf1992fb1e36e3a60de9df93042d87b38676c4675f8996bd9f0234c059060412", func := "stackyard/stackyardlaw01.PackReads", spec := "packReads", unfollowed := true, recurses := true, apart := false, narrowed := true }
def PackReadsUptoSaid : Prop := packReadsUptoRow.holds Try.pinned (OpenSpec.upto packReadsSpec)

/-- 'stackyardlaw01.PackBack', WHERE WHAT IT READS IS OF BULK AT MOST 1048576: true; the input reads as it did. -/
def packBackUptoRow : OpenClaim := { program := "ytdclhgcgpcddlaa", sum := "cf1992fb1e36e3a60de9df93042d87b38676c4675f8996bd9f0234c059060412", func := "stackyard/stackyardlaw01.PackBack", spec := "packBack", unfollowed := true, recurses := true, apart := false, narrowed := true }
def PackBackUptoSaid : Prop := packBackUptoRow.holds Try.pinned (OpenSpec.upto packBackSpec)

/-- 'stackyardlaw02.WireSums', WHERE WHAT IT READS IS OF BULK AT MOST 1048576: true; the input reads as it did. -/
def wireSumsUptoRow : OpenClaim := { program := "ytdclhgcgpcddlaa", sum := "cf1992fb1e36e3a60de9df93042d87b38676c4675f8996bd9f0234c059060412", func := "stackyard/stackyardlaw02.WireSums", spec := "wireSums", apart := false, narrowed := true }
def WireSumsUptoSaid : Prop := wireSumsUptoRow.holds Try.pinned (OpenSpec.upto wireSumsSpec)

/-- 'stackyardlaw02.WireTurns', WHERE WHAT IT READS IS OF BULK AT MOST 1048576: true; the input reads as it did. -/
def wireTurnsUptoRow : OpenClaim := { program := "ytdclhgcgpcddlaa", sum := "cf1992fb1e36e3a60de9df93042d87b38676c4675f8996bd9f0234c059060412", func := "stackyard/stackyardlaw02.WireTurns", spec := "wireTurns", apart := false, narrowed := true }
def WireTurnsUptoSaid : Prop := wireTurnsUptoRow.holds Try.pinned (OpenSpec.upto wireTurnsSpec)

/-- 'stackyardlaw02.WireKeeps', WHERE WHAT IT READS IS OF BULK AT MOST 1048576: true; the input reads as it did. -/
def wireKeepsUptoRow : OpenClaim := { program := "ytdclhgcgpcddlaa", sum := "cf1992fb1e36e3a60de9df93042d87b38676c4675f8996bd9f0234c059060412", func := "stackyard/stackyardlaw02.WireKeeps", spec := "wireKeeps", apart := false, narrowed := true }
def WireKeepsUptoSaid : Prop := wireKeepsUptoRow.holds Try.pinned (OpenSpec.upto wireKeepsSpec)

/-- 'stackyardlaw02.WireNumbers', WHERE WHAT IT READS IS OF BULK AT MOST 1048576: true; the input reads as it did. -/
def wireNumbersUptoRow : OpenClaim := { program := "ytdclhgcgpcddlaa", sum := "cf1992fb1e36e3a60de9df93042d87b38676c4675f8996bd9f0234c059060412", func := "stackyard/stackyardlaw02.WireNumbers", spec := "wireNumbers", apart := false, narrowed := true }
def WireNumbersUptoSaid : Prop := wireNumbersUptoRow.holds Try.pinned (OpenSpec.upto wireNumbersSpec)

/-- 'stackyardlaw02.WireOne', WHERE WHAT IT READS IS OF BULK AT MOST 1048576: true; the input reads as it did. -/
def wireOneUptoRow : OpenClaim := { program := "ytdclhgcgpcddlaa", sum := "cf1992fb1e36e3a60de9df93042d87b38676c4675f8996bd9f0234c059060412", func := "stackyard/stackyardlaw02.WireOne", spec := "wireOne", apart := false, narrowed := true }
def WireOneUptoSaid : Prop := wireOneUptoRow.holds Try.pinned (OpenSpec.upto wireOneSpec)

/-- 'stackyardlaw02.WireTexts', WHERE WHAT IT READS IS OF BULK AT MOST 1048576: true; the input reads as it did. -/
def wireTextsUptoRow : OpenClaim := { program := "ytdclhgcgpcddlaa", sum := "cf1992fb1e36e3a60de9df93042d87b38676c4675f8996bd9f0234c059060412", func := "stackyard/stackyardlaw02.WireTexts", spec := "wireTexts", apart := false, narrowed := true }
def WireTextsUptoSaid : Prop := wireTextsUptoRow.holds Try.pinned (OpenSpec.upto wireTextsSpec)

/-- 'stackyardlaw02.WireBack', WHERE WHAT IT READS IS OF BULK AT MOST 1048576: true; the input reads as it did. -/
def wireBackUptoRow : OpenClaim := { program := "ytdclhgcgpcddlaa", sum := "cf1992fb1e36e3a60de9df93042d87b38676c4675f8996bd9f0234c059060412", func := "stackyard/stackyardlaw02.WireBack", spec := "wireBack", apart := false, narrowed := true }
def WireBackUptoSaid : Prop := wireBackUptoRow.holds Try.pinned (OpenSpec.upto wireBackSpec)

/-- 'stackyardlaw06.IntsWords', WHERE WHAT IT READS IS OF BULK AT MOST 1048576: true; the input reads as it did. -/
def intsWordsUptoRow : OpenClaim := { program := "ytdclhgcgpcddlaa", sum := "cf1992fb1e36e3a60de9df93042d87b38676c4675f8996bd9f0234c059060412", func := "stackyard/stackyardlaw06.IntsWords", spec := "intsWords", unfollowed := true, recurses := true, apart := false, narrowed := true }
def IntsWordsUptoSaid : Prop := intsWordsUptoRow.holds Try.pinned (OpenSpec.upto intsWordsSpec)

/-- 'stackyardlaw06.IntsBest', WHERE WHAT IT READS IS OF BULK AT MOST 1048576: true; the input reads as it did. -/
def intsBestUptoRow : OpenClaim := { program := "ytdclhgcgpcddlaa", sum := "cf1992fb1e36e3a60de9df93042d87b38676c4675f8996bd9f0234c059060412", func := "stackyard/stackyardlaw06.IntsBest", spec := "intsBest", unfollowed := true, recurses := true, apart := false, narrowed := true }
def IntsBestUptoSaid : Prop := intsBestUptoRow.holds Try.pinned (OpenSpec.upto intsBestSpec)

/-- 'stackyardlaw06.IntsSmall', WHERE WHAT IT READS IS OF BULK AT MOST 1048576: true; the input reads as it did. -/
def intsSmallUptoRow : OpenClaim := { program := "ytdclhgcgpcddlaa", sum := "cf1992fb1e36e3a60de9df93042d87b38676c4675f8996bd9f0234c059060412", func := "stackyard/stackyardlaw06.IntsSmall", spec := "intsSmall", unfollowed := true, recurses := true, apart := false, narrowed := true }
def IntsSmallUptoSaid : Prop := intsSmallUptoRow.holds Try.pinned (OpenSpec.upto intsSmallSpec)

/-- 'stackyardlaw06.IntsNear', WHERE WHAT IT READS IS OF BULK AT MOST 1048576: true; the input reads as it did. -/
def intsNearUptoRow : OpenClaim := { program := "ytdclhgcgpcddlaa", sum := "cf1992fb1e36e3a60de9df93042d87b38676c4675f8996bd9f0234c059060412", func := "stackyard/stackyardlaw06.IntsNear", spec := "intsNear", unfollowed := true, recurses := true, apart := false, narrowed := true }
def IntsNearUptoSaid : Prop := intsNearUptoRow.holds Try.pinned (OpenSpec.upto intsNearSpec)

/-- 'stackyardlaw06.IntsReads', WHERE WHAT IT READS IS OF BULK AT MOST 1048576: true; the input reads as it did. -/
def intsReadsUptoRow : OpenClaim := { program := "ytdclhgcgpcddlaa", sum := "cf1992fb1e36e3a60de9df93042d87b38676c4675f8996bd9f0234c059060412", func := "stackyard/stackyardlaw06.IntsReads", spec := "intsReads", unfollowed := true, recurses := true, apart := false, narrowed := true }
def IntsReadsUptoSaid : Prop := intsReadsUptoRow.holds Try.pinned (OpenSpec.upto intsReadsSpec)

/-- 'stackyardlaw06.IntsBack', WHERE WHAT IT READS IS OF BULK AT MOST 1048576: true; the input reads as it did. -/
def intsBackUptoRow : OpenClaim := { program := "ytdclhgcgpcddlaa", sum := "cf1992fb1e36e3a60de9df93042d87b38676c4675f8996bd9f0234c059060412", func := "stackyard/stackyardlaw06.IntsBack", spec := "intsBack", unfollowed := true, recurses := true, apart := false, narrowed := true }
def IntsBackUptoSaid : Prop := intsBackUptoRow.holds Try.pinned (OpenSpec.upto intsBackSpec)

end Rows
end Go.Proofs.Ytdclhgcgpcddlaa
