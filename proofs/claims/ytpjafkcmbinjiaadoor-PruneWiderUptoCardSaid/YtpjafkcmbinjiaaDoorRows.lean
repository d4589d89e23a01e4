/-
  NARROWER THAN 'FOR EVERY INPUT', by the rows' own cells (each row's printed sentence says how): PruneWider: loops, laid · PruneNots: loops, laid · PruneAnswers: loops, laid · PruneSound: loops, laid.
  DERIVED. THE GIVEN ROWS OF THIS SEAT. 4 by the template 'for every input the law returns true; each argument reads behind the call as it read before'; 0 by the template 'total and deterministic' (their statements: YtpjafkcmbinjiaaDoorTotals.lean).
  GIVEN WITH THE SEED: the statements are not yours to turn. If you find one false, say at which input.
  Laid BY PROGRAM, IN A SANDBOX (cutbox-rows.mjs): the forced cells as the released guide's own fill.sh prints them over the translation 2942687362f6587a… (all of the seat's roots in one cut). By AI agents, Wed Nov 11 2026. No macro, syntax, notation, axiom, sorry.
-/
import Derived.Test.YtpjafkcmbinjiaaDoorChecked
import GoSem.PinnedTables
import GoSem.Claim
import GoSem.ClaimJoined
import GoSem.ClaimMapViews
import Derived.JoinedTies
import Derived.KernelRfl
namespace Go.Proofs.YtpjafkcmbinjiaaDoor
/- THE CELL 'sum', in the pinned program and in every row, IS THE sha256 OF THE DUMP (.gsa) THAT YtpjafkcmbinjiaaDoorProg.lean LOADS. Nothing in Lean hashes anything: it is a label: what it is worth is what the hold of that sum in a sandbox is worth. -/
noncomputable def Tryd.pinned : Pinned := { name := "ytpjafkcmbinjiaadoor", sum := "2942687362f6587a996ad40b98c1becba5c6169e537719eb415120e7c61e939f", checked := Tryd.checked }
namespace Rows
def none {H : Type} : Left H := { results := [], args := [] }

/- WHAT THE LISTED PACKAGE-LEVEL VARIABLES READ AS WHEN THE CALL BEGINS. Each datum BY PROGRAM (the guide's laid-datum.mjs) off the statement by which the dump's own 'gosem.cut.vars' lays the variable. In a bare row this is a premise. The card (YtpjafkcmbinjiaaDoorCards.lean) ties it to the program's text. -/
def laid_unicode_utf8_acceptRanges {H : Type} : DataW H := .agg [.agg [.lit (.int .u8 128), .lit (.int .u8 191)], .agg [.lit (.int .u8 160), .lit (.int .u8 191)], .agg [.lit (.int .u8 128), .lit (.int .u8 159)], .agg [.lit (.int .u8 144), .lit (.int .u8 191)], .agg [.lit (.int .u8 128), .lit (.int .u8 143)], .agg [.lit (.int .u8 0), .lit (.int .u8 0)], .agg [.lit (.int .u8 0), .lit (.int .u8 0)], .agg [.lit (.int .u8 0), .lit (.int .u8 0)], .agg [.lit (.int .u8 0), .lit (.int .u8 0)], .agg [.lit (.int .u8 0), .lit (.int .u8 0)], .agg [.lit (.int .u8 0), .lit (.int .u8 0)], .agg [.lit (.int .u8 0), .lit (.int .u8 0)], .agg [.lit (.int .u8 0), .lit (.int .u8 0)], .agg [.lit (.int .u8 0), .lit (.int .u8 0)], .agg [.lit (.int .u8 0), .lit (.int .u8 0)], .agg [.lit (.int .u8 0), .lit (.int .u8 0)]]
def laid_stackyard_expr_shapes {H : Type} : DataW H := .agg [.agg [.lit (.int .i64 (-1)), .lit (.int .i64 0), .lit (.int .i64 0)], .agg [.lit (.int .i64 0), .lit (.int .i64 0), .lit (.int .i64 0)], .agg [.lit (.int .i64 0), .lit (.int .i64 0), .lit (.int .i64 0)], .agg [.lit (.int .i64 2), .lit (.int .i64 1), .lit (.int .i64 1)], .agg [.lit (.int .i64 2), .lit (.int .i64 1), .lit (.int .i64 1)], .agg [.lit (.int .i64 2), .lit (.int .i64 1), .lit (.int .i64 1)], .agg [.lit (.int .i64 2), .lit (.int .i64 1), .lit (.int .i64 1)], .agg [.lit (.int .i64 2), .lit (.int .i64 1), .lit (.int .i64 1)], .agg [.lit (.int .i64 1), .lit (.int .i64 1), .lit (.int .i64 1)], .agg [.lit (.int .i64 2), .lit (.int .i64 0), .lit (.int .i64 2)], .agg [.lit (.int .i64 2), .lit (.int .i64 0), .lit (.int .i64 2)], .agg [.lit (.int .i64 2), .lit (.int .i64 0), .lit (.int .i64 2)], .agg [.lit (.int .i64 2), .lit (.int .i64 2), .lit (.int .i64 2)], .agg [.lit (.int .i64 2), .lit (.int .i64 2), .lit (.int .i64 2)], .agg [.lit (.int .i64 1), .lit (.int .i64 2), .lit (.int .i64 2)], .agg [.lit (.int .i64 1), .lit (.int .i64 0), .lit (.int .i64 2)], .agg [.lit (.int .i64 1), .lit (.int .i64 3), .lit (.int .i64 1)]]
/-- One of Go's own tables, pinned by name: the form's constant. -/
def laid_unicode_utf8_first : DataW Unit := Go.Pinned.utf8First
def laid_stackyard_expr_ands {H : Type} : DataW H := .agg [.agg [.lit (.int .i64 0), .lit (.int .i64 0), .lit (.int .i64 0)], .agg [.lit (.int .i64 0), .lit (.int .i64 1), .lit (.int .i64 2)], .agg [.lit (.int .i64 0), .lit (.int .i64 2), .lit (.int .i64 2)]]
def laid_stackyard_expr_ors {H : Type} : DataW H := .agg [.agg [.lit (.int .i64 0), .lit (.int .i64 1), .lit (.int .i64 2)], .agg [.lit (.int .i64 1), .lit (.int .i64 1), .lit (.int .i64 1)], .agg [.lit (.int .i64 2), .lit (.int .i64 1), .lit (.int .i64 2)]]

/-- 'stackyardlaw16.PruneWider': WHATEVER THE INPUT: true; the input reads as it did. -/
def pruneWiderSpec : ChangeSpec := { name := "pruneWider", fn := fun _ => fun
  | [d1, d2, d3, d4] => { results := [.lit (.bool true)], args := [d1, d2, d3, d4] }
  | _ => none }
def pruneWiderRow : OpenClaim := { program := "ytpjafkcmbinjiaadoor", sum := "2942687362f6587a996ad40b98c1becba5c6169e537719eb415120e7c61e939f", func := "stackyard/stackyardlaw16.PruneWider", spec := "pruneWider", inPlace := ["internal/bytealg.IndexByteString", "internal/bytealg.IndexString", "internal/bytealg.abigen_runtime_cmpstring"], unfollowed := true, recurses := true, named := ["unicode/utf8.first", "unicode/utf8.acceptRanges", "stackyard/expr.shapes", "internal/bytealg.MaxLen"], loops := true, apart := false, laid := [("unicode/utf8.acceptRanges", laid_unicode_utf8_acceptRanges), ("stackyard/expr.shapes", laid_stackyard_expr_shapes), ("unicode/utf8.first", laid_unicode_utf8_first)] }
def PruneWiderSaid : Prop := pruneWiderRow.holds Tryd.pinned (OpenSpec.ofChange pruneWiderSpec)

/-- ITS FALSE NEIGHBOUR: 'it returns false'. Refute it at one input. -/
def pruneWiderWrong : ChangeSpec := { name := "pruneWider", fn := fun _ => fun
  | [d1, d2, d3, d4] => { results := [.lit (.bool false)], args := [d1, d2, d3, d4] }
  | _ => none }
def PruneWiderWrongFalsely : Prop := pruneWiderRow.holds Tryd.pinned (OpenSpec.ofChange pruneWiderWrong)

/-- 'stackyardlaw16.PruneNots': WHATEVER THE INPUT: true; the input reads as it did. -/
def pruneNotsSpec : ChangeSpec := { name := "pruneNots", fn := fun _ => fun
  | [d1, d2, d3, d4] => { results := [.lit (.bool true)], args := [d1, d2, d3, d4] }
  | _ => none }
def pruneNotsRow : OpenClaim := { program := "ytpjafkcmbinjiaadoor", sum := "2942687362f6587a996ad40b98c1becba5c6169e537719eb415120e7c61e939f", func := "stackyard/stackyardlaw16.PruneNots", spec := "pruneNots", inPlace := ["internal/bytealg.IndexByteString", "internal/bytealg.IndexString", "internal/bytealg.abigen_runtime_cmpstring"], unfollowed := true, recurses := true, named := ["unicode/utf8.first", "unicode/utf8.acceptRanges", "stackyard/expr.shapes", "internal/bytealg.MaxLen"], loops := true, apart := false, laid := [("unicode/utf8.acceptRanges", laid_unicode_utf8_acceptRanges), ("stackyard/expr.shapes", laid_stackyard_expr_shapes), ("unicode/utf8.first", laid_unicode_utf8_first)] }
def PruneNotsSaid : Prop := pruneNotsRow.holds Tryd.pinned (OpenSpec.ofChange pruneNotsSpec)

/-- ITS FALSE NEIGHBOUR: 'it returns false'. Refute it at one input. -/
def pruneNotsWrong : ChangeSpec := { name := "pruneNots", fn := fun _ => fun
  | [d1, d2, d3, d4] => { results := [.lit (.bool false)], args := [d1, d2, d3, d4] }
  | _ => none }
def PruneNotsWrongFalsely : Prop := pruneNotsRow.holds Tryd.pinned (OpenSpec.ofChange pruneNotsWrong)

/-- 'stackyardlaw16.PruneAnswers': WHATEVER THE INPUT: true; the input reads as it did. -/
def pruneAnswersSpec : ChangeSpec := { name := "pruneAnswers", fn := fun _ => fun
  | [d1, d2, d3, d4] => { results := [.lit (.bool true)], args := [d1, d2, d3, d4] }
  | _ => none }
def pruneAnswersRow : OpenClaim := { program := "ytpjafkcmbinjiaadoor", sum := "2942687362f6587a996ad40b98c1becba5c6169e537719eb415120e7c61e939f", func := "stackyard/stackyardlaw16.PruneAnswers", spec := "pruneAnswers", inPlace := ["internal/bytealg.IndexByteString", "internal/bytealg.IndexString", "internal/bytealg.abigen_runtime_cmpstring"], unfollowed := true, recurses := true, named := ["unicode/utf8.first", "unicode/utf8.acceptRanges", "stackyard/expr.shapes", "internal/bytealg.MaxLen"], loops := true, apart := false, laid := [("unicode/utf8.acceptRanges", laid_unicode_utf8_acceptRanges), ("stackyard/expr.shapes", laid_stackyard_expr_shapes), ("unicode/utf8.first", laid_unicode_utf8_first)] }
def PruneAnswersSaid : Prop := pruneAnswersRow.holds Tryd.pinned (OpenSpec.ofChange pruneAnswersSpec)

/-- ITS FALSE NEIGHBOUR: 'it returns false'. Refute it at one input. -/
def pruneAnswersWrong : ChangeSpec := { name := "pruneAnswers", fn := fun _ => fun
  | [d1, d2, d3, d4] => { results := [.lit (.bool false)], args := [d1, d2, d3, d4] }
  | _ => none }
def PruneAnswersWrongFalsely : Prop := pruneAnswersRow.holds Tryd.pinned (OpenSpec.ofChange pruneAnswersWrong)

/-- 'stackyardlaw16.PruneSound': WHATEVER THE INPUT: true; the input reads as it did. -/
def pruneSoundSpec : ChangeSpec := { name := "pruneSound", fn := fun _ => fun
  | [d1, d2, d3] => { results := [.lit (.bool true)], args := [d1, d2, d3] }
  | _ => none }
def pruneSoundRow : OpenClaim := { program := "ytpjafkcmbinjiaadoor", sum := "2942687362f6587a996ad40b98c1becba5c6169e537719eb415120e7c61e939f", func := "stackyard/stackyardlaw16.PruneSound", spec := "pruneSound", inPlace := ["internal/bytealg.IndexByteString", "internal/bytealg.IndexString", "internal/bytealg.abigen_runtime_cmpstring"], unfollowed := true, recurses := true, named := ["unicode/utf8.first", "unicode/utf8.acceptRanges", "stackyard/expr.shapes", "stackyard/expr.ands", "stackyard/expr.ors", "internal/bytealg.MaxLen"], loops := true, apart := false, laid := [("unicode/utf8.acceptRanges", laid_unicode_utf8_acceptRanges), ("stackyard/expr.shapes", laid_stackyard_expr_shapes), ("stackyard/expr.ands", laid_stackyard_expr_ands), ("stackyard/expr.ors", laid_stackyard_expr_ors), ("unicode/utf8.first", laid_unicode_utf8_first)] }
def PruneSoundSaid : Prop := pruneSoundRow.holds Tryd.pinned (OpenSpec.ofChange pruneSoundSpec)

/-- ITS FALSE NEIGHBOUR: 'it returns false'. Refute it at one input. -/
def pruneSoundWrong : ChangeSpec := { name := "pruneSound", fn := fun _ => fun
  | [d1, d2, d3] => { results := [.lit (.bool false)], args := [d1, d2, d3] }
  | _ => none }
def PruneSoundWrongFalsely : Prop := pruneSoundRow.holds Tryd.pinned (OpenSpec.ofChange pruneSoundWrong)

/- THE SECOND FORM. 'bulk': how many values and letters a reading holds, each counted each time it is reached (what is shared counts as often as it is met; a slice's spare places count too). A statement '..UptoSaid' is the law's where the arguments, and the package variables that the reading takes, are together of bulk at most 1048576: NARROWER than '..Said'. Prove '..Said' where nothing that the law and all that it calls make is longer than what came in: it says more and counts as full. Else prove '..UptoSaid'. A law counts once. -/
mutual
def uptoBulk {H : Type} : DataW H → Nat
  | .lit (.string bytes) => bytes.length + 1
  | .lit _ => 1
  | .nil => 1
  | .ptr d => uptoBulk d + 1
  | .slice elems spare => uptoBulkAll elems + uptoBulkAll spare + 1
  | .agg parts => uptoBulkAll parts + 1
  | .iface _ d => uptoBulk d + 1
  | .map entries => uptoBulkEntries entries + 1
  | .held _ => 1
def uptoBulkAll {H : Type} : List (DataW H) → Nat
  | [] => 0
  | d :: r => uptoBulk d + uptoBulkAll r
def uptoBulkEntries {H : Type} : List (Lit × DataW H) → Nat
  | [] => 0
  | x :: r => uptoBulkEntry x + uptoBulkEntries r
def uptoBulkEntry {H : Type} : Lit × DataW H → Nat
  | (.string bytes, d) => bytes.length + uptoBulk d + 1
  | (_, d) => uptoBulk d + 1
 end
def uptoSmall : (H : Type) → List (DataW H) → Bool := fun _ ds => decide (uptoBulkAll ds ≤ 1048576)
def OpenSpec.upto (s : _root_.Go.ChangeSpec) : _root_.Go.OpenSpec := { _root_.Go.OpenSpec.ofChange s with cond := some uptoSmall }

/-- 'stackyardlaw16.PruneWider', WHERE WHAT IT READS IS OF BULK AT MOST 1048576: true; the input reads as it did. -/
def pruneWiderUptoRow : OpenClaim := { program := "ytpjafkcmbinjiaadoor", sum := "2942687362f6587a996ad40b98c1becba5c6169e537719eb415120e7c61e939f", func := "stackyard/stackyardlaw16.PruneWider", spec := "pruneWider", inPlace := ["internal/bytealg.IndexByteString", "internal/bytealg.IndexString", "internal/bytealg.abigen_runtime_cmpstring"], unfollowed := true, recurses := true, named := ["unicode/utf8.first", "unicode/utf8.acceptRanges", "stackyard/expr.shapes", "internal/bytealg.MaxLen"], loops := true, apart := false, laid := [("unicode/utf8.acceptRanges", laid_unicode_utf8_acceptRanges), ("stackyard/expr.shapes", laid_stackyard_expr_shapes), ("unicode/utf8.first", laid_unicode_utf8_first)], narrowed := true }
def PruneWiderUptoSaid : Prop := pruneWiderUptoRow.holds Tryd.pinned (OpenSpec.upto pruneWiderSpec)

/-- 'stackyardlaw16.PruneNots', WHERE WHAT IT READS IS OF BULK AT MOST 1048576: true; the input reads as it did. -/
def pruneNotsUptoRow : OpenClaim := { program := "ytpjafkcmbinjiaadoor", sum := "2942687362f6587a996ad40b98c1becba5c6169e537719eb415120e7c61e939f", func := "stackyard/stackyardlaw16.PruneNots", spec := "pruneNots", inPlace := ["internal/bytealg.IndexByteString", "internal/bytealg.IndexString", "internal/bytealg.abigen_runtime_cmpstring"], unfollowed := true, recurses := true, named := ["unicode/utf8.first", "unicode/utf8.acceptRanges", "stackyard/expr.shapes", "internal/bytealg.MaxLen"], loops := true, apart := false, laid := [("unicode/utf8.acceptRanges", laid_unicode_utf8_acceptRanges), ("stackyard/expr.shapes", laid_stackyard_expr_shapes), ("unicode/utf8.first", laid_unicode_utf8_first)], narrowed := true }
def PruneNotsUptoSaid : Prop := pruneNotsUptoRow.holds Tryd.pinned (OpenSpec.upto pruneNotsSpec)

/-- 'stackyardlaw16.PruneAnswers', WHERE WHAT IT READS IS OF BULK AT MOST 1048576: true; the input reads as it did. -/
def pruneAnswersUptoRow : OpenClaim := { program := "ytpjafkcmbinjiaadoor", sum := "2942687362f6587a996ad40b98c1becba5c6169e537719eb415120e7c61e939f", func := "stackyard/stackyardlaw16.PruneAnswers", spec := "pruneAnswers", inPlace := ["internal/bytealg.IndexByteString", "internal/bytealg.IndexString", "internal/bytealg.abigen_runtime_cmpstring"], unfollowed := true, recurses := true, named := ["unicode/utf8.first", "unicode/utf8.acceptRanges", "stackyard/expr.shapes", "internal/bytealg.MaxLen"], loops := true, apart := false, laid := [("unicode/utf8.acceptRanges", laid_unicode_utf8_acceptRanges), ("stackyard/expr.shapes", laid_stackyard_expr_shapes), ("unicode/utf8.first", laid_unicode_utf8_first)], narrowed := true }
def PruneAnswersUptoSaid : Prop := pruneAnswersUptoRow.holds Tryd.pinned (OpenSpec.upto pruneAnswersSpec)

/-- 'stackyardlaw16.PruneSound', WHERE WHAT IT READS IS OF BULK AT MOST 1048576: true; the input reads as it did. -/
def pruneSoundUptoRow : OpenClaim := { program := "ytpjafkcmbinjiaadoor", sum := "2942687362f6587a996ad40b98c1becba5c6169e537719eb415120e7c61e939f", func := "stackyard/stackyardlaw16.PruneSound", spec := "pruneSound", inPlace := ["internal/bytealg.IndexByteString", "internal/bytealg.IndexString", "internal/bytealg.abigen_runtime_cmpstring"], unfollowed := true, recurses := true, named := ["unicode/utf8.first", "unicode/utf8.acceptRanges", "stackyard/expr.shapes", "stackyard/expr.ands", "stackyard/expr.ors", "internal/bytealg.MaxLen"], loops := true, apart := false, laid := [("unicode/utf8.acceptRanges", laid_unicode_utf8_acceptRanges), ("stackyard/expr.shapes", laid_stackyard_expr_shapes), ("stackyard/expr.ands", laid_stackyard_expr_ands), ("stackyard/expr.ors", laid_stackyard_expr_ors), ("unicode/utf8.first", laid_unicode_utf8_first)], narrowed := true }
def PruneSoundUptoSaid : Prop := pruneSoundUptoRow.holds Tryd.pinned (OpenSpec.upto pruneSoundSpec)

end Rows
end Go.Proofs.YtpjafkcmbinjiaaDoor
