/-
  NARROWER THAN 'FOR EVERY INPUT', by the rows' own cells (each row's printed sentence says how): ExprOthers: loops, laid · ExprUses: loops, laid · ExprTypes: loops, laid · ExprEvals: loops, laid · ExprKinds: loops, laid · ExprTurns: loops, laid · ExprSwaps: loops, laid · ExprOrders: loops, laid.
  DERIVED. THE GIVEN ROWS OF THIS SEAT. 8 by the template 'for every input the law returns true; each argument reads behind the call as it read before'; 0 by the template 'total and deterministic' (their statements: YtdephmdfdgclpaaDoorTotals.lean).
  GIVEN WITH THE SEED: the statements are not yours to turn. If you find one false, say at which input.
  Laid BY PROGRAM, IN A SANDBOX (cutbox-rows.mjs): the forced cells as the released guide's own fill.sh prints them over the translation b6ee51d919d05f67… (all of the seat's roots in one cut). By AI agents, Wed Nov 11 2026. No macro, syntax, notation, axiom, sorry.
-/
import Derived.Test.YtdephmdfdgclpaaDoorChecked
import GoSem.PinnedTables
import GoSem.Claim
import GoSem.ClaimJoined
import GoSem.ClaimMapViews
import Derived.JoinedTies
import Derived.KernelRfl
namespace Go.Proofs.YtdephmdfdgclpaaDoor
/- THE CELL 'sum', in the pinned program and in every row, IS THE sha256 OF THE DUMP (.gsa) THAT YtdephmdfdgclpaaDoorProg.lean LOADS. Nothing in Lean hashes anything: it is a label: what it is worth is what the hold of that sum in a sandbox is worth. -/
noncomputable def Tryd.pinned : Pinned := { name := "ytdephmdfdgclpaadoor", sum := "b6ee51d919d05f67065135cdc7bb51d55699b4456d10a5b318dc5de4a7227137", checked := Tryd.checked }
namespace Rows
def none {H : Type} : Left H := { results := [], args := [] }

/- WHAT THE LISTED PACKAGE-LEVEL VARIABLES READ AS WHEN THE CALL BEGINS. Each datum BY PROGRAM (the guide's laid-datum.mjs) off the statement by which the dump's own 'gosem.cut.vars' lays the variable. In a bare row this is a premise. The card (YtdephmdfdgclpaaDoorCards.lean) ties it to the program's text. -/
def laid_unicode_utf8_acceptRanges {H : Type} : DataW H := .agg [.agg [.lit (.int .u8 128), .lit (.int .u8 191)], .agg [.lit (.int .u8 160), .lit (.int .u8 191)], .agg [.lit (.int .u8 128), .lit (.int .u8 159)], .agg [.lit (.int .u8 144), .lit (.int .u8 191)], .agg [.lit (.int .u8 128), .lit (.int .u8 143)], .agg [.lit (.int .u8 0), .lit (.int .u8 0)], .agg [.lit (.int .u8 0), .lit (.int .u8 0)], .agg [.lit (.int .u8 0), .lit (.int .u8 0)], .agg [.lit (.int .u8 0), .lit (.int .u8 0)], .agg [.lit (.int .u8 0), .lit (.int .u8 0)], .agg [.lit (.int .u8 0), .lit (.int .u8 0)], .agg [.lit (.int .u8 0), .lit (.int .u8 0)], .agg [.lit (.int .u8 0), .lit (.int .u8 0)], .agg [.lit (.int .u8 0), .lit (.int .u8 0)], .agg [.lit (.int .u8 0), .lit (.int .u8 0)], .agg [.lit (.int .u8 0), .lit (.int .u8 0)]]
def laid_stackyard_expr_shapes {H : Type} : DataW H := .agg [.agg [.lit (.int .i64 (-1)), .lit (.int .i64 0), .lit (.int .i64 0)], .agg [.lit (.int .i64 0), .lit (.int .i64 0), .lit (.int .i64 0)], .agg [.lit (.int .i64 0), .lit (.int .i64 0), .lit (.int .i64 0)], .agg [.lit (.int .i64 2), .lit (.int .i64 1), .lit (.int .i64 1)], .agg [.lit (.int .i64 2), .lit (.int .i64 1), .lit (.int .i64 1)], .agg [.lit (.int .i64 2), .lit (.int .i64 1), .lit (.int .i64 1)], .agg [.lit (.int .i64 2), .lit (.int .i64 1), .lit (.int .i64 1)], .agg [.lit (.int .i64 2), .lit (.int .i64 1), .lit (.int .i64 1)], .agg [.lit (.int .i64 1), .lit (.int .i64 1), .lit (.int .i64 1)], .agg [.lit (.int .i64 2), .lit (.int .i64 0), .lit (.int .i64 2)], .agg [.lit (.int .i64 2), .lit (.int .i64 0), .lit (.int .i64 2)], .agg [.lit (.int .i64 2), .lit (.int .i64 0), .lit (.int .i64 2)], .agg [.lit (.int .i64 2), .lit (.int .i64 2), .lit (.int .i64 2)], .agg [.lit (.int .i64 2), .lit (.int .i64 2), .lit (.int .i64 2)], .agg [.lit (.int .i64 1), .lit (.int .i64 2), .lit (.int .i64 2)], .agg [.lit (.int .i64 1), .lit (.int .i64 0), .lit (.int .i64 2)], .agg [.lit (.int .i64 1), .lit (.int .i64 3), .lit (.int .i64 1)]]
def laid_stackyard_expr_ands {H : Type} : DataW H := .agg [.agg [.lit (.int .i64 0), .lit (.int .i64 0), .lit (.int .i64 0)], .agg [.lit (.int .i64 0), .lit (.int .i64 1), .lit (.int .i64 2)], .agg [.lit (.int .i64 0), .lit (.int .i64 2), .lit (.int .i64 2)]]
def laid_stackyard_expr_ors {H : Type} : DataW H := .agg [.agg [.lit (.int .i64 0), .lit (.int .i64 1), .lit (.int .i64 2)], .agg [.lit (.int .i64 1), .lit (.int .i64 1), .lit (.int .i64 1)], .agg [.lit (.int .i64 2), .lit (.int .i64 1), .lit (.int .i64 2)]]
/-- One of Go's own tables, pinned by name: the form's constant. -/
def laid_unicode_utf8_first : DataW Unit := Go.Pinned.utf8First

/-- 'stackyardlaw10.ExprOthers': WHATEVER THE INPUT: true; the input reads as it did. -/
def exprOthersSpec : ChangeSpec := { name := "exprOthers", fn := fun _ => fun
  | [d1, d2, d3, d4] => { results := [.lit (.bool true)], args := [d1, d2, d3, d4] }
  | _ => none }
def exprOthersRow : OpenClaim := { program := "ytdephmdfdgclpaadoor", sum := "b6ee51d919d05f67065135cdc7bb51d55699b4456d10a5b318dc5de4a7227137", func := "stackyard/stackyardlaw10.ExprOthers", spec := "exprOthers", inPlace := ["internal/bytealg.IndexByteString", "internal/bytealg.IndexString", "internal/bytealg.abigen_runtime_cmpstring"], unfollowed := true, recurses := true, named := ["unicode/utf8.first", "unicode/utf8.acceptRanges", "stackyard/expr.shapes", "stackyard/expr.ands", "stackyard/expr.ors", "internal/bytealg.MaxLen"], loops := true, apart := false, laid := [("unicode/utf8.acceptRanges", laid_unicode_utf8_acceptRanges), ("stackyard/expr.shapes", laid_stackyard_expr_shapes), ("stackyard/expr.ands", laid_stackyard_expr_ands), ("stackyard/expr.ors", laid_stackyard_expr_ors), ("unicode/utf8.first", laid_unicode_utf8_first)] }
def ExprOthersSaid : Prop := exprOthersRow.holds Tryd.pinned (OpenSpec.ofChange exprOthersSpec)

/-- ITS FALSE NEIGHBOUR: 'it returns false'. Refute it at one input. -/
def exprOthersWrong : ChangeSpec := { name := "exprOthers", fn := fun _ => fun
  | [d1, d2, d3, d4] => { results := [.lit (.bool false)], args := [d1, d2, d3, d4] }
  | _ => none }
def ExprOthersWrongFalsely : Prop := exprOthersRow.holds Tryd.pinned (OpenSpec.ofChange exprOthersWrong)

/-- 'stackyardlaw10.ExprUses': WHATEVER THE INPUT: true; the input reads as it did. -/
def exprUsesSpec : ChangeSpec := { name := "exprUses", fn := fun _ => fun
  | [d1, d2] => { results := [.lit (.bool true)], args := [d1, d2] }
  | _ => none }
def exprUsesRow : OpenClaim := { program := "ytdephmdfdgclpaadoor", sum := "b6ee51d919d05f67065135cdc7bb51d55699b4456d10a5b318dc5de4a7227137", func := "stackyard/stackyardlaw10.ExprUses", spec := "exprUses", inPlace := ["internal/bytealg.IndexByteString", "internal/bytealg.IndexString", "internal/bytealg.abigen_runtime_cmpstring"], unfollowed := true, recurses := true, named := ["unicode/utf8.first", "unicode/utf8.acceptRanges", "stackyard/expr.shapes", "stackyard/expr.ands", "stackyard/expr.ors", "internal/bytealg.MaxLen"], loops := true, apart := false, laid := [("unicode/utf8.acceptRanges", laid_unicode_utf8_acceptRanges), ("stackyard/expr.shapes", laid_stackyard_expr_shapes), ("stackyard/expr.ands", laid_stackyard_expr_ands), ("stackyard/expr.ors", laid_stackyard_expr_ors), ("unicode/utf8.first", laid_unicode_utf8_first)] }
def ExprUsesSaid : Prop := exprUsesRow.holds Tryd.pinned (OpenSpec.ofChange exprUsesSpec)

/-- ITS FALSE NEIGHBOUR: 'it returns false'. Refute it at one input. -/
def exprUsesWrong : ChangeSpec := { name := "exprUses", fn := fun _ => fun
  | [d1, d2] => { results := [.lit (.bool false)], args := [d1, d2] }
  | _ => none }
def ExprUsesWrongFalsely : Prop := exprUsesRow.holds Tryd.pinned (OpenSpec.ofChange exprUsesWrong)

/-- 'stackyardlaw10.ExprTypes': WHATEVER THE INPUT: true; the input reads as it did. -/
def exprTypesSpec : ChangeSpec := { name := "exprTypes", fn := fun _ => fun
  | [d1, d2] => { results := [.lit (.bool true)], args := [d1, d2] }
  | _ => none }
def exprTypesRow : OpenClaim := { program := "ytdephmdfdgclpaadoor", sum := "b6ee51d919d05f67065135cdc7bb51d55699b4456d10a5b318dc5de4a7227137", func := "stackyard/stackyardlaw10.ExprTypes", spec := "exprTypes", inPlace := ["internal/bytealg.IndexByteString", "internal/bytealg.IndexString", "internal/bytealg.abigen_runtime_cmpstring"], unfollowed := true, recurses := true, named := ["unicode/utf8.first", "unicode/utf8.acceptRanges", "stackyard/expr.shapes", "stackyard/expr.ands", "stackyard/expr.ors", "internal/bytealg.MaxLen"], loops := true, apart := false, laid := [("unicode/utf8.acceptRanges", laid_unicode_utf8_acceptRanges), ("stackyard/expr.shapes", laid_stackyard_expr_shapes), ("stackyard/expr.ands", laid_stackyard_expr_ands), ("stackyard/expr.ors", laid_stackyard_expr_ors), ("unicode/utf8.first", laid_unicode_utf8_first)] }
def ExprTypesSaid : Prop := exprTypesRow.holds Tryd.pinned (OpenSpec.ofChange exprTypesSpec)

/-- ITS FALSE NEIGHBOUR: 'it returns false'. Refute it at one input. -/
def exprTypesWrong : ChangeSpec := { name := "exprTypes", fn := fun _ => fun
  | [d1, d2] => { results := [.lit (.bool false)], args := [d1, d2] }
  | _ => none }
def ExprTypesWrongFalsely : Prop := exprTypesRow.holds Tryd.pinned (OpenSpec.ofChange exprTypesWrong)

/-- 'stackyardlaw10.ExprEvals': WHATEVER THE INPUT: true; the input reads as it did. -/
def exprEvalsSpec : ChangeSpec := { name := "exprEvals", fn := fun _ => fun
  | [d1, d2, d3] => { results := [.lit (.bool true)], args := [d1, d2, d3] }
  | _ => none }
def exprEvalsRow : OpenClaim := { program := "ytdephmdfdgclpaadoor", sum := "b6ee51d919d05f67065135cdc7bb51d55699b4456d10a5b318dc5de4a7227137", func := "stackyard/stackyardlaw10.ExprEvals", spec := "exprEvals", inPlace := ["internal/bytealg.IndexByteString", "internal/bytealg.IndexString", "internal/bytealg.abigen_runtime_cmpstring"], unfollowed := true, recurses := true, named := ["unicode/utf8.first", "unicode/utf8.acceptRanges", "stackyard/expr.shapes", "stackyard/expr.ands", "stackyard/expr.ors", "internal/bytealg.MaxLen"], loops := true, apart := false, laid := [("unicode/utf8.acceptRanges", laid_unicode_utf8_acceptRanges), ("stackyard/expr.shapes", laid_stackyard_expr_shapes), ("stackyard/expr.ands", laid_stackyard_expr_ands), ("stackyard/expr.ors", laid_stackyard_expr_ors), ("unicode/utf8.first", laid_unicode_utf8_first)] }
def ExprEvalsSaid : Prop := exprEvalsRow.holds Tryd.pinned (OpenSpec.ofChange exprEvalsSpec)

/-- ITS FALSE NEIGHBOUR: 'it returns false'. Refute it at one input. -/
def exprEvalsWrong : ChangeSpec := { name := "exprEvals", fn := fun _ => fun
  | [d1, d2, d3] => { results := [.lit (.bool false)], args := [d1, d2, d3] }
  | _ => none }
def ExprEvalsWrongFalsely : Prop := exprEvalsRow.holds Tryd.pinned (OpenSpec.ofChange exprEvalsWrong)

/-- 'stackyardlaw10.ExprKinds': WHATEVER THE INPUT: true; the input reads as it did. -/
def exprKindsSpec : ChangeSpec := { name := "exprKinds", fn := fun _ => fun
  | [d1, d2, d3] => { results := [.lit (.bool true)], args := [d1, d2, d3] }
  | _ => none }
def exprKindsRow : OpenClaim := { program := "ytdephmdfdgclpaadoor", sum := "b6ee51d919d05f67065135cdc7bb51d55699b4456d10a5b318dc5de4a7227137", func := "stackyard/stackyardlaw10.ExprKinds", spec := "exprKinds", inPlace := ["internal/bytealg.IndexByteString", "internal/bytealg.IndexString", "internal/bytealg.abigen_runtime_cmpstring"], unfollowed := true, recurses := true, named := ["unicode/utf8.first", "unicode/utf8.acceptRanges", "stackyard/expr.shapes", "stackyard/expr.ands", "stackyard/expr.ors", "internal/bytealg.MaxLen"], loops := true, apart := false, laid := [("unicode/utf8.acceptRanges", laid_unicode_utf8_acceptRanges), ("stackyard/expr.shapes", laid_stackyard_expr_shapes), ("stackyard/expr.ands", laid_stackyard_expr_ands), ("stackyard/expr.ors", laid_stackyard_expr_ors), ("unicode/utf8.first", laid_unicode_utf8_first)] }
def ExprKindsSaid : Prop := exprKindsRow.holds Tryd.pinned (OpenSpec.ofChange exprKindsSpec)

/-- ITS FALSE NEIGHBOUR: 'it returns false'. Refute it at one input. -/
def exprKindsWrong : ChangeSpec := { name := "exprKinds", fn := fun _ => fun
  | [d1, d2, d3] => { results := [.lit (.bool false)], args := [d1, d2, d3] }
  | _ => none }
def ExprKindsWrongFalsely : Prop := exprKindsRow.holds Tryd.pinned (OpenSpec.ofChange exprKindsWrong)

/-- 'stackyardlaw10.ExprTurns': WHATEVER THE INPUT: true; the input reads as it did. -/
def exprTurnsSpec : ChangeSpec := { name := "exprTurns", fn := fun _ => fun
  | [d1, d2, d3, d4] => { results := [.lit (.bool true)], args := [d1, d2, d3, d4] }
  | _ => none }
def exprTurnsRow : OpenClaim := { program := "ytdephmdfdgclpaadoor", sum := "b6ee51d919d05f67065135cdc7bb51d55699b4456d10a5b318dc5de4a7227137", func := "stackyard/stackyardlaw10.ExprTurns", spec := "exprTurns", inPlace := ["internal/bytealg.IndexByteString", "internal/bytealg.IndexString", "internal/bytealg.abigen_runtime_cmpstring"], unfollowed := true, recurses := true, named := ["unicode/utf8.first", "unicode/utf8.acceptRanges", "stackyard/expr.shapes", "stackyard/expr.ands", "stackyard/expr.ors", "internal/bytealg.MaxLen"], loops := true, apart := false, laid := [("unicode/utf8.acceptRanges", laid_unicode_utf8_acceptRanges), ("stackyard/expr.shapes", laid_stackyard_expr_shapes), ("stackyard/expr.ands", laid_stackyard_expr_ands), ("stackyard/expr.ors", laid_stackyard_expr_ors), ("unicode/utf8.first", laid_unicode_utf8_first)] }
def ExprTurnsSaid : Prop := exprTurnsRow.holds Tryd.pinned (OpenSpec.ofChange exprTurnsSpec)

/-- ITS FALSE NEIGHBOUR: 'it returns false'. Refute it at one input. -/
def exprTurnsWrong : ChangeSpec := { name := "exprTurns", fn := fun _ => fun
  | [d1, d2, d3, d4] => { results := [.lit (.bool false)], args := [d1, d2, d3, d4] }
  | _ => none }
def ExprTurnsWrongFalsely : Prop := exprTurnsRow.holds Tryd.pinned (OpenSpec.ofChange exprTurnsWrong)

/-- 'stackyardlaw10.ExprSwaps': WHATEVER THE INPUT: true; the input reads as it did. -/
def exprSwapsSpec : ChangeSpec := { name := "exprSwaps", fn := fun _ => fun
  | [d1, d2, d3, d4] => { results := [.lit (.bool true)], args := [d1, d2, d3, d4] }
  | _ => none }
def exprSwapsRow : OpenClaim := { program := "ytdephmdfdgclpaadoor", sum := "b6ee51d919d05f67065135cdc7bb51d55699b4456d10a5b318dc5de4a7227137", func := "stackyard/stackyardlaw10.ExprSwaps", spec := "exprSwaps", inPlace := ["internal/bytealg.IndexByteString", "internal/bytealg.IndexString", "internal/bytealg.abigen_runtime_cmpstring"], unfollowed := true, recurses := true, named := ["unicode/utf8.first", "unicode/utf8.acceptRanges", "stackyard/expr.shapes", "stackyard/expr.ands", "stackyard/expr.ors", "internal/bytealg.MaxLen"], loops := true, apart := false, laid := [("unicode/utf8.acceptRanges", laid_unicode_utf8_acceptRanges), ("stackyard/expr.shapes", laid_stackyard_expr_shapes), ("stackyard/expr.ands", laid_stackyard_expr_ands), ("stackyard/expr.ors", laid_stackyard_expr_ors), ("unicode/utf8.first", laid_unicode_utf8_first)] }
def ExprSwapsSaid : Prop := exprSwapsRow.holds Tryd.pinned (OpenSpec.ofChange exprSwapsSpec)

/-- ITS FALSE NEIGHBOUR: 'it returns false'. Refute it at one input. -/
def exprSwapsWrong : ChangeSpec := { name := "exprSwaps", fn := fun _ => fun
  | [d1, d2, d3, d4] => { results := [.lit (.bool false)], args := [d1, d2, d3, d4] }
  | _ => none }
def ExprSwapsWrongFalsely : Prop := exprSwapsRow.holds Tryd.pinned (OpenSpec.ofChange exprSwapsWrong)

/-- 'stackyardlaw10.ExprOrders': WHATEVER THE INPUT: true; the input reads as it did. -/
def exprOrdersSpec : ChangeSpec := { name := "exprOrders", fn := fun _ => fun
  | [d1, d2, d3, d4] => { results := [.lit (.bool true)], args := [d1, d2, d3, d4] }
  | _ => none }
def exprOrdersRow : OpenClaim := { program := "ytdephmdfdgclpaadoor", sum := "b6ee51d919d05f67065135cdc7bb51d55699b4456d10a5b318dc5de4a7227137", func := "stackyard/stackyardlaw10.ExprOrders", spec := "exprOrders", inPlace := ["internal/bytealg.IndexByteString", "internal/bytealg.IndexString", "internal/bytealg.abigen_runtime_cmpstring"], unfollowed := true, recurses := true, named := ["unicode/utf8.first", "unicode/utf8.acceptRanges", "stackyard/expr.shapes", "stackyard/expr.ands", "stackyard/expr.ors", "internal/bytealg.MaxLen"], loops := true, apart := false, laid := [("unicode/utf8.acceptRanges", laid_unicode_utf8_acceptRanges), ("stackyard/expr.shapes", laid_stackyard_expr_shapes), ("stackyard/expr.ands", laid_stackyard_expr_ands), ("stackyard/expr.ors", laid_stackyard_expr_ors), ("unicode/utf8.first", laid_unicode_utf8_first)] }
def ExprOrdersSaid : Prop := exprOrdersRow.holds Tryd.pinned (OpenSpec.ofChange exprOrdersSpec)

/-- ITS FALSE NEIGHBOUR: 'it returns false'. Refute it at one input. -/
def exprOrdersWrong : ChangeSpec := { name := "exprOrders", fn := fun _ => fun
  | [d1, d2, d3, d4] => { results := [.lit (.bool false)], args := [d1, d2, d3, d4] }
  | _ => none }
def ExprOrdersWrongFalsely : Prop := exprOrdersRow.holds Tryd.pinned (OpenSpec.ofChange exprOrdersWrong)

/- THE SECOND FORM. 'bulk': how many values and letters a reading holds, each counted each time it is reached (what is shared counts as often as it is met; a slice's spare places count too). A statement '..UptoSaid' is the law's where the arguments, and the package variables that the reading takes, are together of bulk at most 1048576: NARROWER than '..Said'. Prove '..Said' where nothing that the law and all that it calls make is longer than what came in: it says more and counts as full. Else prove '..UptoSaid'. A law counts once. -/
mutual
def uptoBulk {H : Type} : DataW H → Nat
  | .lit (.string bytes) => bytes.length + 1
  | .lit _ => 1
  | .nil => 1
  | .ptr d => uptoBulk d + 1
  | .slice elems spare => uptoBulkAll elems + uptoBulkAll spare + 1
  | .agg parts => uptoBulkAll parts + 1
  | .iface _ d => uptoBulk d + 1
  | .map entries => uptoBulkEntries entries + 1
  | .held _ => 1
def uptoBulkAll {H : Type} : List (DataW H) → Nat
  | [] => 0
  | d :: r => uptoBulk d + uptoBulkAll r
def uptoBulkEntries {H : Type} : List (Lit × DataW H) → Nat
  | [] => 0
  | x :: r => uptoBulkEntry x + uptoBulkEntries r
def uptoBulkEntry {H : Type} : Lit × DataW H → Nat
  | (.string bytes, d) => bytes.length + uptoBulk d + 1
  | (_, d) => uptoBulk d + 1
 end
def uptoSmall : (H : Type) → List (DataW H) → Bool := fun _ ds => decide (uptoBulkAll ds ≤ 1048576)
def OpenSpec.upto (s : _root_.Go.ChangeSpec) : _root_.Go.OpenSpec := { _root_.Go.OpenSpec.ofChange s with cond := some uptoSmall }

/-- 'stackyardlaw10.ExprOthers', WHERE WHAT IT READS IS OF BULK AT MOST 1048576: true; the input reads as it did. -/
def exprOthersUptoRow : OpenClaim := { program := "ytdephmdfdgclpaadoor", sum := "b6ee51d919d05f67065135cdc7bb51d55699b4456d10a5b318dc5de4a7227137", func := "stackyard/stackyardlaw10.ExprOthers", spec := "exprOthers", inPlace := ["internal/bytealg.IndexByteString", "internal/bytealg.IndexString", "internal/bytealg.abigen_runtime_cmpstring"], unfollowed := true, recurses := true, named := ["unicode/utf8.first", "unicode/utf8.acceptRanges", "stackyard/expr.shapes", "stackyard/expr.ands", "stackyard/expr.ors", "internal/bytealg.MaxLen"], loops := true, apart := false, laid := [("unicode/utf8.acceptRanges", laid_unicode_utf8_acceptRanges), ("stackyard/expr.shapes", laid_stackyard_expr_shapes), ("stackyard/expr.ands", laid_stackyard_expr_ands), ("stackyard/expr.ors", laid_stackyard_expr_ors), ("unicode/utf8.first", laid_unicode_utf8_first)], narrowed := true }
def ExprOthersUptoSaid : Prop := exprOthersUptoRow.holds Tryd.pinned (OpenSpec.upto exprOthersSpec)

/-- 'stackyardlaw10.ExprUses', WHERE WHAT IT READS IS OF BULK AT MOST 1048576: true; the input reads as it did. -/
def exprUsesUptoRow : OpenClaim := { program := "ytdephmdfdgclpaadoor", sum := "b6ee51d919d05f67065135cdc7bb51d55699b4456d10a5b318dc5de4a7227137", func := "stackyard/stackyardlaw10.ExprUses", spec := "exprUses", inPlace := ["internal/bytealg.IndexByteString", "internal/bytealg.IndexString", "internal/bytealg.abigen_runtime_cmpstring"], unfollowed := true, recurses := true, named := ["unicode/utf8.first", "unicode/utf8.acceptRanges", "stackyard/expr.shapes", "stackyard/expr.ands", "stackyard/expr.ors", "internal/bytealg.MaxLen"], loops := true, apart := false, laid := [("unicode/utf8.acceptRanges", laid_unicode_utf8_acceptRanges), ("stackyard/expr.shapes", laid_stackyard_expr_shapes), ("stackyard/expr.ands", laid_stackyard_expr_ands), ("stackyard/expr.ors", laid_stackyard_expr_ors), ("unicode/utf8.first", laid_unicode_utf8_first)], narrowed := true }
def ExprUsesUptoSaid : Prop := exprUsesUptoRow.holds Tryd.pinned (OpenSpec.upto exprUsesSpec)

/-- 'stackyardlaw10.ExprTypes', WHERE WHAT IT READS IS OF BULK AT MOST 1048576: true; the input reads as it did. -/
def exprTypesUptoRow : OpenClaim := { program := "ytdephmdfdgclpaadoor", sum := "b6ee51d919d05f67065135cdc7bb51d55699b4456d10a5b318dc5de4a7227137", func := "stackyard/stackyardlaw10.ExprTypes", spec := "exprTypes", inPlace := ["internal/bytealg.IndexByteString", "internal/bytealg.IndexString", "internal/bytealg.abigen_runtime_cmpstring"], unfollowed := true, recurses := true, named := ["unicode/utf8.first", "unicode/utf8.acceptRanges", "stackyard/expr.shapes", "stackyard/expr.ands", "stackyard/expr.ors", "internal/bytealg.MaxLen"], loops := true, apart := false, laid := [("unicode/utf8.acceptRanges", laid_unicode_utf8_acceptRanges), ("stackyard/expr.shapes", laid_stackyard_expr_shapes), ("stackyard/expr.ands", laid_stackyard_expr_ands), ("stackyard/expr.ors", laid_stackyard_expr_ors), ("unicode/utf8.first", laid_unicode_utf8_first)], narrowed := true }
def ExprTypesUptoSaid : Prop := exprTypesUptoRow.holds Tryd.pinned (OpenSpec.upto exprTypesSpec)

/-- 'stackyardlaw10.ExprEvals', WHERE WHAT IT READS IS OF BULK AT MOST 1048576: true; the input reads as it did. -/
def exprEvalsUptoRow : OpenClaim := { program := "ytdephmdfdgclpaadoor", sum := "b6ee51d919d05f67065135cdc7bb51d55699b4456d10a5b318dc5de4a7227137", func := "stackyard/stackyardlaw10.ExprEvals", spec := "exprEvals", inPlace := ["internal/bytealg.IndexByteString", "internal/bytealg.IndexString", "internal/bytealg.abigen_runtime_cmpstring"], unfollowed := true, recurses := true, named := ["unicode/utf8.first", "unicode/utf8.acceptRanges", "stackyard/expr.shapes", "stackyard/expr.ands", "stackyard/expr.ors", "internal/bytealg.MaxLen"], loops := true, apart := false, laid := [("unicode/utf8.acceptRanges", laid_unicode_utf8_acceptRanges), ("stackyard/expr.shapes", laid_stackyard_expr_shapes), ("stackyard/expr.ands", laid_stackyard_expr_ands), ("stackyard/expr.ors", laid_stackyard_expr_ors), ("unicode/utf8.first", laid_unicode_utf8_first)], narrowed := true }
def ExprEvalsUptoSaid : Prop := exprEvalsUptoRow.holds Tryd.pinned (OpenSpec.upto exprEvalsSpec)

/-- 'stackyardlaw10.ExprKinds', WHERE WHAT IT READS IS OF BULK AT MOST 1048576: true; the input reads as it did. -/
def exprKindsUptoRow : OpenClaim := { program := "ytdephmdfdgclpaadoor", sum := "b6ee51d919d05f67065135cdc7bb51d55699b4456d10a5b318dc5de4a7227137", func := "stackyard/stackyardlaw10.ExprKinds", spec := "exprKinds", inPlace := ["internal/bytealg.IndexByteString", "internal/bytealg.IndexString", "internal/bytealg.abigen_runtime_cmpstring"], unfollowed := true, recurses := true, named := ["unicode/utf8.first", "unicode/utf8.acceptRanges", "stackyard/expr.shapes", "stackyard/expr.ands", "stackyard/expr.ors", "internal/bytealg.MaxLen"], loops := true, apart := false, laid := [("unicode/utf8.acceptRanges", laid_unicode_utf8_acceptRanges), ("stackyard/expr.shapes", laid_stackyard_expr_shapes), ("stackyard/expr.ands", laid_stackyard_expr_ands), ("stackyard/expr.ors", laid_stackyard_expr_ors), ("unicode/utf8.first", laid_unicode_utf8_first)], narrowed := true }
def ExprKindsUptoSaid : Prop := exprKindsUptoRow.holds Tryd.pinned (OpenSpec.upto exprKindsSpec)

/-- 'stackyardlaw10.ExprTurns', WHERE WHAT IT READS IS OF BULK AT MOST 1048576: true; the input reads as it did. -/
def exprTurnsUptoRow : OpenClaim := { program := "ytdephmdfdgclpaadoor", sum := "b6ee51d919d05f67065135cdc7bb51d55699b4456d10a5b318dc5de4a7227137", func := "stackyard/stackyardlaw10.ExprTurns", spec := "exprTurns", inPlace := ["internal/bytealg.IndexByteString", "internal/bytealg.IndexString", "internal/bytealg.abigen_runtime_cmpstring"], unfollowed := true, recurses := true, named := ["unicode/utf8.first", "unicode/utf8.acceptRanges", "stackyard/expr.shapes", "stackyard/expr.ands", "stackyard/expr.ors", "internal/bytealg.MaxLen"], loops := true, apart := false, laid := [("unicode/utf8.acceptRanges", laid_unicode_utf8_acceptRanges), ("stackyard/expr.shapes", laid_stackyard_expr_shapes), ("stackyard/expr.ands", laid_stackyard_expr_ands), ("stackyard/expr.ors", laid_stackyard_expr_ors), ("unicode/utf8.first", laid_unicode_utf8_first)], narrowed := true }
def ExprTurnsUptoSaid : Prop := exprTurnsUptoRow.holds Tryd.pinned (OpenSpec.upto exprTurnsSpec)

/-- 'stackyardlaw10.ExprSwaps', WHERE WHAT IT READS IS OF BULK AT MOST 1048576: true; the input reads as it did. -/
def exprSwapsUptoRow : OpenClaim := { program := "ytdephmdfdgclpaadoor", sum := "b6ee51d919d05f67065135cdc7bb51d55699b4456d10a5b318dc5de4a7227137", func := "stackyard/stackyardlaw10.ExprSwaps", spec := "exprSwaps", inPlace := ["internal/bytealg.IndexByteString", "internal/bytealg.IndexString", "internal/bytealg.abigen_runtime_cmpstring"], unfollowed := true, recurses := true, named := ["unicode/utf8.first", "unicode/utf8.acceptRanges", "stackyard/expr.shapes", "stackyard/expr.ands", "stackyard/expr.ors", "internal/bytealg.MaxLen"], loops := true, apart := false, laid := [("unicode/utf8.acceptRanges", laid_unicode_utf8_acceptRanges), ("stackyard/expr.shapes", laid_stackyard_expr_shapes), ("stackyard/expr.ands", laid_stackyard_expr_ands), ("stackyard/expr.ors", laid_stackyard_expr_ors), ("unicode/utf8.first", laid_unicode_utf8_first)], narrowed := true }
def ExprSwapsUptoSaid : Prop := exprSwapsUptoRow.holds Tryd.pinned (OpenSpec.upto exprSwapsSpec)

/-- 'stackyardlaw10.ExprOrders', WHERE WHAT IT READS IS OF BULK AT MOST 1048576: true; the input reads as it did. -/
def exprOrdersUptoRow : OpenClaim := { program := "ytdephmdfdgclpaadoor", sum := "b6ee51d919d05f67065135cdc7bb51d55699b4456d10a5b318dc5de4a7227137", func := "stackyard/stackyardlaw10.ExprOrders", spec := "exprOrders", inPlace := ["internal/bytealg.IndexByteString", "internal/bytealg.IndexString", "internal/bytealg.abigen_runtime_cmpstring"], unfollowed := true, recurses := true, named := ["unicode/utf8.first", "unicode/utf8.acceptRanges", "stackyard/expr.shapes", "stackyard/expr.ands", "stackyard/expr.ors", "internal/bytealg.MaxLen"], loops := true, apart := false, laid := [("unicode/utf8.acceptRanges", laid_unicode_utf8_acceptRanges), ("stackyard/expr.shapes", laid_stackyard_expr_shapes), ("stackyard/expr.ands", laid_stackyard_expr_ands), ("stackyard/expr.ors", laid_stackyard_expr_ors), ("unicode/utf8.first", laid_unicode_utf8_first)], narrowed := true }
def ExprOrdersUptoSaid : Prop := exprOrdersUptoRow.holds Tryd.pinned (OpenSpec.upto exprOrdersSpec)

end Rows
end Go.Proofs.YtdephmdfdgclpaaDoor
