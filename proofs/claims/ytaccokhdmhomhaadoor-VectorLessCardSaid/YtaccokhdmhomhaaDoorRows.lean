/-
  NARROWER THAN 'FOR EVERY INPUT', by the rows' own cells (each row's printed sentence says how): VectorEvals: loops, laid · VectorFilters: loops, laid · VectorRows: loops, laid · VectorBoth: loops, laid · VectorLess: loops, laid.
  DERIVED. THE GIVEN ROWS OF THIS SEAT. 5 by the template 'for every input the law returns true; each argument reads behind the call as it read before'; 0 by the template 'total and deterministic' (their statements: YtaccokhdmhomhaaDoorTotals.lean).
  GIVEN WITH THE SEED: the statements are not yours to turn. If you find one false, say at which input.
  Laid BY PROGRAM, IN A SANDBOX (cutbox-rows.mjs): the forced cells as the released guide's own fill.sh prints them over the translation 4a8615bd20851385… (all of the seat's roots in one cut). By AI agents, Wed Nov 11 2026. No macro, syntax, notation, axiom, sorry.
-/
import Derived.Test.YtaccokhdmhomhaaDoorChecked
import GoSem.PinnedTables
import GoSem.Claim
import GoSem.ClaimJoined
import GoSem.ClaimMapViews
import Derived.JoinedTies
import Derived.KernelRfl
namespace Go.Proofs.YtaccokhdmhomhaaDoor
/- THE CELL 'sum', in the pinned program and in every row, IS THE sha256 OF THE DUMP (.gsa) THAT YtaccokhdmhomhaaDoorProg.lean LOADS. Nothing in Lean hashes anything: it is a label: what it is worth is what the hold of that sum in a sandbox is worth. -/
noncomputable def Tryd.pinned : Pinned := { name := "ytaccokhdmhomhaadoor", sum := "4a8615bd2085138589ddac77de5301e4d60e08bf322c6334894a567bd78e2e1e", checked := Tryd.checked }
namespace Rows
def none {H : Type} : Left H := { results := [], args := [] }

/- WHAT THE LISTED PACKAGE-LEVEL VARIABLES READ AS WHEN THE CALL BEGINS. Each datum BY PROGRAM (the guide's laid-datum.mjs) off the statement by which the dump's own 'gosem.cut.vars' lays the variable. In a bare row this is a premise. The card (YtaccokhdmhomhaaDoorCards.lean) ties it to the program's text. -/
def laid_unicode_utf8_acceptRanges {H : Type} : DataW H := .agg [.agg [.lit (.int .u8 128), .lit (.int .u8 191)], .agg [.lit (.int .u8 160), .lit (.int .u8 191)], .agg [.lit (.int .u8 128), .lit (.int .u8 159)], .agg [.lit (.int .u8 144), .lit (.int .u8 191)], .agg [.lit (.int .u8 128), .lit (.int .u8 143)], .agg [.lit (.int .u8 0), .lit (.int .u8 0)], .agg [.lit (.int .u8 0), .lit (.int .u8 0)], .agg [.lit (.int .u8 0), .lit (.int .u8 0)], .agg [.lit (.int .u8 0), .lit (.int .u8 0)], .agg [.lit (.int .u8 0), .lit (.int .u8 0)], .agg [.lit (.int .u8 0), .lit (.int .u8 0)], .agg [.lit (.int .u8 0), .lit (.int .u8 0)], .agg [.lit (.int .u8 0), .lit (.int .u8 0)], .agg [.lit (.int .u8 0), .lit (.int .u8 0)], .agg [.lit (.int .u8 0), .lit (.int .u8 0)], .agg [.lit (.int .u8 0), .lit (.int .u8 0)]]
def laid_stackyard_expr_shapes {H : Type} : DataW H := .agg [.agg [.lit (.int .i64 (-1)), .lit (.int .i64 0), .lit (.int .i64 0)], .agg [.lit (.int .i64 0), .lit (.int .i64 0), .lit (.int .i64 0)], .agg [.lit (.int .i64 0), .lit (.int .i64 0), .lit (.int .i64 0)], .agg [.lit (.int .i64 2), .lit (.int .i64 1), .lit (.int .i64 1)], .agg [.lit (.int .i64 2), .lit (.int .i64 1), .lit (.int .i64 1)], .agg [.lit (.int .i64 2), .lit (.int .i64 1), .lit (.int .i64 1)], .agg [.lit (.int .i64 2), .lit (.int .i64 1), .lit (.int .i64 1)], .agg [.lit (.int .i64 2), .lit (.int .i64 1), .lit (.int .i64 1)], .agg [.lit (.int .i64 1), .lit (.int .i64 1), .lit (.int .i64 1)], .agg [.lit (.int .i64 2), .lit (.int .i64 0), .lit (.int .i64 2)], .agg [.lit (.int .i64 2), .lit (.int .i64 0), .lit (.int .i64 2)], .agg [.lit (.int .i64 2), .lit (.int .i64 0), .lit (.int .i64 2)], .agg [.lit (.int .i64 2), .lit (.int .i64 2), .lit (.int .i64 2)], .agg [.lit (.int .i64 2), .lit (.int .i64 2), .lit (.int .i64 2)], .agg [.lit (.int .i64 1), .lit (.int .i64 2), .lit (.int .i64 2)], .agg [.lit (.int .i64 1), .lit (.int .i64 0), .lit (.int .i64 2)], .agg [.lit (.int .i64 1), .lit (.int .i64 3), .lit (.int .i64 1)]]
def laid_stackyard_expr_ands {H : Type} : DataW H := .agg [.agg [.lit (.int .i64 0), .lit (.int .i64 0), .lit (.int .i64 0)], .agg [.lit (.int .i64 0), .lit (.int .i64 1), .lit (.int .i64 2)], .agg [.lit (.int .i64 0), .lit (.int .i64 2), .lit (.int .i64 2)]]
def laid_stackyard_expr_ors {H : Type} : DataW H := .agg [.agg [.lit (.int .i64 0), .lit (.int .i64 1), .lit (.int .i64 2)], .agg [.lit (.int .i64 1), .lit (.int .i64 1), .lit (.int .i64 1)], .agg [.lit (.int .i64 2), .lit (.int .i64 1), .lit (.int .i64 2)]]
/-- One of Go's own tables, pinned by name: the form's constant. -/
def laid_unicode_utf8_first : DataW Unit := Go.Pinned.utf8First

/-- 'stackyardlaw13.VectorEvals': WHATEVER THE INPUT: true; the input reads as it did. -/
def vectorEvalsSpec : ChangeSpec := { name := "vectorEvals", fn := fun _ => fun
  | [d1, d2, d3, d4] => { results := [.lit (.bool true)], args := [d1, d2, d3, d4] }
  | _ => none }
def vectorEvalsRow : OpenClaim := { program := "ytaccokhdmhomhaadoor", sum := "4a8615bd2085138589ddac77de5301e4d60e08bf322c6334894a567bd78e2e1e", func := "stackyard/stackyardlaw13.VectorEvals", spec := "vectorEvals", inPlace := ["internal/bytealg.IndexByteString", "internal/bytealg.IndexString", "internal/bytealg.abigen_runtime_cmpstring"], unfollowed := true, recurses := true, named := ["unicode/utf8.first", "unicode/utf8.acceptRanges", "stackyard/expr.shapes", "stackyard/expr.ands", "stackyard/expr.ors", "internal/bytealg.MaxLen"], loops := true, apart := false, laid := [("unicode/utf8.acceptRanges", laid_unicode_utf8_acceptRanges), ("stackyard/expr.shapes", laid_stackyard_expr_shapes), ("stackyard/expr.ands", laid_stackyard_expr_ands), ("stackyard/expr.ors", laid_stackyard_expr_ors), ("unicode/utf8.first", laid_unicode_utf8_first)] }
def VectorEvalsSaid : Prop := vectorEvalsRow.holds Tryd.pinned (OpenSpec.ofChange vectorEvalsSpec)

/-- ITS FALSE NEIGHBOUR: 'it returns false'. Refute it at one input. -/
def vectorEvalsWrong : ChangeSpec := { name := "vectorEvals", fn := fun _ => fun
  | [d1, d2, d3, d4] => { results := [.lit (.bool false)], args := [d1, d2, d3, d4] }
  | _ => none }
def VectorEvalsWrongFalsely : Prop := vectorEvalsRow.holds Tryd.pinned (OpenSpec.ofChange vectorEvalsWrong)

/-- 'stackyardlaw13.VectorFilters': WHATEVER THE INPUT: true; the input reads as it did. -/
def vectorFiltersSpec : ChangeSpec := { name := "vectorFilters", fn := fun _ => fun
  | [d1, d2, d3, d4] => { results := [.lit (.bool true)], args := [d1, d2, d3, d4] }
  | _ => none }
def vectorFiltersRow : OpenClaim := { program := "ytaccokhdmhomhaadoor", sum := "4a8615bd2085138589ddac77de5301e4d60e08bf322c6334894a567bd78e2e1e", func := "stackyard/stackyardlaw13.VectorFilters", spec := "vectorFilters", inPlace := ["internal/bytealg.IndexByteString", "internal/bytealg.IndexString", "internal/bytealg.abigen_runtime_cmpstring"], unfollowed := true, recurses := true, named := ["unicode/utf8.first", "unicode/utf8.acceptRanges", "stackyard/expr.shapes", "stackyard/expr.ands", "stackyard/expr.ors", "internal/bytealg.MaxLen"], loops := true, apart := false, laid := [("unicode/utf8.acceptRanges", laid_unicode_utf8_acceptRanges), ("stackyard/expr.shapes", laid_stackyard_expr_shapes), ("stackyard/expr.ands", laid_stackyard_expr_ands), ("stackyard/expr.ors", laid_stackyard_expr_ors), ("unicode/utf8.first", laid_unicode_utf8_first)] }
def VectorFiltersSaid : Prop := vectorFiltersRow.holds Tryd.pinned (OpenSpec.ofChange vectorFiltersSpec)

/-- ITS FALSE NEIGHBOUR: 'it returns false'. Refute it at one input. -/
def vectorFiltersWrong : ChangeSpec := { name := "vectorFilters", fn := fun _ => fun
  | [d1, d2, d3, d4] => { results := [.lit (.bool false)], args := [d1, d2, d3, d4] }
  | _ => none }
def VectorFiltersWrongFalsely : Prop := vectorFiltersRow.holds Tryd.pinned (OpenSpec.ofChange vectorFiltersWrong)

/-- 'stackyardlaw13.VectorRows': WHATEVER THE INPUT: true; the input reads as it did. -/
def vectorRowsSpec : ChangeSpec := { name := "vectorRows", fn := fun _ => fun
  | [d1, d2, d3] => { results := [.lit (.bool true)], args := [d1, d2, d3] }
  | _ => none }
def vectorRowsRow : OpenClaim := { program := "ytaccokhdmhomhaadoor", sum := "4a8615bd2085138589ddac77de5301e4d60e08bf322c6334894a567bd78e2e1e", func := "stackyard/stackyardlaw13.VectorRows", spec := "vectorRows", inPlace := ["internal/bytealg.IndexByteString", "internal/bytealg.IndexString", "internal/bytealg.abigen_runtime_cmpstring"], unfollowed := true, recurses := true, named := ["unicode/utf8.first", "unicode/utf8.acceptRanges", "stackyard/expr.shapes", "stackyard/expr.ands", "stackyard/expr.ors", "internal/bytealg.MaxLen"], loops := true, apart := false, laid := [("unicode/utf8.acceptRanges", laid_unicode_utf8_acceptRanges), ("stackyard/expr.shapes", laid_stackyard_expr_shapes), ("stackyard/expr.ands", laid_stackyard_expr_ands), ("stackyard/expr.ors", laid_stackyard_expr_ors), ("unicode/utf8.first", laid_unicode_utf8_first)] }
def VectorRowsSaid : Prop := vectorRowsRow.holds Tryd.pinned (OpenSpec.ofChange vectorRowsSpec)

/-- ITS FALSE NEIGHBOUR: 'it returns false'. Refute it at one input. -/
def vectorRowsWrong : ChangeSpec := { name := "vectorRows", fn := fun _ => fun
  | [d1, d2, d3] => { results := [.lit (.bool false)], args := [d1, d2, d3] }
  | _ => none }
def VectorRowsWrongFalsely : Prop := vectorRowsRow.holds Tryd.pinned (OpenSpec.ofChange vectorRowsWrong)

/-- 'stackyardlaw13.VectorBoth': WHATEVER THE INPUT: true; the input reads as it did. -/
def vectorBothSpec : ChangeSpec := { name := "vectorBoth", fn := fun _ => fun
  | [d1, d2, d3, d4] => { results := [.lit (.bool true)], args := [d1, d2, d3, d4] }
  | _ => none }
def vectorBothRow : OpenClaim := { program := "ytaccokhdmhomhaadoor", sum := "4a8615bd2085138589ddac77de5301e4d60e08bf322c6334894a567bd78e2e1e", func := "stackyard/stackyardlaw13.VectorBoth", spec := "vectorBoth", inPlace := ["internal/bytealg.IndexByteString", "internal/bytealg.IndexString", "internal/bytealg.abigen_runtime_cmpstring"], unfollowed := true, recurses := true, named := ["unicode/utf8.first", "unicode/utf8.acceptRanges", "stackyard/expr.shapes", "stackyard/expr.ands", "stackyard/expr.ors", "internal/bytealg.MaxLen"], loops := true, apart := false, laid := [("unicode/utf8.acceptRanges", laid_unicode_utf8_acceptRanges), ("stackyard/expr.shapes", laid_stackyard_expr_shapes), ("stackyard/expr.ands", laid_stackyard_expr_ands), ("stackyard/expr.ors", laid_stackyard_expr_ors), ("unicode/utf8.first", laid_unicode_utf8_first)] }
def VectorBothSaid : Prop := vectorBothRow.holds Tryd.pinned (OpenSpec.ofChange vectorBothSpec)

/-- ITS FALSE NEIGHBOUR: 'it returns false'. Refute it at one input. -/
def vectorBothWrong : ChangeSpec := { name := "vectorBoth", fn := fun _ => fun
  | [d1, d2, d3, d4] => { results := [.lit (.bool false)], args := [d1, d2, d3, d4] }
  | _ => none }
def VectorBothWrongFalsely : Prop := vectorBothRow.holds Tryd.pinned (OpenSpec.ofChange vectorBothWrong)

/-- 'stackyardlaw13.VectorLess': WHATEVER THE INPUT: true; the input reads as it did. -/
def vectorLessSpec : ChangeSpec := { name := "vectorLess", fn := fun _ => fun
  | [d1, d2, d3, d4] => { results := [.lit (.bool true)], args := [d1, d2, d3, d4] }
  | _ => none }
def vectorLessRow : OpenClaim := { program := "ytaccokhdmhomhaadoor", sum := "4a8615bd2085138589ddac77de5301e4d60e08bf322c6334894a567bd78e2e1e", func := "stackyard/stackyardlaw13.VectorLess", spec := "vectorLess", inPlace := ["internal/bytealg.IndexByteString", "internal/bytealg.IndexString", "internal/bytealg.abigen_runtime_cmpstring"], unfollowed := true, recurses := true, named := ["unicode/utf8.first", "unicode/utf8.acceptRanges", "stackyard/expr.shapes", "stackyard/expr.ands", "stackyard/expr.ors", "internal/bytealg.MaxLen"], loops := true, apart := false, laid := [("unicode/utf8.acceptRanges", laid_unicode_utf8_acceptRanges), ("stackyard/expr.shapes", laid_stackyard_expr_shapes), ("stackyard/expr.ands", laid_stackyard_expr_ands), ("stackyard/expr.ors", laid_stackyard_expr_ors), ("unicode/utf8.first", laid_unicode_utf8_first)] }
def VectorLessSaid : Prop := vectorLessRow.holds Tryd.pinned (OpenSpec.ofChange vectorLessSpec)

/-- ITS FALSE NEIGHBOUR: 'it returns false'. Refute it at one input. -/
def vectorLessWrong : ChangeSpec := { name := "vectorLess", fn := fun _ => fun
  | [d1, d2, d3, d4] => { results := [.lit (.bool false)], args := [d1, d2, d3, d4] }
  | _ => none }
def VectorLessWrongFalsely : Prop := vectorLessRow.holds Tryd.pinned (OpenSpec.ofChange vectorLessWrong)

/- THE SECOND FORM. 'bulk': how many values and letters a reading holds, each counted each time it is reached (what is shared counts as often as it is met; a slice's spare places count too). A statement '..UptoSaid' is the law's where the arguments, and the package variables that the reading takes, are together of bulk at most 1048576: NARROWER than '..Said'. Prove '..Said' where nothing that the law and all that it calls make is longer than what came in: it says more and counts as full. Else prove '..UptoSaid'. A law counts once. -/
mutual
def uptoBulk {H : Type} : DataW H → Nat
  | .lit (.string bytes) => bytes.length + 1
  | .lit _ => 1
  | .nil => 1
  | .ptr d => uptoBulk d + 1
  | .slice elems spare => uptoBulkAll elems + uptoBulkAll spare + 1
  | .agg parts => uptoBulkAll parts + 1
  | .iface _ d => uptoBulk d + 1
  | .map entries => uptoBulkEntries entries + 1
  | .held _ => 1
def uptoBulkAll {H : Type} : List (DataW H) → Nat
  | [] => 0
  | d :: r => uptoBulk d + uptoBulkAll r
def uptoBulkEntries {H : Type} : List (Lit × DataW H) → Nat
  | [] => 0
  | x :: r => uptoBulkEntry x + uptoBulkEntries r
def uptoBulkEntry {H : Type} : Lit × DataW H → Nat
  | (.string bytes, d) => bytes.length + uptoBulk d + 1
  | (_, d) => uptoBulk d + 1
 end
def uptoSmall : (H : Type) → List (DataW H) → Bool := fun _ ds => decide (uptoBulkAll ds ≤ 1048576)
def OpenSpec.upto (s : _root_.Go.ChangeSpec) : _root_.Go.OpenSpec := { _root_.Go.OpenSpec.ofChange s with cond := some uptoSmall }

/-- 'stackyardlaw13.VectorEvals', WHERE WHAT IT READS IS OF BULK AT MOST 1048576: true; the input reads as it did. -/
def vectorEvalsUptoRow : OpenClaim := { program := "ytaccokhdmhomhaadoor", sum := "4a8615bd2085138589ddac77de5301e4d60e08bf322c6334894a567bd78e2e1e", func := "stackyard/stackyardlaw13.VectorEvals", spec := "vectorEvals", inPlace := ["internal/bytealg.IndexByteString", "internal/bytealg.IndexString", "internal/bytealg.abigen_runtime_cmpstring"], unfollowed := true, recurses := true, named := ["unicode/utf8.first", "unicode/utf8.acceptRanges", "stackyard/expr.shapes", "stackyard/expr.ands", "stackyard/expr.ors", "internal/bytealg.MaxLen"], loops := true, apart := false, laid := [("unicode/utf8.acceptRanges", laid_unicode_utf8_acceptRanges), ("stackyard/expr.shapes", laid_stackyard_expr_shapes), ("stackyard/expr.ands", laid_stackyard_expr_ands), ("stackyard/expr.ors", laid_stackyard_expr_ors), ("unicode/utf8.first", laid_unicode_utf8_first)], narrowed := true }
def VectorEvalsUptoSaid : Prop := vectorEvalsUptoRow.holds Tryd.pinned (OpenSpec.upto vectorEvalsSpec)

/-- 'stackyardlaw13.VectorFilters', WHERE WHAT IT READS IS OF BULK AT MOST 1048576: true; the input reads as it did. -/
def vectorFiltersUptoRow : OpenClaim := { program := "ytaccokhdmhomhaadoor", sum := "4a8615bd2085138589ddac77de5301e4d60e08bf322c6334894a567bd78e2e1e", func := "stackyard/stackyardlaw13.VectorFilters", spec := "vectorFilters", inPlace := ["internal/bytealg.IndexByteString", "internal/bytealg.IndexString", "internal/bytealg.abigen_runtime_cmpstring"], unfollowed := true, recurses := true, named := ["unicode/utf8.first", "unicode/utf8.acceptRanges", "stackyard/expr.shapes", "stackyard/expr.ands", "stackyard/expr.ors", "internal/bytealg.MaxLen"], loops := true, apart := false, laid := [("unicode/utf8.acceptRanges", laid_unicode_utf8_acceptRanges), ("stackyard/expr.shapes", laid_stackyard_expr_shapes), ("stackyard/expr.ands", laid_stackyard_expr_ands), ("stackyard/expr.ors", laid_stackyard_expr_ors), ("unicode/utf8.first", laid_unicode_utf8_first)], narrowed := true }
def VectorFiltersUptoSaid : Prop := vectorFiltersUptoRow.holds Tryd.pinned (OpenSpec.upto vectorFiltersSpec)

/-- 'stackyardlaw13.VectorRows', WHERE WHAT IT READS IS OF BULK AT MOST 1048576: true; the input reads as it did. -/
def vectorRowsUptoRow : OpenClaim := { program := "ytaccokhdmhomhaadoor", sum := "4a8615bd2085138589ddac77de5301e4d60e08bf322c6334894a567bd78e2e1e", func := "stackyard/stackyardlaw13.VectorRows", spec := "vectorRows", inPlace := ["internal/bytealg.IndexByteString", "internal/bytealg.IndexString", "internal/bytealg.abigen_runtime_cmpstring"], unfollowed := true, recurses := true, named := ["unicode/utf8.first", "unicode/utf8.acceptRanges", "stackyard/expr.shapes", "stackyard/expr.ands", "stackyard/expr.ors", "internal/bytealg.MaxLen"], loops := true, apart := false, laid := [("unicode/utf8.acceptRanges", laid_unicode_utf8_acceptRanges), ("stackyard/expr.shapes", laid_stackyard_expr_shapes), ("stackyard/expr.ands", laid_stackyard_expr_ands), ("stackyard/expr.ors", laid_stackyard_expr_ors), ("unicode/utf8.first", laid_unicode_utf8_first)], narrowed := true }
def VectorRowsUptoSaid : Prop := vectorRowsUptoRow.holds Tryd.pinned (OpenSpec.upto vectorRowsSpec)

/-- 'stackyardlaw13.VectorBoth', WHERE WHAT IT READS IS OF BULK AT MOST 1048576: true; the input reads as it did. -/
def vectorBothUptoRow : OpenClaim := { program := "ytaccokhdmhomhaadoor", sum := "4a8615bd2085138589ddac77de5301e4d60e08bf322c6334894a567bd78e2e1e", func := "stackyard/stackyardlaw13.VectorBoth", spec := "vectorBoth", inPlace := ["internal/bytealg.IndexByteString", "internal/bytealg.IndexString", "internal/bytealg.abigen_runtime_cmpstring"], unfollowed := true, recurses := true, named := ["unicode/utf8.first", "unicode/utf8.acceptRanges", "stackyard/expr.shapes", "stackyard/expr.ands", "stackyard/expr.ors", "internal/bytealg.MaxLen"], loops := true, apart := false, laid := [("unicode/utf8.acceptRanges", laid_unicode_utf8_acceptRanges), ("stackyard/expr.shapes", laid_stackyard_expr_shapes), ("stackyard/expr.ands", laid_stackyard_expr_ands), ("stackyard/expr.ors", laid_stackyard_expr_ors), ("unicode/utf8.first", laid_unicode_utf8_first)], narrowed := true }
def VectorBothUptoSaid : Prop := vectorBothUptoRow.holds Tryd.pinned (OpenSpec.upto vectorBothSpec)

/-- 'stackyardlaw13.VectorLess', WHERE WHAT IT READS IS OF BULK AT MOST 1048576: true; the input reads as it did. -/
def vectorLessUptoRow : OpenClaim := { program := "ytaccokhdmhomhaadoor", sum := "4a8615bd2085138589ddac77de5301e4d60e08bf322c6334894a567bd78e2e1e", func := "stackyard/stackyardlaw13.VectorLess", spec := "vectorLess", inPlace := ["internal/bytealg.IndexByteString", "internal/bytealg.IndexString", "internal/bytealg.abigen_runtime_cmpstring"], unfollowed := true, recurses := true, named := ["unicode/utf8.first", "unicode/utf8.acceptRanges", "stackyard/expr.shapes", "stackyard/expr.ands", "stackyard/expr.ors", "internal/bytealg.MaxLen"], loops := true, apart := false, laid := [("unicode/utf8.acceptRanges", laid_unicode_utf8_acceptRanges), ("stackyard/expr.shapes", laid_stackyard_expr_shapes), ("stackyard/expr.ands", laid_stackyard_expr_ands), ("stackyard/expr.ors", laid_stackyard_expr_ors), ("unicode/utf8.first", laid_unicode_utf8_first)], narrowed := true }
def VectorLessUptoSaid : Prop := vectorLessUptoRow.holds Tryd.pinned (OpenSpec.upto vectorLessSpec)

end Rows
end Go.Proofs.YtaccokhdmhomhaaDoor
