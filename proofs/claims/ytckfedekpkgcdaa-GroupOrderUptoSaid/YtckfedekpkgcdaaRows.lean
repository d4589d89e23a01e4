/-
  No cell of these rows narrows 'for every input' (looked for: loops, veiled, ifaces, maps, wideKeys, modest, calm, conditions, laid).
  DERIVED. THE GIVEN ROWS OF THIS SEAT. 6 by the template 'for every input the law returns true; each argument reads behind the call as it read before'; 0 by the template 'total and deterministic' (their statements: YtckfedekpkgcdaaTotals.lean).
  GIVEN WITH THE SEED: the statements are not yours to turn. If you find one false, say at which input.
  Laid BY PROGRAM, IN A SANDBOX (cutbox-rows.mjs): the forced cells as the released guide's own fill.sh prints them over the translation 1986b44536a6573a… (all of the seat's roots in one cut). By AI agents, Wed Nov 11 2026. No macro, syntax, notation, axiom, sorry.
-/
import Derived.Test.YtckfedekpkgcdaaChecked
import GoSem.Claim
import GoSem.ClaimJoined
import GoSem.ClaimMapViews
import Derived.JoinedTies
import Derived.KernelRfl
namespace Go.Proofs.Ytckfedekpkgcdaa
/- THE CELL 'sum', in the pinned program and in every row, IS THE sha256 OF THE DUMP (.gsa) THAT YtckfedekpkgcdaaProg.lean LOADS. Nothing in Lean hashes anything: it is a label: what it is worth is what the hold of that sum in a sandbox is worth. -/
noncomputable def Try.pinned : Pinned := { name := "ytckfedekpkgcdaa", sum := "1986b44536a6573a8cbc7124a6e1c94b77c8e9b99c512df8c159510139b1a026", checked := Try.checked }
namespace Rows
def none {H : Type} : Left H := { results := [], args := [] }

/-- 'stackyardlaw14.GroupOrder': WHATEVER THE INPUT: true; the input reads as it did. -/
def groupOrderSpec : ChangeSpec := { name := "groupOrder", fn := fun _ => fun
  | [d1, d2] => { results := [.lit (.bool true)], args := [d1, d2] }
  | _ => none }
def groupOrderRow : OpenClaim := { program := "ytckfedekpkgcdaa", sum := "1986b44536a6573a8cbc7124a6e1c94b77c8e9b99c512df8c159510139b1a026", func := "stackyard/stackyardlaw14.GroupOrder", spec := "groupOrder", inPlace := ["internal/bytealg.abigen_runtime_cmpstring", "math/bits.Add64"], unfollowed := true, recurses := true, apart := false }
def GroupOrderSaid : Prop := groupOrderRow.holds Try.pinned (OpenSpec.ofChange groupOrderSpec)

/-- ITS FALSE NEIGHBOUR: 'it returns false'. Refute it at one input. -/
def groupOrderWrong : ChangeSpec := { name := "groupOrder", fn := fun _ => fun
  | [d1, d2] => { results := [.lit (.bool false)], args := [d1, d2] }
  | _ => none }
def GroupOrderWrongFalsely : Prop := groupOrderRow.holds Try.pinned (OpenSpec.ofChange groupOrderWrong)

/-- 'stackyardlaw14.GroupEnds': WHATEVER THE INPUT: true; the input reads as it did. -/
def groupEndsSpec : ChangeSpec := { name := "groupEnds", fn := fun _ => fun
  | [d] => { results := [.lit (.bool true)], args := [d] }
  | _ => none }
def groupEndsRow : OpenClaim := { program := "ytckfedekpkgcdaa", sum := "1986b44536a6573a8cbc7124a6e1c94b77c8e9b99c512df8c159510139b1a026", func := "stackyard/stackyardlaw14.GroupEnds", spec := "groupEnds", inPlace := ["internal/bytealg.abigen_runtime_cmpstring", "math/bits.Add64"], unfollowed := true, recurses := true, apart := false }
def GroupEndsSaid : Prop := groupEndsRow.holds Try.pinned (OpenSpec.ofChange groupEndsSpec)

/-- ITS FALSE NEIGHBOUR: 'it returns false'. Refute it at one input. -/
def groupEndsWrong : ChangeSpec := { name := "groupEnds", fn := fun _ => fun
  | [d] => { results := [.lit (.bool false)], args := [d] }
  | _ => none }
def GroupEndsWrongFalsely : Prop := groupEndsRow.holds Try.pinned (OpenSpec.ofChange groupEndsWrong)

/-- 'stackyardlaw14.GroupGathers': WHATEVER THE INPUT: true; the input reads as it did. -/
def groupGathersSpec : ChangeSpec := { name := "groupGathers", fn := fun _ => fun
  | [d1, d2] => { results := [.lit (.bool true)], args := [d1, d2] }
  | _ => none }
def groupGathersRow : OpenClaim := { program := "ytckfedekpkgcdaa", sum := "1986b44536a6573a8cbc7124a6e1c94b77c8e9b99c512df8c159510139b1a026", func := "stackyard/stackyardlaw14.GroupGathers", spec := "groupGathers", inPlace := ["internal/bytealg.abigen_runtime_cmpstring", "math/bits.Add64"], unfollowed := true, recurses := true, apart := false }
def GroupGathersSaid : Prop := groupGathersRow.holds Try.pinned (OpenSpec.ofChange groupGathersSpec)

/-- ITS FALSE NEIGHBOUR: 'it returns false'. Refute it at one input. -/
def groupGathersWrong : ChangeSpec := { name := "groupGathers", fn := fun _ => fun
  | [d1, d2] => { results := [.lit (.bool false)], args := [d1, d2] }
  | _ => none }
def GroupGathersWrongFalsely : Prop := groupGathersRow.holds Try.pinned (OpenSpec.ofChange groupGathersWrong)

/-- 'stackyardlaw14.GroupAll': WHATEVER THE INPUT: true; the input reads as it did. -/
def groupAllSpec : ChangeSpec := { name := "groupAll", fn := fun _ => fun
  | [d] => { results := [.lit (.bool true)], args := [d] }
  | _ => none }
def groupAllRow : OpenClaim := { program := "ytckfedekpkgcdaa", sum := "1986b44536a6573a8cbc7124a6e1c94b77c8e9b99c512df8c159510139b1a026", func := "stackyard/stackyardlaw14.GroupAll", spec := "groupAll", inPlace := ["internal/bytealg.abigen_runtime_cmpstring", "math/bits.Add64"], unfollowed := true, recurses := true, apart := false }
def GroupAllSaid : Prop := groupAllRow.holds Try.pinned (OpenSpec.ofChange groupAllSpec)

/-- ITS FALSE NEIGHBOUR: 'it returns false'. Refute it at one input. -/
def groupAllWrong : ChangeSpec := { name := "groupAll", fn := fun _ => fun
  | [d] => { results := [.lit (.bool false)], args := [d] }
  | _ => none }
def GroupAllWrongFalsely : Prop := groupAllRow.holds Try.pinned (OpenSpec.ofChange groupAllWrong)

/-- 'stackyardlaw14.GroupNone': WHATEVER THE INPUT: true; the input reads as it did. -/
def groupNoneSpec : ChangeSpec := { name := "groupNone", fn := fun _ => fun
  | [d] => { results := [.lit (.bool true)], args := [d] }
  | _ => none }
def groupNoneRow : OpenClaim := { program := "ytckfedekpkgcdaa", sum := "1986b44536a6573a8cbc7124a6e1c94b77c8e9b99c512df8c159510139b1a026", func := "stackyard/stackyardlaw14.GroupNone", spec := "groupNone", inPlace := ["internal/bytealg.abigen_runtime_cmpstring", "math/bits.Add64"], unfollowed := true, recurses := true, apart := false }
def GroupNoneSaid : Prop := groupNoneRow.holds Try.pinned (OpenSpec.ofChange groupNoneSpec)

/-- ITS FALSE NEIGHBOUR: 'it returns false'. Refute it at one input. -/
def groupNoneWrong : ChangeSpec := { name := "groupNone", fn := fun _ => fun
  | [d] => { results := [.lit (.bool false)], args := [d] }
  | _ => none }
def GroupNoneWrongFalsely : Prop := groupNoneRow.holds Try.pinned (OpenSpec.ofChange groupNoneWrong)

/-- 'stackyardlaw14.GroupOnce': WHATEVER THE INPUT: true; the input reads as it did. -/
def groupOnceSpec : ChangeSpec := { name := "groupOnce", fn := fun _ => fun
  | [d] => { results := [.lit (.bool true)], args := [d] }
  | _ => none }
def groupOnceRow : OpenClaim := { program := "ytckfedekpkgcdaa", sum := "1986b44536a6573a8cbc7124a6e1c94b77c8e9b99c512df8c159510139b1a026", func := "stackyard/stackyardlaw14.GroupOnce", spec := "groupOnce", inPlace := ["internal/bytealg.abigen_runtime_cmpstring", "math/bits.Add64"], unfollowed := true, recurses := true, apart := false }
def GroupOnceSaid : Prop := groupOnceRow.holds Try.pinned (OpenSpec.ofChange groupOnceSpec)

/-- ITS FALSE NEIGHBOUR: 'it returns false'. Refute it at one input. -/
def groupOnceWrong : ChangeSpec := { name := "groupOnce", fn := fun _ => fun
  | [d] => { results := [.lit (.bool false)], args := [d] }
  | _ => none }
def GroupOnceWrongFalsely : Prop := groupOnceRow.holds Try.pinned (OpenSpec.ofChange groupOnceWrong)

/- THE SECOND FORM. 'bulk': how many values and letters a reading holds, each counted each time it is reached (what is shared counts as often as it is met; a slice's spare places count too). A statement '..UptoSaid' is the law's where the arguments, and the package variables that the reading takes, are together of bulk at most 1048576: NARROWER than '..Said'. Prove '..Said' where nothing that the law and all that it calls make is longer than what came in: it says more and counts as full. Else prove '..UptoSaid'. A law counts once. -/
mutual
def uptoBulk {H : Type} : DataW H → Nat
  | .lit (.string bytes) => bytes.length + 1
  | .lit _ => 1
  | .nil => 1
  | .ptr d => uptoBulk d + 1
  | .slice elems spare => uptoBulkAll elems + uptoBulkAll spare + 1
  | .agg parts => uptoBulkAll parts + 1
  | .iface _ d => uptoBulk d + 1
  | .map entries => uptoBulkEntries entries + 1
  | .held _ => 1
def uptoBulkAll {H : Type} : List (DataW H) → Nat
  | [] => 0
  | d :: r => uptoBulk d + uptoBulkAll r
def uptoBulkEntries {H : Type} : List (Lit × DataW H) → Nat
  | [] => 0
  | x :: r => uptoBulkEntry x + uptoBulkEntries r
def uptoBulkEntry {H : Type} : Lit × DataW H → Nat
  | (.string bytes, d) => bytes.length + uptoBulk d + 1
  | (_, d) => uptoBulk d + 1
 end
def uptoSmall : (H : Type) → List (DataW H) → Bool := fun _ ds => decide (uptoBulkAll ds ≤ 1048576)
def OpenSpec.upto (s : _root_.Go.ChangeSpec) : _root_.Go.OpenSpec := { _root_.Go.OpenSpec.ofChange s with cond := some uptoSmall }

/-- 'stackyardlaw14.GroupOrder', WHERE WHAT IT READS IS OF BULK AT MOST 1048576: true; the input reads as it did. -/
def groupOrderUptoRow : OpenClaim := { program := "ytckfedekpkgcdaa", sum := "1986b44536a6573a8cbc7124a6e1c94b77c8e9b99c512df8c159510139b1a026", func := "stackyard/stackyardlaw14.GroupOrder", spec := "groupOrder", inPlace := ["internal/bytealg.abigen_runtime_cmpstring", "math/bits.Add64"], unfollowed := true, recurses := true, apart := false, narrowed := true }
def GroupOrderUptoSaid : Prop := groupOrderUptoRow.holds Try.pinned (OpenSpec.upto groupOrderSpec)

/-- 'stackyardlaw14.GroupEnds', WHERE WHAT IT READS IS OF BULK AT MOST 1048576: true; the input reads as it did. -/
def groupEndsUptoRow : OpenClaim := { program := "ytckfedekpkgcdaa", sum := "1986b44536a6573a8cbc7124a6e1c94b77c8e9b99c512df8c159510139b1a026", func := "stackyard/stackyardlaw14.GroupEnds", spec := "groupEnds", inPlace := ["internal/bytealg.abigen_runtime_cmpstring", "math/bits.Add64"], unfollowed := true, recurses := true, apart := false, narrowed := true }
def GroupEndsUptoSaid : Prop := groupEndsUptoRow.holds Try.pinned (OpenSpec.upto groupEndsSpec)

/-- 'stackyardlaw14.GroupGathers', WHERE WHAT IT READS IS OF BULK AT MOST 1048576: true; the input reads as it did. -/
def groupGathersUptoRow : OpenClaim := { program := "ytckfedekpkgcdaa", sum := "1986b44536a6573a8cbc7124a6e1c94b77c8e9b99c512df8c159510139b1a026", func := "stackyard/stackyardlaw14.GroupGathers", spec := "groupGathers", inPlace := ["internal/bytealg.abigen_runtime_cmpstring", "math/bits.Add64"], unfollowed := true, recurses := true, apart := false, narrowed := true }
def GroupGathersUptoSaid : Prop := groupGathersUptoRow.holds Try.pinned (OpenSpec.upto groupGathersSpec)

/-- 'stackyardlaw14.GroupAll', WHERE WHAT IT READS IS OF BULK AT MOST 1048576: true; the input reads as it did. -/
def groupAllUptoRow : OpenClaim := { program := "ytckfedekpkgcdaa", sum := "1986b44536a6573a8cbc7124a6e1c94b77c8e9b99c512df8c159510139b1a026", func := "stackyard/stackyardlaw14.GroupAll", spec := "groupAll", inPlace := ["internal/bytealg.abigen_runtime_cmpstring", "math/bits.Add64"], unfollowed := true, recurses := true, apart := false, narrowed := true }
def GroupAllUptoSaid : Prop := groupAllUptoRow.holds Try.pinned (OpenSpec.upto groupAllSpec)

/-- 'stackyardlaw14.GroupNone', WHERE WHAT IT READS IS OF BULK AT MOST 1048576: true; the input reads as it did. -/
def groupNoneUptoRow : OpenClaim := { program := "ytckfedekpkgcdaa", sum := "1986b44536a6573a8cbc7124a6e1c94b77c8e9b99c512df8c159510139b1a026", func := "stackyard/stackyardlaw14.GroupNone", spec := "groupNone", inPlace := ["internal/bytealg.abigen_runtime_cmpstring", "math/bits.Add64"], unfollowed := true, recurses := true, apart := false, narrowed := true }
def GroupNoneUptoSaid : Prop := groupNoneUptoRow.holds Try.pinned (OpenSpec.upto groupNoneSpec)

/-- 'stackyardlaw14.GroupOnce', WHERE WHAT IT READS IS OF BULK AT MOST 1048576: true; the input reads as it did. -/
def groupOnceUptoRow : OpenClaim := { program := "ytckfedekpkgcdaa", sum := "1986b44536a6573a8cbc7124a6e1c94b77c8e9b99c512df8c159510139b1a026", func := "stackyard/stackyardlaw14.GroupOnce", spec := "groupOnce", inPlace := ["internal/bytealg.abigen_runtime_cmpstring", "math/bits.Add64"], unfollowed := true, recurses := true, apart := false, narrowed := true }
def GroupOnceUptoSaid : Prop := groupOnceUptoRow.holds Try.pinned (OpenSpec.upto groupOnceSpec)

end Rows
end Go.Proofs.Ytckfedekpkgcdaa
