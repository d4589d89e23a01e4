/- In which order rows come makes no difference to what a group gathers; what is handed in is of bulk at most 1048576.
  The shell was written by a small program of ours, after the kit's worked shells. -/
import Derived.Test.YtckfedekpkgcdaaMd
import Derived.Test.YtckfedekpkgcdaaRows
import Derived.WalkKit
import Derived.ProofKit
import Derived.OpenShut
import Derived.ShutString
import Derived.ChangeOld
import Derived.Below
import Derived.SizedLaws
import Derived.Deep.CondSized
namespace Go.Proofs.Ytckfedekpkgcdaa.groupOrder
open Go.ChangeShapes Go.WideShapes Go.ChangeAt Go.RowKit
set_option linter.unusedVariables false

theorem own : ownKnob Try.prog.godebug = none := by kernel_rfl
theorem laidOut : laidOutB Try.prog = true := by kernel_rfl

set_option maxRecDepth 100000 in
theorem lifted (os : Os) (started : os.Started) (H : Type) (enc : TypeId × Value → H) (F : Stop.Interp) :
    ReturnsInHanded {} Try.checked os 3 .any ((Rows.OpenSpec.upto Rows.groupOrderSpec).pre6 enc Try.prog Try.f3 Rows.groupOrderUptoRow.domain false) (((Rows.OpenSpec.upto Rows.groupOrderSpec).at F).post enc Try.prog Try.f3 false true false false) := by
  refine returnsInHanded_of_cond_sized (C := Try.checked) (s := Rows.OpenSpec.upto Rows.groupOrderSpec) (k := Rows.uptoSmall) rfl own started (by kernel_rfl) Try.func3
    (OpenSpec.witness (enc := enc) (C := Try.checked) (s := Rows.OpenSpec.upto Rows.groupOrderSpec) (k := Rows.uptoSmall) rfl false ⟨#[], #[.slice none 0 0, .slice none 0 0], []⟩ 12 (by kernel_rfl) (by kernel_rfl) (by kernel_rfl) (x := ([.nil, .nil], [], [])) (by kernel_rfl) rfl (by kernel_rfl)) ?_
  intro W base args ds gs before hval0 hW hcnd hk hsz0 _
  have hval : ∀ (j : Nat) t v, Try.f3.params[j]? = some t → args[j]? = some v → Value.okWide Try.prog W .any base t v := hval0
  have hsz : (DataW.weightsEach Try.prog (Try.f3.params.toList ++ Rows.groupOrderSpec.plain.varTypes Try.prog) (ds ++ gs)).all (· ≤ reachBytes) = true := hsz0
  have hW' := hW
  obtain ⟨p, q, hA0, hV, rfl, hfz, hnd⟩ := hW
  have hA : DataW.TrodAll enc Try.prog W 0 (fun _ => true) true Try.f3.params.toList args.toList ds p := hA0
  rw [Try.params3] at hA hval hsz
  obtain ⟨v0, vs0, d0, ds0, p0, q0, hargs, rfl, rfl, h0, r0⟩ := trodAll_cons hA
  obtain ⟨v1, vs1, d1, ds1, p1, q1, rfl, rfl, rfl, h1, r1⟩ := trodAll_cons r0
  obtain ⟨rfl, rfl, rfl⟩ := trodAll_nil r1
  obtain rfl : args = #[v0, v1] := by cases args; simp_all
  obtain ⟨rfl, rfl⟩ := trodVars_none hV
  have lt0 : ∀ x ∈ p0, x.block < W.heap.size := by obtain ⟨m, hm⟩ := h0; exact DataW.trod_lt m _ _ _ hm
  have a0 := Go.Vc.Arg.of h0 hsz (j := 0) rfl rfl
  rw [Go.Vc.plain_cells (by kernel_rfl) (hval 0 22 v0 rfl rfl) (by rw [Try.underlying22]; simp)] at a0
  have lt1 : ∀ x ∈ p1, x.block < W.heap.size := by obtain ⟨m, hm⟩ := h1; exact DataW.trod_lt m _ _ _ hm
  have a1 := Go.Vc.Arg.of h1 hsz (j := 1) rfl rfl
  rw [Go.Vc.plain_cells (by kernel_rfl) (hval 1 23 v1 rfl rfl) (by rw [Try.underlying23]; simp)] at a1
  have hbulk : Rows.uptoBulkAll ([d0, d1] ++ []) ≤ 1048576 := by have := of_decide_eq_true hk; simpa using this
  simp only [List.append_nil, Rows.uptoBulkAll] at hbulk
  have b1 : ∀ p n c, v1 = .slice p n c → Go.Proofs.Ytckfedekpkgcdaa.Bulk W 23 [.slice p n c] := by
    rintro p n c rfl
    obtain ⟨m, hm⟩ := h1
    exact ⟨_, _, m, _, _, hm, by omega⟩
  clear hA0 hval0 hsz0
  refine (order_walk W v0 v1 a0 a1 b1).mono fun e W' ⟨he, ext⟩ => ?_
  subst he
  have bel : Below W.heap.size W W' := ext
  exact ⟨_, rfl, _, _, _, [], _, [], hW', trodAll_mk1 (shut_bool Try.underlying4 _), (trodAll_cons_mk (Below.trod laidOut (by kernel_rfl) (of_decide_eq_true (by kernel_rfl)) h0 bel lt0) (trodAll_cons_mk (Below.trod laidOut (by kernel_rfl) (of_decide_eq_true (by kernel_rfl)) h1 bel lt1) trodAll_mk0)), rfl, bel.frame _, fun h => by cases h⟩

set_option maxRecDepth 100000 in
theorem closed : joinedFacts Try.prog 3 Try.f3 (Rows.OpenSpec.upto Rows.groupOrderSpec).bare Rows.groupOrderUptoRow = true := by
  unfold joinedFacts
  rw [Try.enters.1, Try.enters.2.1, Try.enters.2.2]
  kernel_rfl

set_option maxRecDepth 100000 in
theorem over : Rows.groupOrderUptoRow.holds Try.pinned (Rows.OpenSpec.upto Rows.groupOrderSpec) :=
  OpenClaim.holds_of_cond 3 Try.f3 rfl rfl rfl rfl rfl rfl rfl ⟨rfl, rfl, rfl, rfl, rfl⟩ rfl rfl rfl rfl rfl (by kernel_rfl) Try.func3 closed
    (of_decide_eq_true (by kernel_rfl)) (by unfold Func.isWrapper; first | (rw [if_pos (by decide +kernel)]; kernel_rfl) | (rw [if_neg (by decide +kernel)]; exact ⟨rfl, rfl⟩))
    (fun os started H enc _ F => lifted os started H enc F)

/-- The statement. -/
theorem proved : Rows.GroupOrderUptoSaid := over
#print axioms proved
end Go.Proofs.Ytckfedekpkgcdaa.groupOrder
