/- WireBack, the second form: what was laid is taken as it was, whatever stands ahead and behind, where what comes in is of bulk at most a million.
  The shell was written by a small program of ours, after the kit's worked shells. -/
import Derived.Test.YtdclhgcgpcddlaaRows
import Derived.Test.YtdclhgcgpcddlaaBack2
import Derived.Test.YtdclhgcgpcddlaaOpen
import Derived.Test.YtdclhgcgpcddlaaFacts
import Derived.WalkKit
import Derived.ProofKit
import Derived.OpenShut
import Derived.ShutString
import Derived.ChangeOld
import Derived.Below
import Derived.SizedLaws
import Derived.Deep.CondSized
namespace Go.Proofs.Ytdclhgcgpcddlaa.wireBack
open Go.ChangeShapes Go.WideShapes Go.ChangeAt Go.RowKit
set_option linter.unusedVariables false

theorem own : ownKnob Try.prog.godebug = none := by kernel_rfl
theorem laidOut : laidOutB Try.prog = true := by kernel_rfl

set_option maxRecDepth 100000 in
theorem lifted (os : Os) (started : os.Started) (H : Type) (enc : TypeId × Value → H) (F : Stop.Interp) :
    ReturnsInHanded {} Try.checked os 15 .any ((Rows.OpenSpec.upto Rows.wireBackSpec).pre6 enc Try.prog Try.f15 Rows.wireBackUptoRow.domain false) (((Rows.OpenSpec.upto Rows.wireBackSpec).at F).post enc Try.prog Try.f15 false true false false) := by
  refine returnsInHanded_of_cond_sized (C := Try.checked) (s := Rows.OpenSpec.upto Rows.wireBackSpec) (k := Rows.uptoSmall) rfl own started (by kernel_rfl) Try.func15
    (OpenSpec.witness (enc := enc) (C := Try.checked) (s := Rows.OpenSpec.upto Rows.wireBackSpec) (k := Rows.uptoSmall) rfl false ⟨#[], #[.slice none 0 0, .int .u64 0, .int .i64 0, .string ⟨#[]⟩, .slice none 0 0], []⟩ 12 (by kernel_rfl) (by kernel_rfl) (by kernel_rfl) (x := ([.nil, .lit (.int .u64 0), .lit (.int .i64 0), .lit (.string []), .nil], [], [])) (by kernel_rfl) rfl (by kernel_rfl)) ?_
  intro W base args ds gs before hval0 hW hcnd hk hsz0 _
  have hval : ∀ (j : Nat) t v, Try.f15.params[j]? = some t → args[j]? = some v → Value.okWide Try.prog W .any base t v := hval0
  have hsz : (DataW.weightsEach Try.prog (Try.f15.params.toList ++ Rows.wireBackSpec.plain.varTypes Try.prog) (ds ++ gs)).all (· ≤ reachBytes) = true := hsz0
  have hW' := hW
  obtain ⟨p, q, hA0, hV, rfl, hfz, hnd⟩ := hW
  have hA : DataW.TrodAll enc Try.prog W 0 (fun _ => true) true Try.f15.params.toList args.toList ds p := hA0
  rw [Try.params15] at hA hval hsz
  obtain ⟨v0, vs0, d0, ds0, p0, q0, hargs, rfl, rfl, h0, r0⟩ := trodAll_cons hA
  obtain ⟨v1, vs1, d1, ds1, p1, q1, rfl, rfl, rfl, h1, r1⟩ := trodAll_cons r0
  obtain ⟨v2, vs2, d2, ds2, p2, q2, rfl, rfl, rfl, h2, r2⟩ := trodAll_cons r1
  obtain ⟨v3, vs3, d3, ds3, p3, q3, rfl, rfl, rfl, h3, r3⟩ := trodAll_cons r2
  obtain ⟨v4, vs4, d4, ds4, p4, q4, rfl, rfl, rfl, h4, r4⟩ := trodAll_cons r3
  obtain ⟨rfl, rfl, rfl⟩ := trodAll_nil r4
  obtain rfl : args = #[v0, v1, v2, v3, v4] := by cases args; simp_all
  obtain ⟨rfl, rfl⟩ := trodVars_none hV
  have lt0 : ∀ x ∈ p0, x.block < W.heap.size := by obtain ⟨m, hm⟩ := h0; exact DataW.trod_lt m _ _ _ hm
  have a0 := Go.Vc.Arg.of h0 hsz (j := 0) rfl rfl
  rw [Go.Vc.plain_cells (by kernel_rfl) (hval 0 30 v0 rfl rfl) (by rw [Try.underlying30]; simp)] at a0
  have lt1 : ∀ x ∈ p1, x.block < W.heap.size := by obtain ⟨m, hm⟩ := h1; exact DataW.trod_lt m _ _ _ hm
  have a1 := Go.Vc.Arg.of h1 hsz (j := 1) rfl rfl
  rw [Go.Vc.plain_cells (by kernel_rfl) (hval 1 48 v1 rfl rfl) (by rw [Try.underlying48]; simp)] at a1
  have lt2 : ∀ x ∈ p2, x.block < W.heap.size := by obtain ⟨m, hm⟩ := h2; exact DataW.trod_lt m _ _ _ hm
  have a2 := Go.Vc.Arg.of h2 hsz (j := 2) rfl rfl
  rw [Go.Vc.plain_cells (by kernel_rfl) (hval 2 2 v2 rfl rfl) (by rw [Try.underlying2]; simp)] at a2
  have lt3 : ∀ x ∈ p3, x.block < W.heap.size := by obtain ⟨m, hm⟩ := h3; exact DataW.trod_lt m _ _ _ hm
  have a3 := Go.Vc.Arg.of h3 hsz (j := 3) rfl rfl
  rw [Go.Vc.plain_cells (by kernel_rfl) (hval 3 9 v3 rfl rfl) (by rw [Try.underlying9]; simp)] at a3
  have lt4 : ∀ x ∈ p4, x.block < W.heap.size := by obtain ⟨m, hm⟩ := h4; exact DataW.trod_lt m _ _ _ hm
  have a4 := Go.Vc.Arg.of h4 hsz (j := 4) rfl rfl
  rw [Go.Vc.plain_cells (by kernel_rfl) (hval 4 30 v4 rfl rfl) (by rw [Try.underlying30]; simp)] at a4
  have hbulk : Rows.uptoBulkAll ([d0, d1, d2, d3, d4] ++ []) ≤ 1048576 := by have := of_decide_eq_true hk; simpa using this
  simp only [List.append_nil, Rows.uptoBulkAll] at hbulk
  have b0 : ∀ p n c, v0 = .slice p n c → n ≤ 1048576 := by
    rintro p n c rfl
    obtain ⟨m, hm⟩ := h0
    have := slice_bulk Try.underlying30 hm
    omega
  have b4 : ∀ p n c, v4 = .slice p n c → n ≤ 1048576 := by
    rintro p n c rfl
    obtain ⟨m, hm⟩ := h4
    have := slice_bulk Try.underlying30 hm
    omega
  clear hA0 hval0 hsz0
  refine (back_walk W v0 v1 v2 v3 v4 a0 a1 a2 a3 a4 b0 b4).mono fun e W' ⟨he, ext⟩ => ?_
  subst he
  have bel : Below W.heap.size W W' := ext
  exact ⟨_, rfl, _, _, _, [], _, [], hW', trodAll_mk1 (shut_bool Try.underlying4 _), (trodAll_cons_mk (Below.trod laidOut (by kernel_rfl) (of_decide_eq_true (by kernel_rfl)) h0 bel lt0) (trodAll_cons_mk (Below.trod laidOut (by kernel_rfl) (of_decide_eq_true (by kernel_rfl)) h1 bel lt1) (trodAll_cons_mk (Below.trod laidOut (by kernel_rfl) (of_decide_eq_true (by kernel_rfl)) h2 bel lt2) (trodAll_cons_mk (Below.trod laidOut (by kernel_rfl) (of_decide_eq_true (by kernel_rfl)) h3 bel lt3) (trodAll_cons_mk (Below.trod laidOut (by kernel_rfl) (of_decide_eq_true (by kernel_rfl)) h4 bel lt4) trodAll_mk0))))), rfl, bel.frame _, fun h => by cases h⟩

set_option maxRecDepth 100000 in
theorem closed : joinedFacts Try.prog 15 Try.f15 (Rows.OpenSpec.upto Rows.wireBackSpec).bare Rows.wireBackUptoRow = true := by
  unfold joinedFacts
  rw [Try.enters.1, Try.enters.2.1, Try.enters.2.2]
  kernel_rfl

set_option maxRecDepth 100000 in
theorem over : Rows.wireBackUptoRow.holds Try.pinned (Rows.OpenSpec.upto Rows.wireBackSpec) :=
  OpenClaim.holds_of_cond 15 Try.f15 rfl rfl rfl rfl rfl rfl rfl ⟨rfl, rfl, rfl, rfl, rfl⟩ rfl rfl rfl rfl rfl (by kernel_rfl) Try.func15 closed
    (of_decide_eq_true (by kernel_rfl)) (by unfold Func.isWrapper; first | (rw [if_pos (by decide +kernel)]; kernel_rfl) | (rw [if_neg (by decide +kernel)]; exact ⟨rfl, rfl⟩))
    (fun os started H enc _ F => lifted os started H enc F)

/-- The statement. -/
theorem proved : Rows.WireBackUptoSaid := over
#print axioms proved
end Go.Proofs.Ytdclhgcgpcddlaa.wireBack
