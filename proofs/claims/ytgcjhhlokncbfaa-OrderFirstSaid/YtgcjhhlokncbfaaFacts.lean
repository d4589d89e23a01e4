/- Three closed facts of the seat's program, asked once: they want much memory. -/
import Derived.Test.YtgcjhhlokncbfaaRows
import Derived.JoinedOf
namespace Go.Proofs.Ytgcjhhlokncbfaa
set_option maxRecDepth 100000 in
theorem Try.entersB : (Try.prog.mayEnter && (false == Try.prog.liftsFinal) && (Try.prog.make == some .cut)) = true := by kernel_rfl
theorem Try.enters : Try.prog.mayEnter = true ∧ Try.prog.liftsFinal = false ∧ Try.prog.make = some .cut := by
  have h := Try.entersB
  simp only [Bool.and_eq_true, beq_iff_eq] at h
  exact ⟨h.1.1, h.1.2.symm, h.2⟩
end Go.Proofs.Ytgcjhhlokncbfaa
