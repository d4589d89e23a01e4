/- Three closed facts of the seat's program, asked once: they want much memory. -/
import Derived.Test.YtdephmdfdgclpaaDoorRows
import Derived.JoinedOf
namespace Go.Proofs.YtdephmdfdgclpaaDoor
set_option maxRecDepth 100000 in
theorem Tryd.entersB : (Tryd.prog.mayEnter && (false == Tryd.prog.liftsFinal) && (Tryd.prog.make == some .cut)) = true := by kernel_rfl
theorem Tryd.enters : Tryd.prog.mayEnter = true ∧ Tryd.prog.liftsFinal = false ∧ Tryd.prog.make = some .cut := by
  have h := Tryd.entersB
  simp only [Bool.and_eq_true, beq_iff_eq] at h
  exact ⟨h.1.1, h.1.2.symm, h.2⟩
end Go.Proofs.YtdephmdfdgclpaaDoor
