/- The seat's program by its name, and the one fact that the generator asks of it. -/
import Derived.Test.YtdephmdfdgclpaaDoorVcF
import Derived.Test.YtdephmdfdgclpaaDoorProg
namespace Go.Proofs.YtdephmdfdgclpaaDoor
open Go Go.Vc
theorem Tryd.mixed : Tryd.prog.follows .mixedOrders = true := by kernel_rfl
end Go.Proofs.YtdephmdfdgclpaaDoor
