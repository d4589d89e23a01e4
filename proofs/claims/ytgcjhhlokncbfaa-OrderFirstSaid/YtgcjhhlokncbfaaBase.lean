/- The seat's program by its name, and the one fact that the generator asks of it. -/
import Derived.Test.YtgcjhhlokncbfaaVcF
import Derived.Test.YtgcjhhlokncbfaaProg
namespace Go.Proofs.Ytgcjhhlokncbfaa
open Go Go.Vc
theorem Try.mixed : Try.prog.follows .mixedOrders = true := by kernel_rfl
end Go.Proofs.Ytgcjhhlokncbfaa
