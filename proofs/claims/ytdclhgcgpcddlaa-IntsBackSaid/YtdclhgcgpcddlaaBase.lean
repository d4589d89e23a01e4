/- The seat's program by its name, and the one fact that the generator asks of it. -/
import Derived.Test.YtdclhgcgpcddlaaVcF
import Derived.Test.YtdclhgcgpcddlaaProg
namespace Go.Proofs.Ytdclhgcgpcddlaa
open Go Go.Vc
theorem Try.mixed : Try.prog.follows .mixedOrders = true := by kernel_rfl
end Go.Proofs.Ytdclhgcgpcddlaa
