/- The sanity check of the zone laws: run by the kernel. Own work. -/
import Derived.Test.YtdehanhonfbdpaaBase
namespace Go.AM.X
open Go Go.AM Go.Proofs Go.AM.Sx
theorem first12 : isT (call F noI T 60 12 [] e0) = true := by kernel_rfl
end Go.AM.X
