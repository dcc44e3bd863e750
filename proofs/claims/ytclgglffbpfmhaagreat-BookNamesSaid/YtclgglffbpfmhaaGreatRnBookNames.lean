/- The run of falsework/falseworklaw23.BookNames, reckoned by the kernel. -/
import Derived.Test.YtclgglffbpfmhaaGreatEl
import Derived.Test.YtclgglffbpfmhaaGreatEr
namespace Go.Proofs.YtclgglffbpfmhaaGreat
theorem runBookNames : trueF Tryz.prog 10000000 5 = true := by kernel_rfl
end Go.Proofs.YtclgglffbpfmhaaGreat
