/- The run of falsework/falseworklaw02.ShareNames, reckoned by the kernel. -/
import Derived.Test.YtclgglffbpfmhaaEl
namespace Go.Proofs.Ytclgglffbpfmhaa
theorem runShareNames : trueE Try.prog 10000000 7 = true := by kernel_rfl
end Go.Proofs.Ytclgglffbpfmhaa
