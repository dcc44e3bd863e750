/- The run of falsework/falseworklaw18.RegisterNames, reckoned by the kernel. -/
import Derived.Test.YtclgglffbpfmhaaEl
namespace Go.Proofs.Ytclgglffbpfmhaa
theorem runRegisterNames : trueE Try.prog 10000000 9 = true := by kernel_rfl
end Go.Proofs.Ytclgglffbpfmhaa
