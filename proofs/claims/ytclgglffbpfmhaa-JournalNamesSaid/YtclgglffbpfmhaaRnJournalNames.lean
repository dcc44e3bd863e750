/- The run of falsework/falseworklaw12.JournalNames, reckoned by the kernel. -/
import Derived.Test.YtclgglffbpfmhaaEl
import Derived.Test.YtclgglffbpfmhaaEr
namespace Go.Proofs.Ytclgglffbpfmhaa
theorem runJournalNames : trueF Try.prog 10000000 8 = true := by kernel_rfl
end Go.Proofs.Ytclgglffbpfmhaa
