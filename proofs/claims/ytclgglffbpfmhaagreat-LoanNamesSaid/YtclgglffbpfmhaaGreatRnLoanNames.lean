/- The run of falsework/falseworklaw21.LoanNames, reckoned by the kernel. -/
import Derived.Test.YtclgglffbpfmhaaGreatEl
namespace Go.Proofs.YtclgglffbpfmhaaGreat
theorem runLoanNames : trueE Tryz.prog 10000000 3 = true := by kernel_rfl
end Go.Proofs.YtclgglffbpfmhaaGreat
