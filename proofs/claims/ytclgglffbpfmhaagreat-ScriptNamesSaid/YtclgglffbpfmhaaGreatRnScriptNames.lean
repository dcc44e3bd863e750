/- The run of falsework/falseworklaw25.ScriptNames, reckoned by the kernel. -/
import Derived.Test.YtclgglffbpfmhaaGreatEl
import Derived.Test.YtclgglffbpfmhaaGreatEr
namespace Go.Proofs.YtclgglffbpfmhaaGreat
theorem runScriptNames : trueF Tryz.prog 10000000 7 = true := by kernel_rfl
end Go.Proofs.YtclgglffbpfmhaaGreat
