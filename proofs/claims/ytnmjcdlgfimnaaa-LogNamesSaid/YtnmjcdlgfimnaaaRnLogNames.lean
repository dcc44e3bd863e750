/- The run of falsework/falseworklaw10.LogNames, reckoned by the kernel. -/
import Derived.Test.YtnmjcdlgfimnaaaEl
namespace Go.Proofs.Ytnmjcdlgfimnaaa
theorem runLogNames : trueE Try.prog 10000000 12 = true := by kernel_rfl
end Go.Proofs.Ytnmjcdlgfimnaaa
