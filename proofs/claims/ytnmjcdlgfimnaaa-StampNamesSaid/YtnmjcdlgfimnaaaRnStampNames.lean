/- The run of falsework/falseworklaw09.StampNames, reckoned by the kernel. -/
import Derived.Test.YtnmjcdlgfimnaaaEl
namespace Go.Proofs.Ytnmjcdlgfimnaaa
theorem runStampNames : trueE Try.prog 10000000 8 = true := by kernel_rfl
end Go.Proofs.Ytnmjcdlgfimnaaa
