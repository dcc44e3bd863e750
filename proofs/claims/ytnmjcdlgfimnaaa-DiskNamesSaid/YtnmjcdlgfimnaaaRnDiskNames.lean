/- The run of falsework/falseworklaw08.DiskNames, reckoned by the kernel. -/
import Derived.Test.YtnmjcdlgfimnaaaEl
namespace Go.Proofs.Ytnmjcdlgfimnaaa
theorem runDiskNames : trueE Try.prog 1000000 3 = true := by kernel_rfl
end Go.Proofs.Ytnmjcdlgfimnaaa
