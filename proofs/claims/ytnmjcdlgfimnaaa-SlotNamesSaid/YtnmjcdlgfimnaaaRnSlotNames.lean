/- The run of falsework/falseworklaw11.SlotNames, reckoned by the kernel. -/
import Derived.Test.YtnmjcdlgfimnaaaEl
namespace Go.Proofs.Ytnmjcdlgfimnaaa
theorem runSlotNames : trueE Try.prog 10000000 14 = true := by kernel_rfl
end Go.Proofs.Ytnmjcdlgfimnaaa
