/- Chapter 9: bytes as sectors with a stamp, as the document has them. -/
import Derived.Test.YtnmjcdlgfimnaaaS9p
import Derived.Test.YtnmjcdlgfimnaaaA7
namespace Go.Proofs.Ytnmjcdlgfimnaaa
set_option linter.unusedSimpArgs false
set_option linter.unusedVariables false
set_option maxRecDepth 20000
attribute [local irreducible] vcOps vcCode vcA vcSch Wc
set_option maxHeartbeats 8000000
end Go.Proofs.Ytnmjcdlgfimnaaa
