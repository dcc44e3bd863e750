/- Chapter 9's statements: it is alive. -/
import Derived.Test.YtnmjcdlgfimnaaaS9i
import Derived.Test.YtnmjcdlgfimnaaaS9j
import Derived.Test.YtnmjcdlgfimnaaaS9m
namespace Go.Proofs.Ytnmjcdlgfimnaaa
set_option linter.unusedSimpArgs false
set_option linter.unusedVariables false
set_option maxRecDepth 20000
attribute [local irreducible] vcOps vcCode vcA vcSch Wc
set_option maxHeartbeats 8000000
end Go.Proofs.Ytnmjcdlgfimnaaa
