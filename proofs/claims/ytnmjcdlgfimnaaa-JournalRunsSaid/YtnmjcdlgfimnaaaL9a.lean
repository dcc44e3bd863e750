/- Chapter 9's statements: it is alive. -/
import Derived.Test.YtnmjcdlgfimnaaaS9i
import Derived.Test.YtnmjcdlgfimnaaaS9j
import Derived.Test.YtnmjcdlgfimnaaaS2
namespace Go.Proofs.Ytnmjcdlgfimnaaa
set_option linter.unusedSimpArgs false
set_option linter.unusedVariables false
set_option maxRecDepth 20000
attribute [local irreducible] Qb3 Qa9 vcA Qbp Wc
set_option maxHeartbeats 8000000
end Go.Proofs.Ytnmjcdlgfimnaaa
