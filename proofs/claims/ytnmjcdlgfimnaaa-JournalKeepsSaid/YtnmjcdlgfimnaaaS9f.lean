/- Chapter 9: bytes put over sectors: the document's and the code's. -/
import Derived.Test.YtnmjcdlgfimnaaaS9q
import Derived.Test.YtnmjcdlgfimnaaaS9d
import Derived.Test.YtnmjcdlgfimnaaaS9e
import Derived.Test.YtnmjcdlgfimnaaaB2
namespace Go.Proofs.Ytnmjcdlgfimnaaa
set_option linter.unusedSimpArgs false
set_option linter.unusedVariables false
set_option maxRecDepth 20000
attribute [local irreducible] vcOps vcCode vcA vcSch Wc
set_option maxHeartbeats 8000000
end Go.Proofs.Ytnmjcdlgfimnaaa
