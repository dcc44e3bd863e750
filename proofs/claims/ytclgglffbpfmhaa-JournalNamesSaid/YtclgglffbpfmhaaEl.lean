/- The evaluator over this seat's program. -/
import Derived.Test.YtclgglffbpfmhaaEk
import Derived.Test.YtclgglffbpfmhaaProg
namespace Go.Proofs.Ytclgglffbpfmhaa
def namedB (P : Program) : Bool := P.funcs.toList.all fun fn => fn.body.isNone || !(fn.name == "runtime.NumGoroutine")
theorem named_of {P : Program} (h : namedB P = true) : Named P := by
  intro g fn hg hb
  have := List.all_eq_true.1 h fn (by simpa using Array.mem_of_getElem? hg)
  simpa [hb] using this
theorem named : Named Try.prog := named_of (by kernel_rfl)
theorem mixed : Try.prog.follows .mixedOrders = true := by kernel_rfl
end Go.Proofs.Ytclgglffbpfmhaa
