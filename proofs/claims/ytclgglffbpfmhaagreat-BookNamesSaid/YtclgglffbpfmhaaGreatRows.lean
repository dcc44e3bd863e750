/-
  No cell of these rows narrows 'for every input' (looked for: loops, veiled, ifaces, maps, wideKeys, modest, calm, conditions, laid).
  DERIVED. THE GIVEN ROWS OF THIS SEAT. 5 by the template 'for every input the law returns true; each argument reads behind the call as it read before'; 0 by the template 'total and deterministic' (their statements: YtclgglffbpfmhaaGreatTotals.lean).
  GIVEN WITH THE SEED: the statements are not yours to turn. If you find one false, say at which input.
  Laid BY PROGRAM, IN A SANDBOX (cutbox-rows.mjs): the forced cells as the released guide's own fill.sh prints them over the translation 2013ae6c32cfa505… (all of the seat's roots in one cut). By AI agents, Wed Nov 11 2026. No macro, syntax, notation, axiom, sorry.
-/
import Derived.Test.YtclgglffbpfmhaaGreatChecked
import GoSem.Claim
import GoSem.ClaimJoined
import GoSem.ClaimMapViews
import Derived.JoinedTies
import Derived.KernelRfl
namespace Go.Proofs.YtclgglffbpfmhaaGreat
/- THE CELL 'sum', in the pinned program and in every row, IS THE sha256 OF THE DUMP (.gsa) THAT YtclgglffbpfmhaaGreatProg.lean LOADS. Nothing in Lean hashes anything: it is a label: what it is worth is what the hold of that sum in a sandbox is worth. -/
noncomputable def Tryz.pinned : Pinned := { name := "ytclgglffbpfmhaagreat", sum := "2013ae6c32cfa505c68589ef1c7d6d8da0c70a1570cec14c4c133f932d5d07cf", checked := Tryz.checked }
namespace Rows
def none {H : Type} : Left H := { results := [], args := [] }

/-- 'falseworklaw21.LoanNames': WHATEVER THE INPUT: true; the input reads as it did. -/
def loanNamesSpec : ChangeSpec := { name := "loanNames", fn := fun _ => fun
  | [] => { results := [.lit (.bool true)], args := [] }
  | _ => none }
def loanNamesRow : OpenClaim := { program := "ytclgglffbpfmhaagreat", sum := "2013ae6c32cfa505c68589ef1c7d6d8da0c70a1570cec14c4c133f932d5d07cf", func := "falsework/falseworklaw21.LoanNames", spec := "loanNames", inPlace := ["math/bits.Add64", "slices.overlaps[falsework/api.Holder]"], unfollowed := true, recurses := true, named := ["math/bits.divideError", "math/bits.overflowError"], apart := false }
def LoanNamesSaid : Prop := loanNamesRow.holds Tryz.pinned (OpenSpec.ofChange loanNamesSpec)

/-- ITS FALSE NEIGHBOUR: 'it returns false'. Refute it at one input. -/
def loanNamesWrong : ChangeSpec := { name := "loanNames", fn := fun _ => fun
  | [] => { results := [.lit (.bool false)], args := [] }
  | _ => none }
def LoanNamesWrongFalsely : Prop := loanNamesRow.holds Tryz.pinned (OpenSpec.ofChange loanNamesWrong)

/-- 'falseworklaw26.PastNames': WHATEVER THE INPUT: true; the input reads as it did. -/
def pastNamesSpec : ChangeSpec := { name := "pastNames", fn := fun _ => fun
  | [] => { results := [.lit (.bool true)], args := [] }
  | _ => none }
def pastNamesRow : OpenClaim := { program := "ytclgglffbpfmhaagreat", sum := "2013ae6c32cfa505c68589ef1c7d6d8da0c70a1570cec14c4c133f932d5d07cf", func := "falsework/falseworklaw26.PastNames", spec := "pastNames", inPlace := ["math/bits.Add64", "slices.overlaps[falsework/api.Holder]"], unfollowed := true, recurses := true, named := ["math/bits.divideError", "math/bits.overflowError"], apart := false }
def PastNamesSaid : Prop := pastNamesRow.holds Tryz.pinned (OpenSpec.ofChange pastNamesSpec)

/-- ITS FALSE NEIGHBOUR: 'it returns false'. Refute it at one input. -/
def pastNamesWrong : ChangeSpec := { name := "pastNames", fn := fun _ => fun
  | [] => { results := [.lit (.bool false)], args := [] }
  | _ => none }
def PastNamesWrongFalsely : Prop := pastNamesRow.holds Tryz.pinned (OpenSpec.ofChange pastNamesWrong)

/-- 'falseworklaw23.BookNames': WHATEVER THE INPUT: true; the input reads as it did. -/
def bookNamesSpec : ChangeSpec := { name := "bookNames", fn := fun _ => fun
  | [] => { results := [.lit (.bool true)], args := [] }
  | _ => none }
def bookNamesRow : OpenClaim := { program := "ytclgglffbpfmhaagreat", sum := "2013ae6c32cfa505c68589ef1c7d6d8da0c70a1570cec14c4c133f932d5d07cf", func := "falsework/falseworklaw23.BookNames", spec := "bookNames", inPlace := ["math/bits.Add64", "slices.overlaps[falsework/api.Holder]"], unfollowed := true, recurses := true, named := ["math/bits.divideError", "math/bits.overflowError"], apart := false }
def BookNamesSaid : Prop := bookNamesRow.holds Tryz.pinned (OpenSpec.ofChange bookNamesSpec)

/-- ITS FALSE NEIGHBOUR: 'it returns false'. Refute it at one input. -/
def bookNamesWrong : ChangeSpec := { name := "bookNames", fn := fun _ => fun
  | [] => { results := [.lit (.bool false)], args := [] }
  | _ => none }
def BookNamesWrongFalsely : Prop := bookNamesRow.holds Tryz.pinned (OpenSpec.ofChange bookNamesWrong)

/-- 'falseworklaw24.ServicerNames': WHATEVER THE INPUT: true; the input reads as it did. -/
def servicerNamesSpec : ChangeSpec := { name := "servicerNames", fn := fun _ => fun
  | [] => { results := [.lit (.bool true)], args := [] }
  | _ => none }
def servicerNamesRow : OpenClaim := { program := "ytclgglffbpfmhaagreat", sum := "2013ae6c32cfa505c68589ef1c7d6d8da0c70a1570cec14c4c133f932d5d07cf", func := "falsework/falseworklaw24.ServicerNames", spec := "servicerNames", inPlace := ["math/bits.Add64", "slices.overlaps[falsework/api.Holder]"], unfollowed := true, recurses := true, named := ["math/bits.divideError", "math/bits.overflowError"], apart := false }
def ServicerNamesSaid : Prop := servicerNamesRow.holds Tryz.pinned (OpenSpec.ofChange servicerNamesSpec)

/-- ITS FALSE NEIGHBOUR: 'it returns false'. Refute it at one input. -/
def servicerNamesWrong : ChangeSpec := { name := "servicerNames", fn := fun _ => fun
  | [] => { results := [.lit (.bool false)], args := [] }
  | _ => none }
def ServicerNamesWrongFalsely : Prop := servicerNamesRow.holds Tryz.pinned (OpenSpec.ofChange servicerNamesWrong)

/-- 'falseworklaw25.ScriptNames': WHATEVER THE INPUT: true; the input reads as it did. -/
def scriptNamesSpec : ChangeSpec := { name := "scriptNames", fn := fun _ => fun
  | [] => { results := [.lit (.bool true)], args := [] }
  | _ => none }
def scriptNamesRow : OpenClaim := { program := "ytclgglffbpfmhaagreat", sum := "2013ae6c32cfa505c68589ef1c7d6d8da0c70a1570cec14c4c133f932d5d07cf", func := "falsework/falseworklaw25.ScriptNames", spec := "scriptNames", inPlace := ["math/bits.Add64", "slices.overlaps[falsework/api.Holder]"], unfollowed := true, recurses := true, named := ["math/bits.divideError", "math/bits.overflowError"], apart := false }
def ScriptNamesSaid : Prop := scriptNamesRow.holds Tryz.pinned (OpenSpec.ofChange scriptNamesSpec)

/-- ITS FALSE NEIGHBOUR: 'it returns false'. Refute it at one input. -/
def scriptNamesWrong : ChangeSpec := { name := "scriptNames", fn := fun _ => fun
  | [] => { results := [.lit (.bool false)], args := [] }
  | _ => none }
def ScriptNamesWrongFalsely : Prop := scriptNamesRow.holds Tryz.pinned (OpenSpec.ofChange scriptNamesWrong)

/- THE SECOND FORM. 'bulk': how many values and letters a reading holds, each counted each time it is reached (what is shared counts as often as it is met; a slice's spare places count too). A statement '..UptoSaid' is the law's where the arguments, and the package variables that the reading takes, are together of bulk at most 1048576: NARROWER than '..Said'. Prove '..Said' where nothing that the law and all that it calls make is longer than what came in: it says more and counts as full. Else prove '..UptoSaid'. A law counts once. -/
mutual
def uptoBulk {H : Type} : DataW H → Nat
  | .lit (.string bytes) => bytes.length + 1
  | .lit _ => 1
  | .nil => 1
  | .ptr d => uptoBulk d + 1
  | .slice elems spare => uptoBulkAll elems + uptoBulkAll spare + 1
  | .agg parts => uptoBulkAll parts + 1
  | .iface _ d => uptoBulk d + 1
  | .map entries => uptoBulkEntries entries + 1
  | .held _ => 1
def uptoBulkAll {H : Type} : List (DataW H) → Nat
  | [] => 0
  | d :: r => uptoBulk d + uptoBulkAll r
def uptoBulkEntries {H : Type} : List (Lit × DataW H) → Nat
  | [] => 0
  | x :: r => uptoBulkEntry x + uptoBulkEntries r
def uptoBulkEntry {H : Type} : Lit × DataW H → Nat
  | (.string bytes, d) => bytes.length + uptoBulk d + 1
  | (_, d) => uptoBulk d + 1
 end
def uptoSmall : (H : Type) → List (DataW H) → Bool := fun _ ds => decide (uptoBulkAll ds ≤ 1048576)
def OpenSpec.upto (s : _root_.Go.ChangeSpec) : _root_.Go.OpenSpec := { _root_.Go.OpenSpec.ofChange s with cond := some uptoSmall }

/-- 'falseworklaw21.LoanNames', WHERE WHAT IT READS IS OF BULK AT MOST 1048576: true; the input reads as it did. -/
def loanNamesUptoRow : OpenClaim := { program := "ytclgglffbpfmhaagreat", sum := "2013ae6c32cfa505c68589ef1c7d6d8da0c70a1570cec14c4c133f932d5d07cf", func := "falsework/falseworklaw21.LoanNames", spec := "loanNames", inPlace := ["math/bits.Add64", "slices.overlaps[falsework/api.Holder]"], unfollowed := true, recurses := true, named := ["math/bits.divideError", "math/bits.overflowError"], apart := false, narrowed := true }
def LoanNamesUptoSaid : Prop := loanNamesUptoRow.holds Tryz.pinned (OpenSpec.upto loanNamesSpec)

/-- 'falseworklaw26.PastNames', WHERE WHAT IT READS IS OF BULK AT MOST 1048576: true; the input reads as it did. -/
def pastNamesUptoRow : OpenClaim := { program := "ytclgglffbpfmhaagreat", sum := "2013ae6c32cfa505c68589ef1c7d6d8da0c70a1570cec14c4c133f932d5d07cf", func := "falsework/falseworklaw26.PastNames", spec := "pastNames", inPlace := ["math/bits.Add64", "slices.overlaps[falsework/api.Holder]"], unfollowed := true, recurses := true, named := ["math/bits.divideError", "math/bits.overflowError"], apart := false, narrowed := true }
def PastNamesUptoSaid : Prop := pastNamesUptoRow.holds Tryz.pinned (OpenSpec.upto pastNamesSpec)

/-- 'falseworklaw23.BookNames', WHERE WHAT IT READS IS OF BULK AT MOST 1048576: true; the input reads as it did. -/
def bookNamesUptoRow : OpenClaim := { program := "ytclgglffbpfmhaagreat", sum := "2013ae6c32cfa505c68589ef1c7d6d8da0c70a1570cec14c4c133f932d5d07cf", func := "falsework/falseworklaw23.BookNames", spec := "bookNames", inPlace := ["math/bits.Add64", "slices.overlaps[falsework/api.Holder]"], unfollowed := true, recurses := true, named := ["math/bits.divideError", "math/bits.overflowError"], apart := false, narrowed := true }
def BookNamesUptoSaid : Prop := bookNamesUptoRow.holds Tryz.pinned (OpenSpec.upto bookNamesSpec)

/-- 'falseworklaw24.ServicerNames', WHERE WHAT IT READS IS OF BULK AT MOST 1048576: true; the input reads as it did. -/
def servicerNamesUptoRow : OpenClaim := { program := "ytclgglffbpfmhaagreat", sum := "2013ae6c32cfa505c68589ef1c7d6d8da0c70a1570cec14c4c133f932d5d07cf", func := "falsework/falseworklaw24.ServicerNames", spec := "servicerNames", inPlace := ["math/bits.Add64", "slices.overlaps[falsework/api.Holder]"], unfollowed := true, recurses := true, named := ["math/bits.divideError", "math/bits.overflowError"], apart := false, narrowed := true }
def ServicerNamesUptoSaid : Prop := servicerNamesUptoRow.holds Tryz.pinned (OpenSpec.upto servicerNamesSpec)

/-- 'falseworklaw25.ScriptNames', WHERE WHAT IT READS IS OF BULK AT MOST 1048576: true; the input reads as it did. -/
def scriptNamesUptoRow : OpenClaim := { program := "ytclgglffbpfmhaagreat", sum := "2013ae6c32cfa505c68589ef1c7d6d8da0c70a1570cec14c4c133f932d5d07cf", func := "falsework/falseworklaw25.ScriptNames", spec := "scriptNames", inPlace := ["math/bits.Add64", "slices.overlaps[falsework/api.Holder]"], unfollowed := true, recurses := true, named := ["math/bits.divideError", "math/bits.overflowError"], apart := false, narrowed := true }
def ScriptNamesUptoSaid : Prop := scriptNamesUptoRow.holds Tryz.pinned (OpenSpec.upto scriptNamesSpec)

end Rows
end Go.Proofs.YtclgglffbpfmhaaGreat
