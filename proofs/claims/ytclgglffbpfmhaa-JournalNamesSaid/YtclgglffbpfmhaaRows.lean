/-
  No cell of these rows narrows 'for every input' (looked for: loops, veiled, ifaces, maps, wideKeys, modest, calm, conditions, laid).
  DERIVED. THE GIVEN ROWS OF THIS SEAT. 7 by the template 'for every input the law returns true; each argument reads behind the call as it read before'; 0 by the template 'total and deterministic' (their statements: YtclgglffbpfmhaaTotals.lean).
  GIVEN WITH THE SEED: the statements are not yours to turn. If you find one false, say at which input.
  Laid BY PROGRAM, IN A SANDBOX (cutbox-rows.mjs): the forced cells as the released guide's own fill.sh prints them over the translation 2f6d9079033fa0b3… (all of the seat's roots in one cut). By AI agents, Wed Nov 11 2026. No macro, syntax, notation, axiom, sorry.
-/
import Derived.Test.YtclgglffbpfmhaaChecked
import GoSem.Claim
import GoSem.ClaimJoined
import GoSem.ClaimMapViews
import Derived.JoinedTies
import Derived.KernelRfl
namespace Go.Proofs.Ytclgglffbpfmhaa
/- THE CELL 'sum', in the pinned program and in every row, IS THE sha256 OF THE DUMP (.gsa) THAT YtclgglffbpfmhaaProg.lean LOADS. Nothing in Lean hashes anything: it is a label: what it is worth is what the hold of that sum in a sandbox is worth. -/
noncomputable def Try.pinned : Pinned := { name := "ytclgglffbpfmhaa", sum := "2f6d9079033fa0b37ba813b16081232c29521fabc353244b729c9f0b3134ed58", checked := Try.checked }
namespace Rows
def none {H : Type} : Left H := { results := [], args := [] }

/-- 'falseworklaw08.DiskNames': WHATEVER THE INPUT: true; the input reads as it did. -/
def diskNamesSpec : ChangeSpec := { name := "diskNames", fn := fun _ => fun
  | [] => { results := [.lit (.bool true)], args := [] }
  | _ => none }
def diskNamesRow : OpenClaim := { program := "ytclgglffbpfmhaa", sum := "2f6d9079033fa0b37ba813b16081232c29521fabc353244b729c9f0b3134ed58", func := "falsework/falseworklaw08.DiskNames", spec := "diskNames", unfollowed := true, recurses := true, apart := false }
def DiskNamesSaid : Prop := diskNamesRow.holds Try.pinned (OpenSpec.ofChange diskNamesSpec)

/-- ITS FALSE NEIGHBOUR: 'it returns false'. Refute it at one input. -/
def diskNamesWrong : ChangeSpec := { name := "diskNames", fn := fun _ => fun
  | [] => { results := [.lit (.bool false)], args := [] }
  | _ => none }
def DiskNamesWrongFalsely : Prop := diskNamesRow.holds Try.pinned (OpenSpec.ofChange diskNamesWrong)

/-- 'falseworklaw09.StampNames': WHATEVER THE INPUT: true; the input reads as it did. -/
def stampNamesSpec : ChangeSpec := { name := "stampNames", fn := fun _ => fun
  | [] => { results := [.lit (.bool true)], args := [] }
  | _ => none }
def stampNamesRow : OpenClaim := { program := "ytclgglffbpfmhaa", sum := "2f6d9079033fa0b37ba813b16081232c29521fabc353244b729c9f0b3134ed58", func := "falsework/falseworklaw09.StampNames", spec := "stampNames", apart := false }
def StampNamesSaid : Prop := stampNamesRow.holds Try.pinned (OpenSpec.ofChange stampNamesSpec)

/-- ITS FALSE NEIGHBOUR: 'it returns false'. Refute it at one input. -/
def stampNamesWrong : ChangeSpec := { name := "stampNames", fn := fun _ => fun
  | [] => { results := [.lit (.bool false)], args := [] }
  | _ => none }
def StampNamesWrongFalsely : Prop := stampNamesRow.holds Try.pinned (OpenSpec.ofChange stampNamesWrong)

/-- 'falseworklaw10.LogNames': WHATEVER THE INPUT: true; the input reads as it did. -/
def logNamesSpec : ChangeSpec := { name := "logNames", fn := fun _ => fun
  | [] => { results := [.lit (.bool true)], args := [] }
  | _ => none }
def logNamesRow : OpenClaim := { program := "ytclgglffbpfmhaa", sum := "2f6d9079033fa0b37ba813b16081232c29521fabc353244b729c9f0b3134ed58", func := "falsework/falseworklaw10.LogNames", spec := "logNames", unfollowed := true, recurses := true, apart := false }
def LogNamesSaid : Prop := logNamesRow.holds Try.pinned (OpenSpec.ofChange logNamesSpec)

/-- ITS FALSE NEIGHBOUR: 'it returns false'. Refute it at one input. -/
def logNamesWrong : ChangeSpec := { name := "logNames", fn := fun _ => fun
  | [] => { results := [.lit (.bool false)], args := [] }
  | _ => none }
def LogNamesWrongFalsely : Prop := logNamesRow.holds Try.pinned (OpenSpec.ofChange logNamesWrong)

/-- 'falseworklaw11.SlotNames': WHATEVER THE INPUT: true; the input reads as it did. -/
def slotNamesSpec : ChangeSpec := { name := "slotNames", fn := fun _ => fun
  | [] => { results := [.lit (.bool true)], args := [] }
  | _ => none }
def slotNamesRow : OpenClaim := { program := "ytclgglffbpfmhaa", sum := "2f6d9079033fa0b37ba813b16081232c29521fabc353244b729c9f0b3134ed58", func := "falsework/falseworklaw11.SlotNames", spec := "slotNames", unfollowed := true, recurses := true, apart := false }
def SlotNamesSaid : Prop := slotNamesRow.holds Try.pinned (OpenSpec.ofChange slotNamesSpec)

/-- ITS FALSE NEIGHBOUR: 'it returns false'. Refute it at one input. -/
def slotNamesWrong : ChangeSpec := { name := "slotNames", fn := fun _ => fun
  | [] => { results := [.lit (.bool false)], args := [] }
  | _ => none }
def SlotNamesWrongFalsely : Prop := slotNamesRow.holds Try.pinned (OpenSpec.ofChange slotNamesWrong)

/-- 'falseworklaw02.ShareNames': WHATEVER THE INPUT: true; the input reads as it did. -/
def shareNamesSpec : ChangeSpec := { name := "shareNames", fn := fun _ => fun
  | [] => { results := [.lit (.bool true)], args := [] }
  | _ => none }
def shareNamesRow : OpenClaim := { program := "ytclgglffbpfmhaa", sum := "2f6d9079033fa0b37ba813b16081232c29521fabc353244b729c9f0b3134ed58", func := "falsework/falseworklaw02.ShareNames", spec := "shareNames", inPlace := ["math/bits.Add64"], unfollowed := true, recurses := true, named := ["math/bits.divideError", "math/bits.overflowError"], apart := false }
def ShareNamesSaid : Prop := shareNamesRow.holds Try.pinned (OpenSpec.ofChange shareNamesSpec)

/-- ITS FALSE NEIGHBOUR: 'it returns false'. Refute it at one input. -/
def shareNamesWrong : ChangeSpec := { name := "shareNames", fn := fun _ => fun
  | [] => { results := [.lit (.bool false)], args := [] }
  | _ => none }
def ShareNamesWrongFalsely : Prop := shareNamesRow.holds Try.pinned (OpenSpec.ofChange shareNamesWrong)

/-- 'falseworklaw12.JournalNames': WHATEVER THE INPUT: true; the input reads as it did. -/
def journalNamesSpec : ChangeSpec := { name := "journalNames", fn := fun _ => fun
  | [] => { results := [.lit (.bool true)], args := [] }
  | _ => none }
def journalNamesRow : OpenClaim := { program := "ytclgglffbpfmhaa", sum := "2f6d9079033fa0b37ba813b16081232c29521fabc353244b729c9f0b3134ed58", func := "falsework/falseworklaw12.JournalNames", spec := "journalNames", unfollowed := true, recurses := true, apart := false }
def JournalNamesSaid : Prop := journalNamesRow.holds Try.pinned (OpenSpec.ofChange journalNamesSpec)

/-- ITS FALSE NEIGHBOUR: 'it returns false'. Refute it at one input. -/
def journalNamesWrong : ChangeSpec := { name := "journalNames", fn := fun _ => fun
  | [] => { results := [.lit (.bool false)], args := [] }
  | _ => none }
def JournalNamesWrongFalsely : Prop := journalNamesRow.holds Try.pinned (OpenSpec.ofChange journalNamesWrong)

/-- 'falseworklaw18.RegisterNames': WHATEVER THE INPUT: true; the input reads as it did. -/
def registerNamesSpec : ChangeSpec := { name := "registerNames", fn := fun _ => fun
  | [] => { results := [.lit (.bool true)], args := [] }
  | _ => none }
def registerNamesRow : OpenClaim := { program := "ytclgglffbpfmhaa", sum := "2f6d9079033fa0b37ba813b16081232c29521fabc353244b729c9f0b3134ed58", func := "falsework/falseworklaw18.RegisterNames", spec := "registerNames", inPlace := ["slices.overlaps[falsework/api.Holder]", "math/bits.Add64"], unfollowed := true, recurses := true, named := ["math/bits.divideError", "math/bits.overflowError"], apart := false }
def RegisterNamesSaid : Prop := registerNamesRow.holds Try.pinned (OpenSpec.ofChange registerNamesSpec)

/-- ITS FALSE NEIGHBOUR: 'it returns false'. Refute it at one input. -/
def registerNamesWrong : ChangeSpec := { name := "registerNames", fn := fun _ => fun
  | [] => { results := [.lit (.bool false)], args := [] }
  | _ => none }
def RegisterNamesWrongFalsely : Prop := registerNamesRow.holds Try.pinned (OpenSpec.ofChange registerNamesWrong)

/- THE SECOND FORM. 'bulk': how many values and letters a reading holds, each counted each time it is reached (what is shared counts as often as it is met; a slice's spare places count too). A statement '..UptoSaid' is the law's where the arguments, and the package variables that the reading takes, are together of bulk at most 1048576: NARROWER than '..Said'. Prove '..Said' where nothing that the law and all that it calls make is longer than what came in: it says more and counts as full. Else prove '..UptoSaid'. A law counts once. -/
mutual
def uptoBulk {H : Type} : DataW H → Nat
  | .lit (.string bytes) => bytes.length + 1
  | .lit _ => 1
  | .nil => 1
  | .ptr d => uptoBulk d + 1
  | .slice elems spare => uptoBulkAll elems + uptoBulkAll spare + 1
  | .agg parts => uptoBulkAll parts + 1
  | .iface _ d => uptoBulk d + 1
  | .map entries => uptoBulkEntries entries + 1
  | .held _ => 1
def uptoBulkAll {H : Type} : List (DataW H) → Nat
  | [] => 0
  | d :: r => uptoBulk d + uptoBulkAll r
def uptoBulkEntries {H : Type} : List (Lit × DataW H) → Nat
  | [] => 0
  | x :: r => uptoBulkEntry x + uptoBulkEntries r
def uptoBulkEntry {H : Type} : Lit × DataW H → Nat
  | (.string bytes, d) => bytes.length + uptoBulk d + 1
  | (_, d) => uptoBulk d + 1
 end
def uptoSmall : (H : Type) → List (DataW H) → Bool := fun _ ds => decide (uptoBulkAll ds ≤ 1048576)
def OpenSpec.upto (s : _root_.Go.ChangeSpec) : _root_.Go.OpenSpec := { _root_.Go.OpenSpec.ofChange s with cond := some uptoSmall }

/-- 'falseworklaw08.DiskNames', WHERE WHAT IT READS IS OF BULK AT MOST 1048576: true; the input reads as it did. -/
def diskNamesUptoRow : OpenClaim := { program := "ytclgglffbpfmhaa", sum := "2f6d9079033fa0b37ba813b16081232c29521fabc353244b729c9f0b3134ed58", func := "falsework/falseworklaw08.DiskNames", spec := "diskNames", unfollowed := true, recurses := true, apart := false, narrowed := true }
def DiskNamesUptoSaid : Prop := diskNamesUptoRow.holds Try.pinned (OpenSpec.upto diskNamesSpec)

/-- 'falseworklaw09.StampNames', WHERE WHAT IT READS IS OF BULK AT MOST 1048576: true; the input reads as it did. -/
def stampNamesUptoRow : OpenClaim := { program := "ytclgglffbpfmhaa", sum := "2f6d9079033fa0b37ba813b16081232c29521fabc353244b729c9f0b3134ed58", func := "falsework/falseworklaw09.StampNames", spec := "stampNames", apart := false, narrowed := true }
def StampNamesUptoSaid : Prop := stampNamesUptoRow.holds Try.pinned (OpenSpec.upto stampNamesSpec)

/-- 'falseworklaw10.LogNames', WHERE WHAT IT READS IS OF BULK AT MOST 1048576: true; the input reads as it did. -/
def logNamesUptoRow : OpenClaim := { program := "ytclgglffbpfmhaa", sum := "2f6d9079033fa0b37ba813b16081232c29521fabc353244b729c9f0b3134ed58", func := "falsework/falseworklaw10.LogNames", spec := "logNames", unfollowed := true, recurses := true, apart := false, narrowed := true }
def LogNamesUptoSaid : Prop := logNamesUptoRow.holds Try.pinned (OpenSpec.upto logNamesSpec)

/-- 'falseworklaw11.SlotNames', WHERE WHAT IT READS IS OF BULK AT MOST 1048576: true; the input reads as it did. -/
def slotNamesUptoRow : OpenClaim := { program := "ytclgglffbpfmhaa", sum := "2f6d9079033fa0b37ba813b16081232c29521fabc353244b729c9f0b3134ed58", func := "falsework/falseworklaw11.SlotNames", spec := "slotNames", unfollowed := true, recurses := true, apart := false, narrowed := true }
def SlotNamesUptoSaid : Prop := slotNamesUptoRow.holds Try.pinned (OpenSpec.upto slotNamesSpec)

/-- 'falseworklaw02.ShareNames', WHERE WHAT IT READS IS OF BULK AT MOST 1048576: true; the input reads as it did. -/
def shareNamesUptoRow : OpenClaim := { program := "ytclgglffbpfmhaa", sum := "2f6d9079033fa0b37ba813b16081232c29521fabc353244b729c9f0b3134ed58", func := "falsework/falseworklaw02.ShareNames", spec := "shareNames", inPlace := ["math/bits.Add64"], unfollowed := true, recurses := true, named := ["math/bits.divideError", "math/bits.overflowError"], apart := false, narrowed := true }
def ShareNamesUptoSaid : Prop := shareNamesUptoRow.holds Try.pinned (OpenSpec.upto shareNamesSpec)

/-- 'falseworklaw12.JournalNames', WHERE WHAT IT READS IS OF BULK AT MOST 1048576: true; the input reads as it did. -/
def journalNamesUptoRow : OpenClaim := { program := "ytclgglffbpfmhaa", sum := "2f6d9079033fa0b37ba813b16081232c29521fabc353244b729c9f0b3134ed58", func := "falsework/falseworklaw12.JournalNames", spec := "journalNames", unfollowed := true, recurses := true, apart := false, narrowed := true }
def JournalNamesUptoSaid : Prop := journalNamesUptoRow.holds Try.pinned (OpenSpec.upto journalNamesSpec)

/-- 'falseworklaw18.RegisterNames', WHERE WHAT IT READS IS OF BULK AT MOST 1048576: true; the input reads as it did. -/
def registerNamesUptoRow : OpenClaim := { program := "ytclgglffbpfmhaa", sum := "2f6d9079033fa0b37ba813b16081232c29521fabc353244b729c9f0b3134ed58", func := "falsework/falseworklaw18.RegisterNames", spec := "registerNames", inPlace := ["slices.overlaps[falsework/api.Holder]", "math/bits.Add64"], unfollowed := true, recurses := true, named := ["math/bits.divideError", "math/bits.overflowError"], apart := false, narrowed := true }
def RegisterNamesUptoSaid : Prop := registerNamesUptoRow.holds Try.pinned (OpenSpec.upto registerNamesSpec)

end Rows
end Go.Proofs.Ytclgglffbpfmhaa
