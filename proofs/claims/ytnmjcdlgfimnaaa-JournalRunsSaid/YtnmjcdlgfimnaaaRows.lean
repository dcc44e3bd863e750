/-
  No cell of these rows narrows 'for every input' (looked for: loops, veiled, ifaces, maps, wideKeys, modest, calm, conditions, laid).
  DERIVED. THE GIVEN ROWS OF THIS SEAT. 20 by the template 'for every input the law returns true; each argument reads behind the call as it read before'; 0 by the template 'total and deterministic' (their statements: YtnmjcdlgfimnaaaTotals.lean).
  GIVEN WITH THE SEED: the statements are not yours to turn. If you find one false, say at which input.
  Laid BY PROGRAM, IN A SANDBOX (cutbox-rows.mjs): the forced cells as the released guide's own fill.sh prints them over the translation 9c129d58f171175d… (all of the seat's roots in one cut). By AI agents, Wed Nov 11 2026. No macro, syntax, notation, axiom, sorry.
-/
import Derived.Test.YtnmjcdlgfimnaaaChecked
import GoSem.Claim
import GoSem.ClaimJoined
import GoSem.ClaimMapViews
import Derived.JoinedTies
import Derived.KernelRfl
namespace Go.Proofs.Ytnmjcdlgfimnaaa
/- THE CELL 'sum', in the pinned program and in every row, IS THE sha256 OF THE DUMP (.gsa) THAT YtnmjcdlgfimnaaaProg.lean LOADS. Nothing in Lean hashes anything: it is a label: what it is worth is what the hold of that sum in a sandbox is worth. -/
noncomputable def Try.pinned : Pinned := { name := "ytnmjcdlgfimnaaa", sum := "9c129d58f171175d0f9ced3468cbf2eaf7619fccf425283244a7e2e663965ffa", checked := Try.checked }
namespace Rows
def none {H : Type} : Left H := { results := [], args := [] }

/-- 'falseworklaw08.DiskNames': WHATEVER THE INPUT: true; the input reads as it did. -/
def diskNamesSpec : ChangeSpec := { name := "diskNames", fn := fun _ => fun
  | [] => { results := [.lit (.bool true)], args := [] }
  | _ => none }
def diskNamesRow : OpenClaim := { program := "ytnmjcdlgfimnaaa", sum := "9c129d58f171175d0f9ced3468cbf2eaf7619fccf425283244a7e2e663965ffa", func := "falsework/falseworklaw08.DiskNames", spec := "diskNames", unfollowed := true, recurses := true, apart := false }
def DiskNamesSaid : Prop := diskNamesRow.holds Try.pinned (OpenSpec.ofChange diskNamesSpec)

/-- ITS FALSE NEIGHBOUR: 'it returns false'. Refute it at one input. -/
def diskNamesWrong : ChangeSpec := { name := "diskNames", fn := fun _ => fun
  | [] => { results := [.lit (.bool false)], args := [] }
  | _ => none }
def DiskNamesWrongFalsely : Prop := diskNamesRow.holds Try.pinned (OpenSpec.ofChange diskNamesWrong)

/-- 'falseworklaw08.DiskBurns': WHATEVER THE INPUT: true; the input reads as it did. -/
def diskBurnsSpec : ChangeSpec := { name := "diskBurns", fn := fun _ => fun
  | [d1, d2] => { results := [.lit (.bool true)], args := [d1, d2] }
  | _ => none }
def diskBurnsRow : OpenClaim := { program := "ytnmjcdlgfimnaaa", sum := "9c129d58f171175d0f9ced3468cbf2eaf7619fccf425283244a7e2e663965ffa", func := "falsework/falseworklaw08.DiskBurns", spec := "diskBurns", unfollowed := true, recurses := true, apart := false }
def DiskBurnsSaid : Prop := diskBurnsRow.holds Try.pinned (OpenSpec.ofChange diskBurnsSpec)

/-- ITS FALSE NEIGHBOUR: 'it returns false'. Refute it at one input. -/
def diskBurnsWrong : ChangeSpec := { name := "diskBurns", fn := fun _ => fun
  | [d1, d2] => { results := [.lit (.bool false)], args := [d1, d2] }
  | _ => none }
def DiskBurnsWrongFalsely : Prop := diskBurnsRow.holds Try.pinned (OpenSpec.ofChange diskBurnsWrong)

/-- 'falseworklaw08.DiskTears': WHATEVER THE INPUT: true; the input reads as it did. -/
def diskTearsSpec : ChangeSpec := { name := "diskTears", fn := fun _ => fun
  | [d1, d2, d3] => { results := [.lit (.bool true)], args := [d1, d2, d3] }
  | _ => none }
def diskTearsRow : OpenClaim := { program := "ytnmjcdlgfimnaaa", sum := "9c129d58f171175d0f9ced3468cbf2eaf7619fccf425283244a7e2e663965ffa", func := "falsework/falseworklaw08.DiskTears", spec := "diskTears", unfollowed := true, recurses := true, apart := false }
def DiskTearsSaid : Prop := diskTearsRow.holds Try.pinned (OpenSpec.ofChange diskTearsSpec)

/-- ITS FALSE NEIGHBOUR: 'it returns false'. Refute it at one input. -/
def diskTearsWrong : ChangeSpec := { name := "diskTears", fn := fun _ => fun
  | [d1, d2, d3] => { results := [.lit (.bool false)], args := [d1, d2, d3] }
  | _ => none }
def DiskTearsWrongFalsely : Prop := diskTearsRow.holds Try.pinned (OpenSpec.ofChange diskTearsWrong)

/-- 'falseworklaw08.DiskQuiet': WHATEVER THE INPUT: true; the input reads as it did. -/
def diskQuietSpec : ChangeSpec := { name := "diskQuiet", fn := fun _ => fun
  | [d1, d2] => { results := [.lit (.bool true)], args := [d1, d2] }
  | _ => none }
def diskQuietRow : OpenClaim := { program := "ytnmjcdlgfimnaaa", sum := "9c129d58f171175d0f9ced3468cbf2eaf7619fccf425283244a7e2e663965ffa", func := "falsework/falseworklaw08.DiskQuiet", spec := "diskQuiet", unfollowed := true, recurses := true, apart := false }
def DiskQuietSaid : Prop := diskQuietRow.holds Try.pinned (OpenSpec.ofChange diskQuietSpec)

/-- ITS FALSE NEIGHBOUR: 'it returns false'. Refute it at one input. -/
def diskQuietWrong : ChangeSpec := { name := "diskQuiet", fn := fun _ => fun
  | [d1, d2] => { results := [.lit (.bool false)], args := [d1, d2] }
  | _ => none }
def DiskQuietWrongFalsely : Prop := diskQuietRow.holds Try.pinned (OpenSpec.ofChange diskQuietWrong)

/-- 'falseworklaw08.DiskDoes': WHATEVER THE INPUT: true; the input reads as it did. -/
def diskDoesSpec : ChangeSpec := { name := "diskDoes", fn := fun _ => fun
  | [d1, d2] => { results := [.lit (.bool true)], args := [d1, d2] }
  | _ => none }
def diskDoesRow : OpenClaim := { program := "ytnmjcdlgfimnaaa", sum := "9c129d58f171175d0f9ced3468cbf2eaf7619fccf425283244a7e2e663965ffa", func := "falsework/falseworklaw08.DiskDoes", spec := "diskDoes", unfollowed := true, recurses := true, apart := false }
def DiskDoesSaid : Prop := diskDoesRow.holds Try.pinned (OpenSpec.ofChange diskDoesSpec)

/-- ITS FALSE NEIGHBOUR: 'it returns false'. Refute it at one input. -/
def diskDoesWrong : ChangeSpec := { name := "diskDoes", fn := fun _ => fun
  | [d1, d2] => { results := [.lit (.bool false)], args := [d1, d2] }
  | _ => none }
def DiskDoesWrongFalsely : Prop := diskDoesRow.holds Try.pinned (OpenSpec.ofChange diskDoesWrong)

/-- 'falseworklaw09.StampNames': WHATEVER THE INPUT: true; the input reads as it did. -/
def stampNamesSpec : ChangeSpec := { name := "stampNames", fn := fun _ => fun
  | [] => { results := [.lit (.bool true)], args := [] }
  | _ => none }
def stampNamesRow : OpenClaim := { program := "ytnmjcdlgfimnaaa", sum := "9c129d58f171175d0f9ced3468cbf2eaf7619fccf425283244a7e2e663965ffa", func := "falsework/falseworklaw09.StampNames", spec := "stampNames", apart := false }
def StampNamesSaid : Prop := stampNamesRow.holds Try.pinned (OpenSpec.ofChange stampNamesSpec)

/-- ITS FALSE NEIGHBOUR: 'it returns false'. Refute it at one input. -/
def stampNamesWrong : ChangeSpec := { name := "stampNames", fn := fun _ => fun
  | [] => { results := [.lit (.bool false)], args := [] }
  | _ => none }
def StampNamesWrongFalsely : Prop := stampNamesRow.holds Try.pinned (OpenSpec.ofChange stampNamesWrong)

/-- 'falseworklaw09.StampBack': WHATEVER THE INPUT: true; the input reads as it did. -/
def stampBackSpec : ChangeSpec := { name := "stampBack", fn := fun _ => fun
  | [d1, d2, d3] => { results := [.lit (.bool true)], args := [d1, d2, d3] }
  | _ => none }
def stampBackRow : OpenClaim := { program := "ytnmjcdlgfimnaaa", sum := "9c129d58f171175d0f9ced3468cbf2eaf7619fccf425283244a7e2e663965ffa", func := "falsework/falseworklaw09.StampBack", spec := "stampBack", apart := false }
def StampBackSaid : Prop := stampBackRow.holds Try.pinned (OpenSpec.ofChange stampBackSpec)

/-- ITS FALSE NEIGHBOUR: 'it returns false'. Refute it at one input. -/
def stampBackWrong : ChangeSpec := { name := "stampBack", fn := fun _ => fun
  | [d1, d2, d3] => { results := [.lit (.bool false)], args := [d1, d2, d3] }
  | _ => none }
def StampBackWrongFalsely : Prop := stampBackRow.holds Try.pinned (OpenSpec.ofChange stampBackWrong)

/-- 'falseworklaw09.StampRuns': WHATEVER THE INPUT: true; the input reads as it did. -/
def stampRunsSpec : ChangeSpec := { name := "stampRuns", fn := fun _ => fun
  | [d1, d2, d3] => { results := [.lit (.bool true)], args := [d1, d2, d3] }
  | _ => none }
def stampRunsRow : OpenClaim := { program := "ytnmjcdlgfimnaaa", sum := "9c129d58f171175d0f9ced3468cbf2eaf7619fccf425283244a7e2e663965ffa", func := "falsework/falseworklaw09.StampRuns", spec := "stampRuns", unfollowed := true, recurses := true, apart := false }
def StampRunsSaid : Prop := stampRunsRow.holds Try.pinned (OpenSpec.ofChange stampRunsSpec)

/-- ITS FALSE NEIGHBOUR: 'it returns false'. Refute it at one input. -/
def stampRunsWrong : ChangeSpec := { name := "stampRuns", fn := fun _ => fun
  | [d1, d2, d3] => { results := [.lit (.bool false)], args := [d1, d2, d3] }
  | _ => none }
def StampRunsWrongFalsely : Prop := stampRunsRow.holds Try.pinned (OpenSpec.ofChange stampRunsWrong)

/-- 'falseworklaw09.StampTorn': WHATEVER THE INPUT: true; the input reads as it did. -/
def stampTornSpec : ChangeSpec := { name := "stampTorn", fn := fun _ => fun
  | [d1, d2, d3] => { results := [.lit (.bool true)], args := [d1, d2, d3] }
  | _ => none }
def stampTornRow : OpenClaim := { program := "ytnmjcdlgfimnaaa", sum := "9c129d58f171175d0f9ced3468cbf2eaf7619fccf425283244a7e2e663965ffa", func := "falsework/falseworklaw09.StampTorn", spec := "stampTorn", unfollowed := true, recurses := true, apart := false }
def StampTornSaid : Prop := stampTornRow.holds Try.pinned (OpenSpec.ofChange stampTornSpec)

/-- ITS FALSE NEIGHBOUR: 'it returns false'. Refute it at one input. -/
def stampTornWrong : ChangeSpec := { name := "stampTorn", fn := fun _ => fun
  | [d1, d2, d3] => { results := [.lit (.bool false)], args := [d1, d2, d3] }
  | _ => none }
def StampTornWrongFalsely : Prop := stampTornRow.holds Try.pinned (OpenSpec.ofChange stampTornWrong)

/-- 'falseworklaw10.LogNames': WHATEVER THE INPUT: true; the input reads as it did. -/
def logNamesSpec : ChangeSpec := { name := "logNames", fn := fun _ => fun
  | [] => { results := [.lit (.bool true)], args := [] }
  | _ => none }
def logNamesRow : OpenClaim := { program := "ytnmjcdlgfimnaaa", sum := "9c129d58f171175d0f9ced3468cbf2eaf7619fccf425283244a7e2e663965ffa", func := "falsework/falseworklaw10.LogNames", spec := "logNames", unfollowed := true, recurses := true, apart := false }
def LogNamesSaid : Prop := logNamesRow.holds Try.pinned (OpenSpec.ofChange logNamesSpec)

/-- ITS FALSE NEIGHBOUR: 'it returns false'. Refute it at one input. -/
def logNamesWrong : ChangeSpec := { name := "logNames", fn := fun _ => fun
  | [] => { results := [.lit (.bool false)], args := [] }
  | _ => none }
def LogNamesWrongFalsely : Prop := logNamesRow.holds Try.pinned (OpenSpec.ofChange logNamesWrong)

/-- 'falseworklaw10.LogRoom': WHATEVER THE INPUT: true; the input reads as it did. -/
def logRoomSpec : ChangeSpec := { name := "logRoom", fn := fun _ => fun
  | [d1, d2] => { results := [.lit (.bool true)], args := [d1, d2] }
  | _ => none }
def logRoomRow : OpenClaim := { program := "ytnmjcdlgfimnaaa", sum := "9c129d58f171175d0f9ced3468cbf2eaf7619fccf425283244a7e2e663965ffa", func := "falsework/falseworklaw10.LogRoom", spec := "logRoom", unfollowed := true, recurses := true, apart := false }
def LogRoomSaid : Prop := logRoomRow.holds Try.pinned (OpenSpec.ofChange logRoomSpec)

/-- ITS FALSE NEIGHBOUR: 'it returns false'. Refute it at one input. -/
def logRoomWrong : ChangeSpec := { name := "logRoom", fn := fun _ => fun
  | [d1, d2] => { results := [.lit (.bool false)], args := [d1, d2] }
  | _ => none }
def LogRoomWrongFalsely : Prop := logRoomRow.holds Try.pinned (OpenSpec.ofChange logRoomWrong)

/-- 'falseworklaw11.SlotNames': WHATEVER THE INPUT: true; the input reads as it did. -/
def slotNamesSpec : ChangeSpec := { name := "slotNames", fn := fun _ => fun
  | [] => { results := [.lit (.bool true)], args := [] }
  | _ => none }
def slotNamesRow : OpenClaim := { program := "ytnmjcdlgfimnaaa", sum := "9c129d58f171175d0f9ced3468cbf2eaf7619fccf425283244a7e2e663965ffa", func := "falsework/falseworklaw11.SlotNames", spec := "slotNames", unfollowed := true, recurses := true, apart := false }
def SlotNamesSaid : Prop := slotNamesRow.holds Try.pinned (OpenSpec.ofChange slotNamesSpec)

/-- ITS FALSE NEIGHBOUR: 'it returns false'. Refute it at one input. -/
def slotNamesWrong : ChangeSpec := { name := "slotNames", fn := fun _ => fun
  | [] => { results := [.lit (.bool false)], args := [] }
  | _ => none }
def SlotNamesWrongFalsely : Prop := slotNamesRow.holds Try.pinned (OpenSpec.ofChange slotNamesWrong)

/-- 'falseworklaw11.SlotTurns': WHATEVER THE INPUT: true; the input reads as it did. -/
def slotTurnsSpec : ChangeSpec := { name := "slotTurns", fn := fun _ => fun
  | [d] => { results := [.lit (.bool true)], args := [d] }
  | _ => none }
def slotTurnsRow : OpenClaim := { program := "ytnmjcdlgfimnaaa", sum := "9c129d58f171175d0f9ced3468cbf2eaf7619fccf425283244a7e2e663965ffa", func := "falsework/falseworklaw11.SlotTurns", spec := "slotTurns", unfollowed := true, recurses := true, apart := false }
def SlotTurnsSaid : Prop := slotTurnsRow.holds Try.pinned (OpenSpec.ofChange slotTurnsSpec)

/-- ITS FALSE NEIGHBOUR: 'it returns false'. Refute it at one input. -/
def slotTurnsWrong : ChangeSpec := { name := "slotTurns", fn := fun _ => fun
  | [d] => { results := [.lit (.bool false)], args := [d] }
  | _ => none }
def SlotTurnsWrongFalsely : Prop := slotTurnsRow.holds Try.pinned (OpenSpec.ofChange slotTurnsWrong)

/-- 'falseworklaw10.LogKeeps': WHATEVER THE INPUT: true; the input reads as it did. -/
def logKeepsSpec : ChangeSpec := { name := "logKeeps", fn := fun _ => fun
  | [d1, d2, d3] => { results := [.lit (.bool true)], args := [d1, d2, d3] }
  | _ => none }
def logKeepsRow : OpenClaim := { program := "ytnmjcdlgfimnaaa", sum := "9c129d58f171175d0f9ced3468cbf2eaf7619fccf425283244a7e2e663965ffa", func := "falsework/falseworklaw10.LogKeeps", spec := "logKeeps", unfollowed := true, recurses := true, apart := false }
def LogKeepsSaid : Prop := logKeepsRow.holds Try.pinned (OpenSpec.ofChange logKeepsSpec)

/-- ITS FALSE NEIGHBOUR: 'it returns false'. Refute it at one input. -/
def logKeepsWrong : ChangeSpec := { name := "logKeeps", fn := fun _ => fun
  | [d1, d2, d3] => { results := [.lit (.bool false)], args := [d1, d2, d3] }
  | _ => none }
def LogKeepsWrongFalsely : Prop := logKeepsRow.holds Try.pinned (OpenSpec.ofChange logKeepsWrong)

/-- 'falseworklaw11.SlotRuns': WHATEVER THE INPUT: true; the input reads as it did. -/
def slotRunsSpec : ChangeSpec := { name := "slotRuns", fn := fun _ => fun
  | [d1, d2] => { results := [.lit (.bool true)], args := [d1, d2] }
  | _ => none }
def slotRunsRow : OpenClaim := { program := "ytnmjcdlgfimnaaa", sum := "9c129d58f171175d0f9ced3468cbf2eaf7619fccf425283244a7e2e663965ffa", func := "falsework/falseworklaw11.SlotRuns", spec := "slotRuns", unfollowed := true, recurses := true, apart := false }
def SlotRunsSaid : Prop := slotRunsRow.holds Try.pinned (OpenSpec.ofChange slotRunsSpec)

/-- ITS FALSE NEIGHBOUR: 'it returns false'. Refute it at one input. -/
def slotRunsWrong : ChangeSpec := { name := "slotRuns", fn := fun _ => fun
  | [d1, d2] => { results := [.lit (.bool false)], args := [d1, d2] }
  | _ => none }
def SlotRunsWrongFalsely : Prop := slotRunsRow.holds Try.pinned (OpenSpec.ofChange slotRunsWrong)

/-- 'falseworklaw11.SlotTorn': WHATEVER THE INPUT: true; the input reads as it did. -/
def slotTornSpec : ChangeSpec := { name := "slotTorn", fn := fun _ => fun
  | [d1, d2] => { results := [.lit (.bool true)], args := [d1, d2] }
  | _ => none }
def slotTornRow : OpenClaim := { program := "ytnmjcdlgfimnaaa", sum := "9c129d58f171175d0f9ced3468cbf2eaf7619fccf425283244a7e2e663965ffa", func := "falsework/falseworklaw11.SlotTorn", spec := "slotTorn", unfollowed := true, recurses := true, apart := false }
def SlotTornSaid : Prop := slotTornRow.holds Try.pinned (OpenSpec.ofChange slotTornSpec)

/-- ITS FALSE NEIGHBOUR: 'it returns false'. Refute it at one input. -/
def slotTornWrong : ChangeSpec := { name := "slotTorn", fn := fun _ => fun
  | [d1, d2] => { results := [.lit (.bool false)], args := [d1, d2] }
  | _ => none }
def SlotTornWrongFalsely : Prop := slotTornRow.holds Try.pinned (OpenSpec.ofChange slotTornWrong)

/-- 'falseworklaw12.JournalNames': WHATEVER THE INPUT: true; the input reads as it did. -/
def journalNamesSpec : ChangeSpec := { name := "journalNames", fn := fun _ => fun
  | [] => { results := [.lit (.bool true)], args := [] }
  | _ => none }
def journalNamesRow : OpenClaim := { program := "ytnmjcdlgfimnaaa", sum := "9c129d58f171175d0f9ced3468cbf2eaf7619fccf425283244a7e2e663965ffa", func := "falsework/falseworklaw12.JournalNames", spec := "journalNames", unfollowed := true, recurses := true, apart := false }
def JournalNamesSaid : Prop := journalNamesRow.holds Try.pinned (OpenSpec.ofChange journalNamesSpec)

/-- ITS FALSE NEIGHBOUR: 'it returns false'. Refute it at one input. -/
def journalNamesWrong : ChangeSpec := { name := "journalNames", fn := fun _ => fun
  | [] => { results := [.lit (.bool false)], args := [] }
  | _ => none }
def JournalNamesWrongFalsely : Prop := journalNamesRow.holds Try.pinned (OpenSpec.ofChange journalNamesWrong)

/-- 'falseworklaw12.JournalFloors': WHATEVER THE INPUT: true; the input reads as it did. -/
def journalFloorsSpec : ChangeSpec := { name := "journalFloors", fn := fun _ => fun
  | [d1, d2] => { results := [.lit (.bool true)], args := [d1, d2] }
  | _ => none }
def journalFloorsRow : OpenClaim := { program := "ytnmjcdlgfimnaaa", sum := "9c129d58f171175d0f9ced3468cbf2eaf7619fccf425283244a7e2e663965ffa", func := "falsework/falseworklaw12.JournalFloors", spec := "journalFloors", unfollowed := true, recurses := true, apart := false }
def JournalFloorsSaid : Prop := journalFloorsRow.holds Try.pinned (OpenSpec.ofChange journalFloorsSpec)

/-- ITS FALSE NEIGHBOUR: 'it returns false'. Refute it at one input. -/
def journalFloorsWrong : ChangeSpec := { name := "journalFloors", fn := fun _ => fun
  | [d1, d2] => { results := [.lit (.bool false)], args := [d1, d2] }
  | _ => none }
def JournalFloorsWrongFalsely : Prop := journalFloorsRow.holds Try.pinned (OpenSpec.ofChange journalFloorsWrong)

/-- 'falseworklaw12.JournalKeeps': WHATEVER THE INPUT: true; the input reads as it did. -/
def journalKeepsSpec : ChangeSpec := { name := "journalKeeps", fn := fun _ => fun
  | [d1, d2] => { results := [.lit (.bool true)], args := [d1, d2] }
  | _ => none }
def journalKeepsRow : OpenClaim := { program := "ytnmjcdlgfimnaaa", sum := "9c129d58f171175d0f9ced3468cbf2eaf7619fccf425283244a7e2e663965ffa", func := "falsework/falseworklaw12.JournalKeeps", spec := "journalKeeps", unfollowed := true, recurses := true, apart := false }
def JournalKeepsSaid : Prop := journalKeepsRow.holds Try.pinned (OpenSpec.ofChange journalKeepsSpec)

/-- ITS FALSE NEIGHBOUR: 'it returns false'. Refute it at one input. -/
def journalKeepsWrong : ChangeSpec := { name := "journalKeeps", fn := fun _ => fun
  | [d1, d2] => { results := [.lit (.bool false)], args := [d1, d2] }
  | _ => none }
def JournalKeepsWrongFalsely : Prop := journalKeepsRow.holds Try.pinned (OpenSpec.ofChange journalKeepsWrong)

/-- 'falseworklaw12.JournalRuns': WHATEVER THE INPUT: true; the input reads as it did. -/
def journalRunsSpec : ChangeSpec := { name := "journalRuns", fn := fun _ => fun
  | [d1, d2, d3] => { results := [.lit (.bool true)], args := [d1, d2, d3] }
  | _ => none }
def journalRunsRow : OpenClaim := { program := "ytnmjcdlgfimnaaa", sum := "9c129d58f171175d0f9ced3468cbf2eaf7619fccf425283244a7e2e663965ffa", func := "falsework/falseworklaw12.JournalRuns", spec := "journalRuns", unfollowed := true, recurses := true, apart := false }
def JournalRunsSaid : Prop := journalRunsRow.holds Try.pinned (OpenSpec.ofChange journalRunsSpec)

/-- ITS FALSE NEIGHBOUR: 'it returns false'. Refute it at one input. -/
def journalRunsWrong : ChangeSpec := { name := "journalRuns", fn := fun _ => fun
  | [d1, d2, d3] => { results := [.lit (.bool false)], args := [d1, d2, d3] }
  | _ => none }
def JournalRunsWrongFalsely : Prop := journalRunsRow.holds Try.pinned (OpenSpec.ofChange journalRunsWrong)

/- THE SECOND FORM. 'bulk': how many values and letters a reading holds, each counted each time it is reached (what is shared counts as often as it is met; a slice's spare places count too). A statement '..UptoSaid' is the law's where the arguments, and the package variables that the reading takes, are together of bulk at most 1048576: NARROWER than '..Said'. Prove '..Said' where nothing that the law and all that it calls make is longer than what came in: it says more and counts as full. Else prove '..UptoSaid'. A law counts once. -/
mutual
def uptoBulk {H : Type} : DataW H → Nat
  | .lit (.string bytes) => bytes.length + 1
  | .lit _ => 1
  | .nil => 1
  | .ptr d => uptoBulk d + 1
  | .slice elems spare => uptoBulkAll elems + uptoBulkAll spare + 1
  | .agg parts => uptoBulkAll parts + 1
  | .iface _ d => uptoBulk d + 1
  | .map entries => uptoBulkEntries entries + 1
  | .held _ => 1
def uptoBulkAll {H : Type} : List (DataW H) → Nat
  | [] => 0
  | d :: r => uptoBulk d + uptoBulkAll r
def uptoBulkEntries {H : Type} : List (Lit × DataW H) → Nat
  | [] => 0
  | x :: r => uptoBulkEntry x + uptoBulkEntries r
def uptoBulkEntry {H : Type} : Lit × DataW H → Nat
  | (.string bytes, d) => bytes.length + uptoBulk d + 1
  | (_, d) => uptoBulk d + 1
 end
def uptoSmall : (H : Type) → List (DataW H) → Bool := fun _ ds => decide (uptoBulkAll ds ≤ 1048576)
def OpenSpec.upto (s : _root_.Go.ChangeSpec) : _root_.Go.OpenSpec := { _root_.Go.OpenSpec.ofChange s with cond := some uptoSmall }

/-- 'falseworklaw08.DiskNames', WHERE WHAT IT READS IS OF BULK AT MOST 1048576: true; the input reads as it did. -/
def diskNamesUptoRow : OpenClaim := { program := "ytnmjcdlgfimnaaa", sum := "9c129d58f171175d0f9ced3468cbf2eaf7619fccf425283244a7e2e663965ffa", func := "falsework/falseworklaw08.DiskNames", spec := "diskNames", unfollowed := true, recurses := true, apart := false, narrowed := true }
def DiskNamesUptoSaid : Prop := diskNamesUptoRow.holds Try.pinned (OpenSpec.upto diskNamesSpec)

/-- 'falseworklaw08.DiskBurns', WHERE WHAT IT READS IS OF BULK AT MOST 1048576: true; the input reads as it did. -/
def diskBurnsUptoRow : OpenClaim := { program := "ytnmjcdlgfimnaaa", sum := "9c129d58f171175d0f9ced3468cbf2eaf7619fccf425283244a7e2e663965ffa", func := "falsework/falseworklaw08.DiskBurns", spec := "diskBurns", unfollowed := true, recurses := true, apart := false, narrowed := true }
def DiskBurnsUptoSaid : Prop := diskBurnsUptoRow.holds Try.pinned (OpenSpec.upto diskBurnsSpec)

/-- 'falseworklaw08.DiskTears', WHERE WHAT IT READS IS OF BULK AT MOST 1048576: true; the input reads as it did. -/
def diskTearsUptoRow : OpenClaim := { program := "ytnmjcdlgfimnaaa", sum := "9c129d58f171175d0f9ced3468cbf2eaf7619fccf425283244a7e2e663965ffa", func := "falsework/falseworklaw08.DiskTears", spec := "diskTears", unfollowed := true, recurses := true, apart := false, narrowed := true }
def DiskTearsUptoSaid : Prop := diskTearsUptoRow.holds Try.pinned (OpenSpec.upto diskTearsSpec)

/-- 'falseworklaw08.DiskQuiet', WHERE WHAT IT READS IS OF BULK AT MOST 1048576: true; the input reads as it did. -/
def diskQuietUptoRow : OpenClaim := { program := "ytnmjcdlgfimnaaa", sum := "9c129d58f171175d0f9ced3468cbf2eaf7619fccf425283244a7e2e663965ffa", func := "falsework/falseworklaw08.DiskQuiet", spec := "diskQuiet", unfollowed := true, recurses := true, apart := false, narrowed := true }
def DiskQuietUptoSaid : Prop := diskQuietUptoRow.holds Try.pinned (OpenSpec.upto diskQuietSpec)

/-- 'falseworklaw08.DiskDoes', WHERE WHAT IT READS IS OF BULK AT MOST 1048576: true; the input reads as it did. -/
def diskDoesUptoRow : OpenClaim := { program := "ytnmjcdlgfimnaaa", sum := "9c129d58f171175d0f9ced3468cbf2eaf7619fccf425283244a7e2e663965ffa", func := "falsework/falseworklaw08.DiskDoes", spec := "diskDoes", unfollowed := true, recurses := true, apart := false, narrowed := true }
def DiskDoesUptoSaid : Prop := diskDoesUptoRow.holds Try.pinned (OpenSpec.upto diskDoesSpec)

/-- 'falseworklaw09.StampNames', WHERE WHAT IT READS IS OF BULK AT MOST 1048576: true; the input reads as it did. -/
def stampNamesUptoRow : OpenClaim := { program := "ytnmjcdlgfimnaaa", sum := "9c129d58f171175d0f9ced3468cbf2eaf7619fccf425283244a7e2e663965ffa", func := "falsework/falseworklaw09.StampNames", spec := "stampNames", apart := false, narrowed := true }
def StampNamesUptoSaid : Prop := stampNamesUptoRow.holds Try.pinned (OpenSpec.upto stampNamesSpec)

/-- 'falseworklaw09.StampBack', WHERE WHAT IT READS IS OF BULK AT MOST 1048576: true; the input reads as it did. -/
def stampBackUptoRow : OpenClaim := { program := "ytnmjcdlgfimnaaa", sum := "9c129d58f171175d0f9ced3468cbf2eaf7619fccf425283244a7e2e663965ffa", func := "falsework/falseworklaw09.StampBack", spec := "stampBack", apart := false, narrowed := true }
def StampBackUptoSaid : Prop := stampBackUptoRow.holds Try.pinned (OpenSpec.upto stampBackSpec)

/-- 'falseworklaw09.StampRuns', WHERE WHAT IT READS IS OF BULK AT MOST 1048576: true; the input reads as it did. -/
def stampRunsUptoRow : OpenClaim := { program := "ytnmjcdlgfimnaaa", sum := "9c129d58f171175d0f9ced3468cbf2eaf7619fccf425283244a7e2e663965ffa", func := "falsework/falseworklaw09.StampRuns", spec := "stampRuns", unfollowed := true, recurses := true, apart := false, narrowed := true }
def StampRunsUptoSaid : Prop := stampRunsUptoRow.holds Try.pinned (OpenSpec.upto stampRunsSpec)

/-- 'falseworklaw09.StampTorn', WHERE WHAT IT READS IS OF BULK AT MOST 1048576: true; the input reads as it did. -/
def stampTornUptoRow : OpenClaim := { program := "ytnmjcdlgfimnaaa", sum := "9c129d58f171175d0f9ced3468cbf2eaf7619fccf425283244a7e2e663965ffa", func := "falsework/falseworklaw09.StampTorn", spec := "stampTorn", unfollowed := true, recurses := true, apart := false, narrowed := true }
def StampTornUptoSaid : Prop := stampTornUptoRow.holds Try.pinned (OpenSpec.upto stampTornSpec)

/-- 'falseworklaw10.LogNames', WHERE WHAT IT READS IS OF BULK AT MOST 1048576: true; the input reads as it did. -/
def logNamesUptoRow : OpenClaim := { program := "ytnmjcdlgfimnaaa", sum := "9c129d58f171175d0f9ced3468cbf2eaf7619fccf425283244a7e2e663965ffa", func := "falsework/falseworklaw10.LogNames", spec := "logNames", unfollowed := true, recurses := true, apart := false, narrowed := true }
def LogNamesUptoSaid : Prop := logNamesUptoRow.holds Try.pinned (OpenSpec.upto logNamesSpec)

/-- 'falseworklaw10.LogRoom', WHERE WHAT IT READS IS OF BULK AT MOST 1048576: true; the input reads as it did. -/
def logRoomUptoRow : OpenClaim := { program := "ytnmjcdlgfimnaaa", sum := "9c129d58f171175d0f9ced3468cbf2eaf7619fccf425283244a7e2e663965ffa", func := "falsework/falseworklaw10.LogRoom", spec := "logRoom", unfollowed := true, recurses := true, apart := false, narrowed := true }
def LogRoomUptoSaid : Prop := logRoomUptoRow.holds Try.pinned (OpenSpec.upto logRoomSpec)

/-- 'falseworklaw11.SlotNames', WHERE WHAT IT READS IS OF BULK AT MOST 1048576: true; the input reads as it did. -/
def slotNamesUptoRow : OpenClaim := { program := "ytnmjcdlgfimnaaa", sum := "9c129d58f171175d0f9ced3468cbf2eaf7619fccf425283244a7e2e663965ffa", func := "falsework/falseworklaw11.SlotNames", spec := "slotNames", unfollowed := true, recurses := true, apart := false, narrowed := true }
def SlotNamesUptoSaid : Prop := slotNamesUptoRow.holds Try.pinned (OpenSpec.upto slotNamesSpec)

/-- 'falseworklaw11.SlotTurns', WHERE WHAT IT READS IS OF BULK AT MOST 1048576: true; the input reads as it did. -/
def slotTurnsUptoRow : OpenClaim := { program := "ytnmjcdlgfimnaaa", sum := "9c129d58f171175d0f9ced3468cbf2eaf7619fccf425283244a7e2e663965ffa", func := "falsework/falseworklaw11.SlotTurns", spec := "slotTurns", unfollowed := true, recurses := true, apart := false, narrowed := true }
def SlotTurnsUptoSaid : Prop := slotTurnsUptoRow.holds Try.pinned (OpenSpec.upto slotTurnsSpec)

/-- 'falseworklaw10.LogKeeps', WHERE WHAT IT READS IS OF BULK AT MOST 1048576: true; the input reads as it did. -/
def logKeepsUptoRow : OpenClaim := { program := "ytnmjcdlgfimnaaa", sum := "9c129d58f171175d0f9ced3468cbf2eaf7619fccf425283244a7e2e663965ffa", func := "falsework/falseworklaw10.LogKeeps", spec := "logKeeps", unfollowed := true, recurses := true, apart := false, narrowed := true }
def LogKeepsUptoSaid : Prop := logKeepsUptoRow.holds Try.pinned (OpenSpec.upto logKeepsSpec)

/-- 'falseworklaw11.SlotRuns', WHERE WHAT IT READS IS OF BULK AT MOST 1048576: true; the input reads as it did. -/
def slotRunsUptoRow : OpenClaim := { program := "ytnmjcdlgfimnaaa", sum := "9c129d58f171175d0f9ced3468cbf2eaf7619fccf425283244a7e2e663965ffa", func := "falsework/falseworklaw11.SlotRuns", spec := "slotRuns", unfollowed := true, recurses := true, apart := false, narrowed := true }
def SlotRunsUptoSaid : Prop := slotRunsUptoRow.holds Try.pinned (OpenSpec.upto slotRunsSpec)

/-- 'falseworklaw11.SlotTorn', WHERE WHAT IT READS IS OF BULK AT MOST 1048576: true; the input reads as it did. -/
def slotTornUptoRow : OpenClaim := { program := "ytnmjcdlgfimnaaa", sum := "9c129d58f171175d0f9ced3468cbf2eaf7619fccf425283244a7e2e663965ffa", func := "falsework/falseworklaw11.SlotTorn", spec := "slotTorn", unfollowed := true, recurses := true, apart := false, narrowed := true }
def SlotTornUptoSaid : Prop := slotTornUptoRow.holds Try.pinned (OpenSpec.upto slotTornSpec)

/-- 'falseworklaw12.JournalNames', WHERE WHAT IT READS IS OF BULK AT MOST 1048576: true; the input reads as it did. -/
def journalNamesUptoRow : OpenClaim := { program := "ytnmjcdlgfimnaaa", sum := "9c129d58f171175d0f9ced3468cbf2eaf7619fccf425283244a7e2e663965ffa", func := "falsework/falseworklaw12.JournalNames", spec := "journalNames", unfollowed := true, recurses := true, apart := false, narrowed := true }
def JournalNamesUptoSaid : Prop := journalNamesUptoRow.holds Try.pinned (OpenSpec.upto journalNamesSpec)

/-- 'falseworklaw12.JournalFloors', WHERE WHAT IT READS IS OF BULK AT MOST 1048576: true; the input reads as it did. -/
def journalFloorsUptoRow : OpenClaim := { program := "ytnmjcdlgfimnaaa", sum := "9c129d58f171175d0f9ced3468cbf2eaf7619fccf425283244a7e2e663965ffa", func := "falsework/falseworklaw12.JournalFloors", spec := "journalFloors", unfollowed := true, recurses := true, apart := false, narrowed := true }
def JournalFloorsUptoSaid : Prop := journalFloorsUptoRow.holds Try.pinned (OpenSpec.upto journalFloorsSpec)

/-- 'falseworklaw12.JournalKeeps', WHERE WHAT IT READS IS OF BULK AT MOST 1048576: true; the input reads as it did. -/
def journalKeepsUptoRow : OpenClaim := { program := "ytnmjcdlgfimnaaa", sum := "9c129d58f171175d0f9ced3468cbf2eaf7619fccf425283244a7e2e663965ffa", func := "falsework/falseworklaw12.JournalKeeps", spec := "journalKeeps", unfollowed := true, recurses := true, apart := false, narrowed := true }
def JournalKeepsUptoSaid : Prop := journalKeepsUptoRow.holds Try.pinned (OpenSpec.upto journalKeepsSpec)

/-- 'falseworklaw12.JournalRuns', WHERE WHAT IT READS IS OF BULK AT MOST 1048576: true; the input reads as it did. -/
def journalRunsUptoRow : OpenClaim := { program := "ytnmjcdlgfimnaaa", sum := "9c129d58f171175d0f9ced3468cbf2eaf7619fccf425283244a7e2e663965ffa", func := "falsework/falseworklaw12.JournalRuns", spec := "journalRuns", unfollowed := true, recurses := true, apart := false, narrowed := true }
def JournalRunsUptoSaid : Prop := journalRunsUptoRow.holds Try.pinned (OpenSpec.upto journalRunsSpec)

end Rows
end Go.Proofs.Ytnmjcdlgfimnaaa
