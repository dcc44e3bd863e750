/- The program's structs of plain data, as Lean structures, and how each lies in cells. -/
import Derived.Test.YtnmjcdlgfimnaaaA4
namespace Go.Proofs.Ytnmjcdlgfimnaaa
structure L08Deed where
  Kind : Int
  N : Int
  Paint : Int
  Keep : List Int
def qL08Deed : Rep (Int × Int × Int × (List Int) × Unit) := .pair (.int .i64) (.pair (.int .i64) (.pair (.int .u8) (.pair (.slice (.int .i64)) (.unit))))
def rL08Deed : Rep L08Deed := .iso qL08Deed (fun x => (x.Kind, x.N, x.Paint, x.Keep, ())) (fun t => ⟨t.1, t.2.1, t.2.2.1, t.2.2.2.1⟩) (fun _ => rfl) (fun _ => rfl)
theorem size_rL08Deed : rL08Deed.size = 4 := rfl
theorem agg_rL08Deed : rL08Deed.agg = true := rfl
theorem arrOf_rL08Deed : rL08Deed.arrOf = none := rfl
theorem slOf_rL08Deed (x : L08Deed) : rL08Deed.slOf x = none := rfl
theorem leaf_rL08Deed (x : L08Deed) : rL08Deed.leaf x = .dat rL08Deed x := rfl
theorem explode_rL08Deed (x : L08Deed) : rL08Deed.explode x = [.int .i64 x.Kind, .int .i64 x.N, .int .u8 x.Paint, .dat (.slice (.int .i64)) x.Keep] := rfl
theorem zero_rL08Deed : rL08Deed.zero = ⟨0, 0, 0, []⟩ := rfl
theorem as_rL08Deed (x : L08Deed) (q : List LV) (f : L08Deed → List LV → Prop) : asRL rL08Deed (.dat rL08Deed x :: q) f ↔ f x q := by
  have e : asRL rL08Deed (.dat rL08Deed x :: q) f = datAs rL08Deed (.dat rL08Deed x) (fun a => f a q) := rfl
  rw [e]; simp [datAs]
theorem put_rL08Deed (k : IntKind) (y : Int) (q : List LV) (f : L08Deed → List LV → Prop) : asRL rL08Deed (.int k y :: q) f = asRL qL08Deed (.int k y :: q) fun t r => f ⟨t.1, t.2.1, t.2.2.1, t.2.2.2.1⟩ r := rfl
theorem ok_rL08Deed (x : L08Deed) : rL08Deed.ok x = ((.int .i64 : Rep (Int)).ok x.Kind ∧ (.int .i64 : Rep (Int)).ok x.N ∧ (.int .u8 : Rep (Int)).ok x.Paint ∧ (.slice (.int .i64) : Rep (List Int)).ok x.Keep ∧ True) := rfl
theorem flat_rL08Deed : rL08Deed.flat = false := rfl
structure R08Item where
  Sector : List Int
  To : Int
def qR08Item : Rep ((List Int) × Int × Unit) := .pair (.arr 64 (.int .u8)) (.pair (.int .i64) (.unit))
def rR08Item : Rep R08Item := .iso qR08Item (fun x => (x.Sector, x.To, ())) (fun t => ⟨t.1, t.2.1⟩) (fun _ => rfl) (fun _ => rfl)
theorem size_rR08Item : rR08Item.size = 65 := rfl
theorem agg_rR08Item : rR08Item.agg = true := rfl
theorem arrOf_rR08Item : rR08Item.arrOf = none := rfl
theorem slOf_rR08Item (x : R08Item) : rR08Item.slOf x = none := rfl
theorem leaf_rR08Item (x : R08Item) : rR08Item.leaf x = .dat rR08Item x := rfl
theorem explode_rR08Item (x : R08Item) : rR08Item.explode x = [.dat (.arr 64 (.int .u8)) x.Sector, .int .i64 x.To] := rfl
theorem zero_rR08Item : rR08Item.zero = ⟨(.arr 64 (.int .u8) : Rep (List Int)).zero, 0⟩ := rfl
theorem as_rR08Item (x : R08Item) (q : List LV) (f : R08Item → List LV → Prop) : asRL rR08Item (.dat rR08Item x :: q) f ↔ f x q := by
  have e : asRL rR08Item (.dat rR08Item x :: q) f = datAs rR08Item (.dat rR08Item x) (fun a => f a q) := rfl
  rw [e]; simp [datAs]
theorem put_rR08Item (y : List Int) (q : List LV) (f : R08Item → List LV → Prop) : asRL rR08Item (.dat (.arr 64 (.int .u8)) y :: q) f = asRL qR08Item (.dat (.arr 64 (.int .u8)) y :: q) fun t r => f ⟨t.1, t.2.1⟩ r := rfl
theorem ok_rR08Item (x : R08Item) : rR08Item.ok x = ((.arr 64 (.int .u8) : Rep (List Int)).ok x.Sector ∧ (.int .i64 : Rep (Int)).ok x.To ∧ True) := rfl
theorem flat_rR08Item : rR08Item.flat = true := rfl
structure R08Disk where
  Base : List (List Int)
  Queue : List R08Item
  Burns : Int
  Dead : Bool
def qR08Disk : Rep ((List (List Int)) × (List R08Item) × Int × Bool × Unit) := .pair (.slice (.arr 64 (.int .u8))) (.pair (.slice (rR08Item)) (.pair (.int .i64) (.pair (.bool) (.unit))))
def rR08Disk : Rep R08Disk := .iso qR08Disk (fun x => (x.Base, x.Queue, x.Burns, x.Dead, ())) (fun t => ⟨t.1, t.2.1, t.2.2.1, t.2.2.2.1⟩) (fun _ => rfl) (fun _ => rfl)
theorem size_rR08Disk : rR08Disk.size = 4 := rfl
theorem agg_rR08Disk : rR08Disk.agg = true := rfl
theorem arrOf_rR08Disk : rR08Disk.arrOf = none := rfl
theorem slOf_rR08Disk (x : R08Disk) : rR08Disk.slOf x = none := rfl
theorem leaf_rR08Disk (x : R08Disk) : rR08Disk.leaf x = .dat rR08Disk x := rfl
theorem explode_rR08Disk (x : R08Disk) : rR08Disk.explode x = [.dat (.slice (.arr 64 (.int .u8))) x.Base, .dat (.slice (rR08Item)) x.Queue, .int .i64 x.Burns, .bool x.Dead] := rfl
theorem zero_rR08Disk : rR08Disk.zero = ⟨[], [], 0, false⟩ := rfl
theorem as_rR08Disk (x : R08Disk) (q : List LV) (f : R08Disk → List LV → Prop) : asRL rR08Disk (.dat rR08Disk x :: q) f ↔ f x q := by
  have e : asRL rR08Disk (.dat rR08Disk x :: q) f = datAs rR08Disk (.dat rR08Disk x) (fun a => f a q) := rfl
  rw [e]; simp [datAs]
theorem put_rR08Disk (y : List (List Int)) (q : List LV) (f : R08Disk → List LV → Prop) : asRL rR08Disk (.dat (.slice (.arr 64 (.int .u8))) y :: q) f = asRL qR08Disk (.dat (.slice (.arr 64 (.int .u8))) y :: q) fun t r => f ⟨t.1, t.2.1, t.2.2.1, t.2.2.2.1⟩ r := rfl
theorem put_rR08Diskn  (q : List LV) (f : R08Disk → List LV → Prop) : asRL rR08Disk (.nils :: q) f = asRL qR08Disk (.nils :: q) fun t r => f ⟨t.1, t.2.1, t.2.2.1, t.2.2.2.1⟩ r := rfl
theorem ok_rR08Disk (x : R08Disk) : rR08Disk.ok x = ((.slice (.arr 64 (.int .u8)) : Rep (List (List Int))).ok x.Base ∧ (.slice (rR08Item) : Rep (List R08Item)).ok x.Queue ∧ (.int .i64 : Rep (Int)).ok x.Burns ∧ (.bool : Rep (Bool)).ok x.Dead ∧ True) := rfl
theorem flat_rR08Disk : rR08Disk.flat = false := rfl
structure L09Act where
  Kind : Int
  At : Int
  Stamp : Int
  Bytes : List Int
  Keep : List Int
def qL09Act : Rep (Int × Int × Int × (List Int) × (List Int) × Unit) := .pair (.int .i64) (.pair (.int .i64) (.pair (.int .u64) (.pair (.slice (.int .u8)) (.pair (.slice (.int .i64)) (.unit)))))
def rL09Act : Rep L09Act := .iso qL09Act (fun x => (x.Kind, x.At, x.Stamp, x.Bytes, x.Keep, ())) (fun t => ⟨t.1, t.2.1, t.2.2.1, t.2.2.2.1, t.2.2.2.2.1⟩) (fun _ => rfl) (fun _ => rfl)
theorem size_rL09Act : rL09Act.size = 5 := rfl
theorem agg_rL09Act : rL09Act.agg = true := rfl
theorem arrOf_rL09Act : rL09Act.arrOf = none := rfl
theorem slOf_rL09Act (x : L09Act) : rL09Act.slOf x = none := rfl
theorem leaf_rL09Act (x : L09Act) : rL09Act.leaf x = .dat rL09Act x := rfl
theorem explode_rL09Act (x : L09Act) : rL09Act.explode x = [.int .i64 x.Kind, .int .i64 x.At, .int .u64 x.Stamp, .dat (.slice (.int .u8)) x.Bytes, .dat (.slice (.int .i64)) x.Keep] := rfl
theorem zero_rL09Act : rL09Act.zero = ⟨0, 0, 0, [], []⟩ := rfl
theorem as_rL09Act (x : L09Act) (q : List LV) (f : L09Act → List LV → Prop) : asRL rL09Act (.dat rL09Act x :: q) f ↔ f x q := by
  have e : asRL rL09Act (.dat rL09Act x :: q) f = datAs rL09Act (.dat rL09Act x) (fun a => f a q) := rfl
  rw [e]; simp [datAs]
theorem put_rL09Act (k : IntKind) (y : Int) (q : List LV) (f : L09Act → List LV → Prop) : asRL rL09Act (.int k y :: q) f = asRL qL09Act (.int k y :: q) fun t r => f ⟨t.1, t.2.1, t.2.2.1, t.2.2.2.1, t.2.2.2.2.1⟩ r := rfl
theorem ok_rL09Act (x : L09Act) : rL09Act.ok x = ((.int .i64 : Rep (Int)).ok x.Kind ∧ (.int .i64 : Rep (Int)).ok x.At ∧ (.int .u64 : Rep (Int)).ok x.Stamp ∧ (.slice (.int .u8) : Rep (List Int)).ok x.Bytes ∧ (.slice (.int .i64) : Rep (List Int)).ok x.Keep ∧ True) := rfl
theorem flat_rL09Act : rL09Act.flat = false := rfl
structure L12Past where
  state : List UInt8
  records : List (List UInt8)
def qL12Past : Rep ((List UInt8) × (List (List UInt8)) × Unit) := .pair (.str) (.pair (.slice (.str)) (.unit))
def rL12Past : Rep L12Past := .iso qL12Past (fun x => (x.state, x.records, ())) (fun t => ⟨t.1, t.2.1⟩) (fun _ => rfl) (fun _ => rfl)
theorem size_rL12Past : rL12Past.size = 2 := rfl
theorem agg_rL12Past : rL12Past.agg = true := rfl
theorem arrOf_rL12Past : rL12Past.arrOf = none := rfl
theorem slOf_rL12Past (x : L12Past) : rL12Past.slOf x = none := rfl
theorem leaf_rL12Past (x : L12Past) : rL12Past.leaf x = .dat rL12Past x := rfl
theorem explode_rL12Past (x : L12Past) : rL12Past.explode x = [.str x.state, .dat (.slice (.str)) x.records] := rfl
theorem zero_rL12Past : rL12Past.zero = ⟨[], []⟩ := rfl
theorem as_rL12Past (x : L12Past) (q : List LV) (f : L12Past → List LV → Prop) : asRL rL12Past (.dat rL12Past x :: q) f ↔ f x q := by
  have e : asRL rL12Past (.dat rL12Past x :: q) f = datAs rL12Past (.dat rL12Past x) (fun a => f a q) := rfl
  rw [e]; simp [datAs]
theorem put_rL12Past (y : List UInt8) (q : List LV) (f : L12Past → List LV → Prop) : asRL rL12Past (.str y :: q) f = asRL qL12Past (.str y :: q) fun t r => f ⟨t.1, t.2.1⟩ r := rfl
theorem ok_rL12Past (x : L12Past) : rL12Past.ok x = ((.str : Rep (List UInt8)).ok x.state ∧ (.slice (.str) : Rep (List (List UInt8))).ok x.records ∧ True) := rfl
theorem flat_rL12Past : rL12Past.flat = false := rfl
structure L12Act where
  Kind : Int
  At : Int
  Bytes : List Int
  Keep : List Int
def qL12Act : Rep (Int × Int × (List Int) × (List Int) × Unit) := .pair (.int .i64) (.pair (.int .i64) (.pair (.slice (.int .u8)) (.pair (.slice (.int .i64)) (.unit))))
def rL12Act : Rep L12Act := .iso qL12Act (fun x => (x.Kind, x.At, x.Bytes, x.Keep, ())) (fun t => ⟨t.1, t.2.1, t.2.2.1, t.2.2.2.1⟩) (fun _ => rfl) (fun _ => rfl)
theorem size_rL12Act : rL12Act.size = 4 := rfl
theorem agg_rL12Act : rL12Act.agg = true := rfl
theorem arrOf_rL12Act : rL12Act.arrOf = none := rfl
theorem slOf_rL12Act (x : L12Act) : rL12Act.slOf x = none := rfl
theorem leaf_rL12Act (x : L12Act) : rL12Act.leaf x = .dat rL12Act x := rfl
theorem explode_rL12Act (x : L12Act) : rL12Act.explode x = [.int .i64 x.Kind, .int .i64 x.At, .dat (.slice (.int .u8)) x.Bytes, .dat (.slice (.int .i64)) x.Keep] := rfl
theorem zero_rL12Act : rL12Act.zero = ⟨0, 0, [], []⟩ := rfl
theorem as_rL12Act (x : L12Act) (q : List LV) (f : L12Act → List LV → Prop) : asRL rL12Act (.dat rL12Act x :: q) f ↔ f x q := by
  have e : asRL rL12Act (.dat rL12Act x :: q) f = datAs rL12Act (.dat rL12Act x) (fun a => f a q) := rfl
  rw [e]; simp [datAs]
theorem put_rL12Act (k : IntKind) (y : Int) (q : List LV) (f : L12Act → List LV → Prop) : asRL rL12Act (.int k y :: q) f = asRL qL12Act (.int k y :: q) fun t r => f ⟨t.1, t.2.1, t.2.2.1, t.2.2.2.1⟩ r := rfl
theorem ok_rL12Act (x : L12Act) : rL12Act.ok x = ((.int .i64 : Rep (Int)).ok x.Kind ∧ (.int .i64 : Rep (Int)).ok x.At ∧ (.slice (.int .u8) : Rep (List Int)).ok x.Bytes ∧ (.slice (.int .i64) : Rep (List Int)).ok x.Keep ∧ True) := rfl
theorem flat_rL12Act : rL12Act.flat = false := rfl
structure R10Log where
  Disk : R08Disk
  At : Int
  End : Int
  Stamp : Int
def qR10Log : Rep (R08Disk × Int × Int × Int × Unit) := .pair (rR08Disk) (.pair (.int .i64) (.pair (.int .i64) (.pair (.int .u64) (.unit))))
def rR10Log : Rep R10Log := .iso qR10Log (fun x => (x.Disk, x.At, x.End, x.Stamp, ())) (fun t => ⟨t.1, t.2.1, t.2.2.1, t.2.2.2.1⟩) (fun _ => rfl) (fun _ => rfl)
theorem size_rR10Log : rR10Log.size = 7 := rfl
theorem agg_rR10Log : rR10Log.agg = true := rfl
theorem arrOf_rR10Log : rR10Log.arrOf = none := rfl
theorem slOf_rR10Log (x : R10Log) : rR10Log.slOf x = none := rfl
theorem leaf_rR10Log (x : R10Log) : rR10Log.leaf x = .dat rR10Log x := rfl
theorem explode_rR10Log (x : R10Log) : rR10Log.explode x = [.dat rR08Disk x.Disk, .int .i64 x.At, .int .i64 x.End, .int .u64 x.Stamp] := rfl
theorem zero_rR10Log : rR10Log.zero = ⟨rR08Disk.zero, 0, 0, 0⟩ := rfl
theorem as_rR10Log (x : R10Log) (q : List LV) (f : R10Log → List LV → Prop) : asRL rR10Log (.dat rR10Log x :: q) f ↔ f x q := by
  have e : asRL rR10Log (.dat rR10Log x :: q) f = datAs rR10Log (.dat rR10Log x) (fun a => f a q) := rfl
  rw [e]; simp [datAs]
theorem put_rR10Log (y : R08Disk) (q : List LV) (f : R10Log → List LV → Prop) : asRL rR10Log (.dat rR08Disk y :: q) f = asRL qR10Log (.dat rR08Disk y :: q) fun t r => f ⟨t.1, t.2.1, t.2.2.1, t.2.2.2.1⟩ r := rfl
theorem ok_rR10Log (x : R10Log) : rR10Log.ok x = ((rR08Disk : Rep (R08Disk)).ok x.Disk ∧ (.int .i64 : Rep (Int)).ok x.At ∧ (.int .i64 : Rep (Int)).ok x.End ∧ (.int .u64 : Rep (Int)).ok x.Stamp ∧ True) := rfl
theorem flat_rR10Log : rR10Log.flat = false := rfl
structure R12Journal where
  Log : R10Log
  Size : Int
  Ready : Bool
def qR12Journal : Rep (R10Log × Int × Bool × Unit) := .pair (rR10Log) (.pair (.int .i64) (.pair (.bool) (.unit)))
def rR12Journal : Rep R12Journal := .iso qR12Journal (fun x => (x.Log, x.Size, x.Ready, ())) (fun t => ⟨t.1, t.2.1, t.2.2.1⟩) (fun _ => rfl) (fun _ => rfl)
theorem size_rR12Journal : rR12Journal.size = 9 := rfl
theorem agg_rR12Journal : rR12Journal.agg = true := rfl
theorem arrOf_rR12Journal : rR12Journal.arrOf = none := rfl
theorem slOf_rR12Journal (x : R12Journal) : rR12Journal.slOf x = none := rfl
theorem leaf_rR12Journal (x : R12Journal) : rR12Journal.leaf x = .dat rR12Journal x := rfl
theorem explode_rR12Journal (x : R12Journal) : rR12Journal.explode x = [.dat rR10Log x.Log, .int .i64 x.Size, .bool x.Ready] := rfl
theorem zero_rR12Journal : rR12Journal.zero = ⟨rR10Log.zero, 0, false⟩ := rfl
theorem as_rR12Journal (x : R12Journal) (q : List LV) (f : R12Journal → List LV → Prop) : asRL rR12Journal (.dat rR12Journal x :: q) f ↔ f x q := by
  have e : asRL rR12Journal (.dat rR12Journal x :: q) f = datAs rR12Journal (.dat rR12Journal x) (fun a => f a q) := rfl
  rw [e]; simp [datAs]
theorem put_rR12Journal (y : R10Log) (q : List LV) (f : R12Journal → List LV → Prop) : asRL rR12Journal (.dat rR10Log y :: q) f = asRL qR12Journal (.dat rR10Log y :: q) fun t r => f ⟨t.1, t.2.1, t.2.2.1⟩ r := rfl
theorem ok_rR12Journal (x : R12Journal) : rR12Journal.ok x = ((rR10Log : Rep (R10Log)).ok x.Log ∧ (.int .i64 : Rep (Int)).ok x.Size ∧ (.bool : Rep (Bool)).ok x.Ready ∧ True) := rfl
theorem flat_rR12Journal : rR12Journal.flat = false := rfl
structure DiskTicket where
  at_ : Int
  shape : Int
def qDiskTicket : Rep (Int × Int × Unit) := .pair (.int .i64) (.pair (.int .i64) (.unit))
def rDiskTicket : Rep DiskTicket := .iso qDiskTicket (fun x => (x.at_, x.shape, ())) (fun t => ⟨t.1, t.2.1⟩) (fun _ => rfl) (fun _ => rfl)
theorem size_rDiskTicket : rDiskTicket.size = 2 := rfl
theorem agg_rDiskTicket : rDiskTicket.agg = true := rfl
theorem arrOf_rDiskTicket : rDiskTicket.arrOf = none := rfl
theorem slOf_rDiskTicket (x : DiskTicket) : rDiskTicket.slOf x = none := rfl
theorem leaf_rDiskTicket (x : DiskTicket) : rDiskTicket.leaf x = .dat rDiskTicket x := rfl
theorem explode_rDiskTicket (x : DiskTicket) : rDiskTicket.explode x = [.int .i64 x.at_, .int .i64 x.shape] := rfl
theorem zero_rDiskTicket : rDiskTicket.zero = ⟨0, 0⟩ := rfl
theorem as_rDiskTicket (x : DiskTicket) (q : List LV) (f : DiskTicket → List LV → Prop) : asRL rDiskTicket (.dat rDiskTicket x :: q) f ↔ f x q := by
  have e : asRL rDiskTicket (.dat rDiskTicket x :: q) f = datAs rDiskTicket (.dat rDiskTicket x) (fun a => f a q) := rfl
  rw [e]; simp [datAs]
theorem put_rDiskTicket (k : IntKind) (y : Int) (q : List LV) (f : DiskTicket → List LV → Prop) : asRL rDiskTicket (.int k y :: q) f = asRL qDiskTicket (.int k y :: q) fun t r => f ⟨t.1, t.2.1⟩ r := rfl
theorem ok_rDiskTicket (x : DiskTicket) : rDiskTicket.ok x = ((.int .i64 : Rep (Int)).ok x.at_ ∧ (.int .i64 : Rep (Int)).ok x.shape ∧ True) := rfl
theorem flat_rDiskTicket : rDiskTicket.flat = true := rfl
structure R06Reader where
  Bytes : List Int
  Failed : Bool
def qR06Reader : Rep ((List Int) × Bool × Unit) := .pair (.slice (.int .u8)) (.pair (.bool) (.unit))
def rR06Reader : Rep R06Reader := .iso qR06Reader (fun x => (x.Bytes, x.Failed, ())) (fun t => ⟨t.1, t.2.1⟩) (fun _ => rfl) (fun _ => rfl)
theorem size_rR06Reader : rR06Reader.size = 2 := rfl
theorem agg_rR06Reader : rR06Reader.agg = true := rfl
theorem arrOf_rR06Reader : rR06Reader.arrOf = none := rfl
theorem slOf_rR06Reader (x : R06Reader) : rR06Reader.slOf x = none := rfl
theorem leaf_rR06Reader (x : R06Reader) : rR06Reader.leaf x = .dat rR06Reader x := rfl
theorem explode_rR06Reader (x : R06Reader) : rR06Reader.explode x = [.dat (.slice (.int .u8)) x.Bytes, .bool x.Failed] := rfl
theorem zero_rR06Reader : rR06Reader.zero = ⟨[], false⟩ := rfl
theorem as_rR06Reader (x : R06Reader) (q : List LV) (f : R06Reader → List LV → Prop) : asRL rR06Reader (.dat rR06Reader x :: q) f ↔ f x q := by
  have e : asRL rR06Reader (.dat rR06Reader x :: q) f = datAs rR06Reader (.dat rR06Reader x) (fun a => f a q) := rfl
  rw [e]; simp [datAs]
theorem put_rR06Reader (y : List Int) (q : List LV) (f : R06Reader → List LV → Prop) : asRL rR06Reader (.dat (.slice (.int .u8)) y :: q) f = asRL qR06Reader (.dat (.slice (.int .u8)) y :: q) fun t r => f ⟨t.1, t.2.1⟩ r := rfl
theorem put_rR06Readern  (q : List LV) (f : R06Reader → List LV → Prop) : asRL rR06Reader (.nils :: q) f = asRL qR06Reader (.nils :: q) fun t r => f ⟨t.1, t.2.1⟩ r := rfl
theorem ok_rR06Reader (x : R06Reader) : rR06Reader.ok x = ((.slice (.int .u8) : Rep (List Int)).ok x.Bytes ∧ (.bool : Rep (Bool)).ok x.Failed ∧ True) := rfl
theorem flat_rR06Reader : rR06Reader.flat = false := rfl
structure PackReader where
  bytes : List Int
  failed : Bool
def qPackReader : Rep ((List Int) × Bool × Unit) := .pair (.slice (.int .u8)) (.pair (.bool) (.unit))
def rPackReader : Rep PackReader := .iso qPackReader (fun x => (x.bytes, x.failed, ())) (fun t => ⟨t.1, t.2.1⟩) (fun _ => rfl) (fun _ => rfl)
theorem size_rPackReader : rPackReader.size = 2 := rfl
theorem agg_rPackReader : rPackReader.agg = true := rfl
theorem arrOf_rPackReader : rPackReader.arrOf = none := rfl
theorem slOf_rPackReader (x : PackReader) : rPackReader.slOf x = none := rfl
theorem leaf_rPackReader (x : PackReader) : rPackReader.leaf x = .dat rPackReader x := rfl
theorem explode_rPackReader (x : PackReader) : rPackReader.explode x = [.dat (.slice (.int .u8)) x.bytes, .bool x.failed] := rfl
theorem zero_rPackReader : rPackReader.zero = ⟨[], false⟩ := rfl
theorem as_rPackReader (x : PackReader) (q : List LV) (f : PackReader → List LV → Prop) : asRL rPackReader (.dat rPackReader x :: q) f ↔ f x q := by
  have e : asRL rPackReader (.dat rPackReader x :: q) f = datAs rPackReader (.dat rPackReader x) (fun a => f a q) := rfl
  rw [e]; simp [datAs]
theorem put_rPackReader (y : List Int) (q : List LV) (f : PackReader → List LV → Prop) : asRL rPackReader (.dat (.slice (.int .u8)) y :: q) f = asRL qPackReader (.dat (.slice (.int .u8)) y :: q) fun t r => f ⟨t.1, t.2.1⟩ r := rfl
theorem put_rPackReadern  (q : List LV) (f : PackReader → List LV → Prop) : asRL rPackReader (.nils :: q) f = asRL qPackReader (.nils :: q) fun t r => f ⟨t.1, t.2.1⟩ r := rfl
theorem ok_rPackReader (x : PackReader) : rPackReader.ok x = ((.slice (.int .u8) : Rep (List Int)).ok x.bytes ∧ (.bool : Rep (Bool)).ok x.failed ∧ True) := rfl
theorem flat_rPackReader : rPackReader.flat = false := rfl
attribute [push_cast] size_rL08Deed agg_rL08Deed arrOf_rL08Deed slOf_rL08Deed leaf_rL08Deed explode_rL08Deed zero_rL08Deed as_rL08Deed put_rL08Deed ok_rL08Deed flat_rL08Deed size_rR08Item agg_rR08Item arrOf_rR08Item slOf_rR08Item leaf_rR08Item explode_rR08Item zero_rR08Item as_rR08Item put_rR08Item ok_rR08Item flat_rR08Item size_rR08Disk agg_rR08Disk arrOf_rR08Disk slOf_rR08Disk leaf_rR08Disk explode_rR08Disk zero_rR08Disk as_rR08Disk put_rR08Disk put_rR08Diskn ok_rR08Disk flat_rR08Disk size_rL09Act agg_rL09Act arrOf_rL09Act slOf_rL09Act leaf_rL09Act explode_rL09Act zero_rL09Act as_rL09Act put_rL09Act ok_rL09Act flat_rL09Act size_rL12Past agg_rL12Past arrOf_rL12Past slOf_rL12Past leaf_rL12Past explode_rL12Past zero_rL12Past as_rL12Past put_rL12Past ok_rL12Past flat_rL12Past size_rL12Act agg_rL12Act arrOf_rL12Act slOf_rL12Act leaf_rL12Act explode_rL12Act zero_rL12Act as_rL12Act put_rL12Act ok_rL12Act flat_rL12Act size_rR10Log agg_rR10Log arrOf_rR10Log slOf_rR10Log leaf_rR10Log explode_rR10Log zero_rR10Log as_rR10Log put_rR10Log ok_rR10Log flat_rR10Log size_rR12Journal agg_rR12Journal arrOf_rR12Journal slOf_rR12Journal leaf_rR12Journal explode_rR12Journal zero_rR12Journal as_rR12Journal put_rR12Journal ok_rR12Journal flat_rR12Journal size_rDiskTicket agg_rDiskTicket arrOf_rDiskTicket slOf_rDiskTicket leaf_rDiskTicket explode_rDiskTicket zero_rDiskTicket as_rDiskTicket put_rDiskTicket ok_rDiskTicket flat_rDiskTicket size_rR06Reader agg_rR06Reader arrOf_rR06Reader slOf_rR06Reader leaf_rR06Reader explode_rR06Reader zero_rR06Reader as_rR06Reader put_rR06Reader put_rR06Readern ok_rR06Reader flat_rR06Reader size_rPackReader agg_rPackReader arrOf_rPackReader slOf_rPackReader leaf_rPackReader explode_rPackReader zero_rPackReader as_rPackReader put_rPackReader put_rPackReadern ok_rPackReader flat_rPackReader qL08Deed qR08Item qR08Disk qL09Act qL12Past qL12Act qR10Log qR12Journal qDiskTicket qR06Reader qPackReader
end Go.Proofs.Ytnmjcdlgfimnaaa
