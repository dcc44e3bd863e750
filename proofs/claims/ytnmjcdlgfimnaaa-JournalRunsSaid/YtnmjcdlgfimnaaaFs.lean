/- The program's structs of plain data, as Lean structures, and how each lies in cells. -/
import Derived.Test.YtnmjcdlgfimnaaaA4
namespace Go.Proofs.Ytnmjcdlgfimnaaa
structure Qc6 where
 Kind : Int
 N : Int
 Paint : Int
 Keep : List Int
def Qlp : Rep (Int × Int × Int × (List Int) × Unit) := .pair (.int .i64) (.pair (.int .i64) (.pair (.int .u8) (.pair (.slice (.int .i64)) (.unit))))
def Qcb : Rep Qc6 := .iso Qlp (fun x => (x.Kind, x.N, x.Paint, x.Keep, ())) (fun t => ⟨t.1, t.2.1, t.2.2.1, t.2.2.2.1⟩) (fun _ => rfl) (fun _ => rfl)
theorem Qlt : Qcb.size = 4 := rfl
theorem Qoe : Qcb.agg = true := rfl
theorem Qki : Qcb.arrOf = none := rfl
theorem Qld (x : Qc6) : Qcb.slOf x = none := rfl
theorem Ql1 (x : Qc6) : Qcb.leaf x = .dat Qcb x := rfl
theorem Qiq (x : Qc6) : Qcb.explode x = [.int .i64 x.Kind, .int .i64 x.N, .int .u8 x.Paint, .dat (.slice (.int .i64)) x.Keep] := rfl
theorem Ql3 : Qcb.zero = ⟨0, 0, 0, []⟩ := rfl
theorem Qoi (x : Qc6) (q : List LV) (f : Qc6 → List LV → Prop) : Qdd Qcb (.dat Qcb x :: q) f ↔ f x q := by
 have e : Qdd Qcb (.dat Qcb x :: q) f = Qc7 Qcb (.dat Qcb x) (fun a => f a q) := rfl
 rw [e]; simp [Qc7]
theorem Qoa (k : IntKind) (y : Int) (q : List LV) (f : Qc6 → List LV → Prop) : Qdd Qcb (.int k y :: q) f = Qdd Qlp (.int k y :: q) fun t r => f ⟨t.1, t.2.1, t.2.2.1, t.2.2.2.1⟩ r := rfl
theorem Qop (x : Qc6) : Qcb.ok x = ((.int .i64 : Rep (Int)).ok x.Kind ∧ (.int .i64 : Rep (Int)).ok x.N ∧ (.int .u8 : Rep (Int)).ok x.Paint ∧ (.slice (.int .i64) : Rep (List Int)).ok x.Keep ∧ True) := rfl
theorem Qls : Qcb.flat = false := rfl
structure Qad where
 Sector : List Int
 To : Int
def Ql6 : Rep ((List Int) × Int × Unit) := .pair (.arr 64 (.int .u8)) (.pair (.int .i64) (.unit))
def Qb4 : Rep Qad := .iso Ql6 (fun x => (x.Sector, x.To, ())) (fun t => ⟨t.1, t.2.1⟩) (fun _ => rfl) (fun _ => rfl)
theorem Qln : Qb4.size = 65 := rfl
theorem Qnb : Qb4.agg = true := rfl
theorem Qke : Qb4.arrOf = none := rfl
theorem Ql9 (x : Qad) : Qb4.slOf x = none := rfl
theorem Qlz (x : Qad) : Qb4.leaf x = .dat Qb4 x := rfl
theorem Qik (x : Qad) : Qb4.explode x = [.dat (.arr 64 (.int .u8)) x.Sector, .int .i64 x.To] := rfl
theorem Qmm : Qb4.zero = ⟨(.arr 64 (.int .u8) : Rep (List Int)).zero, 0⟩ := rfl
theorem Qoo (x : Qad) (q : List LV) (f : Qad → List LV → Prop) : Qdd Qb4 (.dat Qb4 x :: q) f ↔ f x q := by
 have e : Qdd Qb4 (.dat Qb4 x :: q) f = Qc7 Qb4 (.dat Qb4 x) (fun a => f a q) := rfl
 rw [e]; simp [Qc7]
theorem Qnc (y : List Int) (q : List LV) (f : Qad → List LV → Prop) : Qdd Qb4 (.dat (.arr 64 (.int .u8)) y :: q) f = Qdd Ql6 (.dat (.arr 64 (.int .u8)) y :: q) fun t r => f ⟨t.1, t.2.1⟩ r := rfl
theorem Qo0 (x : Qad) : Qb4.ok x = ((.arr 64 (.int .u8) : Rep (List Int)).ok x.Sector ∧ (.int .i64 : Rep (Int)).ok x.To ∧ True) := rfl
theorem Qlg : Qb4.flat = true := rfl
structure Qab where
 Base : List (List Int)
 Queue : List Qad
 Burns : Int
 Dead : Bool
def Qiy : Rep ((List (List Int)) × (List Qad) × Int × Bool × Unit) := .pair (.slice (.arr 64 (.int .u8))) (.pair (.slice (Qb4)) (.pair (.int .i64) (.pair (.bool) (.unit))))
def Qa2 : Rep Qab := .iso Qiy (fun x => (x.Base, x.Queue, x.Burns, x.Dead, ())) (fun t => ⟨t.1, t.2.1, t.2.2.1, t.2.2.2.1⟩) (fun _ => rfl) (fun _ => rfl)
theorem Qmk : Qa2.size = 4 := rfl
theorem Qm9 : Qa2.agg = true := rfl
theorem Qkm : Qa2.arrOf = none := rfl
theorem Qlo (x : Qab) : Qa2.slOf x = none := rfl
theorem Qlj (x : Qab) : Qa2.leaf x = .dat Qa2 x := rfl
theorem Qib (x : Qab) : Qa2.explode x = [.dat (.slice (.arr 64 (.int .u8))) x.Base, .dat (.slice (Qb4)) x.Queue, .int .i64 x.Burns, .bool x.Dead] := rfl
theorem Qlq : Qa2.zero = ⟨[], [], 0, false⟩ := rfl
theorem Qoq (x : Qab) (q : List LV) (f : Qab → List LV → Prop) : Qdd Qa2 (.dat Qa2 x :: q) f ↔ f x q := by
 have e : Qdd Qa2 (.dat Qa2 x :: q) f = Qc7 Qa2 (.dat Qa2 x) (fun a => f a q) := rfl
 rw [e]; simp [Qc7]
theorem Qmw (y : List (List Int)) (q : List LV) (f : Qab → List LV → Prop) : Qdd Qa2 (.dat (.slice (.arr 64 (.int .u8))) y :: q) f = Qdd Qiy (.dat (.slice (.arr 64 (.int .u8))) y :: q) fun t r => f ⟨t.1, t.2.1, t.2.2.1, t.2.2.2.1⟩ r := rfl
theorem Qly  (q : List LV) (f : Qab → List LV → Prop) : Qdd Qa2 (.nils :: q) f = Qdd Qiy (.nils :: q) fun t r => f ⟨t.1, t.2.1, t.2.2.1, t.2.2.2.1⟩ r := rfl
theorem Qo8 (x : Qab) : Qa2.ok x = ((.slice (.arr 64 (.int .u8)) : Rep (List (List Int))).ok x.Base ∧ (.slice (Qb4) : Rep (List Qad)).ok x.Queue ∧ (.int .i64 : Rep (Int)).ok x.Burns ∧ (.bool : Rep (Bool)).ok x.Dead ∧ True) := rfl
theorem Qmo : Qa2.flat = false := rfl
structure Qcr where
 Kind : Int
 At : Int
 Stamp : Int
 Bytes : List Int
 Keep : List Int
def Qoz : Rep (Int × Int × Int × (List Int) × (List Int) × Unit) := .pair (.int .i64) (.pair (.int .i64) (.pair (.int .u64) (.pair (.slice (.int .u8)) (.pair (.slice (.int .i64)) (.unit)))))
def Qb2 : Rep Qcr := .iso Qoz (fun x => (x.Kind, x.At, x.Stamp, x.Bytes, x.Keep, ())) (fun t => ⟨t.1, t.2.1, t.2.2.1, t.2.2.2.1, t.2.2.2.2.1⟩) (fun _ => rfl) (fun _ => rfl)
theorem Qn9 : Qb2.size = 5 := rfl
theorem Qou : Qb2.agg = true := rfl
theorem Ql4 : Qb2.arrOf = none := rfl
theorem Qob (x : Qcr) : Qb2.slOf x = none := rfl
theorem Qnk (x : Qcr) : Qb2.leaf x = .dat Qb2 x := rfl
theorem Qj5 (x : Qcr) : Qb2.explode x = [.int .i64 x.Kind, .int .i64 x.At, .int .u64 x.Stamp, .dat (.slice (.int .u8)) x.Bytes, .dat (.slice (.int .i64)) x.Keep] := rfl
theorem Qmx : Qb2.zero = ⟨0, 0, 0, [], []⟩ := rfl
theorem Qqn (x : Qcr) (q : List LV) (f : Qcr → List LV → Prop) : Qdd Qb2 (.dat Qb2 x :: q) f ↔ f x q := by
 have e : Qdd Qb2 (.dat Qb2 x :: q) f = Qc7 Qb2 (.dat Qb2 x) (fun a => f a q) := rfl
 rw [e]; simp [Qc7]
theorem Qok (k : IntKind) (y : Int) (q : List LV) (f : Qcr → List LV → Prop) : Qdd Qb2 (.int k y :: q) f = Qdd Qoz (.int k y :: q) fun t r => f ⟨t.1, t.2.1, t.2.2.1, t.2.2.2.1, t.2.2.2.2.1⟩ r := rfl
theorem Qqz (x : Qcr) : Qb2.ok x = ((.int .i64 : Rep (Int)).ok x.Kind ∧ (.int .i64 : Rep (Int)).ok x.At ∧ (.int .u64 : Rep (Int)).ok x.Stamp ∧ (.slice (.int .u8) : Rep (List Int)).ok x.Bytes ∧ (.slice (.int .i64) : Rep (List Int)).ok x.Keep ∧ True) := rfl
theorem Qnh : Qb2.flat = false := rfl
structure Qdm where
 state : List UInt8
 records : List (List UInt8)
def Qlb : Rep ((List UInt8) × (List (List UInt8)) × Unit) := .pair (.str) (.pair (.slice (.str)) (.unit))
def Qci : Rep Qdm := .iso Qlb (fun x => (x.state, x.records, ())) (fun t => ⟨t.1, t.2.1⟩) (fun _ => rfl) (fun _ => rfl)
theorem Qlm : Qci.size = 2 := rfl
theorem Qnl : Qci.agg = true := rfl
theorem Qks : Qci.arrOf = none := rfl
theorem Ql5 (x : Qdm) : Qci.slOf x = none := rfl
theorem Qlw (x : Qdm) : Qci.leaf x = .dat Qci x := rfl
theorem Qih (x : Qdm) : Qci.explode x = [.str x.state, .dat (.slice (.str)) x.records] := rfl
theorem Ql0 : Qci.zero = ⟨[], []⟩ := rfl
theorem Qow (x : Qdm) (q : List LV) (f : Qdm → List LV → Prop) : Qdd Qci (.dat Qci x :: q) f ↔ f x q := by
 have e : Qdd Qci (.dat Qci x :: q) f = Qc7 Qci (.dat Qci x) (fun a => f a q) := rfl
 rw [e]; simp [Qc7]
theorem Qn1 (y : List UInt8) (q : List LV) (f : Qdm → List LV → Prop) : Qdd Qci (.str y :: q) f = Qdd Qlb (.str y :: q) fun t r => f ⟨t.1, t.2.1⟩ r := rfl
theorem Qpb (x : Qdm) : Qci.ok x = ((.str : Rep (List UInt8)).ok x.state ∧ (.slice (.str) : Rep (List (List UInt8))).ok x.records ∧ True) := rfl
theorem Qlf : Qci.flat = false := rfl
structure Qct where
 Kind : Int
 At : Int
 Bytes : List Int
 Keep : List Int
def Qmb : Rep (Int × Int × (List Int) × (List Int) × Unit) := .pair (.int .i64) (.pair (.int .i64) (.pair (.slice (.int .u8)) (.pair (.slice (.int .i64)) (.unit))))
def Qce : Rep Qct := .iso Qmb (fun x => (x.Kind, x.At, x.Bytes, x.Keep, ())) (fun t => ⟨t.1, t.2.1, t.2.2.1, t.2.2.2.1⟩) (fun _ => rfl) (fun _ => rfl)
theorem Qnj : Qce.size = 4 := rfl
theorem Qpl : Qce.agg = true := rfl
theorem Qml : Qce.arrOf = none := rfl
theorem Qne (x : Qct) : Qce.slOf x = none := rfl
theorem Qod (x : Qct) : Qce.leaf x = .dat Qce x := rfl
theorem Qj1 (x : Qct) : Qce.explode x = [.int .i64 x.Kind, .int .i64 x.At, .dat (.slice (.int .u8)) x.Bytes, .dat (.slice (.int .i64)) x.Keep] := rfl
theorem Qnv : Qce.zero = ⟨0, 0, [], []⟩ := rfl
theorem Qq0 (x : Qct) (q : List LV) (f : Qct → List LV → Prop) : Qdd Qce (.dat Qce x :: q) f ↔ f x q := by
 have e : Qdd Qce (.dat Qce x :: q) f = Qc7 Qce (.dat Qce x) (fun a => f a q) := rfl
 rw [e]; simp [Qc7]
theorem Qpe (k : IntKind) (y : Int) (q : List LV) (f : Qct → List LV → Prop) : Qdd Qce (.int k y :: q) f = Qdd Qmb (.int k y :: q) fun t r => f ⟨t.1, t.2.1, t.2.2.1, t.2.2.2.1⟩ r := rfl
theorem Qqg (x : Qct) : Qce.ok x = ((.int .i64 : Rep (Int)).ok x.Kind ∧ (.int .i64 : Rep (Int)).ok x.At ∧ (.slice (.int .u8) : Rep (List Int)).ok x.Bytes ∧ (.slice (.int .i64) : Rep (List Int)).ok x.Keep ∧ True) := rfl
theorem Qn6 : Qce.flat = false := rfl
structure Qdb where
 Disk : Qab
 At : Int
 End : Int
 Stamp : Int
def Qpg : Rep (Qab × Int × Int × Int × Unit) := .pair (Qa2) (.pair (.int .i64) (.pair (.int .i64) (.pair (.int .u64) (.unit))))
def Qb9 : Rep Qdb := .iso Qpg (fun x => (x.Disk, x.At, x.End, x.Stamp, ())) (fun t => ⟨t.1, t.2.1, t.2.2.1, t.2.2.2.1⟩) (fun _ => rfl) (fun _ => rfl)
theorem Qnx : Qb9.size = 7 := rfl
theorem Qpc : Qb9.agg = true := rfl
theorem Qlr : Qb9.arrOf = none := rfl
theorem Qnq (x : Qdb) : Qb9.slOf x = none := rfl
theorem Qn8 (x : Qdb) : Qb9.leaf x = .dat Qb9 x := rfl
theorem Qjn (x : Qdb) : Qb9.explode x = [.dat Qa2 x.Disk, .int .i64 x.At, .int .i64 x.End, .int .u64 x.Stamp] := rfl
theorem Qmz : Qb9.zero = ⟨Qa2.zero, 0, 0, 0⟩ := rfl
theorem Qql (x : Qdb) (q : List LV) (f : Qdb → List LV → Prop) : Qdd Qb9 (.dat Qb9 x :: q) f ↔ f x q := by
 have e : Qdd Qb9 (.dat Qb9 x :: q) f = Qc7 Qb9 (.dat Qb9 x) (fun a => f a q) := rfl
 rw [e]; simp [Qc7]
theorem Qph (y : Qab) (q : List LV) (f : Qdb → List LV → Prop) : Qdd Qb9 (.dat Qa2 y :: q) f = Qdd Qpg (.dat Qa2 y :: q) fun t r => f ⟨t.1, t.2.1, t.2.2.1, t.2.2.2.1⟩ r := rfl
theorem Qq6 (x : Qdb) : Qb9.ok x = ((Qa2 : Rep (Qab)).ok x.Disk ∧ (.int .i64 : Rep (Int)).ok x.At ∧ (.int .i64 : Rep (Int)).ok x.End ∧ (.int .u64 : Rep (Int)).ok x.Stamp ∧ True) := rfl
theorem Qnw : Qb9.flat = false := rfl
structure Qbw where
 Log : Qdb
 Size : Int
 Ready : Bool
def Qe4 : Rep (Qdb × Int × Bool × Unit) := .pair (Qb9) (.pair (.int .i64) (.pair (.bool) (.unit)))
def Qa4 : Rep Qbw := .iso Qe4 (fun x => (x.Log, x.Size, x.Ready, ())) (fun t => ⟨t.1, t.2.1, t.2.2.1⟩) (fun _ => rfl) (fun _ => rfl)
theorem Qin : Qa4.size = 9 := rfl
theorem Qka : Qa4.agg = true := rfl
theorem Qhd : Qa4.arrOf = none := rfl
theorem Qif (x : Qbw) : Qa4.slOf x = none := rfl
theorem Qh8 (x : Qbw) : Qa4.leaf x = .dat Qa4 x := rfl
theorem Qgg (x : Qbw) : Qa4.explode x = [.dat Qb9 x.Log, .int .i64 x.Size, .bool x.Ready] := rfl
theorem Qig : Qa4.zero = ⟨Qb9.zero, 0, false⟩ := rfl
theorem Qkq (x : Qbw) (q : List LV) (f : Qbw → List LV → Prop) : Qdd Qa4 (.dat Qa4 x :: q) f ↔ f x q := by
 have e : Qdd Qa4 (.dat Qa4 x :: q) f = Qc7 Qa4 (.dat Qa4 x) (fun a => f a q) := rfl
 rw [e]; simp [Qc7]
theorem Qjj (y : Qdb) (q : List LV) (f : Qbw → List LV → Prop) : Qdd Qa4 (.dat Qb9 y :: q) f = Qdd Qe4 (.dat Qb9 y :: q) fun t r => f ⟨t.1, t.2.1, t.2.2.1⟩ r := rfl
theorem Qku (x : Qbw) : Qa4.ok x = ((Qb9 : Rep (Qdb)).ok x.Log ∧ (.int .i64 : Rep (Int)).ok x.Size ∧ (.bool : Rep (Bool)).ok x.Ready ∧ True) := rfl
theorem Qij : Qa4.flat = false := rfl
structure Qbq where
 at_ : Int
 shape : Int
def Qga : Rep (Int × Int × Unit) := .pair (.int .i64) (.pair (.int .i64) (.unit))
def Qa8 : Rep Qbq := .iso Qga (fun x => (x.at_, x.shape, ())) (fun t => ⟨t.1, t.2.1⟩) (fun _ => rfl) (fun _ => rfl)
theorem Qh6 : Qa8.size = 2 := rfl
theorem Qi7 : Qa8.agg = true := rfl
theorem Qhr : Qa8.arrOf = none := rfl
theorem Qim (x : Qbq) : Qa8.slOf x = none := rfl
theorem Qic (x : Qbq) : Qa8.leaf x = .dat Qa8 x := rfl
theorem Qgc (x : Qbq) : Qa8.explode x = [.int .i64 x.at_, .int .i64 x.shape] := rfl
theorem Qii : Qa8.zero = ⟨0, 0⟩ := rfl
theorem Qkf (x : Qbq) (q : List LV) (f : Qbq → List LV → Prop) : Qdd Qa8 (.dat Qa8 x :: q) f ↔ f x q := by
 have e : Qdd Qa8 (.dat Qa8 x :: q) f = Qc7 Qa8 (.dat Qa8 x) (fun a => f a q) := rfl
 rw [e]; simp [Qc7]
theorem Qjo (k : IntKind) (y : Int) (q : List LV) (f : Qbq → List LV → Prop) : Qdd Qa8 (.int k y :: q) f = Qdd Qga (.int k y :: q) fun t r => f ⟨t.1, t.2.1⟩ r := rfl
theorem Qkp (x : Qbq) : Qa8.ok x = ((.int .i64 : Rep (Int)).ok x.at_ ∧ (.int .i64 : Rep (Int)).ok x.shape ∧ True) := rfl
theorem Qia : Qa8.flat = true := rfl
structure Qcl where
 Bytes : List Int
 Failed : Bool
def Qfv : Rep ((List Int) × Bool × Unit) := .pair (.slice (.int .u8)) (.pair (.bool) (.unit))
def Qbs : Rep Qcl := .iso Qfv (fun x => (x.Bytes, x.Failed, ())) (fun t => ⟨t.1, t.2.1⟩) (fun _ => rfl) (fun _ => rfl)
theorem Qj6 : Qbs.size = 2 := rfl
theorem Qkr : Qbs.agg = true := rfl
theorem Qir : Qbs.arrOf = none := rfl
theorem Qkb (x : Qcl) : Qbs.slOf x = none := rfl
theorem Qi8 (x : Qcl) : Qbs.leaf x = .dat Qbs x := rfl
theorem Qg3 (x : Qcl) : Qbs.explode x = [.dat (.slice (.int .u8)) x.Bytes, .bool x.Failed] := rfl
theorem Qjq : Qbs.zero = ⟨[], false⟩ := rfl
theorem Qlc (x : Qcl) (q : List LV) (f : Qcl → List LV → Prop) : Qdd Qbs (.dat Qbs x :: q) f ↔ f x q := by
 have e : Qdd Qbs (.dat Qbs x :: q) f = Qc7 Qbs (.dat Qbs x) (fun a => f a q) := rfl
 rw [e]; simp [Qc7]
theorem Qkh (y : List Int) (q : List LV) (f : Qcl → List LV → Prop) : Qdd Qbs (.dat (.slice (.int .u8)) y :: q) f = Qdd Qfv (.dat (.slice (.int .u8)) y :: q) fun t r => f ⟨t.1, t.2.1⟩ r := rfl
theorem Qj9  (q : List LV) (f : Qcl → List LV → Prop) : Qdd Qbs (.nils :: q) f = Qdd Qfv (.nils :: q) fun t r => f ⟨t.1, t.2.1⟩ r := rfl
theorem Qlk (x : Qcl) : Qbs.ok x = ((.slice (.int .u8) : Rep (List Int)).ok x.Bytes ∧ (.bool : Rep (Bool)).ok x.Failed ∧ True) := rfl
theorem Qja : Qbs.flat = false := rfl
structure Qcm where
 bytes : List Int
 failed : Bool
def Qe6 : Rep ((List Int) × Bool × Unit) := .pair (.slice (.int .u8)) (.pair (.bool) (.unit))
def Qbt : Rep Qcm := .iso Qe6 (fun x => (x.bytes, x.failed, ())) (fun t => ⟨t.1, t.2.1⟩) (fun _ => rfl) (fun _ => rfl)
theorem Qip : Qbt.size = 2 := rfl
theorem Qjz : Qbt.agg = true := rfl
theorem Qhb : Qbt.arrOf = none := rfl
theorem Qil (x : Qcm) : Qbt.slOf x = none := rfl
theorem Qie (x : Qcm) : Qbt.leaf x = .dat Qbt x := rfl
theorem Qge (x : Qcm) : Qbt.explode x = [.dat (.slice (.int .u8)) x.bytes, .bool x.failed] := rfl
theorem Qio : Qbt.zero = ⟨[], false⟩ := rfl
theorem Qko (x : Qcm) (q : List LV) (f : Qcm → List LV → Prop) : Qdd Qbt (.dat Qbt x :: q) f ↔ f x q := by
 have e : Qdd Qbt (.dat Qbt x :: q) f = Qc7 Qbt (.dat Qbt x) (fun a => f a q) := rfl
 rw [e]; simp [Qc7]
theorem Qje (y : List Int) (q : List LV) (f : Qcm → List LV → Prop) : Qdd Qbt (.dat (.slice (.int .u8)) y :: q) f = Qdd Qe6 (.dat (.slice (.int .u8)) y :: q) fun t r => f ⟨t.1, t.2.1⟩ r := rfl
theorem Qid  (q : List LV) (f : Qcm → List LV → Prop) : Qdd Qbt (.nils :: q) f = Qdd Qe6 (.nils :: q) fun t r => f ⟨t.1, t.2.1⟩ r := rfl
theorem Qkd (x : Qcm) : Qbt.ok x = ((.slice (.int .u8) : Rep (List Int)).ok x.bytes ∧ (.bool : Rep (Bool)).ok x.failed ∧ True) := rfl
theorem Qh7 : Qbt.flat = false := rfl
attribute [push_cast] Qlt Qoe Qki Qld Ql1 Qiq Ql3 Qoi Qoa Qop Qls Qln Qnb Qke Ql9 Qlz Qik Qmm Qoo Qnc Qo0 Qlg Qmk Qm9 Qkm Qlo Qlj Qib Qlq Qoq Qmw Qly Qo8 Qmo Qn9 Qou Ql4 Qob Qnk Qj5 Qmx Qqn Qok Qqz Qnh Qlm Qnl Qks Ql5 Qlw Qih Ql0 Qow Qn1 Qpb Qlf Qnj Qpl Qml Qne Qod Qj1 Qnv Qq0 Qpe Qqg Qn6 Qnx Qpc Qlr Qnq Qn8 Qjn Qmz Qql Qph Qq6 Qnw Qin Qka Qhd Qif Qh8 Qgg Qig Qkq Qjj Qku Qij Qh6 Qi7 Qhr Qim Qic Qgc Qii Qkf Qjo Qkp Qia Qj6 Qkr Qir Qkb Qi8 Qg3 Qjq Qlc Qkh Qj9 Qlk Qja Qip Qjz Qhb Qil Qie Qge Qio Qko Qje Qid Qkd Qh7 Qlp Ql6 Qiy Qoz Qlb Qmb Qpg Qe4 Qga Qfv Qe6
end Go.Proofs.Ytnmjcdlgfimnaaa
