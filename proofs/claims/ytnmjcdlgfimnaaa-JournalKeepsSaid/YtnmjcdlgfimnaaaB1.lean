/- The document's disk, as plain functions. -/
import Derived.Test.YtnmjcdlgfimnaaaA5
namespace Go.Proofs.Ytnmjcdlgfimnaaa
theorem wide : Cx.P.follows .mixedOrders = true := by kernel_rfl
abbrev zeros : List Int := repl 64 0
def dSpend (d : R08Disk) : R08Disk × Bool :=
  let d1 : R08Disk := if d.Burns = 0 then { d with Dead := true } else d
  if d1.Dead = true then (d1, false) else (if 0 < d1.Burns then { d1 with Burns := d1.Burns - 1 } else d1, true)
def dThere (d : R08Disk) (at_ : Int) : Bool := decide (0 ≤ at_) && decide (at_ < d.Base.length)
def qTo (q : List R08Item) (k : Int) : List (List Int) := (q.filter fun x => x.To == k).map (·.Sector)
def dGet (d : R08Disk) (at_ : Int) : List Int × Int :=
  if dThere d at_ = true then ((qTo d.Queue at_).getLast?.getD (d.Base.getD at_.toNat []), 0) else (zeros, 81)
def dPut (d : R08Disk) (at_ : Int) (s : List Int) : R08Disk × Int :=
  if dThere d at_ = true then
    if (dSpend d).2 = true then ({ (dSpend d).1 with Queue := (dSpend d).1.Queue ++ [⟨s, at_⟩] }, 0) else ((dSpend d).1, 82)
  else (d, 81)
def mixTo (i : Nat) (a b : List Int) : List Int := b.take i ++ a.drop i
def landN (base : List (List Int)) (x : R08Item) (n : Nat) : List (List Int) := base.set x.To.toNat (mixTo n (base.getD x.To.toNat []) x.Sector)
def landL (base : List (List Int)) (x : R08Item) (many : Int) : List (List Int) := landN base x (min many.toNat 64)
def landAll (many : Nat → Int) : Nat → List R08Item → List (List Int) → List (List Int)
  | _, [], base => base
  | k, x :: r, base => landAll many (k + 1) r (landL base x (many k))
def dFlush (d : R08Disk) : R08Disk × Int :=
  if (dSpend d).2 = true then ({ (dSpend d).1 with Base := landAll (fun _ => 64) 0 d.Queue d.Base, Queue := [] }, 0) else ((dSpend d).1, 82)
def dFuse (d : R08Disk) (acts : Int) : R08Disk := { d with Burns := max acts (-1) }
def keepAt (keep : List Int) (k : Nat) : Int := keep.getD k 0
def dPower (d : R08Disk) (keep : List Int) : R08Disk := ⟨landAll (keepAt keep) 0 d.Queue d.Base, [], -1, false⟩
def dBlank (n : Int) : R08Disk := ⟨List.replicate (max 0 (min n 2048)).toNat zeros, [], -1, false⟩
theorem landN_len (base : List (List Int)) (x : R08Item) (n : Nat) : (landN base x n).length = base.length := by simp [landN]
theorem landL_len (base : List (List Int)) (x : R08Item) (n : Int) : (landL base x n).length = base.length := by simp [landL, landN_len]
theorem mixTo_len (i : Nat) (a b : List Int) (h : a.length = b.length) : (mixTo i a b).length = a.length := by
  simp only [mixTo, List.length_append, List.length_take, List.length_drop]; omega
theorem landAll_snoc (many : Nat → Int) : ∀ (k : Nat) (q : List R08Item) (x : R08Item) (base : List (List Int)), landAll many k (q ++ [x]) base = landL (landAll many k q base) x (many (k + q.length))
  | _, [], _, _ => rfl
  | k, y :: r, x, base => by
    simp only [List.cons_append, landAll]
    rw [landAll_snoc many (k + 1) r x]
    congr 2
    simp only [List.length_cons]; omega
theorem landAll_len (many : Nat → Int) : ∀ (k : Nat) (q : List R08Item) (base : List (List Int)), (landAll many k q base).length = base.length
  | _, [], _ => rfl
  | k, y :: r, base => by rw [landAll, landAll_len many (k + 1) r, landL_len]
theorem take_succ_getD {α : Type} (l : List α) (i : Nat) (d : α) (h : i < l.length) : l.take (i + 1) = l.take i ++ [l.getD i d] := by
  rw [List.take_add_one, List.getElem?_eq_getElem h, List.getD_eq_getElem?_getD, List.getElem?_eq_getElem h]; rfl
theorem dSpend_base (d : R08Disk) : (dSpend d).1.Base = d.Base := by unfold dSpend; grind
theorem dSpend_queue (d : R08Disk) : (dSpend d).1.Queue = d.Queue := by unfold dSpend; grind
theorem getD_mem {α : Type} (l : List α) (i : Nat) (d : α) (h : i < l.length) : l.getD i d ∈ l := by
  rw [List.getD_eq_getElem?_getD, List.getElem?_eq_getElem h]
  exact List.getElem_mem h
end Go.Proofs.Ytnmjcdlgfimnaaa
namespace Go.Proofs.Ytnmjcdlgfimnaaa
set_option linter.unusedSimpArgs false
set_option linter.unusedVariables false
set_option maxRecDepth 20000
attribute [local irreducible] vcOps vcCode vcA vcSch Wc
set_option maxHeartbeats 8000000
end Go.Proofs.Ytnmjcdlgfimnaaa
namespace Go.Proofs.Ytnmjcdlgfimnaaa
structure DiskI : Type 1 where
  V : Int → Value
  M : Int → List (List Int)
  way : List DiskTicket
  acts : Option Int
  size : Int
  dead : Bool
def mmD (i : DiskI) : List (Nat × Box) := match i.acts with
  | none => [(1, .segs [.mp 9001, .int .i64 i.size, .own 9002, .nilp, .bool i.dead]), (9001, .mpr (.arr 64 (.int .u8)) i.M i.V none), (9002, .arr rDiskTicket i.way)]
  | some n => [(1, .segs [.mp 9001, .int .i64 i.size, .own 9002, .ptr 9003 [] 0, .bool i.dead]), (9001, .mpr (.arr 64 (.int .u8)) i.M i.V none), (9002, .arr rDiskTicket i.way), (9003, .segs [.int .i64 n])]
def RowsOk (base : List (List Int)) (q : List R08Item) (M : Int → List (List Int)) : Prop :=
  ∀ k, (M k = [] ∧ qTo q k = [] ∧ (0 ≤ k → k < base.length → base.getD k.toNat [] = zeros)) ∨ (0 ≤ k ∧ k < base.length ∧ M k = base.getD k.toNat [] :: qTo q k)
def tks : List R08Item → List R08Item → List DiskTicket
  | _, [] => []
  | acc, x :: r => ⟨x.To, ((qTo acc x.To).length : Int) + 1⟩ :: tks (acc ++ [x]) r
structure DWf (d : R08Disk) : Prop where
  many : d.Base.length ≤ 2048
  sec : ∀ s ∈ d.Base, s.length = 64
  qs : ∀ x ∈ d.Queue, x.Sector.length = 64 ∧ 0 ≤ x.To ∧ x.To < d.Base.length
  qn : d.Queue.length ≤ 1000000000
  burns : -1 ≤ d.Burns ∧ d.Burns ≤ 9223372036854775807
structure DOk (d : R08Disk) (i : DiskI) : Prop where
  wf : DWf d
  size : i.size = d.Base.length
  dead : i.dead = d.Dead
  acts : i.acts = if d.Burns < 0 then none else some d.Burns
  rows : RowsOk d.Base d.Queue i.M
  way : i.way = tks [] d.Queue
theorem qTo_len (q : List R08Item) (k : Int) : (qTo q k).length ≤ q.length := by
  unfold qTo
  rw [List.length_map]
  exact List.length_filter_le _ _
theorem rows_len {D : R08Disk} {M : Int → List (List Int)} (hr : RowsOk D.Base D.Queue M) (hw : DWf D) (k : Int) : (M k).length ≤ 1000000001 := by
  have h1 := qTo_len D.Queue k
  have h2 := hw.qn
  rcases hr k with ⟨e, _, _⟩ | ⟨_, _, e⟩
  · rw [e]; simp
  · rw [e, List.length_cons]; omega
theorem tks_len : ∀ (q acc : List R08Item), (tks acc q).length = q.length
  | [], _ => rfl
  | x :: r, acc => by simp only [tks, List.length_cons, tks_len r]
theorem getLast_getD {α : Type} (d : α) : ∀ (l : List α), l ≠ [] → l.getLast?.getD d = l.getD (l.length - 1) d := by
  intro l h
  rw [List.getLast?_eq_getElem?, List.getD_eq_getElem?_getD]
theorem get_none {D : R08Disk} {k : Int} (h : dThere D k = false) : dGet D k = (zeros, 81) := by simp [dGet, h]
theorem there_iff {D : R08Disk} {k : Int} (h : dThere D k = true) : 0 ≤ k ∧ k < D.Base.length := by
  simpa [dThere] using h
theorem get_zero {D : R08Disk} {k : Int} {M : Int → List (List Int)} (hr : RowsOk D.Base D.Queue M) (h : dThere D k = true) (hm : (M k).length = 0) : dGet D k = (zeros, 0) := by
  obtain ⟨h0, h1⟩ := there_iff h
  rcases hr k with ⟨_, e, e2⟩ | ⟨_, _, e⟩
  · have := e2 h0 h1
    simp only [dGet, h, if_true, e, List.getLast?_nil, Option.getD_none, this]
  · rw [e] at hm; simp at hm
theorem get_some {D : R08Disk} {k : Int} {M : Int → List (List Int)} (hr : RowsOk D.Base D.Queue M) (h : dThere D k = true) (hm : ¬ (M k).length = 0) : dGet D k = ((M k).getD ((M k).length - 1) zeros, 0) := by
  rcases hr k with ⟨e, _, _⟩ | ⟨_, _, e⟩
  · rw [e] at hm; simp at hm
  · simp only [dGet, h, if_true, e, List.length_cons, Nat.add_sub_cancel]
    cases hq : qTo D.Queue k with
    | nil => simp
    | cons x r =>
      rw [getLast_getD _ _ (by simp)]
      simp [List.getD_eq_getElem?_getD]
def DiskO : R08Disk → ObjP := partsO DOk mmD 1
theorem open_disk (D : R08Disk) (rest : List (Nat × Box)) (h1 : ∀ j ∈ idsM rest, j < 5000) (h2 : ∀ e ∈ rest, ∀ j ∈ e.2.ids, j < 5000) :
    Opens ((1, .obj DiskO D) :: rest) (fun i : {i : DiskI // DOk D i} => mmD i.1 ++ rest) := by
  refine opens_parts ?_ ?_ ?_
  · rintro ⟨V, M, way, acts, size, dead⟩ j hj hne
    have : 5000 ≤ j := by
      cases acts <;> simp [mmD, idsM] at hj <;> omega
    exact ⟨fun h => by have := h1 j h; omega, fun e he h => by have := h2 e he j h; omega⟩
  · rintro ⟨V, M, way, acts, size, dead⟩ e he j hj
    cases acts
    · simp only [mmD, List.mem_cons, List.not_mem_nil, or_false] at he
      rcases he with rfl | rfl | rfl <;> simp [Box.ids, idsL, LV.ids] at hj <;> simp [mmD, idsM] <;> omega
    · simp only [mmD, List.mem_cons, List.not_mem_nil, or_false] at he
      rcases he with rfl | rfl | rfl | rfl <;> simp [Box.ids, idsL, LV.ids] at hj <;> simp [mmD, idsM] <;> omega
  · rintro ⟨V, M, way, acts, size, dead⟩ j hj hne
    cases acts <;> simp [mmD, idsM] at hj <;> omega
theorem close_disk0 {D : R08Disk} {m wy : Nat} {V : Int → Value} {M : Int → List (List Int)} {way : List DiskTicket} {size : Int} {dead : Bool} {rest : List (Nat × Box)} (h : DOk D ⟨V, M, way, none, size, dead⟩) (h1 : m ≠ 1) (h2 : wy ≠ 1) (h3 : m ≠ wy) :
    Closes ((1, .segs [.mp m, .int .i64 size, .own wy, .nilp, .bool dead]) :: (m, .mpr (.arr 64 (.int .u8)) M V none) :: (wy, .arr rDiskTicket way) :: rest) ((1, .obj DiskO D) :: rest) := by
  have := closes_parts (ok := DOk) (mm := mmD) (root := 1) (D := D) (rest := rest) ⟨V, M, way, none, size, dead⟩ (fun j => if j = 9001 then m else if j = 9002 then wy else j) h (by simp) (by simp [mmD, idsM]) (by simp [mmD, idsM]) (by
    simp only [mmD, idsM, List.map_cons, List.map_nil, List.mem_cons, List.not_mem_nil, or_false]
    rintro a (rfl | rfl | rfl) b (rfl | rfl | rfl) <;> simp <;> omega)
  simpa [renM, mmD, Box.ren, LV.ren, DiskO] using this
theorem close_disk1 {D : R08Disk} {m wy ac : Nat} {V : Int → Value} {M : Int → List (List Int)} {way : List DiskTicket} {n size : Int} {dead : Bool} {rest : List (Nat × Box)} (h : DOk D ⟨V, M, way, some n, size, dead⟩) (h1 : m ≠ 1) (h2 : wy ≠ 1) (h3 : m ≠ wy) (h4 : ac ≠ 1) (h5 : ac ≠ m) (h6 : ac ≠ wy) :
    Closes ((1, .segs [.mp m, .int .i64 size, .own wy, .ptr ac [] 0, .bool dead]) :: (m, .mpr (.arr 64 (.int .u8)) M V none) :: (wy, .arr rDiskTicket way) :: (ac, .segs [.int .i64 n]) :: rest) ((1, .obj DiskO D) :: rest) := by
  have := closes_parts (ok := DOk) (mm := mmD) (root := 1) (D := D) (rest := rest) ⟨V, M, way, some n, size, dead⟩ (fun j => if j = 9001 then m else if j = 9002 then wy else if j = 9003 then ac else j) h (by simp) (by simp [mmD, idsM]) (by simp [mmD, idsM]) (by
    simp only [mmD, idsM, List.map_cons, List.map_nil, List.mem_cons, List.not_mem_nil, or_false]
    rintro a (rfl | rfl | rfl | rfl) b (rfl | rfl | rfl | rfl) <;> simp <;> omega)
  simpa [renM, mmD, Box.ren, LV.ren, DiskO] using this
theorem fin_disk0 {D : R08Disk} {m wy : Nat} {V : Int → Value} {M : Int → List (List Int)} {way : List DiskTicket} {size : Int} {dead : Bool} {rest : List (Nat × Box)} {rets : List LV} {tv : TV} {s : SymSt} (h : DOk D ⟨V, M, way, none, size, dead⟩)
    (hm : LeM ((1, .segs [.mp m, .int .i64 size, .own wy, .nilp, .bool dead]) :: (m, .mpr (.arr 64 (.int .u8)) M V none) :: (wy, .arr rDiskTicket way) :: rest) s.mem)
    (hn : (1 :: m :: wy :: idsM rest).Nodup) (hr : RetsOk (tv.list.map (SV.frz (rmsM (1 :: m :: wy :: idsM rest) s.mem))) rets) (hi : ∀ i ∈ (tvL rets).ids, i < 5000) : Fin rets ((1, .obj DiskO D) :: rest) tv s := by
  simp only [List.nodup_cons, List.mem_cons, not_or] at hn
  exact ⟨(1, .segs [.mp m, .int .i64 size, .own wy, .nilp, .bool dead]) :: (m, .mpr (.arr 64 (.int .u8)) M V none) :: (wy, .arr rDiskTicket way) :: rest, hr, hm, by simp only [idsM, List.map_cons, List.nodup_cons, List.mem_cons, not_or]; exact hn, close_disk0 h (by omega) (by omega) (by omega), hi⟩
theorem fin_disk1 {D : R08Disk} {m wy ac : Nat} {V : Int → Value} {M : Int → List (List Int)} {way : List DiskTicket} {n size : Int} {dead : Bool} {rest : List (Nat × Box)} {rets : List LV} {tv : TV} {s : SymSt} (h : DOk D ⟨V, M, way, some n, size, dead⟩)
    (hm : LeM ((1, .segs [.mp m, .int .i64 size, .own wy, .ptr ac [] 0, .bool dead]) :: (m, .mpr (.arr 64 (.int .u8)) M V none) :: (wy, .arr rDiskTicket way) :: (ac, .segs [.int .i64 n]) :: rest) s.mem)
    (hn : (1 :: m :: wy :: ac :: idsM rest).Nodup) (hr : RetsOk (tv.list.map (SV.frz (rmsM (1 :: m :: wy :: ac :: idsM rest) s.mem))) rets) (hi : ∀ i ∈ (tvL rets).ids, i < 5000) : Fin rets ((1, .obj DiskO D) :: rest) tv s := by
  simp only [List.nodup_cons, List.mem_cons, not_or] at hn
  exact ⟨(1, .segs [.mp m, .int .i64 size, .own wy, .ptr ac [] 0, .bool dead]) :: (m, .mpr (.arr 64 (.int .u8)) M V none) :: (wy, .arr rDiskTicket way) :: (ac, .segs [.int .i64 n]) :: rest, hr, hm, by simp only [idsM, List.map_cons, List.nodup_cons, List.mem_cons, not_or]; exact hn, close_disk1 h (by omega) (by omega) (by omega) (by omega) (by omega) (by omega), hi⟩
theorem updM_self {α : Type} (M : Int → List α) (k : Int) : updM M k (M k) = M := by
  funext j
  unfold updM
  split
  · rename_i h; rw [h]
  · rfl
theorem fin_disk0r {D : R08Disk} {m wy id : Nat} {k : Int} {l : List (List Int)} {V : Int → Value} {M : Int → List (List Int)} {way : List DiskTicket} {size : Int} {dead : Bool} {rest : List (Nat × Box)} {rets : List LV} {tv : TV} {s : SymSt} (h : DOk D ⟨V, updM M k l, way, none, size, dead⟩)
    (hm : LeM ((1, .segs [.mp m, .int .i64 size, .own wy, .nilp, .bool dead]) :: (m, .mpr (.arr 64 (.int .u8)) M V (some (k, some id))) :: (wy, .arr rDiskTicket way) :: (id, .arr (.arr 64 (.int .u8)) l) :: rest) s.mem)
    (hn : (1 :: m :: wy :: id :: idsM rest).Nodup) (hr : RetsOk (tv.list.map (SV.frz (rmsM (1 :: m :: wy :: id :: idsM rest) s.mem))) rets) (hi : ∀ i ∈ (tvL rets).ids, i < 5000) : Fin rets ((1, .obj DiskO D) :: rest) tv s := by
  simp only [List.nodup_cons, List.mem_cons, not_or] at hn
  obtain ⟨⟨n1, n2, n3, n4⟩, ⟨n5, n6, n7⟩, ⟨n8, n9⟩, n10, n11⟩ := hn
  have hrest : rmM rest id = rest := by
    have gen : ∀ (l : List (Nat × Box)), id ∉ idsM l → rmM l id = l := by
      intro l
      induction l with
      | nil => intro _; rfl
      | cons x r ih =>
        intro h
        simp only [idsM, List.map_cons, List.mem_cons, not_or] at h
        have : (x.1 == id) = false := by simpa using Ne.symm h.1
        unfold rmM
        rw [this, cond_false, ih h.2]
    exact gen rest n10
  refine ⟨(1, .segs [.mp m, .int .i64 size, .own wy, .nilp, .bool dead]) :: (m, .mpr (.arr 64 (.int .u8)) M V (some (k, some id))) :: (wy, .arr rDiskTicket way) :: (id, .arr (.arr 64 (.int .u8)) l) :: rest, hr, hm, ?_, ?_, hi⟩
  · simp only [idsM, List.map_cons, List.nodup_cons, List.mem_cons, not_or]
    exact ⟨⟨n1, n2, n3, n4⟩, ⟨n5, n6, n7⟩, ⟨n8, n9⟩, n10, n11⟩
  · have e1 : (1 == m) = false := by simpa using n1
    have e2 : (m == m) = true := by simp
    have e3 : (1 == id) = false := by simpa using n3
    have e4 : (m == id) = false := by simpa using n6
    have e5 : (wy == id) = false := by simpa using n8
    have e6 : (wy == m) = false := by simpa using Ne.symm n5
    have e7 : (m == 1) = false := by simpa using Ne.symm n1
    have e8 : (id == id) = true := by simp
    refine Closes.trans (Closes.row (m := m) (id := id) (A := .arr 64 (.int .u8)) (M := M) (V := V) (k := k) (l := l) ?_ ?_) ?_
    · simp [getM, e1]
    · simp [getM, e3, e4, e5]
    · simp only [setM, e1, e2, cond_false, cond_true, rmM, e3, e4, e5, e8, hrest]
      exact close_disk0 h (Ne.symm n1) (Ne.symm n2) n5
theorem fin_disk1r {D : R08Disk} {m wy ac id : Nat} {k n : Int} {l : List (List Int)} {V : Int → Value} {M : Int → List (List Int)} {way : List DiskTicket} {size : Int} {dead : Bool} {rest : List (Nat × Box)} {rets : List LV} {tv : TV} {s : SymSt} (h : DOk D ⟨V, updM M k l, way, some n, size, dead⟩)
    (hm : LeM ((1, .segs [.mp m, .int .i64 size, .own wy, .ptr ac [] 0, .bool dead]) :: (m, .mpr (.arr 64 (.int .u8)) M V (some (k, some id))) :: (wy, .arr rDiskTicket way) :: (ac, .segs [.int .i64 n]) :: (id, .arr (.arr 64 (.int .u8)) l) :: rest) s.mem)
    (hn : (1 :: m :: wy :: ac :: id :: idsM rest).Nodup) (hr : RetsOk (tv.list.map (SV.frz (rmsM (1 :: m :: wy :: ac :: id :: idsM rest) s.mem))) rets) (hi : ∀ i ∈ (tvL rets).ids, i < 5000) : Fin rets ((1, .obj DiskO D) :: rest) tv s := by
  simp only [List.nodup_cons, List.mem_cons, not_or] at hn
  obtain ⟨⟨n1, n2, a1, n3, n4⟩, ⟨n5, a2, n6, n7⟩, ⟨a3, n8, n9⟩, ⟨a4, a5⟩, n10, n11⟩ := hn
  have hrest : rmM rest id = rest := by
    have gen : ∀ (l : List (Nat × Box)), id ∉ idsM l → rmM l id = l := by
      intro l
      induction l with
      | nil => intro _; rfl
      | cons x r ih =>
        intro h
        simp only [idsM, List.map_cons, List.mem_cons, not_or] at h
        have : (x.1 == id) = false := by simpa using Ne.symm h.1
        unfold rmM
        rw [this, cond_false, ih h.2]
    exact gen rest n10
  refine ⟨(1, .segs [.mp m, .int .i64 size, .own wy, .ptr ac [] 0, .bool dead]) :: (m, .mpr (.arr 64 (.int .u8)) M V (some (k, some id))) :: (wy, .arr rDiskTicket way) :: (ac, .segs [.int .i64 n]) :: (id, .arr (.arr 64 (.int .u8)) l) :: rest, hr, hm, ?_, ?_, hi⟩
  · simp only [idsM, List.map_cons, List.nodup_cons, List.mem_cons, not_or]
    exact ⟨⟨n1, n2, a1, n3, n4⟩, ⟨n5, a2, n6, n7⟩, ⟨a3, n8, n9⟩, ⟨a4, a5⟩, n10, n11⟩
  · have e1 : (1 == m) = false := by simpa using n1
    have e2 : (m == m) = true := by simp
    have e3 : (1 == id) = false := by simpa using n3
    have e4 : (m == id) = false := by simpa using n6
    have e5 : (wy == id) = false := by simpa using n8
    have e9 : (ac == id) = false := by simpa using a4
    have e8 : (id == id) = true := by simp
    refine Closes.trans (Closes.row (m := m) (id := id) (A := .arr 64 (.int .u8)) (M := M) (V := V) (k := k) (l := l) ?_ ?_) ?_
    · simp [getM, e1]
    · simp [getM, e3, e4, e5, e9]
    · simp only [setM, e1, e2, cond_false, cond_true, rmM, e3, e4, e5, e8, e9, hrest]
      exact close_disk1 h (Ne.symm n1) (Ne.symm n2) n5 (Ne.symm a1) (Ne.symm a2) (Ne.symm a3)
theorem tks_at : ∀ (q acc : List R08Item) (i : Nat), i < q.length → ((tks acc q).getD i ⟨0, 0⟩).at_ = (q.getD i ⟨repl 64 0, 0⟩).To
  | [], _, i, h => by simp at h
  | x :: r, acc, 0, _ => rfl
  | x :: r, acc, i + 1, h => by
    have := tks_at r (acc ++ [x]) i (by simpa using h)
    simpa [tks] using this
theorem updM_same {α : Type} (M : Int → List α) (k : Int) (l : List α) : updM M k l k = l := by simp [updM]
theorem updM_updM {α : Type} (M : Int → List α) (k : Int) (l l' : List α) : updM (updM M k l) k l' = updM M k l' := by
  funext j
  unfold updM
  split <;> rfl
attribute [push_cast] updM_same updM_updM
theorem tks_snoc : ∀ (q acc : List R08Item) (y : R08Item), tks acc (q ++ [y]) = tks acc q ++ [⟨y.To, ((qTo (acc ++ q) y.To).length : Int) + 1⟩]
  | [], acc, y => by simp [tks]
  | x :: r, acc, y => by
    simp only [List.cons_append, tks]
    rw [tks_snoc r (acc ++ [x]) y, List.append_assoc]
    rfl
theorem qTo_snoc (q : List R08Item) (y : R08Item) (k : Int) : qTo (q ++ [y]) k = if y.To = k then qTo q k ++ [y.Sector] else qTo q k := by
  unfold qTo
  rw [List.filter_append, List.map_append]
  by_cases h : y.To = k
  · simp [h]
  · have : (y.To == k) = false := by simpa using h
    simp [h, this]
theorem DOk_put {S : R08Disk} {M : Int → List (List Int)} {V : Int → Value} {acts : Option Int} {k : Int} {x : List Int} {l : List (List Int)} (hwf : DWf S) (hr : RowsOk S.Base S.Queue M) (hx : x.length = 64) (h0 : 0 ≤ k) (h1 : k < S.Base.length) (hq : S.Queue.length < 1000000000)
    (ha : acts = if S.Burns < 0 then none else some S.Burns) (hl : ∃ l0, l = l0 ++ [x] ∧ (((M k).length = 0 ∧ l0 = [repl 64 0]) ∨ ((M k).length ≠ 0 ∧ l0 = M k))) :
    DOk { S with Queue := S.Queue ++ [⟨x, k⟩] } ⟨V, updM M k l, tks [] S.Queue ++ [⟨k, (l.length : Int) - 1⟩], acts, S.Base.length, S.Dead⟩ := by
  obtain ⟨l0, rfl, hl⟩ := hl
  have hrow : l0 = S.Base.getD k.toNat [] :: qTo S.Queue k := by
    rcases hr k with ⟨e, e1, e2⟩ | ⟨_, _, e⟩
    · have : l0 = [repl 64 0] := by rcases hl with ⟨_, h⟩ | ⟨h, _⟩ <;> simp_all
      rw [this, e1, e2 h0 h1]
    · rcases hl with ⟨h, _⟩ | ⟨_, h⟩
      · rw [e] at h; simp at h
      · rw [h, e]
  refine ⟨⟨hwf.many, hwf.sec, ?_, by simp only [List.length_append, List.length_singleton]; omega, hwf.burns⟩, rfl, rfl, ha, ?_, ?_⟩
  · intro y hy
    rcases List.mem_append.1 hy with hy | hy
    · exact hwf.qs y hy
    · simp only [List.mem_singleton] at hy
      subst hy
      exact ⟨hx, h0, h1⟩
  · intro j
    rw [qTo_snoc]
    by_cases e : k = j
    · subst e
      right
      refine ⟨h0, h1, ?_⟩
      simp only [if_true, updM_same]
      rw [hrow]; rfl
    · have e2 : updM M k (l0 ++ [x]) j = M j := by unfold updM; rw [if_neg (Ne.symm e)]
      simp only [e2, if_neg e]
      exact hr j
  · rw [tks_snoc, hrow]
    simp
end Go.Proofs.Ytnmjcdlgfimnaaa
namespace Go.Proofs.Ytnmjcdlgfimnaaa
set_option linter.unusedSimpArgs false
set_option linter.unusedVariables false
set_option maxRecDepth 20000
attribute [local irreducible] vcOps vcCode vcA vcSch Wc
set_option maxHeartbeats 8000000
theorem acts_none {b : Int} (h : (none : Option Int) = if b < 0 then none else some b) : b < 0 := by
  by_cases hb : b < 0
  · exact hb
  · rw [if_neg hb] at h; simp at h
theorem acts_some {b n : Int} (h : some n = if b < 0 then none else some b) : n = b ∧ 0 ≤ b := by
  by_cases hb : b < 0
  · rw [if_pos hb] at h; simp at h
  · rw [if_neg hb] at h; simp at h; exact ⟨h, by omega⟩
theorem act_fn (D : R08Disk) : Spec Cx.P 81 [.l (.ptr 1 [] 0)] [(1, .obj DiskO D)] (tvL [.bool (dSpend D).2]) [(1, .obj DiskO (dSpend D).1)] := by
  refine Spec.go2 (E := Cx.env) (fn := Try.f81) (res := [_]) _ (open_disk D [] (by simp [idsM]) (by simp)) Try.func81 isfn81 rfl rfl (by simp [idsV, SV.ids, LV.ids]) (by simp [idsM]) (by kernel_rfl) rfl ?_
  intro hf
  try push_cast at hf
  rintro ⟨⟨V, M, way, acts, size, dead⟩, ⟨hwf, h1, h2, ha, hr, h3⟩⟩
  simp only at h1 h2 ha hr h3
  subst h1 h2 h3
  have hbu := hwf.burns
  cases acts
  · have hb := acts_none ha
    simp only [mmD, parSl, idsM, List.map_cons, List.map_nil, List.cons_append, List.nil_append]
    repeat' (first
    | (intro (K' : KT) hK'; push_cast; (repeat' refine And.intro ?_ ?_); all_goals (first | (apply hK'; clear hK' K') | (refine ⟨trivial, trivial, ?_⟩; apply hK'; clear hK' K') | (intro hb; (try push_cast at hb); all_goals (intros; apply hK'; clear hK' K')) | (clear hK' K'; first | omega | skip)))
    | apply go_seq | apply go_region | apply go_skip | apply go_exit | apply go_ret
    | apply seqK_n | apply seqK_x | apply seqK_r | apply regK_go | apply finK_n | apply finK_r
    | (refine vres_go ?_; push_cast) | apply ops_nil | refine ops_in (w_i64 _ (by omega) (by omega)) ?_ | refine ops_in (w_u8 _ (by omega) (by omega)) ?_ | refine ops_in (w_u32 _ (by omega) (by omega)) ?_ | refine ops_in (w_u64 _ (by omega) (by omega)) ?_
    | refine ops_put rfl rfl ?_ | refine ops_no rfl rfl ?_
    | (refine go_cond (by push_cast; first | done | rfl) ?_ ?_ <;> intro hc <;> (try push_cast at hc))
    | refine ops_gt rfl rfl rfl (by push_cast; first | done | rfl) ?_
    | refine ops_gb rfl rfl rfl (by push_cast; first | done | rfl) ?_ ?_
    | (intro (hc : (_ : Prop)); (try push_cast at hc)) | intro (hc : R08Item) | intro (hc : Int) | intro (hc : Nat))
    all_goals
      refine fin_disk0 (m := 9001) (wy := 9002) (V := V) (M := M) (way := tks [] D.Queue) (size := D.Base.length) (dead := D.Dead) (rest := []) ?_ (by push_cast) (by push_cast) ?_ (by simp [tvL, TV.ids, SV.ids, LV.ids, idsV])
      · have h0 : ¬ D.Burns = 0 := by omega
        have h1 : ¬ 0 < D.Burns := by omega
        cases hdd : D.Dead <;> simp only [dSpend, if_neg h0, if_neg h1, hdd, Bool.false_eq_true, if_true, if_false] <;> exact ⟨hwf, rfl, by simp [hdd], by simp [hb], hr, rfl⟩
      · push_cast
        have h0 : ¬ D.Burns = 0 := by omega
        cases hdd : D.Dead <;> simp [dSpend, if_neg h0, hdd]
  · obtain ⟨rfl, hb⟩ := acts_some ha
    simp only [mmD, parSl, idsM, List.map_cons, List.map_nil, List.cons_append, List.nil_append]
    repeat' (first
    | (intro (K' : KT) hK'; push_cast; (repeat' refine And.intro ?_ ?_); all_goals (first | (apply hK'; clear hK' K') | (refine ⟨trivial, trivial, ?_⟩; apply hK'; clear hK' K') | (intro hb; (try push_cast at hb); all_goals (intros; apply hK'; clear hK' K')) | (clear hK' K'; first | omega | skip)))
    | apply go_seq | apply go_region | apply go_skip | apply go_exit | apply go_ret
    | apply seqK_n | apply seqK_x | apply seqK_r | apply regK_go | apply finK_n | apply finK_r
    | (refine vres_go ?_; push_cast) | apply ops_nil | refine ops_in (w_i64 _ (by omega) (by omega)) ?_ | refine ops_in (w_u8 _ (by omega) (by omega)) ?_ | refine ops_in (w_u32 _ (by omega) (by omega)) ?_ | refine ops_in (w_u64 _ (by omega) (by omega)) ?_
    | refine ops_put rfl rfl ?_ | refine ops_no rfl rfl ?_
    | (refine go_cond (by push_cast; first | done | rfl) ?_ ?_ <;> intro hc <;> (try push_cast at hc))
    | refine ops_gt rfl rfl rfl (by push_cast; first | done | rfl) ?_
    | refine ops_gb rfl rfl rfl (by push_cast; first | done | rfl) ?_ ?_
    | (intro (hc : (_ : Prop)); (try push_cast at hc)) | intro (hc : R08Item) | intro (hc : Int) | intro (hc : Nat))
    · have h0 : D.Burns = 0 := by assumption
      refine fin_disk1 (m := 9001) (wy := 9002) (ac := 9003) (n := D.Burns) (V := V) (M := M) (way := tks [] D.Queue) (size := D.Base.length) (dead := true) (rest := []) ?_ (by push_cast) (by push_cast) ?_ (by simp [tvL, TV.ids, SV.ids, LV.ids, idsV])
      · simp only [dSpend, h0, if_true]
        exact ⟨⟨hwf.many, hwf.sec, hwf.qs, hwf.qn, by simp [h0]⟩, rfl, rfl, by simp [h0], hr, rfl⟩
      · push_cast; simp [dSpend, h0]
    · have h0 : ¬ D.Burns = 0 := by assumption
      have hd : (!D.Dead) = true := by assumption
      have hd : D.Dead = false := by simpa using hd
      have h1 : 0 < D.Burns := by omega
      refine fin_disk1 (m := 9001) (wy := 9002) (ac := 9003) (n := (D.Burns - 1)) (V := V) (M := M) (way := tks [] D.Queue) (size := D.Base.length) (dead := D.Dead) (rest := []) ?_ (by push_cast) (by push_cast) ?_ (by simp [tvL, TV.ids, SV.ids, LV.ids, idsV])
      · simp only [dSpend, if_neg h0, hd, Bool.false_eq_true, if_false, if_pos h1]
        exact ⟨⟨hwf.many, hwf.sec, hwf.qs, hwf.qn, by simp only; omega⟩, rfl, by simp [hd], by simp only; rw [if_neg (by omega)], hr, rfl⟩
      · push_cast; simp [dSpend, if_neg h0, hd]
    · have h0 : ¬ D.Burns = 0 := by assumption
      have hd : (!D.Dead) = false := by assumption
      have hd : D.Dead = true := by simpa using hd
      refine fin_disk1 (m := 9001) (wy := 9002) (ac := 9003) (n := D.Burns) (V := V) (M := M) (way := tks [] D.Queue) (size := D.Base.length) (dead := D.Dead) (rest := []) ?_ (by push_cast) (by push_cast) ?_ (by simp [tvL, TV.ids, SV.ids, LV.ids, idsV])
      · simp only [dSpend, if_neg h0, hd, if_true]
        exact ⟨hwf, rfl, by simp [hd], by simp only; rw [if_neg (by omega)], hr, rfl⟩
      · push_cast; simp [dSpend, if_neg h0, hd]
#print axioms act_fn
theorem there_fn (D : R08Disk) (k : Int) : Spec Cx.P 80 [.l (.ptr 1 [] 0), .l (.int .i64 k)] [(1, .obj DiskO D)] (tvL [.bool (dThere D k)]) [(1, .obj DiskO D)] := by
  refine Spec.go2 (E := Cx.env) (fn := Try.f80) (res := [_]) _ (open_disk D [] (by simp [idsM]) (by simp)) Try.func80 isfn80 rfl rfl (by simp [idsV, SV.ids, LV.ids]) (by simp [idsM]) (by kernel_rfl) rfl ?_
  intro hf
  try push_cast at hf
  rintro ⟨⟨V, M, way, acts, size, dead⟩, ⟨hwf, h1, h2, ha, hr, h3⟩⟩
  simp only at h1 h2 ha hr h3
  subst h1 h2 h3
  have hbu := hwf.burns
  rcases acts with _ | n
  all_goals
    simp only [mmD, parSl, idsM, List.map_cons, List.map_nil, List.cons_append, List.nil_append]
    repeat' (first
    | (intro (K' : KT) hK'; push_cast; (repeat' refine And.intro ?_ ?_); all_goals (first | (apply hK'; clear hK' K') | (refine ⟨trivial, trivial, ?_⟩; apply hK'; clear hK' K') | (intro hb; (try push_cast at hb); all_goals (intros; apply hK'; clear hK' K')) | (clear hK' K'; first | omega | skip)))
    | apply go_seq | apply go_region | apply go_skip | apply go_exit | apply go_ret
    | apply seqK_n | apply seqK_x | apply seqK_r | apply regK_go | apply finK_n | apply finK_r
    | (refine vres_go ?_; push_cast) | apply ops_nil | refine ops_in (w_i64 _ (by omega) (by omega)) ?_ | refine ops_in (w_u8 _ (by omega) (by omega)) ?_ | refine ops_in (w_u32 _ (by omega) (by omega)) ?_ | refine ops_in (w_u64 _ (by omega) (by omega)) ?_
    | refine ops_put rfl rfl ?_ | refine ops_no rfl rfl ?_
    | (refine go_cond (by push_cast; first | done | rfl) ?_ ?_ <;> intro hc <;> (try push_cast at hc))
    | refine ops_gt rfl rfl rfl (by push_cast; first | done | rfl) ?_
    | refine ops_gb rfl rfl rfl (by push_cast; first | done | rfl) ?_ ?_
    | (intro (hc : (_ : Prop)); (try push_cast at hc)) | intro (hc : R08Item) | intro (hc : Int) | intro (hc : Nat))
  all_goals
    first
        | (refine fin_disk0 (m := 9001) (wy := 9002) (V := V) (M := M) (way := (tks [] D.Queue)) (size := D.Base.length) (dead := D.Dead) (rest := []) ⟨hwf, rfl, rfl, ha, hr, rfl⟩ ?_ ?_ ?_ ?_; (focus (push_cast; done)); (focus (push_cast; done)); (focus ((push_cast; simp_all [dThere]; try omega))); (focus (simp [tvL, TV.ids, SV.ids, LV.ids, idsV]; done)))
        | (refine fin_disk1 (m := 9001) (wy := 9002) (V := V) (M := M) (way := (tks [] D.Queue)) (size := D.Base.length) (dead := D.Dead) (rest := []) (ac := 9003) (n := _) ⟨hwf, rfl, rfl, ha, hr, rfl⟩ ?_ ?_ ?_ ?_; (focus (push_cast; done)); (focus (push_cast; done)); (focus ((push_cast; simp_all [dThere]; try omega))); (focus (simp [tvL, TV.ids, SV.ids, LV.ids, idsV]; done)))
theorem Size_fn (D : R08Disk) : Spec Cx.P 25 [.l (.ptr 1 [] 0)] [(1, .obj DiskO D)] (tvL [.int .i64 D.Base.length]) [(1, .obj DiskO D)] := by
  refine Spec.go2 (E := Cx.env) (fn := Try.f25) (res := [_]) _ (open_disk D [] (by simp [idsM]) (by simp)) Try.func25 isfn25 rfl rfl (by simp [idsV, SV.ids, LV.ids]) (by simp [idsM]) (by kernel_rfl) rfl ?_
  intro hf
  try push_cast at hf
  rintro ⟨⟨V, M, way, acts, size, dead⟩, ⟨hwf, h1, h2, ha, hr, h3⟩⟩
  simp only at h1 h2 ha hr h3
  subst h1 h2 h3
  have hbu := hwf.burns
  rcases acts with _ | n
  all_goals
    simp only [mmD, parSl, idsM, List.map_cons, List.map_nil, List.cons_append, List.nil_append]
    repeat' (first
    | (intro (K' : KT) hK'; push_cast; (repeat' refine And.intro ?_ ?_); all_goals (first | (apply hK'; clear hK' K') | (refine ⟨trivial, trivial, ?_⟩; apply hK'; clear hK' K') | (intro hb; (try push_cast at hb); all_goals (intros; apply hK'; clear hK' K')) | (clear hK' K'; first | omega | skip)))
    | apply go_seq | apply go_region | apply go_skip | apply go_exit | apply go_ret
    | apply seqK_n | apply seqK_x | apply seqK_r | apply regK_go | apply finK_n | apply finK_r
    | (refine vres_go ?_; push_cast) | apply ops_nil | refine ops_in (w_i64 _ (by omega) (by omega)) ?_ | refine ops_in (w_u8 _ (by omega) (by omega)) ?_ | refine ops_in (w_u32 _ (by omega) (by omega)) ?_ | refine ops_in (w_u64 _ (by omega) (by omega)) ?_
    | refine ops_put rfl rfl ?_ | refine ops_no rfl rfl ?_
    | (refine go_cond (by push_cast; first | done | rfl) ?_ ?_ <;> intro hc <;> (try push_cast at hc))
    | refine ops_gt rfl rfl rfl (by push_cast; first | done | rfl) ?_
    | refine ops_gb rfl rfl rfl (by push_cast; first | done | rfl) ?_ ?_
    | (intro (hc : (_ : Prop)); (try push_cast at hc)) | intro (hc : R08Item) | intro (hc : Int) | intro (hc : Nat))
  all_goals
    first
        | (refine fin_disk0 (m := 9001) (wy := 9002) (V := V) (M := M) (way := (tks [] D.Queue)) (size := D.Base.length) (dead := D.Dead) (rest := []) ⟨hwf, rfl, rfl, ha, hr, rfl⟩ ?_ ?_ ?_ ?_; (focus (push_cast; done)); (focus (push_cast; done)); (focus ((push_cast; done))); (focus (simp [tvL, TV.ids, SV.ids, LV.ids, idsV]; done)))
        | (refine fin_disk1 (m := 9001) (wy := 9002) (V := V) (M := M) (way := (tks [] D.Queue)) (size := D.Base.length) (dead := D.Dead) (rest := []) (ac := 9003) (n := _) ⟨hwf, rfl, rfl, ha, hr, rfl⟩ ?_ ?_ ?_ ?_; (focus (push_cast; done)); (focus (push_cast; done)); (focus ((push_cast; done))); (focus (simp [tvL, TV.ids, SV.ids, LV.ids, idsV]; done)))
theorem Dead_fn (D : R08Disk) : Spec Cx.P 31 [.l (.ptr 1 [] 0)] [(1, .obj DiskO D)] (tvL [.bool D.Dead]) [(1, .obj DiskO D)] := by
  refine Spec.go2 (E := Cx.env) (fn := Try.f31) (res := [_]) _ (open_disk D [] (by simp [idsM]) (by simp)) Try.func31 isfn31 rfl rfl (by simp [idsV, SV.ids, LV.ids]) (by simp [idsM]) (by kernel_rfl) rfl ?_
  intro hf
  try push_cast at hf
  rintro ⟨⟨V, M, way, acts, size, dead⟩, ⟨hwf, h1, h2, ha, hr, h3⟩⟩
  simp only at h1 h2 ha hr h3
  subst h1 h2 h3
  have hbu := hwf.burns
  rcases acts with _ | n
  all_goals
    simp only [mmD, parSl, idsM, List.map_cons, List.map_nil, List.cons_append, List.nil_append]
    repeat' (first
    | (intro (K' : KT) hK'; push_cast; (repeat' refine And.intro ?_ ?_); all_goals (first | (apply hK'; clear hK' K') | (refine ⟨trivial, trivial, ?_⟩; apply hK'; clear hK' K') | (intro hb; (try push_cast at hb); all_goals (intros; apply hK'; clear hK' K')) | (clear hK' K'; first | omega | skip)))
    | apply go_seq | apply go_region | apply go_skip | apply go_exit | apply go_ret
    | apply seqK_n | apply seqK_x | apply seqK_r | apply regK_go | apply finK_n | apply finK_r
    | (refine vres_go ?_; push_cast) | apply ops_nil | refine ops_in (w_i64 _ (by omega) (by omega)) ?_ | refine ops_in (w_u8 _ (by omega) (by omega)) ?_ | refine ops_in (w_u32 _ (by omega) (by omega)) ?_ | refine ops_in (w_u64 _ (by omega) (by omega)) ?_
    | refine ops_put rfl rfl ?_ | refine ops_no rfl rfl ?_
    | (refine go_cond (by push_cast; first | done | rfl) ?_ ?_ <;> intro hc <;> (try push_cast at hc))
    | refine ops_gt rfl rfl rfl (by push_cast; first | done | rfl) ?_
    | refine ops_gb rfl rfl rfl (by push_cast; first | done | rfl) ?_ ?_
    | (intro (hc : (_ : Prop)); (try push_cast at hc)) | intro (hc : R08Item) | intro (hc : Int) | intro (hc : Nat))
  all_goals
    first
        | (refine fin_disk0 (m := 9001) (wy := 9002) (V := V) (M := M) (way := (tks [] D.Queue)) (size := D.Base.length) (dead := D.Dead) (rest := []) ⟨hwf, rfl, rfl, ha, hr, rfl⟩ ?_ ?_ ?_ ?_; (focus (push_cast; done)); (focus (push_cast; done)); (focus ((push_cast; done))); (focus (simp [tvL, TV.ids, SV.ids, LV.ids, idsV]; done)))
        | (refine fin_disk1 (m := 9001) (wy := 9002) (V := V) (M := M) (way := (tks [] D.Queue)) (size := D.Base.length) (dead := D.Dead) (rest := []) (ac := 9003) (n := _) ⟨hwf, rfl, rfl, ha, hr, rfl⟩ ?_ ?_ ?_ ?_; (focus (push_cast; done)); (focus (push_cast; done)); (focus ((push_cast; done))); (focus (simp [tvL, TV.ids, SV.ids, LV.ids, idsV]; done)))
theorem fuse_some {k : Int} (h : 0 ≤ k) : some k = if max k (-1) < 0 then none else some (max k (-1)) := by
  have h1 : ¬ max k (-1) < 0 := by omega
  have h2 : max k (-1) = k := by omega
  rw [if_neg h1, h2]
theorem fuse_none {k : Int} (h : ¬ 0 ≤ k) : (none : Option Int) = if max k (-1) < 0 then none else some (max k (-1)) := by
  have h1 : max k (-1) < 0 := by omega
  rw [if_pos h1]
theorem Fuse_fn (D : R08Disk) (k : Int) (hk : k ≤ 9223372036854775807) : Spec Cx.P 27 [.l (.ptr 1 [] 0), .l (.int .i64 k)] [(1, .obj DiskO D)] (tvL []) [(1, .obj DiskO (dFuse D k))] := by
  refine Spec.go2 (E := Cx.env) (fn := Try.f27) (res := []) _ (open_disk D [] (by simp [idsM]) (by simp)) Try.func27 isfn27 rfl rfl (by simp [idsV, SV.ids, LV.ids]) (by simp [idsM]) (by kernel_rfl) rfl ?_
  intro hf
  try push_cast at hf
  rintro ⟨⟨V, M, way, acts, size, dead⟩, ⟨hwf, h1, h2, ha, hr, h3⟩⟩
  simp only at h1 h2 ha hr h3
  subst h1 h2 h3
  have hbu := hwf.burns
  rcases acts with _ | n
  all_goals
    simp only [mmD, parSl, idsM, List.map_cons, List.map_nil, List.cons_append, List.nil_append]
    repeat' (first
    | (intro (K' : KT) hK'; push_cast; (repeat' refine And.intro ?_ ?_); all_goals (first | (apply hK'; clear hK' K') | (refine ⟨trivial, trivial, ?_⟩; apply hK'; clear hK' K') | (intro hb; (try push_cast at hb); all_goals (intros; apply hK'; clear hK' K')) | (clear hK' K'; first | omega | skip)))
    | apply go_seq | apply go_region | apply go_skip | apply go_exit | apply go_ret
    | apply seqK_n | apply seqK_x | apply seqK_r | apply regK_go | apply finK_n | apply finK_r
    | (refine vres_go ?_; push_cast) | apply ops_nil | refine ops_in (w_i64 _ (by omega) (by omega)) ?_ | refine ops_in (w_u8 _ (by omega) (by omega)) ?_ | refine ops_in (w_u32 _ (by omega) (by omega)) ?_ | refine ops_in (w_u64 _ (by omega) (by omega)) ?_
    | refine ops_put rfl rfl ?_ | refine ops_no rfl rfl ?_
    | (refine go_cond (by push_cast; first | done | rfl) ?_ ?_ <;> intro hc <;> (try push_cast at hc))
    | refine ops_gt rfl rfl rfl (by push_cast; first | done | rfl) ?_
    | refine ops_gb rfl rfl rfl (by push_cast; first | done | rfl) ?_ ?_
    | (intro (hc : (_ : Prop)); (try push_cast at hc)) | intro (hc : R08Item) | intro (hc : Int) | intro (hc : Nat))
  all_goals
    have hw' : DWf (dFuse D k) := ⟨hwf.many, hwf.sec, hwf.qs, hwf.qn, by simp only [dFuse]; omega⟩
  · exact fin_disk1 (m := 9001) (wy := 9002) (ac := 3) (n := k) (V := V) (M := M) (way := tks [] D.Queue) (size := D.Base.length) (dead := D.Dead) (rest := []) ⟨hw', rfl, rfl, fuse_some (by omega), hr, rfl⟩ (by push_cast) (by push_cast) (by push_cast) (by simp [tvL, TV.ids, idsV])
  · exact fin_disk0 (m := 9001) (wy := 9002) (V := V) (M := M) (way := tks [] D.Queue) (size := D.Base.length) (dead := D.Dead) (rest := []) ⟨hw', rfl, rfl, fuse_none (by omega), hr, rfl⟩ (by push_cast) (by push_cast) (by push_cast) (by simp [tvL, TV.ids, idsV])
  · exact fin_disk1 (m := 9001) (wy := 9002) (ac := 3) (n := k) (V := V) (M := M) (way := tks [] D.Queue) (size := D.Base.length) (dead := D.Dead) (rest := []) ⟨hw', rfl, rfl, fuse_some (by omega), hr, rfl⟩ (by push_cast) (by push_cast) (by push_cast) (by simp [tvL, TV.ids, idsV])
  · exact fin_disk0 (m := 9001) (wy := 9002) (V := V) (M := M) (way := tks [] D.Queue) (size := D.Base.length) (dead := D.Dead) (rest := []) ⟨hw', rfl, rfl, fuse_none (by omega), hr, rfl⟩ (by push_cast) (by push_cast) (by push_cast) (by simp [tvL, TV.ids, idsV])
end Go.Proofs.Ytnmjcdlgfimnaaa
namespace Go.Proofs.Ytnmjcdlgfimnaaa
set_option linter.unusedSimpArgs false
set_option linter.unusedVariables false
set_option maxRecDepth 20000
attribute [local irreducible] vcOps vcCode vcA vcSch Wc
set_option maxHeartbeats 8000000
theorem there_con : Con1 Cx.P 80 DiskO (.pair (.int .i64) .unit) (fun _ _ => True) (fun D x => [.bool (dThere D x.1)]) (fun D _ => D) := ⟨isfn80, fun D x _ => there_fn D x.1⟩
theorem act_con : Con1 Cx.P 81 DiskO .unit (fun _ _ => True) (fun D _ => [.bool (dSpend D).2]) (fun D _ => (dSpend D).1) := ⟨isfn81, fun D _ _ => act_fn D⟩
theorem Size_con : Con1 Cx.P 25 DiskO .unit (fun _ _ => True) (fun D _ => [.int .i64 D.Base.length]) (fun D _ => D) := ⟨isfn25, fun D _ _ => Size_fn D⟩
theorem Dead_con : Con1 Cx.P 31 DiskO .unit (fun _ _ => True) (fun D _ => [.bool D.Dead]) (fun D _ => D) := ⟨isfn31, fun D _ _ => Dead_fn D⟩
theorem Fuse_con : Con1 Cx.P 27 DiskO (.pair (.int .i64) .unit) (fun _ x => x.1 ≤ 9223372036854775807) (fun _ _ => []) (fun D x => dFuse D x.1) := ⟨isfn27, fun D x h => Fuse_fn D x.1 h⟩
theorem Get_fn (D : R08Disk) (k : Int) : Spec Cx.P 26 [.l (.ptr 1 [] 0), .l (.int .i64 k)] [(1, .obj DiskO D)] (tvL [.dat (.arr 64 (.int .u8)) (dGet D k).1, .int .i64 (dGet D k).2]) [(1, .obj DiskO D)] := by
  refine Spec.go2 (E := Cx.env) (fn := Try.f26) (res := [_, _]) _ (Opens.refl _) Try.func26 isfn26 rfl rfl (by simp [idsV, SV.ids, LV.ids]) (by simp [idsM]) (by kernel_rfl) rfl ?_
  intro hf
  try push_cast at hf
  intro _
  simp only [mmD, parSl, idsM, List.map_cons, List.map_nil, List.cons_append, List.nil_append]
  repeat' (first
    | (intro (K' : KT) hK'; push_cast; (repeat' refine And.intro ?_ ?_); all_goals (first | (apply hK'; clear hK' K') | (refine ⟨trivial, trivial, ?_⟩; apply hK'; clear hK' K') | (intro hb; (try push_cast at hb); all_goals (intros; apply hK'; clear hK' K')) | ((first | refine call_1 there_con (fun _ _ => rfl) ?_); push_cast; (repeat' refine And.intro ?_ ?_); all_goals (first | (apply hK'; clear hK' K') | (intros; apply hK'; clear hK' K') | (clear hK' K'; first | omega | skip))) | (clear hK' K'; first | omega | skip)))
    | apply go_seq | refine go_region_stop (id := 1) ?_ | apply go_region | apply go_skip | apply go_exit | apply go_ret
    | apply seqK_n | apply seqK_x | apply seqK_r | apply regK_go | apply finK_n | apply finK_r
    | (refine vres_go ?_; push_cast) | apply ops_nil | refine ops_in (w_i64 _ (by omega) (by omega)) ?_ | refine ops_in (w_u8 _ (by omega) (by omega)) ?_ | refine ops_in (w_u32 _ (by omega) (by omega)) ?_ | refine ops_in (w_u64 _ (by omega) (by omega)) ?_
    | refine ops_put rfl rfl ?_ | refine ops_no rfl rfl ?_
    | (refine go_cond (by push_cast; first | done | rfl) ?_ ?_ <;> intro hc <;> (try push_cast at hc))
    | refine ops_gt rfl rfl rfl (by push_cast; first | done | rfl) ?_
    | refine ops_gb rfl rfl rfl (by push_cast; first | done | rfl) ?_ ?_
    | (intro (hc : (_ : Prop)); (try push_cast at hc)) | intro (hc : R08Item) | intro (hc : Int) | intro (hc : Nat))
  refine regKS_open (regK_opens _ (open_disk D _ (by simp [idsM]) (by simp [Box.ids, idsL, LV.ids])) (Closes.refl _) (by simp) (by push_cast; first | done | rfl) ?_)
  rintro ⟨⟨V, M, way, acts, size, dead⟩, ⟨hwf, h1, h2, ha, hr, h3⟩⟩
  simp only at h1 h2 ha hr h3
  subst h1 h2 h3
  have hbu := hwf.burns
  have hml := rows_len hr hwf k
  rcases acts with _ | n
  all_goals
    simp only [mmD, parSl, idsM, List.map_cons, List.map_nil, List.cons_append, List.nil_append]
    repeat' (first
    | (intro (K' : KT) hK'; push_cast; (repeat' refine And.intro ?_ ?_); all_goals (first | (apply hK'; clear hK' K') | (refine ⟨trivial, trivial, ?_⟩; apply hK'; clear hK' K') | (intro hb; (try push_cast at hb); all_goals (intros; apply hK'; clear hK' K')) | (clear hK' K'; first | omega | skip)))
    | apply go_seq | apply go_region | apply go_skip | apply go_exit | apply go_ret
    | apply seqK_n | apply seqK_x | apply seqK_r | (refine regK_open rfl (by push_cast; first | done | rfl) rfl (by push_cast) (by push_cast; first | done | rfl) (by push_cast; first | done | rfl) ?_) | apply regK_go | apply finK_n | apply finK_r
    | (refine vres_go ?_; push_cast) | apply ops_nil | refine ops_in (w_i64 _ (by omega) (by omega)) ?_ | refine ops_in (w_u8 _ (by omega) (by omega)) ?_ | refine ops_in (w_u32 _ (by omega) (by omega)) ?_ | refine ops_in (w_u64 _ (by omega) (by omega)) ?_
    | refine ops_put rfl rfl ?_ | refine ops_no rfl rfl ?_
    | (refine go_cond (by push_cast; first | done | rfl) ?_ ?_ <;> intro hc <;> (try push_cast at hc))
    | refine ops_gt rfl rfl rfl (by push_cast; first | done | rfl) ?_
    | refine ops_gb rfl rfl rfl (by push_cast; first | done | rfl) ?_ ?_
    | (intro (hc : (_ : Prop)); (try push_cast at hc)) | intro (hc : R08Item) | intro (hc : Int) | intro (hc : Nat))
  · rw [get_none (D := D) (k := k) (by simpa using hc)]
    first
        | (refine fin_disk0 (m := 9001) (wy := 9002) (V := V) (M := M) (way := (tks [] D.Queue)) (size := D.Base.length) (dead := D.Dead) (rest := []) ⟨hwf, rfl, rfl, ha, hr, rfl⟩ ?_ ?_ ?_ ?_; (focus (push_cast; done)); (focus (push_cast; done)); (focus (push_cast; done)); (focus (simp [tvL, TV.ids, SV.ids, LV.ids, idsV]; done)))
        | (refine fin_disk1 (m := 9001) (wy := 9002) (V := V) (M := M) (way := (tks [] D.Queue)) (size := D.Base.length) (dead := D.Dead) (rest := []) (ac := 9003) (n := _) ⟨hwf, rfl, rfl, ha, hr, rfl⟩ ?_ ?_ ?_ ?_; (focus (push_cast; done)); (focus (push_cast; done)); (focus (push_cast; done)); (focus (simp [tvL, TV.ids, SV.ids, LV.ids, idsV]; done)))
        | (refine fin_disk0r (m := 9001) (wy := 9002) (V := V) (M := M) (way := (tks [] D.Queue)) (size := D.Base.length) (dead := D.Dead) (rest := []) (k := k) (id := 6006) (l := (M k)) ⟨hwf, rfl, rfl, ha, by rw [updM_self]; exact hr, rfl⟩ ?_ ?_ ?_ ?_; (focus (push_cast; done)); (focus (push_cast; done)); (focus (push_cast; done)); (focus (simp [tvL, TV.ids, SV.ids, LV.ids, idsV]; done)))
        | (refine fin_disk1r (m := 9001) (wy := 9002) (V := V) (M := M) (way := (tks [] D.Queue)) (size := D.Base.length) (dead := D.Dead) (rest := []) (ac := 9003) (n := _) (k := k) (id := 6006) (l := (M k)) ⟨hwf, rfl, rfl, ha, by rw [updM_self]; exact hr, rfl⟩ ?_ ?_ ?_ ?_; (focus (push_cast; done)); (focus (push_cast; done)); (focus (push_cast; done)); (focus (simp [tvL, TV.ids, SV.ids, LV.ids, idsV]; done)))
  · rename_i hd
    rw [get_zero hr (k := k) (by simpa using hd) (by omega)]
    first
        | (refine fin_disk0 (m := 9001) (wy := 9002) (V := V) (M := M) (way := (tks [] D.Queue)) (size := D.Base.length) (dead := D.Dead) (rest := []) ⟨hwf, rfl, rfl, ha, hr, rfl⟩ ?_ ?_ ?_ ?_; (focus (push_cast; done)); (focus (push_cast; done)); (focus (push_cast; done)); (focus (simp [tvL, TV.ids, SV.ids, LV.ids, idsV]; done)))
        | (refine fin_disk1 (m := 9001) (wy := 9002) (V := V) (M := M) (way := (tks [] D.Queue)) (size := D.Base.length) (dead := D.Dead) (rest := []) (ac := 9003) (n := _) ⟨hwf, rfl, rfl, ha, hr, rfl⟩ ?_ ?_ ?_ ?_; (focus (push_cast; done)); (focus (push_cast; done)); (focus (push_cast; done)); (focus (simp [tvL, TV.ids, SV.ids, LV.ids, idsV]; done)))
        | (refine fin_disk0r (m := 9001) (wy := 9002) (V := V) (M := M) (way := (tks [] D.Queue)) (size := D.Base.length) (dead := D.Dead) (rest := []) (k := k) (id := 6006) (l := (M k)) ⟨hwf, rfl, rfl, ha, by rw [updM_self]; exact hr, rfl⟩ ?_ ?_ ?_ ?_; (focus (push_cast; done)); (focus (push_cast; done)); (focus (push_cast; done)); (focus (simp [tvL, TV.ids, SV.ids, LV.ids, idsV]; done)))
        | (refine fin_disk1r (m := 9001) (wy := 9002) (V := V) (M := M) (way := (tks [] D.Queue)) (size := D.Base.length) (dead := D.Dead) (rest := []) (ac := 9003) (n := _) (k := k) (id := 6006) (l := (M k)) ⟨hwf, rfl, rfl, ha, by rw [updM_self]; exact hr, rfl⟩ ?_ ?_ ?_ ?_; (focus (push_cast; done)); (focus (push_cast; done)); (focus (push_cast; done)); (focus (simp [tvL, TV.ids, SV.ids, LV.ids, idsV]; done)))
  · rename_i hd
    have e : (0 + (((M k).length : Int) - 1)).toNat = (M k).length - 1 := by omega
    rw [get_some hr (k := k) (by simpa using hd) (by omega), e]
    first
        | (refine fin_disk0 (m := 9001) (wy := 9002) (V := V) (M := M) (way := (tks [] D.Queue)) (size := D.Base.length) (dead := D.Dead) (rest := []) ⟨hwf, rfl, rfl, ha, hr, rfl⟩ ?_ ?_ ?_ ?_; (focus (push_cast; done)); (focus (push_cast; done)); (focus (push_cast; done)); (focus (simp [tvL, TV.ids, SV.ids, LV.ids, idsV]; done)))
        | (refine fin_disk1 (m := 9001) (wy := 9002) (V := V) (M := M) (way := (tks [] D.Queue)) (size := D.Base.length) (dead := D.Dead) (rest := []) (ac := 9003) (n := _) ⟨hwf, rfl, rfl, ha, hr, rfl⟩ ?_ ?_ ?_ ?_; (focus (push_cast; done)); (focus (push_cast; done)); (focus (push_cast; done)); (focus (simp [tvL, TV.ids, SV.ids, LV.ids, idsV]; done)))
        | (refine fin_disk0r (m := 9001) (wy := 9002) (V := V) (M := M) (way := (tks [] D.Queue)) (size := D.Base.length) (dead := D.Dead) (rest := []) (k := k) (id := 6006) (l := (M k)) ⟨hwf, rfl, rfl, ha, by rw [updM_self]; exact hr, rfl⟩ ?_ ?_ ?_ ?_; (focus (push_cast; done)); (focus (push_cast; done)); (focus (push_cast; done)); (focus (simp [tvL, TV.ids, SV.ids, LV.ids, idsV]; done)))
        | (refine fin_disk1r (m := 9001) (wy := 9002) (V := V) (M := M) (way := (tks [] D.Queue)) (size := D.Base.length) (dead := D.Dead) (rest := []) (ac := 9003) (n := _) (k := k) (id := 6006) (l := (M k)) ⟨hwf, rfl, rfl, ha, by rw [updM_self]; exact hr, rfl⟩ ?_ ?_ ?_ ?_; (focus (push_cast; done)); (focus (push_cast; done)); (focus (push_cast; done)); (focus (simp [tvL, TV.ids, SV.ids, LV.ids, idsV]; done)))
  · rw [get_none (D := D) (k := k) (by simpa using hc)]
    first
        | (refine fin_disk0 (m := 9001) (wy := 9002) (V := V) (M := M) (way := (tks [] D.Queue)) (size := D.Base.length) (dead := D.Dead) (rest := []) ⟨hwf, rfl, rfl, ha, hr, rfl⟩ ?_ ?_ ?_ ?_; (focus (push_cast; done)); (focus (push_cast; done)); (focus (push_cast; done)); (focus (simp [tvL, TV.ids, SV.ids, LV.ids, idsV]; done)))
        | (refine fin_disk1 (m := 9001) (wy := 9002) (V := V) (M := M) (way := (tks [] D.Queue)) (size := D.Base.length) (dead := D.Dead) (rest := []) (ac := 9003) (n := _) ⟨hwf, rfl, rfl, ha, hr, rfl⟩ ?_ ?_ ?_ ?_; (focus (push_cast; done)); (focus (push_cast; done)); (focus (push_cast; done)); (focus (simp [tvL, TV.ids, SV.ids, LV.ids, idsV]; done)))
        | (refine fin_disk0r (m := 9001) (wy := 9002) (V := V) (M := M) (way := (tks [] D.Queue)) (size := D.Base.length) (dead := D.Dead) (rest := []) (k := k) (id := 6006) (l := (M k)) ⟨hwf, rfl, rfl, ha, by rw [updM_self]; exact hr, rfl⟩ ?_ ?_ ?_ ?_; (focus (push_cast; done)); (focus (push_cast; done)); (focus (push_cast; done)); (focus (simp [tvL, TV.ids, SV.ids, LV.ids, idsV]; done)))
        | (refine fin_disk1r (m := 9001) (wy := 9002) (V := V) (M := M) (way := (tks [] D.Queue)) (size := D.Base.length) (dead := D.Dead) (rest := []) (ac := 9003) (n := _) (k := k) (id := 6006) (l := (M k)) ⟨hwf, rfl, rfl, ha, by rw [updM_self]; exact hr, rfl⟩ ?_ ?_ ?_ ?_; (focus (push_cast; done)); (focus (push_cast; done)); (focus (push_cast; done)); (focus (simp [tvL, TV.ids, SV.ids, LV.ids, idsV]; done)))
  · rename_i hd
    rw [get_zero hr (k := k) (by simpa using hd) (by omega)]
    first
        | (refine fin_disk0 (m := 9001) (wy := 9002) (V := V) (M := M) (way := (tks [] D.Queue)) (size := D.Base.length) (dead := D.Dead) (rest := []) ⟨hwf, rfl, rfl, ha, hr, rfl⟩ ?_ ?_ ?_ ?_; (focus (push_cast; done)); (focus (push_cast; done)); (focus (push_cast; done)); (focus (simp [tvL, TV.ids, SV.ids, LV.ids, idsV]; done)))
        | (refine fin_disk1 (m := 9001) (wy := 9002) (V := V) (M := M) (way := (tks [] D.Queue)) (size := D.Base.length) (dead := D.Dead) (rest := []) (ac := 9003) (n := _) ⟨hwf, rfl, rfl, ha, hr, rfl⟩ ?_ ?_ ?_ ?_; (focus (push_cast; done)); (focus (push_cast; done)); (focus (push_cast; done)); (focus (simp [tvL, TV.ids, SV.ids, LV.ids, idsV]; done)))
        | (refine fin_disk0r (m := 9001) (wy := 9002) (V := V) (M := M) (way := (tks [] D.Queue)) (size := D.Base.length) (dead := D.Dead) (rest := []) (k := k) (id := 6006) (l := (M k)) ⟨hwf, rfl, rfl, ha, by rw [updM_self]; exact hr, rfl⟩ ?_ ?_ ?_ ?_; (focus (push_cast; done)); (focus (push_cast; done)); (focus (push_cast; done)); (focus (simp [tvL, TV.ids, SV.ids, LV.ids, idsV]; done)))
        | (refine fin_disk1r (m := 9001) (wy := 9002) (V := V) (M := M) (way := (tks [] D.Queue)) (size := D.Base.length) (dead := D.Dead) (rest := []) (ac := 9003) (n := _) (k := k) (id := 6006) (l := (M k)) ⟨hwf, rfl, rfl, ha, by rw [updM_self]; exact hr, rfl⟩ ?_ ?_ ?_ ?_; (focus (push_cast; done)); (focus (push_cast; done)); (focus (push_cast; done)); (focus (simp [tvL, TV.ids, SV.ids, LV.ids, idsV]; done)))
  · rename_i hd
    have e : (0 + (((M k).length : Int) - 1)).toNat = (M k).length - 1 := by omega
    rw [get_some hr (k := k) (by simpa using hd) (by omega), e]
    first
        | (refine fin_disk0 (m := 9001) (wy := 9002) (V := V) (M := M) (way := (tks [] D.Queue)) (size := D.Base.length) (dead := D.Dead) (rest := []) ⟨hwf, rfl, rfl, ha, hr, rfl⟩ ?_ ?_ ?_ ?_; (focus (push_cast; done)); (focus (push_cast; done)); (focus (push_cast; done)); (focus (simp [tvL, TV.ids, SV.ids, LV.ids, idsV]; done)))
        | (refine fin_disk1 (m := 9001) (wy := 9002) (V := V) (M := M) (way := (tks [] D.Queue)) (size := D.Base.length) (dead := D.Dead) (rest := []) (ac := 9003) (n := _) ⟨hwf, rfl, rfl, ha, hr, rfl⟩ ?_ ?_ ?_ ?_; (focus (push_cast; done)); (focus (push_cast; done)); (focus (push_cast; done)); (focus (simp [tvL, TV.ids, SV.ids, LV.ids, idsV]; done)))
        | (refine fin_disk0r (m := 9001) (wy := 9002) (V := V) (M := M) (way := (tks [] D.Queue)) (size := D.Base.length) (dead := D.Dead) (rest := []) (k := k) (id := 6006) (l := (M k)) ⟨hwf, rfl, rfl, ha, by rw [updM_self]; exact hr, rfl⟩ ?_ ?_ ?_ ?_; (focus (push_cast; done)); (focus (push_cast; done)); (focus (push_cast; done)); (focus (simp [tvL, TV.ids, SV.ids, LV.ids, idsV]; done)))
        | (refine fin_disk1r (m := 9001) (wy := 9002) (V := V) (M := M) (way := (tks [] D.Queue)) (size := D.Base.length) (dead := D.Dead) (rest := []) (ac := 9003) (n := _) (k := k) (id := 6006) (l := (M k)) ⟨hwf, rfl, rfl, ha, by rw [updM_self]; exact hr, rfl⟩ ?_ ?_ ?_ ?_; (focus (push_cast; done)); (focus (push_cast; done)); (focus (push_cast; done)); (focus (simp [tvL, TV.ids, SV.ids, LV.ids, idsV]; done)))
theorem Get_con : Con1 Cx.P 26 DiskO (.pair (.int .i64) .unit) (fun _ _ => True) (fun D x => [.dat (.arr 64 (.int .u8)) (dGet D x.1).1, .int .i64 (dGet D x.1).2]) (fun D _ => D) := ⟨isfn26, fun D x _ => Get_fn D x.1⟩
end Go.Proofs.Ytnmjcdlgfimnaaa
namespace Go.Proofs.Ytnmjcdlgfimnaaa
set_option linter.unusedSimpArgs false
set_option linter.unusedVariables false
set_option maxRecDepth 20000
attribute [local irreducible] vcOps vcCode vcA vcSch Wc
set_option maxHeartbeats 8000000
theorem Put_fn (D : R08Disk) (k : Int) (x : List Int) (hq : D.Queue.length < 1000000000) :
    Spec Cx.P 29 [.l (.ptr 1 [] 0), .l (.int .i64 k), .l (.dat (.arr 64 (.int .u8)) x)] [(1, .obj DiskO D)] (tvL [.int .i64 (dPut D k x).2]) [(1, .obj DiskO (dPut D k x).1)] := by
  refine Spec.go2 (E := Cx.env) (fn := Try.f29) (res := [_]) _ (Opens.refl _) Try.func29 isfn29 rfl rfl (by simp [idsV, SV.ids, LV.ids]) (by simp [idsM]) (by kernel_rfl) rfl ?_
  intro hf
  try push_cast at hf
  intro _
  simp only [mmD, parSl, idsM, List.map_cons, List.map_nil, List.cons_append, List.nil_append]
  have hqs := dSpend_queue D
  have hbs := dSpend_base D
  repeat' (first
    | (intro (K' : KT) hK'; push_cast; (repeat' refine And.intro ?_ ?_); all_goals (first | (apply hK'; clear hK' K') | (refine ⟨trivial, trivial, ?_⟩; apply hK'; clear hK' K') | (intro hb; (try push_cast at hb); all_goals (intros; apply hK'; clear hK' K')) | ((first | refine call_1 there_con (fun _ _ => rfl) ?_ | refine call_1 act_con (fun _ _ => rfl) ?_); push_cast; (repeat' refine And.intro ?_ ?_); all_goals (first | (apply hK'; clear hK' K') | (intros; apply hK'; clear hK' K') | (clear hK' K'; first | omega | skip))) | (clear hK' K'; first | omega | skip)))
    | apply go_seq | apply go_block | refine go_region_stop (id := 3) ?_ | apply go_region | apply go_skip | apply go_exit | apply go_ret
    | apply seqK_n | apply seqK_x | apply seqK_r | apply blockK_n | apply blockK_r | apply blockK_hit | apply blockK_miss rfl | apply regK_go | apply finK_n | apply finK_r
    | (refine vres_go ?_; push_cast) | apply ops_nil | refine ops_in (w_i64 _ (by omega) (by omega)) ?_ | refine ops_in (w_u8 _ (by omega) (by omega)) ?_ | refine ops_in (w_u32 _ (by omega) (by omega)) ?_ | refine ops_in (w_u64 _ (by omega) (by omega)) ?_
    | refine ops_put rfl rfl ?_ | refine ops_no rfl rfl ?_
    | (refine go_cond (by push_cast; first | done | rfl) ?_ ?_ <;> intro hc <;> (try push_cast at hc))
    | refine ops_gt rfl rfl rfl (by push_cast; first | done | rfl) ?_
    | refine ops_gb rfl rfl rfl (by push_cast; first | done | rfl) ?_ ?_
    | refine go_draw (id := 6) [0, 1, 2, 3, 4] [6] [1] (.or 5 (.or 6 (.done) (.stop)) (.stop)) wide (by kernel_rfl) ?_
    | refine go_draw (id := 7) [0, 1, 2, 3, 4, 5, 6, 7, 8, 9, 10] [18] [1] (.or 11 (.free 12 (.free 13 (.or 14 (.or 15 (.free 16 (.free 17 (.or 18 (.done) (.stop)))) (.stop)) (.stop)))) (.stop)) wide (by kernel_rfl) ?_
    | refine go_draw (id := 8) [0, 1, 2, 3, 4, 5, 6, 7, 8, 9, 11] [14] [1, 5] (.or 10 (.or 12 (.or 13 (.or 14 (.done) (.stop)) (.stop)) (.stop)) (.or 12 (.or 10 (.or 13 (.or 14 (.done) (.stop)) (.stop)) (.stop)) (.stop))) wide (by kernel_rfl) ?_
    | apply goA_nil | apply goS_done | apply goS_stop
    | refine goA_put rfl rfl rfl ?_ | refine goS_free rfl rfl rfl ?_
    | (refine goS_late rfl rfl rfl rfl ?_ ?_; rotate_left) | (refine goS_late' rfl rfl rfl rfl ?_ ?_; rotate_left)
    | (refine goS_hid rfl rfl rfl rfl ?_ ?_; rotate_left; focus (intro K' hK'; push_cast; (repeat' refine And.intro ?_ ?_); all_goals (first | (refine hK' _ _ _ _ _ (by push_cast) (by push_cast; first | done | rfl) ?_; clear hK' K') | ((first | refine call_1 there_con (fun _ _ => rfl) ?_ | refine call_1 act_con (fun _ _ => rfl) ?_); push_cast; (repeat' refine And.intro ?_ ?_); all_goals (first | (refine hK' _ _ _ _ _ (by push_cast) (by push_cast; first | done | rfl) ?_; clear hK' K') | (intros; refine hK' _ _ _ _ _ (by push_cast) (by push_cast; first | done | rfl) ?_; clear hK' K') | (clear hK' K'; first | omega | skip))) | (clear hK' K'; first | omega | skip))))
    | refine goA_gt rfl rfl rfl rfl (by push_cast; first | done | rfl) ?_
    | refine goA_gb rfl rfl rfl rfl (by push_cast; first | done | rfl) ?_ ?_
    | (intro (hc : (_ : Prop)); (try push_cast at hc)) | intro (hc : R08Item) | intro (hc : Int) | intro (hc : Nat))
  · have h : dThere D k = false := by simpa using hc
    have e : dPut D k x = (D, 81) := by simp [dPut, h]
    rw [e]
    refine Fin2.fin ⟨[(1, .obj DiskO D)], ?_, ?_, ?_, Closes.refl _, ?_⟩
    · push_cast
    · push_cast
    · simp [idsM]
    · simp [tvL, TV.ids, SV.ids, LV.ids]
  · have hth : dThere D k = true := by
      have : (!dThere D k) = false := by assumption
      simpa using this
    obtain ⟨hk0, hk1⟩ := there_iff hth
    refine regKS_open (regK_opens _ (open_disk (dSpend D).1 _ (by simp [idsM]) (by simp [Box.ids, idsL, LV.ids])) (Closes.refl _) (by simp) (by push_cast; first | done | rfl) ?_)
    rintro ⟨⟨V, M, way, acts, size, dead⟩, ⟨hwf, h1, h2, ha, hr, h3⟩⟩
    simp only at h1 h2 ha hr h3
    subst h1 h2 h3
    have hbu := hwf.burns
    have hml := rows_len hr hwf k
    have htk := tks_len (dSpend D).1.Queue []
    have hql : (dSpend D).1.Queue.length = D.Queue.length := by rw [hqs]
    have hbl : (dSpend D).1.Base.length = D.Base.length := by rw [hbs]
    rcases acts with _ | n
    all_goals
      simp only [mmD, parSl, idsM, List.map_cons, List.map_nil, List.cons_append, List.nil_append]
      repeat' (first
    | (intro (K' : KT) hK'; push_cast; (repeat' refine And.intro ?_ ?_); all_goals (first | (apply hK'; clear hK' K') | (refine ⟨trivial, trivial, ?_⟩; apply hK'; clear hK' K') | (intro hb; (try push_cast at hb); all_goals (intros; apply hK'; clear hK' K')) | (clear hK' K'; first | omega | skip)))
    | apply go_seq | apply go_block | apply go_region | apply go_skip | apply go_exit | apply go_ret
    | apply seqK_n | apply seqK_x | apply seqK_r | apply blockK_n | apply blockK_r | apply blockK_hit | apply blockK_miss rfl | apply regK_go | apply finK_n | apply finK_r
    | (refine vres_go ?_; push_cast) | apply ops_nil | refine ops_in (w_i64 _ (by omega) (by omega)) ?_ | refine ops_in (w_u8 _ (by omega) (by omega)) ?_ | refine ops_in (w_u32 _ (by omega) (by omega)) ?_ | refine ops_in (w_u64 _ (by omega) (by omega)) ?_
    | refine ops_put rfl rfl ?_ | refine ops_no rfl rfl ?_
    | (refine go_cond (by push_cast; first | done | rfl) ?_ ?_ <;> intro hc <;> (try push_cast at hc))
    | refine ops_gt rfl rfl rfl (by push_cast; first | done | rfl) ?_
    | refine ops_gb rfl rfl rfl (by push_cast; first | done | rfl) ?_ ?_
    | refine go_draw (id := 6) [0, 1, 2, 3, 4] [6] [1] (.or 5 (.or 6 (.done) (.stop)) (.stop)) wide (by kernel_rfl) ?_
    | refine go_draw (id := 7) [0, 1, 2, 3, 4, 5, 6, 7, 8, 9, 10] [18] [1] (.or 11 (.free 12 (.free 13 (.or 14 (.or 15 (.free 16 (.free 17 (.or 18 (.done) (.stop)))) (.stop)) (.stop)))) (.stop)) wide (by kernel_rfl) ?_
    | refine go_draw (id := 8) [0, 1, 2, 3, 4, 5, 6, 7, 8, 9, 11] [14] [1, 5] (.or 10 (.or 12 (.or 13 (.or 14 (.done) (.stop)) (.stop)) (.stop)) (.or 12 (.or 10 (.or 13 (.or 14 (.done) (.stop)) (.stop)) (.stop)) (.stop))) wide (by kernel_rfl) ?_
    | apply goA_nil | apply goS_done | apply goS_stop
    | refine goA_put rfl rfl rfl ?_ | refine goS_free rfl rfl rfl ?_
    | (refine goS_late rfl rfl rfl rfl ?_ ?_; rotate_left) | (refine goS_late' rfl rfl rfl rfl ?_ ?_; rotate_left)
    | (refine goS_hid rfl rfl rfl rfl ?_ ?_; rotate_left; focus (intro K' hK'; push_cast; (repeat' refine And.intro ?_ ?_); all_goals (first | (refine hK' _ _ _ _ _ (by push_cast) (by push_cast; first | done | rfl) ?_; clear hK' K') | (clear hK' K'; first | omega | skip))))
    | refine goA_gt rfl rfl rfl rfl (by push_cast; first | done | rfl) ?_
    | refine goA_gb rfl rfl rfl rfl (by push_cast; first | done | rfl) ?_ ?_
    | (intro (hc : (_ : Prop)); (try push_cast at hc)) | intro (hc : R08Item) | intro (hc : Int) | intro (hc : Nat))
    all_goals
      first
      | (have hs : (dSpend D).2 = false := by (have : (!(dSpend D).2) = true := by assumption); simpa using this
         have e : dPut D k x = ((dSpend D).1, 82) := by simp [dPut, hth, hs]
         rw [e]
         first
         | (refine fin_disk0 (m := 9001) (wy := 9002) (V := (by assumption)) (M := M) (way := (tks [] (dSpend D).1.Queue)) (size := (dSpend D).1.Base.length) (dead := (dSpend D).1.Dead) (rest := []) ⟨hwf, rfl, rfl, ha, hr, rfl⟩ ?_ ?_ ?_ ?_; (focus (push_cast; done)); (focus (push_cast; done)); (focus (push_cast; done)); (focus (simp [tvL, TV.ids, SV.ids, LV.ids, idsV]; done)))
         | (refine fin_disk1 (m := 9001) (wy := 9002) (V := (by assumption)) (M := M) (way := (tks [] (dSpend D).1.Queue)) (size := (dSpend D).1.Base.length) (dead := (dSpend D).1.Dead) (rest := []) (ac := 9003) (n := _) ⟨hwf, rfl, rfl, ha, hr, rfl⟩ ?_ ?_ ?_ ?_; (focus (push_cast; done)); (focus (push_cast; done)); (focus (push_cast; done)); (focus (simp [tvL, TV.ids, SV.ids, LV.ids, idsV]; done))))
      | (have hs : (dSpend D).2 = true := by (have : (!(dSpend D).2) = false := by assumption); simpa using this
         have e : dPut D k x = ({ (dSpend D).1 with Queue := (dSpend D).1.Queue ++ [⟨x, k⟩] }, 0) := by simp [dPut, hth, hs]
         rw [e]
         have key : ∀ (V : Int → Value) (l : List (List Int)), (∃ l0, l = l0 ++ [x] ∧ (((M k).length = 0 ∧ l0 = [repl 64 0]) ∨ ((M k).length ≠ 0 ∧ l0 = M k))) → DOk _ _ := fun V l h => DOk_put (V := V) hwf hr hf.2.1 hk0 (by omega) (by omega) ha h
         first
         | (refine fin_disk0 (m := 9001) (wy := 45) (V := ‹Int → Value›) (M := updM M k (M k ++ [x])) (way := tks [] (dSpend D).1.Queue ++ [⟨k, ((M k).length : Int)⟩]) (size := (dSpend D).1.Base.length) (dead := (dSpend D).1.Dead) (rest := []) ?_ ?_ ?_ ?_ ?_; (focus (have := key ‹Int → Value› (M k ++ [x]) ⟨M k, rfl, .inr ⟨by omega, rfl⟩⟩; simpa using this)); (focus (push_cast; done)); (focus (push_cast; done)); (focus (push_cast; done)); (focus (simp [tvL, TV.ids, SV.ids, LV.ids, idsV]; done)))
         | (refine fin_disk0 (m := 9001) (wy := 45) (V := ‹Int → Value›) (M := updM M k [repl 64 0, x]) (way := tks [] (dSpend D).1.Queue ++ [⟨k, 1⟩]) (size := (dSpend D).1.Base.length) (dead := (dSpend D).1.Dead) (rest := []) ?_ ?_ ?_ ?_ ?_; (focus (have := key ‹Int → Value› ([repl 64 0] ++ [x]) ⟨[repl 64 0], rfl, .inl ⟨by omega, rfl⟩⟩; simpa using this)); (focus (push_cast; done)); (focus (push_cast; done)); (focus (push_cast; done)); (focus (simp [tvL, TV.ids, SV.ids, LV.ids, idsV]; done)))
         | (refine fin_disk1 (m := 9001) (wy := 45) (V := ‹Int → Value›) (M := updM M k (M k ++ [x])) (way := tks [] (dSpend D).1.Queue ++ [⟨k, ((M k).length : Int)⟩]) (size := (dSpend D).1.Base.length) (dead := (dSpend D).1.Dead) (rest := []) (ac := 9003) (n := n) ?_ ?_ ?_ ?_ ?_; (focus (have := key ‹Int → Value› (M k ++ [x]) ⟨M k, rfl, .inr ⟨by omega, rfl⟩⟩; simpa using this)); (focus (push_cast; done)); (focus (push_cast; done)); (focus (push_cast; done)); (focus (simp [tvL, TV.ids, SV.ids, LV.ids, idsV]; done)))
         | (refine fin_disk1 (m := 9001) (wy := 45) (V := ‹Int → Value›) (M := updM M k [repl 64 0, x]) (way := tks [] (dSpend D).1.Queue ++ [⟨k, 1⟩]) (size := (dSpend D).1.Base.length) (dead := (dSpend D).1.Dead) (rest := []) (ac := 9003) (n := n) ?_ ?_ ?_ ?_ ?_; (focus (have := key ‹Int → Value› ([repl 64 0] ++ [x]) ⟨[repl 64 0], rfl, .inl ⟨by omega, rfl⟩⟩; simpa using this)); (focus (push_cast; done)); (focus (push_cast; done)); (focus (push_cast; done)); (focus (simp [tvL, TV.ids, SV.ids, LV.ids, idsV]; done))))
theorem Put_con : Con1 Cx.P 29 DiskO (.pair (.int .i64) (.pair (.arr 64 (.int .u8)) .unit)) (fun D _ => D.Queue.length < 1000000000) (fun D x => [.int .i64 (dPut D x.1 x.2.1).2]) (fun D x => (dPut D x.1 x.2.1).1) := ⟨isfn29, fun D x h => Put_fn D x.1 x.2.1 h⟩
end Go.Proofs.Ytnmjcdlgfimnaaa
