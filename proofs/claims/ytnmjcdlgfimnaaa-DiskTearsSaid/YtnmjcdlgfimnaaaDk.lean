/- The disk: how it lies in memory. -/
import Derived.Test.YtnmjcdlgfimnaaaMd
namespace Go.Proofs.Ytnmjcdlgfimnaaa
/-! How it lies. -/
structure DiskI : Type 1 where
  V : Int → Value
  M : Int → List (List Int)
  way : List DiskTicket
  acts : Option Int
  size : Int
  dead : Bool
def mmD (i : DiskI) : List (Nat × Box) := match i.acts with
  | none => [(1, .segs [.mp 9001, .int .i64 i.size, .own 9002, .nilp, .bool i.dead]), (9001, .mpr (.arr 64 (.int .u8)) i.M i.V none), (9002, .arr rDiskTicket i.way)]
  | some n => [(1, .segs [.mp 9001, .int .i64 i.size, .own 9002, .ptr 9003 [] 0, .bool i.dead]), (9001, .mpr (.arr 64 (.int .u8)) i.M i.V none), (9002, .arr rDiskTicket i.way), (9003, .segs [.int .i64 n])]
/-- What each sector's row has. -/
def RowsOk (base : List (List Int)) (q : List R08Item) (M : Int → List (List Int)) : Prop :=
  ∀ k, (M k = [] ∧ qTo q k = [] ∧ (0 ≤ k → k < base.length → base.getD k.toNat [] = zeros)) ∨ (0 ≤ k ∧ k < base.length ∧ M k = base.getD k.toNat [] :: qTo q k)
def tks : List R08Item → List R08Item → List DiskTicket
  | _, [] => []
  | acc, x :: r => ⟨x.To, ((qTo acc x.To).length : Int) + 1⟩ :: tks (acc ++ [x]) r
structure DWf (d : R08Disk) : Prop where
  many : d.Base.length ≤ 2048
  sec : ∀ s ∈ d.Base, s.length = 64
  qs : ∀ x ∈ d.Queue, x.Sector.length = 64 ∧ 0 ≤ x.To ∧ x.To < d.Base.length
  qn : d.Queue.length ≤ 1000000000
  burns : -1 ≤ d.Burns ∧ d.Burns ≤ 9223372036854775807
structure DOk (d : R08Disk) (i : DiskI) : Prop where
  wf : DWf d
  size : i.size = d.Base.length
  dead : i.dead = d.Dead
  acts : i.acts = if d.Burns < 0 then none else some d.Burns
  rows : RowsOk d.Base d.Queue i.M
  way : i.way = tks [] d.Queue
theorem qTo_len (q : List R08Item) (k : Int) : (qTo q k).length ≤ q.length := by
  unfold qTo
  rw [List.length_map]
  exact List.length_filter_le _ _
theorem rows_len {D : R08Disk} {M : Int → List (List Int)} (hr : RowsOk D.Base D.Queue M) (hw : DWf D) (k : Int) : (M k).length ≤ 1000000001 := by
  have h1 := qTo_len D.Queue k
  have h2 := hw.qn
  rcases hr k with ⟨e, _, _⟩ | ⟨_, _, e⟩
  · rw [e]; simp
  · rw [e, List.length_cons]; omega
theorem tks_len : ∀ (q acc : List R08Item), (tks acc q).length = q.length
  | [], _ => rfl
  | x :: r, acc => by simp only [tks, List.length_cons, tks_len r]
theorem getLast_getD {α : Type} (d : α) : ∀ (l : List α), l ≠ [] → l.getLast?.getD d = l.getD (l.length - 1) d := by
  intro l h
  rw [List.getLast?_eq_getElem?, List.getD_eq_getElem?_getD]
theorem get_none {D : R08Disk} {k : Int} (h : dThere D k = false) : dGet D k = (zeros, 81) := by simp [dGet, h]
theorem there_iff {D : R08Disk} {k : Int} (h : dThere D k = true) : 0 ≤ k ∧ k < D.Base.length := by
  simpa [dThere] using h
theorem get_zero {D : R08Disk} {k : Int} {M : Int → List (List Int)} (hr : RowsOk D.Base D.Queue M) (h : dThere D k = true) (hm : (M k).length = 0) : dGet D k = (zeros, 0) := by
  obtain ⟨h0, h1⟩ := there_iff h
  rcases hr k with ⟨_, e, e2⟩ | ⟨_, _, e⟩
  · have := e2 h0 h1
    simp only [dGet, h, if_true, e, List.getLast?_nil, Option.getD_none, this]
  · rw [e] at hm; simp at hm
theorem get_some {D : R08Disk} {k : Int} {M : Int → List (List Int)} (hr : RowsOk D.Base D.Queue M) (h : dThere D k = true) (hm : ¬ (M k).length = 0) : dGet D k = ((M k).getD ((M k).length - 1) zeros, 0) := by
  rcases hr k with ⟨e, _, _⟩ | ⟨_, _, e⟩
  · rw [e] at hm; simp at hm
  · simp only [dGet, h, if_true, e, List.length_cons, Nat.add_sub_cancel]
    cases hq : qTo D.Queue k with
    | nil => simp
    | cons x r =>
      rw [getLast_getD _ _ (by simp)]
      simp [List.getD_eq_getElem?_getD]
def DiskO : R08Disk → ObjP := partsO DOk mmD 1
/-- What comes ahead of a disk's parts being put together again. -/
theorem open_disk (D : R08Disk) (rest : List (Nat × Box)) (h1 : ∀ j ∈ idsM rest, j < 5000) (h2 : ∀ e ∈ rest, ∀ j ∈ e.2.ids, j < 5000) :
    Opens ((1, .obj DiskO D) :: rest) (fun i : {i : DiskI // DOk D i} => mmD i.1 ++ rest) := by
  refine opens_parts ?_ ?_ ?_
  · rintro ⟨V, M, way, acts, size, dead⟩ j hj hne
    have : 5000 ≤ j := by
      cases acts <;> simp [mmD, idsM] at hj <;> omega
    exact ⟨fun h => by have := h1 j h; omega, fun e he h => by have := h2 e he j h; omega⟩
  · rintro ⟨V, M, way, acts, size, dead⟩ e he j hj
    cases acts
    · simp only [mmD, List.mem_cons, List.not_mem_nil, or_false] at he
      rcases he with rfl | rfl | rfl <;> simp [Box.ids, idsL, LV.ids] at hj <;> simp [mmD, idsM] <;> omega
    · simp only [mmD, List.mem_cons, List.not_mem_nil, or_false] at he
      rcases he with rfl | rfl | rfl | rfl <;> simp [Box.ids, idsL, LV.ids] at hj <;> simp [mmD, idsM] <;> omega
  · rintro ⟨V, M, way, acts, size, dead⟩ j hj hne
    cases acts <;> simp [mmD, idsM] at hj <;> omega

theorem close_disk0 {D : R08Disk} {m wy : Nat} {V : Int → Value} {M : Int → List (List Int)} {way : List DiskTicket} {size : Int} {dead : Bool} {rest : List (Nat × Box)} (h : DOk D ⟨V, M, way, none, size, dead⟩) (h1 : m ≠ 1) (h2 : wy ≠ 1) (h3 : m ≠ wy) :
    Closes ((1, .segs [.mp m, .int .i64 size, .own wy, .nilp, .bool dead]) :: (m, .mpr (.arr 64 (.int .u8)) M V none) :: (wy, .arr rDiskTicket way) :: rest) ((1, .obj DiskO D) :: rest) := by
  have := closes_parts (ok := DOk) (mm := mmD) (root := 1) (D := D) (rest := rest) ⟨V, M, way, none, size, dead⟩ (fun j => if j = 9001 then m else if j = 9002 then wy else j) h (by simp) (by simp [mmD, idsM]) (by simp [mmD, idsM]) (by
    simp only [mmD, idsM, List.map_cons, List.map_nil, List.mem_cons, List.not_mem_nil, or_false]
    rintro a (rfl | rfl | rfl) b (rfl | rfl | rfl) <;> simp <;> omega)
  simpa [renM, mmD, Box.ren, LV.ren, DiskO] using this
theorem close_disk1 {D : R08Disk} {m wy ac : Nat} {V : Int → Value} {M : Int → List (List Int)} {way : List DiskTicket} {n size : Int} {dead : Bool} {rest : List (Nat × Box)} (h : DOk D ⟨V, M, way, some n, size, dead⟩) (h1 : m ≠ 1) (h2 : wy ≠ 1) (h3 : m ≠ wy) (h4 : ac ≠ 1) (h5 : ac ≠ m) (h6 : ac ≠ wy) :
    Closes ((1, .segs [.mp m, .int .i64 size, .own wy, .ptr ac [] 0, .bool dead]) :: (m, .mpr (.arr 64 (.int .u8)) M V none) :: (wy, .arr rDiskTicket way) :: (ac, .segs [.int .i64 n]) :: rest) ((1, .obj DiskO D) :: rest) := by
  have := closes_parts (ok := DOk) (mm := mmD) (root := 1) (D := D) (rest := rest) ⟨V, M, way, some n, size, dead⟩ (fun j => if j = 9001 then m else if j = 9002 then wy else if j = 9003 then ac else j) h (by simp) (by simp [mmD, idsM]) (by simp [mmD, idsM]) (by
    simp only [mmD, idsM, List.map_cons, List.map_nil, List.mem_cons, List.not_mem_nil, or_false]
    rintro a (rfl | rfl | rfl | rfl) b (rfl | rfl | rfl | rfl) <;> simp <;> omega)
  simpa [renM, mmD, Box.ren, LV.ren, DiskO] using this
theorem fin_disk0 {D : R08Disk} {m wy : Nat} {V : Int → Value} {M : Int → List (List Int)} {way : List DiskTicket} {size : Int} {dead : Bool} {rest : List (Nat × Box)} {rets : List LV} {tv : TV} {s : SymSt} (h : DOk D ⟨V, M, way, none, size, dead⟩)
    (hm : LeM ((1, .segs [.mp m, .int .i64 size, .own wy, .nilp, .bool dead]) :: (m, .mpr (.arr 64 (.int .u8)) M V none) :: (wy, .arr rDiskTicket way) :: rest) s.mem)
    (hn : (1 :: m :: wy :: idsM rest).Nodup) (hr : RetsOk (tv.list.map (SV.frz (rmsM (1 :: m :: wy :: idsM rest) s.mem))) rets) (hi : ∀ i ∈ (tvL rets).ids, i < 5000) : Fin rets ((1, .obj DiskO D) :: rest) tv s := by
  simp only [List.nodup_cons, List.mem_cons, not_or] at hn
  exact ⟨(1, .segs [.mp m, .int .i64 size, .own wy, .nilp, .bool dead]) :: (m, .mpr (.arr 64 (.int .u8)) M V none) :: (wy, .arr rDiskTicket way) :: rest, hr, hm, by simp only [idsM, List.map_cons, List.nodup_cons, List.mem_cons, not_or]; exact hn, close_disk0 h (by omega) (by omega) (by omega), hi⟩
theorem fin_disk1 {D : R08Disk} {m wy ac : Nat} {V : Int → Value} {M : Int → List (List Int)} {way : List DiskTicket} {n size : Int} {dead : Bool} {rest : List (Nat × Box)} {rets : List LV} {tv : TV} {s : SymSt} (h : DOk D ⟨V, M, way, some n, size, dead⟩)
    (hm : LeM ((1, .segs [.mp m, .int .i64 size, .own wy, .ptr ac [] 0, .bool dead]) :: (m, .mpr (.arr 64 (.int .u8)) M V none) :: (wy, .arr rDiskTicket way) :: (ac, .segs [.int .i64 n]) :: rest) s.mem)
    (hn : (1 :: m :: wy :: ac :: idsM rest).Nodup) (hr : RetsOk (tv.list.map (SV.frz (rmsM (1 :: m :: wy :: ac :: idsM rest) s.mem))) rets) (hi : ∀ i ∈ (tvL rets).ids, i < 5000) : Fin rets ((1, .obj DiskO D) :: rest) tv s := by
  simp only [List.nodup_cons, List.mem_cons, not_or] at hn
  exact ⟨(1, .segs [.mp m, .int .i64 size, .own wy, .ptr ac [] 0, .bool dead]) :: (m, .mpr (.arr 64 (.int .u8)) M V none) :: (wy, .arr rDiskTicket way) :: (ac, .segs [.int .i64 n]) :: rest, hr, hm, by simp only [idsM, List.map_cons, List.nodup_cons, List.mem_cons, not_or]; exact hn, close_disk1 h (by omega) (by omega) (by omega) (by omega) (by omega) (by omega), hi⟩

theorem updM_self {α : Type} (M : Int → List α) (k : Int) : updM M k (M k) = M := by
  funext j
  unfold updM
  split
  · rename_i h; rw [h]
  · rfl
theorem fin_disk0r {D : R08Disk} {m wy id : Nat} {k : Int} {l : List (List Int)} {V : Int → Value} {M : Int → List (List Int)} {way : List DiskTicket} {size : Int} {dead : Bool} {rest : List (Nat × Box)} {rets : List LV} {tv : TV} {s : SymSt} (h : DOk D ⟨V, updM M k l, way, none, size, dead⟩)
    (hm : LeM ((1, .segs [.mp m, .int .i64 size, .own wy, .nilp, .bool dead]) :: (m, .mpr (.arr 64 (.int .u8)) M V (some (k, some id))) :: (wy, .arr rDiskTicket way) :: (id, .arr (.arr 64 (.int .u8)) l) :: rest) s.mem)
    (hn : (1 :: m :: wy :: id :: idsM rest).Nodup) (hr : RetsOk (tv.list.map (SV.frz (rmsM (1 :: m :: wy :: id :: idsM rest) s.mem))) rets) (hi : ∀ i ∈ (tvL rets).ids, i < 5000) : Fin rets ((1, .obj DiskO D) :: rest) tv s := by
  simp only [List.nodup_cons, List.mem_cons, not_or] at hn
  obtain ⟨⟨n1, n2, n3, n4⟩, ⟨n5, n6, n7⟩, ⟨n8, n9⟩, n10, n11⟩ := hn
  have hrest : rmM rest id = rest := by
    have gen : ∀ (l : List (Nat × Box)), id ∉ idsM l → rmM l id = l := by
      intro l
      induction l with
      | nil => intro _; rfl
      | cons x r ih =>
        intro h
        simp only [idsM, List.map_cons, List.mem_cons, not_or] at h
        have : (x.1 == id) = false := by simpa using Ne.symm h.1
        unfold rmM
        rw [this, cond_false, ih h.2]
    exact gen rest n10
  refine ⟨(1, .segs [.mp m, .int .i64 size, .own wy, .nilp, .bool dead]) :: (m, .mpr (.arr 64 (.int .u8)) M V (some (k, some id))) :: (wy, .arr rDiskTicket way) :: (id, .arr (.arr 64 (.int .u8)) l) :: rest, hr, hm, ?_, ?_, hi⟩
  · simp only [idsM, List.map_cons, List.nodup_cons, List.mem_cons, not_or]
    exact ⟨⟨n1, n2, n3, n4⟩, ⟨n5, n6, n7⟩, ⟨n8, n9⟩, n10, n11⟩
  · have e1 : (1 == m) = false := by simpa using n1
    have e2 : (m == m) = true := by simp
    have e3 : (1 == id) = false := by simpa using n3
    have e4 : (m == id) = false := by simpa using n6
    have e5 : (wy == id) = false := by simpa using n8
    have e6 : (wy == m) = false := by simpa using Ne.symm n5
    have e7 : (m == 1) = false := by simpa using Ne.symm n1
    have e8 : (id == id) = true := by simp
    refine Closes.trans (Closes.row (m := m) (id := id) (A := .arr 64 (.int .u8)) (M := M) (V := V) (k := k) (l := l) ?_ ?_) ?_
    · simp [getM, e1]
    · simp [getM, e3, e4, e5]
    · simp only [setM, e1, e2, cond_false, cond_true, rmM, e3, e4, e5, e8, hrest]
      exact close_disk0 h (Ne.symm n1) (Ne.symm n2) n5
theorem fin_disk1r {D : R08Disk} {m wy ac id : Nat} {k n : Int} {l : List (List Int)} {V : Int → Value} {M : Int → List (List Int)} {way : List DiskTicket} {size : Int} {dead : Bool} {rest : List (Nat × Box)} {rets : List LV} {tv : TV} {s : SymSt} (h : DOk D ⟨V, updM M k l, way, some n, size, dead⟩)
    (hm : LeM ((1, .segs [.mp m, .int .i64 size, .own wy, .ptr ac [] 0, .bool dead]) :: (m, .mpr (.arr 64 (.int .u8)) M V (some (k, some id))) :: (wy, .arr rDiskTicket way) :: (ac, .segs [.int .i64 n]) :: (id, .arr (.arr 64 (.int .u8)) l) :: rest) s.mem)
    (hn : (1 :: m :: wy :: ac :: id :: idsM rest).Nodup) (hr : RetsOk (tv.list.map (SV.frz (rmsM (1 :: m :: wy :: ac :: id :: idsM rest) s.mem))) rets) (hi : ∀ i ∈ (tvL rets).ids, i < 5000) : Fin rets ((1, .obj DiskO D) :: rest) tv s := by
  simp only [List.nodup_cons, List.mem_cons, not_or] at hn
  obtain ⟨⟨n1, n2, a1, n3, n4⟩, ⟨n5, a2, n6, n7⟩, ⟨a3, n8, n9⟩, ⟨a4, a5⟩, n10, n11⟩ := hn
  have hrest : rmM rest id = rest := by
    have gen : ∀ (l : List (Nat × Box)), id ∉ idsM l → rmM l id = l := by
      intro l
      induction l with
      | nil => intro _; rfl
      | cons x r ih =>
        intro h
        simp only [idsM, List.map_cons, List.mem_cons, not_or] at h
        have : (x.1 == id) = false := by simpa using Ne.symm h.1
        unfold rmM
        rw [this, cond_false, ih h.2]
    exact gen rest n10
  refine ⟨(1, .segs [.mp m, .int .i64 size, .own wy, .ptr ac [] 0, .bool dead]) :: (m, .mpr (.arr 64 (.int .u8)) M V (some (k, some id))) :: (wy, .arr rDiskTicket way) :: (ac, .segs [.int .i64 n]) :: (id, .arr (.arr 64 (.int .u8)) l) :: rest, hr, hm, ?_, ?_, hi⟩
  · simp only [idsM, List.map_cons, List.nodup_cons, List.mem_cons, not_or]
    exact ⟨⟨n1, n2, a1, n3, n4⟩, ⟨n5, a2, n6, n7⟩, ⟨a3, n8, n9⟩, ⟨a4, a5⟩, n10, n11⟩
  · have e1 : (1 == m) = false := by simpa using n1
    have e2 : (m == m) = true := by simp
    have e3 : (1 == id) = false := by simpa using n3
    have e4 : (m == id) = false := by simpa using n6
    have e5 : (wy == id) = false := by simpa using n8
    have e9 : (ac == id) = false := by simpa using a4
    have e8 : (id == id) = true := by simp
    refine Closes.trans (Closes.row (m := m) (id := id) (A := .arr 64 (.int .u8)) (M := M) (V := V) (k := k) (l := l) ?_ ?_) ?_
    · simp [getM, e1]
    · simp [getM, e3, e4, e5, e9]
    · simp only [setM, e1, e2, cond_false, cond_true, rmM, e3, e4, e5, e8, e9, hrest]
      exact close_disk1 h (Ne.symm n1) (Ne.symm n2) n5 (Ne.symm a1) (Ne.symm a2) (Ne.symm a3)
theorem tks_at : ∀ (q acc : List R08Item) (i : Nat), i < q.length → ((tks acc q).getD i ⟨0, 0⟩).at_ = (q.getD i ⟨repl 64 0, 0⟩).To
  | [], _, i, h => by simp at h
  | x :: r, acc, 0, _ => rfl
  | x :: r, acc, i + 1, h => by
    have := tks_at r (acc ++ [x]) i (by simpa using h)
    simpa [tks] using this
def qNum (q : List R08Item) (i : Nat) : List Int := (q.take i).map (·.To) ++ List.replicate (q.length - i) 0
theorem qNum_len (q : List R08Item) (i : Nat) (h : i ≤ q.length) : (qNum q i).length = q.length := by
  simp [qNum]; omega
theorem qNum_succ (q : List R08Item) (i : Nat) (h : i < q.length) : (qNum q i).set i (q.getD i ⟨repl 64 0, 0⟩).To = qNum q (i + 1) := by
  have h1 : ((q.take i).map (·.To)).length = i := by simp; omega
  have h2 : q.length - i = (q.length - (i + 1)) + 1 := by omega
  unfold qNum
  rw [take_succ_getD q i ⟨repl 64 0, 0⟩ h, List.map_append, List.append_assoc, h2, List.replicate_succ, List.set_append_right _ _ (by omega), h1, Nat.sub_self]
  rfl
theorem qNum_all (q : List R08Item) : qNum q q.length = q.map (·.To) := by simp [qNum]
theorem updM_same {α : Type} (M : Int → List α) (k : Int) (l : List α) : updM M k l k = l := by simp [updM]
theorem updM_updM {α : Type} (M : Int → List α) (k : Int) (l l' : List α) : updM (updM M k l) k l' = updM M k l' := by
  funext j
  unfold updM
  split <;> rfl
attribute [push_cast] updM_same updM_updM
theorem tks_snoc : ∀ (q acc : List R08Item) (y : R08Item), tks acc (q ++ [y]) = tks acc q ++ [⟨y.To, ((qTo (acc ++ q) y.To).length : Int) + 1⟩]
  | [], acc, y => by simp [tks]
  | x :: r, acc, y => by
    simp only [List.cons_append, tks]
    rw [tks_snoc r (acc ++ [x]) y, List.append_assoc]
    rfl
theorem qTo_snoc (q : List R08Item) (y : R08Item) (k : Int) : qTo (q ++ [y]) k = if y.To = k then qTo q k ++ [y.Sector] else qTo q k := by
  unfold qTo
  rw [List.filter_append, List.map_append]
  by_cases h : y.To = k
  · simp [h]
  · have : (y.To == k) = false := by simpa using h
    simp [h, this]
/-- A disk with something more on its way. -/
theorem DOk_put {S : R08Disk} {M : Int → List (List Int)} {V : Int → Value} {acts : Option Int} {k : Int} {x : List Int} {l : List (List Int)} (hwf : DWf S) (hr : RowsOk S.Base S.Queue M) (hx : x.length = 64) (h0 : 0 ≤ k) (h1 : k < S.Base.length) (hq : S.Queue.length < 1000000000)
    (ha : acts = if S.Burns < 0 then none else some S.Burns) (hl : ∃ l0, l = l0 ++ [x] ∧ (((M k).length = 0 ∧ l0 = [repl 64 0]) ∨ ((M k).length ≠ 0 ∧ l0 = M k))) :
    DOk { S with Queue := S.Queue ++ [⟨x, k⟩] } ⟨V, updM M k l, tks [] S.Queue ++ [⟨k, (l.length : Int) - 1⟩], acts, S.Base.length, S.Dead⟩ := by
  obtain ⟨l0, rfl, hl⟩ := hl
  have hrow : l0 = S.Base.getD k.toNat [] :: qTo S.Queue k := by
    rcases hr k with ⟨e, e1, e2⟩ | ⟨_, _, e⟩
    · have : l0 = [repl 64 0] := by rcases hl with ⟨_, h⟩ | ⟨h, _⟩ <;> simp_all
      rw [this, e1, e2 h0 h1]
    · rcases hl with ⟨h, _⟩ | ⟨_, h⟩
      · rw [e] at h; simp at h
      · rw [h, e]
  refine ⟨⟨hwf.many, hwf.sec, ?_, by simp only [List.length_append, List.length_singleton]; omega, hwf.burns⟩, rfl, rfl, ha, ?_, ?_⟩
  · intro y hy
    rcases List.mem_append.1 hy with hy | hy
    · exact hwf.qs y hy
    · simp only [List.mem_singleton] at hy
      subst hy
      exact ⟨hx, h0, h1⟩
  · intro j
    rw [qTo_snoc]
    by_cases e : k = j
    · subst e
      right
      refine ⟨h0, h1, ?_⟩
      simp only [if_true, updM_same]
      rw [hrow]; rfl
    · have e2 : updM M k (l0 ++ [x]) j = M j := by unfold updM; rw [if_neg (Ne.symm e)]
      simp only [e2, if_neg e]
      exact hr j
  · rw [tks_snoc, hrow]
    simp
end Go.Proofs.Ytnmjcdlgfimnaaa
