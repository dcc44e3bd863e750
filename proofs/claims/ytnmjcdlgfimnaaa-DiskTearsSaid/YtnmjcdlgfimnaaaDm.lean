/- The disk: what is on its way arrives: plain lists. -/
import Derived.Test.YtnmjcdlgfimnaaaD8c
import Derived.Test.YtnmjcdlgfimnaaaFza
namespace Go.Proofs.Ytnmjcdlgfimnaaa
attribute [push_cast] capsIn capsAs leafAs capMem capPtr List.drop_succ_cons List.drop_zero List.take_succ_cons List.take_zero List.drop_nil List.take_nil
theorem landL_sec {base : List (List Int)} {x : R08Item} {n : Int} (hb : ∀ s ∈ base, s.length = 64) (hx : x.Sector.length = 64) (h0 : x.To.toNat < base.length) : ∀ s ∈ landL base x n, s.length = 64 := by
  intro s hs
  rcases List.mem_or_eq_of_mem_set hs with h | rfl
  · exact hb s h
  · have h1 : (base.getD x.To.toNat []).length = 64 := hb _ (getD_mem _ _ _ h0)
    rw [mixTo_len _ _ _ (by rw [h1, hx]), h1]
theorem landAll_sec {many : Nat → Int} : ∀ {q : List R08Item} {k : Nat} {base : List (List Int)}, (∀ s ∈ base, s.length = 64) → (∀ x ∈ q, x.Sector.length = 64 ∧ 0 ≤ x.To ∧ x.To < base.length) → ∀ s ∈ landAll many k q base, s.length = 64
  | [], _, _, hb, _, s, hs => hb s hs
  | x :: r, k, base, hb, hq, s, hs => by
    obtain ⟨h1, h2, h3⟩ := hq x (by simp)
    refine landAll_sec (landL_sec hb h1 (by omega)) ?_ s hs
    intro y hy
    rw [landL_len]
    exact hq y (by simp [hy])
theorem landL_ne {base : List (List Int)} {x : R08Item} {n : Int} {j : Nat} (h : x.To.toNat ≠ j) : (landL base x n).getD j [] = base.getD j [] := by
  simp only [landL, landN, List.getD_eq_getElem?_getD, List.getElem?_set_ne h]
theorem landAll_ne {many : Nat → Int} {j : Nat} : ∀ {q : List R08Item} {k : Nat} {base : List (List Int)}, (∀ x ∈ q, x.To.toNat ≠ j) → (landAll many k q base).getD j [] = base.getD j []
  | [], _, _, _ => rfl
  | x :: r, k, base, h => by
    rw [landAll, landAll_ne fun y hy => h y (by simp [hy])]
    exact landL_ne (h x (by simp))
/-- Rows whose first sector is the base's. -/
def MA (M : Int → List (List Int)) (B : List (List Int)) (k : Int) : List (List Int) := match M k with
  | [] => []
  | _ :: r => B.getD k.toNat [] :: r
theorem MA_self {base : List (List Int)} {q : List R08Item} {M : Int → List (List Int)} (hr : RowsOk base q M) : MA M base = M := by
  funext k
  rcases hr k with ⟨h, _, _⟩ | ⟨_, _, h⟩ <;> simp [MA, h]
theorem MA_at {base B : List (List Int)} {q : List R08Item} {M : Int → List (List Int)} (hr : RowsOk base q M) {x : R08Item} (hx : x ∈ q) : MA M B x.To = B.getD x.To.toNat [] :: qTo q x.To := by
  rcases hr x.To with ⟨_, h, _⟩ | ⟨_, _, h⟩
  · exfalso
    have : x.Sector ∈ qTo q x.To := by
      unfold qTo
      exact List.mem_map.2 ⟨x, List.mem_filter.2 ⟨hx, by simp⟩, rfl⟩
    rw [h] at this; simp at this
  · simp [MA, h]
theorem MA_upd {base B : List (List Int)} {q : List R08Item} {M : Int → List (List Int)} (hr : RowsOk base q M) {x : R08Item} (hx : x ∈ q) (h0 : 0 ≤ x.To) (hl : x.To < B.length) (n : Int) (s : List Int) (hs : s = mixTo (min n.toNat 64) (B.getD x.To.toNat []) x.Sector) :
    updM (MA M B) x.To ((MA M B x.To).set 0 s) = MA M (landL B x n) := by
  funext k
  unfold updM
  split
  · rename_i e
    subst e
    rw [MA_at hr hx, MA_at hr hx, List.set_cons_zero]
    congr 1
    have : x.To.toNat < B.length := by omega
    rw [hs, landL, landN, List.getD_eq_getElem?_getD, List.getD_eq_getElem?_getD, List.getElem?_set_self this]
    rfl
  · rename_i e
    unfold MA
    cases hm : M k with
    | nil => rfl
    | cons a r =>
      rcases hr k with ⟨h, _, _⟩ | ⟨hk, _, _⟩
      · rw [h] at hm; simp at hm
      · simp only
        rw [landL_ne]
        omega
theorem tks_sh : ∀ (q acc : List R08Item) (i : Nat), i < q.length → ((tks acc q).getD i ⟨0, 0⟩).shape = ((qTo (acc ++ q.take i) (q.getD i ⟨repl 64 0, 0⟩).To).length : Int) + 1
  | [], acc, i, h => by simp at h
  | x :: r, acc, 0, _ => by simp [tks]
  | x :: r, acc, i + 1, h => by
    have := tks_sh r (acc ++ [x]) i (by simpa using h)
    simpa [tks] using this
theorem tks_get (q : List R08Item) (i : Nat) (h : i < q.length) : (tks [] q).getD i ⟨0, 0⟩ = ⟨(q.getD i ⟨repl 64 0, 0⟩).To, ((qTo (q.take i) (q.getD i ⟨repl 64 0, 0⟩).To).length : Int) + 1⟩ := by
  have h1 := tks_at q [] i h
  have h2 := tks_sh q [] i h
  simp only [List.nil_append] at h2
  rw [← h1] at h2 ⊢
  rw [← h2]
theorem qTo_append (p q : List R08Item) (k : Int) : qTo (p ++ q) k = qTo p k ++ qTo q k := by simp [qTo, List.filter_append]
theorem qTo_cons_self (x : R08Item) (r : List R08Item) : qTo (x :: r) x.To = x.Sector :: qTo r x.To := by simp [qTo]
theorem qTo_split (q : List R08Item) (i : Nat) (h : i < q.length) (k : Int) (hk : k = (q.getD i ⟨repl 64 0, 0⟩).To) : qTo q k = qTo (q.take i) k ++ (q.getD i ⟨repl 64 0, 0⟩).Sector :: qTo (q.drop (i + 1)) k := by
  have e : q = q.take i ++ q.getD i ⟨repl 64 0, 0⟩ :: q.drop (i + 1) := by
    rw [List.getD_eq_getElem?_getD, List.getElem?_eq_getElem h]
    simp
  conv => lhs; rw [e]
  rw [qTo_append, hk, qTo_cons_self]
theorem qTo_at (q : List R08Item) (i : Nat) (h : i < q.length) (d : List Int) : (qTo q (q.getD i ⟨repl 64 0, 0⟩).To).getD (qTo (q.take i) (q.getD i ⟨repl 64 0, 0⟩).To).length d = (q.getD i ⟨repl 64 0, 0⟩).Sector := by
  rw [qTo_split q i h _ rfl, List.getD_eq_getElem?_getD, List.getElem?_append_right (Nat.le_refl _), Nat.sub_self]
  rfl
theorem way_facts {base B : List (List Int)} {q : List R08Item} {M : Int → List (List Int)} (hr : RowsOk base q M) (i : Nat) (h : i < q.length) :
    0 ≤ ((tks [] q).getD i ⟨0, 0⟩).shape ∧ ((tks [] q).getD i ⟨0, 0⟩).shape < ((MA M B ((tks [] q).getD i ⟨0, 0⟩).at_).length : Int) ∧ 0 < ((MA M B ((tks [] q).getD i ⟨0, 0⟩).at_).length : Int) := by
  have hm : q.getD i ⟨repl 64 0, 0⟩ ∈ q := getD_mem _ _ _ h
  have h1 : (qTo q (q.getD i ⟨repl 64 0, 0⟩).To).length = (qTo (q.take i) (q.getD i ⟨repl 64 0, 0⟩).To).length + ((qTo (q.drop (i + 1)) (q.getD i ⟨repl 64 0, 0⟩).To).length + 1) := by
    conv => lhs; rw [qTo_split q i h _ rfl]
    simp
  rw [tks_get q i h]
  simp only [MA_at hr hm, List.length_cons]
  omega
theorem way_at {base B : List (List Int)} {q : List R08Item} {M : Int → List (List Int)} (hr : RowsOk base q M) (i : Nat) (h : i < q.length) (d : List Int) :
    (MA M B ((tks [] q).getD i ⟨0, 0⟩).at_).getD ((tks [] q).getD i ⟨0, 0⟩).shape.toNat d = (q.getD i ⟨repl 64 0, 0⟩).Sector := by
  have hm : q.getD i ⟨repl 64 0, 0⟩ ∈ q := getD_mem _ _ _ h
  rw [tks_get q i h]
  simp only [MA_at hr hm]
  have e : (((qTo (q.take i) (q.getD i ⟨repl 64 0, 0⟩).To).length : Int) + 1).toNat = (qTo (q.take i) (q.getD i ⟨repl 64 0, 0⟩).To).length + 1 := by omega
  rw [e, List.getD_cons_succ, qTo_at q i h]
theorem way_0 {base B : List (List Int)} {q : List R08Item} {M : Int → List (List Int)} (hr : RowsOk base q M) (i : Nat) (h : i < q.length) (d : List Int) :
    (MA M B ((tks [] q).getD i ⟨0, 0⟩).at_).getD 0 d = B.getD (q.getD i ⟨repl 64 0, 0⟩).To.toNat [] := by
  have hm : q.getD i ⟨repl 64 0, 0⟩ ∈ q := getD_mem _ _ _ h
  rw [tks_get q i h]
  simp only [MA_at hr hm, List.getD_cons_zero]
/-- Rows of which the first so many of a queue have their first sector alone. -/
def MB (M : Int → List (List Int)) (q : List R08Item) (j : Nat) (k : Int) : List (List Int) := if (q.take j).any (fun x => x.To == k) then (M k).take 1 else M k
theorem MB_zero (M : Int → List (List Int)) (q : List R08Item) : MB M q 0 = M := by funext k; simp [MB]
theorem MB_succ (M : Int → List (List Int)) (q : List R08Item) (j : Nat) (h : j < q.length) : updM (MB M q j) (q.getD j ⟨repl 64 0, 0⟩).To ((MB M q j (q.getD j ⟨repl 64 0, 0⟩).To).take 1) = MB M q (j + 1) := by
  funext k
  unfold updM
  split
  · rename_i e
    subst e
    unfold MB
    rw [take_succ_getD q j ⟨repl 64 0, 0⟩ h, List.any_append]
    have h2 : ([q.getD j ⟨repl 64 0, 0⟩].any fun x => x.To == (q.getD j ⟨repl 64 0, 0⟩).To) = true := by simp
    rw [h2, Bool.or_true]
    split <;> simp [List.take_take]
  · rename_i e
    unfold MB
    rw [take_succ_getD q j ⟨repl 64 0, 0⟩ h, List.any_append]
    have h2 : ([q.getD j ⟨repl 64 0, 0⟩].any fun x => x.To == k) = false := by simpa using Ne.symm e
    rw [h2, Bool.or_false]
theorem rows_end {D : R08Disk} {M : Int → List (List Int)} (hr : RowsOk D.Base D.Queue M) (hwf : DWf D) (bytes : Nat → Int) : RowsOk (landAll bytes 0 D.Queue D.Base) [] (MB (MA M (landAll bytes 0 D.Queue D.Base)) D.Queue D.Queue.length) := by
  intro k
  have hlen := landAll_len bytes 0 D.Queue D.Base
  unfold MB
  rw [List.take_length]
  rcases hr k with ⟨h1, h2, h3⟩ | ⟨h1, h2, h3⟩
  · left
    have e : MA M (landAll bytes 0 D.Queue D.Base) k = [] := by simp [MA, h1]
    refine ⟨by rw [e]; simp, by simp [qTo], fun h0 hl => ?_⟩
    rw [landAll_ne, h3 h0 (by omega)]
    intro x hx e2
    have : x.Sector ∈ qTo D.Queue k := by
      unfold qTo
      refine List.mem_map.2 ⟨x, List.mem_filter.2 ⟨hx, ?_⟩, rfl⟩
      have := hwf.qs x hx
      simp only [beq_iff_eq]
      omega
    rw [h2] at this; simp at this
  · right
    refine ⟨h1, by omega, ?_⟩
    have e : MA M (landAll bytes 0 D.Queue D.Base) k = (landAll bytes 0 D.Queue D.Base).getD k.toNat [] :: qTo D.Queue k := by simp [MA, h3]
    rw [e]
    split
    · simp [qTo]
    · rename_i h
      have : qTo D.Queue k = [] := by
        unfold qTo
        rw [List.map_eq_nil_iff, List.filter_eq_nil_iff]
        intro x hx hk
        exact h (List.any_eq_true.2 ⟨x, hx, hk⟩)
      rw [this]; simp [qTo]
theorem DWf_arr {D : R08Disk} (hwf : DWf D) (bytes : Nat → Int) : DWf ⟨landAll bytes 0 D.Queue D.Base, [], D.Burns, D.Dead⟩ := by
  refine ⟨by simp only [landAll_len]; exact hwf.many, ?_, by simp, by simp, hwf.burns⟩
  exact landAll_sec hwf.sec hwf.qs
theorem MB_pos {base B : List (List Int)} {q : List R08Item} {M : Int → List (List Int)} (hr : RowsOk base q M) (j i : Nat) (h : i < q.length) : 1 ≤ (MB (MA M B) q j ((tks [] q).getD i ⟨0, 0⟩).at_).length := by
  have hm : q.getD i ⟨repl 64 0, 0⟩ ∈ q := getD_mem _ _ _ h
  rw [tks_get q i h]
  unfold MB
  simp only [MA_at hr hm]
  split <;> simp
theorem tks_to (q : List R08Item) (i : Nat) (h : i < q.length) : ((tks [] q).getD i ⟨0, 0⟩).at_ = (q.getD i ⟨repl 64 0, 0⟩).To := by rw [tks_get q i h]
theorem fin_cut0 {D : R08Disk} {way : List DiskTicket} {V : Int → Value} {M : Int → List (List Int)} {size : Int} {dead : Bool} {rest : List (Nat × Box)} {rets : List LV} {tv : TV} {s : SymSt} (h : DOk D ⟨V, M, [], none, size, dead⟩)
    (hm : LeM ((1, .segs [.mp 9001, .int .i64 size, .ocut 9002 0, .nilp, .bool dead]) :: (9002, .arr rDiskTicket way) :: (9001, .mpr (.arr 64 (.int .u8)) M V none) :: rest) s.mem)
    (hn : (1 :: 9002 :: 9001 :: idsM rest).Nodup) (h3 : 9004 ∉ idsM rest) (h4 : ∀ e ∈ rest, 9004 ∉ e.2.ids) (hr : RetsOk (tv.list.map (SV.frz (rmsM (1 :: 9002 :: 9001 :: idsM rest) s.mem))) rets) (hi : ∀ i ∈ (tvL rets).ids, i < 5000) : Fin rets ((1, .obj DiskO D) :: rest) tv s := by
  refine ⟨(1, .segs [.mp 9001, .int .i64 size, .ocut 9002 0, .nilp, .bool dead]) :: (9002, .arr rDiskTicket way) :: (9001, .mpr (.arr 64 (.int .u8)) M V none) :: rest, hr, hm, hn, Closes.trans (Closes.ocut (p := [.mp 9001, .int .i64 size]) (q := [.nilp, .bool dead]) (n := 9004) (by omega) (by omega) (by simp [idsL, LV.ids]) (by simp [idsL, LV.ids]) (by simpa [idsM] using h3) ?_ (by omega)) (Closes.trans (Closes.sub ?_ ?_) (close_disk0 (m := 9001) (wy := 9004) h (by omega) (by omega) (by omega))), hi⟩
  · intro e he
    rcases List.mem_cons.1 he with rfl | he
    · simp [Box.ids]
    · exact h4 e he
  · simp only [List.nodup_cons, List.mem_cons, not_or] at hn
    simp only [idsM, List.map_cons, List.nodup_cons, List.mem_cons, not_or]
    exact ⟨⟨by omega, by omega, hn.1.2.2⟩, ⟨by omega, hn.2.2.1⟩, h3, hn.2.2.2⟩
  · intro e he
    simp only [List.mem_cons, List.cons_append, List.nil_append, List.take_zero] at he ⊢
    rcases he with h | h | h | h
    · exact .inl h
    · exact .inr (.inr (.inl h))
    · exact .inr (.inl h)
    · exact .inr (.inr (.inr h))
theorem fin_cut1 {D : R08Disk} {way : List DiskTicket} {V : Int → Value} {M : Int → List (List Int)} {n size : Int} {dead : Bool} {rest : List (Nat × Box)} {rets : List LV} {tv : TV} {s : SymSt} (h : DOk D ⟨V, M, [], some n, size, dead⟩)
    (hm : LeM ((1, .segs [.mp 9001, .int .i64 size, .ocut 9002 0, .ptr 9003 [] 0, .bool dead]) :: (9002, .arr rDiskTicket way) :: (9001, .mpr (.arr 64 (.int .u8)) M V none) :: (9003, .segs [.int .i64 n]) :: rest) s.mem)
    (hn : (1 :: 9002 :: 9001 :: 9003 :: idsM rest).Nodup) (h3 : 9004 ∉ idsM rest) (h4 : ∀ e ∈ rest, 9004 ∉ e.2.ids) (hr : RetsOk (tv.list.map (SV.frz (rmsM (1 :: 9002 :: 9001 :: 9003 :: idsM rest) s.mem))) rets) (hi : ∀ i ∈ (tvL rets).ids, i < 5000) : Fin rets ((1, .obj DiskO D) :: rest) tv s := by
  refine ⟨(1, .segs [.mp 9001, .int .i64 size, .ocut 9002 0, .ptr 9003 [] 0, .bool dead]) :: (9002, .arr rDiskTicket way) :: (9001, .mpr (.arr 64 (.int .u8)) M V none) :: (9003, .segs [.int .i64 n]) :: rest, hr, hm, hn, Closes.trans (Closes.ocut (p := [.mp 9001, .int .i64 size]) (q := [.ptr 9003 [] 0, .bool dead]) (n := 9004) (by omega) (by omega) (by simp [idsL, LV.ids]) (by simp [idsL, LV.ids]) (by simpa [idsM] using h3) ?_ (by omega)) (Closes.trans (Closes.sub ?_ ?_) (close_disk1 (m := 9001) (wy := 9004) (ac := 9003) h (by omega) (by omega) (by omega) (by omega) (by omega) (by omega))), hi⟩
  · intro e he
    rcases List.mem_cons.1 he with rfl | he
    · simp [Box.ids]
    rcases List.mem_cons.1 he with rfl | he
    · simp [Box.ids, idsL, LV.ids]
    · exact h4 e he
  · simp only [List.nodup_cons, List.mem_cons, not_or] at hn
    simp only [idsM, List.map_cons, List.nodup_cons, List.mem_cons, not_or]
    exact ⟨⟨by omega, by omega, by omega, hn.1.2.2.2⟩, ⟨by omega, by omega, hn.2.2.1.2⟩, ⟨by omega, h3⟩, hn.2.2.2.1, hn.2.2.2.2⟩
  · intro e he
    simp only [List.mem_cons, List.cons_append, List.nil_append, List.take_zero] at he ⊢
    rcases he with h | h | h | h | h
    · exact .inl h
    · exact .inr (.inr (.inl h))
    · exact .inr (.inl h)
    · exact .inr (.inr (.inr (.inl h)))
    · exact .inr (.inr (.inr (.inr h)))
end Go.Proofs.Ytnmjcdlgfimnaaa
