/- The disk: what is on its way arrives: plain lists. -/
import Derived.Test.YtnmjcdlgfimnaaaB1
import Derived.Test.YtnmjcdlgfimnaaaA5
namespace Go.Proofs.Ytnmjcdlgfimnaaa
attribute [push_cast] Qmq Qfa Qkx Qdw Qk3 List.drop_succ_cons List.drop_zero List.take_succ_cons List.take_zero List.drop_nil List.take_nil
theorem landL_sec {base : List (List Int)} {x : Qad} {n : Int} (hb : ∀ s ∈ base, s.length = 64) (hx : x.Sector.length = 64) (h0 : x.To.toNat < base.length) : ∀ s ∈ landL base x n, s.length = 64 := by
 intro s hs
 rcases List.mem_or_eq_of_mem_set hs with h | rfl
 ·exact hb s h
 ·have h1 : (base.getD x.To.toNat []).length = 64 := hb _ (getD_mem _ _ _ h0)
  rw [mixTo_len _ _ _ (by rw [h1, hx]), h1]
theorem landAll_sec {many : Nat → Int} : ∀ {q : List Qad} {k : Nat} {base : List (List Int)}, (∀ s ∈ base, s.length = 64) → (∀ x ∈ q, x.Sector.length = 64 ∧ 0 ≤ x.To ∧ x.To < base.length) → ∀ s ∈ landAll many k q base, s.length = 64
 | [], _, _, hb, _, s, hs => hb s hs
 | x :: r, k, base, hb, hq, s, hs => by
  obtain ⟨h1, h2, h3⟩ := hq x (by simp)
  refine landAll_sec (landL_sec hb h1 (by omega)) ?_ s hs
  intro y hy
  rw [landL_len]
  exact hq y (by simp [hy])
theorem landL_ne {base : List (List Int)} {x : Qad} {n : Int} {j : Nat} (h : x.To.toNat ≠ j) : (landL base x n).getD j [] = base.getD j [] := by
 simp only [landL, landN, List.getD_eq_getElem?_getD, List.getElem?_set_ne h]
theorem landAll_ne {many : Nat → Int} {j : Nat} : ∀ {q : List Qad} {k : Nat} {base : List (List Int)}, (∀ x ∈ q, x.To.toNat ≠ j) → (landAll many k q base).getD j [] = base.getD j []
 | [], _, _, _ => rfl
 | x :: r, k, base, h => by
  rw [landAll, landAll_ne fun y hy => h y (by simp [hy])]
  exact landL_ne (h x (by simp))
def MA (M : Int → List (List Int)) (B : List (List Int)) (k : Int) : List (List Int) := match M k with
 | [] => []
 | _ :: r => B.getD k.toNat [] :: r
theorem MA_self {base : List (List Int)} {q : List Qad} {M : Int → List (List Int)} (hr : RowsOk base q M) : MA M base = M := by
 funext k
 rcases hr k with ⟨h, _, _⟩ | ⟨_, _, h⟩ <;> simp [MA, h]
theorem MA_at {base B : List (List Int)} {q : List Qad} {M : Int → List (List Int)} (hr : RowsOk base q M) {x : Qad} (hx : x ∈ q) : MA M B x.To = B.getD x.To.toNat [] :: qTo q x.To := by
 rcases hr x.To with ⟨_, h, _⟩ | ⟨_, _, h⟩
 ·exfalso
  have : x.Sector ∈ qTo q x.To := by
   unfold qTo
   exact List.mem_map.2 ⟨x, List.mem_filter.2 ⟨hx, by simp⟩, rfl⟩
  rw [h] at this; simp at this
 ·simp [MA, h]
theorem MA_upd {base B : List (List Int)} {q : List Qad} {M : Int → List (List Int)} (hr : RowsOk base q M) {x : Qad} (hx : x ∈ q) (h0 : 0 ≤ x.To) (hl : x.To < B.length) (n : Int) (s : List Int) (hs : s = mixTo (min n.toNat 64) (B.getD x.To.toNat []) x.Sector) :
    Qf8 (MA M B) x.To ((MA M B x.To).set 0 s) = MA M (landL B x n) := by
 funext k
 unfold Qf8
 split
 ·rename_i e
  subst e
  rw [MA_at hr hx, MA_at hr hx, List.set_cons_zero]
  congr 1
  have : x.To.toNat < B.length := by omega
  rw [hs, landL, landN, List.getD_eq_getElem?_getD, List.getD_eq_getElem?_getD, List.getElem?_set_self this]
  rfl
 ·rename_i e
  unfold MA
  cases hm : M k with
  | nil => rfl
  | cons a r =>
   rcases hr k with ⟨h, _, _⟩ | ⟨hk, _, _⟩
   ·rw [h] at hm; simp at hm
   ·simp only
    rw [landL_ne]
    omega
theorem tks_sh : ∀ (q acc : List Qad) (i : Nat), i < q.length → ((tks acc q).getD i ⟨0, 0⟩).shape = ((qTo (acc ++ q.take i) (q.getD i ⟨Qc1 64 0, 0⟩).To).length : Int) + 1
 | [], acc, i, h => by simp at h
 | x :: r, acc, 0, _ => by simp [tks]
 | x :: r, acc, i + 1, h => by
  have := tks_sh r (acc ++ [x]) i (by simpa using h)
  simpa [tks] using this
theorem tks_get (q : List Qad) (i : Nat) (h : i < q.length) : (tks [] q).getD i ⟨0, 0⟩ = ⟨(q.getD i ⟨Qc1 64 0, 0⟩).To, ((qTo (q.take i) (q.getD i ⟨Qc1 64 0, 0⟩).To).length : Int) + 1⟩ := by
 have h1 := tks_at q [] i h
 have h2 := tks_sh q [] i h
 simp only [List.nil_append] at h2
 rw [← h1] at h2 ⊢
 rw [← h2]
theorem qTo_append (p q : List Qad) (k : Int) : qTo (p ++ q) k = qTo p k ++ qTo q k := by simp [qTo, List.filter_append]
theorem qTo_cons_self (x : Qad) (r : List Qad) : qTo (x :: r) x.To = x.Sector :: qTo r x.To := by simp [qTo]
theorem qTo_split (q : List Qad) (i : Nat) (h : i < q.length) (k : Int) (hk : k = (q.getD i ⟨Qc1 64 0, 0⟩).To) : qTo q k = qTo (q.take i) k ++ (q.getD i ⟨Qc1 64 0, 0⟩).Sector :: qTo (q.drop (i + 1)) k := by
 have e : q = q.take i ++ q.getD i ⟨Qc1 64 0, 0⟩ :: q.drop (i + 1) := by
  rw [List.getD_eq_getElem?_getD, List.getElem?_eq_getElem h]
  simp
 conv => lhs; rw [e]
 rw [qTo_append, hk, qTo_cons_self]
theorem qTo_at (q : List Qad) (i : Nat) (h : i < q.length) (d : List Int) : (qTo q (q.getD i ⟨Qc1 64 0, 0⟩).To).getD (qTo (q.take i) (q.getD i ⟨Qc1 64 0, 0⟩).To).length d = (q.getD i ⟨Qc1 64 0, 0⟩).Sector := by
 rw [qTo_split q i h _ rfl, List.getD_eq_getElem?_getD, List.getElem?_append_right (Nat.le_refl _), Nat.sub_self]
 rfl
theorem way_facts {base B : List (List Int)} {q : List Qad} {M : Int → List (List Int)} (hr : RowsOk base q M) (i : Nat) (h : i < q.length) :
    0 ≤ ((tks [] q).getD i ⟨0, 0⟩).shape ∧ ((tks [] q).getD i ⟨0, 0⟩).shape < ((MA M B ((tks [] q).getD i ⟨0, 0⟩).at_).length : Int) ∧ 0 < ((MA M B ((tks [] q).getD i ⟨0, 0⟩).at_).length : Int) := by
 have hm : q.getD i ⟨Qc1 64 0, 0⟩ ∈ q := getD_mem _ _ _ h
 have h1 : (qTo q (q.getD i ⟨Qc1 64 0, 0⟩).To).length = (qTo (q.take i) (q.getD i ⟨Qc1 64 0, 0⟩).To).length + ((qTo (q.drop (i + 1)) (q.getD i ⟨Qc1 64 0, 0⟩).To).length + 1) := by
  conv => lhs; rw [qTo_split q i h _ rfl]
  simp
 rw [tks_get q i h]
 simp only [MA_at hr hm, List.length_cons]
 omega
theorem way_at {base B : List (List Int)} {q : List Qad} {M : Int → List (List Int)} (hr : RowsOk base q M) (i : Nat) (h : i < q.length) (d : List Int) :
    (MA M B ((tks [] q).getD i ⟨0, 0⟩).at_).getD ((tks [] q).getD i ⟨0, 0⟩).shape.toNat d = (q.getD i ⟨Qc1 64 0, 0⟩).Sector := by
 have hm : q.getD i ⟨Qc1 64 0, 0⟩ ∈ q := getD_mem _ _ _ h
 rw [tks_get q i h]
 simp only [MA_at hr hm]
 have e : (((qTo (q.take i) (q.getD i ⟨Qc1 64 0, 0⟩).To).length : Int) + 1).toNat = (qTo (q.take i) (q.getD i ⟨Qc1 64 0, 0⟩).To).length + 1 := by omega
 rw [e, List.getD_cons_succ, qTo_at q i h]
theorem way_0 {base B : List (List Int)} {q : List Qad} {M : Int → List (List Int)} (hr : RowsOk base q M) (i : Nat) (h : i < q.length) (d : List Int) :
    (MA M B ((tks [] q).getD i ⟨0, 0⟩).at_).getD 0 d = B.getD (q.getD i ⟨Qc1 64 0, 0⟩).To.toNat [] := by
 have hm : q.getD i ⟨Qc1 64 0, 0⟩ ∈ q := getD_mem _ _ _ h
 rw [tks_get q i h]
 simp only [MA_at hr hm, List.getD_cons_zero]
def MB (M : Int → List (List Int)) (q : List Qad) (j : Nat) (k : Int) : List (List Int) := if (q.take j).any (fun x => x.To == k) then (M k).take 1 else M k
theorem MB_zero (M : Int → List (List Int)) (q : List Qad) : MB M q 0 = M := by funext k; simp [MB]
theorem MB_succ (M : Int → List (List Int)) (q : List Qad) (j : Nat) (h : j < q.length) : Qf8 (MB M q j) (q.getD j ⟨Qc1 64 0, 0⟩).To ((MB M q j (q.getD j ⟨Qc1 64 0, 0⟩).To).take 1) = MB M q (j + 1) := by
 funext k
 unfold Qf8
 split
 ·rename_i e
  subst e
  unfold MB
  rw [take_succ_getD q j ⟨Qc1 64 0, 0⟩ h, List.any_append]
  have h2 : ([q.getD j ⟨Qc1 64 0, 0⟩].any fun x => x.To == (q.getD j ⟨Qc1 64 0, 0⟩).To) = true := by simp
  rw [h2, Bool.or_true]
  split <;> simp [List.take_take]
 ·rename_i e
  unfold MB
  rw [take_succ_getD q j ⟨Qc1 64 0, 0⟩ h, List.any_append]
  have h2 : ([q.getD j ⟨Qc1 64 0, 0⟩].any fun x => x.To == k) = false := by simpa using Ne.symm e
  rw [h2, Bool.or_false]
theorem rows_end {D : Qab} {M : Int → List (List Int)} (hr : RowsOk D.Base D.Queue M) (hwf : DWf D) (bytes : Nat → Int) : RowsOk (landAll bytes 0 D.Queue D.Base) [] (MB (MA M (landAll bytes 0 D.Queue D.Base)) D.Queue D.Queue.length) := by
 intro k
 have hlen := landAll_len bytes 0 D.Queue D.Base
 unfold MB
 rw [List.take_length]
 rcases hr k with ⟨h1, h2, h3⟩ | ⟨h1, h2, h3⟩
 ·left
  have e : MA M (landAll bytes 0 D.Queue D.Base) k = [] := by simp [MA, h1]
  refine ⟨by rw [e]; simp, by simp [qTo], fun h0 hl => ?_⟩
  rw [landAll_ne, h3 h0 (by omega)]
  intro x hx e2
  have : x.Sector ∈ qTo D.Queue k := by
   unfold qTo
   refine List.mem_map.2 ⟨x, List.mem_filter.2 ⟨hx, ?_⟩, rfl⟩
   have := hwf.qs x hx
   simp only [beq_iff_eq]
   omega
  rw [h2] at this; simp at this
 ·right
  refine ⟨h1, by omega, ?_⟩
  have e : MA M (landAll bytes 0 D.Queue D.Base) k = (landAll bytes 0 D.Queue D.Base).getD k.toNat [] :: qTo D.Queue k := by simp [MA, h3]
  rw [e]
  split
  ·simp [qTo]
  ·rename_i h
   have : qTo D.Queue k = [] := by
    unfold qTo
    rw [List.map_eq_nil_iff, List.filter_eq_nil_iff]
    intro x hx hk
    exact h (List.any_eq_true.2 ⟨x, hx, hk⟩)
   rw [this]; simp [qTo]
theorem DWf_arr {D : Qab} (hwf : DWf D) (bytes : Nat → Int) : DWf ⟨landAll bytes 0 D.Queue D.Base, [], D.Burns, D.Dead⟩ := by
 refine ⟨by simp only [landAll_len]; exact hwf.many, ?_, by simp, by simp, hwf.burns⟩
 exact landAll_sec hwf.sec hwf.qs
theorem MB_pos {base B : List (List Int)} {q : List Qad} {M : Int → List (List Int)} (hr : RowsOk base q M) (j i : Nat) (h : i < q.length) : 1 ≤ (MB (MA M B) q j ((tks [] q).getD i ⟨0, 0⟩).at_).length := by
 have hm : q.getD i ⟨Qc1 64 0, 0⟩ ∈ q := getD_mem _ _ _ h
 rw [tks_get q i h]
 unfold MB
 simp only [MA_at hr hm]
 split <;> simp
theorem tks_to (q : List Qad) (i : Nat) (h : i < q.length) : ((tks [] q).getD i ⟨0, 0⟩).at_ = (q.getD i ⟨Qc1 64 0, 0⟩).To := by rw [tks_get q i h]
theorem fin_cut0 {D : Qab} {way : List Qbq} {V : Int → Value} {M : Int → List (List Int)} {size : Int} {dead : Bool} {rest : List (Nat × Box)} {rets : List LV} {tv : TV} {s : Qan} (h : DOk D ⟨V, M, [], none, size, dead⟩)
    (hm : LeM ((1, .segs [.mp 9001, .int .i64 size, .ocut 9002 0, .nilp, .bool dead]) :: (9002, .arr Qa8 way) :: (9001, .mpr (.arr 64 (.int .u8)) M V none) :: rest) s.mem)
    (hn : (1 :: 9002 :: 9001 :: Qao rest).Nodup) (h3 : 9004 ∉ Qao rest) (h4 : ∀ e ∈ rest, 9004 ∉ e.2.ids) (hr : Qdo (tv.list.map (SV.frz (Qiw (1 :: 9002 :: 9001 :: Qao rest) s.mem))) rets) (hi : ∀ i ∈ (tvL rets).ids, i < 5000) : Fin rets ((1, .obj DiskO D) :: rest) tv s := by
 refine ⟨(1, .segs [.mp 9001, .int .i64 size, .ocut 9002 0, .nilp, .bool dead]) :: (9002, .arr Qa8 way) :: (9001, .mpr (.arr 64 (.int .u8)) M V none) :: rest, hr, hm, hn, Qbb.trans (Qbb.ocut (p := [.mp 9001, .int .i64 size]) (q := [.nilp, .bool dead]) (n := 9004) (by omega) (by omega) (by simp [Qez, LV.ids]) (by simp [Qez, LV.ids]) (by simpa [Qao] using h3) ?_ (by omega)) (Qbb.trans (Qbb.sub ?_ ?_) (close_disk0 (m := 9001) (wy := 9004) h (by omega) (by omega) (by omega))), hi⟩
 ·intro e he
  rcases List.mem_cons.1 he with rfl | he
  ·simp [Box.ids]
  ·exact h4 e he
 ·simp only [List.nodup_cons, List.mem_cons, not_or] at hn
  simp only [Qao, List.map_cons, List.nodup_cons, List.mem_cons, not_or]
  exact ⟨⟨by omega, by omega, hn.1.2.2⟩, ⟨by omega, hn.2.2.1⟩, h3, hn.2.2.2⟩
 ·intro e he
  simp only [List.mem_cons, List.cons_append, List.nil_append, List.take_zero] at he ⊢
  rcases he with h | h | h | h
  ·exact .inl h
  ·exact .inr (.inr (.inl h))
  ·exact .inr (.inl h)
  ·exact .inr (.inr (.inr h))
theorem fin_cut1 {D : Qab} {way : List Qbq} {V : Int → Value} {M : Int → List (List Int)} {n size : Int} {dead : Bool} {rest : List (Nat × Box)} {rets : List LV} {tv : TV} {s : Qan} (h : DOk D ⟨V, M, [], some n, size, dead⟩)
    (hm : LeM ((1, .segs [.mp 9001, .int .i64 size, .ocut 9002 0, .ptr 9003 [] 0, .bool dead]) :: (9002, .arr Qa8 way) :: (9001, .mpr (.arr 64 (.int .u8)) M V none) :: (9003, .segs [.int .i64 n]) :: rest) s.mem)
    (hn : (1 :: 9002 :: 9001 :: 9003 :: Qao rest).Nodup) (h3 : 9004 ∉ Qao rest) (h4 : ∀ e ∈ rest, 9004 ∉ e.2.ids) (hr : Qdo (tv.list.map (SV.frz (Qiw (1 :: 9002 :: 9001 :: 9003 :: Qao rest) s.mem))) rets) (hi : ∀ i ∈ (tvL rets).ids, i < 5000) : Fin rets ((1, .obj DiskO D) :: rest) tv s := by
 refine ⟨(1, .segs [.mp 9001, .int .i64 size, .ocut 9002 0, .ptr 9003 [] 0, .bool dead]) :: (9002, .arr Qa8 way) :: (9001, .mpr (.arr 64 (.int .u8)) M V none) :: (9003, .segs [.int .i64 n]) :: rest, hr, hm, hn, Qbb.trans (Qbb.ocut (p := [.mp 9001, .int .i64 size]) (q := [.ptr 9003 [] 0, .bool dead]) (n := 9004) (by omega) (by omega) (by simp [Qez, LV.ids]) (by simp [Qez, LV.ids]) (by simpa [Qao] using h3) ?_ (by omega)) (Qbb.trans (Qbb.sub ?_ ?_) (close_disk1 (m := 9001) (wy := 9004) (ac := 9003) h (by omega) (by omega) (by omega) (by omega) (by omega) (by omega))), hi⟩
 ·intro e he
  rcases List.mem_cons.1 he with rfl | he
  ·simp [Box.ids]
  rcases List.mem_cons.1 he with rfl | he
  ·simp [Box.ids, Qez, LV.ids]
  ·exact h4 e he
 ·simp only [List.nodup_cons, List.mem_cons, not_or] at hn
  simp only [Qao, List.map_cons, List.nodup_cons, List.mem_cons, not_or]
  exact ⟨⟨by omega, by omega, by omega, hn.1.2.2.2⟩, ⟨by omega, by omega, hn.2.2.1.2⟩, ⟨by omega, h3⟩, hn.2.2.2.1, hn.2.2.2.2⟩
 ·intro e he
  simp only [List.mem_cons, List.cons_append, List.nil_append, List.take_zero] at he ⊢
  rcases he with h | h | h | h | h
  ·exact .inl h
  ·exact .inr (.inr (.inl h))
  ·exact .inr (.inl h)
  ·exact .inr (.inr (.inr (.inl h)))
  ·exact .inr (.inr (.inr (.inr h)))
end Go.Proofs.Ytnmjcdlgfimnaaa
namespace Go.Proofs.Ytnmjcdlgfimnaaa
theorem mix_at (a b : List Int) (ha : a.length = 64) (hb : b.length = 64) (n : Int) :
    List.take 64 (List.take (min (max n 0) 64 - 0).toNat b ++ List.take (64 - min (max n 0) 64).toNat (List.drop (min (max n 0) 64).toNat a)) = mixTo (min n.toNat 64) a b := by
 have e1 : (min (max n 0) 64 - 0).toNat = min n.toNat 64 := by omega
 have e2 : (min (max n 0) 64).toNat = min n.toNat 64 := by omega
 have e3 : (64 - min (max n 0) 64).toNat = 64 - min n.toNat 64 := by omega
 rw [e1, e2, e3, List.take_of_length_le (i := 64 - min n.toNat 64) (by rw [List.length_drop, ha]; omega), List.take_of_length_le (by simp only [List.length_append, List.length_take, List.length_drop, ha, hb]; omega)]
 rfl
end Go.Proofs.Ytnmjcdlgfimnaaa
namespace Go.Proofs.Ytnmjcdlgfimnaaa
set_option linter.unusedSimpArgs false
set_option linter.unusedVariables false
set_option maxRecDepth 20000
attribute [local irreducible] Qb3 Qa9 vcA Qbp Wc
set_option maxHeartbeats 8000000
theorem flush1_fn (k : Int) : Qck Cx.P 83 [.int .i64 k] [.int .i64 64] := by
 refine Qck.go2 (E := Cx.env) (fn := Try.f83) (res := [_]) Try.func83 Qtr rfl rfl rfl (by kernel_rfl) rfl ?_
 push_cast
 try intro hf
 repeat' (first
 | (intro (K' : KT) hK'; push_cast; (repeat' refine And.intro ?_ ?_); all_goals (first | (apply hK'; clear hK' K') | (refine ⟨trivial, trivial, ?_⟩; apply hK'; clear hK' K') | (intro hb; (try push_cast at hb); all_goals (intros; apply hK'; clear hK' K')) | (clear hK' K'; first | omega | skip)))
 | apply Qar | apply Qac | apply Qah | apply Qaj | apply Qau
 | apply Qap | apply Qax | apply Qas | apply Qam | apply Qaz | apply Qay
 | (refine Qaf ?_; push_cast) | apply Qag | refine Qaa (Qa3 _ (by omega) (by omega)) ?_ | refine Qaa (Qb0 _ (by omega) (by omega)) ?_ | refine Qaa (Qba _ (by omega) (by omega)) ?_ | refine Qaa (Qa5 _ (by omega) (by omega)) ?_
 | refine Qai rfl rfl ?_ | refine Qat rfl rfl ?_
 | (refine Qak (by push_cast; first | done | rfl) ?_ ?_ <;> intro hc <;> (try push_cast at hc))
 | refine Qaw rfl rfl rfl (by push_cast; first | done | rfl) ?_
 | refine Qav rfl rfl rfl (by push_cast; first | done | rfl) ?_ ?_
 | (intro (hc : (_ : Prop)); (try push_cast at hc)) | intro (hc : Qad) | intro (hc : Int) | intro (hc : Nat))
theorem flush1_con : Con Cx.P 83 (.pair (.int .i64) (.unit)) (fun x => (fun (k : Int) => True) x.1) (fun x => (fun (k : Int) => [.int .i64 64]) x.1) := ⟨Qtr, fun x h => flush1_fn x.1⟩
theorem power1_con : Q0k Cx.P 84 (.pair (.int .i64) .unit) (.pair (.slice (.int .i64)) .unit) (fun x _ => 0 ≤ x.1) (fun x y => [.int .i64 (keepAt y.1 x.1.toNat)]) := by
 refine ⟨Qtm, ?_⟩
 rintro ⟨k, _⟩ ⟨keep, _⟩ hk
 refine Qcs.go2 (E := Cx.env) (fn := Try.f84) (res := [_]) _ (Qc2.refl _) Try.func84 Qtm rfl rfl (by simp [Qb1, SV.ids, LV.ids, Rep.argL, Rep.leaf, Qk3]) (by simp [Qao, Rep.argL, Rep.leaf, Qdw]) (by kernel_rfl) rfl ?_
 intro hf
 try push_cast at hf
 try push_cast at hk
 intro _
 push_cast
 repeat' (first
 | (intro (K' : KT) hK'; push_cast; (repeat' refine And.intro ?_ ?_); all_goals (first | (apply hK'; clear hK' K') | (refine ⟨trivial, trivial, ?_⟩; apply hK'; clear hK' K') | (intro hb; (try push_cast at hb); all_goals (intros; apply hK'; clear hK' K')) | (clear hK' K'; first | omega | skip)))
 | apply Qar | apply Qac | apply Qah | apply Qaj | apply Qau
 | apply Qap | apply Qax | apply Qas | apply Qam | apply Qaz | apply Qay
 | (refine Qaf ?_; push_cast) | apply Qag | refine Qaa (Qa3 _ (by omega) (by omega)) ?_ | refine Qaa (Qb0 _ (by omega) (by omega)) ?_ | refine Qaa (Qba _ (by omega) (by omega)) ?_ | refine Qaa (Qa5 _ (by omega) (by omega)) ?_
 | refine Qai rfl rfl ?_ | refine Qat rfl rfl ?_
 | (refine Qak (by push_cast; first | done | rfl) ?_ ?_ <;> intro hc <;> (try push_cast at hc))
 | refine Qaw rfl rfl rfl (by push_cast; first | done | rfl) ?_
 | refine Qav rfl rfl rfl (by push_cast; first | done | rfl) ?_ ?_
 | (intro (hc : (_ : Prop)); (try push_cast at hc)) | intro (hc : Qad) | intro (hc : Int) | intro (hc : Nat))
 ·have e : keepAt keep k.toNat = 0 := by
   unfold keepAt
   rw [List.getD_eq_getElem?_getD, List.getElem?_eq_none (by omega)]; rfl
  rw [e]
  (refine Qc9.fin ⟨[(1, .segs [.dat (.slice (.int .i64)) keep])], ?_, ?_, ?_, Qbb.refl _, ?_⟩
   ·push_cast
   ·push_cast
   ·simp [Qao]
   ·simp [tvL, TV.ids, SV.ids, LV.ids, Qb1])
 ·have e : keepAt keep k.toNat = keep.getD k.toNat 0 := rfl
  rw [e]
  (refine Qc9.fin ⟨[(1, .segs [.dat (.slice (.int .i64)) keep])], ?_, ?_, ?_, Qbb.refl _, ?_⟩
   ·push_cast
   ·push_cast
   ·simp [Qao]
   ·simp [tvL, TV.ids, SV.ids, LV.ids, Qb1])
theorem arriveF_fn (D : Qab) : Qcs Cx.P 82 [.l (.ptr 1 [] 0), .l (.clo 83 [])] [(1, .obj DiskO D)] (tvL []) [(1, .obj DiskO ⟨landAll (fun _ => 64) 0 D.Queue D.Base, [], D.Burns, D.Dead⟩)] := by
 refine Qcs.go2 (E := Cx.env) (fn := Try.f82) (res := []) _ (open_disk D [] (by simp [Qao]) (by simp)) Try.func82 Qtk rfl rfl (by simp [Qb1, SV.ids, LV.ids]) (by simp [Qao]) (by kernel_rfl) rfl ?_
 intro hf
 try push_cast at hf
 rintro ⟨⟨V, M, way, acts, size, dead⟩, ⟨hwf, h1, h2, ha, hr, h3⟩⟩
 simp only at h1 h2 ha hr h3
 subst h1 h2 h3
 have hbu := hwf.burns
 have htk := tks_len D.Queue []
 have hqn := hwf.qn
 rcases acts with _ | n
 all_goals
  simp only [mmD, Qcu, Qao, List.map_cons, List.map_nil, List.cons_append, List.nil_append]
  repeat' (first
 | (intro (K' : KT) hK'; push_cast; (repeat' refine And.intro ?_ ?_); all_goals (first | (apply hK'; clear hK' K') | (refine ⟨trivial, trivial, ?_⟩; apply hK'; clear hK' K') | (intro hb; (try push_cast at hb); all_goals (intros; apply hK'; clear hK' K')) | (clear hK' K'; first | omega | skip)))
 | apply Qar | apply Qa0 | apply Qac | apply Qah | apply Qaj | apply Qau
 | apply Qap | apply Qax | apply Qas | apply Qaq | apply Qa1 | apply Qal | apply Qae rfl | apply Qa6 | apply Qa7 | apply Qam | apply Qaz | apply Qay
 | (refine Qaf ?_; push_cast) | apply Qag | refine Qaa (Qa3 _ (by omega) (by omega)) ?_ | refine Qaa (Qb0 _ (by omega) (by omega)) ?_ | refine Qaa (Qba _ (by omega) (by omega)) ?_ | refine Qaa (Qa5 _ (by omega) (by omega)) ?_
 | refine Qai rfl rfl ?_ | refine Qat rfl rfl ?_
 | (refine Qak (by push_cast; first | done | rfl) ?_ ?_ <;> intro hc <;> (try push_cast at hc))
 | refine Qaw rfl rfl rfl (by push_cast; first | done | rfl) ?_
 | refine Qav rfl rfl rfl (by push_cast; first | done | rfl) ?_ ?_
 | refine Qbf (id := 3) [0, 1, 2, 3, 4, 5] [6] [0, 5] (.or 6 (.free 7 (.done)) (.stop)) wide (by kernel_rfl) ?_
 | refine Qbf (id := 5) [0, 2, 3, 4, 5, 6, 7, 9, 10, 11, 12] [17] [5, 31] (.or 1 (.or 8 (.or 13 (.free 14 (.or 15 (.free 16 (.or 17 (.done) (.stop))) (.stop))) (.stop)) (.stop)) (.stop)) wide (by kernel_rfl) ?_
 | refine Qbf (id := 10) [0, 1, 2, 3, 4, 5, 6, 7, 8, 9, 10, 11] [14] [0, 9] (.or 12 (.free 13 (.or 14 (.done) (.stop))) (.stop)) wide (by kernel_rfl) ?_
 | apply Qby | apply Qbk | apply Qbn
 | refine Qbx rfl rfl rfl ?_ | refine Qbl rfl rfl rfl ?_
 | (refine Qbm rfl rfl rfl rfl ?_ ?_; rotate_left) | (refine Qbe rfl rfl rfl rfl ?_ ?_; rotate_left)
 | (refine Qbz rfl rfl rfl rfl ?_ ?_; rotate_left; focus (intro K' hK'; push_cast; (repeat' refine And.intro ?_ ?_); all_goals (first | (refine hK' _ _ _ _ _ (by push_cast) (by push_cast; first | done | rfl) ?_; clear hK' K') | (clear hK' K'; first | omega | skip))))
 | refine Qcc rfl rfl rfl rfl (by push_cast; first | done | rfl) ?_
 | refine Qcd rfl rfl rfl rfl (by push_cast; first | done | rfl) ?_ ?_
 | (intro (hc : (_ : Prop)); (try push_cast at hc)) | intro (hc : Qad) | intro (hc : Int) | intro (hc : Nat))
  refine Qbu [4, 5, 6, 7, 15, 16, 17, 18, 19, 20, 21, 22, 23, 24, 25, 26, 27, 28, 29, 30, 31, 32, 33, 34, 35, 36, 37, 38, 39, 40, 41, 42, 43, 44, 45, 46, 47, 48, 49] [5, 29, 30, 31, 33, 40, 45, 9001] (fun (i : Nat) => i ≤ D.Queue.length) (fun (i : Nat) => [(15, .one (.l (.int .i64 i)))]) (fun (i : Nat) => [(9001, .mpr (.arr 64 (.int .u8)) (MA M (landAll (fun _ => 64) 0 (D.Queue.take i) D.Base)) V none)]) (fun (i : Nat) => D.Queue.length - i) 0 ?_ (by push_cast; first | done | rfl) (by push_cast; first | done | rfl) ?_ ?_
  ·omega
  ·simp only [List.take_zero, landAll, MA_self hr]
   push_cast
  ·intro i hi
   push_cast
   intro hg
   have hwy := way_facts (B := landAll (fun _ => 64) 0 (D.Queue.take i) D.Base) hr i
   repeat' (first
 | (intro (K' : KT) hK'; push_cast; (repeat' refine And.intro ?_ ?_); all_goals (first | (apply hK'; clear hK' K') | (refine ⟨trivial, trivial, ?_⟩; apply hK'; clear hK' K') | (intro hb; (try push_cast at hb); all_goals (intros; apply hK'; clear hK' K')) | ((first | refine Qbi flush1_con (fun _ => rfl) ?_); push_cast; (repeat' refine And.intro ?_ ?_); all_goals (first | (apply hK'; clear hK' K') | (intros; apply hK'; clear hK' K') | (clear hK' K'; first | omega | skip))) | (clear hK' K'; first | omega | skip)))
 | apply Qar | apply Qa0 | apply Qac | apply Qah | apply Qaj | apply Qau
 | apply Qap | apply Qax | apply Qas | apply Qaq | apply Qa1 | apply Qal | apply Qae rfl | apply Qa6 | apply Qa7 | (refine Qjp rfl (by push_cast; first | done | rfl) rfl (by push_cast) (by push_cast; first | done | rfl) (by push_cast; first | done | rfl) ?_) | apply Qam | apply Qaz | apply Qay
 | (refine Qaf ?_; push_cast) | apply Qag | refine Qaa (Qa3 _ (by omega) (by omega)) ?_ | refine Qaa (Qb0 _ (by omega) (by omega)) ?_ | refine Qaa (Qba _ (by omega) (by omega)) ?_ | refine Qaa (Qa5 _ (by omega) (by omega)) ?_
 | refine Qai rfl rfl ?_ | refine Qat rfl rfl ?_
 | (refine Qak (by push_cast; first | done | rfl) ?_ ?_ <;> intro hc <;> (try push_cast at hc))
 | refine Qaw rfl rfl rfl (by push_cast; first | done | rfl) ?_
 | refine Qav rfl rfl rfl (by push_cast; first | done | rfl) ?_ ?_
 | refine Qbf (id := 3) [0, 1, 2, 3, 4, 5] [6] [1, 5] (.or 6 (.free 7 (.done)) (.stop)) wide (by kernel_rfl) ?_
 | refine Qbf (id := 5) [0, 2, 3, 4, 6, 9, 11] [17] [5] (.free 5 (.free 7 (.free 10 (.free 12 (.or 1 (.or 8 (.or 13 (.free 14 (.or 15 (.free 16 (.or 17 (.done) (.stop))) (.stop))) (.stop)) (.stop)) (.stop)))))) wide (by kernel_rfl) ?_
 | refine Qbf (id := 10) [0, 1, 2, 3, 4, 5, 6, 7, 8, 9, 10, 11] [14] [1, 9] (.or 12 (.free 13 (.or 14 (.done) (.stop))) (.stop)) wide (by kernel_rfl) ?_
 | apply Qby | apply Qbk | apply Qbn
 | refine Qbx rfl rfl rfl ?_ | refine Qbl rfl rfl rfl ?_
 | (refine Qbm rfl rfl rfl rfl ?_ ?_; rotate_left) | (refine Qbe rfl rfl rfl rfl ?_ ?_; rotate_left)
 | (refine Qbz rfl rfl rfl rfl ?_ ?_; rotate_left; focus (intro K' hK'; push_cast; (repeat' refine And.intro ?_ ?_); all_goals (first | (refine hK' _ _ _ _ _ (by push_cast) (by push_cast; first | done | rfl) ?_; clear hK' K') | ((first | refine Qbi flush1_con (fun _ => rfl) ?_); push_cast; (repeat' refine And.intro ?_ ?_); all_goals (first | (refine hK' _ _ _ _ _ (by push_cast) (by push_cast; first | done | rfl) ?_; clear hK' K') | (intros; refine hK' _ _ _ _ _ (by push_cast) (by push_cast; first | done | rfl) ?_; clear hK' K') | (clear hK' K'; first | omega | skip))) | (clear hK' K'; first | omega | skip))))
 | refine Qcc rfl rfl rfl rfl (by push_cast; first | done | rfl) ?_
 | refine Qcd rfl rfl rfl rfl (by push_cast; first | done | rfl) ?_ ?_
 | (intro (hc : (_ : Prop)); (try push_cast at hc)) | intro (hc : Qad) | intro (hc : Int) | intro (hc : Nat))
   all_goals
    first
    | (have hlt : i < D.Queue.length := by omega
       have hm : D.Queue.getD i ⟨Qc1 64 0, 0⟩ ∈ D.Queue := getD_mem _ _ _ hlt
       have hq := hwf.qs _ hm
       have hB := landAll_len (fun _ => 64) 0 (D.Queue.take i) D.Base
       have hb : ((landAll (fun _ => 64) 0 (D.Queue.take i) D.Base).getD (D.Queue.getD i ⟨Qc1 64 0, 0⟩).To.toNat []).length = 64 := landAll_sec hwf.sec (fun x hx => hwf.qs x (List.mem_of_mem_take hx)) _ (getD_mem _ _ _ (by omega))
       simp only [Int.zero_add, way_at hr i hlt, way_0 hr i hlt, List.length_take, List.length_drop, List.length_append, hb, hq.1]
       omega)
    | skip
   ·have hlt : i < D.Queue.length := by omega
    have hm : D.Queue.getD i ⟨Qc1 64 0, 0⟩ ∈ D.Queue := getD_mem _ _ _ hlt
    have hq := hwf.qs _ hm
    have hB := landAll_len (fun _ => 64) 0 (D.Queue.take i) D.Base
    have hb : ((landAll (fun _ => 64) 0 (D.Queue.take i) D.Base).getD (D.Queue.getD i ⟨Qc1 64 0, 0⟩).To.toNat []).length = 64 := landAll_sec hwf.sec (fun x hx => hwf.qs x (List.mem_of_mem_take hx)) _ (getD_mem _ _ _ (by omega))
    apply Qm2 9001 6006 (j := i + 1)
    ·(push_cast; first | done | rfl)
    ·(push_cast; first | done | rfl)
    ·show i + 1 ≤ D.Queue.length; omega
    ·show D.Queue.length - (i + 1) < D.Queue.length - i; omega
    push_cast
    congr 1
    rw [take_succ_getD _ _ ⟨Qc1 64 0, 0⟩ hlt, landAll_snoc, Int.zero_add, way_at hr i hlt, way_0 hr i hlt, tks_to _ _ hlt]
    refine MA_upd hr hm hq.2.1 (by omega) _ _ ?_
    exact mix_at _ _ hb hq.1 64
   ·have e : i = D.Queue.length := by omega
    subst e
    rw [List.take_length]
    generalize hB : landAll (fun _ => 64) 0 D.Queue D.Base = B
    refine Qbu [9, 55, 56, 57, 58, 59, 60, 61, 62, 63, 64, 65, 66, 67, 68, 69, 70, 71, 72, 73] [9, 9001] (fun (p : Nat × (Int → Value)) => p.1 ≤ D.Queue.length) (fun (p : Nat × (Int → Value)) => [(55, .one (.l (.int .i64 p.1)))]) (fun (p : Nat × (Int → Value)) => [(9001, .mpr (.arr 64 (.int .u8)) (MB (MA M B) D.Queue p.1) p.2 none)]) (fun (p : Nat × (Int → Value)) => D.Queue.length - p.1) (0, V) ?_ (by push_cast; first | done | rfl) (by push_cast; first | done | rfl) ?_ ?_
    ·omega
    ·simp only [MB_zero]
     push_cast
    ·rintro ⟨j, V2⟩ hj
     push_cast at hj
     push_cast
     intro hg2
     have hwy2 := MB_pos (B := B) hr j j
     repeat' (first
 | (intro (K' : KT) hK'; push_cast; (repeat' refine And.intro ?_ ?_); all_goals (first | (apply hK'; clear hK' K') | (refine ⟨trivial, trivial, ?_⟩; apply hK'; clear hK' K') | (intro hb; (try push_cast at hb); all_goals (intros; apply hK'; clear hK' K')) | (clear hK' K'; first | omega | skip)))
 | apply Qar | apply Qa0 | apply Qac | apply Qah | apply Qaj | apply Qau
 | apply Qap | apply Qax | apply Qas | apply Qaq | apply Qa1 | apply Qal | apply Qae rfl | apply Qa6 | apply Qa7 | apply Qam | apply Qaz | apply Qay
 | (refine Qaf ?_; push_cast) | apply Qag | refine Qaa (Qa3 _ (by omega) (by omega)) ?_ | refine Qaa (Qb0 _ (by omega) (by omega)) ?_ | refine Qaa (Qba _ (by omega) (by omega)) ?_ | refine Qaa (Qa5 _ (by omega) (by omega)) ?_
 | refine Qai rfl rfl ?_ | refine Qat rfl rfl ?_
 | (refine Qak (by push_cast; first | done | rfl) ?_ ?_ <;> intro hc <;> (try push_cast at hc))
 | refine Qaw rfl rfl rfl (by push_cast; first | done | rfl) ?_
 | refine Qav rfl rfl rfl (by push_cast; first | done | rfl) ?_ ?_
 | refine Qbf (id := 3) [0, 1, 2, 3, 4, 5] [6] [1, 5] (.or 6 (.free 7 (.done)) (.stop)) wide (by kernel_rfl) ?_
 | refine Qbf (id := 5) [0, 2, 3, 4, 5, 6, 7, 9, 10, 11, 12] [17] [5, 31] (.or 1 (.or 8 (.or 13 (.free 14 (.or 15 (.free 16 (.or 17 (.done) (.stop))) (.stop))) (.stop)) (.stop)) (.stop)) wide (by kernel_rfl) ?_
 | refine Qbf (id := 10) [0, 1, 2, 3, 4, 5, 6, 7, 8, 9, 10, 11] [14] [1, 9] (.or 12 (.free 13 (.or 14 (.done) (.stop))) (.stop)) wide (by kernel_rfl) ?_
 | apply Qby | apply Qbk | apply Qbn
 | refine Qbx rfl rfl rfl ?_ | refine Qbl rfl rfl rfl ?_
 | (refine Qbm rfl rfl rfl rfl ?_ ?_; rotate_left) | (refine Qbe rfl rfl rfl rfl ?_ ?_; rotate_left)
 | (refine Qbz rfl rfl rfl rfl ?_ ?_; rotate_left; focus (intro K' hK'; push_cast; (repeat' refine And.intro ?_ ?_); all_goals (first | (refine hK' _ _ _ _ _ (by push_cast) (by push_cast; first | done | rfl) ?_; clear hK' K') | (clear hK' K'; first | omega | skip))))
 | refine Qcc rfl rfl rfl rfl (by push_cast; first | done | rfl) ?_
 | refine Qcd rfl rfl rfl rfl (by push_cast; first | done | rfl) ?_ ?_
 | (intro (hc : (_ : Prop)); (try push_cast at hc)) | intro (hc : Qad) | intro (hc : Int) | intro (hc : Nat))
     ·have hlt : j < D.Queue.length := by omega
      refine Qbv (j + 1, ‹Int → Value›) (by push_cast; omega) (by push_cast; omega) ?_
      push_cast
      congr 1
      rw [tks_to _ _ hlt]
      exact MB_succ _ _ _ hlt
     ·have e : j = D.Queue.length := by omega
      subst e
      have hend : RowsOk B [] (MB (MA M B) D.Queue D.Queue.length) := hB ▸ rows_end hr hwf (fun _ => 64)
      have hwe : DWf ⟨B, [], D.Burns, D.Dead⟩ := hB ▸ DWf_arr hwf (fun _ => 64)
      have hbl : B.length = D.Base.length := hB ▸ landAll_len (fun _ => 64) 0 D.Queue D.Base
      first
      | (refine fin_cut0 (way := tks [] D.Queue) (V := V2) (M := MB (MA M B) D.Queue D.Queue.length) (size := D.Base.length) (dead := D.Dead) (rest := []) ⟨hwe, by rw [← hbl], rfl, ha, hend, rfl⟩ ?_ ?_ ?_ ?_ ?_ ?_; (focus (push_cast; done)); (focus (push_cast; done)); (focus (push_cast; done)); (focus (simp; done)); (focus (push_cast; done)); (focus (simp [tvL, TV.ids, SV.ids, LV.ids, Qb1]; done)))
      | (refine fin_cut1 (n := n) (way := tks [] D.Queue) (V := V2) (M := MB (MA M B) D.Queue D.Queue.length) (size := D.Base.length) (dead := D.Dead) (rest := []) ⟨hwe, by rw [← hbl], rfl, ha, hend, rfl⟩ ?_ ?_ ?_ ?_ ?_ ?_; (focus (push_cast; done)); (focus (push_cast; done)); (focus (push_cast; done)); (focus (simp; done)); (focus (push_cast; done)); (focus (simp [tvL, TV.ids, SV.ids, LV.ids, Qb1]; done)))
end Go.Proofs.Ytnmjcdlgfimnaaa
namespace Go.Proofs.Ytnmjcdlgfimnaaa
set_option linter.unusedSimpArgs false
set_option linter.unusedVariables false
set_option maxRecDepth 20000
attribute [local irreducible] Qb3 Qa9 vcA Qbp Wc
set_option maxHeartbeats 8000000
theorem arriveP_fn (D : Qab) (keep : List Int) : Qcs Cx.P 82 [.l (.ptr 1 [] 0), .l (.clo 84 [2])] [(1, .obj DiskO D), (2, .segs [.dat (.slice (.int .i64)) keep])] (tvL []) [(1, .obj DiskO ⟨landAll (keepAt keep) 0 D.Queue D.Base, [], D.Burns, D.Dead⟩), (2, .segs [.dat (.slice (.int .i64)) keep])] := by
 refine Qcs.go2 (E := Cx.env) (fn := Try.f82) (res := []) _ (open_disk D [(2, .segs [.dat (.slice (.int .i64)) keep])] (by simp [Qao]) (by simp [Box.ids, Qez, LV.ids])) Try.func82 Qtk rfl rfl (by simp [Qb1, SV.ids, LV.ids]) (by simp [Qao]) (by kernel_rfl) rfl ?_
 intro hf
 try push_cast at hf
 rintro ⟨⟨V, M, way, acts, size, dead⟩, ⟨hwf, h1, h2, ha, hr, h3⟩⟩
 simp only at h1 h2 ha hr h3
 subst h1 h2 h3
 have hbu := hwf.burns
 have htk := tks_len D.Queue []
 have hqn := hwf.qn
 rcases acts with _ | n
 all_goals
  simp only [mmD, Qcu, Qao, List.map_cons, List.map_nil, List.cons_append, List.nil_append]
  repeat' (first
 | (intro (K' : KT) hK'; push_cast; (repeat' refine And.intro ?_ ?_); all_goals (first | (apply hK'; clear hK' K') | (refine ⟨trivial, trivial, ?_⟩; apply hK'; clear hK' K') | (intro hb; (try push_cast at hb); all_goals (intros; apply hK'; clear hK' K')) | (clear hK' K'; first | omega | skip)))
 | apply Qar | apply Qa0 | apply Qac | apply Qah | apply Qaj | apply Qau
 | apply Qap | apply Qax | apply Qas | apply Qaq | apply Qa1 | apply Qal | apply Qae rfl | apply Qa6 | apply Qa7 | apply Qam | apply Qaz | apply Qay
 | (refine Qaf ?_; push_cast) | apply Qag | refine Qaa (Qa3 _ (by omega) (by omega)) ?_ | refine Qaa (Qb0 _ (by omega) (by omega)) ?_ | refine Qaa (Qba _ (by omega) (by omega)) ?_ | refine Qaa (Qa5 _ (by omega) (by omega)) ?_
 | refine Qai rfl rfl ?_ | refine Qat rfl rfl ?_
 | (refine Qak (by push_cast; first | done | rfl) ?_ ?_ <;> intro hc <;> (try push_cast at hc))
 | refine Qaw rfl rfl rfl (by push_cast; first | done | rfl) ?_
 | refine Qav rfl rfl rfl (by push_cast; first | done | rfl) ?_ ?_
 | refine Qbf (id := 3) [0, 1, 2, 3, 4, 5] [6] [0, 5] (.or 6 (.free 7 (.done)) (.stop)) wide (by kernel_rfl) ?_
 | refine Qbf (id := 5) [0, 2, 3, 4, 5, 6, 7, 9, 10, 11, 12] [17] [5, 31] (.or 1 (.or 8 (.or 13 (.free 14 (.or 15 (.free 16 (.or 17 (.done) (.stop))) (.stop))) (.stop)) (.stop)) (.stop)) wide (by kernel_rfl) ?_
 | refine Qbf (id := 10) [0, 1, 2, 3, 4, 5, 6, 7, 8, 9, 10, 11] [14] [0, 9] (.or 12 (.free 13 (.or 14 (.done) (.stop))) (.stop)) wide (by kernel_rfl) ?_
 | apply Qby | apply Qbk | apply Qbn
 | refine Qbx rfl rfl rfl ?_ | refine Qbl rfl rfl rfl ?_
 | (refine Qbm rfl rfl rfl rfl ?_ ?_; rotate_left) | (refine Qbe rfl rfl rfl rfl ?_ ?_; rotate_left)
 | (refine Qbz rfl rfl rfl rfl ?_ ?_; rotate_left; focus (intro K' hK'; push_cast; (repeat' refine And.intro ?_ ?_); all_goals (first | (refine hK' _ _ _ _ _ (by push_cast) (by push_cast; first | done | rfl) ?_; clear hK' K') | (clear hK' K'; first | omega | skip))))
 | refine Qcc rfl rfl rfl rfl (by push_cast; first | done | rfl) ?_
 | refine Qcd rfl rfl rfl rfl (by push_cast; first | done | rfl) ?_ ?_
 | (intro (hc : (_ : Prop)); (try push_cast at hc)) | intro (hc : Qad) | intro (hc : Int) | intro (hc : Nat))
  refine Qbu [4, 5, 6, 7, 15, 16, 17, 18, 19, 20, 21, 22, 23, 24, 25, 26, 27, 28, 29, 30, 31, 32, 33, 34, 35, 36, 37, 38, 39, 40, 41, 42, 43, 44, 45, 46, 47, 48, 49] [5, 29, 30, 31, 33, 40, 45, 9001] (fun (i : Nat) => i ≤ D.Queue.length) (fun (i : Nat) => [(15, .one (.l (.int .i64 i)))]) (fun (i : Nat) => [(9001, .mpr (.arr 64 (.int .u8)) (MA M (landAll (keepAt keep) 0 (D.Queue.take i) D.Base)) V none)]) (fun (i : Nat) => D.Queue.length - i) 0 ?_ (by push_cast; first | done | rfl) (by push_cast; first | done | rfl) ?_ ?_
  ·omega
  ·simp only [List.take_zero, landAll, MA_self hr]
   push_cast
  ·intro i hi
   push_cast
   intro hg
   have hwy := way_facts (B := landAll (keepAt keep) 0 (D.Queue.take i) D.Base) hr i
   repeat' (first
 | (intro (K' : KT) hK'; push_cast; (repeat' refine And.intro ?_ ?_); all_goals (first | (apply hK'; clear hK' K') | (refine ⟨trivial, trivial, ?_⟩; apply hK'; clear hK' K') | (intro hb; (try push_cast at hb); all_goals (intros; apply hK'; clear hK' K')) | ((first | refine Qtz power1_con 1 (fun _ _ => rfl) ?_); push_cast; (repeat' refine And.intro ?_ ?_); all_goals (first | (apply hK'; clear hK' K') | (intros; apply hK'; clear hK' K') | (clear hK' K'; first | omega | skip))) | (clear hK' K'; first | omega | skip)))
 | apply Qar | apply Qa0 | apply Qac | apply Qah | apply Qaj | apply Qau
 | apply Qap | apply Qax | apply Qas | apply Qaq | apply Qa1 | apply Qal | apply Qae rfl | apply Qa6 | apply Qa7 | (refine Qjp rfl (by push_cast; first | done | rfl) rfl (by push_cast) (by push_cast; first | done | rfl) (by push_cast; first | done | rfl) ?_) | apply Qam | apply Qaz | apply Qay
 | (refine Qaf ?_; push_cast) | apply Qag | refine Qaa (Qa3 _ (by omega) (by omega)) ?_ | refine Qaa (Qb0 _ (by omega) (by omega)) ?_ | refine Qaa (Qba _ (by omega) (by omega)) ?_ | refine Qaa (Qa5 _ (by omega) (by omega)) ?_
 | refine Qai rfl rfl ?_ | refine Qat rfl rfl ?_
 | (refine Qak (by push_cast; first | done | rfl) ?_ ?_ <;> intro hc <;> (try push_cast at hc))
 | refine Qaw rfl rfl rfl (by push_cast; first | done | rfl) ?_
 | refine Qav rfl rfl rfl (by push_cast; first | done | rfl) ?_ ?_
 | refine Qbf (id := 3) [0, 1, 2, 3, 4, 5] [6] [1, 5] (.or 6 (.free 7 (.done)) (.stop)) wide (by kernel_rfl) ?_
 | refine Qbf (id := 5) [0, 2, 3, 4, 6, 9, 11] [17] [5] (.free 5 (.free 7 (.free 10 (.free 12 (.or 1 (.or 8 (.or 13 (.free 14 (.or 15 (.free 16 (.or 17 (.done) (.stop))) (.stop))) (.stop)) (.stop)) (.stop)))))) wide (by kernel_rfl) ?_
 | refine Qbf (id := 10) [0, 1, 2, 3, 4, 5, 6, 7, 8, 9, 10, 11] [14] [1, 9] (.or 12 (.free 13 (.or 14 (.done) (.stop))) (.stop)) wide (by kernel_rfl) ?_
 | apply Qby | apply Qbk | apply Qbn
 | refine Qbx rfl rfl rfl ?_ | refine Qbl rfl rfl rfl ?_
 | (refine Qbm rfl rfl rfl rfl ?_ ?_; rotate_left) | (refine Qbe rfl rfl rfl rfl ?_ ?_; rotate_left)
 | (refine Qbz rfl rfl rfl rfl ?_ ?_; rotate_left; focus (intro K' hK'; push_cast; (repeat' refine And.intro ?_ ?_); all_goals (first | (refine hK' _ _ _ _ _ (by push_cast) (by push_cast; first | done | rfl) ?_; clear hK' K') | ((first | refine Qtz power1_con 1 (fun _ _ => rfl) ?_); push_cast; (repeat' refine And.intro ?_ ?_); all_goals (first | (refine hK' _ _ _ _ _ (by push_cast) (by push_cast; first | done | rfl) ?_; clear hK' K') | (intros; refine hK' _ _ _ _ _ (by push_cast) (by push_cast; first | done | rfl) ?_; clear hK' K') | (clear hK' K'; first | omega | skip))) | (clear hK' K'; first | omega | skip))))
 | refine Qcc rfl rfl rfl rfl (by push_cast; first | done | rfl) ?_
 | refine Qcd rfl rfl rfl rfl (by push_cast; first | done | rfl) ?_ ?_
 | (intro (hc : (_ : Prop)); (try push_cast at hc)) | intro (hc : Qad) | intro (hc : Int) | intro (hc : Nat))
   all_goals
    first
    | (have hlt : i < D.Queue.length := by omega
       have hm : D.Queue.getD i ⟨Qc1 64 0, 0⟩ ∈ D.Queue := getD_mem _ _ _ hlt
       have hq := hwf.qs _ hm
       have hB := landAll_len (keepAt keep) 0 (D.Queue.take i) D.Base
       have hb : ((landAll (keepAt keep) 0 (D.Queue.take i) D.Base).getD (D.Queue.getD i ⟨Qc1 64 0, 0⟩).To.toNat []).length = 64 := landAll_sec hwf.sec (fun x hx => hwf.qs x (List.mem_of_mem_take hx)) _ (getD_mem _ _ _ (by omega))
       simp only [Int.zero_add, way_at hr i hlt, way_0 hr i hlt, List.length_take, List.length_drop, List.length_append, hb, hq.1]
       omega)
    | skip
   ·have hlt : i < D.Queue.length := by omega
    have hm : D.Queue.getD i ⟨Qc1 64 0, 0⟩ ∈ D.Queue := getD_mem _ _ _ hlt
    have hq := hwf.qs _ hm
    have hB := landAll_len (keepAt keep) 0 (D.Queue.take i) D.Base
    have hb : ((landAll (keepAt keep) 0 (D.Queue.take i) D.Base).getD (D.Queue.getD i ⟨Qc1 64 0, 0⟩).To.toNat []).length = 64 := landAll_sec hwf.sec (fun x hx => hwf.qs x (List.mem_of_mem_take hx)) _ (getD_mem _ _ _ (by omega))
    apply Qm2 9001 6006 (j := i + 1)
    ·(push_cast; first | done | rfl)
    ·(push_cast; first | done | rfl)
    ·show i + 1 ≤ D.Queue.length; omega
    ·show D.Queue.length - (i + 1) < D.Queue.length - i; omega
    push_cast
    congr 1
    rw [take_succ_getD _ _ ⟨Qc1 64 0, 0⟩ hlt, landAll_snoc, Int.zero_add, way_at hr i hlt, way_0 hr i hlt, tks_to _ _ hlt]
    refine MA_upd hr hm hq.2.1 (by omega) _ _ ?_
    simp only [List.length_take, Nat.min_eq_left hi, Nat.zero_add]
    exact mix_at _ _ hb hq.1 _
   ·have e : i = D.Queue.length := by omega
    subst e
    rw [List.take_length]
    generalize hB : landAll (keepAt keep) 0 D.Queue D.Base = B
    refine Qbu [9, 55, 56, 57, 58, 59, 60, 61, 62, 63, 64, 65, 66, 67, 68, 69, 70, 71, 72, 73] [9, 9001] (fun (p : Nat × (Int → Value)) => p.1 ≤ D.Queue.length) (fun (p : Nat × (Int → Value)) => [(55, .one (.l (.int .i64 p.1)))]) (fun (p : Nat × (Int → Value)) => [(9001, .mpr (.arr 64 (.int .u8)) (MB (MA M B) D.Queue p.1) p.2 none)]) (fun (p : Nat × (Int → Value)) => D.Queue.length - p.1) (0, V) ?_ (by push_cast; first | done | rfl) (by push_cast; first | done | rfl) ?_ ?_
    ·omega
    ·simp only [MB_zero]
     push_cast
    ·rintro ⟨j, V2⟩ hj
     push_cast at hj
     push_cast
     intro hg2
     have hwy2 := MB_pos (B := B) hr j j
     repeat' (first
 | (intro (K' : KT) hK'; push_cast; (repeat' refine And.intro ?_ ?_); all_goals (first | (apply hK'; clear hK' K') | (refine ⟨trivial, trivial, ?_⟩; apply hK'; clear hK' K') | (intro hb; (try push_cast at hb); all_goals (intros; apply hK'; clear hK' K')) | (clear hK' K'; first | omega | skip)))
 | apply Qar | apply Qa0 | apply Qac | apply Qah | apply Qaj | apply Qau
 | apply Qap | apply Qax | apply Qas | apply Qaq | apply Qa1 | apply Qal | apply Qae rfl | apply Qa6 | apply Qa7 | apply Qam | apply Qaz | apply Qay
 | (refine Qaf ?_; push_cast) | apply Qag | refine Qaa (Qa3 _ (by omega) (by omega)) ?_ | refine Qaa (Qb0 _ (by omega) (by omega)) ?_ | refine Qaa (Qba _ (by omega) (by omega)) ?_ | refine Qaa (Qa5 _ (by omega) (by omega)) ?_
 | refine Qai rfl rfl ?_ | refine Qat rfl rfl ?_
 | (refine Qak (by push_cast; first | done | rfl) ?_ ?_ <;> intro hc <;> (try push_cast at hc))
 | refine Qaw rfl rfl rfl (by push_cast; first | done | rfl) ?_
 | refine Qav rfl rfl rfl (by push_cast; first | done | rfl) ?_ ?_
 | refine Qbf (id := 3) [0, 1, 2, 3, 4, 5] [6] [1, 5] (.or 6 (.free 7 (.done)) (.stop)) wide (by kernel_rfl) ?_
 | refine Qbf (id := 5) [0, 2, 3, 4, 5, 6, 7, 9, 10, 11, 12] [17] [5, 31] (.or 1 (.or 8 (.or 13 (.free 14 (.or 15 (.free 16 (.or 17 (.done) (.stop))) (.stop))) (.stop)) (.stop)) (.stop)) wide (by kernel_rfl) ?_
 | refine Qbf (id := 10) [0, 1, 2, 3, 4, 5, 6, 7, 8, 9, 10, 11] [14] [1, 9] (.or 12 (.free 13 (.or 14 (.done) (.stop))) (.stop)) wide (by kernel_rfl) ?_
 | apply Qby | apply Qbk | apply Qbn
 | refine Qbx rfl rfl rfl ?_ | refine Qbl rfl rfl rfl ?_
 | (refine Qbm rfl rfl rfl rfl ?_ ?_; rotate_left) | (refine Qbe rfl rfl rfl rfl ?_ ?_; rotate_left)
 | (refine Qbz rfl rfl rfl rfl ?_ ?_; rotate_left; focus (intro K' hK'; push_cast; (repeat' refine And.intro ?_ ?_); all_goals (first | (refine hK' _ _ _ _ _ (by push_cast) (by push_cast; first | done | rfl) ?_; clear hK' K') | (clear hK' K'; first | omega | skip))))
 | refine Qcc rfl rfl rfl rfl (by push_cast; first | done | rfl) ?_
 | refine Qcd rfl rfl rfl rfl (by push_cast; first | done | rfl) ?_ ?_
 | (intro (hc : (_ : Prop)); (try push_cast at hc)) | intro (hc : Qad) | intro (hc : Int) | intro (hc : Nat))
     ·have hlt : j < D.Queue.length := by omega
      refine Qbv (j + 1, ‹Int → Value›) (by push_cast; omega) (by push_cast; omega) ?_
      push_cast
      congr 1
      rw [tks_to _ _ hlt]
      exact MB_succ _ _ _ hlt
     ·have e : j = D.Queue.length := by omega
      subst e
      have hend : RowsOk B [] (MB (MA M B) D.Queue D.Queue.length) := hB ▸ rows_end hr hwf (keepAt keep)
      have hwe : DWf ⟨B, [], D.Burns, D.Dead⟩ := hB ▸ DWf_arr hwf (keepAt keep)
      have hbl : B.length = D.Base.length := hB ▸ landAll_len (keepAt keep) 0 D.Queue D.Base
      first
      | (refine fin_cut0 (way := tks [] D.Queue) (V := V2) (M := MB (MA M B) D.Queue D.Queue.length) (size := D.Base.length) (dead := D.Dead) (rest := [(2, .segs [.dat (.slice (.int .i64)) keep])]) ⟨hwe, by rw [← hbl], rfl, ha, hend, rfl⟩ ?_ ?_ ?_ ?_ ?_ ?_; (focus (push_cast; done)); (focus (push_cast; done)); (focus (push_cast; done)); (focus (simp [Box.ids, Qez, LV.ids]; done)); (focus (push_cast; done)); (focus (simp [tvL, TV.ids, SV.ids, LV.ids, Qb1]; done)))
      | (refine fin_cut1 (n := n) (way := tks [] D.Queue) (V := V2) (M := MB (MA M B) D.Queue D.Queue.length) (size := D.Base.length) (dead := D.Dead) (rest := [(2, .segs [.dat (.slice (.int .i64)) keep])]) ⟨hwe, by rw [← hbl], rfl, ha, hend, rfl⟩ ?_ ?_ ?_ ?_ ?_ ?_; (focus (push_cast; done)); (focus (push_cast; done)); (focus (push_cast; done)); (focus (simp [Box.ids, Qez, LV.ids]; done)); (focus (push_cast; done)); (focus (simp [tvL, TV.ids, SV.ids, LV.ids, Qb1]; done)))
end Go.Proofs.Ytnmjcdlgfimnaaa
namespace Go.Proofs.Ytnmjcdlgfimnaaa
set_option linter.unusedSimpArgs false
set_option linter.unusedVariables false
set_option maxRecDepth 20000
attribute [local irreducible] Qb3 Qa9 vcA Qbp Wc
set_option maxHeartbeats 8000000
theorem close_disk0i {D : Qab} {id m wy : Nat} {V : Int → Value} {M : Int → List (List Int)} {way : List Qbq} {size : Int} {dead : Bool} {rest : List (Nat × Box)} (h : DOk D ⟨V, M, way, none, size, dead⟩) (h1 : m ≠ id) (h2 : wy ≠ id) (h3 : m ≠ wy) :
    Qbb ((id, .segs [.mp m, .int .i64 size, .own wy, .nilp, .bool dead]) :: (m, .mpr (.arr 64 (.int .u8)) M V none) :: (wy, .arr Qa8 way) :: rest) ((id, .obj DiskO D) :: rest) := by
 have := Qlv (ok := DOk) (mm := mmD) (root := 1) (id := id) (D := D) (rest := rest) ⟨V, M, way, none, size, dead⟩ (fun j => if j = 1 then id else if j = 9001 then m else if j = 9002 then wy else j) h (by simp) (by simp [mmD, Qao]) (by simp [mmD, Qao]) (by
  simp only [mmD, Qao, List.map_cons, List.map_nil, List.mem_cons, List.not_mem_nil, or_false]
  rintro a (rfl | rfl | rfl) b (rfl | rfl | rfl) <;> simp <;> omega)
 simpa [Qer, mmD, Box.ren, LV.ren, DiskO] using this
theorem DOk_blank (n : Int) (V : Int → Value) : DOk (dBlank n) ⟨V, fun _ => [], [], none, max (min n 2048) 0, false⟩ := by
 have hl : (dBlank n).Base.length = (max 0 (min n 2048)).toNat := by simp [dBlank]
 refine ⟨⟨by omega, ?_, by simp [dBlank], by simp [dBlank], by simp [dBlank]⟩, by simp only; omega, rfl, by simp [dBlank], ?_, by simp [dBlank, tks]⟩
 ·intro s hs
  simp only [dBlank] at hs
  rw [List.eq_of_mem_replicate hs]
  simp [zeros, Qc1]
 ·intro k
  left
  refine ⟨rfl, by simp [dBlank, qTo], fun h0 h1 => ?_⟩
  have : k.toNat < (dBlank n).Base.length := by omega
  rw [List.getD_eq_getElem?_getD, List.getElem?_eq_getElem this]
  simp [dBlank]
theorem Blank_fn (n : Int) : Qcs Cx.P 24 [.l (.int .i64 n)] [] (tvL [.ptr 10 [] 0]) [(10, .obj DiskO (dBlank n))] := by
 refine Qcs.go2 (E := Cx.env) (fn := Try.f24) (res := [_]) _ (Qc2.refl _) Try.func24 Qua rfl rfl (by simp [Qb1, SV.ids, LV.ids]) (by simp [Qao]) (by kernel_rfl) rfl ?_
 intro hf
 try push_cast at hf
 intro _
 simp only [mmD, Qcu, Qao, List.map_cons, List.map_nil, List.cons_append, List.nil_append]
 repeat' (first
 | (intro (K' : KT) hK'; push_cast; (repeat' refine And.intro ?_ ?_); all_goals (first | (apply hK'; clear hK' K') | (refine ⟨trivial, trivial, ?_⟩; apply hK'; clear hK' K') | (intro hb; (try push_cast at hb); all_goals (intros; apply hK'; clear hK' K')) | (clear hK' K'; first | omega | skip)))
 | apply Qar | apply Qac | apply Qah | apply Qaj | apply Qau
 | apply Qap | apply Qax | apply Qas | apply Qam | apply Qaz | apply Qay
 | (refine Qaf ?_; push_cast) | apply Qag | refine Qaa (Qa3 _ (by omega) (by omega)) ?_ | refine Qaa (Qb0 _ (by omega) (by omega)) ?_ | refine Qaa (Qba _ (by omega) (by omega)) ?_ | refine Qaa (Qa5 _ (by omega) (by omega)) ?_
 | refine Qai rfl rfl ?_ | refine Qat rfl rfl ?_
 | (refine Qak (by push_cast; first | done | rfl) ?_ ?_ <;> intro hc <;> (try push_cast at hc))
 | refine Qaw rfl rfl rfl (by push_cast; first | done | rfl) ?_
 | refine Qav rfl rfl rfl (by push_cast; first | done | rfl) ?_ ?_
 | (intro (hc : (_ : Prop)); (try push_cast at hc)) | intro (hc : Qad) | intro (hc : Int) | intro (hc : Nat))
 refine Qc9.fin ⟨[(10, .segs [.mp 6, .int .i64 (max (min n 2048) 0), .nils, .nilp, .bool false]), (6, .mpr (.arr 64 (.int .u8)) (fun _ => []) ‹Int → Value› none)], ?_, ?_, ?_, ?_, ?_⟩
 ·push_cast
 ·push_cast
 ·simp [Qao]
 ·refine Qbb.trans (Qbb.nils (id := 10) (n := 9005) (p := [.mp 6, .int .i64 (max (min n 2048) 0)]) (q := [.nilp, .bool false]) Qa8 (by omega) (by omega) (by simp [Qez, LV.ids]) (by simp [Qez, LV.ids]) (by simp [Qao]) (by simp [Box.ids])) (Qbb.trans (Qbb.sub (mem' := [(10, .segs [.mp 6, .int .i64 (max (min n 2048) 0), .own 9005, .nilp, .bool false]), (6, .mpr (.arr 64 (.int .u8)) (fun _ => []) ‹Int → Value› none), (9005, .arr Qa8 [])]) (by simp [Qao]) ?_) (close_disk0i (DOk_blank n _) (by omega) (by omega) (by omega)))
  intro e he
  simp only [List.mem_cons, List.cons_append, List.nil_append, List.not_mem_nil, or_false] at he ⊢
  rcases he with h | h | h
  ·exact .inl h
  ·exact .inr (.inr h)
  ·exact .inr (.inl h)
 ·simp [tvL, TV.ids, SV.ids, LV.ids, Qb1]
theorem Blank_con : Qug Cx.P 24 10 DiskO (.pair (.int .i64) .unit) (fun _ => True) (fun x => dBlank x.1) := ⟨Qua, fun x _ => Blank_fn x.1⟩
end Go.Proofs.Ytnmjcdlgfimnaaa
namespace Go.Proofs.Ytnmjcdlgfimnaaa
set_option linter.unusedSimpArgs false
set_option linter.unusedVariables false
set_option maxRecDepth 20000
attribute [local irreducible] Qb3 Qa9 vcA Qbp Wc
set_option maxHeartbeats 8000000
def arrD (D : Qab) (f : Nat → Int) : Qab := ⟨landAll f 0 D.Queue D.Base, [], D.Burns, D.Dead⟩
def arrF (vs0 : List SV) (s : Qan) (K : KT) : Prop := match vs0 with
 | [.l (.ptr id [] 0), .l (.clo f [])] => (match Qco s.mem id with
  | some (@Box.obj τ O D) => f = 83 ∧ ∃ h : τ = Qab, HEq O DiskO ∧ K (tvL []) (s.back [id] [] [(id, .obj DiskO (arrD (cast h D) fun _ => 64))])
  | _ => False)
 | _ => False
theorem call_arrF {vs0 : List SV} {s : Qan} {K : KT} (hc : arrF vs0 s K) : Wc Cx.P 82 vs0 s K := by
 unfold arrF at hc
 split at hc
 ·rename_i id f
  split at hc
  ·rename_i τ O D hg
   obtain ⟨rfl, e, hO, hc⟩ := hc
   subst e
   have hO := eq_of_heq hO
   subst hO
   simp only [cast_eq] at hc
   refine Qde (arriveF_fn D) (fun _ => id) [] (by simp [Qao]) (by simp [Qao]) (by simp [Qao]) (by simp [Qao]) (by simp) (by simp [tvL, TV.ids, Qb1]) ?_ ?_ (fun _ _ _ h => h) hc
   ·intro e he i hi
    simp only [List.mem_singleton] at he
    subst he
    simp [Box.ids] at hi
   ·intro e he
    simp only [List.mem_singleton] at he
    subst he
    exact hg
  ·exact hc.elim
 ·exact hc.elim
def arrPw (vs0 : List SV) (s : Qan) (K : KT) : Prop := match vs0 with
 | [.l (.ptr id [] 0), .l (.clo f [b])] => (match Qco s.mem id, Qco s.mem b with
  | some (@Box.obj τ O D), some (.segs [x]) => f = 84 ∧ id ≠ b ∧ ∃ h : τ = Qab, HEq O DiskO ∧ Qc7 (.slice (.int .i64)) x fun keep => K (tvL []) (s.back [id, b] [] [(id, .obj DiskO (arrD (cast h D) (keepAt keep))), (b, .segs [x])])
  | _, _ => False)
 | _ => False
theorem call_arrP {vs0 : List SV} {s : Qan} {K : KT} (hc : arrPw vs0 s K) : Wc Cx.P 82 vs0 s K := by
 unfold arrPw at hc
 split at hc
 ·rename_i id f b
  split at hc
  ·rename_i τ O D x hg hb
   obtain ⟨rfl, hne, e, hO, hc⟩ := hc
   subst e
   have hO := eq_of_heq hO
   subst hO
   simp only [cast_eq] at hc
   obtain ⟨keep, hc, rfl⟩ := Qft hc
   refine Qde (arriveP_fn D keep) (fun i => if i = 1 then id else b) [] (by simp [Qao]) ?_ ?_ (by simp [Qao]) (by simp) (by simp [tvL, TV.ids, Qb1]) ?_ ?_ ?_ hc
   ·simp only [Qao, List.map_cons, List.map_nil, List.mem_cons, List.not_mem_nil, or_false]
    rintro i (rfl | rfl) j (rfl | rfl) <;> simp [hne, Ne.symm hne]
   ·simp only [Qao, List.map_cons, List.map_nil, List.mem_cons, List.not_mem_nil, or_false]
    rintro i (rfl | rfl) j (rfl | rfl) <;> simp [hne, Ne.symm hne]
   ·intro e he i hi
    simp only [List.mem_cons, List.not_mem_nil, or_false] at he
    rcases he with rfl | rfl <;> simp [Box.ids, Qez, LV.ids] at hi
   ·intro e he
    simp only [List.mem_cons, List.not_mem_nil, or_false] at he
    rcases he with rfl | rfl
    ·exact hg
    ·exact hb
   ·intro G γ us h
    simpa [SV.ren, LV.ren] using h
  ·exact hc.elim
 ·exact hc.elim
attribute [push_cast] arrF arrPw
theorem Flush_fn (D : Qab) : Qcs Cx.P 28 [.l (.ptr 1 [] 0)] [(1, .obj DiskO D)] (tvL [.int .i64 (dFlush D).2]) [(1, .obj DiskO (dFlush D).1)] := by
 refine Qcs.go2 (E := Cx.env) (fn := Try.f28) (res := [_]) _ (Qc2.refl _) Try.func28 Qur rfl rfl (by simp [Qb1, SV.ids, LV.ids]) (by simp [Qao]) (by kernel_rfl) rfl ?_
 intro hf
 try push_cast at hf
 intro _
 simp only [mmD, Qcu, Qao, List.map_cons, List.map_nil, List.cons_append, List.nil_append]
 have hqs := dSpend_queue D
 have hbs := dSpend_base D
 repeat' (first
 | (intro (K' : KT) hK'; push_cast; (repeat' refine And.intro ?_ ?_); all_goals (first | (apply hK'; clear hK' K') | (refine ⟨trivial, trivial, ?_⟩; apply hK'; clear hK' K') | (intro hb; (try push_cast at hb); all_goals (intros; apply hK'; clear hK' K')) | ((first | refine Qbr act_con (fun _ _ => rfl) ?_ | refine call_arrF ?_); push_cast; (repeat' refine And.intro ?_ ?_); all_goals (first | (apply hK'; clear hK' K') | (intros; apply hK'; clear hK' K') | (clear hK' K'; first | omega | skip))) | (clear hK' K'; first | omega | skip)))
 | apply Qar | apply Qac | apply Qah | apply Qaj | apply Qau
 | apply Qap | apply Qax | apply Qas | apply Qam | apply Qaz | apply Qay
 | (refine Qaf ?_; push_cast) | apply Qag | refine Qaa (Qa3 _ (by omega) (by omega)) ?_ | refine Qaa (Qb0 _ (by omega) (by omega)) ?_ | refine Qaa (Qba _ (by omega) (by omega)) ?_ | refine Qaa (Qa5 _ (by omega) (by omega)) ?_
 | refine Qai rfl rfl ?_ | refine Qat rfl rfl ?_
 | (refine Qak (by push_cast; first | done | rfl) ?_ ?_ <;> intro hc <;> (try push_cast at hc))
 | refine Qaw rfl rfl rfl (by push_cast; first | done | rfl) ?_
 | refine Qav rfl rfl rfl (by push_cast; first | done | rfl) ?_ ?_
 | (intro (hc : (_ : Prop)); (try push_cast at hc)) | intro (hc : Qad) | intro (hc : Int) | intro (hc : Nat))
 ·have hs : (dSpend D).2 = false := by simpa using hc
  have e : dFlush D = ((dSpend D).1, 82) := by simp [dFlush, hs]
  rw [e]
  (refine Qc9.fin ⟨[(1, .obj DiskO (dSpend D).1)], ?_, ?_, ?_, Qbb.refl _, ?_⟩
   ·push_cast
   ·push_cast
   ·simp [Qao]
   ·simp [tvL, TV.ids, SV.ids, LV.ids, Qb1])
 ·have hs : (dSpend D).2 = true := by
   have : (!(dSpend D).2) = false := by assumption
   simpa using this
  have e : dFlush D = (arrD (dSpend D).1 (fun _ => 64), 0) := by simp [dFlush, hs, arrD, hqs, hbs]
  rw [e]
  (refine Qc9.fin ⟨[(1, .obj DiskO (arrD (dSpend D).1 (fun _ => 64)))], ?_, ?_, ?_, Qbb.refl _, ?_⟩
   ·push_cast
   ·push_cast
   ·simp [Qao]
   ·simp [tvL, TV.ids, SV.ids, LV.ids, Qb1])
theorem Power_fn (D : Qab) (keep : List Int) : Qcs Cx.P 32 [.l (.ptr 1 [] 0), .l (.dat (.slice (.int .i64)) keep)] [(1, .obj DiskO D)] (tvL []) [(1, .obj DiskO (dPower D keep))] := by
 refine Qcs.go2 (E := Cx.env) (fn := Try.f32) (res := []) _ (Qc2.refl _) Try.func32 Qt6 rfl rfl (by simp [Qb1, SV.ids, LV.ids]) (by simp [Qao]) (by kernel_rfl) rfl ?_
 intro hf
 try push_cast at hf
 intro _
 simp only [mmD, Qcu, Qao, List.map_cons, List.map_nil, List.cons_append, List.nil_append]
 repeat' (first
 | (intro (K' : KT) hK'; push_cast; (repeat' refine And.intro ?_ ?_); all_goals (first | (apply hK'; clear hK' K') | (refine ⟨trivial, trivial, ?_⟩; apply hK'; clear hK' K') | (intro hb; (try push_cast at hb); all_goals (intros; apply hK'; clear hK' K')) | ((first | refine Qbr Fuse_con (fun _ _ => rfl) ?_ | refine call_arrP ?_); push_cast; (repeat' refine And.intro ?_ ?_); all_goals (first | (apply hK'; clear hK' K') | (intros; apply hK'; clear hK' K') | (clear hK' K'; first | omega | skip))) | (clear hK' K'; first | omega | skip)))
 | apply Qar | refine Qbo (id := 2) ?_ | apply Qac | apply Qah | apply Qaj | apply Qau
 | apply Qap | apply Qax | apply Qas | apply Qam | apply Qaz | apply Qay
 | (refine Qaf ?_; push_cast) | apply Qag | refine Qaa (Qa3 _ (by omega) (by omega)) ?_ | refine Qaa (Qb0 _ (by omega) (by omega)) ?_ | refine Qaa (Qba _ (by omega) (by omega)) ?_ | refine Qaa (Qa5 _ (by omega) (by omega)) ?_
 | refine Qai rfl rfl ?_ | refine Qat rfl rfl ?_
 | (refine Qak (by push_cast; first | done | rfl) ?_ ?_ <;> intro hc <;> (try push_cast at hc))
 | refine Qaw rfl rfl rfl (by push_cast; first | done | rfl) ?_
 | refine Qav rfl rfl rfl (by push_cast; first | done | rfl) ?_ ?_
 | (intro (hc : (_ : Prop)); (try push_cast at hc)) | intro (hc : Qad) | intro (hc : Int) | intro (hc : Nat))
 refine Qhc (Qhf _ (open_disk (dFuse (arrD D (keepAt keep)) (-1)) _ (by simp [Qao]) (by simp [Box.ids, Qez, LV.ids])) (Qbb.refl _) (by simp) (by push_cast; first | done | rfl) ?_)
 rintro ⟨⟨V, M, way, acts, size, dead⟩, ⟨hwf, h1, h2, ha, hr, h3⟩⟩
 simp only at h1 h2 ha hr h3
 subst h1 h2 h3
 have hbu := hwf.burns
 rcases acts with _ | n
 all_goals
  simp only [mmD, Qcu, Qao, List.map_cons, List.map_nil, List.cons_append, List.nil_append]
  repeat' (first
 | (intro (K' : KT) hK'; push_cast; (repeat' refine And.intro ?_ ?_); all_goals (first | (apply hK'; clear hK' K') | (refine ⟨trivial, trivial, ?_⟩; apply hK'; clear hK' K') | (intro hb; (try push_cast at hb); all_goals (intros; apply hK'; clear hK' K')) | (clear hK' K'; first | omega | skip)))
 | apply Qar | apply Qac | apply Qah | apply Qaj | apply Qau
 | apply Qap | apply Qax | apply Qas | apply Qam | apply Qaz | apply Qay
 | (refine Qaf ?_; push_cast) | apply Qag | refine Qaa (Qa3 _ (by omega) (by omega)) ?_ | refine Qaa (Qb0 _ (by omega) (by omega)) ?_ | refine Qaa (Qba _ (by omega) (by omega)) ?_ | refine Qaa (Qa5 _ (by omega) (by omega)) ?_
 | refine Qai rfl rfl ?_ | refine Qat rfl rfl ?_
 | (refine Qak (by push_cast; first | done | rfl) ?_ ?_ <;> intro hc <;> (try push_cast at hc))
 | refine Qaw rfl rfl rfl (by push_cast; first | done | rfl) ?_
 | refine Qav rfl rfl rfl (by push_cast; first | done | rfl) ?_ ?_
 | (intro (hc : (_ : Prop)); (try push_cast at hc)) | intro (hc : Qad) | intro (hc : Int) | intro (hc : Nat))
 ·exact fin_disk0 (m := 9001) (wy := 9002) (V := V) (M := M) (way := (tks [] (dFuse (arrD D (keepAt keep)) (-1)).Queue)) (size := (dFuse (arrD D (keepAt keep)) (-1)).Base.length) (dead := false) (rest := []) ⟨⟨hwf.many, hwf.sec, hwf.qs, hwf.qn, by simp [dPower]⟩, rfl, rfl, by simp [dPower], hr, rfl⟩ (by push_cast) (by push_cast) (by push_cast) (by simp [tvL, TV.ids, SV.ids, LV.ids, Qb1])
 ·simp [dFuse, arrD] at ha
theorem Flush_con : Qkc Cx.P 28 DiskO .unit (fun _ _ => True) (fun D _ => [.int .i64 (dFlush D).2]) (fun D _ => (dFlush D).1) := ⟨Qur, fun D _ _ => Flush_fn D⟩
theorem Power_con : Qkc Cx.P 32 DiskO (.pair (.slice (.int .i64)) .unit) (fun _ _ => True) (fun _ _ => []) (fun D x => dPower D x.1) := ⟨Qt6, fun D x _ => Power_fn D x.1⟩
end Go.Proofs.Ytnmjcdlgfimnaaa
namespace Go.Proofs.Ytnmjcdlgfimnaaa
set_option linter.unusedSimpArgs false
set_option linter.unusedVariables false
set_option maxRecDepth 20000
attribute [local irreducible] Qb3 Qa9 vcA Qbp Wc
set_option maxHeartbeats 8000000
end Go.Proofs.Ytnmjcdlgfimnaaa
