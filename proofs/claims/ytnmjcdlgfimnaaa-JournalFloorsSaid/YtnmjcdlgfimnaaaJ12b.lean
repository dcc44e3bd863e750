/- Layer 6 as chapter 12 uses it: a number is read. -/
import Derived.Test.YtnmjcdlgfimnaaaJ12a
namespace Go.Proofs.Ytnmjcdlgfimnaaa
theorem or_add {a b m : Nat} (ha : a < 2 ^ m) (hb : 2 ^ m * b + a < 2 ^ 64) : bitsOp .or .u64 (a : Int) ((2 ^ m * b : Nat) : Int) = ((2 ^ m * b + a : Nat) : Int) := by
  have hv : ∀ x : Nat, x < 2 ^ 64 → (BitVec.ofInt 64 (x : Int)).toNat = x := fun x hx => by
    rw [BitVec.toNat_ofInt]
    omega
  have e : bitsOp .or .u64 (a : Int) ((2 ^ m * b : Nat) : Int) = IntKind.u64.wrap (((BitVec.ofInt 64 (a : Int) ||| BitVec.ofInt 64 ((2 ^ m * b : Nat) : Int)).toNat : Nat) : Int) := rfl
  rw [e, BitVec.toNat_or, hv _ (by omega), hv _ (by omega), Nat.or_comm, ← Nat.two_pow_add_eq_or_of_lt ha]
  exact w_u64 _ (Int.natCast_nonneg _) (by omega)
theorem and_byte : ∀ m : Nat, m < 256 → bitsOp .and .u8 (m : Int) 127 = (m : Int) % 128 := by decide +kernel
theorem p7 (i : Nat) : 128 ^ i = 2 ^ (7 * i) := by rw [Nat.pow_mul]
/-- Where a number's bytes end. -/
theorem numB_end {n : Nat} (h : n < 128 ^ 9) : ∃ K, K ≤ 8 ∧ (∀ j, j < K → ¬ n / 128 ^ j < 128) ∧ n / 128 ^ K < 128 := by
  have h8 : n / 128 ^ 8 < 128 := by rw [Nat.div_lt_iff_lt_mul (by decide)]; exact h
  have : ∀ k, k ≤ 8 → (∀ j, j < 8 - k → ¬ n / 128 ^ j < 128) → ∃ K, K ≤ 8 ∧ (∀ j, j < K → ¬ n / 128 ^ j < 128) ∧ n / 128 ^ K < 128 := by
    intro k
    induction k with
    | zero => intro _ hj; exact ⟨8, Nat.le_refl _, hj, h8⟩
    | succ k ih =>
      intro hk hj
      by_cases hq : n / 128 ^ (8 - (k + 1)) < 128
      · exact ⟨_, by omega, hj, hq⟩
      · refine ih (by omega) fun j hj2 => ?_
        by_cases h2 : j = 8 - (k + 1)
        · rw [h2]; exact hq
        · exact hj j (by omega)
  exact this 8 (Nat.le_refl _) (fun j hj => by omega)
theorem numT_get (n : Nat) : ∀ (k i : Nat), i < k → (numT n k).getD i 0 = 128 + quoB n i % 128
  | 0, _, h => by omega
  | k + 1, i, h => by
    by_cases hi : i < k
    · show (numT n k ++ _).getD i 0 = _
      rw [List.getD_eq_getElem?_getD, List.getElem?_append_left (by rw [numT_len]; exact hi), ← List.getD_eq_getElem?_getD]
      exact numT_get n k i hi
    · have e : i = k := by omega
      subst e
      show (numT n i ++ _).getD i 0 = _
      rw [List.getD_eq_getElem?_getD, List.getElem?_append_right (by rw [numT_len]; exact Nat.le_refl _), numT_len]
      simp [quoB]
def accB (n i : Nat) : Int := ((n % 128 ^ i : Nat) : Int)
theorem acc_step {n i : Nat} (hi : i ≤ 8) (hn : n < 128 ^ 9) : bitsOp .or .u64 (accB n i) (shlOp .u64 (quoB n i % 128) (7 * i)) = accB n (i + 1) := by
  have e1 : shlOp .u64 (quoB n i % 128) (7 * (i : Int)) = ((2 ^ (7 * i) * (n / 128 ^ i % 128) : Nat) : Int) := by
    have hm : min (7 * (i : Int)).toNat IntKind.u64.bits = 7 * i := by
      have : IntKind.u64.bits = 64 := rfl
      omega
    have hle : 2 ^ (7 * i) * (n / 128 ^ i % 128) ≤ n := by
      rw [← p7]
      have h1 := Nat.mod_le (n / 128 ^ i) 128
      have h2 := Nat.mul_div_le n (128 ^ i)
      exact Nat.le_trans (Nat.mul_le_mul_left _ h1) h2
    have h9 : (128 : Nat) ^ 9 = 2 ^ 63 := by decide
    unfold shlOp
    rw [hm]
    have e2 : quoB n i % 128 * 2 ^ (7 * i) = ((2 ^ (7 * i) * (n / 128 ^ i % 128) : Nat) : Int) := by
      unfold quoB
      rw [Nat.mul_comm]
      push_cast
      rw [Int.mul_comm]
    rw [e2]
    exact w_u64 _ (Int.natCast_nonneg _) (by omega)
  rw [e1]
  have e3 : n % 128 ^ (i + 1) = 2 ^ (7 * i) * (n / 128 ^ i % 128) + n % 128 ^ i := by
    rw [Nat.pow_succ, Nat.mod_mul, ← p7]
    omega
  have h9 : (128 : Nat) ^ 9 = 2 ^ 63 := by decide
  have hlt := Nat.mod_le n (128 ^ (i + 1))
  unfold accB
  rw [or_add (by rw [← p7]; exact Nat.mod_lt _ (Nat.pow_pos (by decide))) (by omega), e3]
section
attribute [local irreducible] bitsOp shlOp
set_option linter.unusedSimpArgs false
set_option linter.unusedVariables false
set_option maxRecDepth 20000
attribute [local irreducible] vcOps vcCode vcA vcSch Wc
set_option maxHeartbeats 8000000
theorem pkNew_fn (l : List Int) (h : l.length ≤ 1000000) :
    Spec Cx.P 103 [.l (.dat (.slice (.int .u8)) l)] [] (tvL [.ptr 6 [] 0]) [(6, .segs [.dat (.slice (.int .u8)) l, .bool false])] := by
  refine Spec.go2 (E := Cx.env) (fn := Try.f103) (res := [_]) _ (Opens.refl _) Try.func103 isfn103 rfl rfl (by simp [idsV, SV.ids, LV.ids]) (by simp [idsM]) (by kernel_rfl) rfl ?_
  intro hf
  try push_cast at hf
  intro _
  simp only [mmD, parSl, idsM, List.map_cons, List.map_nil, List.cons_append, List.nil_append]
  repeat' (first
    | (intro (K' : KT) hK'; push_cast; (repeat' refine And.intro ?_ ?_); all_goals (first | (apply hK'; clear hK' K') | (refine ⟨trivial, trivial, ?_⟩; apply hK'; clear hK' K') | (intro hb; (try push_cast at hb); all_goals (intros; apply hK'; clear hK' K')) | ((first | refine call_N clone8_con (fun _ => rfl) ?_); push_cast; (repeat' refine And.intro ?_ ?_); all_goals (first | (apply hK'; clear hK' K') | (intros; apply hK'; clear hK' K') | (clear hK' K'; first | omega | skip))) | (clear hK' K'; first | omega | skip)))
    | apply go_seq | apply go_region | apply go_skip | apply go_exit | apply go_ret
    | apply seqK_n | apply seqK_x | apply seqK_r | apply regK_go | apply finK_n | apply finK_r
    | (refine vres_go ?_; push_cast) | apply ops_nil | refine ops_in (w_i64 _ (by omega) (by omega)) ?_ | refine ops_in (w_u8 _ (by omega) (by omega)) ?_ | refine ops_in (w_u32 _ (by omega) (by omega)) ?_ | refine ops_in (w_u64 _ (by omega) (by omega)) ?_
    | refine ops_put rfl rfl ?_ | refine ops_no rfl rfl ?_
    | (refine go_cond (by push_cast; first | done | rfl) ?_ ?_ <;> intro hc <;> (try push_cast at hc))
    | refine ops_gt rfl rfl rfl (by push_cast; first | done | rfl) ?_
    | refine ops_gb rfl rfl rfl (by push_cast; first | done | rfl) ?_ ?_
    | (intro (hc : (_ : Prop)); (try push_cast at hc)) | intro (hc : R08Item) | intro (hc : Int) | intro (hc : Nat))
  (refine Fin2.fin ⟨[(6, .segs [.dat (.slice (.int .u8)) l, .bool false])], ?_, ?_, ?_, Closes.refl _, ?_⟩
   · push_cast
   · push_cast
   · simp [idsM]
   · simp [tvL, TV.ids, SV.ids, LV.ids, idsV])
theorem rdLeft_fn (l : List Int) :
    Spec Cx.P 105 [.l (.ptr 1 [] 0)] [(1, .segs [.dat (.slice (.int .u8)) l, .bool false])] (tvL [.int .i64 l.length]) [(1, .segs [.dat (.slice (.int .u8)) l, .bool false])] := by
  refine Spec.go2 (E := Cx.env) (fn := Try.f105) (res := [_]) _ (Opens.refl _) Try.func105 isfn105 rfl rfl (by simp [idsV, SV.ids, LV.ids]) (by simp [idsM]) (by kernel_rfl) rfl ?_
  intro hf
  try push_cast at hf
  intro _
  simp only [mmD, parSl, idsM, List.map_cons, List.map_nil, List.cons_append, List.nil_append]
  repeat' (first
    | (intro (K' : KT) hK'; push_cast; (repeat' refine And.intro ?_ ?_); all_goals (first | (apply hK'; clear hK' K') | (refine ⟨trivial, trivial, ?_⟩; apply hK'; clear hK' K') | (intro hb; (try push_cast at hb); all_goals (intros; apply hK'; clear hK' K')) | (clear hK' K'; first | omega | skip)))
    | apply go_seq | apply go_region | apply go_skip | apply go_exit | apply go_ret
    | apply seqK_n | apply seqK_x | apply seqK_r | apply regK_go | apply finK_n | apply finK_r
    | (refine vres_go ?_; push_cast) | apply ops_nil | refine ops_in (w_i64 _ (by omega) (by omega)) ?_ | refine ops_in (w_u8 _ (by omega) (by omega)) ?_ | refine ops_in (w_u32 _ (by omega) (by omega)) ?_ | refine ops_in (w_u64 _ (by omega) (by omega)) ?_
    | refine ops_put rfl rfl ?_ | refine ops_no rfl rfl ?_
    | (refine go_cond (by push_cast; first | done | rfl) ?_ ?_ <;> intro hc <;> (try push_cast at hc))
    | refine ops_gt rfl rfl rfl (by push_cast; first | done | rfl) ?_
    | refine ops_gb rfl rfl rfl (by push_cast; first | done | rfl) ?_ ?_
    | (intro (hc : (_ : Prop)); (try push_cast at hc)) | intro (hc : R08Item) | intro (hc : Int) | intro (hc : Nat))
  (refine Fin2.fin ⟨[(1, .segs [.dat (.slice (.int .u8)) l, .bool false])], ?_, ?_, ?_, Closes.refl _, ?_⟩
   · push_cast
   · push_cast
   · simp [idsM]
   · simp [tvL, TV.ids, SV.ids, LV.ids, idsV])
theorem rdNum_fn (n : Nat) (rest : List Int) (hn : n < 128 ^ 9) :
    Spec Cx.P 104 [.l (.ptr 1 [] 0)] [(1, .segs [.dat (.slice (.int .u8)) (numB n ++ rest), .bool false])] (tvL [.int .u64 n]) [(1, .segs [.dat (.slice (.int .u8)) rest, .bool false])] := by
  obtain ⟨K, hK, hlow, hlast⟩ := numB_end hn
  have hcut := numB_cut K n hlow hlast
  have hbl : (numB n ++ rest).length = K + 1 + rest.length := by rw [hcut]; simp [numT_len]; omega
  have hdrop : List.drop (K + 1) (numB n ++ rest) = rest := by
    rw [hcut, List.append_assoc]
    have e : K + 1 = (numT n K).length + 1 := by rw [numT_len]
    rw [e, List.drop_append]
    simp
  have hbyte : ∀ i, i ≤ K → (numB n ++ rest).getD i 0 = if i < K then 128 + quoB n i % 128 else quoB n K := fun i hi => by
    rw [hcut, List.append_assoc, List.getD_eq_getElem?_getD]
    by_cases h : i < K
    · rw [if_pos h, List.getElem?_append_left (by rw [numT_len]; exact h), ← List.getD_eq_getElem?_getD]
      exact numT_get n K i h
    · have e : i = K := by omega
      subst e
      rw [if_neg h, List.getElem?_append_right (by rw [numT_len]; exact Nat.le_refl _), numT_len]
      simp [quoB]
  generalize hbs : numB n ++ rest = bs at *
  refine Spec.go2 (E := Cx.env) (fn := Try.f104) (res := [_]) _ (Opens.refl _) Try.func104 isfn104 rfl rfl (by simp [idsV, SV.ids, LV.ids]) (by simp [idsM]) (by kernel_rfl) rfl ?_
  intro hf
  try push_cast at hf
  intro _
  simp only [mmD, parSl, idsM, List.map_cons, List.map_nil, List.cons_append, List.nil_append]
  repeat' (first
    | (intro (K' : KT) hK'; push_cast; (repeat' refine And.intro ?_ ?_); all_goals (first | (apply hK'; clear hK' K') | (refine ⟨trivial, trivial, ?_⟩; apply hK'; clear hK' K') | (intro hb; (try push_cast at hb); all_goals (intros; apply hK'; clear hK' K')) | (clear hK' K'; first | omega | skip)))
    | apply go_seq | apply go_block | apply go_region | apply go_skip | apply go_label | apply go_goto | apply go_exit | apply go_ret
    | apply seqK_n | apply seqK_x | apply seqK_r | apply seqK_j | apply jumpK_n | apply jumpK_x | apply jumpK_r | apply passK_n | apply passK_x | apply passK_r | apply straightK_n | apply straightK_x | apply straightK_r | apply blockK_j | apply blockK_n | apply blockK_r | apply blockK_hit | apply blockK_miss rfl | apply loopK_j | apply loopK_x | apply loopK_r | apply regK_go | apply finK_n | apply finK_r
    | (refine vres_go ?_; push_cast) | apply ops_nil | refine ops_in (w_i64 _ (by omega) (by omega)) ?_ | refine ops_in (w_u8 _ (by omega) (by omega)) ?_ | refine ops_in (w_u32 _ (by omega) (by omega)) ?_ | refine ops_in (w_u64 _ (by omega) (by omega)) ?_
    | refine ops_put rfl rfl ?_ | refine ops_no rfl rfl ?_
    | (refine go_cond (by push_cast; first | done | rfl) ?_ ?_ <;> intro hc <;> (try push_cast at hc))
    | refine ops_gt rfl rfl rfl (by push_cast; first | done | rfl) ?_
    | refine ops_gb rfl rfl rfl (by push_cast; first | done | rfl) ?_ ?_
    | (intro (hc : (_ : Prop)); (try push_cast at hc)) | intro (hc : R08Item) | intro (hc : Int) | intro (hc : Nat))
  apply go_straight
  repeat' (first
    | (intro (K' : KT) hK'; push_cast; (repeat' refine And.intro ?_ ?_); all_goals (first | (apply hK'; clear hK' K') | (refine ⟨trivial, trivial, ?_⟩; apply hK'; clear hK' K') | (intro hb; (try push_cast at hb); all_goals (intros; apply hK'; clear hK' K')) | (clear hK' K'; first | omega | skip)))
    | apply go_seq | apply go_block | apply go_region | apply go_skip | apply go_label | apply go_goto | apply go_exit | apply go_ret
    | apply seqK_n | apply seqK_x | apply seqK_r | apply seqK_j | apply jumpK_n | apply jumpK_x | apply jumpK_r | apply passK_n | apply passK_x | apply passK_r | apply straightK_n | apply straightK_x | apply straightK_r | apply blockK_j | apply blockK_n | apply blockK_r | apply blockK_hit | apply blockK_miss rfl | apply loopK_j | apply loopK_x | apply loopK_r | apply regK_go | apply finK_n | apply finK_r
    | (refine vres_go ?_; push_cast) | apply ops_nil | refine ops_in (w_i64 _ (by omega) (by omega)) ?_ | refine ops_in (w_u8 _ (by omega) (by omega)) ?_ | refine ops_in (w_u32 _ (by omega) (by omega)) ?_ | refine ops_in (w_u64 _ (by omega) (by omega)) ?_
    | refine ops_put rfl rfl ?_ | refine ops_no rfl rfl ?_
    | (refine go_cond (by push_cast; first | done | rfl) ?_ ?_ <;> intro hc <;> (try push_cast at hc))
    | refine ops_gt rfl rfl rfl (by push_cast; first | done | rfl) ?_
    | refine ops_gb rfl rfl rfl (by push_cast; first | done | rfl) ?_ ?_
    | (intro (hc : (_ : Prop)); (try push_cast at hc)) | intro (hc : R08Item) | intro (hc : Int) | intro (hc : Nat))
  refine go_loop2 [2, 3, 4, 5, 11, 12, 13, 14, 15, 16, 17, 18, 19, 20, 21, 22, 23, 24, 25, 26, 27, 28, 29, 30, 31, 32, 33, 34, 35, 36, 37, 38, 39, 40, 41, 42, 43, 44, 45, 46, 47, 48, 49, 50, 51] [33] (fun (i : Nat) => i ≤ K) (fun (i : Nat) => [(11, .one (.l (.int .i64 i))), (3, .one (.l (.int .u64 (accB n i))))]) (fun (i : Nat) => []) (fun (i : Nat) => K + 1 - i) 0 ?_ (by push_cast; first | done | rfl) (by push_cast; first | done | rfl) ?_ ?_
  · omega
  · push_cast
    first | done | exact ⟨rfl, by simp [accB, Nat.mod_one]⟩ | simp [accB, Nat.mod_one]
  · intro i hi
    push_cast
    intro hg
    have hbi := hbyte i hi
    have hq0 : 0 ≤ quoB n i := Int.natCast_nonneg _
    have hqK : 0 ≤ quoB n K ∧ quoB n K < 128 := ⟨Int.natCast_nonneg _, by unfold quoB; omega⟩
    have hK0 : 0 < K → quoB n K ≠ 0 := fun h => by
      have h1 := hlow (K - 1) (by omega)
      have e : n / 128 ^ K = n / 128 ^ (K - 1) / 128 := by
        obtain ⟨k, rfl⟩ : ∃ k, K = k + 1 := ⟨K - 1, by omega⟩
        rw [Nat.div_div_eq_div_mul, Nat.pow_succ]
        rfl
      unfold quoB
      rw [e]
      generalize n / 128 ^ (K - 1) = q at *
      omega
    have hlt : (i : Int) < bs.length := by rw [hbl]; omega
    have hc0 : 0 ≤ bs.getD i 0 ∧ bs.getD i 0 ≤ 255 := by rw [hbi]; split <;> omega
    have hz : 0 < i → bs.getD i 0 ≠ 0 := fun h => by
      rw [hbi]
      split
      · omega
      · exact hK0 (by omega)
    have hend : bs.getD i 0 < 128 ↔ i = K := by
      rw [hbi]
      split <;> omega
    have hand : bitsOp .and .u8 (bs.getD i 0) 127 = quoB n i % 128 := by
      obtain ⟨m, hm⟩ : ∃ m : Nat, bs.getD i 0 = m := ⟨(bs.getD i 0).toNat, by omega⟩
      rw [hm, and_byte m (by omega), ← hm, hbi]
      split
      · omega
      · have : i = K := by omega
        rw [this]
    have hacc := acc_step (n := n) (i := i) (by omega) hn
    have hab : 0 ≤ accB n (i + 1) := Int.natCast_nonneg _
    have haK : accB n (K + 1) = n := by
      unfold accB
      rw [Nat.mod_eq_of_lt]
      have := (Nat.div_lt_iff_lt_mul (Nat.pow_pos (by decide : 0 < 128))).1 hlast
      rw [Nat.pow_succ, Nat.mul_comm]
      exact this
    have hi9 : ¬ (i : Int) = 9 := by omega
    repeat' (first
    | (intro (K' : KT) hK'; push_cast; (repeat' refine And.intro ?_ ?_); all_goals (first | (apply hK'; clear hK' K') | (refine ⟨trivial, trivial, ?_⟩; apply hK'; clear hK' K') | (intro hb; (try push_cast at hb); all_goals (intros; apply hK'; clear hK' K')) | (clear hK' K'; first | omega | skip)))
    | apply go_seq | apply go_block | apply go_region | apply go_skip | apply go_label | apply go_goto | apply go_exit | apply go_ret
    | apply seqK_n | apply seqK_x | apply seqK_r | apply seqK_j | apply jumpK_n | apply jumpK_x | apply jumpK_r | apply passK_n | apply passK_x | apply passK_r | apply straightK_n | apply straightK_x | apply straightK_r | apply blockK_j | apply blockK_n | apply blockK_r | apply blockK_hit | apply blockK_miss rfl | apply loopK_j | apply loopK_x | apply loopK_r | apply regK_go | apply finK_n | apply finK_r
    | (refine vres_go ?_; push_cast) | apply ops_nil | refine ops_in (w_i64 _ (by omega) (by omega)) ?_ | refine ops_in (w_u8 _ (by omega) (by omega)) ?_ | refine ops_in (w_u32 _ (by omega) (by omega)) ?_ | refine ops_in (w_u64 _ (by omega) (by omega)) ?_
    | refine ops_put rfl rfl ?_ | refine ops_no rfl rfl ?_
    | (refine go_cond (by push_cast; first | done | rfl) ?_ ?_ <;> intro hc <;> (try push_cast at hc))
    | refine ops_gt rfl rfl rfl (by push_cast; first | done | rfl) ?_
    | refine ops_gb rfl rfl rfl (by push_cast; first | done | rfl) ?_ ?_
    | (intro (hc : (_ : Prop)); (try push_cast at hc)) | intro (hc : R08Item) | intro (hc : Int) | intro (hc : Nat))
    all_goals (try (exfalso; omega))
    all_goals (try (exfalso; exact hz (by omega) ‹_›))
    · have ei : i = K := hend.1 ‹_›
      have hd : List.drop ((K : Int) + 1).toNat (List.take bs.length bs) = rest := by
        have e : ((K : Int) + 1).toNat = K + 1 := by omega
        rw [List.take_length, e]; exact hdrop
      rw [hand, hacc, ei, haK, hd]
      (refine Fin2.fin ⟨[(1, .segs [.dat (.slice (.int .u8)) rest, .bool false])], ?_, ?_, ?_, Closes.refl _, ?_⟩
       · push_cast
       · push_cast
       · simp [idsM]
       · simp [tvL, TV.ids, SV.ids, LV.ids, idsV])
    · have ei : i = K := hend.1 ‹_›
      have hd : List.drop ((K : Int) + 1).toNat (List.take bs.length bs) = rest := by
        have e : ((K : Int) + 1).toNat = K + 1 := by omega
        rw [List.take_length, e]; exact hdrop
      rw [hand, hacc, ei, haK, hd]
      (refine Fin2.fin ⟨[(1, .segs [.dat (.slice (.int .u8)) rest, .bool false])], ?_, ?_, ?_, Closes.refl _, ?_⟩
       · push_cast
       · push_cast
       · simp [idsM]
       · simp [tvL, TV.ids, SV.ids, LV.ids, idsV])
    · rw [hand, hacc]
      refine loopK_m (i + 1) (by have : ¬ i = K := fun h => absurd (hend.2 h) ‹_›
                                 omega) (by omega) ?_
      push_cast
      first | done | rfl
end
end Go.Proofs.Ytnmjcdlgfimnaaa
