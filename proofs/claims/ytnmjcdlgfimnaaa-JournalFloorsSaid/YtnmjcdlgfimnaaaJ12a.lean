/- Layer 6 as chapter 12 uses it: numbers as bytes. -/
import Derived.Test.YtnmjcdlgfimnaaaC10e
import Derived.Test.YtnmjcdlgfimnaaaC11d
namespace Go.Proofs.Ytnmjcdlgfimnaaa
/-- A number's bytes. -/
def numB (n : Nat) : List Int := if n < 128 then [(n : Int)] else (128 + (n : Int) % 128) :: numB (n / 128)
termination_by n
theorem numB_low {n : Nat} (h : n < 128) : numB n = [(n : Int)] := by rw [numB, if_pos h]
theorem numB_high {n : Nat} (h : ¬ n < 128) : numB n = (128 + (n : Int) % 128) :: numB (n / 128) := by rw [numB, if_neg h]
/-- The first bytes, all but the last one. -/
def numT (n : Nat) : Nat → List Int
  | 0 => []
  | k + 1 => numT n k ++ [128 + ((n / 128 ^ k : Nat) : Int) % 128]
theorem numT_len (n : Nat) : ∀ k, (numT n k).length = k
  | 0 => rfl
  | k + 1 => by simp [numT, numT_len n k]
theorem numT_succ (n : Nat) : ∀ k, numT n (k + 1) = (128 + (n : Int) % 128) :: numT (n / 128) k
  | 0 => by simp [numT]
  | k + 1 => by
    show numT n (k + 1) ++ _ = _ :: (numT (n / 128) k ++ _)
    rw [numT_succ n k, List.cons_append, Nat.div_div_eq_div_mul, Nat.pow_succ, Nat.mul_comm 128]
theorem numB_cut : ∀ (k n : Nat), (∀ j, j < k → ¬ n / 128 ^ j < 128) → n / 128 ^ k < 128 → numB n = numT n k ++ [((n / 128 ^ k : Nat) : Int)]
  | 0, n, _, h => by
    simp only [Nat.pow_zero, Nat.div_one] at h ⊢
    rw [numB_low h]
    rfl
  | k + 1, n, h, h2 => by
    have h0 := h 0 (by omega)
    simp only [Nat.pow_zero, Nat.div_one] at h0
    have e : ∀ j, n / 128 / 128 ^ j = n / 128 ^ (j + 1) := fun j => by rw [Nat.div_div_eq_div_mul, Nat.pow_succ, Nat.mul_comm]
    rw [numB_high h0, numT_succ, numB_cut k (n / 128) (fun j hj => by rw [e]; exact h (j + 1) (by omega)) (by rw [e]; exact h2), e]
    rfl
theorem numB_len {n : Nat} (h : n < 2 ^ 64) : 1 ≤ (numB n).length ∧ (numB n).length ≤ 10 := by
  have : ∀ (k n : Nat), n < 128 ^ (k + 1) → 1 ≤ (numB n).length ∧ (numB n).length ≤ k + 1 := by
    intro k
    induction k with
    | zero => intro n h; rw [numB_low (by simpa using h)]; simp
    | succ k ih =>
      intro n h
      by_cases hn : n < 128
      · rw [numB_low hn]; simp
      · rw [numB_high hn]
        have := ih (n / 128) (by rw [Nat.div_lt_iff_lt_mul (by decide)]; rw [Nat.pow_succ] at h; exact h)
        simp only [List.length_cons]
        omega
  exact this 9 n (by have e : 128 ^ (9 + 1) = 2 ^ 70 := by decide
                     rw [e]; omega)
theorem or_byte : ∀ m : Nat, m < 256 → bitsOp .or .u8 (m : Int) 128 = 128 + (m : Int) % 128 := by decide +kernel
theorem shr_seven (n : Nat) : shrOp .u64 (n : Int) 7 = ((n / 128 : Nat) : Int) := by
  unfold shrOp
  have : (2 : Int) ^ min (7 : Int).toNat IntKind.u64.bits = 128 := by decide
  rw [this, Int.fdiv_eq_ediv_of_nonneg _ (by decide)]
  omega
theorem byte_or (n : Nat) : bitsOp .or .u8 (IntKind.u8.wrap n) 128 = 128 + (n : Int) % 128 := by
  have e : IntKind.u8.wrap n = ((n % 256 : Nat) : Int) := by
    show (n : Int) % 256 = _
    omega
  rw [e, or_byte _ (by omega)]
  omega
section
set_option linter.unusedSimpArgs false
set_option linter.unusedVariables false
set_option maxRecDepth 20000
attribute [local irreducible] vcOps vcCode vcA vcSch Wc
set_option maxHeartbeats 8000000
theorem clone8_fn (s : List Int) (hpre : s.length ≤ 1000000) : Pure Cx.P 119 [.dat (.slice (.int .u8)) s] [.dat (.slice (.int .u8)) s] := by
  refine Pure.go2 (E := Cx.env) (fn := Try.f119) (res := [_]) Try.func119 isfn119 rfl rfl rfl (by kernel_rfl) rfl ?_
  push_cast
  try intro hf
  repeat' (first
    | (intro (K' : KT) hK'; push_cast; (repeat' refine And.intro ?_ ?_); all_goals (first | (apply hK'; clear hK' K') | (refine ⟨trivial, trivial, ?_⟩; apply hK'; clear hK' K') | (intro hb; (try push_cast at hb); all_goals (intros; apply hK'; clear hK' K')) | (clear hK' K'; first | omega | skip)))
    | apply go_seq | apply go_region | apply go_skip | apply go_exit | apply go_ret
    | apply seqK_n | apply seqK_x | apply seqK_r | apply regK_go | apply finK_n | apply finK_r
    | (refine vres_go ?_; push_cast) | apply ops_nil | refine ops_in (w_i64 _ (by omega) (by omega)) ?_ | refine ops_in (w_u8 _ (by omega) (by omega)) ?_ | refine ops_in (w_u32 _ (by omega) (by omega)) ?_ | refine ops_in (w_u64 _ (by omega) (by omega)) ?_
    | refine ops_put rfl rfl ?_ | refine ops_no rfl rfl ?_
    | (refine go_cond (by push_cast; first | done | rfl) ?_ ?_ <;> intro hc <;> (try push_cast at hc))
    | refine ops_gt rfl rfl rfl (by push_cast; first | done | rfl) ?_
    | refine ops_gb rfl rfl rfl (by push_cast; first | done | rfl) ?_ ?_
    | (intro (hc : (_ : Prop)); (try push_cast at hc)) | intro (hc : R08Item) | intro (hc : Int) | intro (hc : Nat))
  exact (List.length_eq_zero_iff.1 ‹_›).symm
theorem clone8_con : Con Cx.P 119 (.pair (.slice (.int .u8)) (.unit)) (fun x => (fun (s : List Int) => s.length ≤ 1000000) x.1) (fun x => (fun (s : List Int) => [.dat (.slice (.int .u8)) s]) x.1) := ⟨isfn119, fun x h => clone8_fn x.1 h⟩
theorem clone_nil : Spec Cx.P 119 [.l .nils] [] (tvL [.nils]) [] := by
  refine Spec.go2 (E := Cx.env) (fn := Try.f119) (res := [_]) _ (Opens.refl _) Try.func119 isfn119 rfl rfl (by simp [idsV, SV.ids, LV.ids]) (by simp [idsM]) (by kernel_rfl) rfl ?_
  intro hf
  try push_cast at hf
  intro _
  simp only [mmD, parSl, idsM, List.map_cons, List.map_nil, List.cons_append, List.nil_append]
  repeat' (first
    | (intro (K' : KT) hK'; push_cast; (repeat' refine And.intro ?_ ?_); all_goals (first | (apply hK'; clear hK' K') | (refine ⟨trivial, trivial, ?_⟩; apply hK'; clear hK' K') | (intro hb; (try push_cast at hb); all_goals (intros; apply hK'; clear hK' K')) | (clear hK' K'; first | omega | skip)))
    | apply go_seq | apply go_region | apply go_skip | apply go_exit | apply go_ret
    | apply seqK_n | apply seqK_x | apply seqK_r | apply regK_go | apply finK_n | apply finK_r
    | (refine vres_go ?_; push_cast) | apply ops_nil | refine ops_in (w_i64 _ (by omega) (by omega)) ?_ | refine ops_in (w_u8 _ (by omega) (by omega)) ?_ | refine ops_in (w_u32 _ (by omega) (by omega)) ?_ | refine ops_in (w_u64 _ (by omega) (by omega)) ?_
    | refine ops_put rfl rfl ?_ | refine ops_no rfl rfl ?_
    | (refine go_cond (by push_cast; first | done | rfl) ?_ ?_ <;> intro hc <;> (try push_cast at hc))
    | refine ops_gt rfl rfl rfl (by push_cast; first | done | rfl) ?_
    | refine ops_gb rfl rfl rfl (by push_cast; first | done | rfl) ?_ ?_
    | (intro (hc : (_ : Prop)); (try push_cast at hc)) | intro (hc : R08Item) | intro (hc : Int) | intro (hc : Nat))
  (refine Fin2.fin ⟨[], ?_, ?_, ?_, Closes.refl _, ?_⟩
   · push_cast
   · push_cast
   · simp [idsM]
   · simp [tvL, TV.ids, SV.ids, LV.ids, idsV])
def quoB (n k : Nat) : Int := ((n / 128 ^ k : Nat) : Int)
def outB (n : Nat) : Nat → List Int
  | 0 => []
  | _ + 1 => numB n
/-- A call of 'slices.Clone' of nothing. -/
def conCl (vs0 : List SV) (s : SymSt) (K : KT) : Prop := match vs0 with
  | [.l .nils] => K (.one (.l .nils)) s
  | _ => False
theorem call_Cl {vs0 : List SV} {s : SymSt} {K : KT} (hc : conCl vs0 s K) : Wc Cx.P 119 vs0 s K := by
  unfold conCl at hc
  split at hc
  · refine Wc_spec clone_nil (fun i => i) [] (by simp [idsM]) (by simp [idsM]) (by simp [idsM]) (by simp [idsM]) (by simp) (by simp [tvL, TV.ids, SV.ids, LV.ids]) (by simp) (by simp) (fun _ _ _ h => by simpa [SV.ren, LV.ren] using h) ?_
    simpa [tvL, TV.ren, SV.ren, LV.ren, SymSt.back, idsM, renM, rmsM, killsSl, killsM] using hc
  · exact hc.elim
attribute [push_cast] conCl
theorem pkNum_fn (n : Nat) (hn : n < 18446744073709551616) :
    Spec Cx.P 106 [.l .nils, .l (.dat (.slice (.int .u64)) [(n : Int)])] [] (tvL [.own 30]) [(30, .arr (.int .u8) (numB n))] := by
  refine Spec.go2 (E := Cx.env) (fn := Try.f106) (res := [_]) _ (Opens.refl _) Try.func106 isfn106 rfl rfl (by simp [idsV, SV.ids, LV.ids]) (by simp [idsM]) (by kernel_rfl) rfl ?_
  intro hf
  try push_cast at hf
  intro _
  simp only [mmD, parSl, idsM, List.map_cons, List.map_nil, List.cons_append, List.nil_append]
  repeat' (first
    | (intro (K' : KT) hK'; push_cast; (repeat' refine And.intro ?_ ?_); all_goals (first | (apply hK'; clear hK' K') | (refine ⟨trivial, trivial, ?_⟩; apply hK'; clear hK' K') | (intro hb; (try push_cast at hb); all_goals (intros; apply hK'; clear hK' K')) | ((first | refine call_Cl ?_); push_cast; (repeat' refine And.intro ?_ ?_); all_goals (first | (apply hK'; clear hK' K') | (intros; apply hK'; clear hK' K') | (clear hK' K'; first | omega | skip))) | (clear hK' K'; first | omega | skip)))
    | apply go_seq | apply go_block | apply go_region | apply go_skip | apply go_exit | apply go_ret
    | apply seqK_n | apply seqK_x | apply seqK_r | apply blockK_n | apply blockK_r | apply blockK_hit | apply blockK_miss rfl | apply loopK_x | apply loopK_r | apply regK_go | apply finK_n | apply finK_r
    | (refine vres_go ?_; push_cast) | apply ops_nil | refine ops_in (w_i64 _ (by omega) (by omega)) ?_ | refine ops_in (w_u8 _ (by omega) (by omega)) ?_ | refine ops_in (w_u32 _ (by omega) (by omega)) ?_ | refine ops_in (w_u64 _ (by omega) (by omega)) ?_
    | refine ops_put rfl rfl ?_ | refine ops_no rfl rfl ?_
    | (refine go_cond (by push_cast; first | done | rfl) ?_ ?_ <;> intro hc <;> (try push_cast at hc))
    | refine ops_gt rfl rfl rfl (by push_cast; first | done | rfl) ?_
    | refine ops_gb rfl rfl rfl (by push_cast; first | done | rfl) ?_ ?_
    | (intro (hc : (_ : Prop)); (try push_cast at hc)) | intro (hc : R08Item) | intro (hc : Int) | intro (hc : Nat))
  refine loop_nil (.int .u8) 5 30 rfl (by push_cast) ?_
  push_cast
  refine go_loop2 [5, 7, 12, 13, 14, 15, 16, 17, 18, 19, 20, 21, 22, 23, 24, 25, 26, 27, 28, 29, 30, 31] [20, 22, 23, 28, 29, 30] (fun (i : Nat) => i ≤ 1) (fun (i : Nat) => [(12, .one (.l (.int .i64 i))), (5, .one (.l (.own 30)))]) (fun (i : Nat) => [(30, .arr (.int .u8) (outB n i))]) (fun (i : Nat) => 1 - i) 0 ?_ (by push_cast; first | done | rfl) (by push_cast; first | done | rfl) ?_ ?_
  · omega
  · push_cast
    first | done | rfl
  · intro i hi
    push_cast
    intro hg
    repeat' (first
    | (intro (K' : KT) hK'; push_cast; (repeat' refine And.intro ?_ ?_); all_goals (first | (apply hK'; clear hK' K') | (refine ⟨trivial, trivial, ?_⟩; apply hK'; clear hK' K') | (intro hb; (try push_cast at hb); all_goals (intros; apply hK'; clear hK' K')) | (clear hK' K'; first | omega | skip)))
    | apply go_seq | apply go_block | apply go_region | apply go_skip | apply go_exit | apply go_ret
    | apply seqK_n | apply seqK_x | apply seqK_r | apply blockK_n | apply blockK_r | apply blockK_hit | apply blockK_miss rfl | apply loopK_x | apply loopK_r | apply regK_go | apply finK_n | apply finK_r
    | (refine vres_go ?_; push_cast) | apply ops_nil | refine ops_in (w_i64 _ (by omega) (by omega)) ?_ | refine ops_in (w_u8 _ (by omega) (by omega)) ?_ | refine ops_in (w_u32 _ (by omega) (by omega)) ?_ | refine ops_in (w_u64 _ (by omega) (by omega)) ?_
    | refine ops_put rfl rfl ?_ | refine ops_no rfl rfl ?_
    | (refine go_cond (by push_cast; first | done | rfl) ?_ ?_ <;> intro hc <;> (try push_cast at hc))
    | refine ops_gt rfl rfl rfl (by push_cast; first | done | rfl) ?_
    | refine ops_gb rfl rfl rfl (by push_cast; first | done | rfl) ?_ ?_
    | (intro (hc : (_ : Prop)); (try push_cast at hc)) | intro (hc : R08Item) | intro (hc : Int) | intro (hc : Nat))
    · have ei : i = 0 := by omega
      subst ei
      have e0 : outB n 0 = numT n 0 := rfl
      rw [e0]
      refine loop_ren 30 23 rfl (by push_cast) (by decide) ?_
      push_cast
      refine go_loop2 [5, 7, 16, 17, 18, 19, 20, 21, 22, 23, 24, 25] [20, 22, 23] (fun (k : Nat) => k ≤ 9 ∧ ∀ j, j < k → ¬ n / 128 ^ j < 128) (fun (k : Nat) => [(7, .one (.l (.int .u64 (quoB n k)))), (5, .one (.l (.own 23)))]) (fun (k : Nat) => [(23, .arr (.int .u8) (numT n k))]) (fun (k : Nat) => n / 128 ^ k) 0 ?_ (by push_cast; first | done | rfl) (by push_cast; first | done | rfl) ?_ ?_
      · exact ⟨by omega, fun j hj => by omega⟩
      · push_cast
        first | done | rfl | (simp [quoB]; done)
      · rintro k ⟨hk9, hk⟩
        push_cast
        intro hg2
        have hq : n / 128 ^ k < 18446744073709551616 := Nat.lt_of_le_of_lt (Nat.div_le_self _ _) hn
        have hqe : quoB n k = ((n / 128 ^ k : Nat) : Int) := rfl
        have hb : 0 ≤ quoB n k ∧ quoB n k ≤ 18446744073709551615 := by rw [hqe]; omega
        have hcut := numB_cut k n hk
        rw [← hqe] at hcut
        have hlen := numT_len n k
        have hor := byte_or (n / 128 ^ k)
        rw [← hqe] at hor
        have hnx : n / 128 ^ k / 128 = n / 128 ^ (k + 1) := by rw [Nat.div_div_eq_div_mul, Nat.pow_succ]
        have hsh := shr_seven (n / 128 ^ k)
        rw [hnx, ← hqe] at hsh
        have hsh : shrOp .u64 (quoB n k) 7 = quoB n (k + 1) := hsh
        have htl : numT n (k + 1) = numT n k ++ [128 + quoB n k % 128] := rfl
        have h9 : n / 128 ^ 9 < 128 := by
          rw [Nat.div_lt_iff_lt_mul (by decide)]
          have : 128 * 128 ^ 9 = 2 ^ 70 := by decide
          omega
        repeat' (first
    | (intro (K' : KT) hK'; push_cast; (repeat' refine And.intro ?_ ?_); all_goals (first | (apply hK'; clear hK' K') | (refine ⟨trivial, trivial, ?_⟩; apply hK'; clear hK' K') | (intro hb; (try push_cast at hb); all_goals (intros; apply hK'; clear hK' K')) | (clear hK' K'; first | omega | skip)))
    | apply go_seq | apply go_block | apply go_region | apply go_skip | apply go_exit | apply go_ret
    | apply seqK_n | apply seqK_x | apply seqK_r | apply blockK_n | apply blockK_r | apply blockK_hit | apply blockK_miss rfl | apply loopK_x | apply loopK_r | apply regK_go | apply finK_n | apply finK_r
    | (refine vres_go ?_; push_cast) | apply ops_nil | refine ops_in (w_i64 _ (by omega) (by omega)) ?_ | refine ops_in (w_u8 _ (by omega) (by omega)) ?_ | refine ops_in (w_u32 _ (by omega) (by omega)) ?_ | refine ops_in (w_u64 _ (by omega) (by omega)) ?_
    | refine ops_put rfl rfl ?_ | refine ops_no rfl rfl ?_
    | (refine go_cond (by push_cast; first | done | rfl) ?_ ?_ <;> intro hc <;> (try push_cast at hc))
    | refine ops_gt rfl rfl rfl (by push_cast; first | done | rfl) ?_
    | refine ops_gb rfl rfl rfl (by push_cast; first | done | rfl) ?_ ?_
    | (intro (hc : (_ : Prop)); (try push_cast at hc)) | intro (hc : R08Item) | intro (hc : Int) | intro (hc : Nat))
        · have hge : ¬ n / 128 ^ k < 128 := by rw [hqe] at hc; omega
          have hk8 : k ≠ 9 := fun h => by rw [h] at hge; exact hge h9
          rw [hor, hsh]
          refine loopK_m (k + 1) ⟨by omega, fun j hj => ?_⟩ ?_ ?_
          · by_cases h : j < k
            · exact hk j h
            · have : j = k := by omega
              rw [this]; exact hge
          · rw [← hnx]; omega
          · push_cast
            rw [htl]
        · have hlt : n / 128 ^ k < 128 := by rw [hqe] at hc; omega
          have hw8 : IntKind.u8.wrap (quoB n k) = quoB n k := w_u8 _ (by omega) (by rw [hqe]; omega)
          try rw [hw8]
          rw [← hcut hlt]
          refine loopK_m 1 (by omega) (by omega) ?_
          push_cast
          first | done | rfl
    · have ei : i = 1 := by omega
      subst ei
      have e1 : outB n 1 = numB n := rfl
      rw [e1]
      (refine Fin2.fin ⟨[(30, .arr (.int .u8) (numB n))], ?_, ?_, ?_, Closes.refl _, ?_⟩
       · push_cast
       · push_cast
       · simp [idsM]
       · simp [tvL, TV.ids, SV.ids, LV.ids, idsV])
end
end Go.Proofs.Ytnmjcdlgfimnaaa
