/- Layer 6 as chapter 12 uses it: numbers as bytes. -/
import Derived.Test.YtnmjcdlgfimnaaaC10e
import Derived.Test.YtnmjcdlgfimnaaaC11d
import Derived.Test.YtnmjcdlgfimnaaaC10h
import Derived.Test.YtnmjcdlgfimnaaaC11e
import Derived.Test.YtnmjcdlgfimnaaaL10a
namespace Go.Proofs.Ytnmjcdlgfimnaaa
def numB (n : Nat) : List Int := if n < 128 then [(n : Int)] else (128 + (n : Int) % 128) :: numB (n / 128)
termination_by n
theorem numB_low {n : Nat} (h : n < 128) : numB n = [(n : Int)] := by rw [numB, if_pos h]
theorem numB_high {n : Nat} (h : ¬ n < 128) : numB n = (128 + (n : Int) % 128) :: numB (n / 128) := by rw [numB, if_neg h]
def numT (n : Nat) : Nat → List Int
 | 0 => []
 | k + 1 => numT n k ++ [128 + ((n / 128 ^ k : Nat) : Int) % 128]
theorem numT_len (n : Nat) : ∀ k, (numT n k).length = k
 | 0 => rfl
 | k + 1 => by simp [numT, numT_len n k]
theorem numT_succ (n : Nat) : ∀ k, numT n (k + 1) = (128 + (n : Int) % 128) :: numT (n / 128) k
 | 0 => by simp [numT]
 | k + 1 => by
  show numT n (k + 1) ++ _ = _ :: (numT (n / 128) k ++ _)
  rw [numT_succ n k, List.cons_append, Nat.div_div_eq_div_mul, Nat.pow_succ, Nat.mul_comm 128]
theorem numB_cut : ∀ (k n : Nat), (∀ j, j < k → ¬ n / 128 ^ j < 128) → n / 128 ^ k < 128 → numB n = numT n k ++ [((n / 128 ^ k : Nat) : Int)]
 | 0, n, _, h => by
  simp only [Nat.pow_zero, Nat.div_one] at h ⊢
  rw [numB_low h]
  rfl
 | k + 1, n, h, h2 => by
  have h0 := h 0 (by omega)
  simp only [Nat.pow_zero, Nat.div_one] at h0
  have e : ∀ j, n / 128 / 128 ^ j = n / 128 ^ (j + 1) := fun j => by rw [Nat.div_div_eq_div_mul, Nat.pow_succ, Nat.mul_comm]
  rw [numB_high h0, numT_succ, numB_cut k (n / 128) (fun j hj => by rw [e]; exact h (j + 1) (by omega)) (by rw [e]; exact h2), e]
  rfl
theorem numB_len {n : Nat} (h : n < 2 ^ 64) : 1 ≤ (numB n).length ∧ (numB n).length ≤ 10 := by
 have : ∀ (k n : Nat), n < 128 ^ (k + 1) → 1 ≤ (numB n).length ∧ (numB n).length ≤ k + 1 := by
  intro k
  induction k with
  | zero => intro n h; rw [numB_low (by simpa using h)]; simp
  | succ k ih =>
   intro n h
   by_cases hn : n < 128
   ·rw [numB_low hn]; simp
   ·rw [numB_high hn]
    have := ih (n / 128) (by rw [Nat.div_lt_iff_lt_mul (by decide)]; rw [Nat.pow_succ] at h; exact h)
    simp only [List.length_cons]
    omega
 exact this 9 n (by have e : 128 ^ (9 + 1) = 2 ^ 70 := by decide
                    rw [e]; omega)
theorem or_byte : ∀ m : Nat, m < 256 → Qcz .or .u8 (m : Int) 128 = 128 + (m : Int) % 128 := by decide +kernel
theorem shr_seven (n : Nat) : Qc8 .u64 (n : Int) 7 = ((n / 128 : Nat) : Int) := by
 unfold Qc8
 have : (2 : Int) ^ min (7 : Int).toNat IntKind.u64.bits = 128 := by decide
 rw [this, Int.fdiv_eq_ediv_of_nonneg _ (by decide)]
 omega
theorem byte_or (n : Nat) : Qcz .or .u8 (IntKind.u8.wrap n) 128 = 128 + (n : Int) % 128 := by
 have e : IntKind.u8.wrap n = ((n % 256 : Nat) : Int) := by
  show (n : Int) % 256 = _
  omega
 rw [e, or_byte _ (by omega)]
 omega
section
set_option linter.unusedSimpArgs false
set_option linter.unusedVariables false
set_option maxRecDepth 20000
attribute [local irreducible] Qb3 Qa9 vcA Qbp Wc
set_option maxHeartbeats 8000000
theorem clone8_fn (s : List Int) (hpre : s.length ≤ 1000000) : Qck Cx.P 119 [.dat (.slice (.int .u8)) s] [.dat (.slice (.int .u8)) s] := by
 refine Qck.go2 (E := Cx.env) (fn := Try.f119) (res := [_]) Try.func119 Qov rfl rfl rfl (by kernel_rfl) rfl ?_
 push_cast
 try intro hf
 repeat' (first
 | (intro (K' : KT) hK'; push_cast; (repeat' refine And.intro ?_ ?_); all_goals (first | (apply hK'; clear hK' K') | (refine ⟨trivial, trivial, ?_⟩; apply hK'; clear hK' K') | (intro hb; (try push_cast at hb); all_goals (intros; apply hK'; clear hK' K')) | (clear hK' K'; first | omega | skip)))
 | apply Qar | apply Qac | apply Qah | apply Qaj | apply Qau
 | apply Qap | apply Qax | apply Qas | apply Qam | apply Qaz | apply Qay
 | (refine Qaf ?_; push_cast) | apply Qag | refine Qaa (Qa3 _ (by omega) (by omega)) ?_ | refine Qaa (Qb0 _ (by omega) (by omega)) ?_ | refine Qaa (Qba _ (by omega) (by omega)) ?_ | refine Qaa (Qa5 _ (by omega) (by omega)) ?_
 | refine Qai rfl rfl ?_ | refine Qat rfl rfl ?_
 | (refine Qak (by push_cast; first | done | rfl) ?_ ?_ <;> intro hc <;> (try push_cast at hc))
 | refine Qaw rfl rfl rfl (by push_cast; first | done | rfl) ?_
 | refine Qav rfl rfl rfl (by push_cast; first | done | rfl) ?_ ?_
 | (intro (hc : (_ : Prop)); (try push_cast at hc)) | intro (hc : Qad) | intro (hc : Int) | intro (hc : Nat))
 exact (List.length_eq_zero_iff.1 ‹_›).symm
theorem clone8_con : Con Cx.P 119 (.pair (.slice (.int .u8)) (.unit)) (fun x => (fun (s : List Int) => s.length ≤ 1000000) x.1) (fun x => (fun (s : List Int) => [.dat (.slice (.int .u8)) s]) x.1) := ⟨Qov, fun x h => clone8_fn x.1 h⟩
theorem clone_nil : Qcs Cx.P 119 [.l .nils] [] (tvL [.nils]) [] := by
 refine Qcs.go2 (E := Cx.env) (fn := Try.f119) (res := [_]) _ (Qc2.refl _) Try.func119 Qov rfl rfl (by simp [Qb1, SV.ids, LV.ids]) (by simp [Qao]) (by kernel_rfl) rfl ?_
 intro hf
 try push_cast at hf
 intro _
 simp only [mmD, Qcu, Qao, List.map_cons, List.map_nil, List.cons_append, List.nil_append]
 repeat' (first
 | (intro (K' : KT) hK'; push_cast; (repeat' refine And.intro ?_ ?_); all_goals (first | (apply hK'; clear hK' K') | (refine ⟨trivial, trivial, ?_⟩; apply hK'; clear hK' K') | (intro hb; (try push_cast at hb); all_goals (intros; apply hK'; clear hK' K')) | (clear hK' K'; first | omega | skip)))
 | apply Qar | apply Qac | apply Qah | apply Qaj | apply Qau
 | apply Qap | apply Qax | apply Qas | apply Qam | apply Qaz | apply Qay
 | (refine Qaf ?_; push_cast) | apply Qag | refine Qaa (Qa3 _ (by omega) (by omega)) ?_ | refine Qaa (Qb0 _ (by omega) (by omega)) ?_ | refine Qaa (Qba _ (by omega) (by omega)) ?_ | refine Qaa (Qa5 _ (by omega) (by omega)) ?_
 | refine Qai rfl rfl ?_ | refine Qat rfl rfl ?_
 | (refine Qak (by push_cast; first | done | rfl) ?_ ?_ <;> intro hc <;> (try push_cast at hc))
 | refine Qaw rfl rfl rfl (by push_cast; first | done | rfl) ?_
 | refine Qav rfl rfl rfl (by push_cast; first | done | rfl) ?_ ?_
 | (intro (hc : (_ : Prop)); (try push_cast at hc)) | intro (hc : Qad) | intro (hc : Int) | intro (hc : Nat))
 (refine Qc9.fin ⟨[], ?_, ?_, ?_, Qbb.refl _, ?_⟩
  ·push_cast
  ·push_cast
  ·simp [Qao]
  ·simp [tvL, TV.ids, SV.ids, LV.ids, Qb1])
def quoB (n k : Nat) : Int := ((n / 128 ^ k : Nat) : Int)
def outB (n : Nat) : Nat → List Int
 | 0 => []
 | _ + 1 => numB n
def conCl (vs0 : List SV) (s : Qan) (K : KT) : Prop := match vs0 with
 | [.l .nils] => K (.one (.l .nils)) s
 | _ => False
theorem call_Cl {vs0 : List SV} {s : Qan} {K : KT} (hc : conCl vs0 s K) : Wc Cx.P 119 vs0 s K := by
 unfold conCl at hc
 split at hc
 ·refine Qde clone_nil (fun i => i) [] (by simp [Qao]) (by simp [Qao]) (by simp [Qao]) (by simp [Qao]) (by simp) (by simp [tvL, TV.ids, SV.ids, LV.ids]) (by simp) (by simp) (fun _ _ _ h => by simpa [SV.ren, LV.ren] using h) ?_
  simpa [tvL, TV.ren, SV.ren, LV.ren, Qan.back, Qao, Qer, Qiw, Qhk, Qfe] using hc
 ·exact hc.elim
attribute [push_cast] conCl
theorem pkNum_fn (n : Nat) (hn : n < 18446744073709551616) :
    Qcs Cx.P 106 [.l .nils, .l (.dat (.slice (.int .u64)) [(n : Int)])] [] (tvL [.own 30]) [(30, .arr (.int .u8) (numB n))] := by
 refine Qcs.go2 (E := Cx.env) (fn := Try.f106) (res := [_]) _ (Qc2.refl _) Try.func106 Qrh rfl rfl (by simp [Qb1, SV.ids, LV.ids]) (by simp [Qao]) (by kernel_rfl) rfl ?_
 intro hf
 try push_cast at hf
 intro _
 simp only [mmD, Qcu, Qao, List.map_cons, List.map_nil, List.cons_append, List.nil_append]
 repeat' (first
 | (intro (K' : KT) hK'; push_cast; (repeat' refine And.intro ?_ ?_); all_goals (first | (apply hK'; clear hK' K') | (refine ⟨trivial, trivial, ?_⟩; apply hK'; clear hK' K') | (intro hb; (try push_cast at hb); all_goals (intros; apply hK'; clear hK' K')) | ((first | refine call_Cl ?_); push_cast; (repeat' refine And.intro ?_ ?_); all_goals (first | (apply hK'; clear hK' K') | (intros; apply hK'; clear hK' K') | (clear hK' K'; first | omega | skip))) | (clear hK' K'; first | omega | skip)))
 | apply Qar | apply Qa0 | apply Qac | apply Qah | apply Qaj | apply Qau
 | apply Qap | apply Qax | apply Qas | apply Qaq | apply Qa1 | apply Qal | apply Qae rfl | apply Qa6 | apply Qa7 | apply Qam | apply Qaz | apply Qay
 | (refine Qaf ?_; push_cast) | apply Qag | refine Qaa (Qa3 _ (by omega) (by omega)) ?_ | refine Qaa (Qb0 _ (by omega) (by omega)) ?_ | refine Qaa (Qba _ (by omega) (by omega)) ?_ | refine Qaa (Qa5 _ (by omega) (by omega)) ?_
 | refine Qai rfl rfl ?_ | refine Qat rfl rfl ?_
 | (refine Qak (by push_cast; first | done | rfl) ?_ ?_ <;> intro hc <;> (try push_cast at hc))
 | refine Qaw rfl rfl rfl (by push_cast; first | done | rfl) ?_
 | refine Qav rfl rfl rfl (by push_cast; first | done | rfl) ?_ ?_
 | (intro (hc : (_ : Prop)); (try push_cast at hc)) | intro (hc : Qad) | intro (hc : Int) | intro (hc : Nat))
 refine Qmi (.int .u8) 5 30 rfl (by push_cast) ?_
 push_cast
 refine Qbu [5, 7, 12, 13, 14, 15, 16, 17, 18, 19, 20, 21, 22, 23, 24, 25, 26, 27, 28, 29, 30, 31] [20, 22, 23, 28, 29, 30] (fun (i : Nat) => i ≤ 1) (fun (i : Nat) => [(12, .one (.l (.int .i64 i))), (5, .one (.l (.own 30)))]) (fun (i : Nat) => [(30, .arr (.int .u8) (outB n i))]) (fun (i : Nat) => 1 - i) 0 ?_ (by push_cast; first | done | rfl) (by push_cast; first | done | rfl) ?_ ?_
 ·omega
 ·push_cast
  first | done | rfl
 ·intro i hi
  push_cast
  intro hg
  repeat' (first
 | (intro (K' : KT) hK'; push_cast; (repeat' refine And.intro ?_ ?_); all_goals (first | (apply hK'; clear hK' K') | (refine ⟨trivial, trivial, ?_⟩; apply hK'; clear hK' K') | (intro hb; (try push_cast at hb); all_goals (intros; apply hK'; clear hK' K')) | (clear hK' K'; first | omega | skip)))
 | apply Qar | apply Qa0 | apply Qac | apply Qah | apply Qaj | apply Qau
 | apply Qap | apply Qax | apply Qas | apply Qaq | apply Qa1 | apply Qal | apply Qae rfl | apply Qa6 | apply Qa7 | apply Qam | apply Qaz | apply Qay
 | (refine Qaf ?_; push_cast) | apply Qag | refine Qaa (Qa3 _ (by omega) (by omega)) ?_ | refine Qaa (Qb0 _ (by omega) (by omega)) ?_ | refine Qaa (Qba _ (by omega) (by omega)) ?_ | refine Qaa (Qa5 _ (by omega) (by omega)) ?_
 | refine Qai rfl rfl ?_ | refine Qat rfl rfl ?_
 | (refine Qak (by push_cast; first | done | rfl) ?_ ?_ <;> intro hc <;> (try push_cast at hc))
 | refine Qaw rfl rfl rfl (by push_cast; first | done | rfl) ?_
 | refine Qav rfl rfl rfl (by push_cast; first | done | rfl) ?_ ?_
 | (intro (hc : (_ : Prop)); (try push_cast at hc)) | intro (hc : Qad) | intro (hc : Int) | intro (hc : Nat))
  ·have ei : i = 0 := by omega
   subst ei
   have e0 : outB n 0 = numT n 0 := rfl
   rw [e0]
   refine Qg1 30 23 rfl (by push_cast) (by decide) ?_
   push_cast
   refine Qbu [5, 7, 16, 17, 18, 19, 20, 21, 22, 23, 24, 25] [20, 22, 23] (fun (k : Nat) => k ≤ 9 ∧ ∀ j, j < k → ¬ n / 128 ^ j < 128) (fun (k : Nat) => [(7, .one (.l (.int .u64 (quoB n k)))), (5, .one (.l (.own 23)))]) (fun (k : Nat) => [(23, .arr (.int .u8) (numT n k))]) (fun (k : Nat) => n / 128 ^ k) 0 ?_ (by push_cast; first | done | rfl) (by push_cast; first | done | rfl) ?_ ?_
   ·exact ⟨by omega, fun j hj => by omega⟩
   ·push_cast
    first | done | rfl | (simp [quoB]; done)
   ·rintro k ⟨hk9, hk⟩
    push_cast
    intro hg2
    have hq : n / 128 ^ k < 18446744073709551616 := Nat.lt_of_le_of_lt (Nat.div_le_self _ _) hn
    have hqe : quoB n k = ((n / 128 ^ k : Nat) : Int) := rfl
    have hb : 0 ≤ quoB n k ∧ quoB n k ≤ 18446744073709551615 := by rw [hqe]; omega
    have hcut := numB_cut k n hk
    rw [← hqe] at hcut
    have hlen := numT_len n k
    have hor := byte_or (n / 128 ^ k)
    rw [← hqe] at hor
    have hnx : n / 128 ^ k / 128 = n / 128 ^ (k + 1) := by rw [Nat.div_div_eq_div_mul, Nat.pow_succ]
    have hsh := shr_seven (n / 128 ^ k)
    rw [hnx, ← hqe] at hsh
    have hsh : Qc8 .u64 (quoB n k) 7 = quoB n (k + 1) := hsh
    have htl : numT n (k + 1) = numT n k ++ [128 + quoB n k % 128] := rfl
    have h9 : n / 128 ^ 9 < 128 := by
     rw [Nat.div_lt_iff_lt_mul (by decide)]
     have : 128 * 128 ^ 9 = 2 ^ 70 := by decide
     omega
    repeat' (first
 | (intro (K' : KT) hK'; push_cast; (repeat' refine And.intro ?_ ?_); all_goals (first | (apply hK'; clear hK' K') | (refine ⟨trivial, trivial, ?_⟩; apply hK'; clear hK' K') | (intro hb; (try push_cast at hb); all_goals (intros; apply hK'; clear hK' K')) | (clear hK' K'; first | omega | skip)))
 | apply Qar | apply Qa0 | apply Qac | apply Qah | apply Qaj | apply Qau
 | apply Qap | apply Qax | apply Qas | apply Qaq | apply Qa1 | apply Qal | apply Qae rfl | apply Qa6 | apply Qa7 | apply Qam | apply Qaz | apply Qay
 | (refine Qaf ?_; push_cast) | apply Qag | refine Qaa (Qa3 _ (by omega) (by omega)) ?_ | refine Qaa (Qb0 _ (by omega) (by omega)) ?_ | refine Qaa (Qba _ (by omega) (by omega)) ?_ | refine Qaa (Qa5 _ (by omega) (by omega)) ?_
 | refine Qai rfl rfl ?_ | refine Qat rfl rfl ?_
 | (refine Qak (by push_cast; first | done | rfl) ?_ ?_ <;> intro hc <;> (try push_cast at hc))
 | refine Qaw rfl rfl rfl (by push_cast; first | done | rfl) ?_
 | refine Qav rfl rfl rfl (by push_cast; first | done | rfl) ?_ ?_
 | (intro (hc : (_ : Prop)); (try push_cast at hc)) | intro (hc : Qad) | intro (hc : Int) | intro (hc : Nat))
    ·have hge : ¬ n / 128 ^ k < 128 := by rw [hqe] at hc; omega
     have hk8 : k ≠ 9 := fun h => by rw [h] at hge; exact hge h9
     rw [hor, hsh]
     refine Qbv (k + 1) ⟨by omega, fun j hj => ?_⟩ ?_ ?_
     ·by_cases h : j < k
      ·exact hk j h
      ·have : j = k := by omega
       rw [this]; exact hge
     ·rw [← hnx]; omega
     ·push_cast
      rw [htl]
    ·have hlt : n / 128 ^ k < 128 := by rw [hqe] at hc; omega
     have hw8 : IntKind.u8.wrap (quoB n k) = quoB n k := Qb0 _ (by omega) (by rw [hqe]; omega)
     try rw [hw8]
     rw [← hcut hlt]
     refine Qbv 1 (by omega) (by omega) ?_
     push_cast
     first | done | rfl
  ·have ei : i = 1 := by omega
   subst ei
   have e1 : outB n 1 = numB n := rfl
   rw [e1]
   (refine Qc9.fin ⟨[(30, .arr (.int .u8) (numB n))], ?_, ?_, ?_, Qbb.refl _, ?_⟩
    ·push_cast
    ·push_cast
    ·simp [Qao]
    ·simp [tvL, TV.ids, SV.ids, LV.ids, Qb1])
end
end Go.Proofs.Ytnmjcdlgfimnaaa
namespace Go.Proofs.Ytnmjcdlgfimnaaa
theorem or_add {a b m : Nat} (ha : a < 2 ^ m) (hb : 2 ^ m * b + a < 2 ^ 64) : Qcz .or .u64 (a : Int) ((2 ^ m * b : Nat) : Int) = ((2 ^ m * b + a : Nat) : Int) := by
 have hv : ∀ x : Nat, x < 2 ^ 64 → (BitVec.ofInt 64 (x : Int)).toNat = x := fun x hx => by
  rw [BitVec.toNat_ofInt]
  omega
 have e : Qcz .or .u64 (a : Int) ((2 ^ m * b : Nat) : Int) = IntKind.u64.wrap (((BitVec.ofInt 64 (a : Int) ||| BitVec.ofInt 64 ((2 ^ m * b : Nat) : Int)).toNat : Nat) : Int) := rfl
 rw [e, BitVec.toNat_or, hv _ (by omega), hv _ (by omega), Nat.or_comm, ← Nat.two_pow_add_eq_or_of_lt ha]
 exact Qa5 _ (Int.natCast_nonneg _) (by omega)
theorem and_byte : ∀ m : Nat, m < 256 → Qcz .and .u8 (m : Int) 127 = (m : Int) % 128 := by decide +kernel
theorem p7 (i : Nat) : 128 ^ i = 2 ^ (7 * i) := by rw [Nat.pow_mul]
theorem numB_end {n : Nat} (h : n < 128 ^ 9) : ∃ K, K ≤ 8 ∧ (∀ j, j < K → ¬ n / 128 ^ j < 128) ∧ n / 128 ^ K < 128 := by
 have h8 : n / 128 ^ 8 < 128 := by rw [Nat.div_lt_iff_lt_mul (by decide)]; exact h
 have : ∀ k, k ≤ 8 → (∀ j, j < 8 - k → ¬ n / 128 ^ j < 128) → ∃ K, K ≤ 8 ∧ (∀ j, j < K → ¬ n / 128 ^ j < 128) ∧ n / 128 ^ K < 128 := by
  intro k
  induction k with
  | zero => intro _ hj; exact ⟨8, Nat.le_refl _, hj, h8⟩
  | succ k ih =>
   intro hk hj
   by_cases hq : n / 128 ^ (8 - (k + 1)) < 128
   ·exact ⟨_, by omega, hj, hq⟩
   ·refine ih (by omega) fun j hj2 => ?_
    by_cases h2 : j = 8 - (k + 1)
    ·rw [h2]; exact hq
    ·exact hj j (by omega)
 exact this 8 (Nat.le_refl _) (fun j hj => by omega)
theorem numT_get (n : Nat) : ∀ (k i : Nat), i < k → (numT n k).getD i 0 = 128 + quoB n i % 128
 | 0, _, h => by omega
 | k + 1, i, h => by
  by_cases hi : i < k
  ·show (numT n k ++ _).getD i 0 = _
   rw [List.getD_eq_getElem?_getD, List.getElem?_append_left (by rw [numT_len]; exact hi), ← List.getD_eq_getElem?_getD]
   exact numT_get n k i hi
  ·have e : i = k := by omega
   subst e
   show (numT n i ++ _).getD i 0 = _
   rw [List.getD_eq_getElem?_getD, List.getElem?_append_right (by rw [numT_len]; exact Nat.le_refl _), numT_len]
   simp [quoB]
def accB (n i : Nat) : Int := ((n % 128 ^ i : Nat) : Int)
theorem acc_step {n i : Nat} (hi : i ≤ 8) (hn : n < 128 ^ 9) : Qcz .or .u64 (accB n i) (Qjf .u64 (quoB n i % 128) (7 * i)) = accB n (i + 1) := by
 have e1 : Qjf .u64 (quoB n i % 128) (7 * (i : Int)) = ((2 ^ (7 * i) * (n / 128 ^ i % 128) : Nat) : Int) := by
  have hm : min (7 * (i : Int)).toNat IntKind.u64.bits = 7 * i := by
   have : IntKind.u64.bits = 64 := rfl
   omega
  have hle : 2 ^ (7 * i) * (n / 128 ^ i % 128) ≤ n := by
   rw [← p7]
   have h1 := Nat.mod_le (n / 128 ^ i) 128
   have h2 := Nat.mul_div_le n (128 ^ i)
   exact Nat.le_trans (Nat.mul_le_mul_left _ h1) h2
  have h9 : (128 : Nat) ^ 9 = 2 ^ 63 := by decide
  unfold Qjf
  rw [hm]
  have e2 : quoB n i % 128 * 2 ^ (7 * i) = ((2 ^ (7 * i) * (n / 128 ^ i % 128) : Nat) : Int) := by
   unfold quoB
   rw [Nat.mul_comm]
   push_cast
   rw [Int.mul_comm]
  rw [e2]
  exact Qa5 _ (Int.natCast_nonneg _) (by omega)
 rw [e1]
 have e3 : n % 128 ^ (i + 1) = 2 ^ (7 * i) * (n / 128 ^ i % 128) + n % 128 ^ i := by
  rw [Nat.pow_succ, Nat.mod_mul, ← p7]
  omega
 have h9 : (128 : Nat) ^ 9 = 2 ^ 63 := by decide
 have hlt := Nat.mod_le n (128 ^ (i + 1))
 unfold accB
 rw [or_add (by rw [← p7]; exact Nat.mod_lt _ (Nat.pow_pos (by decide))) (by omega), e3]
section
attribute [local irreducible] Qcz Qjf
set_option linter.unusedSimpArgs false
set_option linter.unusedVariables false
set_option maxRecDepth 20000
attribute [local irreducible] Qb3 Qa9 vcA Qbp Wc
set_option maxHeartbeats 8000000
theorem pkNew_fn (l : List Int) (h : l.length ≤ 1000000) :
    Qcs Cx.P 103 [.l (.dat (.slice (.int .u8)) l)] [] (tvL [.ptr 6 [] 0]) [(6, .segs [.dat (.slice (.int .u8)) l, .bool false])] := by
 refine Qcs.go2 (E := Cx.env) (fn := Try.f103) (res := [_]) _ (Qc2.refl _) Try.func103 Qrv rfl rfl (by simp [Qb1, SV.ids, LV.ids]) (by simp [Qao]) (by kernel_rfl) rfl ?_
 intro hf
 try push_cast at hf
 intro _
 simp only [mmD, Qcu, Qao, List.map_cons, List.map_nil, List.cons_append, List.nil_append]
 repeat' (first
 | (intro (K' : KT) hK'; push_cast; (repeat' refine And.intro ?_ ?_); all_goals (first | (apply hK'; clear hK' K') | (refine ⟨trivial, trivial, ?_⟩; apply hK'; clear hK' K') | (intro hb; (try push_cast at hb); all_goals (intros; apply hK'; clear hK' K')) | ((first | refine Qbg clone8_con (fun _ => rfl) ?_); push_cast; (repeat' refine And.intro ?_ ?_); all_goals (first | (apply hK'; clear hK' K') | (intros; apply hK'; clear hK' K') | (clear hK' K'; first | omega | skip))) | (clear hK' K'; first | omega | skip)))
 | apply Qar | apply Qac | apply Qah | apply Qaj | apply Qau
 | apply Qap | apply Qax | apply Qas | apply Qam | apply Qaz | apply Qay
 | (refine Qaf ?_; push_cast) | apply Qag | refine Qaa (Qa3 _ (by omega) (by omega)) ?_ | refine Qaa (Qb0 _ (by omega) (by omega)) ?_ | refine Qaa (Qba _ (by omega) (by omega)) ?_ | refine Qaa (Qa5 _ (by omega) (by omega)) ?_
 | refine Qai rfl rfl ?_ | refine Qat rfl rfl ?_
 | (refine Qak (by push_cast; first | done | rfl) ?_ ?_ <;> intro hc <;> (try push_cast at hc))
 | refine Qaw rfl rfl rfl (by push_cast; first | done | rfl) ?_
 | refine Qav rfl rfl rfl (by push_cast; first | done | rfl) ?_ ?_
 | (intro (hc : (_ : Prop)); (try push_cast at hc)) | intro (hc : Qad) | intro (hc : Int) | intro (hc : Nat))
 (refine Qc9.fin ⟨[(6, .segs [.dat (.slice (.int .u8)) l, .bool false])], ?_, ?_, ?_, Qbb.refl _, ?_⟩
  ·push_cast
  ·push_cast
  ·simp [Qao]
  ·simp [tvL, TV.ids, SV.ids, LV.ids, Qb1])
theorem rdLeft_fn (l : List Int) :
    Qcs Cx.P 105 [.l (.ptr 1 [] 0)] [(1, .segs [.dat (.slice (.int .u8)) l, .bool false])] (tvL [.int .i64 l.length]) [(1, .segs [.dat (.slice (.int .u8)) l, .bool false])] := by
 refine Qcs.go2 (E := Cx.env) (fn := Try.f105) (res := [_]) _ (Qc2.refl _) Try.func105 Qvr rfl rfl (by simp [Qb1, SV.ids, LV.ids]) (by simp [Qao]) (by kernel_rfl) rfl ?_
 intro hf
 try push_cast at hf
 intro _
 simp only [mmD, Qcu, Qao, List.map_cons, List.map_nil, List.cons_append, List.nil_append]
 repeat' (first
 | (intro (K' : KT) hK'; push_cast; (repeat' refine And.intro ?_ ?_); all_goals (first | (apply hK'; clear hK' K') | (refine ⟨trivial, trivial, ?_⟩; apply hK'; clear hK' K') | (intro hb; (try push_cast at hb); all_goals (intros; apply hK'; clear hK' K')) | (clear hK' K'; first | omega | skip)))
 | apply Qar | apply Qac | apply Qah | apply Qaj | apply Qau
 | apply Qap | apply Qax | apply Qas | apply Qam | apply Qaz | apply Qay
 | (refine Qaf ?_; push_cast) | apply Qag | refine Qaa (Qa3 _ (by omega) (by omega)) ?_ | refine Qaa (Qb0 _ (by omega) (by omega)) ?_ | refine Qaa (Qba _ (by omega) (by omega)) ?_ | refine Qaa (Qa5 _ (by omega) (by omega)) ?_
 | refine Qai rfl rfl ?_ | refine Qat rfl rfl ?_
 | (refine Qak (by push_cast; first | done | rfl) ?_ ?_ <;> intro hc <;> (try push_cast at hc))
 | refine Qaw rfl rfl rfl (by push_cast; first | done | rfl) ?_
 | refine Qav rfl rfl rfl (by push_cast; first | done | rfl) ?_ ?_
 | (intro (hc : (_ : Prop)); (try push_cast at hc)) | intro (hc : Qad) | intro (hc : Int) | intro (hc : Nat))
 (refine Qc9.fin ⟨[(1, .segs [.dat (.slice (.int .u8)) l, .bool false])], ?_, ?_, ?_, Qbb.refl _, ?_⟩
  ·push_cast
  ·push_cast
  ·simp [Qao]
  ·simp [tvL, TV.ids, SV.ids, LV.ids, Qb1])
theorem rdNum_fn (n : Nat) (rest : List Int) (hn : n < 128 ^ 9) :
    Qcs Cx.P 104 [.l (.ptr 1 [] 0)] [(1, .segs [.dat (.slice (.int .u8)) (numB n ++ rest), .bool false])] (tvL [.int .u64 n]) [(1, .segs [.dat (.slice (.int .u8)) rest, .bool false])] := by
 obtain ⟨K, hK, hlow, hlast⟩ := numB_end hn
 have hcut := numB_cut K n hlow hlast
 have hbl : (numB n ++ rest).length = K + 1 + rest.length := by rw [hcut]; simp [numT_len]; omega
 have hdrop : List.drop (K + 1) (numB n ++ rest) = rest := by
  rw [hcut, List.append_assoc]
  have e : K + 1 = (numT n K).length + 1 := by rw [numT_len]
  rw [e, List.drop_append]
  simp
 have hbyte : ∀ i, i ≤ K → (numB n ++ rest).getD i 0 = if i < K then 128 + quoB n i % 128 else quoB n K := fun i hi => by
  rw [hcut, List.append_assoc, List.getD_eq_getElem?_getD]
  by_cases h : i < K
  ·rw [if_pos h, List.getElem?_append_left (by rw [numT_len]; exact h), ← List.getD_eq_getElem?_getD]
   exact numT_get n K i h
  ·have e : i = K := by omega
   subst e
   rw [if_neg h, List.getElem?_append_right (by rw [numT_len]; exact Nat.le_refl _), numT_len]
   simp [quoB]
 generalize hbs : numB n ++ rest = bs at *
 refine Qcs.go2 (E := Cx.env) (fn := Try.f104) (res := [_]) _ (Qc2.refl _) Try.func104 Qva rfl rfl (by simp [Qb1, SV.ids, LV.ids]) (by simp [Qao]) (by kernel_rfl) rfl ?_
 intro hf
 try push_cast at hf
 intro _
 simp only [mmD, Qcu, Qao, List.map_cons, List.map_nil, List.cons_append, List.nil_append]
 repeat' (first
 | (intro (K' : KT) hK'; push_cast; (repeat' refine And.intro ?_ ?_); all_goals (first | (apply hK'; clear hK' K') | (refine ⟨trivial, trivial, ?_⟩; apply hK'; clear hK' K') | (intro hb; (try push_cast at hb); all_goals (intros; apply hK'; clear hK' K')) | (clear hK' K'; first | omega | skip)))
 | apply Qar | apply Qa0 | apply Qac | apply Qah | apply Qfn | apply Qhq | apply Qaj | apply Qau
 | apply Qap | apply Qax | apply Qas | apply Qla | apply Qho | apply Qhi | apply Qhm | apply Qhe | apply Qhj | apply Qhv | apply Qd0 | apply Qdz | apply Qd1 | apply Qmh | apply Qaq | apply Qa1 | apply Qal | apply Qae rfl | apply Qol | apply Qa6 | apply Qa7 | apply Qam | apply Qaz | apply Qay
 | (refine Qaf ?_; push_cast) | apply Qag | refine Qaa (Qa3 _ (by omega) (by omega)) ?_ | refine Qaa (Qb0 _ (by omega) (by omega)) ?_ | refine Qaa (Qba _ (by omega) (by omega)) ?_ | refine Qaa (Qa5 _ (by omega) (by omega)) ?_
 | refine Qai rfl rfl ?_ | refine Qat rfl rfl ?_
 | (refine Qak (by push_cast; first | done | rfl) ?_ ?_ <;> intro hc <;> (try push_cast at hc))
 | refine Qaw rfl rfl rfl (by push_cast; first | done | rfl) ?_
 | refine Qav rfl rfl rfl (by push_cast; first | done | rfl) ?_ ?_
 | (intro (hc : (_ : Prop)); (try push_cast at hc)) | intro (hc : Qad) | intro (hc : Int) | intro (hc : Nat))
 apply Qo9
 repeat' (first
 | (intro (K' : KT) hK'; push_cast; (repeat' refine And.intro ?_ ?_); all_goals (first | (apply hK'; clear hK' K') | (refine ⟨trivial, trivial, ?_⟩; apply hK'; clear hK' K') | (intro hb; (try push_cast at hb); all_goals (intros; apply hK'; clear hK' K')) | (clear hK' K'; first | omega | skip)))
 | apply Qar | apply Qa0 | apply Qac | apply Qah | apply Qfn | apply Qhq | apply Qaj | apply Qau
 | apply Qap | apply Qax | apply Qas | apply Qla | apply Qho | apply Qhi | apply Qhm | apply Qhe | apply Qhj | apply Qhv | apply Qd0 | apply Qdz | apply Qd1 | apply Qmh | apply Qaq | apply Qa1 | apply Qal | apply Qae rfl | apply Qol | apply Qa6 | apply Qa7 | apply Qam | apply Qaz | apply Qay
 | (refine Qaf ?_; push_cast) | apply Qag | refine Qaa (Qa3 _ (by omega) (by omega)) ?_ | refine Qaa (Qb0 _ (by omega) (by omega)) ?_ | refine Qaa (Qba _ (by omega) (by omega)) ?_ | refine Qaa (Qa5 _ (by omega) (by omega)) ?_
 | refine Qai rfl rfl ?_ | refine Qat rfl rfl ?_
 | (refine Qak (by push_cast; first | done | rfl) ?_ ?_ <;> intro hc <;> (try push_cast at hc))
 | refine Qaw rfl rfl rfl (by push_cast; first | done | rfl) ?_
 | refine Qav rfl rfl rfl (by push_cast; first | done | rfl) ?_ ?_
 | (intro (hc : (_ : Prop)); (try push_cast at hc)) | intro (hc : Qad) | intro (hc : Int) | intro (hc : Nat))
 refine Qbu [2, 3, 4, 5, 11, 12, 13, 14, 15, 16, 17, 18, 19, 20, 21, 22, 23, 24, 25, 26, 27, 28, 29, 30, 31, 32, 33, 34, 35, 36, 37, 38, 39, 40, 41, 42, 43, 44, 45, 46, 47, 48, 49, 50, 51] [33] (fun (i : Nat) => i ≤ K) (fun (i : Nat) => [(11, .one (.l (.int .i64 i))), (3, .one (.l (.int .u64 (accB n i))))]) (fun (i : Nat) => []) (fun (i : Nat) => K + 1 - i) 0 ?_ (by push_cast; first | done | rfl) (by push_cast; first | done | rfl) ?_ ?_
 ·omega
 ·push_cast
  first | done | exact ⟨rfl, by simp [accB, Nat.mod_one]⟩ | simp [accB, Nat.mod_one]
 ·intro i hi
  push_cast
  intro hg
  have hbi := hbyte i hi
  have hq0 : 0 ≤ quoB n i := Int.natCast_nonneg _
  have hqK : 0 ≤ quoB n K ∧ quoB n K < 128 := ⟨Int.natCast_nonneg _, by unfold quoB; omega⟩
  have hK0 : 0 < K → quoB n K ≠ 0 := fun h => by
   have h1 := hlow (K - 1) (by omega)
   have e : n / 128 ^ K = n / 128 ^ (K - 1) / 128 := by
    obtain ⟨k, rfl⟩ : ∃ k, K = k + 1 := ⟨K - 1, by omega⟩
    rw [Nat.div_div_eq_div_mul, Nat.pow_succ]
    rfl
   unfold quoB
   rw [e]
   generalize n / 128 ^ (K - 1) = q at *
   omega
  have hlt : (i : Int) < bs.length := by rw [hbl]; omega
  have hc0 : 0 ≤ bs.getD i 0 ∧ bs.getD i 0 ≤ 255 := by rw [hbi]; split <;> omega
  have hz : 0 < i → bs.getD i 0 ≠ 0 := fun h => by
   rw [hbi]
   split
   ·omega
   ·exact hK0 (by omega)
  have hend : bs.getD i 0 < 128 ↔ i = K := by
   rw [hbi]
   split <;> omega
  have hand : Qcz .and .u8 (bs.getD i 0) 127 = quoB n i % 128 := by
   obtain ⟨m, hm⟩ : ∃ m : Nat, bs.getD i 0 = m := ⟨(bs.getD i 0).toNat, by omega⟩
   rw [hm, and_byte m (by omega), ← hm, hbi]
   split
   ·omega
   ·have : i = K := by omega
    rw [this]
  have hacc := acc_step (n := n) (i := i) (by omega) hn
  have hab : 0 ≤ accB n (i + 1) := Int.natCast_nonneg _
  have haK : accB n (K + 1) = n := by
   unfold accB
   rw [Nat.mod_eq_of_lt]
   have := (Nat.div_lt_iff_lt_mul (Nat.pow_pos (by decide : 0 < 128))).1 hlast
   rw [Nat.pow_succ, Nat.mul_comm]
   exact this
  have hi9 : ¬ (i : Int) = 9 := by omega
  repeat' (first
 | (intro (K' : KT) hK'; push_cast; (repeat' refine And.intro ?_ ?_); all_goals (first | (apply hK'; clear hK' K') | (refine ⟨trivial, trivial, ?_⟩; apply hK'; clear hK' K') | (intro hb; (try push_cast at hb); all_goals (intros; apply hK'; clear hK' K')) | (clear hK' K'; first | omega | skip)))
 | apply Qar | apply Qa0 | apply Qac | apply Qah | apply Qfn | apply Qhq | apply Qaj | apply Qau
 | apply Qap | apply Qax | apply Qas | apply Qla | apply Qho | apply Qhi | apply Qhm | apply Qhe | apply Qhj | apply Qhv | apply Qd0 | apply Qdz | apply Qd1 | apply Qmh | apply Qaq | apply Qa1 | apply Qal | apply Qae rfl | apply Qol | apply Qa6 | apply Qa7 | apply Qam | apply Qaz | apply Qay
 | (refine Qaf ?_; push_cast) | apply Qag | refine Qaa (Qa3 _ (by omega) (by omega)) ?_ | refine Qaa (Qb0 _ (by omega) (by omega)) ?_ | refine Qaa (Qba _ (by omega) (by omega)) ?_ | refine Qaa (Qa5 _ (by omega) (by omega)) ?_
 | refine Qai rfl rfl ?_ | refine Qat rfl rfl ?_
 | (refine Qak (by push_cast; first | done | rfl) ?_ ?_ <;> intro hc <;> (try push_cast at hc))
 | refine Qaw rfl rfl rfl (by push_cast; first | done | rfl) ?_
 | refine Qav rfl rfl rfl (by push_cast; first | done | rfl) ?_ ?_
 | (intro (hc : (_ : Prop)); (try push_cast at hc)) | intro (hc : Qad) | intro (hc : Int) | intro (hc : Nat))
  all_goals (try (exfalso; omega))
  all_goals (try (exfalso; exact hz (by omega) ‹_›))
  ·have ei : i = K := hend.1 ‹_›
   have hd : List.drop ((K : Int) + 1).toNat (List.take bs.length bs) = rest := by
    have e : ((K : Int) + 1).toNat = K + 1 := by omega
    rw [List.take_length, e]; exact hdrop
   rw [hand, hacc, ei, haK, hd]
   (refine Qc9.fin ⟨[(1, .segs [.dat (.slice (.int .u8)) rest, .bool false])], ?_, ?_, ?_, Qbb.refl _, ?_⟩
    ·push_cast
    ·push_cast
    ·simp [Qao]
    ·simp [tvL, TV.ids, SV.ids, LV.ids, Qb1])
  ·have ei : i = K := hend.1 ‹_›
   have hd : List.drop ((K : Int) + 1).toNat (List.take bs.length bs) = rest := by
    have e : ((K : Int) + 1).toNat = K + 1 := by omega
    rw [List.take_length, e]; exact hdrop
   rw [hand, hacc, ei, haK, hd]
   (refine Qc9.fin ⟨[(1, .segs [.dat (.slice (.int .u8)) rest, .bool false])], ?_, ?_, ?_, Qbb.refl _, ?_⟩
    ·push_cast
    ·push_cast
    ·simp [Qao]
    ·simp [tvL, TV.ids, SV.ids, LV.ids, Qb1])
  ·rw [hand, hacc]
   refine Qbv (i + 1) (by have : ¬ i = K := fun h => absurd (hend.2 h) ‹_›
                          omega) (by omega) ?_
   push_cast
   first | done | rfl
end
end Go.Proofs.Ytnmjcdlgfimnaaa
namespace Go.Proofs.Ytnmjcdlgfimnaaa
structure JourS where
 L : LogS
 z : Int
 r : Bool
def jB (d l : Nat) (z : Int) (r : Bool) : Box := .segs [.ptr d [] 0, .int .i64 z, .ptr l [] 0, .bool r]
def jM (k : Nat) (J : JourS) : List (Nat × Box) := [(1, .obj DiskO J.L.D), (k, logB 1 J.L), (3, jB 1 k J.z J.r)]
theorem jM_ids (k : Nat) (J : JourS) : Qao (jM k J) = [1, k, 3] := rfl
theorem jM_clb (k : Nat) (J : JourS) : ∀ e ∈ jM k J, ∀ i ∈ e.2.ids, i ∈ Qao (jM k J) := by
 intro e he i hi
 simp only [jM, List.mem_cons, List.not_mem_nil, or_false] at he
 rcases he with rfl | rfl | rfl
 ·simp [Box.ids] at hi
 ·simp [logB, Box.ids, Qez, LV.ids] at hi
  subst hi
  simp [jM, Qao]
 ·simp [jB, Box.ids, Qez, LV.ids] at hi
  rcases hi with rfl | rfl <;> simp [jM, Qao]
structure ConJ (f : FuncId) {α : Type} (A : Rep α) (pre : JourS → α → Prop) (r : JourS → α → List LV) (u : JourS → α → JourS) : Prop where
 fn : Qcp Cx.P f
 z : ∀ J x, (u J x).z = J.z
 h : ∀ J x, pre J x → Qcs Cx.P f (.l (.ptr 3 [] 0) :: (A.argL x).map .l) (jM 2 J) (tvL (r J x)) (jM 2 (u J x))
def conJ {α : Type} (A : Rep α) (pre : JourS → α → Prop) (r : JourS → α → List LV) (u : JourS → α → JourS) (vs0 : List SV) (s : Qan) (K : KT) : Prop := match vs0 with
 | .l (.ptr id [] 0) :: rest => Qg7 (Qkl rest) s rest fun s' rest' => (match Qco s'.mem id with
  | some (.segs [.ptr d [] 0, .int .i64 z, .ptr l [] 0, .bool b]) => (match Qco s'.mem l with
   | some (.segs [.ptr d2 [] 0, .int .i64 a, .int .i64 e, .int .u64 st]) => (match Qco s'.mem d with
    | some (@Box.obj τ O' D) => d2 = d ∧ d ≠ l ∧ d ≠ id ∧ l ≠ id ∧ ∃ h : τ = Qab, HEq O' DiskO ∧ Qdh A rest' fun x => pre ⟨⟨cast h D, a, e, st⟩, z, b⟩ x ∧
        K (tvL (r ⟨⟨cast h D, a, e, st⟩, z, b⟩ x)) (s'.back [d, l, id] [] [(d, .obj DiskO (u ⟨⟨cast h D, a, e, st⟩, z, b⟩ x).L.D), (l, logB d (u ⟨⟨cast h D, a, e, st⟩, z, b⟩ x).L), (id, jB d l z (u ⟨⟨cast h D, a, e, st⟩, z, b⟩ x).r)])
    | _ => False)
   | _ => False)
  | _ => False)
 | _ => False
theorem j_inj {d l id k : Nat} (n1 : d ≠ l) (n2 : d ≠ id) (n3 : l ≠ id) (hk : k = 2 ∨ k = 4) : ∀ i ∈ [1, k, 3], ∀ j ∈ [1, k, 3], (if i = 1 then d else if i = 3 then id else l) = (if j = 1 then d else if j = 3 then id else l) → i = j := by
 rcases hk with rfl | rfl <;>
 ·simp only [List.mem_cons, List.not_mem_nil, or_false]
  rintro i (rfl | rfl | rfl) j (rfl | rfl | rfl) <;> simp [n1, n2, n3, Ne.symm n1, Ne.symm n2, Ne.symm n3]
theorem call_J {f : FuncId} {α : Type} {A : Rep α} {pre : JourS → α → Prop} {r : JourS → α → List LV} {u : JourS → α → JourS} (c : ConJ f A pre r u) (hr : ∀ J x, (r J x).all LV.isData = true) {vs0 : List SV} {s : Qan} {K : KT}
    (hc : conJ A pre r u vs0 s K) : Wc Cx.P f vs0 s K := by
 refine ⟨c.fn, ?_⟩
 intro R G γ a w vs hs hv
 unfold conJ at hc
 split at hc
 ·rename_i id rest
  obtain ⟨v0, vs0, rfl, hv0, hvr⟩ := hv
  obtain ⟨G1, s1, as1, hg1, hc, hs1, hv1⟩ := Qdc hc hs hvr
  split at hc
  ·rename_i d z l b hgj
   split at hc
   ·rename_i d2 la e st hgl
    split at hc
    ·rename_i τ O' D hgd
     obtain ⟨hd2, n1, n2, n3, eq, hO, hc⟩ := hc
     subst eq
     subst hd2
     have hO := eq_of_heq hO
     subst hO
     simp only [cast_eq] at hc
     obtain ⟨x, ⟨hpre, hK⟩, hx⟩ := Qcx A hc hv1
     have hsp := c.h ⟨⟨D, la, e, st⟩, z, b⟩ x hpre
     have hzz := c.z ⟨⟨D, la, e, st⟩, z, b⟩ x
     have hv0' : (SV.l (.ptr id [] 0)).rel G1 γ v0 := SV.rel_mono hg1 hv0
     have hw : Wc Cx.P f (.l (.ptr id [] 0) :: (A.argL x).map .l) s1 K := by
      refine Qde hsp (fun i => if i = 1 then d2 else if i = 3 then id else l) [] (by rw [jM_ids]; decide) (by rw [jM_ids]; exact j_inj n1 n2 n3 (.inl rfl)) (by rw [jM_ids]; exact j_inj n1 n2 n3 (.inl rfl)) ?_ (by simp) ?_ (jM_clb _ _) ?_ ?_ ?_
      ·rw [jM_ids, jM_ids]
       intro j hj hn
       exact absurd hj hn
      ·intro i hi
       rw [Qf9 (Qev (hr _ x))] at hi
       simp at hi
      ·intro e' he
       simp only [jM, List.mem_cons, List.not_mem_nil, or_false] at he
       rcases he with rfl | rfl | rfl
       ·exact hgd
       ·exact hgl
       ·exact hgj
      ·intro G γ us hu
       simp only [List.map_cons]
       rw [Qdf (A.argL_data x)]
       exact hu
      ·rw [Qjk (hr _ x)]
       have e9 : Qer (fun i => if i = 1 then d2 else if i = 3 then id else l) (jM 2 (u ⟨⟨D, la, e, st⟩, z, b⟩ x)) =
           [(d2, .obj DiskO (u ⟨⟨D, la, e, st⟩, z, b⟩ x).L.D), (l, logB d2 (u ⟨⟨D, la, e, st⟩, z, b⟩ x).L), (id, jB d2 l z (u ⟨⟨D, la, e, st⟩, z, b⟩ x).r)] := by
        simp [jM, Qer, Box.ren, LV.ren, logB, jB, hzz]
       rw [e9]
       exact hK
     refine (hw.2 R G1 γ _ w _ hs1 ⟨v0, vs0, rfl, hv0', hx⟩).mono ?_
     rintro e' w' ⟨v, rfl, G2, γ2, tv, s2, hg2, hK2, hrel, hs2⟩
     exact ⟨v, rfl, G2, γ2, tv, s2, Hp.le_trans hg1 hg2, hK2, hrel, hs2⟩
    ·exact hc.elim
   ·exact hc.elim
  ·exact hc.elim
 ·exact hc.elim
theorem j_inj2 {d l id nm : Nat} (n1 : d ≠ l) (n2 : d ≠ id) (n3 : l ≠ id) : ∀ i ∈ [1, 2, 3], ∀ j ∈ [1, 2, 3], (if i = 1 then d else if i = 3 then id else if i = 4 then nm else l) = (if j = 1 then d else if j = 3 then id else if j = 4 then nm else l) → i = j := by
 simp only [List.mem_cons, List.not_mem_nil, or_false]
 rintro i (rfl | rfl | rfl) j (rfl | rfl | rfl) <;> simp [n1, n2, n3, Ne.symm n1, Ne.symm n2, Ne.symm n3]
theorem j_inj4 {d l id nm : Nat} (n1 : d ≠ nm) (n2 : d ≠ id) (n3 : nm ≠ id) : ∀ i ∈ [1, 4, 3], ∀ j ∈ [1, 4, 3], (if i = 1 then d else if i = 3 then id else if i = 4 then nm else l) = (if j = 1 then d else if j = 3 then id else if j = 4 then nm else l) → i = j := by
 simp only [List.mem_cons, List.not_mem_nil, or_false]
 rintro i (rfl | rfl | rfl) j (rfl | rfl | rfl) <;> simp [n1, n2, n3, Ne.symm n1, Ne.symm n2, Ne.symm n3]
structure ConJN (f : FuncId) {α : Type} (A : Rep α) (pre : JourS → α → Prop) (r : JourS → α → List LV) (u : JourS → α → JourS) : Prop where
 fn : Qcp Cx.P f
 z : ∀ J x, (u J x).z = J.z
 h : ∀ J x, pre J x → Qcs Cx.P f (.l (.ptr 3 [] 0) :: (A.argL x).map .l) (jM 2 J) (tvL (r J x)) (jM 4 (u J x))
def conJN (nm : Nat) {α : Type} (A : Rep α) (pre : JourS → α → Prop) (r : JourS → α → List LV) (u : JourS → α → JourS) (vs0 : List SV) (s : Qan) (K : KT) : Prop := match vs0 with
 | .l (.ptr id [] 0) :: rest => Qg7 (Qkl rest) s rest fun s' rest' => (match Qco s'.mem id with
  | some (.segs [.ptr d [] 0, .int .i64 z, .ptr l [] 0, .bool b]) => (match Qco s'.mem l with
   | some (.segs [.ptr d2 [] 0, .int .i64 a, .int .i64 e, .int .u64 st]) => (match Qco s'.mem d with
    | some (@Box.obj τ O' D) => d2 = d ∧ d ≠ l ∧ d ≠ id ∧ l ≠ id ∧ d ≠ nm ∧ nm ≠ id ∧ s'.room nm ∧ ∃ h : τ = Qab, HEq O' DiskO ∧ Qdh A rest' fun x => pre ⟨⟨cast h D, a, e, st⟩, z, b⟩ x ∧
        K (tvL (r ⟨⟨cast h D, a, e, st⟩, z, b⟩ x)) (s'.back [d, l, id] [nm] [(d, .obj DiskO (u ⟨⟨cast h D, a, e, st⟩, z, b⟩ x).L.D), (nm, logB d (u ⟨⟨cast h D, a, e, st⟩, z, b⟩ x).L), (id, jB d nm z (u ⟨⟨cast h D, a, e, st⟩, z, b⟩ x).r)])
    | _ => False)
   | _ => False)
  | _ => False)
 | _ => False
theorem call_JN {f : FuncId} {α : Type} {A : Rep α} {pre : JourS → α → Prop} {r : JourS → α → List LV} {u : JourS → α → JourS} (c : ConJN f A pre r u) (nm : Nat) (hr : ∀ J x, (r J x).all LV.isData = true) {vs0 : List SV} {s : Qan} {K : KT}
    (hc : conJN nm A pre r u vs0 s K) : Wc Cx.P f vs0 s K := by
 refine ⟨c.fn, ?_⟩
 intro R G γ a w vs hs hv
 unfold conJN at hc
 split at hc
 ·rename_i id rest
  obtain ⟨v0, vs0, rfl, hv0, hvr⟩ := hv
  obtain ⟨G1, s1, as1, hg1, hc, hs1, hv1⟩ := Qdc hc hs hvr
  split at hc
  ·rename_i d z l b hgj
   split at hc
   ·rename_i d2 la e st hgl
    split at hc
    ·rename_i τ O' D hgd
     obtain ⟨hd2, n1, n2, n3, n4, n5, hroom, eq, hO, hc⟩ := hc
     subst eq
     subst hd2
     have hO := eq_of_heq hO
     subst hO
     simp only [cast_eq] at hc
     obtain ⟨x, ⟨hpre, hK⟩, hx⟩ := Qcx A hc hv1
     have hsp := c.h ⟨⟨D, la, e, st⟩, z, b⟩ x hpre
     have hzz := c.z ⟨⟨D, la, e, st⟩, z, b⟩ x
     have hv0' : (SV.l (.ptr id [] 0)).rel G1 γ v0 := SV.rel_mono hg1 hv0
     have hw : Wc Cx.P f (.l (.ptr id [] 0) :: (A.argL x).map .l) s1 K := by
      refine Qde hsp (fun i => if i = 1 then d2 else if i = 3 then id else if i = 4 then nm else l) [nm] (by rw [jM_ids]; decide) (by rw [jM_ids]; exact j_inj2 n1 n2 n3) (by rw [jM_ids]; exact j_inj4 n4 n2 n5) ?_ ?_ ?_ (jM_clb _ _) ?_ ?_ ?_
      ·rw [jM_ids, jM_ids]
       intro j hj hn
       simp only [List.mem_cons, List.not_mem_nil, or_false, not_or] at hj hn
       rcases hj with rfl | rfl | rfl
       ·exact absurd rfl hn.1
       ·simp
       ·exact absurd rfl hn.2.2
      ·intro i hi
       simp only [List.mem_cons, List.not_mem_nil, or_false] at hi
       subst hi
       have : s1.pins.contains i = false := hroom
       simpa using this
      ·intro i hi
       rw [Qf9 (Qev (hr _ x))] at hi
       simp at hi
      ·intro e' he
       simp only [jM, List.mem_cons, List.not_mem_nil, or_false] at he
       rcases he with rfl | rfl | rfl
       ·exact hgd
       ·exact hgl
       ·exact hgj
      ·intro G γ us hu
       simp only [List.map_cons]
       rw [Qdf (A.argL_data x)]
       exact hu
      ·rw [Qjk (hr _ x)]
       have e9 : Qer (fun i => if i = 1 then d2 else if i = 3 then id else if i = 4 then nm else l) (jM 4 (u ⟨⟨D, la, e, st⟩, z, b⟩ x)) =
           [(d2, .obj DiskO (u ⟨⟨D, la, e, st⟩, z, b⟩ x).L.D), (nm, logB d2 (u ⟨⟨D, la, e, st⟩, z, b⟩ x).L), (id, jB d2 nm z (u ⟨⟨D, la, e, st⟩, z, b⟩ x).r)] := by
        simp [jM, Qer, Box.ren, LV.ren, logB, jB, hzz]
       rw [e9]
       exact hK
     refine (hw.2 R G1 γ _ w _ hs1 ⟨v0, vs0, rfl, hv0', hx⟩).mono ?_
     rintro e' w' ⟨v, rfl, G2, γ2, tv, s2, hg2, hK2, hrel, hs2⟩
     exact ⟨v, rfl, G2, γ2, tv, s2, Hp.le_trans hg1 hg2, hK2, hrel, hs2⟩
    ·exact hc.elim
   ·exact hc.elim
  ·exact hc.elim
 ·exact hc.elim
attribute [push_cast] conJ conJN jB
section
set_option linter.unusedSimpArgs false
set_option linter.unusedVariables false
set_option maxRecDepth 20000
attribute [local irreducible] Qb3 Qa9 vcA Qbp Wc
set_option maxHeartbeats 8000000
def jMem (L : LogS) (z : Int) (r : Bool) : List (Nat × Box) := [(1, .obj DiskO L.D), (2, .segs [.ptr 1 [] 0, .int .i64 L.a, .int .i64 L.e, .int .u64 L.st]), (3, .segs [.ptr 1 [] 0, .int .i64 z, .ptr 2 [] 0, .bool r])]
theorem jReady_fn (J : JourS) : Qcs Cx.P 72 [.l (.ptr 3 [] 0)] (jMem J.L J.z J.r) (tvL [.bool J.r]) (jMem J.L J.z J.r) := by
 unfold jMem
 refine Qcs.go2 (E := Cx.env) (fn := Try.f72) (res := [_]) _ (Qc2.refl _) Try.func72 Quf rfl rfl (by simp [Qb1, SV.ids, LV.ids]) (by simp [Qao]) (by kernel_rfl) rfl ?_
 intro hf
 try push_cast at hf
 intro _
 simp only [mmD, Qcu, Qao, List.map_cons, List.map_nil, List.cons_append, List.nil_append]
 repeat' (first
 | (intro (K' : KT) hK'; push_cast; (repeat' refine And.intro ?_ ?_); all_goals (first | (apply hK'; clear hK' K') | (refine ⟨trivial, trivial, ?_⟩; apply hK'; clear hK' K') | (intro hb; (try push_cast at hb); all_goals (intros; apply hK'; clear hK' K')) | (clear hK' K'; first | omega | skip)))
 | apply Qar | apply Qac | apply Qah | apply Qaj | apply Qau
 | apply Qap | apply Qax | apply Qas | apply Qam | apply Qaz | apply Qay
 | (refine Qaf ?_; push_cast) | apply Qag | refine Qaa (Qa3 _ (by omega) (by omega)) ?_ | refine Qaa (Qb0 _ (by omega) (by omega)) ?_ | refine Qaa (Qba _ (by omega) (by omega)) ?_ | refine Qaa (Qa5 _ (by omega) (by omega)) ?_
 | refine Qai rfl rfl ?_ | refine Qat rfl rfl ?_
 | (refine Qak (by push_cast; first | done | rfl) ?_ ?_ <;> intro hc <;> (try push_cast at hc))
 | refine Qaw rfl rfl rfl (by push_cast; first | done | rfl) ?_
 | refine Qav rfl rfl rfl (by push_cast; first | done | rfl) ?_ ?_
 | (intro (hc : (_ : Prop)); (try push_cast at hc)) | intro (hc : Qad) | intro (hc : Int) | intro (hc : Nat))
 (refine Qc9.fin ⟨[(1, .obj DiskO J.L.D), (2, .segs [.ptr 1 [] 0, .int .i64 J.L.a, .int .i64 J.L.e, .int .u64 J.L.st]), (3, .segs [.ptr 1 [] 0, .int .i64 J.z, .ptr 2 [] 0, .bool J.r])], ?_, ?_, ?_, Qbb.refl _, ?_⟩
  ·push_cast
  ·push_cast
  ·simp [Qao]
  ·simp [tvL, TV.ids, SV.ids, LV.ids, Qb1])
theorem jReady_con : ConJ 72 .unit (fun _ _ => True) (fun J _ => [.bool J.r]) (fun J _ => J) := ⟨Quf, fun _ _ => rfl, fun J _ _ => jReady_fn J⟩
end
end Go.Proofs.Ytnmjcdlgfimnaaa
namespace Go.Proofs.Ytnmjcdlgfimnaaa
def jrightB (D : Qab) (z : Int) : Bool := decide (1 ≤ z) && decide (z ≤ 255) && decide (2 * z < (D.Base.length : Int))
theorem jrightB_iff {D : Qab} {z : Int} : jrightB D z = true ↔ 1 ≤ z ∧ z ≤ 255 ∧ 2 * z < D.Base.length := by
 simp only [jrightB, Bool.and_eq_true, decide_eq_true_eq, and_assoc]
def jApp (J : JourS) (r : List Int) : JourS × Int :=
 if J.r = true then (⟨(appN J.L r).1, J.z, decide ((appN J.L r).2 ≠ 82)⟩, (appN J.L r).2) else (J, 121)
def jRoom (J : JourS) : Int := if J.r = true then J.L.e - J.L.a else 0
section
set_option linter.unusedSimpArgs false
set_option linter.unusedVariables false
set_option maxRecDepth 20000
attribute [local irreducible] Qb3 Qa9 vcA Qbp Wc
set_option maxHeartbeats 8000000
theorem jRight_fn (D : Qab) (z : Int) :
    Qcs Cx.P 101 [.l (.ptr 1 [] 0), .l (.int .i64 z)] [(1, .obj DiskO D)] (tvL [.bool (jrightB D z)]) [(1, .obj DiskO D)] := by
 refine Spec_disk Qo4 fun hw hG => ?_
 have hbase := hw.many
 have h1 : 1 ≤ z → z ≤ 255 → jrightB D z = decide (2 * z < (D.Base.length : Int)) := fun a b => by simp [jrightB, a, b]
 have h2 : ¬ (1 ≤ z ∧ z ≤ 255 ∧ 2 * z < (D.Base.length : Int)) → jrightB D z = false := fun h => by
  cases hr : jrightB D z
  ·rfl
  ·exact absurd (jrightB_iff.1 hr) h
 refine Qcs.go2 (E := Cx.env) (fn := Try.f101) (res := [_]) _ (Qc2.refl _) Try.func101 Qo4 rfl rfl (by simp [Qb1, SV.ids, LV.ids]) (by simp [Qao]) (by kernel_rfl) rfl ?_
 intro hf
 try push_cast at hf
 intro _
 repeat' (first
 | (intro (K' : KT) hK'; push_cast; (repeat' refine And.intro ?_ ?_); all_goals (first | (apply hK'; clear hK' K') | (refine ⟨trivial, trivial, ?_⟩; apply hK'; clear hK' K') | (intro hb; (try push_cast at hb); all_goals (intros; apply hK'; clear hK' K')) | ((first | refine Qbr Size_con (fun _ _ => rfl) ?_); push_cast; (repeat' refine And.intro ?_ ?_); all_goals (first | (apply hK'; clear hK' K') | (intros; apply hK'; clear hK' K') | (clear hK' K'; first | omega | skip))) | (clear hK' K'; first | omega | skip)))
 | apply Qar | apply Qac | apply Qah | apply Qaj | apply Qau
 | apply Qap | apply Qax | apply Qas | apply Qam | apply Qaz | apply Qay
 | (refine Qaf ?_; push_cast) | apply Qag | refine Qaa (Qa3 _ (by omega) (by omega)) ?_ | refine Qaa (Qb0 _ (by omega) (by omega)) ?_ | refine Qaa (Qba _ (by omega) (by omega)) ?_ | refine Qaa (Qa5 _ (by omega) (by omega)) ?_
 | refine Qai rfl rfl ?_ | refine Qat rfl rfl ?_
 | (refine Qak (by push_cast; first | done | rfl) ?_ ?_ <;> intro hc <;> (try push_cast at hc))
 | refine Qaw rfl rfl rfl (by push_cast; first | done | rfl) ?_
 | refine Qav rfl rfl rfl (by push_cast; first | done | rfl) ?_ ?_
 | (intro (hc : (_ : Prop)); (try push_cast at hc)) | intro (hc : Qad) | intro (hc : Int) | intro (hc : Nat))
 ·rw [h1 ‹_› ‹_›]
  (refine Qc9.fin ⟨[(1, .obj DiskO D)], ?_, ?_, ?_, Qbb.refl _, ?_⟩
   ·push_cast
   ·push_cast
   ·simp [Qao]
   ·simp [tvL, TV.ids, SV.ids, LV.ids, Qb1])
 ·rw [h2 (by omega)]
  (refine Qc9.fin ⟨[(1, .obj DiskO D)], ?_, ?_, ?_, Qbb.refl _, ?_⟩
   ·push_cast
   ·push_cast
   ·simp [Qao]
   ·simp [tvL, TV.ids, SV.ids, LV.ids, Qb1])
 ·rw [h2 (by omega)]
  (refine Qc9.fin ⟨[(1, .obj DiskO D)], ?_, ?_, ?_, Qbb.refl _, ?_⟩
   ·push_cast
   ·push_cast
   ·simp [Qao]
   ·simp [tvL, TV.ids, SV.ids, LV.ids, Qb1])
theorem jRight_con : Qkc Cx.P 101 DiskO (.pair (.int .i64) .unit) (fun _ _ => True) (fun D x => [.bool (jrightB D x.1)]) (fun D _ => D) := ⟨Qo4, fun D x _ => jRight_fn D x.1⟩
theorem jTold_fn (J : JourS) (e : Int) : Qcs Cx.P 107 [.l (.ptr 3 [] 0), .l (.int .i64 e)] (jMem J.L J.z J.r) (tvL [.int .i64 e]) (jMem J.L J.z (if e = 82 then false else J.r)) := by
 unfold jMem
 refine Qcs.go2 (E := Cx.env) (fn := Try.f107) (res := [_]) _ (Qc2.refl _) Try.func107 Qre rfl rfl (by simp [Qb1, SV.ids, LV.ids]) (by simp [Qao]) (by kernel_rfl) rfl ?_
 intro hf
 try push_cast at hf
 intro _
 simp only [mmD, Qcu, Qao, List.map_cons, List.map_nil, List.cons_append, List.nil_append]
 repeat' (first
 | (intro (K' : KT) hK'; push_cast; (repeat' refine And.intro ?_ ?_); all_goals (first | (apply hK'; clear hK' K') | (refine ⟨trivial, trivial, ?_⟩; apply hK'; clear hK' K') | (intro hb; (try push_cast at hb); all_goals (intros; apply hK'; clear hK' K')) | (clear hK' K'; first | omega | skip)))
 | apply Qar | apply Qac | apply Qah | apply Qaj | apply Qau
 | apply Qap | apply Qax | apply Qas | apply Qam | apply Qaz | apply Qay
 | (refine Qaf ?_; push_cast) | apply Qag | refine Qaa (Qa3 _ (by omega) (by omega)) ?_ | refine Qaa (Qb0 _ (by omega) (by omega)) ?_ | refine Qaa (Qba _ (by omega) (by omega)) ?_ | refine Qaa (Qa5 _ (by omega) (by omega)) ?_
 | refine Qai rfl rfl ?_ | refine Qat rfl rfl ?_
 | (refine Qak (by push_cast; first | done | rfl) ?_ ?_ <;> intro hc <;> (try push_cast at hc))
 | refine Qaw rfl rfl rfl (by push_cast; first | done | rfl) ?_
 | refine Qav rfl rfl rfl (by push_cast; first | done | rfl) ?_ ?_
 | (intro (hc : (_ : Prop)); (try push_cast at hc)) | intro (hc : Qad) | intro (hc : Int) | intro (hc : Nat))
 ·rw [if_pos ‹_›]
  (refine Qc9.fin ⟨[(1, .obj DiskO J.L.D), (2, .segs [.ptr 1 [] 0, .int .i64 J.L.a, .int .i64 J.L.e, .int .u64 J.L.st]), (3, .segs [.ptr 1 [] 0, .int .i64 J.z, .ptr 2 [] 0, .bool false])], ?_, ?_, ?_, Qbb.refl _, ?_⟩
   ·push_cast
   ·push_cast
   ·simp [Qao]
   ·simp [tvL, TV.ids, SV.ids, LV.ids, Qb1])
 ·rw [if_neg ‹_›]
  (refine Qc9.fin ⟨[(1, .obj DiskO J.L.D), (2, .segs [.ptr 1 [] 0, .int .i64 J.L.a, .int .i64 J.L.e, .int .u64 J.L.st]), (3, .segs [.ptr 1 [] 0, .int .i64 J.z, .ptr 2 [] 0, .bool J.r])], ?_, ?_, ?_, Qbb.refl _, ?_⟩
   ·push_cast
   ·push_cast
   ·simp [Qao]
   ·simp [tvL, TV.ids, SV.ids, LV.ids, Qb1])
theorem jTold_con : ConJ 107 (.pair (.int .i64) .unit) (fun _ _ => True) (fun _ x => [.int .i64 x.1]) (fun J x => ⟨J.L, J.z, if x.1 = 82 then false else J.r⟩) := ⟨Qre, fun _ _ => rfl, fun J x _ => jTold_fn J x.1⟩
theorem jRoom_fn (J : JourS) (h : 0 ≤ J.L.a ∧ 0 ≤ J.L.e) : Qcs Cx.P 71 [.l (.ptr 3 [] 0)] (jMem J.L J.z J.r) (tvL [.int .i64 (jRoom J)]) (jMem J.L J.z J.r) := by
 unfold jMem
 refine Qcs.go2 (E := Cx.env) (fn := Try.f71) (res := [_]) _ (Qc2.refl _) Try.func71 Qtn rfl rfl (by simp [Qb1, SV.ids, LV.ids]) (by simp [Qao]) (by kernel_rfl) rfl ?_
 intro hf
 try push_cast at hf
 intro _
 simp only [mmD, Qcu, Qao, List.map_cons, List.map_nil, List.cons_append, List.nil_append]
 repeat' (first
 | (intro (K' : KT) hK'; push_cast; (repeat' refine And.intro ?_ ?_); all_goals (first | (apply hK'; clear hK' K') | (refine ⟨trivial, trivial, ?_⟩; apply hK'; clear hK' K') | (intro hb; (try push_cast at hb); all_goals (intros; apply hK'; clear hK' K')) | ((first | refine call_L logRoom_con (fun _ _ => rfl) ?_); push_cast; (repeat' refine And.intro ?_ ?_); all_goals (first | (apply hK'; clear hK' K') | (intros; apply hK'; clear hK' K') | (clear hK' K'; first | omega | skip))) | (clear hK' K'; first | omega | skip)))
 | apply Qar | apply Qac | apply Qah | apply Qaj | apply Qau
 | apply Qap | apply Qax | apply Qas | apply Qam | apply Qaz | apply Qay
 | (refine Qaf ?_; push_cast) | apply Qag | refine Qaa (Qa3 _ (by omega) (by omega)) ?_ | refine Qaa (Qb0 _ (by omega) (by omega)) ?_ | refine Qaa (Qba _ (by omega) (by omega)) ?_ | refine Qaa (Qa5 _ (by omega) (by omega)) ?_
 | refine Qai rfl rfl ?_ | refine Qat rfl rfl ?_
 | (refine Qak (by push_cast; first | done | rfl) ?_ ?_ <;> intro hc <;> (try push_cast at hc))
 | refine Qaw rfl rfl rfl (by push_cast; first | done | rfl) ?_
 | refine Qav rfl rfl rfl (by push_cast; first | done | rfl) ?_ ?_
 | (intro (hc : (_ : Prop)); (try push_cast at hc)) | intro (hc : Qad) | intro (hc : Int) | intro (hc : Nat))
 ·have e : jRoom J = 0 := by unfold jRoom; rw [if_neg (by simpa using hc)]
  rw [e]
  (refine Qc9.fin ⟨[(1, .obj DiskO J.L.D), (2, .segs [.ptr 1 [] 0, .int .i64 J.L.a, .int .i64 J.L.e, .int .u64 J.L.st]), (3, .segs [.ptr 1 [] 0, .int .i64 J.z, .ptr 2 [] 0, .bool J.r])], ?_, ?_, ?_, Qbb.refl _, ?_⟩
   ·push_cast
   ·push_cast
   ·simp [Qao]
   ·simp [tvL, TV.ids, SV.ids, LV.ids, Qb1])
 ·have e : jRoom J = J.L.e - J.L.a := by unfold jRoom; rw [if_pos (by simpa using hc)]
  rw [e]
  (refine Qc9.fin ⟨[(1, .obj DiskO J.L.D), (2, .segs [.ptr 1 [] 0, .int .i64 J.L.a, .int .i64 J.L.e, .int .u64 J.L.st]), (3, .segs [.ptr 1 [] 0, .int .i64 J.z, .ptr 2 [] 0, .bool J.r])], ?_, ?_, ?_, Qbb.refl _, ?_⟩
   ·push_cast
   ·push_cast
   ·simp [Qao]
   ·simp [tvL, TV.ids, SV.ids, LV.ids, Qb1])
theorem jRoom_con : ConJ 71 .unit (fun J _ => 0 ≤ J.L.a ∧ 0 ≤ J.L.e) (fun J _ => [.int .i64 (jRoom J)]) (fun J _ => J) := ⟨Qtn, fun _ _ => rfl, fun J _ h => jRoom_fn J h⟩
theorem jApp_fn (J : JourS) (r : List Int) (h : 0 ≤ J.L.a ∧ J.L.a ≤ J.L.e ∧ J.L.e ≤ 4096) (hb : J.L.D.Base.length ≤ 4096) (hq : J.L.D.Queue.length ≤ 900000) (hr : r.length ≤ 900000) :
    Qcs Cx.P 70 [.l (.ptr 3 [] 0), .l (.dat (.slice (.int .u8)) r)] (jMem J.L J.z J.r) (tvL [.int .i64 (jApp J r).2]) (jMem (jApp J r).1.L J.z (jApp J r).1.r) := by
 obtain ⟨⟨D, a, e0, st⟩, z, r0⟩ := J
 simp only at h hb hq
 unfold jMem
 refine Qcs.go2 (E := Cx.env) (fn := Try.f70) (res := [_]) _ (Qc2.refl _) Try.func70 Qts rfl rfl (by simp [Qb1, SV.ids, LV.ids]) (by simp [Qao]) (by kernel_rfl) rfl ?_
 intro hf
 try push_cast at hf
 intro _
 simp only [mmD, Qcu, Qao, List.map_cons, List.map_nil, List.cons_append, List.nil_append]
 repeat' (first
 | (intro (K' : KT) hK'; push_cast; (repeat' refine And.intro ?_ ?_); all_goals (first | (apply hK'; clear hK' K') | (refine ⟨trivial, trivial, ?_⟩; apply hK'; clear hK' K') | (intro hb; (try push_cast at hb); all_goals (intros; apply hK'; clear hK' K')) | ((first | refine call_L logAppend_con (fun _ _ => rfl) ?_ | refine call_J jTold_con (fun _ _ => rfl) ?_); push_cast; (repeat' refine And.intro ?_ ?_); all_goals (first | (apply hK'; clear hK' K') | (intros; apply hK'; clear hK' K') | (clear hK' K'; first | omega | skip))) | (clear hK' K'; first | omega | skip)))
 | apply Qar | apply Qac | apply Qah | apply Qaj | apply Qau
 | apply Qap | apply Qax | apply Qas | apply Qam | apply Qaz | apply Qay
 | (refine Qaf ?_; push_cast) | apply Qag | refine Qaa (Qa3 _ (by omega) (by omega)) ?_ | refine Qaa (Qb0 _ (by omega) (by omega)) ?_ | refine Qaa (Qba _ (by omega) (by omega)) ?_ | refine Qaa (Qa5 _ (by omega) (by omega)) ?_
 | refine Qai rfl rfl ?_ | refine Qat rfl rfl ?_
 | (refine Qak (by push_cast; first | done | rfl) ?_ ?_ <;> intro hc <;> (try push_cast at hc))
 | refine Qaw rfl rfl rfl (by push_cast; first | done | rfl) ?_
 | refine Qav rfl rfl rfl (by push_cast; first | done | rfl) ?_ ?_
 | (intro (hc : (_ : Prop)); (try push_cast at hc)) | intro (hc : Qad) | intro (hc : Int) | intro (hc : Nat))
 ·have e : jApp ⟨⟨D, a, e0, st⟩, z, r0⟩ r = (⟨⟨D, a, e0, st⟩, z, r0⟩, 121) := by unfold jApp; rw [if_neg (by simpa using hc)]
  rw [e]
  (refine Qc9.fin ⟨[(1, .obj DiskO D), (2, .segs [.ptr 1 [] 0, .int .i64 a, .int .i64 e0, .int .u64 st]), (3, .segs [.ptr 1 [] 0, .int .i64 z, .ptr 2 [] 0, .bool r0])], ?_, ?_, ?_, Qbb.refl _, ?_⟩
   ·push_cast
   ·push_cast
   ·simp [Qao]
   ·simp [tvL, TV.ids, SV.ids, LV.ids, Qb1])
 ·have hr1 : r0 = true := by simpa using hc
  have e : jApp ⟨⟨D, a, e0, st⟩, z, r0⟩ r = (⟨(appN ⟨D, a, e0, st⟩ r).1, z, decide ((appN ⟨D, a, e0, st⟩ r).2 ≠ 82)⟩, (appN ⟨D, a, e0, st⟩ r).2) := by unfold jApp; rw [if_pos hr1]
  have eb : (if (appN ⟨D, a, e0, st⟩ r).2 = 82 then false else r0) = decide ((appN ⟨D, a, e0, st⟩ r).2 ≠ 82) := by
   rw [hr1]
   by_cases h8 : (appN ⟨D, a, e0, st⟩ r).2 = 82 <;> simp [h8]
  rw [e]
  simp only [eb]
  generalize appN ⟨D, a, e0, st⟩ r = X
  (refine Qc9.fin ⟨[(1, .obj DiskO X.1.D), (2, .segs [.ptr 1 [] 0, .int .i64 X.1.a, .int .i64 X.1.e, .int .u64 X.1.st]), (3, .segs [.ptr 1 [] 0, .int .i64 z, .ptr 2 [] 0, .bool (decide (X.2 ≠ 82))])], ?_, ?_, ?_, Qbb.refl _, ?_⟩
   ·push_cast
   ·push_cast
   ·simp [Qao]
   ·simp [tvL, TV.ids, SV.ids, LV.ids, Qb1])
theorem jApp_con : ConJ 70 (.pair (.slice (.int .u8)) .unit) (fun J x => (0 ≤ J.L.a ∧ J.L.a ≤ J.L.e ∧ J.L.e ≤ 4096) ∧ J.L.D.Base.length ≤ 4096 ∧ J.L.D.Queue.length ≤ 900000 ∧ x.1.length ≤ 900000)
    (fun J x => [.int .i64 (jApp J x.1).2]) (fun J x => (jApp J x.1).1) := ⟨Qts, fun J x => by unfold jApp; split <;> rfl, fun J x h => by
     have h9 := jApp_fn J x.1 h.1 h.2.1 h.2.2.1 h.2.2.2
     have hz : (jApp J x.1).1.z = J.z := by unfold jApp; split <;> rfl
     unfold jMem at h9
     unfold jM
     rw [hz]
     exact h9⟩
end
end Go.Proofs.Ytnmjcdlgfimnaaa
namespace Go.Proofs.Ytnmjcdlgfimnaaa
theorem Spec_disk3 {f : FuncId} {args : List SV} {D : Qab} {rest : List (Nat × Box)} {tv : TV} {mem' : List (Nat × Box)} (hi : Qcp Cx.P f) (h : DWf D → (∀ k, SecOk (dGet D k).1) → Qcs Cx.P f args ((1, .obj DiskO D) :: rest) tv mem') : Qcs Cx.P f args ((1, .obj DiskO D) :: rest) tv mem' := by
 refine ⟨hi, fun R G γ w vs hpin hm hv => ?_⟩
 obtain ⟨fr, _, _, hat, _⟩ := id hm
 obtain ⟨h1, h2⟩ := disk_facts (hat (1, .obj DiskO D) (by simp))
 exact (h h1 h2).2 R G γ w vs hpin hm hv
section
set_option linter.unusedSimpArgs false
set_option linter.unusedVariables false
set_option maxRecDepth 20000
attribute [local irreducible] Qb3 Qa9 vcA Qbp Wc
set_option maxHeartbeats 8000000
attribute [local push_cast] openL
theorem jOpen_fn (L : LogS) (z : Int) (r : Bool) (fl : Int) (h : 1 ≤ z ∧ z ≤ 255 ∧ 2 * z < L.D.Base.length) :
    Qcs Cx.P 102 [.l (.ptr 3 [] 0), .l (.int .u64 fl)] (jMem L z r) (tvL [.dat (.slice (.slice (.int .u8))) (recsN L.D (2 * z) L.D.Base.length fl).1, .int .i64 0]) (jM 4 ⟨openL L.D (2 * z) L.D.Base.length fl, z, r⟩) := by
 obtain ⟨D, a, e0, st⟩ := L
 simp only at h
 unfold jMem openL
 refine Spec_disk3 Qj0 fun hw hG => ?_
 have hbase := hw.many
 have hw2 : IntKind.i64.wrap (2 * z) = 2 * z := Qa3 _ (by omega) (by omega)
 refine Qcs.go2 (E := Cx.env) (fn := Try.f102) (res := [_, _]) _ (Qc2.refl _) Try.func102 Qj0 rfl rfl (by simp [Qb1, SV.ids, LV.ids]) (by simp [Qao]) (by kernel_rfl) rfl ?_
 intro hf
 try push_cast at hf
 intro _
 simp only [mmD, Qcu, Qao, List.map_cons, List.map_nil, List.cons_append, List.nil_append]
 repeat' (first
 | (intro (K' : KT) hK'; push_cast; (repeat' refine And.intro ?_ ?_); all_goals (first | (apply hK'; clear hK' K') | (refine ⟨trivial, trivial, ?_⟩; apply hK'; clear hK' K') | (intro hb; (try push_cast at hb); all_goals (intros; apply hK'; clear hK' K')) | ((first | refine Qbr Size_con (fun _ _ => rfl) ?_ | refine call_O 4 ?_); push_cast; (repeat' refine And.intro ?_ ?_); all_goals (first | (apply hK'; clear hK' K') | (intros; apply hK'; clear hK' K') | (clear hK' K'; first | omega | skip))) | (clear hK' K'; first | omega | skip)))
 | apply Qar | apply Qac | apply Qah | apply Qaj | apply Qau
 | apply Qap | apply Qax | apply Qas | apply Qam | apply Qaz | apply Qay
 | (refine Qaf ?_; push_cast) | apply Qag | refine Qaa (Qa3 _ (by omega) (by omega)) ?_ | refine Qaa (Qb0 _ (by omega) (by omega)) ?_ | refine Qaa (Qba _ (by omega) (by omega)) ?_ | refine Qaa (Qa5 _ (by omega) (by omega)) ?_
 | refine Qai rfl rfl ?_ | refine Qat rfl rfl ?_
 | (refine Qak (by push_cast; first | done | rfl) ?_ ?_ <;> intro hc <;> (try push_cast at hc))
 | refine Qaw rfl rfl rfl (by push_cast; first | done | rfl) ?_
 | refine Qav rfl rfl rfl (by push_cast; first | done | rfl) ?_ ?_
 | refine Qbf (id := 1) [0, 1, 2, 3, 4, 5, 6, 7, 8, 9, 10, 11, 12, 14] [15] [3] (.or 13 (.or 15 (.free 16 (.free 17 (.free 18 (.free 19 (.free 20 (.free 21 (.free 22 (.done)))))))) (.stop)) (.stop)) wide (by kernel_rfl) ?_
 | apply Qby | apply Qbk | apply Qbn
 | refine Qbx rfl rfl rfl ?_ | refine Qbl rfl rfl rfl ?_
 | (refine Qbm rfl rfl rfl rfl ?_ ?_; rotate_left) | (refine Qbe rfl rfl rfl rfl ?_ ?_; rotate_left)
 | (refine Qbz rfl rfl rfl rfl ?_ ?_; rotate_left; focus (intro K' hK'; push_cast; (repeat' refine And.intro ?_ ?_); all_goals (first | (refine hK' _ _ _ _ _ (by push_cast) (by push_cast; first | done | rfl) ?_; clear hK' K') | ((first | refine Qbr Size_con (fun _ _ => rfl) ?_ | refine call_O 4 ?_); push_cast; (repeat' refine And.intro ?_ ?_); all_goals (first | (refine hK' _ _ _ _ _ (by push_cast) (by push_cast; first | done | rfl) ?_; clear hK' K') | (intros; refine hK' _ _ _ _ _ (by push_cast) (by push_cast; first | done | rfl) ?_; clear hK' K') | (clear hK' K'; first | omega | skip))) | (clear hK' K'; first | omega | skip))))
 | refine Qcc rfl rfl rfl rfl (by push_cast; first | done | rfl) ?_
 | refine Qcd rfl rfl rfl rfl (by push_cast; first | done | rfl) ?_ ?_
 | (intro (hc : (_ : Prop)); (try push_cast at hc)) | intro (hc : Qad) | intro (hc : Int) | intro (hc : Nat))
 all_goals (try (rw [hw2]; first | omega | exact Int.le_of_lt h.2.2))
 simp only [hw2]
 unfold jM logB jB
 simp only
 generalize recsN D (2 * z) (D.Base.length) fl = q
 generalize IntKind.u64.wrap (max fl (topN D (2 * z) D.Base.length).1 + 1) = t
 (refine Qc9.fin ⟨[(1, .obj DiskO D), (4, .segs [.ptr 1 [] 0, .int .i64 q.2, .int .i64 D.Base.length, .int .u64 t]), (3, .segs [.ptr 1 [] 0, .int .i64 z, .ptr 4 [] 0, .bool r])], ?_, ?_, ?_, Qbb.refl _, ?_⟩
  ·push_cast
  ·push_cast
  ·simp [Qao]
  ·simp [tvL, TV.ids, SV.ids, LV.ids, Qb1])
theorem jOpen0_fn (D : Qab) (z : Int) (r : Bool) (fl : Int) (h : 1 ≤ z ∧ z ≤ 255 ∧ 2 * z < D.Base.length) :
    Qcs Cx.P 102 [.l (.ptr 3 [] 0), .l (.int .u64 fl)] [(1, .obj DiskO D), (3, .segs [.ptr 1 [] 0, .int .i64 z, .nilp, .bool r])] (tvL [.dat (.slice (.slice (.int .u8))) (recsN D (2 * z) D.Base.length fl).1, .int .i64 0]) (jM 4 ⟨openL D (2 * z) D.Base.length fl, z, r⟩) := by
 unfold openL
 refine Spec_disk3 Qj0 fun hw hG => ?_
 have hbase := hw.many
 have hw2 : IntKind.i64.wrap (2 * z) = 2 * z := Qa3 _ (by omega) (by omega)
 refine Qcs.go2 (E := Cx.env) (fn := Try.f102) (res := [_, _]) _ (Qc2.refl _) Try.func102 Qj0 rfl rfl (by simp [Qb1, SV.ids, LV.ids]) (by simp [Qao]) (by kernel_rfl) rfl ?_
 intro hf
 try push_cast at hf
 intro _
 simp only [mmD, Qcu, Qao, List.map_cons, List.map_nil, List.cons_append, List.nil_append]
 repeat' (first
 | (intro (K' : KT) hK'; push_cast; (repeat' refine And.intro ?_ ?_); all_goals (first | (apply hK'; clear hK' K') | (refine ⟨trivial, trivial, ?_⟩; apply hK'; clear hK' K') | (intro hb; (try push_cast at hb); all_goals (intros; apply hK'; clear hK' K')) | ((first | refine Qbr Size_con (fun _ _ => rfl) ?_ | refine call_O 4 ?_); push_cast; (repeat' refine And.intro ?_ ?_); all_goals (first | (apply hK'; clear hK' K') | (intros; apply hK'; clear hK' K') | (clear hK' K'; first | omega | skip))) | (clear hK' K'; first | omega | skip)))
 | apply Qar | apply Qac | apply Qah | apply Qaj | apply Qau
 | apply Qap | apply Qax | apply Qas | apply Qam | apply Qaz | apply Qay
 | (refine Qaf ?_; push_cast) | apply Qag | refine Qaa (Qa3 _ (by omega) (by omega)) ?_ | refine Qaa (Qb0 _ (by omega) (by omega)) ?_ | refine Qaa (Qba _ (by omega) (by omega)) ?_ | refine Qaa (Qa5 _ (by omega) (by omega)) ?_
 | refine Qai rfl rfl ?_ | refine Qat rfl rfl ?_
 | (refine Qak (by push_cast; first | done | rfl) ?_ ?_ <;> intro hc <;> (try push_cast at hc))
 | refine Qaw rfl rfl rfl (by push_cast; first | done | rfl) ?_
 | refine Qav rfl rfl rfl (by push_cast; first | done | rfl) ?_ ?_
 | refine Qbf (id := 1) [0, 1, 2, 3, 4, 5, 6, 7, 8, 9, 10, 11, 12, 14] [15] [3] (.or 13 (.or 15 (.free 16 (.free 17 (.free 18 (.free 19 (.free 20 (.free 21 (.free 22 (.done)))))))) (.stop)) (.stop)) wide (by kernel_rfl) ?_
 | apply Qby | apply Qbk | apply Qbn
 | refine Qbx rfl rfl rfl ?_ | refine Qbl rfl rfl rfl ?_
 | (refine Qbm rfl rfl rfl rfl ?_ ?_; rotate_left) | (refine Qbe rfl rfl rfl rfl ?_ ?_; rotate_left)
 | (refine Qbz rfl rfl rfl rfl ?_ ?_; rotate_left; focus (intro K' hK'; push_cast; (repeat' refine And.intro ?_ ?_); all_goals (first | (refine hK' _ _ _ _ _ (by push_cast) (by push_cast; first | done | rfl) ?_; clear hK' K') | ((first | refine Qbr Size_con (fun _ _ => rfl) ?_ | refine call_O 4 ?_); push_cast; (repeat' refine And.intro ?_ ?_); all_goals (first | (refine hK' _ _ _ _ _ (by push_cast) (by push_cast; first | done | rfl) ?_; clear hK' K') | (intros; refine hK' _ _ _ _ _ (by push_cast) (by push_cast; first | done | rfl) ?_; clear hK' K') | (clear hK' K'; first | omega | skip))) | (clear hK' K'; first | omega | skip))))
 | refine Qcc rfl rfl rfl rfl (by push_cast; first | done | rfl) ?_
 | refine Qcd rfl rfl rfl rfl (by push_cast; first | done | rfl) ?_ ?_
 | (intro (hc : (_ : Prop)); (try push_cast at hc)) | intro (hc : Qad) | intro (hc : Int) | intro (hc : Nat))
 all_goals (try (rw [hw2]; first | omega | exact Int.le_of_lt h.2.2))
 simp only [hw2]
 unfold jM logB jB
 simp only
 generalize recsN D (2 * z) (D.Base.length) fl = q
 generalize IntKind.u64.wrap (max fl (topN D (2 * z) D.Base.length).1 + 1) = t
 (refine Qc9.fin ⟨[(1, .obj DiskO D), (4, .segs [.ptr 1 [] 0, .int .i64 q.2, .int .i64 D.Base.length, .int .u64 t]), (3, .segs [.ptr 1 [] 0, .int .i64 z, .ptr 4 [] 0, .bool r])], ?_, ?_, ?_, Qbb.refl _, ?_⟩
  ·push_cast
  ·push_cast
  ·simp [Qao]
  ·simp [tvL, TV.ids, SV.ids, LV.ids, Qb1])
theorem jOpen_con : ConJN 102 (.pair (.int .u64) .unit) (fun J _ => 1 ≤ J.z ∧ J.z ≤ 255 ∧ 2 * J.z < J.L.D.Base.length)
    (fun J x => [.dat (.slice (.slice (.int .u8))) (recsN J.L.D (2 * J.z) J.L.D.Base.length x.1).1, .int .i64 0]) (fun J x => ⟨openL J.L.D (2 * J.z) J.L.D.Base.length x.1, J.z, J.r⟩) :=
 ⟨Qj0, fun _ _ => rfl, fun J x h => jOpen_fn J.L J.z J.r x.1 h⟩
end
def conJ0 (nm : Nat) (vs0 : List SV) (s : Qan) (K : KT) : Prop := match vs0 with
 | [.l (.ptr id [] 0), .l (.int .u64 fl)] => (match Qco s.mem id with
  | some (.segs [.ptr d [] 0, .int .i64 z, .nilp, .bool b]) => (match Qco s.mem d with
   | some (@Box.obj τ O' D) => d ≠ id ∧ d ≠ nm ∧ nm ≠ id ∧ s.room nm ∧ ∃ h : τ = Qab, HEq O' DiskO ∧ (1 ≤ z ∧ z ≤ 255 ∧ 2 * z < (cast h D).Base.length) ∧
       K (.tup [.l (.dat (.slice (.slice (.int .u8))) (recsN (cast h D) (2 * z) (cast h D).Base.length fl).1), .l (.int .i64 0)])
        (s.back [d, id] [nm] [(d, .obj DiskO (cast h D)), (nm, logB d (openL (cast h D) (2 * z) (cast h D).Base.length fl)), (id, jB d nm z b)])
   | _ => False)
  | _ => False)
 | _ => False
theorem call_J0 (nm : Nat) {vs0 : List SV} {s : Qan} {K : KT} (hc : conJ0 nm vs0 s K) : Wc Cx.P 102 vs0 s K := by
 unfold conJ0 at hc
 split at hc
 ·rename_i id fl
  split at hc
  ·rename_i d z b hgj
   split at hc
   ·rename_i τ O' D hgd
    obtain ⟨n2, n4, n5, hroom, eq, hO, hz, hK⟩ := hc
    subst eq
    have hO := eq_of_heq hO
    subst hO
    simp only [cast_eq] at hz hK
    refine Qde (jOpen0_fn D z b fl hz) (fun i => if i = 1 then d else if i = 3 then id else nm) [nm] (by simp [Qao]) ?_ ?_ ?_ ?_ ?_ (jM_clb _ _) ?_ ?_ ?_
    ·simp only [Qao, List.map_cons, List.map_nil, List.mem_cons, List.not_mem_nil, or_false]
     rintro i (rfl | rfl) j (rfl | rfl) <;> simp [n2, Ne.symm n2]
    ·rw [jM_ids]
     simp only [List.mem_cons, List.not_mem_nil, or_false]
     rintro i (rfl | rfl | rfl) j (rfl | rfl | rfl) <;> simp [n2, n4, n5, Ne.symm n2, Ne.symm n4, Ne.symm n5]
    ·rw [jM_ids]
     simp only [Qao, List.map_cons, List.map_nil, List.mem_cons, List.not_mem_nil, or_false, not_or]
     rintro j (rfl | rfl | rfl) h <;> simp at h ⊢
    ·intro i hi
     simp only [List.mem_cons, List.not_mem_nil, or_false] at hi
     subst hi
     have : s.pins.contains i = false := hroom
     simpa using this
    ·simp [tvL, TV.ids, Qb1, SV.ids, LV.ids]
    ·intro e' he
     simp only [List.mem_cons, List.not_mem_nil, or_false] at he
     rcases he with rfl | rfl
     ·exact hgd
     ·exact hgj
    ·intro G γ us h
     simpa [SV.ren, LV.ren] using h
    ·have e9 : Qer (fun i => if i = 1 then d else if i = 3 then id else nm) (jM 4 ⟨openL D (2 * z) D.Base.length fl, z, b⟩) =
         [(d, .obj DiskO D), (nm, logB d (openL D (2 * z) D.Base.length fl)), (id, jB d nm z b)] := by
      simp [jM, Qer, Box.ren, LV.ren, logB, jB, openL]
     rw [e9]
     exact hK
   ·exact hc.elim
  ·exact hc.elim
 ·exact hc.elim
attribute [push_cast] conJ0
end Go.Proofs.Ytnmjcdlgfimnaaa
namespace Go.Proofs.Ytnmjcdlgfimnaaa
def conPN (nm : Nat) (vs0 : List SV) (s : Qan) (K : KT) : Prop := match vs0 with
 | .l .nils :: rest => Qg7 (Qkl rest) s rest fun s' rest' => Qdh (.pair (.slice (.int .u64)) .unit) rest' fun x => x.1.length = 1 ∧ (0 ≤ x.1.getD 0 0 ∧ x.1.getD 0 0 ≤ 18446744073709551615) ∧ s'.room nm ∧
     K (.one (.l (.own nm))) (s'.back [] [nm] [(nm, .arr (.int .u8) (numB (x.1.getD 0 0).toNat))])
 | _ => False
theorem call_PN (nm : Nat) {vs0 : List SV} {s : Qan} {K : KT} (hc : conPN nm vs0 s K) : Wc Cx.P 106 vs0 s K := by
 refine ⟨Qrh, ?_⟩
 intro R G γ a w vs hs hv
 unfold conPN at hc
 split at hc
 ·rename_i rest
  obtain ⟨v0, vs0, rfl, hv0, hvr⟩ := hv
  obtain ⟨G1, s1, as1, hg1, hc, hs1, hv1⟩ := Qdc hc hs hvr
  obtain ⟨x, ⟨h1, h2, hroom, hK⟩, hx⟩ := Qcx (.pair (.slice (.int .u64)) .unit) hc hv1
  obtain ⟨n, hn⟩ : ∃ n : Nat, x.1.getD 0 0 = n := ⟨(x.1.getD 0 0).toNat, by omega⟩
  have ex : x.1 = [(n : Int)] := by
   match hxx : x.1, h1 with
   | [y], _ =>
    rw [hxx] at hn
    simp at hn
    rw [hn]
  have hv0' : (SV.l LV.nils).rel G1 γ v0 := SV.rel_mono hg1 hv0
  rw [hn, Int.toNat_natCast] at hK
  have hw : Wc Cx.P 106 (.l .nils :: (Rep.argL (.pair (.slice (.int .u64)) .unit) x).map .l) s1 K := by
   refine Qde (pkNum_fn n (by omega)) (fun _ => nm) [nm] (by simp [Qao]) (by simp [Qao]) (by simp [Qao]) (by simp [Qao]) ?_ (by simp [tvL, TV.ids, SV.ids, LV.ids, Qao]) (by simp [Box.ids]) (by simp) ?_ ?_
   ·intro i hi
    simp only [List.mem_cons, List.not_mem_nil, or_false] at hi
    subst hi
    have : s1.pins.contains i = false := hroom
    simpa using this
   ·intro G γ us h
    have : Rep.argL (.pair (.slice (.int .u64)) .unit) x = [.dat (.slice (.int .u64)) [(n : Int)]] := by rw [← ex]; rfl
    rw [this] at h
    simpa [SV.ren, LV.ren] using h
   ·simpa [tvL, TV.ren, SV.ren, LV.ren, Qao, Qer, Box.ren] using hK
  refine (hw.2 R G1 γ _ w _ hs1 ⟨v0, vs0, rfl, hv0', hx⟩).mono ?_
  rintro e w' ⟨v, rfl, G2, γ2, tv, s2, hg2, hK2, hrel, hs2⟩
  exact ⟨v, rfl, G2, γ2, tv, s2, Hp.le_trans hg1 hg2, hK2, hrel, hs2⟩
 ·exact hc.elim
attribute [push_cast] conPN
def jCom (J : JourS) (c : List Int) : JourS := ⟨openL (slWrite J.L.D 0 J.z (numB (J.L.st - 1).toNat ++ c)).1 (2 * J.z) (slWrite J.L.D 0 J.z (numB (J.L.st - 1).toNat ++ c)).1.Base.length (J.L.st - 1), J.z, true⟩
theorem sing_getD (x : Int) : [x].getD 0 0 = x := rfl
section
set_option linter.unusedSimpArgs false
set_option linter.unusedVariables false
set_option maxRecDepth 20000
attribute [local irreducible] Qb3 Qa9 vcA Qbp Wc
set_option maxHeartbeats 8000000
attribute [local push_cast] sing_getD
theorem jCom_fn (J : JourS) (c : List Int) (h : 1 ≤ J.z ∧ J.z ≤ 255 ∧ 2 * J.z < (slWrite J.L.D 0 J.z (numB (J.L.st - 1).toNat ++ c)).1.Base.length) (hst : 1 ≤ J.L.st ∧ J.L.st ≤ 1152921504606846977) (hc0 : c.length ≤ 12288) (hq : J.L.D.Queue.length ≤ 900000)
    (hw : (slWrite J.L.D 0 J.z (numB (J.L.st - 1).toNat ++ c)).2.2 = 0) :
    Qcs Cx.P 69 [.l (.ptr 3 [] 0), .l (.dat (.slice (.int .u8)) c)] (jMem J.L J.z J.r) (tvL [.int .i64 0]) (jM 4 (jCom J c)) := by
 obtain ⟨⟨D, a, e0, st⟩, z, r⟩ := J
 unfold jCom
 simp only at h hst hq hw ⊢
 have hnl := numB_len (n := (st - 1).toNat) (by omega)
 unfold jMem
 refine Qcs.go2 (E := Cx.env) (fn := Try.f69) (res := [_]) _ (Qc2.refl _) Try.func69 Qp4 rfl rfl (by simp [Qb1, SV.ids, LV.ids]) (by simp [Qao]) (by kernel_rfl) rfl ?_
 intro hf
 try push_cast at hf
 intro _
 simp only [mmD, Qcu, Qao, List.map_cons, List.map_nil, List.cons_append, List.nil_append]
 repeat' (first
 | (intro (K' : KT) hK'; push_cast; (repeat' refine And.intro ?_ ?_); all_goals (first | (apply hK'; clear hK' K') | (refine ⟨trivial, trivial, ?_⟩; apply hK'; clear hK' K') | (intro hb; (try push_cast at hb); all_goals (intros; apply hK'; clear hK' K')) | ((first | refine call_L logStamp_con (fun _ _ => rfl) ?_ | refine call_PN 34 ?_ | refine Qbr slWrite_con (fun _ _ => rfl) ?_ | refine call_J jTold_con (fun _ _ => rfl) ?_ | refine call_JN jOpen_con 4 (fun _ _ => rfl) ?_); push_cast; (repeat' refine And.intro ?_ ?_); all_goals (first | (apply hK'; clear hK' K') | (intros; apply hK'; clear hK' K') | (clear hK' K'; first | omega | skip))) | (clear hK' K'; first | omega | skip)))
 | apply Qar | apply Qac | apply Qah | apply Qaj | apply Qau
 | apply Qap | apply Qax | apply Qas | apply Qam | apply Qaz | apply Qay
 | (refine Qaf ?_; push_cast) | apply Qag | refine Qaa (Qa3 _ (by omega) (by omega)) ?_ | refine Qaa (Qb0 _ (by omega) (by omega)) ?_ | refine Qaa (Qba _ (by omega) (by omega)) ?_ | refine Qaa (Qa5 _ (by omega) (by omega)) ?_
 | refine Qai rfl rfl ?_ | refine Qat rfl rfl ?_
 | (refine Qak (by push_cast; first | done | rfl) ?_ ?_ <;> intro hc <;> (try push_cast at hc))
 | refine Qaw rfl rfl rfl (by push_cast; first | done | rfl) ?_
 | refine Qav rfl rfl rfl (by push_cast; first | done | rfl) ?_ ?_
 | refine Qbf (id := 4) [0, 1, 2, 3, 4, 5, 6, 7, 8, 11] [13] [3] (.or 9 (.or 10 (.or 12 (.or 13 (.free 14 (.free 15 (.free 16 (.free 17 (.free 18 (.done)))))) (.stop)) (.stop)) (.stop)) (.stop)) wide (by kernel_rfl) ?_
 | apply Qby | apply Qbk | apply Qbn
 | refine Qbx rfl rfl rfl ?_ | refine Qbl rfl rfl rfl ?_
 | (refine Qbm rfl rfl rfl rfl ?_ ?_; rotate_left) | (refine Qbe rfl rfl rfl rfl ?_ ?_; rotate_left)
 | (refine Qbz rfl rfl rfl rfl ?_ ?_; rotate_left; focus (intro K' hK'; push_cast; (repeat' refine And.intro ?_ ?_); all_goals (first | (refine hK' _ _ _ _ _ (by push_cast) (by push_cast; first | done | rfl) ?_; clear hK' K') | ((first | refine call_L logStamp_con (fun _ _ => rfl) ?_ | refine call_PN 34 ?_ | refine Qbr slWrite_con (fun _ _ => rfl) ?_ | refine call_J jTold_con (fun _ _ => rfl) ?_ | refine call_JN jOpen_con 4 (fun _ _ => rfl) ?_); push_cast; (repeat' refine And.intro ?_ ?_); all_goals (first | (refine hK' _ _ _ _ _ (by push_cast) (by push_cast; first | done | rfl) ?_; clear hK' K') | (intros; refine hK' _ _ _ _ _ (by push_cast) (by push_cast; first | done | rfl) ?_; clear hK' K') | (clear hK' K'; first | omega | skip))) | (clear hK' K'; first | omega | skip))))
 | (refine Qec rfl rfl rfl rfl ?_ ?_; rotate_left; focus (intro K' hK'; push_cast; (repeat' refine And.intro ?_ ?_); all_goals (first | (refine hK' _ _ _ _ _ (by push_cast) (by push_cast; first | done | rfl) ?_; clear hK' K') | ((first | refine call_L logStamp_con (fun _ _ => rfl) ?_ | refine call_PN 34 ?_ | refine Qbr slWrite_con (fun _ _ => rfl) ?_ | refine call_J jTold_con (fun _ _ => rfl) ?_ | refine call_JN jOpen_con 4 (fun _ _ => rfl) ?_); push_cast; (repeat' refine And.intro ?_ ?_); all_goals (first | (refine hK' _ _ _ _ _ (by push_cast) (by push_cast; first | done | rfl) ?_; clear hK' K') | (intros; refine hK' _ _ _ _ _ (by push_cast) (by push_cast; first | done | rfl) ?_; clear hK' K') | (clear hK' K'; first | omega | skip))) | (clear hK' K'; first | omega | skip))))
 | (refine Qdv rfl rfl rfl rfl (by push_cast; first | done | rfl) ?_)
 | refine Qdt rfl rfl rfl rfl (by push_cast; first | done | rfl) ?_ ?_
 | (refine Qed rfl rfl rfl rfl (by push_cast; first | done | rfl) ?_ ?_)
 | (refine Qeb rfl rfl rfl rfl rfl (by push_cast; first | done | rfl) ?_ ?_ ?_; focus (intro hc; (try push_cast at hc); all_goals (intro K' hK'; push_cast; (repeat' refine And.intro ?_ ?_); all_goals (first | (refine hK' _ _ _ _ _ (by push_cast) (by push_cast; first | done | rfl) ?_; clear hK' K') | ((first | refine call_L logStamp_con (fun _ _ => rfl) ?_ | refine call_PN 34 ?_ | refine Qbr slWrite_con (fun _ _ => rfl) ?_ | refine call_J jTold_con (fun _ _ => rfl) ?_ | refine call_JN jOpen_con 4 (fun _ _ => rfl) ?_); push_cast; (repeat' refine And.intro ?_ ?_); all_goals (first | (refine hK' _ _ _ _ _ (by push_cast) (by push_cast; first | done | rfl) ?_; clear hK' K') | (intros; refine hK' _ _ _ _ _ (by push_cast) (by push_cast; first | done | rfl) ?_; clear hK' K') | (clear hK' K'; first | omega | skip))) | (clear hK' K'; first | omega | skip)))))
 | refine Qcc rfl rfl rfl rfl (by push_cast; first | done | rfl) ?_
 | refine Qcd rfl rfl rfl rfl (by push_cast; first | done | rfl) ?_ ?_
 | (intro (hc : (_ : Prop)); (try push_cast at hc)) | intro (hc : Qad) | intro (hc : Int) | intro (hc : Nat))
 all_goals (try (exfalso; omega))
 all_goals (try omega)
 all_goals (try (exfalso; rw [hw] at hc; simp at hc; done))
 generalize (slWrite D 0 z (numB (st - 1).toNat ++ c)).1 = W at *
 unfold jM logB jB
 simp only
 generalize hL : openL W (2 * z) W.Base.length (st - 1) = L2 at *
 have hLD : L2.D = W := by rw [← hL]; rfl
 rw [← hLD]
 (refine Qc9.fin ⟨[(1, .obj DiskO L2.D), (4, .segs [.ptr 1 [] 0, .int .i64 L2.a, .int .i64 L2.e, .int .u64 L2.st]), (3, .segs [.ptr 1 [] 0, .int .i64 z, .ptr 4 [] 0, .bool true])], ?_, ?_, ?_, Qbb.refl _, ?_⟩
  ·push_cast
  ·push_cast
  ·simp [Qao]
  ·simp [tvL, TV.ids, SV.ids, LV.ids, Qb1])
theorem jComF_fn (J : JourS) (c : List Int) (hst : 1 ≤ J.L.st ∧ J.L.st ≤ 1152921504606846977) (hc0 : c.length ≤ 12288) (hq : J.L.D.Queue.length ≤ 900000)
    (hw : (slWrite J.L.D 0 J.z (numB (J.L.st - 1).toNat ++ c)).2.2 ≠ 0) :
    Qcs Cx.P 69 [.l (.ptr 3 [] 0), .l (.dat (.slice (.int .u8)) c)] (jMem J.L J.z J.r) (tvL [.int .i64 (slWrite J.L.D 0 J.z (numB (J.L.st - 1).toNat ++ c)).2.2])
     (jM 2 ⟨⟨(slWrite J.L.D 0 J.z (numB (J.L.st - 1).toNat ++ c)).1, J.L.a, J.L.e, J.L.st⟩, J.z, if (slWrite J.L.D 0 J.z (numB (J.L.st - 1).toNat ++ c)).2.2 = 82 then false else J.r⟩) := by
 obtain ⟨⟨D, a, e0, st⟩, z, r⟩ := J
 simp only at hst hq hw ⊢
 have hnl := numB_len (n := (st - 1).toNat) (by omega)
 unfold jMem
 refine Qcs.go2 (E := Cx.env) (fn := Try.f69) (res := [_]) _ (Qc2.refl _) Try.func69 Qp4 rfl rfl (by simp [Qb1, SV.ids, LV.ids]) (by simp [Qao]) (by kernel_rfl) rfl ?_
 intro hf
 try push_cast at hf
 intro _
 simp only [mmD, Qcu, Qao, List.map_cons, List.map_nil, List.cons_append, List.nil_append]
 repeat' (first
 | (intro (K' : KT) hK'; push_cast; (repeat' refine And.intro ?_ ?_); all_goals (first | (apply hK'; clear hK' K') | (refine ⟨trivial, trivial, ?_⟩; apply hK'; clear hK' K') | (intro hb; (try push_cast at hb); all_goals (intros; apply hK'; clear hK' K')) | ((first | refine call_L logStamp_con (fun _ _ => rfl) ?_ | refine call_PN 34 ?_ | refine Qbr slWrite_con (fun _ _ => rfl) ?_ | refine call_J jTold_con (fun _ _ => rfl) ?_); push_cast; (repeat' refine And.intro ?_ ?_); all_goals (first | (apply hK'; clear hK' K') | (intros; apply hK'; clear hK' K') | (clear hK' K'; first | omega | skip))) | (clear hK' K'; first | omega | skip)))
 | apply Qar | apply Qac | apply Qah | apply Qaj | apply Qau
 | apply Qap | apply Qax | apply Qas | apply Qam | apply Qaz | apply Qay
 | (refine Qaf ?_; push_cast) | apply Qag | refine Qaa (Qa3 _ (by omega) (by omega)) ?_ | refine Qaa (Qb0 _ (by omega) (by omega)) ?_ | refine Qaa (Qba _ (by omega) (by omega)) ?_ | refine Qaa (Qa5 _ (by omega) (by omega)) ?_
 | refine Qai rfl rfl ?_ | refine Qat rfl rfl ?_
 | (refine Qak (by push_cast; first | done | rfl) ?_ ?_ <;> intro hc <;> (try push_cast at hc))
 | refine Qaw rfl rfl rfl (by push_cast; first | done | rfl) ?_
 | refine Qav rfl rfl rfl (by push_cast; first | done | rfl) ?_ ?_
 | refine Qbf (id := 4) [0, 1, 2, 3, 4, 5, 6, 7, 8, 11] [13] [3] (.or 9 (.or 10 (.or 12 (.or 13 (.free 14 (.free 15 (.free 16 (.free 17 (.free 18 (.done)))))) (.stop)) (.stop)) (.stop)) (.stop)) wide (by kernel_rfl) ?_
 | apply Qby | apply Qbk | apply Qbn
 | refine Qbx rfl rfl rfl ?_ | refine Qbl rfl rfl rfl ?_
 | (refine Qbm rfl rfl rfl rfl ?_ ?_; rotate_left) | (refine Qbe rfl rfl rfl rfl ?_ ?_; rotate_left)
 | (refine Qbz rfl rfl rfl rfl ?_ ?_; rotate_left; focus (intro K' hK'; push_cast; (repeat' refine And.intro ?_ ?_); all_goals (first | (refine hK' _ _ _ _ _ (by push_cast) (by push_cast; first | done | rfl) ?_; clear hK' K') | ((first | refine call_L logStamp_con (fun _ _ => rfl) ?_ | refine call_PN 34 ?_ | refine Qbr slWrite_con (fun _ _ => rfl) ?_ | refine call_J jTold_con (fun _ _ => rfl) ?_); push_cast; (repeat' refine And.intro ?_ ?_); all_goals (first | (refine hK' _ _ _ _ _ (by push_cast) (by push_cast; first | done | rfl) ?_; clear hK' K') | (intros; refine hK' _ _ _ _ _ (by push_cast) (by push_cast; first | done | rfl) ?_; clear hK' K') | (clear hK' K'; first | omega | skip))) | (clear hK' K'; first | omega | skip))))
 | (refine Qec rfl rfl rfl rfl ?_ ?_; rotate_left; focus (intro K' hK'; push_cast; (repeat' refine And.intro ?_ ?_); all_goals (first | (refine hK' _ _ _ _ _ (by push_cast) (by push_cast; first | done | rfl) ?_; clear hK' K') | ((first | refine call_L logStamp_con (fun _ _ => rfl) ?_ | refine call_PN 34 ?_ | refine Qbr slWrite_con (fun _ _ => rfl) ?_ | refine call_J jTold_con (fun _ _ => rfl) ?_); push_cast; (repeat' refine And.intro ?_ ?_); all_goals (first | (refine hK' _ _ _ _ _ (by push_cast) (by push_cast; first | done | rfl) ?_; clear hK' K') | (intros; refine hK' _ _ _ _ _ (by push_cast) (by push_cast; first | done | rfl) ?_; clear hK' K') | (clear hK' K'; first | omega | skip))) | (clear hK' K'; first | omega | skip))))
 | (refine Qdv rfl rfl rfl rfl (by push_cast; first | done | rfl) ?_)
 | refine Qdt rfl rfl rfl rfl (by push_cast; first | done | rfl) ?_ ?_
 | (refine Qed rfl rfl rfl rfl (by push_cast; first | done | rfl) ?_ ?_)
 | (refine Qeb rfl rfl rfl rfl rfl (by push_cast; first | done | rfl) ?_ ?_ ?_; focus (intro hc; (try push_cast at hc); all_goals (intro K' hK'; push_cast; (repeat' refine And.intro ?_ ?_); all_goals (first | (refine hK' _ _ _ _ _ (by push_cast) (by push_cast; first | done | rfl) ?_; clear hK' K') | ((first | refine call_L logStamp_con (fun _ _ => rfl) ?_ | refine call_PN 34 ?_ | refine Qbr slWrite_con (fun _ _ => rfl) ?_ | refine call_J jTold_con (fun _ _ => rfl) ?_); push_cast; (repeat' refine And.intro ?_ ?_); all_goals (first | (refine hK' _ _ _ _ _ (by push_cast) (by push_cast; first | done | rfl) ?_; clear hK' K') | (intros; refine hK' _ _ _ _ _ (by push_cast) (by push_cast; first | done | rfl) ?_; clear hK' K') | (clear hK' K'; first | omega | skip))) | (clear hK' K'; first | omega | skip)))))
 | refine Qcc rfl rfl rfl rfl (by push_cast; first | done | rfl) ?_
 | refine Qcd rfl rfl rfl rfl (by push_cast; first | done | rfl) ?_ ?_
 | (intro (hc : (_ : Prop)); (try push_cast at hc)) | intro (hc : Qad) | intro (hc : Int) | intro (hc : Nat))
 all_goals (try (exfalso; omega))
 all_goals (try omega)
 all_goals (try (exfalso; exact hw (by simpa using hc)))
 generalize slWrite D 0 z (numB (st - 1).toNat ++ c) = W at *
 unfold jM logB jB
 simp only
 (refine Qc9.fin ⟨[(1, .obj DiskO W.1), (2, .segs [.ptr 1 [] 0, .int .i64 a, .int .i64 e0, .int .u64 st]), (3, .segs [.ptr 1 [] 0, .int .i64 z, .ptr 2 [] 0, .bool (if W.2.2 = 82 then false else r)])], ?_, ?_, ?_, Qbb.refl _, ?_⟩
  ·push_cast
  ·push_cast
  ·simp [Qao]
  ·simp [tvL, TV.ids, SV.ids, LV.ids, Qb1])
theorem jCom_con : ConJN 69 (.pair (.slice (.int .u8)) .unit)
    (fun J x => (1 ≤ J.z ∧ J.z ≤ 255 ∧ 2 * J.z < (slWrite J.L.D 0 J.z (numB (J.L.st - 1).toNat ++ x.1)).1.Base.length) ∧ (1 ≤ J.L.st ∧ J.L.st ≤ 1152921504606846977) ∧ x.1.length ≤ 12288 ∧ J.L.D.Queue.length ≤ 900000 ∧ (slWrite J.L.D 0 J.z (numB (J.L.st - 1).toNat ++ x.1)).2.2 = 0)
    (fun _ _ => [.int .i64 0]) (fun J x => jCom J x.1) := ⟨Qp4, fun _ _ => rfl, fun J x h => jCom_fn J x.1 h.1 h.2.1 h.2.2.1 h.2.2.2.1 h.2.2.2.2⟩
end
end Go.Proofs.Ytnmjcdlgfimnaaa
namespace Go.Proofs.Ytnmjcdlgfimnaaa
def conRd (nm : Nat) (vs0 : List SV) (s : Qan) (K : KT) : Prop := Qg7 (Qkl vs0) s vs0 fun s' rest' => Qdh (.pair (.slice (.int .u8)) .unit) rest' fun x => x.1.length ≤ 1000000 ∧ s'.room nm ∧
 K (.one (.l (.ptr nm [] 0))) (s'.back [] [nm] [(nm, .segs [.dat (.slice (.int .u8)) x.1, .bool false])])
theorem call_Rd (nm : Nat) {vs0 : List SV} {s : Qan} {K : KT} (hc : conRd nm vs0 s K) : Wc Cx.P 103 vs0 s K := by
 refine ⟨Qrv, ?_⟩
 intro R G γ a w vs hs hv
 unfold conRd at hc
 obtain ⟨G1, s1, as1, hg1, hc, hs1, hv1⟩ := Qdc hc hs hv
 obtain ⟨x, ⟨h1, hroom, hK⟩, hx⟩ := Qcx (.pair (.slice (.int .u8)) .unit) hc hv1
 have hw : Wc Cx.P 103 ((Rep.argL (.pair (.slice (.int .u8)) .unit) x).map .l) s1 K := by
  refine Qde (pkNew_fn x.1 h1) (fun _ => nm) [nm] (by simp [Qao]) (by simp [Qao]) (by simp [Qao]) (by simp [Qao]) ?_ (by simp [tvL, TV.ids, SV.ids, LV.ids, Qao]) (by simp [Box.ids, Qez, LV.ids]) (by simp) ?_ ?_
  ·intro i hi
   simp only [List.mem_cons, List.not_mem_nil, or_false] at hi
   subst hi
   have : s1.pins.contains i = false := hroom
   simpa using this
  ·intro G γ us h
   have : Rep.argL (.pair (.slice (.int .u8)) .unit) x = [.dat (.slice (.int .u8)) x.1] := rfl
   rw [this] at h
   simpa [SV.ren, LV.ren] using h
  ·simpa [tvL, TV.ren, SV.ren, LV.ren, Qao, Qer, Box.ren] using hK
 refine (hw.2 R G1 γ _ w _ hs1 hx).mono ?_
 rintro e w' ⟨v, rfl, G2, γ2, tv, s2, hg2, hK2, hrel, hs2⟩
 exact ⟨v, rfl, G2, γ2, tv, s2, Hp.le_trans hg1 hg2, hK2, hrel, hs2⟩
theorem call_RN (n : Nat) (l : List Int) (hn : n < 128 ^ 9) {id : Nat} {s : Qan} {K : KT} (hm : Qco s.mem id = some (.segs [.dat (.slice (.int .u8)) (numB n ++ l), .bool false]))
    (hK : K (.one (.l (.int .u64 n))) (s.back [id] [] [(id, .segs [.dat (.slice (.int .u8)) l, .bool false])])) : Wc Cx.P 104 [.l (.ptr id [] 0)] s K := by
 refine Qde (rdNum_fn n l hn) (fun _ => id) [] (by simp [Qao]) (by simp [Qao]) (by simp [Qao]) (by simp [Qao]) (by simp) (by simp [tvL, TV.ids, SV.ids, LV.ids, Qao]) (by simp [Box.ids, Qez, LV.ids]) ?_ ?_ ?_
 ·intro e he
  simp only [List.mem_cons, List.not_mem_nil, or_false] at he
  subst he
  exact hm
 ·intro G γ us h
  simpa [SV.ren, LV.ren] using h
 ·simpa [tvL, TV.ren, SV.ren, LV.ren, Qao, Qer, Box.ren] using hK
theorem call_RL (l : List Int) {id : Nat} {s : Qan} {K : KT} (hm : Qco s.mem id = some (.segs [.dat (.slice (.int .u8)) l, .bool false]))
    (hK : K (.one (.l (.int .i64 l.length))) (s.back [id] [] [(id, .segs [.dat (.slice (.int .u8)) l, .bool false])])) : Wc Cx.P 105 [.l (.ptr id [] 0)] s K := by
 refine Qde (rdLeft_fn l) (fun _ => id) [] (by simp [Qao]) (by simp [Qao]) (by simp [Qao]) (by simp [Qao]) (by simp) (by simp [tvL, TV.ids, SV.ids, LV.ids, Qao]) (by simp [Box.ids, Qez, LV.ids]) ?_ ?_ ?_
 ·intro e he
  simp only [List.mem_cons, List.not_mem_nil, or_false] at he
  subst he
  exact hm
 ·intro G γ us h
  simpa [SV.ren, LV.ren] using h
 ·simpa [tvL, TV.ren, SV.ren, LV.ren, Qao, Qer, Box.ren] using hK
attribute [push_cast] conRd
theorem base_len_put (D : Qab) (k st : Int) (b : List Int) : (sPut D k st b).1.Base.length = D.Base.length := (sPut_q D k st b).2
theorem base_len_flush (D : Qab) : (dFlush D).1.Base.length = D.Base.length := by
 rcases flush_gen D with ⟨_, h, _⟩ | ⟨_, h, _⟩
 ·rw [h, landAll_len]
 ·rw [h]
theorem slWrite_len (D : Qab) (k z : Int) (c : List Int) : (slWrite D k z c).1.Base.length = D.Base.length := by
 unfold slWrite slPutD
 split
 ·split
  ·exact base_len_put _ _ _ _
  ·split
   ·rw [base_len_flush, base_len_put]
   ·rw [base_len_flush, base_len_put]
 ·rfl
def jMj (k j : Nat) (J : JourS) : List (Nat × Box) := [(1, .obj DiskO J.L.D), (k, logB 1 J.L), (j, jB 1 k J.z J.r)]
def jNew (D : Qab) (z : Int) (c : List Int) : JourS := jCom ⟨openL D (2 * z) D.Base.length 0, z, false⟩ c
section
set_option linter.unusedSimpArgs false
set_option linter.unusedVariables false
set_option maxRecDepth 20000
attribute [local irreducible] Qb3 Qa9 vcA Qbp Wc
set_option maxHeartbeats 8000000
attribute [local push_cast] slWrite_len sing_getD
theorem jFormat_fn (D : Qab) (z : Int) (c : List Int) (h : 1 ≤ z ∧ z ≤ 255 ∧ 2 * z < D.Base.length) (hst : 1 ≤ (openL D (2 * z) D.Base.length 0).st ∧ (openL D (2 * z) D.Base.length 0).st ≤ 1152921504606846977) (hc0 : c.length ≤ 12288) (hq : D.Queue.length ≤ 900000)
    (hw : (slWrite D 0 z (numB ((openL D (2 * z) D.Base.length 0).st - 1).toNat ++ c)).2.2 = 0) :
    Qcs Cx.P 67 [.l (.ptr 1 [] 0), .l (.int .i64 z), .l (.dat (.slice (.int .u8)) c)] [(1, .obj DiskO D)] (tvL [.ptr 19 [] 0, .int .i64 0]) (jMj 4 19 (jNew D z c)) := by
 have hr : jrightB D z = true := jrightB_iff.2 h
 unfold jNew
 refine Qcs.go2 (E := Cx.env) (fn := Try.f67) (res := [_, _]) _ (Qc2.refl _) Try.func67 Qk4 rfl rfl (by simp [Qb1, SV.ids, LV.ids]) (by simp [Qao]) (by kernel_rfl) rfl ?_
 intro hf
 try push_cast at hf
 intro _
 simp only [mmD, Qcu, Qao, List.map_cons, List.map_nil, List.cons_append, List.nil_append]
 repeat' (first
 | (intro (K' : KT) hK'; push_cast; (repeat' refine And.intro ?_ ?_); all_goals (first | (apply hK'; clear hK' K') | (refine ⟨trivial, trivial, ?_⟩; apply hK'; clear hK' K') | (intro hb; (try push_cast at hb); all_goals (intros; apply hK'; clear hK' K')) | ((first | refine Qbr jRight_con (fun _ _ => rfl) ?_ | refine call_J0 4 ?_ | refine call_JN jCom_con 4 (fun _ _ => rfl) ?_); push_cast; (repeat' refine And.intro ?_ ?_); all_goals (first | (apply hK'; clear hK' K') | (intros; apply hK'; clear hK' K') | (clear hK' K'; first | omega | skip))) | (clear hK' K'; first | omega | skip)))
 | apply Qar | apply Qac | apply Qah | apply Qaj | apply Qau
 | apply Qap | apply Qax | apply Qas | apply Qam | apply Qaz | apply Qay
 | (refine Qaf ?_; push_cast) | apply Qag | refine Qaa (Qa3 _ (by omega) (by omega)) ?_ | refine Qaa (Qb0 _ (by omega) (by omega)) ?_ | refine Qaa (Qba _ (by omega) (by omega)) ?_ | refine Qaa (Qa5 _ (by omega) (by omega)) ?_
 | refine Qai rfl rfl ?_ | refine Qat rfl rfl ?_
 | (refine Qak (by push_cast; first | done | rfl) ?_ ?_ <;> intro hc <;> (try push_cast at hc))
 | refine Qaw rfl rfl rfl (by push_cast; first | done | rfl) ?_
 | refine Qav rfl rfl rfl (by push_cast; first | done | rfl) ?_ ?_
 | (intro (hc : (_ : Prop)); (try push_cast at hc)) | intro (hc : Qad) | intro (hc : Int) | intro (hc : Nat))
 ·exfalso; rw [hr] at hc; simp at hc
 ·have eL : (⟨D, (openL D (2 * z) D.Base.length 0).a, (openL D (2 * z) D.Base.length 0).e, (openL D (2 * z) D.Base.length 0).st⟩ : LogS) = openL D (2 * z) D.Base.length 0 := rfl
  rw [eL]
  have hz : (jCom ⟨openL D (2 * z) D.Base.length 0, z, false⟩ c).z = z := rfl
  generalize jCom ⟨openL D (2 * z) D.Base.length 0, z, false⟩ c = J at *
  unfold jMj logB jB
  rw [hz]
  (refine Qc9.fin ⟨[(1, .obj DiskO J.L.D), (4, .segs [.ptr 1 [] 0, .int .i64 J.L.a, .int .i64 J.L.e, .int .u64 J.L.st]), (19, .segs [.ptr 1 [] 0, .int .i64 z, .ptr 4 [] 0, .bool J.r])], ?_, ?_, ?_, Qbb.refl _, ?_⟩
   ·push_cast
   ·push_cast
   ·simp [Qao]
   ·simp [tvL, TV.ids, SV.ids, LV.ids, Qb1])
theorem jOpn_fn (D : Qab) (z : Int) (n : Nat) (c : List Int) (g : Int) (h : 1 ≤ z ∧ z ≤ 255 ∧ 2 * z < D.Base.length) (hn : n ≤ 1152921504606846976) (hc0 : c.length ≤ 900000) (hs : slRead D 0 z = (numB n ++ c, g, 0)) :
    Qcs Cx.P 68 [.l (.ptr 1 [] 0), .l (.int .i64 z)] [(1, .obj DiskO D)] (tvL [.ptr 58 [] 0, .dat (.slice (.int .u8)) c, .dat (.slice (.slice (.int .u8))) (recsN D (2 * z) D.Base.length n).1, .int .i64 0]) (jMj 4 58 ⟨openL D (2 * z) D.Base.length n, z, false⟩) := by
 have hr : jrightB D z = true := jrightB_iff.2 h
 have hnl := numB_len (n := n) (by omega)
 have hn9 : n < 128 ^ 9 := by have : (128 : Nat) ^ 9 = 2 ^ 63 := by decide
                              omega
 have happ : (numB n ++ c).length = (numB n).length + c.length := List.length_append
 have hdrop : List.drop (((numB n).length : Int) + c.length - c.length).toNat (List.take (((numB n).length : Int) + c.length).toNat (numB n ++ c)) = c := by
  rw [List.take_of_length_le (by rw [happ]; omega)]
  have : (((numB n).length : Int) + c.length - c.length).toNat = (numB n).length := by omega
  rw [this, List.drop_left]
 refine Qcs.go2 (E := Cx.env) (fn := Try.f68) (res := [_, _, _, _]) _ (Qc2.refl _) Try.func68 Qxf rfl rfl (by simp [Qb1, SV.ids, LV.ids]) (by simp [Qao]) (by kernel_rfl) rfl ?_
 intro hf
 try push_cast at hf
 intro _
 simp only [mmD, Qcu, Qao, List.map_cons, List.map_nil, List.cons_append, List.nil_append]
 repeat' (first
 | (intro (K' : KT) hK'; push_cast; (repeat' refine And.intro ?_ ?_); all_goals (first | (apply hK'; clear hK' K') | (refine ⟨trivial, trivial, ?_⟩; apply hK'; clear hK' K') | (intro hb; (try push_cast at hb); all_goals (intros; apply hK'; clear hK' K')) | ((first | refine Qbr jRight_con (fun _ _ => rfl) ?_ | refine Qbr slRead_con (fun _ _ => rfl) ?_); push_cast; (repeat' refine And.intro ?_ ?_); all_goals (first | (apply hK'; clear hK' K') | (intros; apply hK'; clear hK' K') | (clear hK' K'; first | omega | skip))) | (clear hK' K'; first | omega | skip)))
 | apply Qar | refine Qbo (id := 3) ?_ | apply Qac | apply Qah | apply Qaj | apply Qau
 | apply Qap | apply Qax | apply Qas | apply Qam | apply Qaz | apply Qay
 | (refine Qaf ?_; push_cast) | apply Qag | refine Qaa (Qa3 _ (by omega) (by omega)) ?_ | refine Qaa (Qb0 _ (by omega) (by omega)) ?_ | refine Qaa (Qba _ (by omega) (by omega)) ?_ | refine Qaa (Qa5 _ (by omega) (by omega)) ?_
 | refine Qai rfl rfl ?_ | refine Qat rfl rfl ?_
 | (refine Qak (by push_cast; first | done | rfl) ?_ ?_ <;> intro hc <;> (try push_cast at hc))
 | refine Qaw rfl rfl rfl (by push_cast; first | done | rfl) ?_
 | refine Qav rfl rfl rfl (by push_cast; first | done | rfl) ?_ ?_
 | (intro (hc : (_ : Prop)); (try push_cast at hc)) | intro (hc : Qad) | intro (hc : Int) | intro (hc : Nat))
 ·exfalso; rw [hr] at hc; simp at hc
 ·rw [hs]
  apply Qc5
  push_cast
  repeat' (first
 | (intro (K' : KT) hK'; push_cast; (repeat' refine And.intro ?_ ?_); all_goals (first | (apply hK'; clear hK' K') | (refine ⟨trivial, trivial, ?_⟩; apply hK'; clear hK' K') | (intro hb; (try push_cast at hb); all_goals (intros; apply hK'; clear hK' K')) | ((first | refine call_Rd 31 ?_ | refine call_RN n c hn9 rfl ?_ | refine call_RL c rfl ?_ | refine call_PN 46 ?_ | refine call_J0 4 ?_); push_cast; (repeat' refine And.intro ?_ ?_); all_goals (first | (apply hK'; clear hK' K') | (intros; apply hK'; clear hK' K') | (clear hK' K'; first | omega | skip))) | (clear hK' K'; first | omega | skip)))
 | apply Qar | apply Qac | apply Qah | apply Qaj | apply Qau
 | apply Qap | apply Qax | apply Qas | apply Qam | apply Qaz | apply Qay
 | (refine Qaf ?_; push_cast) | apply Qag | refine Qaa (Qa3 _ (by omega) (by omega)) ?_ | refine Qaa (Qb0 _ (by omega) (by omega)) ?_ | refine Qaa (Qba _ (by omega) (by omega)) ?_ | refine Qaa (Qa5 _ (by omega) (by omega)) ?_
 | refine Qai rfl rfl ?_ | refine Qat rfl rfl ?_
 | (refine Qak (by push_cast; first | done | rfl) ?_ ?_ <;> intro hc <;> (try push_cast at hc))
 | refine Qaw rfl rfl rfl (by push_cast; first | done | rfl) ?_
 | refine Qav rfl rfl rfl (by push_cast; first | done | rfl) ?_ ?_
 | (intro (hc : (_ : Prop)); (try push_cast at hc)) | intro (hc : Qad) | intro (hc : Int) | intro (hc : Nat))
  ·exfalso
   rw [hdrop, Qa3 _ (by omega) (by omega)] at hc
   simp at hc
  ·simp only [hdrop]
   generalize (recsN D (2 * z) D.Base.length n).1 = rs
   have hz : (openL D (2 * z) D.Base.length n).D = D := rfl
   generalize openL D (2 * z) D.Base.length n = L at *
   unfold jMj logB jB
   simp only [hz]
   (refine Qc9.fin ⟨[(1, .obj DiskO D), (4, .segs [.ptr 1 [] 0, .int .i64 L.a, .int .i64 L.e, .int .u64 L.st]), (58, .segs [.ptr 1 [] 0, .int .i64 z, .ptr 4 [] 0, .bool false])], ?_, ?_, ?_, Qbb.refl _, ?_⟩
    ·push_cast
    ·push_cast
    ·simp [Qao]
    ·simp [tvL, TV.ids, SV.ids, LV.ids, Qb1])
  ·exfalso; omega
end
def conFo (nm nl : Nat) (vs0 : List SV) (s : Qan) (K : KT) : Prop := match vs0 with
 | .l (.ptr d [] 0) :: rest => Qg7 (Qkl rest) s rest fun s' rest' => (match Qco s'.mem d with
  | some (@Box.obj τ O' D) => d ≠ nm ∧ d ≠ nl ∧ nm ≠ nl ∧ s'.room nm ∧ s'.room nl ∧ ∃ h : τ = Qab, HEq O' DiskO ∧ Qdh (.pair (.int .i64) (.pair (.slice (.int .u8)) .unit)) rest' fun x =>
      (1 ≤ x.1 ∧ x.1 ≤ 255 ∧ 2 * x.1 < (cast h D).Base.length) ∧ (1 ≤ (openL (cast h D) (2 * x.1) (cast h D).Base.length 0).st ∧ (openL (cast h D) (2 * x.1) (cast h D).Base.length 0).st ≤ 1152921504606846977) ∧ x.2.1.length ≤ 12288 ∧ (cast h D).Queue.length ≤ 900000 ∧
      (slWrite (cast h D) 0 x.1 (numB ((openL (cast h D) (2 * x.1) (cast h D).Base.length 0).st - 1).toNat ++ x.2.1)).2.2 = 0 ∧
      K (.tup [.l (.ptr nm [] 0), .l (.int .i64 0)]) (s'.back [d] [nl, nm] [(d, .obj DiskO (jNew (cast h D) x.1 x.2.1).L.D), (nl, logB d (jNew (cast h D) x.1 x.2.1).L), (nm, jB d nl x.1 true)])
  | _ => False)
 | _ => False
theorem call_Fo (nm nl : Nat) {vs0 : List SV} {s : Qan} {K : KT} (hc : conFo nm nl vs0 s K) : Wc Cx.P 67 vs0 s K := by
 refine ⟨Qk4, ?_⟩
 intro R G γ a w vs hs hv
 unfold conFo at hc
 split at hc
 ·rename_i d rest
  obtain ⟨v0, vs0, rfl, hv0, hvr⟩ := hv
  obtain ⟨G1, s1, as1, hg1, hc, hs1, hv1⟩ := Qdc hc hs hvr
  split at hc
  ·rename_i τ O' D hgd
   obtain ⟨n1, n2, n3, hr1, hr2, eq, hO, hc⟩ := hc
   subst eq
   have hO := eq_of_heq hO
   subst hO
   simp only [cast_eq] at hc
   obtain ⟨x, ⟨h1, h2, h3, h4, h5, hK⟩, hx⟩ := Qcx (.pair (.int .i64) (.pair (.slice (.int .u8)) .unit)) hc hv1
   have hv0' : (SV.l (.ptr d [] 0)).rel G1 γ v0 := SV.rel_mono hg1 hv0
   have hw : Wc Cx.P 67 (.l (.ptr d [] 0) :: (Rep.argL (.pair (.int .i64) (.pair (.slice (.int .u8)) .unit)) x).map .l) s1 K := by
    refine Qde (jFormat_fn D x.1 x.2.1 h1 h2 h3 h4 h5) (fun i => if i = 1 then d else if i = 4 then nl else nm) [nl, nm] (by simp [Qao]) (by simp [Qao]) ?_ ?_ ?_ ?_ ?_ ?_ ?_ ?_
    ·simp only [jMj, Qao, List.map_cons, List.map_nil, List.mem_cons, List.not_mem_nil, or_false]
     rintro i (rfl | rfl | rfl) j (rfl | rfl | rfl) <;> simp [n1, n2, n3, Ne.symm n1, Ne.symm n2, Ne.symm n3]
    ·simp only [jMj, Qao, List.map_cons, List.map_nil, List.mem_cons, List.not_mem_nil, or_false]
     rintro j (rfl | rfl | rfl) h <;> simp at h ⊢
    ·intro i hi
     have q1 : s1.pins.contains nm = false := hr1
     have q2 : s1.pins.contains nl = false := hr2
     simp only [List.mem_cons, List.not_mem_nil, or_false] at hi
     rcases hi with rfl | rfl
     ·simpa using q2
     ·simpa using q1
    ·simp [tvL, TV.ids, Qb1, SV.ids, LV.ids, jMj, Qao]
    ·intro b hb i hi
     simp only [jMj, List.mem_cons, List.not_mem_nil, or_false] at hb
     rcases hb with rfl | rfl | rfl
     ·simp [Box.ids] at hi
     ·simp [logB, Box.ids, Qez, LV.ids] at hi
      subst hi
      simp [jMj, Qao]
     ·simp [jB, Box.ids, Qez, LV.ids] at hi
      rcases hi with rfl | rfl <;> simp [jMj, Qao]
    ·intro b hb
     simp only [List.mem_cons, List.not_mem_nil, or_false] at hb
     subst hb
     exact hgd
    ·intro G γ us h
     simp only [List.map_cons, List.map_nil]
     have e : Rep.argL (.pair (.int .i64) (.pair (.slice (.int .u8)) .unit)) x = [.int .i64 x.1, .dat (.slice (.int .u8)) x.2.1] := rfl
     rw [e] at h
     simpa [SV.ren, LV.ren] using h
    ·have e9 : Qer (fun i => if i = 1 then d else if i = 4 then nl else nm) (jMj 4 19 (jNew D x.1 x.2.1)) = [(d, .obj DiskO (jNew D x.1 x.2.1).L.D), (nl, logB d (jNew D x.1 x.2.1).L), (nm, jB d nl x.1 true)] := by
      have q : (jNew D x.1 x.2.1).z = x.1 := rfl
      have q2 : (jNew D x.1 x.2.1).r = true := rfl
      simp [jMj, Qer, Box.ren, LV.ren, logB, jB, q, q2]
     rw [e9]
     simpa [tvL, TV.ren, SV.ren, LV.ren, Qao] using hK
   refine (hw.2 R G1 γ _ w _ hs1 ⟨v0, vs0, rfl, hv0', hx⟩).mono ?_
   rintro e' w' ⟨v, rfl, G2, γ2, tv, s2, hg2, hK2, hrel, hs2⟩
   exact ⟨v, rfl, G2, γ2, tv, s2, Hp.le_trans hg1 hg2, hK2, hrel, hs2⟩
  ·exact hc.elim
 ·exact hc.elim
theorem call_Jo (nm nl : Nat) (n : Nat) (c : List Int) (g : Int) {d : Nat} {D : Qab} {z : Int} {s : Qan} {K : KT} (hg : Qco s.mem d = some (.obj DiskO D)) (hs : slRead D 0 z = (numB n ++ c, g, 0))
    (hc : (1 ≤ z ∧ z ≤ 255 ∧ 2 * z < D.Base.length) ∧ n ≤ 1152921504606846976 ∧ c.length ≤ 900000 ∧ (¬ d = nm ∧ ¬ d = nl ∧ ¬ nm = nl) ∧ s.room nm ∧ s.room nl ∧
     K (.tup [.l (.ptr nm [] 0), .l (.dat (.slice (.int .u8)) c), .l (.dat (.slice (.slice (.int .u8))) (recsN D (2 * z) D.Base.length n).1), .l (.int .i64 0)])
      (s.back [d] [nl, nm] [(d, .obj DiskO D), (nl, logB d (openL D (2 * z) D.Base.length n)), (nm, jB d nl z false)])) :
    Wc Cx.P 68 [.l (.ptr d [] 0), .l (.int .i64 z)] s K := by
 obtain ⟨h1, h2, h3, ⟨n1, n2, n3⟩, hr1, hr2, hK⟩ := hc
 have n1 : d ≠ nm := n1
 have n2 : d ≠ nl := n2
 have n3 : nm ≠ nl := n3
 refine Qde (jOpn_fn D z n c g h1 h2 h3 hs) (fun i => if i = 1 then d else if i = 4 then nl else nm) [nl, nm] (by simp [Qao]) (by simp [Qao]) ?_ ?_ ?_ ?_ ?_ ?_ ?_ ?_
 ·simp only [jMj, Qao, List.map_cons, List.map_nil, List.mem_cons, List.not_mem_nil, or_false]
  rintro i (rfl | rfl | rfl) j (rfl | rfl | rfl) <;> simp [n1, n2, n3, Ne.symm n1, Ne.symm n2, Ne.symm n3]
 ·simp only [jMj, Qao, List.map_cons, List.map_nil, List.mem_cons, List.not_mem_nil, or_false]
  rintro j (rfl | rfl | rfl) h <;> simp at h ⊢
 ·intro i hi
  have q1 : s.pins.contains nm = false := hr1
  have q2 : s.pins.contains nl = false := hr2
  simp only [List.mem_cons, List.not_mem_nil, or_false] at hi
  rcases hi with rfl | rfl
  ·simpa using q2
  ·simpa using q1
 ·simp [tvL, TV.ids, Qb1, SV.ids, LV.ids, jMj, Qao]
 ·intro b hb i hi
  simp only [jMj, List.mem_cons, List.not_mem_nil, or_false] at hb
  rcases hb with rfl | rfl | rfl
  ·simp [Box.ids] at hi
  ·simp [logB, Box.ids, Qez, LV.ids] at hi
   subst hi
   simp [jMj, Qao]
  ·simp [jB, Box.ids, Qez, LV.ids] at hi
   rcases hi with rfl | rfl <;> simp [jMj, Qao]
 ·intro b hb
  simp only [List.mem_cons, List.not_mem_nil, or_false] at hb
  subst hb
  exact hg
 ·intro G γ us h
  simpa [SV.ren, LV.ren] using h
 ·have e9 : Qer (fun i => if i = 1 then d else if i = 4 then nl else nm) (jMj 4 58 ⟨openL D (2 * z) D.Base.length n, z, false⟩) = [(d, .obj DiskO D), (nl, logB d (openL D (2 * z) D.Base.length n)), (nm, jB d nl z false)] := by
   simp [jMj, Qer, Box.ren, LV.ren, logB, jB, openL]
  rw [e9]
  simpa [tvL, TV.ren, SV.ren, LV.ren, Qao] using hK
attribute [push_cast] conFo
end Go.Proofs.Ytnmjcdlgfimnaaa
namespace Go.Proofs.Ytnmjcdlgfimnaaa
theorem placed_top {D : Qab} : ∀ (rs : List (List Int)) (k st : Int), Placed D k st rs → 0 < st → st + rs.length ≤ 18446744073709551615 → ∀ j : Int, k ≤ j → j < endPos k rs → numK (secAt D j) 8 ≤ st + rs.length - 1
 | [], k, st, _, _, _, j, h1, h2 => by simp only [endPos] at h2; omega
 | r :: rs, k, st, ⟨hs, hp, hr⟩, h0, hb, j, h1, h2 => by
  simp only [endPos] at h2
  simp only [List.length_cons] at hb ⊢
  have hbd := spanR_bd r
  by_cases hj : j < k + spanR r
  ·obtain ⟨i, rfl⟩ : ∃ i : Nat, j = k + i := ⟨(j - k).toNat, by omega⟩
   rw [hp i (by omega), numK_made (by omega) _ _ _ (pieceN_le _ _)]
   omega
  ·have := placed_top rs (k + spanR r) (st + 1) hr (by omega) (by push_cast at hb; omega) j (by omega) h2
   push_cast
   omega
theorem logOk_top {L : LogS} {m : Nat} {k0 st0 : Int} {rs : List (List Int)} (h : LogOk L m k0 st0 rs) : ∀ j : Int, k0 ≤ j → j < L.e → numK (secAt L.D j) 8 ≤ st0 + rs.length - 1 := by
 intro j h1 h2
 have hb := h.stb
 by_cases hj : j < L.a
 ·exact placed_top rs k0 st0 h.placed hb.1 (by omega) j h1 (by rw [← h.a]; exact hj)
 ·have := h.low j (by omega) h2
  omega
theorem open_fresh {E : Qab} {m : Nat} (h : Quiet E m) {k e fl : Int} (h0 : 0 ≤ k) (h1 : k ≤ e) (h2 : e ≤ m) (hf : ∀ j : Int, k ≤ j → j < e → numK (secAt E j) 8 ≤ fl) (hf0 : 0 ≤ fl ∧ fl < 4611686018427387904) :
    recsN E k e fl = ([], k) ∧ openL E k e fl = ⟨E, k, e, fl + 1⟩ ∧ LogOk ⟨E, k, e, fl + 1⟩ m k (fl + 1) [] := by
 have hb := h.base
 have hr : recsN E k e fl = ([], k) := by
  have he : recEnd E k e fl := recEnd_low fun hlt => hf k (by omega) hlt
  unfold recsN
  simp [recN, he]
 have ht : (topN E k e).1 ≤ fl := by
  unfold topN
  refine sTop_le _ k 0 (fun j h3 h4 => hf j h3 (by omega)) hf0.1 h0 (by omega)
 have ht0 : 0 ≤ (topN E k e).1 := by
  unfold topN
  exact (sTop_ok (D := E) (e - k).toNat k 0 h0 (by omega)).2.1
 refine ⟨hr, ?_, ⟨h, rfl, h0, h1, h2, by simp, ⟨by omega, by simp only [List.length_nil]; omega⟩, trivial, fun j h3 h4 => ?_⟩⟩
 ·unfold openL
  rw [hr, Qa5 _ (by omega) (by omega)]
  have : max fl (topN E k e).1 = fl := by omega
  rw [this]
 ·have := hf j h3 h4
  simp only
  omega
theorem slotOk_congr {D E : Qab} {m : Nat} {k z g : Int} {was : List Int} (h : SlotOk D m k z g was) (hq : Quiet E m) (he : ∀ j : Int, k ≤ j → j < k + 2 * z → secAt E j = secAt D j) : SlotOk E m k z g was := by
 obtain ⟨r1, r2, r3, r4⟩ := h.right
 have hp : ∀ x : Int, (x % 2 = 0 ∨ x % 2 = 1) → 0 ≤ z * (x % 2) ∧ z * (x % 2) + z ≤ 2 * z := fun x hx => by rcases hx with e | e <;> rw [e] <;> omega
 have hg := hp g (by omega)
 have hg1 := hp (g + 1) (by omega)
 refine ⟨hq, h.right, h.gb, fun j h1 h2 => ?_, h.zero, h.sp, fun hg0 i hi => ?_, fun hg0 j h1 h2 => ?_⟩
 ·rw [he j h1 h2]; exact h.low j h1 h2
 ·have hs := h.sp hg0
  rw [he _ (by omega) (by omega)]; exact h.there hg0 i hi
 ·rw [he j (by omega) (by omega)]; exact h.other hg0 j h1 h2
theorem app_keep {L : LogS} {m : Nat} {k0 st0 : Int} {rs : List (List Int)} (h : LogOk L m k0 st0 rs) (r : List Int) (h1 : needN r.length ≠ 0) (h2 : ¬ L.e - L.a < needN r.length) : ∀ j : Int, 0 ≤ j → j < L.a → secAt (appN L r).1.D j = secAt L.D j := by
 obtain ⟨hsp, hr⟩ := need_span h1
 have hs := h.stb
 have hst := h.st
 have hle := endPos_le rs k0
 have ha := h.a
 have he := h.e
 have hk := h.le
 have hk0 := h.pos
 have hbd := spanR_bd r
 obtain ⟨w1, w2, w3, w4, w5⟩ := write_flush h.quiet (a := L.a) (st := L.st) (b := closeN r) (by omega) (by show spanR r ≠ 0; omega) (by omega) (by show L.a + spanR r ≤ m; omega)
 have e : (appN L r).1.D = (dFlush (sPut L.D L.a L.st (closeN r)).1).1 := by
  unfold appN
  rw [if_neg h1, if_neg h2, if_neg (by simpa using w1), if_neg (by simpa using w2)]
 intro j h3 h4
 rw [e]
 exact w5 j h3 (by omega) (.inl h4)
structure JOk (J : JourS) (m : Nat) (g fl : Int) (c : List Int) (rs : List (List Int)) : Prop where
 slot : SlotOk J.L.D m 0 J.z g (numB fl.toNat ++ c)
 log : LogOk J.L m (2 * J.z) (fl + 1) rs
 e : J.L.e = m
 r : J.r = true
 g0 : 1 ≤ g
 b : 0 ≤ fl ∧ fl + rs.length ≤ 1152921504606846976
theorem jok_z {J : JourS} {m : Nat} {g fl : Int} {c : List Int} {rs : List (List Int)} (h : JOk J m g fl c rs) : 1 ≤ J.z ∧ J.z ≤ 255 ∧ 2 * J.z ≤ m := by
 obtain ⟨_, h2, h3, h4⟩ := h.slot.right
 exact ⟨h2, h3, by omega⟩
theorem jok_read {J : JourS} {m : Nat} {g fl : Int} {c : List Int} {rs : List (List Int)} (h : JOk J m g fl c rs) : slRead J.L.D 0 J.z = (numB fl.toNat ++ c, g, 0) := slotOk_read h.slot (by have := h.g0; omega)
theorem jok_recs {J : JourS} {m : Nat} {g fl : Int} {c : List Int} {rs : List (List Int)} (h : JOk J m g fl c rs) : recsN J.L.D (2 * J.z) m fl = (rs, J.L.a) := by
 have h1 := logOk_recs h.log
 have h2 : fl + 1 - 1 = fl := by omega
 rw [h2, h.e] at h1
 exact h1
theorem jok_new {n z : Int} (h : 1 ≤ z ∧ z ≤ 255 ∧ 2 * z < n) (hn : n ≤ 2048) (c : List Int) (hc : spanN (closeN (numB 0 ++ c)).length ≠ 0 ∧ spanN (closeN (numB 0 ++ c)).length ≤ z) :
    (openL (dBlank n) (2 * z) (dBlank n).Base.length 0).st = 1 ∧ (slWrite (dBlank n) 0 z (numB ((openL (dBlank n) (2 * z) (dBlank n).Base.length 0).st - 1).toNat ++ c)).2.2 = 0 ∧ JOk (jNew (dBlank n) z c) n.toNat 1 0 c [] ∧ (jNew (dBlank n) z c).L.a = 2 * z := by
 have hbl : ((dBlank n).Base.length : Int) = n := blank_len (by omega) (by omega)
 have ho : openL (dBlank n) (2 * z) n 0 = ⟨dBlank n, 2 * z, n, 1⟩ := openL_new (by omega) (by omega) (by omega) hn 0 (by decide)
 have hs := slotOk_blank (n := n) (k := 0) (z := z) (Int.le_refl _) h.1 h.2.1 (by omega) hn
 obtain ⟨w1, w2, w3⟩ := slotOk_write hs (fun _ => slotOk_zero) (by decide) (numB 0 ++ c) hc
 have hj : jNew (dBlank n) z c = jCom ⟨openL (dBlank n) (2 * z) (dBlank n).Base.length 0, z, false⟩ c := rfl
 have hcom : ∀ J : JourS, jCom J c = ⟨openL (slWrite J.L.D 0 J.z (numB (J.L.st - 1).toNat ++ c)).1 (2 * J.z) (slWrite J.L.D 0 J.z (numB (J.L.st - 1).toNat ++ c)).1.Base.length (J.L.st - 1), J.z, true⟩ := fun _ => rfl
 rw [hj, hbl, ho, hcom]
 have e1 : (1 : Int) - 1 = 0 := by decide
 have e2 : (0 : Int).toNat = 0 := rfl
 simp only [e1, e2]
 have hbase : (slWrite (dBlank n) 0 z (numB 0 ++ c)).1.Base.length = n.toNat := w2.quiet.base
 have hnn : (n.toNat : Int) = n := by omega
 rw [hbase]
 generalize hW : slWrite (dBlank n) 0 z (numB 0 ++ c) = W at *
 obtain ⟨f1, f2, f3⟩ := open_fresh (E := W.1) (m := n.toNat) w2.quiet (k := 2 * z) (e := n.toNat) (fl := 0) (by omega) (by omega) (Int.le_refl _) (fun j h1 h2 => by
  rw [w3 j (by omega) h2 (by omega), get_zeros, numK_zeros]
  decide) (by decide)
 rw [f2]
 exact ⟨trivial, by rw [w1], ⟨w2, f3, rfl, rfl, by omega, by simp⟩, rfl⟩
theorem jok_app {J : JourS} {m : Nat} {g fl : Int} {c : List Int} {rs : List (List Int)} (h : JOk J m g fl c rs) (r : List Int) (hb : fl + rs.length + 1 ≤ 1152921504606846976) :
    (needN r.length = 0 → jApp J r = (J, 101)) ∧ (needN r.length ≠ 0 → J.L.e - J.L.a < needN r.length → jApp J r = (J, 102)) ∧
     (needN r.length ≠ 0 → ¬ J.L.e - J.L.a < needN r.length → (jApp J r).2 = 0 ∧ JOk (jApp J r).1 m g fl c (rs ++ [r]) ∧ (jApp J r).1.z = J.z) := by
 have hfl := h.b
 obtain ⟨a1, a2, a3⟩ := logOk_app h.log r (by omega)
 have hr := h.r
 have ej : jApp J r = (⟨(appN J.L r).1, J.z, decide ((appN J.L r).2 ≠ 82)⟩, (appN J.L r).2) := by unfold jApp; rw [if_pos hr]
 have same : ∀ x : Int, x ≠ 82 → (⟨J.L, J.z, decide (x ≠ 82)⟩ : JourS) = J := fun x hx => by
  obtain ⟨L, z, b⟩ := J
  simp only at hr
  subst hr
  simp [hx]
 refine ⟨fun h1 => ?_, fun h1 h2 => ?_, fun h1 h2 => ?_⟩
 ·rw [ej, a1 h1, same 101 (by decide)]
 ·rw [ej, a2 h1 h2, same 102 (by decide)]
 ·obtain ⟨b1, b2, b3, b4⟩ := a3 h1 h2
  have hk := app_keep h.log r h1 h2
  have hz := jok_z h
  have hle := endPos_le rs (2 * J.z)
  have ha := h.log.a
  rw [ej]
  refine ⟨b1, ⟨?_, b2, ?_, ?_, h.g0, ?_⟩, rfl⟩
  ·exact slotOk_congr h.slot b2.quiet (fun j h3 h4 => hk j h3 (by have h5 : j < 0 + 2 * J.z := h4; omega))
  ·show (appN J.L r).1.e = m
   rw [b4]; exact h.e
  ·simp [b1]
  ·simp only [List.length_append, List.length_singleton]
   push_cast
   omega
end Go.Proofs.Ytnmjcdlgfimnaaa
