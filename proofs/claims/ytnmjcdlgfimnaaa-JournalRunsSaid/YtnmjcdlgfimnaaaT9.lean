/- Chapter 9: stamps: plain functions; Span. -/
import Derived.Test.YtnmjcdlgfimnaaaA5
namespace Go.Proofs.Ytnmjcdlgfimnaaa
set_option linter.unusedSimpArgs false
set_option linter.unusedVariables false
set_option maxRecDepth 20000
attribute [local irreducible] Qb3 Qa9 vcA Qbp Wc
set_option maxHeartbeats 8000000
def spanN (n : Int) : Int := if n < 0 ∨ 13515 < n then 0 else max 1 ((n + 52) / 53)
theorem span_fn (n : Int) : Qck Cx.P 40 [.int .i64 n] [.int .i64 (spanN n)] := by
 refine Qck.go2 (E := Cx.env) (fn := Try.f40) (res := [_]) Try.func40 Qtt rfl rfl rfl (by kernel_rfl) rfl ?_
 push_cast
 try intro hf
 repeat' (first
 | (intro (K' : KT) hK'; push_cast; (repeat' refine And.intro ?_ ?_); all_goals (first | (apply hK'; clear hK' K') | (refine ⟨trivial, trivial, ?_⟩; apply hK'; clear hK' K') | (intro hb; (try push_cast at hb); all_goals (intros; apply hK'; clear hK' K')) | (clear hK' K'; first | omega | skip)))
 | apply Qar | apply Qac | apply Qah | apply Qaj | apply Qau
 | apply Qap | apply Qax | apply Qas | apply Qam | apply Qaz | apply Qay
 | (refine Qaf ?_; push_cast) | apply Qag | refine Qaa (Qa3 _ (by omega) (by omega)) ?_ | refine Qaa (Qb0 _ (by omega) (by omega)) ?_ | refine Qaa (Qba _ (by omega) (by omega)) ?_ | refine Qaa (Qa5 _ (by omega) (by omega)) ?_
 | refine Qai rfl rfl ?_ | refine Qat rfl rfl ?_
 | (refine Qak (by push_cast; first | done | rfl) ?_ ?_ <;> intro hc <;> (try push_cast at hc))
 | refine Qaw rfl rfl rfl (by push_cast; first | done | rfl) ?_
 | refine Qav rfl rfl rfl (by push_cast; first | done | rfl) ?_ ?_
 | (intro (hc : (_ : Prop)); (try push_cast at hc)) | intro (hc : Qad) | intro (hc : Int) | intro (hc : Nat))
 ·unfold spanN
  rw [if_pos (by omega)]
 ·unfold spanN
  rw [if_neg (by omega), Qa3 _ (by rw [Int.tdiv_eq_ediv_of_nonneg (by omega)]; omega) (by rw [Int.tdiv_eq_ediv_of_nonneg (by omega)]; omega), Int.tdiv_eq_ediv_of_nonneg (by omega)]
  congr 2
  omega
 ·unfold spanN
  rw [if_pos (by omega)]
theorem span_con : Con Cx.P 40 (.pair (.int .i64) (.unit)) (fun x => (fun (n : Int) => True) x.1) (fun x => (fun (n : Int) => [.int .i64 (spanN n)]) x.1) := ⟨Qtt, fun x h => span_fn x.1⟩
theorem r09Span_fn (n : Int) : Qck Cx.P 49 [.int .i64 n] [.int .i64 (spanN n)] := by
 refine Qck.go2 (E := Cx.env) (fn := Try.f49) (res := [_]) Try.func49 Qt4 rfl rfl rfl (by kernel_rfl) rfl ?_
 push_cast
 try intro hf
 repeat' (first
 | (intro (K' : KT) hK'; push_cast; (repeat' refine And.intro ?_ ?_); all_goals (first | (apply hK'; clear hK' K') | (refine ⟨trivial, trivial, ?_⟩; apply hK'; clear hK' K') | (intro hb; (try push_cast at hb); all_goals (intros; apply hK'; clear hK' K')) | (clear hK' K'; first | omega | skip)))
 | apply Qar | apply Qa0 | apply Qac | apply Qah | apply Qaj | apply Qau
 | apply Qap | apply Qax | apply Qas | apply Qaq | apply Qa1 | apply Qal | apply Qae rfl | apply Qa6 | apply Qa7 | apply Qam | apply Qaz | apply Qay
 | (refine Qaf ?_; push_cast) | apply Qag | refine Qaa (Qa3 _ (by omega) (by omega)) ?_ | refine Qaa (Qb0 _ (by omega) (by omega)) ?_ | refine Qaa (Qba _ (by omega) (by omega)) ?_ | refine Qaa (Qa5 _ (by omega) (by omega)) ?_
 | refine Qai rfl rfl ?_ | refine Qat rfl rfl ?_
 | (refine Qak (by push_cast; first | done | rfl) ?_ ?_ <;> intro hc <;> (try push_cast at hc))
 | refine Qaw rfl rfl rfl (by push_cast; first | done | rfl) ?_
 | refine Qav rfl rfl rfl (by push_cast; first | done | rfl) ?_ ?_
 | (intro (hc : (_ : Prop)); (try push_cast at hc)) | intro (hc : Qad) | intro (hc : Int) | intro (hc : Nat))
 ·unfold spanN
  rw [if_pos (by omega)]
 ·refine Qbu [3, 10, 11, 12, 13, 14, 15] [] (fun (i : Nat) => (i : Int) + 1 ≤ max 1 ((n + 52) / 53)) (fun (i : Nat) => [(3, .one (.l (.int .i64 ((i : Int) + 1))))]) (fun (i : Nat) => []) (fun (i : Nat) => (max 1 ((n + 52) / 53)).toNat - i) 0 ?_ (by push_cast; first | done | rfl) (by push_cast; first | done | rfl) ?_ ?_
  ·omega
  ·push_cast
  ·intro i hi
   push_cast
   intro hg
   repeat' (first
 | (intro (K' : KT) hK'; push_cast; (repeat' refine And.intro ?_ ?_); all_goals (first | (apply hK'; clear hK' K') | (refine ⟨trivial, trivial, ?_⟩; apply hK'; clear hK' K') | (intro hb; (try push_cast at hb); all_goals (intros; apply hK'; clear hK' K')) | (clear hK' K'; first | omega | skip)))
 | apply Qar | apply Qa0 | apply Qac | apply Qah | apply Qaj | apply Qau
 | apply Qap | apply Qax | apply Qas | apply Qaq | apply Qa1 | apply Qal | apply Qae rfl | apply Qa6 | apply Qa7 | apply Qam | apply Qaz | apply Qay
 | (refine Qaf ?_; push_cast) | apply Qag | refine Qaa (Qa3 _ (by omega) (by omega)) ?_ | refine Qaa (Qb0 _ (by omega) (by omega)) ?_ | refine Qaa (Qba _ (by omega) (by omega)) ?_ | refine Qaa (Qa5 _ (by omega) (by omega)) ?_
 | refine Qai rfl rfl ?_ | refine Qat rfl rfl ?_
 | (refine Qak (by push_cast; first | done | rfl) ?_ ?_ <;> intro hc <;> (try push_cast at hc))
 | refine Qaw rfl rfl rfl (by push_cast; first | done | rfl) ?_
 | refine Qav rfl rfl rfl (by push_cast; first | done | rfl) ?_ ?_
 | (intro (hc : (_ : Prop)); (try push_cast at hc)) | intro (hc : Qad) | intro (hc : Int) | intro (hc : Nat))
   ·refine Qbv (i + 1) (by push_cast; omega) (by omega) ?_
    push_cast
   ·unfold spanN
    rw [if_neg (by omega)]
    omega
 ·unfold spanN
  rw [if_pos (by omega)]
theorem r09Span_con : Con Cx.P 49 (.pair (.int .i64) (.unit)) (fun x => (fun (n : Int) => True) x.1) (fun x => (fun (n : Int) => [.int .i64 (spanN n)]) x.1) := ⟨Qt4, fun x h => r09Span_fn x.1⟩
end Go.Proofs.Ytnmjcdlgfimnaaa
namespace Go.Proofs.Ytnmjcdlgfimnaaa
set_option linter.unusedSimpArgs false
set_option linter.unusedVariables false
set_option maxRecDepth 20000
attribute [local irreducible] Qb3 Qa9 vcA Qbp Wc
set_option maxHeartbeats 8000000
def numK (s : List Int) : Nat → Int
 | 0 => 0
 | i + 1 => numK s i * 256 + s.getD (63 - i) 0
theorem numK_bd {s : List Int} (h : ∀ x ∈ s, 0 ≤ x ∧ x ≤ 255) : ∀ i, 0 ≤ numK s i ∧ numK s i < 256 ^ i
 | 0 => by simp [numK]
 | i + 1 => by
  obtain ⟨h1, h2⟩ := numK_bd h i
  have h3 : 0 ≤ s.getD (63 - i) 0 ∧ s.getD (63 - i) 0 ≤ 255 := by
   rw [List.getD_eq_getElem?_getD]
   cases hx : s[63 - i]? with
   | none => simp
   | some x => exact h x (List.mem_of_getElem? hx)
  simp only [numK, Int.pow_succ]
  omega
theorem numK_56 {s : List Int} (h : ∀ x ∈ s, 0 ≤ x ∧ x ≤ 255) (i : Nat) (hi : i < 8) : 0 ≤ numK s i ∧ numK s i ≤ 72057594037927935 := by
 obtain ⟨h1, h2⟩ := numK_bd h i
 have h3 : (256 : Int) ^ i ≤ 72057594037927936 := by
  match i, hi with
  | 0, _ | 1, _ | 2, _ | 3, _ | 4, _ | 5, _ | 6, _ | 7, _ => decide
 omega
theorem r09Number_fn (s : List Int) : Qck Cx.P 92 [.dat (.arr 64 (.int .u8)) s] [.int .u64 (numK s 8)] := by
 refine Qck.go2 (E := Cx.env) (fn := Try.f92) (res := [_]) Try.func92 Qth rfl rfl rfl (by kernel_rfl) rfl ?_
 push_cast
 try intro hf
 repeat' (first
 | (intro (K' : KT) hK'; push_cast; (repeat' refine And.intro ?_ ?_); all_goals (first | (apply hK'; clear hK' K') | (refine ⟨trivial, trivial, ?_⟩; apply hK'; clear hK' K') | (intro hb; (try push_cast at hb); all_goals (intros; apply hK'; clear hK' K')) | (clear hK' K'; first | omega | skip)))
 | apply Qar | apply Qa0 | apply Qac | apply Qah | apply Qaj | apply Qau
 | apply Qap | apply Qax | apply Qas | apply Qaq | apply Qa1 | apply Qal | apply Qae rfl | apply Qa6 | apply Qa7 | apply Qam | apply Qaz | apply Qay
 | (refine Qaf ?_; push_cast) | apply Qag | refine Qaa (Qa3 _ (by omega) (by omega)) ?_ | refine Qaa (Qb0 _ (by omega) (by omega)) ?_ | refine Qaa (Qba _ (by omega) (by omega)) ?_ | refine Qaa (Qa5 _ (by omega) (by omega)) ?_
 | refine Qai rfl rfl ?_ | refine Qat rfl rfl ?_
 | (refine Qak (by push_cast; first | done | rfl) ?_ ?_ <;> intro hc <;> (try push_cast at hc))
 | refine Qaw rfl rfl rfl (by push_cast; first | done | rfl) ?_
 | refine Qav rfl rfl rfl (by push_cast; first | done | rfl) ?_ ?_
 | (intro (hc : (_ : Prop)); (try push_cast at hc)) | intro (hc : Qad) | intro (hc : Int) | intro (hc : Nat))
 refine Qbu [3, 4, 5, 6, 7, 8, 9, 10, 11, 12, 13, 14, 15] [14] (fun (i : Nat) => i ≤ 8) (fun (i : Nat) => [(4, .one (.l (.int .i64 (63 - (i : Int))))), (3, .one (.l (.int .u64 (numK s i))))]) (fun (i : Nat) => []) (fun (i : Nat) => 8 - i) 0 ?_ (by push_cast; first | done | rfl) (by push_cast; first | done | rfl) ?_ ?_
 ·omega
 ·push_cast
  rfl
 ·intro i hi
  push_cast
  intro hg
  have hb := numK_56 hf.2 i
  have e : (63 - (i : Int)).toNat = 63 - i := by omega
  have hx : 0 ≤ s.getD (63 - (i : Int)).toNat 0 ∧ s.getD (63 - (i : Int)).toNat 0 ≤ 255 := by
   rw [List.getD_eq_getElem?_getD]
   cases hx : s[(63 - (i : Int)).toNat]? with
   | none => simp
   | some x => exact hf.2 x (List.mem_of_getElem? hx)
  repeat' (first
 | (intro (K' : KT) hK'; push_cast; (repeat' refine And.intro ?_ ?_); all_goals (first | (apply hK'; clear hK' K') | (refine ⟨trivial, trivial, ?_⟩; apply hK'; clear hK' K') | (intro hb; (try push_cast at hb); all_goals (intros; apply hK'; clear hK' K')) | (clear hK' K'; first | omega | skip)))
 | apply Qar | apply Qa0 | apply Qac | apply Qah | apply Qaj | apply Qau
 | apply Qap | apply Qax | apply Qas | apply Qaq | apply Qa1 | apply Qal | apply Qae rfl | apply Qa6 | apply Qa7 | apply Qam | apply Qaz | apply Qay
 | (refine Qaf ?_; push_cast) | apply Qag | refine Qaa (Qa3 _ (by omega) (by omega)) ?_ | refine Qaa (Qb0 _ (by omega) (by omega)) ?_ | refine Qaa (Qba _ (by omega) (by omega)) ?_ | refine Qaa (Qa5 _ (by omega) (by omega)) ?_
 | refine Qai rfl rfl ?_ | refine Qat rfl rfl ?_
 | (refine Qak (by push_cast; first | done | rfl) ?_ ?_ <;> intro hc <;> (try push_cast at hc))
 | refine Qaw rfl rfl rfl (by push_cast; first | done | rfl) ?_
 | refine Qav rfl rfl rfl (by push_cast; first | done | rfl) ?_ ?_
 | (intro (hc : (_ : Prop)); (try push_cast at hc)) | intro (hc : Qad) | intro (hc : Int) | intro (hc : Nat))
  ·refine Qbv (i + 1) (by omega) (by omega) ?_
   push_cast
   refine ⟨by omega, ?_⟩
   rw [e]; rfl
  ·have e8 : i = 8 := by omega
   rw [e8]
theorem r09Number_con : Con Cx.P 92 (.pair (.arr 64 (.int .u8)) (.unit)) (fun x => (fun (s : List Int) => True) x.1) (fun x => (fun (s : List Int) => [.int .u64 (numK s 8)]) x.1) := ⟨Qth, fun x h => r09Number_fn x.1⟩
end Go.Proofs.Ytnmjcdlgfimnaaa
namespace Go.Proofs.Ytnmjcdlgfimnaaa
set_option linter.unusedSimpArgs false
set_option linter.unusedVariables false
set_option maxRecDepth 20000
attribute [local irreducible] Qb3 Qa9 vcA Qbp Wc
set_option maxHeartbeats 8000000
theorem or_u64 (n m : Nat) (hn : n < 72057594037927936) (hm : m < 256) : Qcz .or .u64 (Qjf .u64 (n : Int) 8) (m : Int) = (n : Int) * 256 + m := by
 have e1 : Qjf .u64 (n : Int) 8 = ((n * 256 : Nat) : Int) := by
  unfold Qjf
  have : min (8 : Int).toNat IntKind.u64.bits = 8 := by decide
  rw [this]
  rw [Qa5 _ (by omega) (by omega)]
  omega
 rw [e1]
 unfold Qcz
 have h : (BitVec.ofInt IntKind.u64.bits ((n * 256 : Nat) : Int) ||| BitVec.ofInt IntKind.u64.bits (m : Int)).toNat = n * 256 + m := by
  show (BitVec.ofInt 64 ((n * 256 : Nat) : Int) ||| BitVec.ofInt 64 (m : Int)).toNat = n * 256 + m
  rw [BitVec.ofInt_natCast, BitVec.ofInt_natCast, BitVec.toNat_or, BitVec.toNat_ofNat, BitVec.toNat_ofNat, Nat.mod_eq_of_lt (by omega), Nat.mod_eq_of_lt (by omega)]
  have := Nat.shiftLeft_add_eq_or_of_lt (i := 8) (b := m) (by omega) n
  rw [Nat.shiftLeft_eq, show (2 : Nat) ^ 8 = 256 from rfl] at this
  exact this.symm
 simp only [h]
 rw [Qa5 _ (by omega) (by omega)]
 omega
theorem or_u64' {a b : Int} (ha : 0 ≤ a) (ha2 : a ≤ 72057594037927935) (hb : 0 ≤ b) (hb2 : b ≤ 255) : Qcz .or .u64 (Qjf .u64 a 8) b = a * 256 + b := by
 obtain ⟨n, rfl⟩ := Int.eq_ofNat_of_zero_le ha
 obtain ⟨m, rfl⟩ := Int.eq_ofNat_of_zero_le hb
 exact or_u64 n m (by omega) (by omega)
theorem stNumber_fn (s : List Int) : Qck Cx.P 86 [.dat (.arr 64 (.int .u8)) s] [.int .u64 (numK s 8)] := by
 refine Qck.go2 (E := Cx.env) (fn := Try.f86) (res := [_]) Try.func86 Quo rfl rfl rfl (by kernel_rfl) rfl ?_
 push_cast
 try intro hf
 repeat' (first
 | (intro (K' : KT) hK'; push_cast; (repeat' refine And.intro ?_ ?_); all_goals (first | (apply hK'; clear hK' K') | (refine ⟨trivial, trivial, ?_⟩; apply hK'; clear hK' K') | (intro hb; (try push_cast at hb); all_goals (intros; apply hK'; clear hK' K')) | (clear hK' K'; first | omega | skip)))
 | apply Qar | apply Qa0 | apply Qac | apply Qah | apply Qaj | apply Qau
 | apply Qap | apply Qax | apply Qas | apply Qaq | apply Qa1 | apply Qal | apply Qae rfl | apply Qa6 | apply Qa7 | apply Qam | apply Qaz | apply Qay
 | (refine Qaf ?_; push_cast) | apply Qag | refine Qaa (Qa3 _ (by omega) (by omega)) ?_ | refine Qaa (Qb0 _ (by omega) (by omega)) ?_ | refine Qaa (Qba _ (by omega) (by omega)) ?_ | refine Qaa (Qa5 _ (by omega) (by omega)) ?_
 | refine Qai rfl rfl ?_ | refine Qat rfl rfl ?_
 | (refine Qak (by push_cast; first | done | rfl) ?_ ?_ <;> intro hc <;> (try push_cast at hc))
 | refine Qaw rfl rfl rfl (by push_cast; first | done | rfl) ?_
 | refine Qav rfl rfl rfl (by push_cast; first | done | rfl) ?_ ?_
 | (intro (hc : (_ : Prop)); (try push_cast at hc)) | intro (hc : Qad) | intro (hc : Int) | intro (hc : Nat))
 refine Qbu [3, 4, 5, 6, 7, 8, 9, 10, 11, 12, 13, 14, 15] [14] (fun (i : Nat) => i ≤ 8) (fun (i : Nat) => [(4, .one (.l (.int .i64 (63 - (i : Int))))), (3, .one (.l (.int .u64 (numK s i))))]) (fun (i : Nat) => []) (fun (i : Nat) => 8 - i) 0 ?_ (by push_cast; first | done | rfl) (by push_cast; first | done | rfl) ?_ ?_
 ·omega
 ·push_cast
  rfl
 ·intro i hi
  push_cast
  intro hg
  have hb := numK_56 hf.2 i
  have e : (63 - (i : Int)).toNat = 63 - i := by omega
  have hx : 0 ≤ s.getD (63 - (i : Int)).toNat 0 ∧ s.getD (63 - (i : Int)).toNat 0 ≤ 255 := by
   rw [List.getD_eq_getElem?_getD]
   cases hx : s[(63 - (i : Int)).toNat]? with
   | none => simp
   | some x => exact hf.2 x (List.mem_of_getElem? hx)
  repeat' (first
 | (intro (K' : KT) hK'; push_cast; (repeat' refine And.intro ?_ ?_); all_goals (first | (apply hK'; clear hK' K') | (refine ⟨trivial, trivial, ?_⟩; apply hK'; clear hK' K') | (intro hb; (try push_cast at hb); all_goals (intros; apply hK'; clear hK' K')) | (clear hK' K'; first | omega | skip)))
 | apply Qar | apply Qa0 | apply Qac | apply Qah | apply Qaj | apply Qau
 | apply Qap | apply Qax | apply Qas | apply Qaq | apply Qa1 | apply Qal | apply Qae rfl | apply Qa6 | apply Qa7 | apply Qam | apply Qaz | apply Qay
 | (refine Qaf ?_; push_cast) | apply Qag | refine Qaa (Qa3 _ (by omega) (by omega)) ?_ | refine Qaa (Qb0 _ (by omega) (by omega)) ?_ | refine Qaa (Qba _ (by omega) (by omega)) ?_ | refine Qaa (Qa5 _ (by omega) (by omega)) ?_
 | refine Qai rfl rfl ?_ | refine Qat rfl rfl ?_
 | (refine Qak (by push_cast; first | done | rfl) ?_ ?_ <;> intro hc <;> (try push_cast at hc))
 | refine Qaw rfl rfl rfl (by push_cast; first | done | rfl) ?_
 | refine Qav rfl rfl rfl (by push_cast; first | done | rfl) ?_ ?_
 | (intro (hc : (_ : Prop)); (try push_cast at hc)) | intro (hc : Qad) | intro (hc : Int) | intro (hc : Nat))
  ·refine Qbv (i + 1) (by omega) (by omega) ?_
   push_cast
   refine ⟨by omega, ?_⟩
   have hb' := hb (by omega)
   rw [or_u64' hb'.1 hb'.2 hx.1 hx.2, e]; rfl
  ·have e8 : i = 8 := by omega
   rw [e8]
theorem stNumber_con : Con Cx.P 86 (.pair (.arr 64 (.int .u8)) (.unit)) (fun x => (fun (s : List Int) => True) x.1) (fun x => (fun (s : List Int) => [.int .u64 (numK s 8)]) x.1) := ⟨Quo, fun x h => stNumber_fn x.1⟩
end Go.Proofs.Ytnmjcdlgfimnaaa
