/- Chapter 9: a sector with a stamp, made by the code. -/
import Derived.Test.YtnmjcdlgfimnaaaS1
namespace Go.Proofs.Ytnmjcdlgfimnaaa
set_option linter.unusedSimpArgs false
set_option linter.unusedVariables false
set_option maxRecDepth 20000
attribute [local irreducible] Qb3 Qa9 vcA Qbp Wc
set_option maxHeartbeats 8000000
theorem made_fn (i : Int) (total : Int) (st : Int) (piece : List Int) (hpre : 0 ≤ i ∧ i < 256 ∧ 0 ≤ total ∧ total < 256 ∧ piece.length ≤ 53) : Qck Cx.P 87 [.int .i64 i, .int .i64 total, .int .u64 st, .dat (.slice (.int .u8)) piece] [.dat (.arr 64 (.int .u8)) (madeN i total st piece)] := by
 refine Qck.go2 (E := Cx.env) (fn := Try.f87) (res := [_]) Try.func87 Quz rfl rfl rfl (by kernel_rfl) rfl ?_
 push_cast
 try intro hf
 repeat' (first
 | (intro (K' : KT) hK'; push_cast; (repeat' refine And.intro ?_ ?_); all_goals (first | (apply hK'; clear hK' K') | (refine ⟨trivial, trivial, ?_⟩; apply hK'; clear hK' K') | (intro hb; (try push_cast at hb); all_goals (intros; apply hK'; clear hK' K')) | (clear hK' K'; first | omega | skip)))
 | apply Qar | apply Qa0 | apply Qac | apply Qah | apply Qaj | apply Qau
 | apply Qap | apply Qax | apply Qas | apply Qaq | apply Qa1 | apply Qal | apply Qae rfl | apply Qa6 | apply Qa7 | apply Qam | apply Qaz | apply Qay
 | (refine Qaf ?_; push_cast) | apply Qag | refine Qaa (Qa3 _ (by omega) (by omega)) ?_ | refine Qaa (Qb0 _ (by omega) (by omega)) ?_ | refine Qaa (Qba _ (by omega) (by omega)) ?_ | refine Qaa (Qa5 _ (by omega) (by omega)) ?_
 | refine Qai rfl rfl ?_ | refine Qat rfl rfl ?_
 | (refine Qak (by push_cast; first | done | rfl) ?_ ?_ <;> intro hc <;> (try push_cast at hc))
 | refine Qaw rfl rfl rfl (by push_cast; first | done | rfl) ?_
 | refine Qav rfl rfl rfl (by push_cast; first | done | rfl) ?_ ?_
 | (intro (hc : (_ : Prop)); (try push_cast at hc)) | intro (hc : Qad) | intro (hc : Int) | intro (hc : Nat))
 rw [madeP_0 i total st piece (by omega)]
 refine Qbu [2, 10, 24, 25, 26, 27, 28, 29, 30, 31, 32, 33] [9, 30] (fun (k : Nat) => k ≤ 8) (fun (k : Nat) => [(10, .one (.l (.int .i64 (56 + (k : Int))))), (2, .one (.l (.int .u64 (st / 256 ^ k))))]) (fun (k : Nat) => [(9, .segs [.dat (.arr 64 (.int .u8)) (madeP k i total st piece)])]) (fun (k : Nat) => 8 - k) 0 ?_ (by push_cast; first | done | rfl) (by push_cast; first | done | rfl) ?_ ?_
 ·omega
 ·push_cast
  simp
 ·intro k hk
  push_cast
  intro hg
  have hb := stamp_bd hf.2.2.1 k
  repeat' (first
 | (intro (K' : KT) hK'; push_cast; (repeat' refine And.intro ?_ ?_); all_goals (first | (apply hK'; clear hK' K') | (refine ⟨trivial, trivial, ?_⟩; apply hK'; clear hK' K') | (intro hb; (try push_cast at hb); all_goals (intros; apply hK'; clear hK' K')) | (clear hK' K'; first | omega | skip)))
 | apply Qar | apply Qa0 | apply Qac | apply Qah | apply Qaj | apply Qau
 | apply Qap | apply Qax | apply Qas | apply Qaq | apply Qa1 | apply Qal | apply Qae rfl | apply Qa6 | apply Qa7 | apply Qam | apply Qaz | apply Qay
 | (refine Qaf ?_; push_cast) | apply Qag | refine Qaa (Qa3 _ (by omega) (by omega)) ?_ | refine Qaa (Qb0 _ (by omega) (by omega)) ?_ | refine Qaa (Qba _ (by omega) (by omega)) ?_ | refine Qaa (Qa5 _ (by omega) (by omega)) ?_
 | refine Qai rfl rfl ?_ | refine Qat rfl rfl ?_
 | (refine Qak (by push_cast; first | done | rfl) ?_ ?_ <;> intro hc <;> (try push_cast at hc))
 | refine Qaw rfl rfl rfl (by push_cast; first | done | rfl) ?_
 | refine Qav rfl rfl rfl (by push_cast; first | done | rfl) ?_ ?_
 | (intro (hc : (_ : Prop)); (try push_cast at hc)) | intro (hc : Qad) | intro (hc : Int) | intro (hc : Nat))
  ·refine Qbv (k + 1) (by omega) (by omega) ?_
   have e : (56 + (k : Int)).toNat = 56 + k := by omega
   push_cast
   rw [e, wrap_u8, shr_u64, stamp_step, madeP_set k i total st piece (by omega) (by omega)]
   refine ⟨⟨by omega, ?_⟩, ?_⟩ <;> trivial
  ·have e8 : k = 8 := by omega
   rw [e8, madeP_8]
theorem made_con : Con Cx.P 87 (.pair (.int .i64) (.pair (.int .i64) (.pair (.int .u64) (.pair (.slice (.int .u8)) (.unit))))) (fun x => (fun (i : Int) (total : Int) (st : Int) (piece : List Int) => 0 ≤ i ∧ i < 256 ∧ 0 ≤ total ∧ total < 256 ∧ piece.length ≤ 53) x.1 x.2.1 x.2.2.1 x.2.2.2.1) (fun x => (fun (i : Int) (total : Int) (st : Int) (piece : List Int) => [.dat (.arr 64 (.int .u8)) (madeN i total st piece)]) x.1 x.2.1 x.2.2.1 x.2.2.2.1) := ⟨Quz, fun x h => made_fn x.1 x.2.1 x.2.2.1 x.2.2.2.1 h⟩
end Go.Proofs.Ytnmjcdlgfimnaaa
