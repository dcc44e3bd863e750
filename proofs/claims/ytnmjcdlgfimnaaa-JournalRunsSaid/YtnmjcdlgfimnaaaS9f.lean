/- Chapter 9: bytes put over sectors: the document's and the code's. -/
import Derived.Test.YtnmjcdlgfimnaaaS1
import Derived.Test.YtnmjcdlgfimnaaaS9d
import Derived.Test.YtnmjcdlgfimnaaaS9e
import Derived.Test.YtnmjcdlgfimnaaaB2
namespace Go.Proofs.Ytnmjcdlgfimnaaa
set_option linter.unusedSimpArgs false
set_option linter.unusedVariables false
set_option maxRecDepth 20000
attribute [local irreducible] Qb3 Qa9 vcA Qbp Wc
set_option maxHeartbeats 8000000
theorem r09Put_fn (d : Qab) (k : Int) (st : Int) (b : List Int) (hpre : d.Queue.length ≤ 999000) : Qck Cx.P 42 [.dat Qa2 d, .int .i64 k, .int .u64 st, .dat (.slice (.int .u8)) b] [.dat Qa2 (sPut d k st b).1, .int .i64 (sPut d k st b).2] := by
 refine Qck.go2 (E := Cx.env) (fn := Try.f42) (res := [_, _]) Try.func42 Que rfl rfl rfl (by kernel_rfl) rfl ?_
 push_cast
 try intro hf
 have hT := spanN_bd b.length
 have hL := secsN_len st b
 have h91 : st = 0 ∨ spanN b.length = 0 → sPut d k st b = (d, 91) := fun h => by unfold sPut; rw [if_pos h]
 have h81 : ¬ st = 0 → ¬ spanN b.length = 0 → (k < 0 ∨ (d.Base.length : Int) - spanN b.length < k) → sPut d k st b = (d, 81) := fun h1 h2 h => by unfold sPut; rw [if_neg (by omega), if_pos h]
 have hgo : ¬ st = 0 → ¬ spanN b.length = 0 → ¬ (k < 0 ∨ (d.Base.length : Int) - spanN b.length < k) → sPut d k st b = putAll d k (secsN st b) := fun h1 h2 h => by unfold sPut; rw [if_neg (by omega), if_neg h]
 repeat' (first
 | (intro (K' : KT) hK'; push_cast; (repeat' refine And.intro ?_ ?_); all_goals (first | (apply hK'; clear hK' K') | (refine ⟨trivial, trivial, ?_⟩; apply hK'; clear hK' K') | (intro hb; (try push_cast at hb); all_goals (intros; apply hK'; clear hK' K')) | ((first | refine Qbi r09Span_con (fun _ => rfl) ?_ | refine Qbg r09Sectors_con (fun _ => rfl) ?_); push_cast; (repeat' refine And.intro ?_ ?_); all_goals (first | (apply hK'; clear hK' K') | (intros; apply hK'; clear hK' K') | (clear hK' K'; first | omega | skip))) | (clear hK' K'; first | omega | skip)))
 | apply Qar | apply Qa0 | apply Qac | apply Qah | apply Qaj | apply Qau
 | apply Qap | apply Qax | apply Qas | apply Qaq | apply Qa1 | apply Qal | apply Qae rfl | apply Qa6 | apply Qa7 | apply Qam | apply Qaz | apply Qay
 | (refine Qaf ?_; push_cast) | apply Qag | refine Qaa (Qa3 _ (by omega) (by omega)) ?_ | refine Qaa (Qb0 _ (by omega) (by omega)) ?_ | refine Qaa (Qba _ (by omega) (by omega)) ?_ | refine Qaa (Qa5 _ (by omega) (by omega)) ?_
 | refine Qai rfl rfl ?_ | refine Qat rfl rfl ?_
 | (refine Qak (by push_cast; first | done | rfl) ?_ ?_ <;> intro hc <;> (try push_cast at hc))
 | refine Qaw rfl rfl rfl (by push_cast; first | done | rfl) ?_
 | refine Qav rfl rfl rfl (by push_cast; first | done | rfl) ?_ ?_
 | (intro (hc : (_ : Prop)); (try push_cast at hc)) | intro (hc : Qad) | intro (hc : Int) | intro (hc : Nat))
 ·rw [h91 (.inr ‹_›)]; exact ⟨rfl, rfl⟩
 ·rw [h81 ‹_› ‹_› (.inr (by omega))]; exact ⟨rfl, rfl⟩
 ·have hp := hgo ‹_› ‹_› (by omega)
  clear hgo h81 h91
  refine Qbu [9, 11, 12, 13, 14, 42, 43, 44, 45, 46, 47, 48, 49, 50, 51, 52, 53, 54, 55, 56, 57, 58, 59, 60, 61] [4, 12, 13, 53] (fun (p : Qab × Nat) => PutTo d k (secsN st b) p.1 p.2) (fun (p : Qab × Nat) => [(42, .one (.l (.int .i64 p.2)))]) (fun (p : Qab × Nat) => [(4, .segs [.dat Qa2 p.1])]) (fun (p : Qab × Nat) => (secsN st b).length - p.2) (d, 0) ?_ (by push_cast; first | done | rfl) (by push_cast; first | done | rfl) ?_ ?_
  ·exact putTo_0 _ _ _
  ·push_cast
  ·rintro ⟨F, i⟩ hi
   simp only at hi
   push_cast
   intro hg
   have hq := hi.q
   have hle := hi.le
   repeat' (first
 | (intro (K' : KT) hK'; push_cast; (repeat' refine And.intro ?_ ?_); all_goals (first | (apply hK'; clear hK' K') | (refine ⟨trivial, trivial, ?_⟩; apply hK'; clear hK' K') | (intro hb; (try push_cast at hb); all_goals (intros; apply hK'; clear hK' K')) | ((first | refine Qbg r08Put_con (fun _ => rfl) ?_); push_cast; (repeat' refine And.intro ?_ ?_); all_goals (first | (apply hK'; clear hK' K') | (intros; apply hK'; clear hK' K') | (clear hK' K'; first | omega | skip))) | (clear hK' K'; first | omega | skip)))
 | apply Qar | apply Qa0 | apply Qac | apply Qah | apply Qaj | apply Qau
 | apply Qap | apply Qax | apply Qas | apply Qaq | apply Qa1 | apply Qal | apply Qae rfl | apply Qa6 | apply Qa7 | apply Qam | apply Qaz | apply Qay
 | (refine Qaf ?_; push_cast) | apply Qag | refine Qaa (Qa3 _ (by omega) (by omega)) ?_ | refine Qaa (Qb0 _ (by omega) (by omega)) ?_ | refine Qaa (Qba _ (by omega) (by omega)) ?_ | refine Qaa (Qa5 _ (by omega) (by omega)) ?_
 | refine Qai rfl rfl ?_ | refine Qat rfl rfl ?_
 | (refine Qak (by push_cast; first | done | rfl) ?_ ?_ <;> intro hc <;> (try push_cast at hc))
 | refine Qaw rfl rfl rfl (by push_cast; first | done | rfl) ?_
 | refine Qav rfl rfl rfl (by push_cast; first | done | rfl) ?_ ?_
 | (intro (hc : (_ : Prop)); (try push_cast at hc)) | intro (hc : Qad) | intro (hc : Int) | intro (hc : Nat))
   ·rw [hp, putTo_e hi (getD_some (Qc1 64 0) (by omega)) (by simpa using hc)]; exact ⟨rfl, rfl⟩
   ·refine Qbv (_, i + 1) (putTo_s hi (getD_some (Qc1 64 0) (by omega)) (by simpa using hc)) (by simp only; omega) ?_
    push_cast
   ·have e : i = (secsN st b).length := by omega
    subst e
    rw [hp, putTo_all hi]; exact ⟨rfl, rfl⟩
 ·rw [h81 ‹_› ‹_› (.inl ‹_›)]; exact ⟨rfl, rfl⟩
 ·rw [h91 (.inl ‹_›)]; exact ⟨rfl, rfl⟩
theorem r09Put_con : Con Cx.P 42 (.pair Qa2 (.pair (.int .i64) (.pair (.int .u64) (.pair (.slice (.int .u8)) (.unit))))) (fun x => (fun (d : Qab) (k : Int) (st : Int) (b : List Int) => d.Queue.length ≤ 999000) x.1 x.2.1 x.2.2.1 x.2.2.2.1) (fun x => (fun (d : Qab) (k : Int) (st : Int) (b : List Int) => [.dat Qa2 (sPut d k st b).1, .int .i64 (sPut d k st b).2]) x.1 x.2.1 x.2.2.1 x.2.2.2.1) := ⟨Que, fun x h => r09Put_fn x.1 x.2.1 x.2.2.1 x.2.2.2.1 h⟩
end Go.Proofs.Ytnmjcdlgfimnaaa
