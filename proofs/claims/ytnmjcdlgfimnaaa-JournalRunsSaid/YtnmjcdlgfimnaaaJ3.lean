/- Chapter 12's statements: what a journal should have. -/
import Derived.Test.YtnmjcdlgfimnaaaL12a
import Derived.Test.YtnmjcdlgfimnaaaJ2
namespace Go.Proofs.Ytnmjcdlgfimnaaa
def bigA12 (a : Qct) : Bool := decide (5000 < (a.Bytes.length : Int)) || decide (400 < (a.Keep.length : Int))
def greatB12 (l : List Qct) : Bool := decide (40 < (l.length : Int)) || l.any bigA12
theorem great12_len {l : List Qct} (h : greatB12 l = false) : l.length ≤ 40 := by
 simp only [greatB12, Bool.or_eq_false_iff, decide_eq_false_iff_not] at h
 omega
theorem any_take12 {l : List Qct} {i : Nat} (h : (l.take i).any bigA12 = false) (hi : i < l.length) (hb : bigA12 (l.getD i ⟨0, 0, [], []⟩) = false) : (l.take (i + 1)).any bigA12 = false := by
 rw [take_succ_getD l i ⟨0, 0, [], []⟩ hi, List.any_append, h]
 simpa using hb
theorem great12_hit {l : List Qct} {i : Nat} (hi : i < l.length) (hb : bigA12 (l.getD i ⟨0, 0, [], []⟩) = true) : greatB12 l = true := by
 simp only [greatB12, Bool.or_eq_true]
 exact .inr (List.any_eq_true.2 ⟨_, getD_mem l i _ hi, hb⟩)
theorem great12_small {l : List Qct} (h : greatB12 l = false) {x : Qct} (hx : x ∈ l) : x.Bytes.length ≤ 5000 := by
 simp only [greatB12, Bool.or_eq_false_iff] at h
 have := List.any_eq_false.1 h.2 x hx
 simp only [bigA12, Bool.or_eq_true, decide_eq_true_eq, not_or] at this
 omega
section
set_option linter.unusedSimpArgs false
set_option linter.unusedVariables false
set_option maxRecDepth 20000
attribute [local irreducible] Qb3 Qa9 vcA Qbp Wc
set_option maxHeartbeats 8000000
theorem great12_fn (acts : List Qct) : Qck Cx.P 73 [.dat (.slice Qce) acts] [.bool (greatB12 acts)] := by
 refine Qck.go2 (E := Cx.env) (fn := Try.f73) (res := [_]) Try.func73 Qtq rfl rfl rfl (by kernel_rfl) rfl ?_
 push_cast
 try intro hf
 repeat' (first
 | (intro (K' : KT) hK'; push_cast; (repeat' refine And.intro ?_ ?_); all_goals (first | (apply hK'; clear hK' K') | (refine ⟨trivial, trivial, ?_⟩; apply hK'; clear hK' K') | (intro hb; (try push_cast at hb); all_goals (intros; apply hK'; clear hK' K')) | (clear hK' K'; first | omega | skip)))
 | apply Qar | apply Qa0 | apply Qac | apply Qah | apply Qaj | apply Qau
 | apply Qap | apply Qax | apply Qas | apply Qaq | apply Qa1 | apply Qal | apply Qae rfl | apply Qa6 | apply Qa7 | apply Qam | apply Qaz | apply Qay
 | (refine Qaf ?_; push_cast) | apply Qag | refine Qaa (Qa3 _ (by omega) (by omega)) ?_ | refine Qaa (Qb0 _ (by omega) (by omega)) ?_ | refine Qaa (Qba _ (by omega) (by omega)) ?_ | refine Qaa (Qa5 _ (by omega) (by omega)) ?_
 | refine Qai rfl rfl ?_ | refine Qat rfl rfl ?_
 | (refine Qak (by push_cast; first | done | rfl) ?_ ?_ <;> intro hc <;> (try push_cast at hc))
 | refine Qaw rfl rfl rfl (by push_cast; first | done | rfl) ?_
 | refine Qav rfl rfl rfl (by push_cast; first | done | rfl) ?_ ?_
 | (intro (hc : (_ : Prop)); (try push_cast at hc)) | intro (hc : Qad) | intro (hc : Int) | intro (hc : Nat))
 ·simp [greatB12, ‹(40 : Int) < acts.length›]
 ·refine Qbu [2, 4, 10, 11, 12, 13, 14, 15, 16, 17, 18, 19, 20, 21, 22, 23, 24] [4, 16, 21] (fun (i : Nat) => i ≤ acts.length ∧ (acts.take i).any bigA12 = false) (fun (i : Nat) => [(10, .one (.l (.int .i64 i)))]) (fun (i : Nat) => []) (fun (i : Nat) => acts.length - i) 0 ?_ (by push_cast; first | done | rfl) (by push_cast; first | done | rfl) ?_ ?_
  ·exact ⟨Nat.zero_le _, by simp⟩
  ·push_cast
  ·rintro i ⟨hi, hall⟩
   push_cast
   intro hg
   repeat' (first
 | (intro (K' : KT) hK'; push_cast; (repeat' refine And.intro ?_ ?_); all_goals (first | (apply hK'; clear hK' K') | (refine ⟨trivial, trivial, ?_⟩; apply hK'; clear hK' K') | (intro hb; (try push_cast at hb); all_goals (intros; apply hK'; clear hK' K')) | (clear hK' K'; first | omega | skip)))
 | apply Qar | apply Qa0 | apply Qac | apply Qah | apply Qaj | apply Qau
 | apply Qap | apply Qax | apply Qas | apply Qaq | apply Qa1 | apply Qal | apply Qae rfl | apply Qa6 | apply Qa7 | apply Qam | apply Qaz | apply Qay
 | (refine Qaf ?_; push_cast) | apply Qag | refine Qaa (Qa3 _ (by omega) (by omega)) ?_ | refine Qaa (Qb0 _ (by omega) (by omega)) ?_ | refine Qaa (Qba _ (by omega) (by omega)) ?_ | refine Qaa (Qa5 _ (by omega) (by omega)) ?_
 | refine Qai rfl rfl ?_ | refine Qat rfl rfl ?_
 | (refine Qak (by push_cast; first | done | rfl) ?_ ?_ <;> intro hc <;> (try push_cast at hc))
 | refine Qaw rfl rfl rfl (by push_cast; first | done | rfl) ?_
 | refine Qav rfl rfl rfl (by push_cast; first | done | rfl) ?_ ?_
 | (intro (hc : (_ : Prop)); (try push_cast at hc)) | intro (hc : Qad) | intro (hc : Int) | intro (hc : Nat))
   ·rw [great12_hit (i := i) (by omega) (by simp [bigA12, -List.getD_eq_getElem?_getD, hc])]
   ·refine Qbv (i + 1) ⟨by omega, any_take12 hall (by omega) (by
     simp only [bigA12, Bool.or_eq_false_iff, decide_eq_false_iff_not]
     exact ⟨‹_›, ‹_›⟩)⟩ (by omega) ?_
    push_cast
   ·rw [great12_hit (i := i) (by omega) (by
     simp only [bigA12, Bool.or_eq_true, decide_eq_true_eq]
     exact .inl ‹_›)]
   ·have e : acts.take i = acts := List.take_of_length_le (by omega)
    rw [e] at hall
    simp only [greatB12, hall, Bool.or_false]
    simp [‹¬ (40 : Int) < acts.length›]
theorem great12_con : Con Cx.P 73 (.pair (.slice Qce) (.unit)) (fun x => (fun (acts : List Qct) => True) x.1) (fun x => (fun (acts : List Qct) => [.bool (greatB12 acts)]) x.1) := ⟨Qtq, fun x h => great12_fn x.1⟩
end
end Go.Proofs.Ytnmjcdlgfimnaaa
namespace Go.Proofs.Ytnmjcdlgfimnaaa
def bytesOk (c : List Int) : Prop := (∀ x ∈ c, 0 ≤ x ∧ x ≤ 255) ∧ c.length ≤ 5000
theorem go_joinK {E : Env} {K : KC} {sl sl1 : List (Nat × TV)} {mem mem1 : List (Nat × Box)} {pins : List Nat} {c : Code} {ι : Type} (W M : List Nat) (ok : ι → Prop) (ch : ι → List (Nat × TV)) (cm : ι → List (Nat × Box)) (hsl : Qkj W sl = sl1) (hmem : Qkg M mem = mem1)
    (hc : ∀ K' : KC, (∀ j s', ok j → Le2 ⟨ch j ++ sl1, cm j ++ mem1, pins⟩ s' → Qpn K' s') → (∀ e s', e ≠ .normal → K e s' → K' e s') → Qa9 E c ⟨sl, mem, pins⟩ K')
    (hy : ∀ j, ok j → K .normal ⟨ch j ++ sl1, cm j ++ mem1, pins⟩) : Qa9 E c ⟨sl, mem, pins⟩ K := by
 subst hsl hmem
 exact hc K (fun j s' hj hl => Qqa _ (.of_le2 hl) (hy j hj)) fun _ _ _ hk => hk
end Go.Proofs.Ytnmjcdlgfimnaaa
