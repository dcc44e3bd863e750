/- Chapter 7 in the document: a register bit by bit, and what the code has for it. -/
import Derived.Test.YtnmjcdlgfimnaaaS4
import Derived.Test.YtnmjcdlgfimnaaaL3
namespace Go.Proofs.Ytnmjcdlgfimnaaa
section
set_option linter.unusedSimpArgs false
set_option linter.unusedVariables false
set_option maxRecDepth 20000
attribute [local irreducible] Qb3 Qa9 vcA Qbp Wc
set_option maxHeartbeats 8000000
theorem r11Put_fn (d : Qab) (k : Int) (z : Int) (c : List Int) (hpre : d.Base.length ≤ 4096 ∧ d.Queue.length ≤ 900000 ∧ c.length ≤ 900000 ∧ ∀ y ∈ d.Queue, 0 ≤ y.To ∧ y.To < d.Base.length) : Qck Cx.P 63 [.dat Qa2 d, .int .i64 k, .int .i64 z, .dat (.slice (.int .u8)) c] [.dat Qa2 (slWrite d k z c).1, .int .u64 (slWrite d k z c).2.1, .int .i64 (slWrite d k z c).2.2] := by
 refine Qck.go2 (E := Cx.env) (fn := Try.f63) (res := [_, _, _]) Try.func63 Qt2 rfl rfl rfl (by kernel_rfl) rfl ?_
 push_cast
 try intro hf
 have hsp := spanN_bd (closeN c).length
 have hng := nextG_bd d k z
 have h111 : ¬ (rightB d k z = true ∧ spanN (closeN c).length ≠ 0 ∧ spanN (closeN c).length ≤ z) → slWrite d k z c = (d, 0, 111) := fun h => by unfold slWrite; rw [if_neg h]
 cases hr : rightB d k z
 ·have e : slWrite d k z c = (d, 0, 111) := h111 (by rw [hr]; simp)
  repeat' (first
 | (intro (K' : KT) hK'; push_cast; (repeat' refine And.intro ?_ ?_); all_goals (first | (apply hK'; clear hK' K') | (refine ⟨trivial, trivial, ?_⟩; apply hK'; clear hK' K') | (intro hb; (try push_cast at hb); all_goals (intros; apply hK'; clear hK' K')) | ((first | refine Qbg r07Close_con (fun _ => rfl) ?_ | refine Qbi r09Span_con (fun _ => rfl) ?_ | refine Qbi r11Right_con (fun _ => rfl) ?_); push_cast; (repeat' refine And.intro ?_ ?_); all_goals (first | (apply hK'; clear hK' K') | (intros; apply hK'; clear hK' K') | (clear hK' K'; first | omega | skip))) | (clear hK' K'; first | omega | skip)))
 | apply Qar | apply Qac | apply Qah | apply Qaj | apply Qau
 | apply Qap | apply Qax | apply Qas | apply Qam | apply Qaz | apply Qay
 | (refine Qaf ?_; push_cast) | apply Qag | refine Qaa (Qa3 _ (by omega) (by omega)) ?_ | refine Qaa (Qb0 _ (by omega) (by omega)) ?_ | refine Qaa (Qba _ (by omega) (by omega)) ?_ | refine Qaa (Qa5 _ (by omega) (by omega)) ?_
 | refine Qai rfl rfl ?_ | refine Qat rfl rfl ?_
 | (refine Qak (by push_cast; first | done | rfl) ?_ ?_ <;> intro hc <;> (try push_cast at hc))
 | refine Qaw rfl rfl rfl (by push_cast; first | done | rfl) ?_
 | refine Qav rfl rfl rfl (by push_cast; first | done | rfl) ?_ ?_
 | (intro (hc : (_ : Prop)); (try push_cast at hc)) | intro (hc : Qad) | intro (hc : Int) | intro (hc : Nat))
  ·rw [e]; exact ⟨rfl, rfl, rfl⟩
  ·exfalso; have h9 := ‹(!rightB d k z) = false›; rw [hr] at h9; simp at h9
  ·rw [e]; exact ⟨rfl, rfl, rfl⟩
  ·rw [e]; exact ⟨rfl, rfl, rfl⟩
 ·have hr2 := rightB_iff.1 hr
  have hnx : slNext d k z = (nextG d k z, 0) := by unfold slNext; rw [if_pos hr]
  have htm : (nextG d k z).tmod 2 = nextG d k z % 2 := Int.tmod_eq_emod_of_nonneg hng.1
  have hz2 : 0 ≤ z * (nextG d k z % 2) ∧ z * (nextG d k z % 2) ≤ z := by
   have h3 : nextG d k z % 2 = 0 ∨ nextG d k z % 2 = 1 := by omega
   rcases h3 with h | h <;> rw [h] <;> omega
  have hw1 : IntKind.i64.wrap (nextG d k z % 2) = nextG d k z % 2 := Qa3 _ (by omega) (by omega)
  repeat' (first
 | (intro (K' : KT) hK'; push_cast; (repeat' refine And.intro ?_ ?_); all_goals (first | (apply hK'; clear hK' K') | (refine ⟨trivial, trivial, ?_⟩; apply hK'; clear hK' K') | (intro hb; (try push_cast at hb); all_goals (intros; apply hK'; clear hK' K')) | ((first | refine Qbg r07Close_con (fun _ => rfl) ?_ | refine Qbi r09Span_con (fun _ => rfl) ?_ | refine Qbi r11Right_con (fun _ => rfl) ?_ | refine Qbi r11Next_con (fun _ => rfl) ?_); push_cast; (repeat' refine And.intro ?_ ?_); all_goals (first | (apply hK'; clear hK' K') | (intros; apply hK'; clear hK' K') | (clear hK' K'; first | omega | skip))) | (clear hK' K'; first | omega | skip)))
 | apply Qar | refine Qbo (id := 5) ?_ | apply Qac | apply Qah | apply Qaj | apply Qau
 | apply Qap | apply Qax | apply Qas | apply Qam | apply Qaz | apply Qay
 | (refine Qaf ?_; push_cast) | apply Qag | refine Qaa (Qa3 _ (by omega) (by omega)) ?_ | refine Qaa (Qb0 _ (by omega) (by omega)) ?_ | refine Qaa (Qba _ (by omega) (by omega)) ?_ | refine Qaa (Qa5 _ (by omega) (by omega)) ?_
 | refine Qai rfl rfl ?_ | refine Qat rfl rfl ?_
 | (refine Qak (by push_cast; first | done | rfl) ?_ ?_ <;> intro hc <;> (try push_cast at hc))
 | refine Qaw rfl rfl rfl (by push_cast; first | done | rfl) ?_
 | refine Qav rfl rfl rfl (by push_cast; first | done | rfl) ?_ ?_
 | (intro (hc : (_ : Prop)); (try push_cast at hc)) | intro (hc : Qad) | intro (hc : Int) | intro (hc : Nat))
  ·rw [h111 (by omega)]; exact ⟨rfl, rfl, rfl⟩
  ·rw [hnx]
   apply Qc5
   push_cast
   have hsq := sPut_q d (k + z * (nextG d k z % 2)) (nextG d k z) (closeN c)
   generalize hgg : nextG d k z = g at *
   have hto := sPut_to hpre.2.2.2 (k + z * (g % 2)) g (closeN c)
   have hwk : IntKind.i64.wrap (k + IntKind.i64.wrap (z * g.tmod 2)) = k + z * (g % 2) := by
    rw [htm, Qa3 (z * (g % 2)) (by omega) (by omega), Qa3 _ (by omega) (by omega)]
   have ha : rightB d k z = true ∧ spanN (closeN c).length ≠ 0 ∧ spanN (closeN c).length ≤ z := ⟨hr, by omega, by omega⟩
   have e82 : (sPut d (k + z * (g % 2)) g (closeN c)).2 ≠ 0 → slWrite d k z c = ((sPut d (k + z * (g % 2)) g (closeN c)).1, 0, (sPut d (k + z * (g % 2)) g (closeN c)).2) := fun h => by
    unfold slWrite slPutD
    rw [hgg, if_pos ha, if_pos h]
   have efl : (sPut d (k + z * (g % 2)) g (closeN c)).2 = 0 → (dFlush (sPut d (k + z * (g % 2)) g (closeN c)).1).2 ≠ 0 → slWrite d k z c = ((dFlush (sPut d (k + z * (g % 2)) g (closeN c)).1).1, 0, (dFlush (sPut d (k + z * (g % 2)) g (closeN c)).1).2) := fun h h2 => by
    unfold slWrite slPutD
    rw [hgg, if_pos ha, if_neg (by simpa using h), if_pos h2]
   have eok : (sPut d (k + z * (g % 2)) g (closeN c)).2 = 0 → (dFlush (sPut d (k + z * (g % 2)) g (closeN c)).1).2 = 0 → slWrite d k z c = ((dFlush (sPut d (k + z * (g % 2)) g (closeN c)).1).1, g, 0) := fun h h2 => by
    unfold slWrite slPutD
    rw [hgg, if_pos ha, if_neg (by simpa using h), if_neg (by simpa using h2)]
   generalize hA : k + z * (g % 2) = a at *
   generalize hX : sPut d a g (closeN c) = X at *
   repeat' (first
 | (intro (K' : KT) hK'; push_cast; (repeat' refine And.intro ?_ ?_); all_goals (first | (apply hK'; clear hK' K') | (refine ⟨trivial, trivial, ?_⟩; apply hK'; clear hK' K') | (intro hb; (try push_cast at hb); all_goals (intros; apply hK'; clear hK' K')) | ((first | refine Qbg r09Put_con (fun _ => rfl) ?_ | refine Qbg r08Flush_con (fun _ => rfl) ?_); push_cast; (repeat' refine And.intro ?_ ?_); all_goals (first | (apply hK'; clear hK' K') | (intros; apply hK'; clear hK' K') | (clear hK' K'; first | omega | skip))) | (clear hK' K'; first | omega | skip)))
 | apply Qar | apply Qac | apply Qah | apply Qaj | apply Qau
 | apply Qap | apply Qax | apply Qas | apply Qam | apply Qaz | apply Qay
 | (refine Qaf ?_; push_cast) | apply Qag | refine Qaa (Qa3 _ (by omega) (by omega)) ?_ | refine Qaa (Qb0 _ (by omega) (by omega)) ?_ | refine Qaa (Qba _ (by omega) (by omega)) ?_ | refine Qaa (Qa5 _ (by omega) (by omega)) ?_
 | refine Qai rfl rfl ?_ | refine Qat rfl rfl ?_
 | (refine Qak (by push_cast; first | done | rfl) ?_ ?_ <;> intro hc <;> (try push_cast at hc))
 | refine Qaw rfl rfl rfl (by push_cast; first | done | rfl) ?_
 | refine Qav rfl rfl rfl (by push_cast; first | done | rfl) ?_ ?_
 | (intro (hc : (_ : Prop)); (try push_cast at hc)) | intro (hc : Qad) | intro (hc : Int) | intro (hc : Nat))
   all_goals (try simp only [hwk, hX] at *)
   ·rw [e82 (by simpa using hc)]; exact ⟨rfl, rfl, rfl⟩
   ·omega
   ·rw [hsq.2]; exact hto _ hc
   ·rw [efl (by simpa using ‹(!decide (X.2 = 0)) = false›) (by simpa using hc)]; exact ⟨rfl, rfl, rfl⟩
   ·rw [eok (by simpa using ‹(!decide (X.2 = 0)) = false›) (by simpa using hc)]; exact ⟨rfl, rfl, rfl⟩
  ·rw [h111 (by omega)]; exact ⟨rfl, rfl, rfl⟩
  ·exfalso; have h9 := ‹(!rightB d k z) = true›; rw [hr] at h9; simp at h9
theorem r11Put_con : Con Cx.P 63 (.pair Qa2 (.pair (.int .i64) (.pair (.int .i64) (.pair (.slice (.int .u8)) (.unit))))) (fun x => (fun (d : Qab) (k : Int) (z : Int) (c : List Int) => d.Base.length ≤ 4096 ∧ d.Queue.length ≤ 900000 ∧ c.length ≤ 900000 ∧ ∀ y ∈ d.Queue, 0 ≤ y.To ∧ y.To < d.Base.length) x.1 x.2.1 x.2.2.1 x.2.2.2.1) (fun x => (fun (d : Qab) (k : Int) (z : Int) (c : List Int) => [.dat Qa2 (slWrite d k z c).1, .int .u64 (slWrite d k z c).2.1, .int .i64 (slWrite d k z c).2.2]) x.1 x.2.1 x.2.2.1 x.2.2.2.1) := ⟨Qt2, fun x h => r11Put_fn x.1 x.2.1 x.2.2.1 x.2.2.2.1 h⟩
end
end Go.Proofs.Ytnmjcdlgfimnaaa
