/- Chapter 11: two places: what counts. -/
import Derived.Test.YtnmjcdlgfimnaaaC10b
import Derived.Test.YtnmjcdlgfimnaaaS2
import Derived.Test.YtnmjcdlgfimnaaaB2
namespace Go.Proofs.Ytnmjcdlgfimnaaa
theorem GLe.nild {s : Qan} {t : Nat} {α : Type} (A : Rep α) (ht : Qd7 s.sl t = .one (.l .nils)) : GLe (s.put t (.one (.l (.dat (.slice A) [])))) s := by
 refine ⟨rfl, fun R G γ a w hs => ⟨G, γ, Hp.le_refl G, hs.know ?_⟩⟩
 have h2 := hs.sl t
 rw [ht] at h2
 have h3 : a.tmps.getD t undef = .slice none 0 0 := by simpa [TV.rel, SV.rel, LV.relV, LV.rel] using h2
 rw [h3]
 exact ⟨[.slice none 0 0], (Rep.enc_slice A G _ _).2 ⟨none, 0, rfl, by simp, Nat.zero_le _, fun _ => rfl, .inl rfl⟩, by simp [Rep.mk, Rep.agg]⟩
theorem loop_nild {E : Env} {x : Code} {s : Qan} {K : KC} {α : Type} (A : Rep α) (t : Nat) (ht : Qd7 s.sl t = .one (.l .nils)) (h : Qa9 E (.loop x) (s.put t (.one (.l (.dat (.slice A) [])))) K) : Qa9 E (.loop x) s K := by
 obtain ⟨ι, ok, St, μ, ⟨i, hi, hle⟩, hro⟩ := h
 exact ⟨ι, ok, St, μ, ⟨i, hi, hle.trans (GLe.nild A ht)⟩, hro⟩
def rightB (D : Qab) (k z : Int) : Bool := decide (0 ≤ k) && decide (1 ≤ z) && decide (z ≤ 255) && decide (k ≤ (D.Base.length : Int) - 2 * z)
theorem rightB_iff {D : Qab} {k z : Int} : rightB D k z = true ↔ 0 ≤ k ∧ 1 ≤ z ∧ z ≤ 255 ∧ k ≤ (D.Base.length : Int) - 2 * z := by
 simp only [rightB, Bool.and_eq_true, decide_eq_true_eq, and_assoc]
section
set_option linter.unusedSimpArgs false
set_option linter.unusedVariables false
set_option maxRecDepth 20000
attribute [local irreducible] Qb3 Qa9 vcA Qbp Wc
set_option maxHeartbeats 8000000
theorem slRight_fn (D : Qab) (k z : Int) :
    Qcs Cx.P 95 [.l (.ptr 1 [] 0), .l (.int .i64 k), .l (.int .i64 z)] [(1, .obj DiskO D)] (tvL [.bool (rightB D k z)]) [(1, .obj DiskO D)] := by
 refine Spec_disk Qsd fun hw hG => ?_
 have hbase := hw.many
 have h1 : 0 ≤ k → 1 ≤ z → z ≤ 255 → rightB D k z = decide (k ≤ (D.Base.length : Int) - 2 * z) := fun a b c => by simp [rightB, a, b, c]
 have h2 : ¬ (0 ≤ k ∧ 1 ≤ z ∧ z ≤ 255 ∧ k ≤ (D.Base.length : Int) - 2 * z) → rightB D k z = false := fun h => by
  cases hr : rightB D k z
  ·rfl
  ·exact absurd (rightB_iff.1 hr) h
 refine Qcs.go2 (E := Cx.env) (fn := Try.f95) (res := [_]) _ (Qc2.refl _) Try.func95 Qsd rfl rfl (by simp [Qb1, SV.ids, LV.ids]) (by simp [Qao]) (by kernel_rfl) rfl ?_
 intro hf
 try push_cast at hf
 intro _
 repeat' (first
 | (intro (K' : KT) hK'; push_cast; (repeat' refine And.intro ?_ ?_); all_goals (first | (apply hK'; clear hK' K') | (refine ⟨trivial, trivial, ?_⟩; apply hK'; clear hK' K') | (intro hb; (try push_cast at hb); all_goals (intros; apply hK'; clear hK' K')) | ((first | refine Qbr Size_con (fun _ _ => rfl) ?_); push_cast; (repeat' refine And.intro ?_ ?_); all_goals (first | (apply hK'; clear hK' K') | (intros; apply hK'; clear hK' K') | (clear hK' K'; first | omega | skip))) | (clear hK' K'; first | omega | skip)))
 | apply Qar | apply Qac | apply Qah | apply Qaj | apply Qau
 | apply Qap | apply Qax | apply Qas | apply Qam | apply Qaz | apply Qay
 | (refine Qaf ?_; push_cast) | apply Qag | refine Qaa (Qa3 _ (by omega) (by omega)) ?_ | refine Qaa (Qb0 _ (by omega) (by omega)) ?_ | refine Qaa (Qba _ (by omega) (by omega)) ?_ | refine Qaa (Qa5 _ (by omega) (by omega)) ?_
 | refine Qai rfl rfl ?_ | refine Qat rfl rfl ?_
 | (refine Qak (by push_cast; first | done | rfl) ?_ ?_ <;> intro hc <;> (try push_cast at hc))
 | refine Qaw rfl rfl rfl (by push_cast; first | done | rfl) ?_
 | refine Qav rfl rfl rfl (by push_cast; first | done | rfl) ?_ ?_
 | (intro (hc : (_ : Prop)); (try push_cast at hc)) | intro (hc : Qad) | intro (hc : Int) | intro (hc : Nat))
 ·rw [h1 ‹_› ‹_› ‹_›]
  (refine Qc9.fin ⟨[(1, .obj DiskO D)], ?_, ?_, ?_, Qbb.refl _, ?_⟩
   ·push_cast
   ·push_cast
   ·simp [Qao]
   ·simp [tvL, TV.ids, SV.ids, LV.ids, Qb1])
 ·rw [h2 (by omega)]
  (refine Qc9.fin ⟨[(1, .obj DiskO D)], ?_, ?_, ?_, Qbb.refl _, ?_⟩
   ·push_cast
   ·push_cast
   ·simp [Qao]
   ·simp [tvL, TV.ids, SV.ids, LV.ids, Qb1])
 ·rw [h2 (by omega)]
  (refine Qc9.fin ⟨[(1, .obj DiskO D)], ?_, ?_, ?_, Qbb.refl _, ?_⟩
   ·push_cast
   ·push_cast
   ·simp [Qao]
   ·simp [tvL, TV.ids, SV.ids, LV.ids, Qb1])
 ·rw [h2 (by omega)]
  (refine Qc9.fin ⟨[(1, .obj DiskO D)], ?_, ?_, ?_, Qbb.refl _, ?_⟩
   ·push_cast
   ·push_cast
   ·simp [Qao]
   ·simp [tvL, TV.ids, SV.ids, LV.ids, Qb1])
theorem slRight_con : Qkc Cx.P 95 DiskO (.pair (.int .i64) (.pair (.int .i64) .unit)) (fun _ _ => True) (fun D x => [.bool (rightB D x.1 x.2.1)]) (fun D _ => D) := ⟨Qsd, fun D x _ => slRight_fn D x.1 x.2.1⟩
theorem slPlace_fn (k : Int) (z : Int) (g : Int) (hpre : 0 ≤ k ∧ k ≤ 1000000 ∧ 0 ≤ z ∧ z ≤ 1000000) : Qck Cx.P 96 [.int .i64 k, .int .i64 z, .int .u64 g] [.int .i64 (k + z * (g % 2))] := by
 refine Qck.go2 (E := Cx.env) (fn := Try.f96) (res := [_]) Try.func96 Qt7 rfl rfl rfl (by kernel_rfl) rfl ?_
 push_cast
 try intro hf
 repeat' (first
 | (intro (K' : KT) hK'; push_cast; (repeat' refine And.intro ?_ ?_); all_goals (first | (apply hK'; clear hK' K') | (refine ⟨trivial, trivial, ?_⟩; apply hK'; clear hK' K') | (intro hb; (try push_cast at hb); all_goals (intros; apply hK'; clear hK' K')) | (clear hK' K'; first | omega | skip)))
 | apply Qar | apply Qac | apply Qah | apply Qaj | apply Qau
 | apply Qap | apply Qax | apply Qas | apply Qam | apply Qaz | apply Qay
 | (refine Qaf ?_; push_cast) | apply Qag | refine Qaa (Qa3 _ (by omega) (by omega)) ?_ | refine Qaa (Qb0 _ (by omega) (by omega)) ?_ | refine Qaa (Qba _ (by omega) (by omega)) ?_ | refine Qaa (Qa5 _ (by omega) (by omega)) ?_
 | refine Qai rfl rfl ?_ | refine Qat rfl rfl ?_
 | (refine Qak (by push_cast; first | done | rfl) ?_ ?_ <;> intro hc <;> (try push_cast at hc))
 | refine Qaw rfl rfl rfl (by push_cast; first | done | rfl) ?_
 | refine Qav rfl rfl rfl (by push_cast; first | done | rfl) ?_ ?_
 | (intro (hc : (_ : Prop)); (try push_cast at hc)) | intro (hc : Qad) | intro (hc : Int) | intro (hc : Nat))
 have h2 : g.tmod 2 = g % 2 := Int.tmod_eq_emod_of_nonneg hf.2.2.1
 have h3 : g % 2 = 0 ∨ g % 2 = 1 := by omega
 rw [h2, Qa3 (g % 2) (by omega) (by omega)]
 rcases h3 with h | h <;> rw [h]
 ·rw [Qa3 (z * 0) (by omega) (by omega), Qa3 _ (by omega) (by omega)]
 ·rw [Qa3 (z * 1) (by omega) (by omega), Qa3 _ (by omega) (by omega)]
theorem slPlace_con : Con Cx.P 96 (.pair (.int .i64) (.pair (.int .i64) (.pair (.int .u64) (.unit)))) (fun x => (fun (k : Int) (z : Int) (g : Int) => 0 ≤ k ∧ k ≤ 1000000 ∧ 0 ≤ z ∧ z ≤ 1000000) x.1 x.2.1 x.2.2.1) (fun x => (fun (k : Int) (z : Int) (g : Int) => [.int .i64 (k + z * (g % 2))]) x.1 x.2.1 x.2.2.1) := ⟨Qt7, fun x h => slPlace_fn x.1 x.2.1 x.2.2.1 h⟩
end
end Go.Proofs.Ytnmjcdlgfimnaaa
