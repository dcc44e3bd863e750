/- Chapter 11: two places: what counts. -/
import Derived.Test.YtnmjcdlgfimnaaaC10b
import Derived.Test.YtnmjcdlgfimnaaaS9s
import Derived.Test.YtnmjcdlgfimnaaaB2
namespace Go.Proofs.Ytnmjcdlgfimnaaa
theorem GLe.nild {s : SymSt} {t : Nat} {α : Type} (A : Rep α) (ht : getS s.sl t = .one (.l .nils)) : GLe (s.put t (.one (.l (.dat (.slice A) [])))) s := by
  refine ⟨rfl, fun R G γ a w hs => ⟨G, γ, Hp.le_refl G, hs.know ?_⟩⟩
  have h2 := hs.sl t
  rw [ht] at h2
  have h3 : a.tmps.getD t undef = .slice none 0 0 := by simpa [TV.rel, SV.rel, LV.relV, LV.rel] using h2
  rw [h3]
  exact ⟨[.slice none 0 0], (Rep.enc_slice A G _ _).2 ⟨none, 0, rfl, by simp, Nat.zero_le _, fun _ => rfl, .inl rfl⟩, by simp [Rep.mk, Rep.agg]⟩
theorem loop_nild {E : Env} {x : Code} {s : SymSt} {K : KC} {α : Type} (A : Rep α) (t : Nat) (ht : getS s.sl t = .one (.l .nils)) (h : vcCode E (.loop x) (s.put t (.one (.l (.dat (.slice A) [])))) K) : vcCode E (.loop x) s K := by
  obtain ⟨ι, ok, St, μ, ⟨i, hi, hle⟩, hro⟩ := h
  exact ⟨ι, ok, St, μ, ⟨i, hi, hle.trans (GLe.nild A ht)⟩, hro⟩
def rightB (D : R08Disk) (k z : Int) : Bool := decide (0 ≤ k) && decide (1 ≤ z) && decide (z ≤ 255) && decide (k ≤ (D.Base.length : Int) - 2 * z)
theorem rightB_iff {D : R08Disk} {k z : Int} : rightB D k z = true ↔ 0 ≤ k ∧ 1 ≤ z ∧ z ≤ 255 ∧ k ≤ (D.Base.length : Int) - 2 * z := by
  simp only [rightB, Bool.and_eq_true, decide_eq_true_eq, and_assoc]
section
set_option linter.unusedSimpArgs false
set_option linter.unusedVariables false
set_option maxRecDepth 20000
attribute [local irreducible] vcOps vcCode vcA vcSch Wc
set_option maxHeartbeats 8000000
theorem slRight_fn (D : R08Disk) (k z : Int) :
    Spec Cx.P 95 [.l (.ptr 1 [] 0), .l (.int .i64 k), .l (.int .i64 z)] [(1, .obj DiskO D)] (tvL [.bool (rightB D k z)]) [(1, .obj DiskO D)] := by
  refine Spec_disk isfn95 fun hw hG => ?_
  have hbase := hw.many
  have h1 : 0 ≤ k → 1 ≤ z → z ≤ 255 → rightB D k z = decide (k ≤ (D.Base.length : Int) - 2 * z) := fun a b c => by simp [rightB, a, b, c]
  have h2 : ¬ (0 ≤ k ∧ 1 ≤ z ∧ z ≤ 255 ∧ k ≤ (D.Base.length : Int) - 2 * z) → rightB D k z = false := fun h => by
    cases hr : rightB D k z
    · rfl
    · exact absurd (rightB_iff.1 hr) h
  refine Spec.go2 (E := Cx.env) (fn := Try.f95) (res := [_]) _ (Opens.refl _) Try.func95 isfn95 rfl rfl (by simp [idsV, SV.ids, LV.ids]) (by simp [idsM]) (by kernel_rfl) rfl ?_
  intro hf
  try push_cast at hf
  intro _
  repeat' (first
    | (intro (K' : KT) hK'; push_cast; (repeat' refine And.intro ?_ ?_); all_goals (first | (apply hK'; clear hK' K') | (refine ⟨trivial, trivial, ?_⟩; apply hK'; clear hK' K') | (intro hb; (try push_cast at hb); all_goals (intros; apply hK'; clear hK' K')) | ((first | refine call_1 Size_con (fun _ _ => rfl) ?_); push_cast; (repeat' refine And.intro ?_ ?_); all_goals (first | (apply hK'; clear hK' K') | (intros; apply hK'; clear hK' K') | (clear hK' K'; first | omega | skip))) | (clear hK' K'; first | omega | skip)))
    | apply go_seq | apply go_region | apply go_skip | apply go_exit | apply go_ret
    | apply seqK_n | apply seqK_x | apply seqK_r | apply regK_go | apply finK_n | apply finK_r
    | (refine vres_go ?_; push_cast) | apply ops_nil | refine ops_in (w_i64 _ (by omega) (by omega)) ?_ | refine ops_in (w_u8 _ (by omega) (by omega)) ?_ | refine ops_in (w_u32 _ (by omega) (by omega)) ?_ | refine ops_in (w_u64 _ (by omega) (by omega)) ?_
    | refine ops_put rfl rfl ?_ | refine ops_no rfl rfl ?_
    | (refine go_cond (by push_cast; first | done | rfl) ?_ ?_ <;> intro hc <;> (try push_cast at hc))
    | refine ops_gt rfl rfl rfl (by push_cast; first | done | rfl) ?_
    | refine ops_gb rfl rfl rfl (by push_cast; first | done | rfl) ?_ ?_
    | (intro (hc : (_ : Prop)); (try push_cast at hc)) | intro (hc : R08Item) | intro (hc : Int) | intro (hc : Nat))
  · rw [h1 ‹_› ‹_› ‹_›]
    (refine Fin2.fin ⟨[(1, .obj DiskO D)], ?_, ?_, ?_, Closes.refl _, ?_⟩
     · push_cast
     · push_cast
     · simp [idsM]
     · simp [tvL, TV.ids, SV.ids, LV.ids, idsV])
  · rw [h2 (by omega)]
    (refine Fin2.fin ⟨[(1, .obj DiskO D)], ?_, ?_, ?_, Closes.refl _, ?_⟩
     · push_cast
     · push_cast
     · simp [idsM]
     · simp [tvL, TV.ids, SV.ids, LV.ids, idsV])
  · rw [h2 (by omega)]
    (refine Fin2.fin ⟨[(1, .obj DiskO D)], ?_, ?_, ?_, Closes.refl _, ?_⟩
     · push_cast
     · push_cast
     · simp [idsM]
     · simp [tvL, TV.ids, SV.ids, LV.ids, idsV])
  · rw [h2 (by omega)]
    (refine Fin2.fin ⟨[(1, .obj DiskO D)], ?_, ?_, ?_, Closes.refl _, ?_⟩
     · push_cast
     · push_cast
     · simp [idsM]
     · simp [tvL, TV.ids, SV.ids, LV.ids, idsV])
theorem slRight_con : Con1 Cx.P 95 DiskO (.pair (.int .i64) (.pair (.int .i64) .unit)) (fun _ _ => True) (fun D x => [.bool (rightB D x.1 x.2.1)]) (fun D _ => D) := ⟨isfn95, fun D x _ => slRight_fn D x.1 x.2.1⟩
theorem slPlace_fn (k : Int) (z : Int) (g : Int) (hpre : 0 ≤ k ∧ k ≤ 1000000 ∧ 0 ≤ z ∧ z ≤ 1000000) : Pure Cx.P 96 [.int .i64 k, .int .i64 z, .int .u64 g] [.int .i64 (k + z * (g % 2))] := by
  refine Pure.go2 (E := Cx.env) (fn := Try.f96) (res := [_]) Try.func96 isfn96 rfl rfl rfl (by kernel_rfl) rfl ?_
  push_cast
  try intro hf
  repeat' (first
    | (intro (K' : KT) hK'; push_cast; (repeat' refine And.intro ?_ ?_); all_goals (first | (apply hK'; clear hK' K') | (refine ⟨trivial, trivial, ?_⟩; apply hK'; clear hK' K') | (intro hb; (try push_cast at hb); all_goals (intros; apply hK'; clear hK' K')) | (clear hK' K'; first | omega | skip)))
    | apply go_seq | apply go_region | apply go_skip | apply go_exit | apply go_ret
    | apply seqK_n | apply seqK_x | apply seqK_r | apply regK_go | apply finK_n | apply finK_r
    | (refine vres_go ?_; push_cast) | apply ops_nil | refine ops_in (w_i64 _ (by omega) (by omega)) ?_ | refine ops_in (w_u8 _ (by omega) (by omega)) ?_ | refine ops_in (w_u32 _ (by omega) (by omega)) ?_ | refine ops_in (w_u64 _ (by omega) (by omega)) ?_
    | refine ops_put rfl rfl ?_ | refine ops_no rfl rfl ?_
    | (refine go_cond (by push_cast; first | done | rfl) ?_ ?_ <;> intro hc <;> (try push_cast at hc))
    | refine ops_gt rfl rfl rfl (by push_cast; first | done | rfl) ?_
    | refine ops_gb rfl rfl rfl (by push_cast; first | done | rfl) ?_ ?_
    | (intro (hc : (_ : Prop)); (try push_cast at hc)) | intro (hc : R08Item) | intro (hc : Int) | intro (hc : Nat))
  have h2 : g.tmod 2 = g % 2 := Int.tmod_eq_emod_of_nonneg hf.2.2.1
  have h3 : g % 2 = 0 ∨ g % 2 = 1 := by omega
  rw [h2, w_i64 (g % 2) (by omega) (by omega)]
  rcases h3 with h | h <;> rw [h]
  · rw [w_i64 (z * 0) (by omega) (by omega), w_i64 _ (by omega) (by omega)]
  · rw [w_i64 (z * 1) (by omega) (by omega), w_i64 _ (by omega) (by omega)]
theorem slPlace_con : Con Cx.P 96 (.pair (.int .i64) (.pair (.int .i64) (.pair (.int .u64) (.unit)))) (fun x => (fun (k : Int) (z : Int) (g : Int) => 0 ≤ k ∧ k ≤ 1000000 ∧ 0 ≤ z ∧ z ≤ 1000000) x.1 x.2.1 x.2.2.1) (fun x => (fun (k : Int) (z : Int) (g : Int) => [.int .i64 (k + z * (g % 2))]) x.1 x.2.1 x.2.2.1) := ⟨isfn96, fun x h => slPlace_fn x.1 x.2.1 x.2.2.1 h⟩
end
end Go.Proofs.Ytnmjcdlgfimnaaa
