/- Chapter 9's statements: whatever is written, with crashes between. -/
import Derived.Test.YtnmjcdlgfimnaaaL9c
import Derived.Test.YtnmjcdlgfimnaaaS9h
namespace Go.Proofs.Ytnmjcdlgfimnaaa
set_option linter.unusedSimpArgs false
set_option linter.unusedVariables false
set_option maxRecDepth 20000
attribute [local irreducible] vcOps vcCode vcA vcSch Wc
set_option maxHeartbeats 8000000
/-- An act: the disk behind it. -/
def actU (D : R08Disk) (x : L09Act) : R08Disk := if x.Kind = 0 then (sPut D x.At x.Stamp x.Bytes).1 else if x.Kind = 1 then (dFlush D).1 else if x.Kind = 2 then dFuse D x.At else if x.Kind = 3 then dPower D x.Keep else D
structure RunI (D : R08Disk) (k : Nat) : Prop where
  base : D.Base.length ≤ 40
  q : D.Queue.length ≤ 255 * k
  to : ∀ y ∈ D.Queue, 0 ≤ y.To ∧ y.To < D.Base.length
theorem runI_blank (n : Int) (h : n ≤ 40) : RunI (dBlank n) 0 := ⟨by simp only [dBlank, List.length_replicate]; omega, by simp [dBlank], by simp [dBlank]⟩
theorem dPut_to {D : R08Disk} (h : ∀ y ∈ D.Queue, 0 ≤ y.To ∧ y.To < D.Base.length) (k : Int) (s : List Int) : ∀ y ∈ (dPut D k s).1.Queue, 0 ≤ y.To ∧ y.To < D.Base.length := by
  have s2 := dSpend_queue D
  unfold dPut
  split
  · rename_i ht
    have ht := there_iff ht
    split
    · intro y hy
      simp only [s2, List.mem_append, List.mem_singleton] at hy
      rcases hy with hy | rfl
      · exact h y hy
      · exact ht
    · simp only [s2]; exact h
  · exact h
theorem putAll_to : ∀ (l : List (List Int)) {D : R08Disk} (_ : ∀ y ∈ D.Queue, 0 ≤ y.To ∧ y.To < D.Base.length) (k : Int), ∀ y ∈ (putAll D k l).1.Queue, 0 ≤ y.To ∧ y.To < D.Base.length
  | [], _, h, _ => h
  | s :: l, D, h, k => by
    have h1 := dPut_to h k s
    have h2 := dPut_len D k s
    unfold putAll
    split
    · exact h1
    · have := putAll_to l (D := (dPut D k s).1) (by rw [h2]; exact h1) (k + 1)
      rw [h2] at this
      exact this
theorem sPut_to {D : R08Disk} (h : ∀ y ∈ D.Queue, 0 ≤ y.To ∧ y.To < D.Base.length) (k st : Int) (b : List Int) : ∀ y ∈ (sPut D k st b).1.Queue, 0 ≤ y.To ∧ y.To < D.Base.length := by
  unfold sPut
  split
  · exact h
  · split
    · exact h
    · exact putAll_to _ h k
theorem runI_act {D : R08Disk} {k : Nat} (h : RunI D k) (x : L09Act) : RunI (actU D x) (k + 1) := by
  obtain ⟨h1, h2, h3⟩ := h
  have s1 := dSpend_base D
  have s2 := dSpend_queue D
  unfold actU
  split
  · have := sPut_q D x.At x.Stamp x.Bytes
    exact ⟨by omega, by omega, by rw [this.2]; exact sPut_to h3 _ _ _⟩
  split
  · unfold dFlush
    split
    · exact ⟨by simp only [landAll_len]; exact h1, by simp, by simp⟩
    · exact ⟨by simp only [s1]; exact h1, by simp only [s2]; omega, by simp only [s1, s2]; exact h3⟩
  split
  · exact ⟨h1, by simp only [dFuse]; omega, h3⟩
  split
  · exact ⟨by simp only [dPower, landAll_len]; exact h1, by simp [dPower], by simp [dPower]⟩
  · exact ⟨h1, by omega, h3⟩
theorem same_fn (D : R08Disk) (k e : Int) :
    Spec Cx.P 46 [.l (.ptr 1 [] 0), .l (.dat rR08Disk D), .l (.int .i64 k), .l (.int .i64 e)] [(1, .obj DiskO D)] (tvL [.bool true]) [(1, .obj DiskO D)] := by
  refine Spec.go2 (E := Cx.env) (fn := Try.f46) (res := [_]) _ (Opens.refl _) Try.func46 isfn46 rfl rfl (by simp [idsV, SV.ids, LV.ids]) (by simp [idsM]) (by kernel_rfl) rfl ?_
  intro hf
  try push_cast at hf
  intro _
  repeat' (first
    | (intro (K' : KT) hK'; push_cast; (repeat' refine And.intro ?_ ?_); all_goals (first | (apply hK'; clear hK' K') | (refine ⟨trivial, trivial, ?_⟩; apply hK'; clear hK' K') | (intro hb; (try push_cast at hb); all_goals (intros; apply hK'; clear hK' K')) | ((first | refine call_1 Read_con (fun _ _ => rfl) ?_ | refine call_N r09Read_con (fun _ => rfl) ?_); push_cast; (repeat' refine And.intro ?_ ?_); all_goals (first | (apply hK'; clear hK' K') | (intros; apply hK'; clear hK' K') | (clear hK' K'; first | omega | skip))) | (clear hK' K'; first | omega | skip)))
    | apply go_seq | apply go_region | apply go_skip | apply go_exit | apply go_ret
    | apply seqK_n | apply seqK_x | apply seqK_r | apply regK_go | apply finK_n | apply finK_r
    | (refine vres_go ?_; push_cast) | apply ops_nil | refine ops_in (w_i64 _ (by omega) (by omega)) ?_ | refine ops_in (w_u8 _ (by omega) (by omega)) ?_ | refine ops_in (w_u32 _ (by omega) (by omega)) ?_ | refine ops_in (w_u64 _ (by omega) (by omega)) ?_
    | refine ops_put rfl rfl ?_ | refine ops_no rfl rfl ?_
    | (refine go_cond (by push_cast; first | done | rfl) ?_ ?_ <;> intro hc <;> (try push_cast at hc))
    | refine ops_gt rfl rfl rfl (by push_cast; first | done | rfl) ?_
    | refine ops_gb rfl rfl rfl (by push_cast; first | done | rfl) ?_ ?_
    | (intro (hc : (_ : Prop)); (try push_cast at hc)) | intro (hc : R08Item) | intro (hc : Int) | intro (hc : Nat))
  (refine Fin2.fin ⟨[(1, .obj DiskO D)], ?_, ?_, ?_, Closes.refl _, ?_⟩
   · push_cast
   · push_cast
   · simp [idsM]
   · simp [tvL, TV.ids, SV.ids, LV.ids, idsV])
theorem same_con : Con1 Cx.P 46 DiskO (.pair rR08Disk (.pair (.int .i64) (.pair (.int .i64) .unit))) (fun D x => x.1 = D) (fun _ _ => [.bool true]) (fun D _ => D) := by
  refine ⟨isfn46, ?_⟩
  rintro D ⟨_, k, e, _⟩ rfl
  exact same_fn _ k e
end Go.Proofs.Ytnmjcdlgfimnaaa
