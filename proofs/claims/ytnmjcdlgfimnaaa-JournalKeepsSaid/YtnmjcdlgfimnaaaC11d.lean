/- Chapter 11: a write. -/
import Derived.Test.YtnmjcdlgfimnaaaC11c
namespace Go.Proofs.Ytnmjcdlgfimnaaa
theorem nextG_bd (D : R08Disk) (k z : Int) : 0 ≤ nextG D k z ∧ nextG D k z ≤ 18446744073709551615 := by
  have h := fun n => wrap_inK .u64 n
  have h2 : ∀ n, 0 ≤ IntKind.u64.wrap n ∧ IntKind.u64.wrap n ≤ 18446744073709551615 := fun n => (inK_u64 _).1 (h n)
  unfold nextG
  split
  · exact h2 _
  · exact h2 _
section
set_option linter.unusedSimpArgs false
set_option linter.unusedVariables false
set_option maxRecDepth 20000
attribute [local irreducible] vcOps vcCode vcA vcSch Wc
set_option maxHeartbeats 8000000
theorem slWrite_fn (D : R08Disk) (k z : Int) (c : List Int) (hq : D.Queue.length ≤ 900000) (hc0 : c.length ≤ 900000) :
    Spec Cx.P 58 [.l (.ptr 1 [] 0), .l (.int .i64 k), .l (.int .i64 z), .l (.dat (.slice (.int .u8)) c)] [(1, .obj DiskO D)] (tvL [.int .u64 (slWrite D k z c).2.1, .int .i64 (slWrite D k z c).2.2]) [(1, .obj DiskO (slWrite D k z c).1)] := by
  refine Spec_disk isfn58 fun hw hG => ?_
  have hbase := hw.many
  have hsp := spanN_bd (closeN c).length
  have hng := nextG_bd D k z
  refine Spec.go2 (E := Cx.env) (fn := Try.f58) (res := [_, _]) _ (Opens.refl _) Try.func58 isfn58 rfl rfl (by simp [idsV, SV.ids, LV.ids]) (by simp [idsM]) (by kernel_rfl) rfl ?_
  intro hf
  try push_cast at hf
  intro _
  have h111 : ¬ (rightB D k z = true ∧ spanN (closeN c).length ≠ 0 ∧ spanN (closeN c).length ≤ z) → slWrite D k z c = (D, 0, 111) := fun h => by unfold slWrite; rw [if_neg h]
  cases hr : rightB D k z
  · have e : slWrite D k z c = (D, 0, 111) := h111 (by rw [hr]; simp)
    rw [e]
    repeat' (first
    | (intro (K' : KT) hK'; push_cast; (repeat' refine And.intro ?_ ?_); all_goals (first | (apply hK'; clear hK' K') | (refine ⟨trivial, trivial, ?_⟩; apply hK'; clear hK' K') | (intro hb; (try push_cast at hb); all_goals (intros; apply hK'; clear hK' K')) | ((first | refine call_N crcClose_con (fun _ => rfl) ?_ | refine call_F span_con (fun _ => rfl) ?_ | refine call_1 slRight_con (fun _ _ => rfl) ?_ | refine call_1 slNext_con (fun _ _ => rfl) ?_ | refine call_F slPlace_con (fun _ => rfl) ?_ | refine call_1 Write_con (fun _ _ => rfl) ?_ | refine call_1 Flush_con (fun _ _ => rfl) ?_); push_cast; (repeat' refine And.intro ?_ ?_); all_goals (first | (apply hK'; clear hK' K') | (intros; apply hK'; clear hK' K') | (clear hK' K'; first | omega | skip))) | (clear hK' K'; first | omega | skip)))
    | apply go_seq | apply go_region | apply go_skip | apply go_exit | apply go_ret
    | apply seqK_n | apply seqK_x | apply seqK_r | apply regK_go | apply finK_n | apply finK_r
    | (refine vres_go ?_; push_cast) | apply ops_nil | refine ops_in (w_i64 _ (by omega) (by omega)) ?_ | refine ops_in (w_u8 _ (by omega) (by omega)) ?_ | refine ops_in (w_u32 _ (by omega) (by omega)) ?_ | refine ops_in (w_u64 _ (by omega) (by omega)) ?_
    | refine ops_put rfl rfl ?_ | refine ops_no rfl rfl ?_
    | (refine go_cond (by push_cast; first | done | rfl) ?_ ?_ <;> intro hc <;> (try push_cast at hc))
    | refine ops_gt rfl rfl rfl (by push_cast; first | done | rfl) ?_
    | refine ops_gb rfl rfl rfl (by push_cast; first | done | rfl) ?_ ?_
    | (intro (hc : (_ : Prop)); (try push_cast at hc)) | intro (hc : R08Item) | intro (hc : Int) | intro (hc : Nat))
    all_goals (try (exfalso; have h9 := ‹(!rightB D k z) = false›; rw [hr] at h9; simp at h9; done))
    · (refine Fin2.fin ⟨[(1, .obj DiskO D)], ?_, ?_, ?_, Closes.refl _, ?_⟩
       · push_cast
       · push_cast
       · simp [idsM]
       · simp [tvL, TV.ids, SV.ids, LV.ids, idsV])
    all_goals trace_state
  · have hr2 := rightB_iff.1 hr
    have hnx : slNext D k z = (nextG D k z, 0) := by unfold slNext; rw [if_pos hr]
    repeat' (first
    | (intro (K' : KT) hK'; push_cast; (repeat' refine And.intro ?_ ?_); all_goals (first | (apply hK'; clear hK' K') | (refine ⟨trivial, trivial, ?_⟩; apply hK'; clear hK' K') | (intro hb; (try push_cast at hb); all_goals (intros; apply hK'; clear hK' K')) | ((first | refine call_N crcClose_con (fun _ => rfl) ?_ | refine call_F span_con (fun _ => rfl) ?_ | refine call_1 slRight_con (fun _ _ => rfl) ?_ | refine call_1 slNext_con (fun _ _ => rfl) ?_); push_cast; (repeat' refine And.intro ?_ ?_); all_goals (first | (apply hK'; clear hK' K') | (intros; apply hK'; clear hK' K') | (clear hK' K'; first | omega | skip))) | (clear hK' K'; first | omega | skip)))
    | apply go_seq | refine go_region_stop (id := 5) ?_ | apply go_region | apply go_skip | apply go_exit | apply go_ret
    | apply seqK_n | apply seqK_x | apply seqK_r | apply regK_go | apply finK_n | apply finK_r
    | (refine vres_go ?_; push_cast) | apply ops_nil | refine ops_in (w_i64 _ (by omega) (by omega)) ?_ | refine ops_in (w_u8 _ (by omega) (by omega)) ?_ | refine ops_in (w_u32 _ (by omega) (by omega)) ?_ | refine ops_in (w_u64 _ (by omega) (by omega)) ?_
    | refine ops_put rfl rfl ?_ | refine ops_no rfl rfl ?_
    | (refine go_cond (by push_cast; first | done | rfl) ?_ ?_ <;> intro hc <;> (try push_cast at hc))
    | refine ops_gt rfl rfl rfl (by push_cast; first | done | rfl) ?_
    | refine ops_gb rfl rfl rfl (by push_cast; first | done | rfl) ?_ ?_
    | (intro (hc : (_ : Prop)); (try push_cast at hc)) | intro (hc : R08Item) | intro (hc : Int) | intro (hc : Nat))
    · have h9 : slWrite D k z c = (D, 0, 111) := h111 (by intro h; omega)
      rw [h9]
      (refine Fin2.fin ⟨[(1, .obj DiskO D)], ?_, ?_, ?_, Closes.refl _, ?_⟩
       · push_cast
       · push_cast
       · simp [idsM]
       · simp [tvL, TV.ids, SV.ids, LV.ids, idsV])
    · rw [hnx]
      apply regKS_go
      push_cast
      repeat' (first
    | (intro (K' : KT) hK'; push_cast; (repeat' refine And.intro ?_ ?_); all_goals (first | (apply hK'; clear hK' K') | (refine ⟨trivial, trivial, ?_⟩; apply hK'; clear hK' K') | (intro hb; (try push_cast at hb); all_goals (intros; apply hK'; clear hK' K')) | ((first | refine call_F slPlace_con (fun _ => rfl) ?_ | refine call_1 Write_con (fun _ _ => rfl) ?_ | refine call_1 Flush_con (fun _ _ => rfl) ?_); push_cast; (repeat' refine And.intro ?_ ?_); all_goals (first | (apply hK'; clear hK' K') | (intros; apply hK'; clear hK' K') | (clear hK' K'; first | omega | skip))) | (clear hK' K'; first | omega | skip)))
    | apply go_seq | apply go_region | apply go_skip | apply go_exit | apply go_ret
    | apply seqK_n | apply seqK_x | apply seqK_r | apply regK_go | apply finK_n | apply finK_r
    | (refine vres_go ?_; push_cast) | apply ops_nil | refine ops_in (w_i64 _ (by omega) (by omega)) ?_ | refine ops_in (w_u8 _ (by omega) (by omega)) ?_ | refine ops_in (w_u32 _ (by omega) (by omega)) ?_ | refine ops_in (w_u64 _ (by omega) (by omega)) ?_
    | refine ops_put rfl rfl ?_ | refine ops_no rfl rfl ?_
    | (refine go_cond (by push_cast; first | done | rfl) ?_ ?_ <;> intro hc <;> (try push_cast at hc))
    | refine ops_gt rfl rfl rfl (by push_cast; first | done | rfl) ?_
    | refine ops_gb rfl rfl rfl (by push_cast; first | done | rfl) ?_ ?_
    | (intro (hc : (_ : Prop)); (try push_cast at hc)) | intro (hc : R08Item) | intro (hc : Int) | intro (hc : Nat))
      · have ha : rightB D k z = true ∧ spanN (closeN c).length ≠ 0 ∧ spanN (closeN c).length ≤ z := ⟨hr, by omega, by omega⟩
        have h9 : slWrite D k z c = ((slPutD D k z c).1, 0, (slPutD D k z c).2) := by unfold slWrite; rw [if_pos ha, if_pos (by unfold slPutD; simpa using hc)]
        rw [h9]
        unfold slPutD
        (refine Fin2.fin ⟨[(1, .obj DiskO (sPut D (k + z * (nextG D k z % 2)) (nextG D k z) (closeN c)).1)], ?_, ?_, ?_, Closes.refl _, ?_⟩
         · push_cast
         · push_cast
         · simp [idsM]
         · simp [tvL, TV.ids, SV.ids, LV.ids, idsV])
      · have ha : rightB D k z = true ∧ spanN (closeN c).length ≠ 0 ∧ spanN (closeN c).length ≤ z := ⟨hr, by omega, by omega⟩
        have h9 : slWrite D k z c = ((dFlush (slPutD D k z c).1).1, 0, (dFlush (slPutD D k z c).1).2) := by
          unfold slWrite; rw [if_pos ha, if_neg (by unfold slPutD; have h7 := ‹(!decide ((sPut D (k + z * (nextG D k z % 2)) (nextG D k z) (closeN c)).2 = 0)) = false›; simpa using h7), if_pos (by unfold slPutD; simpa using hc)]
        rw [h9]
        unfold slPutD
        (refine Fin2.fin ⟨[(1, .obj DiskO (dFlush (sPut D (k + z * (nextG D k z % 2)) (nextG D k z) (closeN c)).1).1)], ?_, ?_, ?_, Closes.refl _, ?_⟩
         · push_cast
         · push_cast
         · simp [idsM]
         · simp [tvL, TV.ids, SV.ids, LV.ids, idsV])
      · have ha : rightB D k z = true ∧ spanN (closeN c).length ≠ 0 ∧ spanN (closeN c).length ≤ z := ⟨hr, by omega, by omega⟩
        have h9 : slWrite D k z c = ((dFlush (slPutD D k z c).1).1, nextG D k z, 0) := by
          unfold slWrite; rw [if_pos ha, if_neg (by unfold slPutD; have h7 := ‹(!decide ((sPut D (k + z * (nextG D k z % 2)) (nextG D k z) (closeN c)).2 = 0)) = false›; simpa using h7), if_neg (by unfold slPutD; simpa using hc)]
        rw [h9]
        unfold slPutD
        (refine Fin2.fin ⟨[(1, .obj DiskO (dFlush (sPut D (k + z * (nextG D k z % 2)) (nextG D k z) (closeN c)).1).1)], ?_, ?_, ?_, Closes.refl _, ?_⟩
         · push_cast
         · push_cast
         · simp [idsM]
         · simp [tvL, TV.ids, SV.ids, LV.ids, idsV])
    · have h9 : slWrite D k z c = (D, 0, 111) := h111 (by intro h; omega)
      rw [h9]
      (refine Fin2.fin ⟨[(1, .obj DiskO D)], ?_, ?_, ?_, Closes.refl _, ?_⟩
       · push_cast
       · push_cast
       · simp [idsM]
       · simp [tvL, TV.ids, SV.ids, LV.ids, idsV])
    all_goals (exfalso; have h9 := ‹(!rightB D k z) = true›; rw [hr] at h9; simp at h9)
theorem slWrite_con : Con1 Cx.P 58 DiskO (.pair (.int .i64) (.pair (.int .i64) (.pair (.slice (.int .u8)) .unit))) (fun D x => D.Queue.length ≤ 900000 ∧ x.2.2.1.length ≤ 900000)
    (fun D x => [.int .u64 (slWrite D x.1 x.2.1 x.2.2.1).2.1, .int .i64 (slWrite D x.1 x.2.1 x.2.2.1).2.2]) (fun D x => (slWrite D x.1 x.2.1 x.2.2.1).1) := ⟨isfn58, fun D x h => slWrite_fn D x.1 x.2.1 x.2.2.1 h.1 h.2⟩
end
end Go.Proofs.Ytnmjcdlgfimnaaa
