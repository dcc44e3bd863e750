/- Chapter 9: the code's Write. -/
import Derived.Test.YtnmjcdlgfimnaaaS9f
namespace Go.Proofs.Ytnmjcdlgfimnaaa
set_option linter.unusedSimpArgs false
set_option linter.unusedVariables false
set_option maxRecDepth 20000
attribute [local irreducible] vcOps vcCode vcA vcSch Wc
set_option maxHeartbeats 8000000
attribute [local push_cast] cutN_eq
theorem Write_fn (D : R08Disk) (k st : Int) (b : List Int) (hq : D.Queue.length ≤ 999000) (hbase : D.Base.length ≤ 4096) :
    Spec Cx.P 38 [.l (.ptr 1 [] 0), .l (.int .i64 k), .l (.int .u64 st), .l (.dat (.slice (.int .u8)) b)] [(1, .obj DiskO D)] (tvL [.int .i64 (sPut D k st b).2]) [(1, .obj DiskO (sPut D k st b).1)] := by
  refine Spec.go2 (E := Cx.env) (fn := Try.f38) (res := [_]) _ (Opens.refl _) Try.func38 isfn38 rfl rfl (by simp [idsV, SV.ids, LV.ids]) (by simp [idsM]) (by kernel_rfl) rfl ?_
  intro hf
  try push_cast at hf
  intro _
  have hT := spanN_bd b.length
  have hL := secsN_len st b
  have h91 : st = 0 ∨ spanN b.length = 0 → sPut D k st b = (D, 91) := fun h => by unfold sPut; rw [if_pos h]
  have h81 : ¬ st = 0 → ¬ spanN b.length = 0 → (k < 0 ∨ (D.Base.length : Int) - spanN b.length < k) → sPut D k st b = (D, 81) := fun h1 h2 h => by unfold sPut; rw [if_neg (by omega), if_pos h]
  have hgo : ¬ st = 0 → ¬ spanN b.length = 0 → ¬ (k < 0 ∨ (D.Base.length : Int) - spanN b.length < k) → sPut D k st b = putAll D k (secsN st b) := fun h1 h2 h => by unfold sPut; rw [if_neg (by omega), if_neg h]
  repeat' (first
    | (intro (K' : KT) hK'; push_cast; (repeat' refine And.intro ?_ ?_); all_goals (first | (apply hK'; clear hK' K') | (refine ⟨trivial, trivial, ?_⟩; apply hK'; clear hK' K') | (intro hb; (try push_cast at hb); all_goals (intros; apply hK'; clear hK' K')) | ((first | refine call_F span_con (fun _ => rfl) ?_ | refine call_1 Size_con (fun _ _ => rfl) ?_); push_cast; (repeat' refine And.intro ?_ ?_); all_goals (first | (apply hK'; clear hK' K') | (intros; apply hK'; clear hK' K') | (clear hK' K'; first | omega | skip))) | (clear hK' K'; first | omega | skip)))
    | apply go_seq | apply go_block | apply go_region | apply go_skip | apply go_exit | apply go_ret
    | apply seqK_n | apply seqK_x | apply seqK_r | apply blockK_n | apply blockK_r | apply blockK_hit | apply blockK_miss rfl | apply loopK_x | apply loopK_r | apply regK_go | apply finK_n | apply finK_r
    | (refine vres_go ?_; push_cast) | apply ops_nil | refine ops_in (w_i64 _ (by omega) (by omega)) ?_ | refine ops_in (w_u8 _ (by omega) (by omega)) ?_ | refine ops_in (w_u32 _ (by omega) (by omega)) ?_ | refine ops_in (w_u64 _ (by omega) (by omega)) ?_
    | refine ops_put rfl rfl ?_ | refine ops_no rfl rfl ?_
    | (refine go_cond (by push_cast; first | done | rfl) ?_ ?_ <;> intro hc <;> (try push_cast at hc))
    | refine ops_gt rfl rfl rfl (by push_cast; first | done | rfl) ?_
    | refine ops_gb rfl rfl rfl (by push_cast; first | done | rfl) ?_ ?_
    | (intro (hc : (_ : Prop)); (try push_cast at hc)) | intro (hc : R08Item) | intro (hc : Int) | intro (hc : Nat))
  · rw [h91 (.inr ‹_›)]
    (refine Fin2.fin ⟨[(1, .obj DiskO D)], ?_, ?_, ?_, Closes.refl _, ?_⟩
     · push_cast
     · push_cast
     · simp [idsM]
     · simp [tvL, TV.ids, SV.ids, LV.ids, idsV])
  · rw [h81 ‹_› ‹_› (.inr (by omega))]
    (refine Fin2.fin ⟨[(1, .obj DiskO D)], ?_, ?_, ?_, Closes.refl _, ?_⟩
     · push_cast
     · push_cast
     · simp [idsM]
     · simp [tvL, TV.ids, SV.ids, LV.ids, idsV])
  · have hp := hgo ‹_› ‹_› (by omega)
    clear hgo h81 h91
    refine go_loop2 [8, 10, 11, 12, 35, 36, 37, 38, 39, 40, 41, 42, 43, 44, 45, 46, 47, 48, 49, 50, 51, 52, 53, 54, 55, 56, 57, 58, 59, 60, 61] [1, 45, 46, 56, 57] (fun (p : R08Disk × Nat) => PutTo D k (secsN st b) p.1 p.2) (fun (p : R08Disk × Nat) => [(35, .one (.l (.int .i64 p.2)))]) (fun (p : R08Disk × Nat) => [(1, .obj DiskO p.1)]) (fun (p : R08Disk × Nat) => (secsN st b).length - p.2) (D, 0) ?_ (by push_cast; first | done | rfl) (by push_cast; first | done | rfl) ?_ ?_
    · exact putTo_0 _ _ _
    · push_cast
    · rintro ⟨F, i⟩ hi
      simp only at hi
      push_cast
      intro hg
      have hq := hi.q
      have hle := hi.le
      have hfb := hi.base
      have hs := spanN_lt b.length i
      have hp2 := pieceN_le b i
      have hget : (i : Int) < spanN b.length → (secsN st b)[i]? = some (madeN i (spanN b.length) st (pieceN b i)) := fun h => secsN_get st b i (by omega)
      repeat' (first
    | (intro (K' : KT) hK'; push_cast; (repeat' refine And.intro ?_ ?_); all_goals (first | (apply hK'; clear hK' K') | (refine ⟨trivial, trivial, ?_⟩; apply hK'; clear hK' K') | (intro hb; (try push_cast at hb); all_goals (intros; apply hK'; clear hK' K')) | ((first | refine call_F made_con (fun _ => rfl) ?_ | refine call_1 Put_con (fun _ _ => rfl) ?_); push_cast; (repeat' refine And.intro ?_ ?_); all_goals (first | (apply hK'; clear hK' K') | (intros; apply hK'; clear hK' K') | (clear hK' K'; first | omega | skip))) | (clear hK' K'; first | omega | skip)))
    | apply go_seq | apply go_block | apply go_region | apply go_skip | apply go_exit | apply go_ret
    | apply seqK_n | apply seqK_x | apply seqK_r | apply blockK_n | apply blockK_r | apply blockK_hit | apply blockK_miss rfl | apply loopK_x | apply loopK_r | apply regK_go | apply finK_n | apply finK_r
    | (refine vres_go ?_; push_cast) | apply ops_nil | refine ops_in (w_i64 _ (by omega) (by omega)) ?_ | refine ops_in (w_u8 _ (by omega) (by omega)) ?_ | refine ops_in (w_u32 _ (by omega) (by omega)) ?_ | refine ops_in (w_u64 _ (by omega) (by omega)) ?_
    | refine ops_put rfl rfl ?_ | refine ops_no rfl rfl ?_
    | (refine go_cond (by push_cast; first | done | rfl) ?_ ?_ <;> intro hc <;> (try push_cast at hc))
    | refine ops_gt rfl rfl rfl (by push_cast; first | done | rfl) ?_
    | refine ops_gb rfl rfl rfl (by push_cast; first | done | rfl) ?_ ?_
    | (intro (hc : (_ : Prop)); (try push_cast at hc)) | intro (hc : R08Item) | intro (hc : Int) | intro (hc : Nat))
      · rw [hp, putTo_e hi (hget ‹_›) (by simpa using hc)]
        (refine Fin2.fin ⟨[(1, .obj DiskO (dPut F (k + i) (madeN i (spanN b.length) st (pieceN b i))).1)], ?_, ?_, ?_, Closes.refl _, ?_⟩
         · push_cast
         · push_cast
         · simp [idsM]
         · simp [tvL, TV.ids, SV.ids, LV.ids, idsV])
      · refine loopK_m (_, i + 1) (putTo_s hi (hget ‹_›) (by simpa using hc)) (by simp only; omega) ?_
        push_cast
      · have e : i = (secsN st b).length := by omega
        subst e
        rw [hp, putTo_all hi]
        (refine Fin2.fin ⟨[(1, .obj DiskO F)], ?_, ?_, ?_, Closes.refl _, ?_⟩
         · push_cast
         · push_cast
         · simp [idsM]
         · simp [tvL, TV.ids, SV.ids, LV.ids, idsV])
  · rw [h81 ‹_› ‹_› (.inl ‹_›)]
    (refine Fin2.fin ⟨[(1, .obj DiskO D)], ?_, ?_, ?_, Closes.refl _, ?_⟩
     · push_cast
     · push_cast
     · simp [idsM]
     · simp [tvL, TV.ids, SV.ids, LV.ids, idsV])
  · rw [h91 (.inl ‹_›)]
    (refine Fin2.fin ⟨[(1, .obj DiskO D)], ?_, ?_, ?_, Closes.refl _, ?_⟩
     · push_cast
     · push_cast
     · simp [idsM]
     · simp [tvL, TV.ids, SV.ids, LV.ids, idsV])
theorem Write_con : Con1 Cx.P 38 DiskO (.pair (.int .i64) (.pair (.int .u64) (.pair (.slice (.int .u8)) .unit))) (fun D _ => D.Queue.length ≤ 999000 ∧ D.Base.length ≤ 4096)
    (fun D x => [.int .i64 (sPut D x.1 x.2.1 x.2.2.1).2]) (fun D x => (sPut D x.1 x.2.1 x.2.2.1).1) := ⟨isfn38, fun D x h => Write_fn D x.1 x.2.1 x.2.2.1 h.1 h.2⟩
end Go.Proofs.Ytnmjcdlgfimnaaa
