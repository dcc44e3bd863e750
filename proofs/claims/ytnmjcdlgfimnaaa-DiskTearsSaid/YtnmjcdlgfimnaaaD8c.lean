/- The disk's functions: Put. -/
import Derived.Test.YtnmjcdlgfimnaaaD8b
namespace Go.Proofs.Ytnmjcdlgfimnaaa
set_option linter.unusedSimpArgs false
set_option linter.unusedVariables false
set_option maxRecDepth 20000
attribute [local irreducible] vcOps vcCode vcA vcSch Wc
set_option maxHeartbeats 8000000
theorem Put_fn (D : R08Disk) (k : Int) (x : List Int) (hq : D.Queue.length < 1000000000) :
    Spec Cx.P 29 [.l (.ptr 1 [] 0), .l (.int .i64 k), .l (.dat (.arr 64 (.int .u8)) x)] [(1, .obj DiskO D)] (tvL [.int .i64 (dPut D k x).2]) [(1, .obj DiskO (dPut D k x).1)] := by
  refine Spec.go2 (E := Cx.env) (fn := Try.f29) (res := [_]) _ (Opens.refl _) Try.func29 isfn29 rfl rfl (by simp [idsV, SV.ids, LV.ids]) (by simp [idsM]) (by kernel_rfl) rfl ?_
  intro hf
  try push_cast at hf
  intro _
  simp only [mmD, parSl, idsM, List.map_cons, List.map_nil, List.cons_append, List.nil_append]
  have hqs := dSpend_queue D
  have hbs := dSpend_base D
  repeat' (first
    | apply go_seq | apply go_block | refine go_region_stop (id := 3) ?_ | apply go_region | apply go_skip | apply go_exit | apply go_label | apply go_ret
    | apply seqK_n | apply seqK_x | apply seqK_r | apply blockK_n | apply blockK_r | apply blockK_hit | apply blockK_miss rfl | apply loopK_x | apply loopK_r | apply regK_go | apply finK_n | apply finK_r
    | (refine vres_go ?_; push_cast) | apply ops_nil | refine ops_in (w_i64 _ (by omega) (by omega)) ?_ | refine ops_in (w_u8 _ (by omega) (by omega)) ?_ | refine ops_in (w_u32 _ (by omega) (by omega)) ?_ | refine ops_in (w_u64 _ (by omega) (by omega)) ?_
    | (refine ops_put rfl rfl ?_; intro K' hK'; push_cast; (repeat' refine And.intro ?_ ?_); all_goals (first | (apply hK'; clear hK' K') | (refine ⟨trivial, trivial, ?_⟩; apply hK'; clear hK' K') | (intro hb; (try push_cast at hb); all_goals (intros; apply hK'; clear hK' K')) | ((first | refine call_1 there_con (fun _ _ => rfl) ?_ | refine call_1 act_con (fun _ _ => rfl) ?_); push_cast; (repeat' refine And.intro ?_ ?_); all_goals (first | (apply hK'; clear hK' K') | (intros; apply hK'; clear hK' K') | (clear hK' K'; first | omega | skip))) | (clear hK' K'; first | omega | skip)))
    | (refine ops_no rfl rfl ?_; intro K' hK'; push_cast; (repeat' refine And.intro ?_ ?_); all_goals (first | (apply hK'; clear hK' K') | (refine ⟨trivial, trivial, ?_⟩; apply hK'; clear hK' K') | (intro hb; (try push_cast at hb); all_goals (intros; apply hK'; clear hK' K')) | ((first | refine call_1 there_con (fun _ _ => rfl) ?_ | refine call_1 act_con (fun _ _ => rfl) ?_); push_cast; (repeat' refine And.intro ?_ ?_); all_goals (first | (apply hK'; clear hK' K') | (intros; apply hK'; clear hK' K') | (clear hK' K'; first | omega | skip))) | (clear hK' K'; first | omega | skip)))
    | (refine go_cond (by push_cast; first | done | rfl) ?_ ?_ <;> intro hc <;> (try push_cast at hc))
    | (refine ops_gt rfl rfl rfl (by push_cast; first | done | rfl) ?_)
    | (refine ops_gb rfl rfl rfl (by push_cast; first | done | rfl) ?_ ?_; focus (intro hc; (try push_cast at hc); all_goals (intro K' hK'; push_cast; (repeat' refine And.intro ?_ ?_); all_goals (first | (apply hK'; clear hK' K') | (refine ⟨trivial, trivial, ?_⟩; apply hK'; clear hK' K') | (intro hb; (try push_cast at hb); all_goals (intros; apply hK'; clear hK' K')) | ((first | refine call_1 there_con (fun _ _ => rfl) ?_ | refine call_1 act_con (fun _ _ => rfl) ?_); push_cast; (repeat' refine And.intro ?_ ?_); all_goals (first | (apply hK'; clear hK' K') | (intros; apply hK'; clear hK' K') | (clear hK' K'; first | omega | skip))) | (clear hK' K'; first | omega | skip)))))
    | refine go_draw (id := 6) [0, 1, 2, 3, 4] [6] [1] (.or 5 (.or 6 (.done) (.stop)) (.stop)) wide (by kernel_rfl) ?_
    | refine go_draw (id := 7) [0, 1, 2, 3, 4, 5, 6, 7, 8, 9, 10] [18] [1] (.or 11 (.free 12 (.free 13 (.or 14 (.or 15 (.free 16 (.free 17 (.or 18 (.done) (.stop)))) (.stop)) (.stop)))) (.stop)) wide (by kernel_rfl) ?_
    | refine go_draw (id := 8) [0, 1, 2, 3, 4, 5, 6, 7, 8, 9, 11] [14] [1, 5] (.or 10 (.or 12 (.or 13 (.or 14 (.done) (.stop)) (.stop)) (.stop)) (.or 12 (.or 10 (.or 13 (.or 14 (.done) (.stop)) (.stop)) (.stop)) (.stop))) wide (by kernel_rfl) ?_
    | apply goA_nil | apply goS_done | apply goS_stop
    | (refine goA_put rfl rfl rfl ?_; intro K' hK'; push_cast; (repeat' refine And.intro ?_ ?_); all_goals (first | (apply hK'; clear hK' K') | (refine ⟨trivial, trivial, ?_⟩; apply hK'; clear hK' K') | (intro hb; (try push_cast at hb); all_goals (intros; apply hK'; clear hK' K')) | ((first | refine call_1 there_con (fun _ _ => rfl) ?_ | refine call_1 act_con (fun _ _ => rfl) ?_); push_cast; (repeat' refine And.intro ?_ ?_); all_goals (first | (apply hK'; clear hK' K') | (intros; apply hK'; clear hK' K') | (clear hK' K'; first | omega | skip))) | (clear hK' K'; first | omega | skip)))
    | (refine goS_free rfl rfl rfl ?_; intro K' hK'; push_cast; (repeat' refine And.intro ?_ ?_); all_goals (first | (apply hK'; clear hK' K') | (refine ⟨trivial, trivial, ?_⟩; apply hK'; clear hK' K') | (intro hb; (try push_cast at hb); all_goals (intros; apply hK'; clear hK' K')) | ((first | refine call_1 there_con (fun _ _ => rfl) ?_ | refine call_1 act_con (fun _ _ => rfl) ?_); push_cast; (repeat' refine And.intro ?_ ?_); all_goals (first | (apply hK'; clear hK' K') | (intros; apply hK'; clear hK' K') | (clear hK' K'; first | omega | skip))) | (clear hK' K'; first | omega | skip)))
    | (refine goS_late rfl rfl rfl rfl ?_ ?_; rotate_left; focus (intro K' hK'; push_cast; (repeat' refine And.intro ?_ ?_); all_goals (first | (apply hK'; clear hK' K') | (refine ⟨trivial, trivial, ?_⟩; apply hK'; clear hK' K') | (intro hb; (try push_cast at hb); all_goals (intros; apply hK'; clear hK' K')) | ((first | refine call_1 there_con (fun _ _ => rfl) ?_ | refine call_1 act_con (fun _ _ => rfl) ?_); push_cast; (repeat' refine And.intro ?_ ?_); all_goals (first | (apply hK'; clear hK' K') | (intros; apply hK'; clear hK' K') | (clear hK' K'; first | omega | skip))) | (clear hK' K'; first | omega | skip))))
    | (refine goS_late' rfl rfl rfl rfl ?_ ?_; rotate_left; focus (intro K' hK'; push_cast; (repeat' refine And.intro ?_ ?_); all_goals (first | (apply hK'; clear hK' K') | (refine ⟨trivial, trivial, ?_⟩; apply hK'; clear hK' K') | (intro hb; (try push_cast at hb); all_goals (intros; apply hK'; clear hK' K')) | ((first | refine call_1 there_con (fun _ _ => rfl) ?_ | refine call_1 act_con (fun _ _ => rfl) ?_); push_cast; (repeat' refine And.intro ?_ ?_); all_goals (first | (apply hK'; clear hK' K') | (intros; apply hK'; clear hK' K') | (clear hK' K'; first | omega | skip))) | (clear hK' K'; first | omega | skip))))
    | (refine goS_hid rfl rfl rfl rfl ?_ ?_; rotate_left; focus (intro K' hK'; push_cast; (repeat' refine And.intro ?_ ?_); all_goals (first | (refine hK' _ _ _ _ _ (by push_cast) (by push_cast; first | done | rfl) ?_; clear hK' K') | ((first | refine call_1 there_con (fun _ _ => rfl) ?_ | refine call_1 act_con (fun _ _ => rfl) ?_); push_cast; (repeat' refine And.intro ?_ ?_); all_goals (first | (refine hK' _ _ _ _ _ (by push_cast) (by push_cast; first | done | rfl) ?_; clear hK' K') | (intros; refine hK' _ _ _ _ _ (by push_cast) (by push_cast; first | done | rfl) ?_; clear hK' K') | (clear hK' K'; first | omega | skip))) | (clear hK' K'; first | omega | skip))))
    | (refine goA_gt rfl rfl rfl rfl (by push_cast; first | done | rfl) ?_)
    | (refine goA_gb rfl rfl rfl rfl (by push_cast; first | done | rfl) ?_ ?_; focus (intro hc; (try push_cast at hc); all_goals (intro K' hK'; push_cast; (repeat' refine And.intro ?_ ?_); all_goals (first | (apply hK'; clear hK' K') | (refine ⟨trivial, trivial, ?_⟩; apply hK'; clear hK' K') | (intro hb; (try push_cast at hb); all_goals (intros; apply hK'; clear hK' K')) | ((first | refine call_1 there_con (fun _ _ => rfl) ?_ | refine call_1 act_con (fun _ _ => rfl) ?_); push_cast; (repeat' refine And.intro ?_ ?_); all_goals (first | (apply hK'; clear hK' K') | (intros; apply hK'; clear hK' K') | (clear hK' K'; first | omega | skip))) | (clear hK' K'; first | omega | skip)))))
    | (intro hc; (try push_cast at hc)))
  · have h : dThere D k = false := by simpa using hc
    have e : dPut D k x = (D, 81) := by simp [dPut, h]
    rw [e]
    refine Fin2.fin ⟨[(1, .obj DiskO D)], ?_, ?_, ?_, Closes.refl _, ?_⟩
    · push_cast
    · push_cast
    · simp [idsM]
    · simp [tvL, TV.ids, SV.ids, LV.ids]
  · have hth : dThere D k = true := by
      have : (!dThere D k) = false := by assumption
      simpa using this
    obtain ⟨hk0, hk1⟩ := there_iff hth
    refine regKS_open (regK_opens _ (open_disk (dSpend D).1 _ (by simp [idsM]) (by simp [Box.ids, idsL, LV.ids])) (Closes.refl _) (by simp) (by push_cast; first | done | rfl) ?_)
    rintro ⟨⟨V, M, way, acts, size, dead⟩, ⟨hwf, h1, h2, ha, hr, h3⟩⟩
    simp only at h1 h2 ha hr h3
    subst h1 h2 h3
    have hbu := hwf.burns
    have hml := rows_len hr hwf k
    have htk := tks_len (dSpend D).1.Queue []
    have hql : (dSpend D).1.Queue.length = D.Queue.length := by rw [hqs]
    have hbl : (dSpend D).1.Base.length = D.Base.length := by rw [hbs]
    rcases acts with _ | n
    all_goals
      simp only [mmD, parSl, idsM, List.map_cons, List.map_nil, List.cons_append, List.nil_append]
      repeat' (first
    | apply go_seq | apply go_block | apply go_region | apply go_skip | apply go_exit | apply go_label | apply go_ret
    | apply seqK_n | apply seqK_x | apply seqK_r | apply blockK_n | apply blockK_r | apply blockK_hit | apply blockK_miss rfl | apply loopK_x | apply loopK_r | apply regK_go | apply finK_n | apply finK_r
    | (refine vres_go ?_; push_cast) | apply ops_nil | refine ops_in (w_i64 _ (by omega) (by omega)) ?_ | refine ops_in (w_u8 _ (by omega) (by omega)) ?_ | refine ops_in (w_u32 _ (by omega) (by omega)) ?_ | refine ops_in (w_u64 _ (by omega) (by omega)) ?_
    | (refine ops_put rfl rfl ?_; intro K' hK'; push_cast; (repeat' refine And.intro ?_ ?_); all_goals (first | (apply hK'; clear hK' K') | (refine ⟨trivial, trivial, ?_⟩; apply hK'; clear hK' K') | (intro hb; (try push_cast at hb); all_goals (intros; apply hK'; clear hK' K')) | (clear hK' K'; first | omega | skip)))
    | (refine ops_no rfl rfl ?_; intro K' hK'; push_cast; (repeat' refine And.intro ?_ ?_); all_goals (first | (apply hK'; clear hK' K') | (refine ⟨trivial, trivial, ?_⟩; apply hK'; clear hK' K') | (intro hb; (try push_cast at hb); all_goals (intros; apply hK'; clear hK' K')) | (clear hK' K'; first | omega | skip)))
    | (refine go_cond (by push_cast; first | done | rfl) ?_ ?_ <;> intro hc <;> (try push_cast at hc))
    | (refine ops_gt rfl rfl rfl (by push_cast; first | done | rfl) ?_)
    | (refine ops_gb rfl rfl rfl (by push_cast; first | done | rfl) ?_ ?_; focus (intro hc; (try push_cast at hc); all_goals (intro K' hK'; push_cast; (repeat' refine And.intro ?_ ?_); all_goals (first | (apply hK'; clear hK' K') | (refine ⟨trivial, trivial, ?_⟩; apply hK'; clear hK' K') | (intro hb; (try push_cast at hb); all_goals (intros; apply hK'; clear hK' K')) | (clear hK' K'; first | omega | skip)))))
    | refine go_draw (id := 6) [0, 1, 2, 3, 4] [6] [1] (.or 5 (.or 6 (.done) (.stop)) (.stop)) wide (by kernel_rfl) ?_
    | refine go_draw (id := 7) [0, 1, 2, 3, 4, 5, 6, 7, 8, 9, 10] [18] [1] (.or 11 (.free 12 (.free 13 (.or 14 (.or 15 (.free 16 (.free 17 (.or 18 (.done) (.stop)))) (.stop)) (.stop)))) (.stop)) wide (by kernel_rfl) ?_
    | refine go_draw (id := 8) [0, 1, 2, 3, 4, 5, 6, 7, 8, 9, 11] [14] [1, 5] (.or 10 (.or 12 (.or 13 (.or 14 (.done) (.stop)) (.stop)) (.stop)) (.or 12 (.or 10 (.or 13 (.or 14 (.done) (.stop)) (.stop)) (.stop)) (.stop))) wide (by kernel_rfl) ?_
    | apply goA_nil | apply goS_done | apply goS_stop
    | (refine goA_put rfl rfl rfl ?_; intro K' hK'; push_cast; (repeat' refine And.intro ?_ ?_); all_goals (first | (apply hK'; clear hK' K') | (refine ⟨trivial, trivial, ?_⟩; apply hK'; clear hK' K') | (intro hb; (try push_cast at hb); all_goals (intros; apply hK'; clear hK' K')) | (clear hK' K'; first | omega | skip)))
    | (refine goS_free rfl rfl rfl ?_; intro K' hK'; push_cast; (repeat' refine And.intro ?_ ?_); all_goals (first | (apply hK'; clear hK' K') | (refine ⟨trivial, trivial, ?_⟩; apply hK'; clear hK' K') | (intro hb; (try push_cast at hb); all_goals (intros; apply hK'; clear hK' K')) | (clear hK' K'; first | omega | skip)))
    | (refine goS_late rfl rfl rfl rfl ?_ ?_; rotate_left; focus (intro K' hK'; push_cast; (repeat' refine And.intro ?_ ?_); all_goals (first | (apply hK'; clear hK' K') | (refine ⟨trivial, trivial, ?_⟩; apply hK'; clear hK' K') | (intro hb; (try push_cast at hb); all_goals (intros; apply hK'; clear hK' K')) | (clear hK' K'; first | omega | skip))))
    | (refine goS_late' rfl rfl rfl rfl ?_ ?_; rotate_left; focus (intro K' hK'; push_cast; (repeat' refine And.intro ?_ ?_); all_goals (first | (apply hK'; clear hK' K') | (refine ⟨trivial, trivial, ?_⟩; apply hK'; clear hK' K') | (intro hb; (try push_cast at hb); all_goals (intros; apply hK'; clear hK' K')) | (clear hK' K'; first | omega | skip))))
    | (refine goS_hid rfl rfl rfl rfl ?_ ?_; rotate_left; focus (intro K' hK'; push_cast; (repeat' refine And.intro ?_ ?_); all_goals (first | (refine hK' _ _ _ _ _ (by push_cast) (by push_cast; first | done | rfl) ?_; clear hK' K') | (clear hK' K'; first | omega | skip))))
    | (refine goA_gt rfl rfl rfl rfl (by push_cast; first | done | rfl) ?_)
    | (refine goA_gb rfl rfl rfl rfl (by push_cast; first | done | rfl) ?_ ?_; focus (intro hc; (try push_cast at hc); all_goals (intro K' hK'; push_cast; (repeat' refine And.intro ?_ ?_); all_goals (first | (apply hK'; clear hK' K') | (refine ⟨trivial, trivial, ?_⟩; apply hK'; clear hK' K') | (intro hb; (try push_cast at hb); all_goals (intros; apply hK'; clear hK' K')) | (clear hK' K'; first | omega | skip)))))
    | (intro hc; (try push_cast at hc)))
    all_goals
      first
      | (have hs : (dSpend D).2 = false := by (have : (!(dSpend D).2) = true := by assumption); simpa using this
         have e : dPut D k x = ((dSpend D).1, 82) := by simp [dPut, hth, hs]
         rw [e]
         first
         | (refine fin_disk0 (m := 9001) (wy := 9002) (V := (by assumption)) (M := M) (way := (tks [] (dSpend D).1.Queue)) (size := (dSpend D).1.Base.length) (dead := (dSpend D).1.Dead) (rest := []) ⟨hwf, rfl, rfl, ha, hr, rfl⟩ ?_ ?_ ?_ ?_; (focus (push_cast; done)); (focus (push_cast; done)); (focus (push_cast; done)); (focus (simp [tvL, TV.ids, SV.ids, LV.ids, idsV]; done)))
         | (refine fin_disk1 (m := 9001) (wy := 9002) (V := (by assumption)) (M := M) (way := (tks [] (dSpend D).1.Queue)) (size := (dSpend D).1.Base.length) (dead := (dSpend D).1.Dead) (rest := []) (ac := 9003) (n := _) ⟨hwf, rfl, rfl, ha, hr, rfl⟩ ?_ ?_ ?_ ?_; (focus (push_cast; done)); (focus (push_cast; done)); (focus (push_cast; done)); (focus (simp [tvL, TV.ids, SV.ids, LV.ids, idsV]; done))))
      | (have hs : (dSpend D).2 = true := by (have : (!(dSpend D).2) = false := by assumption); simpa using this
         have e : dPut D k x = ({ (dSpend D).1 with Queue := (dSpend D).1.Queue ++ [⟨x, k⟩] }, 0) := by simp [dPut, hth, hs]
         rw [e]
         have key : ∀ (V : Int → Value) (l : List (List Int)), (∃ l0, l = l0 ++ [x] ∧ (((M k).length = 0 ∧ l0 = [repl 64 0]) ∨ ((M k).length ≠ 0 ∧ l0 = M k))) → DOk _ _ := fun V l h => DOk_put (V := V) hwf hr hf.2.1 hk0 (by omega) (by omega) ha h
         first
         | (refine fin_disk0 (m := 9001) (wy := 45) (V := ‹Int → Value›) (M := updM M k (M k ++ [x])) (way := tks [] (dSpend D).1.Queue ++ [⟨k, ((M k).length : Int)⟩]) (size := (dSpend D).1.Base.length) (dead := (dSpend D).1.Dead) (rest := []) ?_ ?_ ?_ ?_ ?_; (focus (have := key ‹Int → Value› (M k ++ [x]) ⟨M k, rfl, .inr ⟨by omega, rfl⟩⟩; simpa using this)); (focus (push_cast; done)); (focus (push_cast; done)); (focus (push_cast; done)); (focus (simp [tvL, TV.ids, SV.ids, LV.ids, idsV]; done)))
         | (refine fin_disk0 (m := 9001) (wy := 45) (V := ‹Int → Value›) (M := updM M k [repl 64 0, x]) (way := tks [] (dSpend D).1.Queue ++ [⟨k, 1⟩]) (size := (dSpend D).1.Base.length) (dead := (dSpend D).1.Dead) (rest := []) ?_ ?_ ?_ ?_ ?_; (focus (have := key ‹Int → Value› ([repl 64 0] ++ [x]) ⟨[repl 64 0], rfl, .inl ⟨by omega, rfl⟩⟩; simpa using this)); (focus (push_cast; done)); (focus (push_cast; done)); (focus (push_cast; done)); (focus (simp [tvL, TV.ids, SV.ids, LV.ids, idsV]; done)))
         | (refine fin_disk1 (m := 9001) (wy := 45) (V := ‹Int → Value›) (M := updM M k (M k ++ [x])) (way := tks [] (dSpend D).1.Queue ++ [⟨k, ((M k).length : Int)⟩]) (size := (dSpend D).1.Base.length) (dead := (dSpend D).1.Dead) (rest := []) (ac := 9003) (n := n) ?_ ?_ ?_ ?_ ?_; (focus (have := key ‹Int → Value› (M k ++ [x]) ⟨M k, rfl, .inr ⟨by omega, rfl⟩⟩; simpa using this)); (focus (push_cast; done)); (focus (push_cast; done)); (focus (push_cast; done)); (focus (simp [tvL, TV.ids, SV.ids, LV.ids, idsV]; done)))
         | (refine fin_disk1 (m := 9001) (wy := 45) (V := ‹Int → Value›) (M := updM M k [repl 64 0, x]) (way := tks [] (dSpend D).1.Queue ++ [⟨k, 1⟩]) (size := (dSpend D).1.Base.length) (dead := (dSpend D).1.Dead) (rest := []) (ac := 9003) (n := n) ?_ ?_ ?_ ?_ ?_; (focus (have := key ‹Int → Value› ([repl 64 0] ++ [x]) ⟨[repl 64 0], rfl, .inl ⟨by omega, rfl⟩⟩; simpa using this)); (focus (push_cast; done)); (focus (push_cast; done)); (focus (push_cast; done)); (focus (simp [tvL, TV.ids, SV.ids, LV.ids, idsV]; done))))
theorem Put_con : Con1 Cx.P 29 DiskO (.pair (.int .i64) (.pair (.arr 64 (.int .u8)) .unit)) (fun D _ => D.Queue.length < 1000000000) (fun D x => [.int .i64 (dPut D x.1 x.2.1).2]) (fun D x => (dPut D x.1 x.2.1).1) := ⟨isfn29, fun D x h => Put_fn D x.1 x.2.1 h⟩
end Go.Proofs.Ytnmjcdlgfimnaaa
