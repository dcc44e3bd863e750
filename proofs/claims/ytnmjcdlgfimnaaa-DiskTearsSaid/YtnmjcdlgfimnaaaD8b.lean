/- The disk's functions: Get, Put, Queue. -/
import Derived.Test.YtnmjcdlgfimnaaaD8
namespace Go.Proofs.Ytnmjcdlgfimnaaa
set_option linter.unusedSimpArgs false
set_option linter.unusedVariables false
set_option maxRecDepth 20000
attribute [local irreducible] vcOps vcCode vcA vcSch Wc
set_option maxHeartbeats 8000000
theorem there_con : Con1 Cx.P 80 DiskO (.pair (.int .i64) .unit) (fun _ _ => True) (fun D x => [.bool (dThere D x.1)]) (fun D _ => D) := ⟨isfn80, fun D x _ => there_fn D x.1⟩
theorem act_con : Con1 Cx.P 81 DiskO .unit (fun _ _ => True) (fun D _ => [.bool (dSpend D).2]) (fun D _ => (dSpend D).1) := ⟨isfn81, fun D _ _ => act_fn D⟩
theorem Size_con : Con1 Cx.P 25 DiskO .unit (fun _ _ => True) (fun D _ => [.int .i64 D.Base.length]) (fun D _ => D) := ⟨isfn25, fun D _ _ => Size_fn D⟩
theorem Dead_con : Con1 Cx.P 31 DiskO .unit (fun _ _ => True) (fun D _ => [.bool D.Dead]) (fun D _ => D) := ⟨isfn31, fun D _ _ => Dead_fn D⟩
theorem Fuse_con : Con1 Cx.P 27 DiskO (.pair (.int .i64) .unit) (fun _ x => x.1 ≤ 9223372036854775807) (fun _ _ => []) (fun D x => dFuse D x.1) := ⟨isfn27, fun D x h => Fuse_fn D x.1 h⟩
theorem Get_fn (D : R08Disk) (k : Int) : Spec Cx.P 26 [.l (.ptr 1 [] 0), .l (.int .i64 k)] [(1, .obj DiskO D)] (tvL [.dat (.arr 64 (.int .u8)) (dGet D k).1, .int .i64 (dGet D k).2]) [(1, .obj DiskO D)] := by
  refine Spec.go2 (E := Cx.env) (fn := Try.f26) (res := [_, _]) _ (Opens.refl _) Try.func26 isfn26 rfl rfl (by simp [idsV, SV.ids, LV.ids]) (by simp [idsM]) (by kernel_rfl) rfl ?_
  intro hf
  try push_cast at hf
  intro _
  simp only [mmD, parSl, idsM, List.map_cons, List.map_nil, List.cons_append, List.nil_append]
  repeat' (first
    | apply go_seq | apply go_block | refine go_region_stop (id := 1) ?_ | apply go_region | apply go_skip | apply go_exit | apply go_label | apply go_ret
    | apply seqK_n | apply seqK_x | apply seqK_r | apply blockK_n | apply blockK_r | apply blockK_hit | apply blockK_miss rfl | apply loopK_x | apply loopK_r | apply regK_go | apply finK_n | apply finK_r
    | (refine vres_go ?_; push_cast) | apply ops_nil | refine ops_in (w_i64 _ (by omega) (by omega)) ?_ | refine ops_in (w_u8 _ (by omega) (by omega)) ?_ | refine ops_in (w_u32 _ (by omega) (by omega)) ?_ | refine ops_in (w_u64 _ (by omega) (by omega)) ?_
    | (refine ops_put rfl rfl ?_; intro K' hK'; push_cast; (repeat' refine And.intro ?_ ?_); all_goals (first | (apply hK'; clear hK' K') | (refine ⟨trivial, trivial, ?_⟩; apply hK'; clear hK' K') | (intro hb; (try push_cast at hb); all_goals (intros; apply hK'; clear hK' K')) | ((first | refine call_1 there_con (fun _ _ => rfl) ?_); push_cast; (repeat' refine And.intro ?_ ?_); all_goals (first | (apply hK'; clear hK' K') | (intros; apply hK'; clear hK' K') | (clear hK' K'; first | omega | skip))) | (clear hK' K'; first | omega | skip)))
    | (refine ops_no rfl rfl ?_; intro K' hK'; push_cast; (repeat' refine And.intro ?_ ?_); all_goals (first | (apply hK'; clear hK' K') | (refine ⟨trivial, trivial, ?_⟩; apply hK'; clear hK' K') | (intro hb; (try push_cast at hb); all_goals (intros; apply hK'; clear hK' K')) | ((first | refine call_1 there_con (fun _ _ => rfl) ?_); push_cast; (repeat' refine And.intro ?_ ?_); all_goals (first | (apply hK'; clear hK' K') | (intros; apply hK'; clear hK' K') | (clear hK' K'; first | omega | skip))) | (clear hK' K'; first | omega | skip)))
    | (refine go_cond (by push_cast; first | done | rfl) ?_ ?_ <;> intro hc <;> (try push_cast at hc))
    | (refine ops_gt rfl rfl rfl (by push_cast; first | done | rfl) ?_)
    | (refine ops_gb rfl rfl rfl (by push_cast; first | done | rfl) ?_ ?_; focus (intro hc; (try push_cast at hc); all_goals (intro K' hK'; push_cast; (repeat' refine And.intro ?_ ?_); all_goals (first | (apply hK'; clear hK' K') | (refine ⟨trivial, trivial, ?_⟩; apply hK'; clear hK' K') | (intro hb; (try push_cast at hb); all_goals (intros; apply hK'; clear hK' K')) | ((first | refine call_1 there_con (fun _ _ => rfl) ?_); push_cast; (repeat' refine And.intro ?_ ?_); all_goals (first | (apply hK'; clear hK' K') | (intros; apply hK'; clear hK' K') | (clear hK' K'; first | omega | skip))) | (clear hK' K'; first | omega | skip)))))
    | (intro hc; (try push_cast at hc)))
  refine regKS_open (regK_opens _ (open_disk D _ (by simp [idsM]) (by simp [Box.ids, idsL, LV.ids])) (Closes.refl _) (by simp) (by push_cast; first | done | rfl) ?_)
  rintro ⟨⟨V, M, way, acts, size, dead⟩, ⟨hwf, h1, h2, ha, hr, h3⟩⟩
  simp only at h1 h2 ha hr h3
  subst h1 h2 h3
  have hbu := hwf.burns
  have hml := rows_len hr hwf k
  rcases acts with _ | n
  all_goals
    simp only [mmD, parSl, idsM, List.map_cons, List.map_nil, List.cons_append, List.nil_append]
    repeat' (first
    | apply go_seq | apply go_block | apply go_region | apply go_skip | apply go_exit | apply go_label | apply go_ret
    | apply seqK_n | apply seqK_x | apply seqK_r | apply blockK_n | apply blockK_r | apply blockK_hit | apply blockK_miss rfl | apply loopK_x | apply loopK_r | (refine regK_open rfl (by push_cast; first | done | rfl) rfl (by push_cast) (by push_cast; first | done | rfl) (by push_cast; first | done | rfl) ?_) | apply regK_go | apply finK_n | apply finK_r
    | (refine vres_go ?_; push_cast) | apply ops_nil | refine ops_in (w_i64 _ (by omega) (by omega)) ?_ | refine ops_in (w_u8 _ (by omega) (by omega)) ?_ | refine ops_in (w_u32 _ (by omega) (by omega)) ?_ | refine ops_in (w_u64 _ (by omega) (by omega)) ?_
    | (refine ops_put rfl rfl ?_; intro K' hK'; push_cast; (repeat' refine And.intro ?_ ?_); all_goals (first | (apply hK'; clear hK' K') | (refine ⟨trivial, trivial, ?_⟩; apply hK'; clear hK' K') | (intro hb; (try push_cast at hb); all_goals (intros; apply hK'; clear hK' K')) | (clear hK' K'; first | omega | skip)))
    | (refine ops_no rfl rfl ?_; intro K' hK'; push_cast; (repeat' refine And.intro ?_ ?_); all_goals (first | (apply hK'; clear hK' K') | (refine ⟨trivial, trivial, ?_⟩; apply hK'; clear hK' K') | (intro hb; (try push_cast at hb); all_goals (intros; apply hK'; clear hK' K')) | (clear hK' K'; first | omega | skip)))
    | (refine go_cond (by push_cast; first | done | rfl) ?_ ?_ <;> intro hc <;> (try push_cast at hc))
    | (refine ops_gt rfl rfl rfl (by push_cast; first | done | rfl) ?_)
    | (refine ops_gb rfl rfl rfl (by push_cast; first | done | rfl) ?_ ?_; focus (intro hc; (try push_cast at hc); all_goals (intro K' hK'; push_cast; (repeat' refine And.intro ?_ ?_); all_goals (first | (apply hK'; clear hK' K') | (refine ⟨trivial, trivial, ?_⟩; apply hK'; clear hK' K') | (intro hb; (try push_cast at hb); all_goals (intros; apply hK'; clear hK' K')) | (clear hK' K'; first | omega | skip)))))
    | (intro hc; (try push_cast at hc)))
  · rw [get_none (D := D) (k := k) (by simpa using hc)]
    first
        | (refine fin_disk0 (m := 9001) (wy := 9002) (V := V) (M := M) (way := (tks [] D.Queue)) (size := D.Base.length) (dead := D.Dead) (rest := []) ⟨hwf, rfl, rfl, ha, hr, rfl⟩ ?_ ?_ ?_ ?_; (focus (push_cast; done)); (focus (push_cast; done)); (focus (push_cast; done)); (focus (simp [tvL, TV.ids, SV.ids, LV.ids, idsV]; done)))
        | (refine fin_disk1 (m := 9001) (wy := 9002) (V := V) (M := M) (way := (tks [] D.Queue)) (size := D.Base.length) (dead := D.Dead) (rest := []) (ac := 9003) (n := _) ⟨hwf, rfl, rfl, ha, hr, rfl⟩ ?_ ?_ ?_ ?_; (focus (push_cast; done)); (focus (push_cast; done)); (focus (push_cast; done)); (focus (simp [tvL, TV.ids, SV.ids, LV.ids, idsV]; done)))
        | (refine fin_disk0r (m := 9001) (wy := 9002) (V := V) (M := M) (way := (tks [] D.Queue)) (size := D.Base.length) (dead := D.Dead) (rest := []) (k := k) (id := 6006) (l := (M k)) ⟨hwf, rfl, rfl, ha, by rw [updM_self]; exact hr, rfl⟩ ?_ ?_ ?_ ?_; (focus (push_cast; done)); (focus (push_cast; done)); (focus (push_cast; done)); (focus (simp [tvL, TV.ids, SV.ids, LV.ids, idsV]; done)))
        | (refine fin_disk1r (m := 9001) (wy := 9002) (V := V) (M := M) (way := (tks [] D.Queue)) (size := D.Base.length) (dead := D.Dead) (rest := []) (ac := 9003) (n := _) (k := k) (id := 6006) (l := (M k)) ⟨hwf, rfl, rfl, ha, by rw [updM_self]; exact hr, rfl⟩ ?_ ?_ ?_ ?_; (focus (push_cast; done)); (focus (push_cast; done)); (focus (push_cast; done)); (focus (simp [tvL, TV.ids, SV.ids, LV.ids, idsV]; done)))
  · rename_i hd
    rw [get_zero hr (k := k) (by simpa using hd) (by omega)]
    first
        | (refine fin_disk0 (m := 9001) (wy := 9002) (V := V) (M := M) (way := (tks [] D.Queue)) (size := D.Base.length) (dead := D.Dead) (rest := []) ⟨hwf, rfl, rfl, ha, hr, rfl⟩ ?_ ?_ ?_ ?_; (focus (push_cast; done)); (focus (push_cast; done)); (focus (push_cast; done)); (focus (simp [tvL, TV.ids, SV.ids, LV.ids, idsV]; done)))
        | (refine fin_disk1 (m := 9001) (wy := 9002) (V := V) (M := M) (way := (tks [] D.Queue)) (size := D.Base.length) (dead := D.Dead) (rest := []) (ac := 9003) (n := _) ⟨hwf, rfl, rfl, ha, hr, rfl⟩ ?_ ?_ ?_ ?_; (focus (push_cast; done)); (focus (push_cast; done)); (focus (push_cast; done)); (focus (simp [tvL, TV.ids, SV.ids, LV.ids, idsV]; done)))
        | (refine fin_disk0r (m := 9001) (wy := 9002) (V := V) (M := M) (way := (tks [] D.Queue)) (size := D.Base.length) (dead := D.Dead) (rest := []) (k := k) (id := 6006) (l := (M k)) ⟨hwf, rfl, rfl, ha, by rw [updM_self]; exact hr, rfl⟩ ?_ ?_ ?_ ?_; (focus (push_cast; done)); (focus (push_cast; done)); (focus (push_cast; done)); (focus (simp [tvL, TV.ids, SV.ids, LV.ids, idsV]; done)))
        | (refine fin_disk1r (m := 9001) (wy := 9002) (V := V) (M := M) (way := (tks [] D.Queue)) (size := D.Base.length) (dead := D.Dead) (rest := []) (ac := 9003) (n := _) (k := k) (id := 6006) (l := (M k)) ⟨hwf, rfl, rfl, ha, by rw [updM_self]; exact hr, rfl⟩ ?_ ?_ ?_ ?_; (focus (push_cast; done)); (focus (push_cast; done)); (focus (push_cast; done)); (focus (simp [tvL, TV.ids, SV.ids, LV.ids, idsV]; done)))
  · rename_i hd
    have e : (0 + (((M k).length : Int) - 1)).toNat = (M k).length - 1 := by omega
    rw [get_some hr (k := k) (by simpa using hd) (by omega), e]
    first
        | (refine fin_disk0 (m := 9001) (wy := 9002) (V := V) (M := M) (way := (tks [] D.Queue)) (size := D.Base.length) (dead := D.Dead) (rest := []) ⟨hwf, rfl, rfl, ha, hr, rfl⟩ ?_ ?_ ?_ ?_; (focus (push_cast; done)); (focus (push_cast; done)); (focus (push_cast; done)); (focus (simp [tvL, TV.ids, SV.ids, LV.ids, idsV]; done)))
        | (refine fin_disk1 (m := 9001) (wy := 9002) (V := V) (M := M) (way := (tks [] D.Queue)) (size := D.Base.length) (dead := D.Dead) (rest := []) (ac := 9003) (n := _) ⟨hwf, rfl, rfl, ha, hr, rfl⟩ ?_ ?_ ?_ ?_; (focus (push_cast; done)); (focus (push_cast; done)); (focus (push_cast; done)); (focus (simp [tvL, TV.ids, SV.ids, LV.ids, idsV]; done)))
        | (refine fin_disk0r (m := 9001) (wy := 9002) (V := V) (M := M) (way := (tks [] D.Queue)) (size := D.Base.length) (dead := D.Dead) (rest := []) (k := k) (id := 6006) (l := (M k)) ⟨hwf, rfl, rfl, ha, by rw [updM_self]; exact hr, rfl⟩ ?_ ?_ ?_ ?_; (focus (push_cast; done)); (focus (push_cast; done)); (focus (push_cast; done)); (focus (simp [tvL, TV.ids, SV.ids, LV.ids, idsV]; done)))
        | (refine fin_disk1r (m := 9001) (wy := 9002) (V := V) (M := M) (way := (tks [] D.Queue)) (size := D.Base.length) (dead := D.Dead) (rest := []) (ac := 9003) (n := _) (k := k) (id := 6006) (l := (M k)) ⟨hwf, rfl, rfl, ha, by rw [updM_self]; exact hr, rfl⟩ ?_ ?_ ?_ ?_; (focus (push_cast; done)); (focus (push_cast; done)); (focus (push_cast; done)); (focus (simp [tvL, TV.ids, SV.ids, LV.ids, idsV]; done)))
  · rw [get_none (D := D) (k := k) (by simpa using hc)]
    first
        | (refine fin_disk0 (m := 9001) (wy := 9002) (V := V) (M := M) (way := (tks [] D.Queue)) (size := D.Base.length) (dead := D.Dead) (rest := []) ⟨hwf, rfl, rfl, ha, hr, rfl⟩ ?_ ?_ ?_ ?_; (focus (push_cast; done)); (focus (push_cast; done)); (focus (push_cast; done)); (focus (simp [tvL, TV.ids, SV.ids, LV.ids, idsV]; done)))
        | (refine fin_disk1 (m := 9001) (wy := 9002) (V := V) (M := M) (way := (tks [] D.Queue)) (size := D.Base.length) (dead := D.Dead) (rest := []) (ac := 9003) (n := _) ⟨hwf, rfl, rfl, ha, hr, rfl⟩ ?_ ?_ ?_ ?_; (focus (push_cast; done)); (focus (push_cast; done)); (focus (push_cast; done)); (focus (simp [tvL, TV.ids, SV.ids, LV.ids, idsV]; done)))
        | (refine fin_disk0r (m := 9001) (wy := 9002) (V := V) (M := M) (way := (tks [] D.Queue)) (size := D.Base.length) (dead := D.Dead) (rest := []) (k := k) (id := 6006) (l := (M k)) ⟨hwf, rfl, rfl, ha, by rw [updM_self]; exact hr, rfl⟩ ?_ ?_ ?_ ?_; (focus (push_cast; done)); (focus (push_cast; done)); (focus (push_cast; done)); (focus (simp [tvL, TV.ids, SV.ids, LV.ids, idsV]; done)))
        | (refine fin_disk1r (m := 9001) (wy := 9002) (V := V) (M := M) (way := (tks [] D.Queue)) (size := D.Base.length) (dead := D.Dead) (rest := []) (ac := 9003) (n := _) (k := k) (id := 6006) (l := (M k)) ⟨hwf, rfl, rfl, ha, by rw [updM_self]; exact hr, rfl⟩ ?_ ?_ ?_ ?_; (focus (push_cast; done)); (focus (push_cast; done)); (focus (push_cast; done)); (focus (simp [tvL, TV.ids, SV.ids, LV.ids, idsV]; done)))
  · rename_i hd
    rw [get_zero hr (k := k) (by simpa using hd) (by omega)]
    first
        | (refine fin_disk0 (m := 9001) (wy := 9002) (V := V) (M := M) (way := (tks [] D.Queue)) (size := D.Base.length) (dead := D.Dead) (rest := []) ⟨hwf, rfl, rfl, ha, hr, rfl⟩ ?_ ?_ ?_ ?_; (focus (push_cast; done)); (focus (push_cast; done)); (focus (push_cast; done)); (focus (simp [tvL, TV.ids, SV.ids, LV.ids, idsV]; done)))
        | (refine fin_disk1 (m := 9001) (wy := 9002) (V := V) (M := M) (way := (tks [] D.Queue)) (size := D.Base.length) (dead := D.Dead) (rest := []) (ac := 9003) (n := _) ⟨hwf, rfl, rfl, ha, hr, rfl⟩ ?_ ?_ ?_ ?_; (focus (push_cast; done)); (focus (push_cast; done)); (focus (push_cast; done)); (focus (simp [tvL, TV.ids, SV.ids, LV.ids, idsV]; done)))
        | (refine fin_disk0r (m := 9001) (wy := 9002) (V := V) (M := M) (way := (tks [] D.Queue)) (size := D.Base.length) (dead := D.Dead) (rest := []) (k := k) (id := 6006) (l := (M k)) ⟨hwf, rfl, rfl, ha, by rw [updM_self]; exact hr, rfl⟩ ?_ ?_ ?_ ?_; (focus (push_cast; done)); (focus (push_cast; done)); (focus (push_cast; done)); (focus (simp [tvL, TV.ids, SV.ids, LV.ids, idsV]; done)))
        | (refine fin_disk1r (m := 9001) (wy := 9002) (V := V) (M := M) (way := (tks [] D.Queue)) (size := D.Base.length) (dead := D.Dead) (rest := []) (ac := 9003) (n := _) (k := k) (id := 6006) (l := (M k)) ⟨hwf, rfl, rfl, ha, by rw [updM_self]; exact hr, rfl⟩ ?_ ?_ ?_ ?_; (focus (push_cast; done)); (focus (push_cast; done)); (focus (push_cast; done)); (focus (simp [tvL, TV.ids, SV.ids, LV.ids, idsV]; done)))
  · rename_i hd
    have e : (0 + (((M k).length : Int) - 1)).toNat = (M k).length - 1 := by omega
    rw [get_some hr (k := k) (by simpa using hd) (by omega), e]
    first
        | (refine fin_disk0 (m := 9001) (wy := 9002) (V := V) (M := M) (way := (tks [] D.Queue)) (size := D.Base.length) (dead := D.Dead) (rest := []) ⟨hwf, rfl, rfl, ha, hr, rfl⟩ ?_ ?_ ?_ ?_; (focus (push_cast; done)); (focus (push_cast; done)); (focus (push_cast; done)); (focus (simp [tvL, TV.ids, SV.ids, LV.ids, idsV]; done)))
        | (refine fin_disk1 (m := 9001) (wy := 9002) (V := V) (M := M) (way := (tks [] D.Queue)) (size := D.Base.length) (dead := D.Dead) (rest := []) (ac := 9003) (n := _) ⟨hwf, rfl, rfl, ha, hr, rfl⟩ ?_ ?_ ?_ ?_; (focus (push_cast; done)); (focus (push_cast; done)); (focus (push_cast; done)); (focus (simp [tvL, TV.ids, SV.ids, LV.ids, idsV]; done)))
        | (refine fin_disk0r (m := 9001) (wy := 9002) (V := V) (M := M) (way := (tks [] D.Queue)) (size := D.Base.length) (dead := D.Dead) (rest := []) (k := k) (id := 6006) (l := (M k)) ⟨hwf, rfl, rfl, ha, by rw [updM_self]; exact hr, rfl⟩ ?_ ?_ ?_ ?_; (focus (push_cast; done)); (focus (push_cast; done)); (focus (push_cast; done)); (focus (simp [tvL, TV.ids, SV.ids, LV.ids, idsV]; done)))
        | (refine fin_disk1r (m := 9001) (wy := 9002) (V := V) (M := M) (way := (tks [] D.Queue)) (size := D.Base.length) (dead := D.Dead) (rest := []) (ac := 9003) (n := _) (k := k) (id := 6006) (l := (M k)) ⟨hwf, rfl, rfl, ha, by rw [updM_self]; exact hr, rfl⟩ ?_ ?_ ?_ ?_; (focus (push_cast; done)); (focus (push_cast; done)); (focus (push_cast; done)); (focus (simp [tvL, TV.ids, SV.ids, LV.ids, idsV]; done)))
theorem Get_con : Con1 Cx.P 26 DiskO (.pair (.int .i64) .unit) (fun _ _ => True) (fun D x => [.dat (.arr 64 (.int .u8)) (dGet D x.1).1, .int .i64 (dGet D x.1).2]) (fun D _ => D) := ⟨isfn26, fun D x _ => Get_fn D x.1⟩
theorem Queue_fn (D : R08Disk) : Spec Cx.P 33 [.l (.ptr 1 [] 0)] [(1, .obj DiskO D)] (tvL [.dat (.slice (.int .i64)) (D.Queue.map (·.To))]) [(1, .obj DiskO D)] := by
  refine Spec.go2 (E := Cx.env) (fn := Try.f33) (res := [_]) _ (open_disk D [] (by simp [idsM]) (by simp)) Try.func33 isfn33 rfl rfl (by simp [idsV, SV.ids, LV.ids]) (by simp [idsM]) (by kernel_rfl) rfl ?_
  intro hf
  try push_cast at hf
  rintro ⟨⟨V, M, way, acts, size, dead⟩, ⟨hwf, h1, h2, ha, hr, h3⟩⟩
  simp only at h1 h2 ha hr h3
  subst h1 h2 h3
  have hbu := hwf.burns
  rcases acts with _ | n
  all_goals
    simp only [mmD, parSl, idsM, List.map_cons, List.map_nil, List.cons_append, List.nil_append]
    have htk := tks_len D.Queue []
    have hqn := hwf.qn
    repeat' (first
    | apply go_seq | apply go_block | apply go_region | apply go_skip | apply go_exit | apply go_label | apply go_ret
    | apply seqK_n | apply seqK_x | apply seqK_r | apply blockK_n | apply blockK_r | apply blockK_hit | apply blockK_miss rfl | apply loopK_x | apply loopK_r | apply regK_go | apply finK_n | apply finK_r
    | (refine vres_go ?_; push_cast) | apply ops_nil | refine ops_in (w_i64 _ (by omega) (by omega)) ?_ | refine ops_in (w_u8 _ (by omega) (by omega)) ?_ | refine ops_in (w_u32 _ (by omega) (by omega)) ?_ | refine ops_in (w_u64 _ (by omega) (by omega)) ?_
    | (refine ops_put rfl rfl ?_; intro K' hK'; push_cast; (repeat' refine And.intro ?_ ?_); all_goals (first | (apply hK'; clear hK' K') | (refine ⟨trivial, trivial, ?_⟩; apply hK'; clear hK' K') | (intro hb; (try push_cast at hb); all_goals (intros; apply hK'; clear hK' K')) | (clear hK' K'; first | omega | skip)))
    | (refine ops_no rfl rfl ?_; intro K' hK'; push_cast; (repeat' refine And.intro ?_ ?_); all_goals (first | (apply hK'; clear hK' K') | (refine ⟨trivial, trivial, ?_⟩; apply hK'; clear hK' K') | (intro hb; (try push_cast at hb); all_goals (intros; apply hK'; clear hK' K')) | (clear hK' K'; first | omega | skip)))
    | (refine go_cond (by push_cast; first | done | rfl) ?_ ?_ <;> intro hc <;> (try push_cast at hc))
    | (refine ops_gt rfl rfl rfl (by push_cast; first | done | rfl) ?_)
    | (refine ops_gb rfl rfl rfl (by push_cast; first | done | rfl) ?_ ?_; focus (intro hc; (try push_cast at hc); all_goals (intro K' hK'; push_cast; (repeat' refine And.intro ?_ ?_); all_goals (first | (apply hK'; clear hK' K') | (refine ⟨trivial, trivial, ?_⟩; apply hK'; clear hK' K') | (intro hb; (try push_cast at hb); all_goals (intros; apply hK'; clear hK' K')) | (clear hK' K'; first | omega | skip)))))
    | (intro hc; (try push_cast at hc)))
  all_goals
    refine go_loop2 [4, 13, 14, 15, 16, 17, 18, 19, 20, 21, 22, 23, 24, 25, 26, 27] [10] (fun (i : Nat) => i ≤ D.Queue.length) (fun (i : Nat) => [(13, .one (.l (.int .i64 i)))]) (fun (i : Nat) => [(10, .arr (.int .i64) (qNum D.Queue i))]) (fun (i : Nat) => D.Queue.length - i) 0 ?_ (by push_cast; first | done | rfl) (by push_cast; first | done | rfl) ?_ ?_
    · omega
    · push_cast
      simp [qNum, htk]
    · intro i hi
      push_cast
      intro hg
      have hl := qNum_len D.Queue i hi
      repeat' (first
    | apply go_seq | apply go_block | apply go_region | apply go_skip | apply go_exit | apply go_label | apply go_ret
    | apply seqK_n | apply seqK_x | apply seqK_r | apply blockK_n | apply blockK_r | apply blockK_hit | apply blockK_miss rfl | apply loopK_x | apply loopK_r | apply regK_go | apply finK_n | apply finK_r
    | (refine vres_go ?_; push_cast) | apply ops_nil | refine ops_in (w_i64 _ (by omega) (by omega)) ?_ | refine ops_in (w_u8 _ (by omega) (by omega)) ?_ | refine ops_in (w_u32 _ (by omega) (by omega)) ?_ | refine ops_in (w_u64 _ (by omega) (by omega)) ?_
    | (refine ops_put rfl rfl ?_; intro K' hK'; push_cast; (repeat' refine And.intro ?_ ?_); all_goals (first | (apply hK'; clear hK' K') | (refine ⟨trivial, trivial, ?_⟩; apply hK'; clear hK' K') | (intro hb; (try push_cast at hb); all_goals (intros; apply hK'; clear hK' K')) | (clear hK' K'; first | omega | skip)))
    | (refine ops_no rfl rfl ?_; intro K' hK'; push_cast; (repeat' refine And.intro ?_ ?_); all_goals (first | (apply hK'; clear hK' K') | (refine ⟨trivial, trivial, ?_⟩; apply hK'; clear hK' K') | (intro hb; (try push_cast at hb); all_goals (intros; apply hK'; clear hK' K')) | (clear hK' K'; first | omega | skip)))
    | (refine go_cond (by push_cast; first | done | rfl) ?_ ?_ <;> intro hc <;> (try push_cast at hc))
    | (refine ops_gt rfl rfl rfl (by push_cast; first | done | rfl) ?_)
    | (refine ops_gb rfl rfl rfl (by push_cast; first | done | rfl) ?_ ?_; focus (intro hc; (try push_cast at hc); all_goals (intro K' hK'; push_cast; (repeat' refine And.intro ?_ ?_); all_goals (first | (apply hK'; clear hK' K') | (refine ⟨trivial, trivial, ?_⟩; apply hK'; clear hK' K') | (intro hb; (try push_cast at hb); all_goals (intros; apply hK'; clear hK' K')) | (clear hK' K'; first | omega | skip)))))
    | (intro hc; (try push_cast at hc)))
      · refine loopK_m (i + 1) (by omega) (by omega) ?_
        push_cast
        rw [tks_at _ _ _ (by omega)]
        exact qNum_succ D.Queue i (by omega)
      · have : i = D.Queue.length := by omega
        subst this
        first
            | (refine fin_disk0 (m := 9001) (wy := 9002) (V := V) (M := M) (way := (tks [] D.Queue)) (size := D.Base.length) (dead := D.Dead) (rest := []) ⟨hwf, rfl, rfl, ha, hr, rfl⟩ ?_ ?_ ?_ ?_; (focus (push_cast; done)); (focus (push_cast; done)); (focus ((push_cast; rw [qNum_all]))); (focus (simp [tvL, TV.ids, SV.ids, LV.ids, idsV]; done)))
            | (refine fin_disk1 (m := 9001) (wy := 9002) (V := V) (M := M) (way := (tks [] D.Queue)) (size := D.Base.length) (dead := D.Dead) (rest := []) (ac := 9003) (n := _) ⟨hwf, rfl, rfl, ha, hr, rfl⟩ ?_ ?_ ?_ ?_; (focus (push_cast; done)); (focus (push_cast; done)); (focus ((push_cast; rw [qNum_all]))); (focus (simp [tvL, TV.ids, SV.ids, LV.ids, idsV]; done)))
end Go.Proofs.Ytnmjcdlgfimnaaa
