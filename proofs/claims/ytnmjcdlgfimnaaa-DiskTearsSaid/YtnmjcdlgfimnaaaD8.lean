/- The disk's functions. -/
import Derived.Test.YtnmjcdlgfimnaaaDk
namespace Go.Proofs.Ytnmjcdlgfimnaaa
set_option linter.unusedSimpArgs false
set_option linter.unusedVariables false
set_option maxRecDepth 20000
attribute [local irreducible] vcOps vcCode vcA vcSch Wc
set_option maxHeartbeats 8000000
theorem acts_none {b : Int} (h : (none : Option Int) = if b < 0 then none else some b) : b < 0 := by
  by_cases hb : b < 0
  · exact hb
  · rw [if_neg hb] at h; simp at h
theorem acts_some {b n : Int} (h : some n = if b < 0 then none else some b) : n = b ∧ 0 ≤ b := by
  by_cases hb : b < 0
  · rw [if_pos hb] at h; simp at h
  · rw [if_neg hb] at h; simp at h; exact ⟨h, by omega⟩
theorem act_fn (D : R08Disk) : Spec Cx.P 81 [.l (.ptr 1 [] 0)] [(1, .obj DiskO D)] (tvL [.bool (dSpend D).2]) [(1, .obj DiskO (dSpend D).1)] := by
  refine Spec.go2 (E := Cx.env) (fn := Try.f81) (res := [_]) _ (open_disk D [] (by simp [idsM]) (by simp)) Try.func81 isfn81 rfl rfl (by simp [idsV, SV.ids, LV.ids]) (by simp [idsM]) (by kernel_rfl) rfl ?_
  intro hf
  try push_cast at hf
  rintro ⟨⟨V, M, way, acts, size, dead⟩, ⟨hwf, h1, h2, ha, hr, h3⟩⟩
  simp only at h1 h2 ha hr h3
  subst h1 h2 h3
  have hbu := hwf.burns
  cases acts
  · have hb := acts_none ha
    simp only [mmD, parSl, idsM, List.map_cons, List.map_nil, List.cons_append, List.nil_append]
    repeat' (first
    | apply go_seq | apply go_block | apply go_region | apply go_skip | apply go_exit | apply go_label | apply go_ret
    | apply seqK_n | apply seqK_x | apply seqK_r | apply blockK_n | apply blockK_r | apply blockK_hit | apply blockK_miss rfl | apply loopK_x | apply loopK_r | apply regK_go | apply finK_n | apply finK_r
    | (refine vres_go ?_; push_cast) | apply ops_nil | refine ops_in (w_i64 _ (by omega) (by omega)) ?_ | refine ops_in (w_u8 _ (by omega) (by omega)) ?_ | refine ops_in (w_u32 _ (by omega) (by omega)) ?_ | refine ops_in (w_u64 _ (by omega) (by omega)) ?_
    | (refine ops_put rfl rfl ?_; intro K' hK'; push_cast; (repeat' refine And.intro ?_ ?_); all_goals (first | (apply hK'; clear hK' K') | (refine ⟨trivial, trivial, ?_⟩; apply hK'; clear hK' K') | (intro hb; (try push_cast at hb); all_goals (intros; apply hK'; clear hK' K')) | (clear hK' K'; first | omega | skip)))
    | (refine ops_no rfl rfl ?_; intro K' hK'; push_cast; (repeat' refine And.intro ?_ ?_); all_goals (first | (apply hK'; clear hK' K') | (refine ⟨trivial, trivial, ?_⟩; apply hK'; clear hK' K') | (intro hb; (try push_cast at hb); all_goals (intros; apply hK'; clear hK' K')) | (clear hK' K'; first | omega | skip)))
    | (refine go_cond (by push_cast; first | done | rfl) ?_ ?_ <;> intro hc <;> (try push_cast at hc))
    | (refine ops_gt rfl rfl rfl (by push_cast; first | done | rfl) ?_)
    | (refine ops_gb rfl rfl rfl (by push_cast; first | done | rfl) ?_ ?_; focus (intro hc; (try push_cast at hc); all_goals (intro K' hK'; push_cast; (repeat' refine And.intro ?_ ?_); all_goals (first | (apply hK'; clear hK' K') | (refine ⟨trivial, trivial, ?_⟩; apply hK'; clear hK' K') | (intro hb; (try push_cast at hb); all_goals (intros; apply hK'; clear hK' K')) | (clear hK' K'; first | omega | skip)))))
    | (intro hc; (try push_cast at hc)))
    all_goals
      refine fin_disk0 (m := 9001) (wy := 9002) (V := V) (M := M) (way := tks [] D.Queue) (size := D.Base.length) (dead := D.Dead) (rest := []) ?_ (by push_cast) (by push_cast) ?_ (by simp [tvL, TV.ids, SV.ids, LV.ids, idsV])
      · have h0 : ¬ D.Burns = 0 := by omega
        have h1 : ¬ 0 < D.Burns := by omega
        cases hdd : D.Dead <;> simp only [dSpend, if_neg h0, if_neg h1, hdd, Bool.false_eq_true, if_true, if_false] <;> exact ⟨hwf, rfl, by simp [hdd], by simp [hb], hr, rfl⟩
      · push_cast
        have h0 : ¬ D.Burns = 0 := by omega
        cases hdd : D.Dead <;> simp [dSpend, if_neg h0, hdd]
  · obtain ⟨rfl, hb⟩ := acts_some ha
    simp only [mmD, parSl, idsM, List.map_cons, List.map_nil, List.cons_append, List.nil_append]
    repeat' (first
    | apply go_seq | apply go_block | apply go_region | apply go_skip | apply go_exit | apply go_label | apply go_ret
    | apply seqK_n | apply seqK_x | apply seqK_r | apply blockK_n | apply blockK_r | apply blockK_hit | apply blockK_miss rfl | apply loopK_x | apply loopK_r | apply regK_go | apply finK_n | apply finK_r
    | (refine vres_go ?_; push_cast) | apply ops_nil | refine ops_in (w_i64 _ (by omega) (by omega)) ?_ | refine ops_in (w_u8 _ (by omega) (by omega)) ?_ | refine ops_in (w_u32 _ (by omega) (by omega)) ?_ | refine ops_in (w_u64 _ (by omega) (by omega)) ?_
    | (refine ops_put rfl rfl ?_; intro K' hK'; push_cast; (repeat' refine And.intro ?_ ?_); all_goals (first | (apply hK'; clear hK' K') | (refine ⟨trivial, trivial, ?_⟩; apply hK'; clear hK' K') | (intro hb; (try push_cast at hb); all_goals (intros; apply hK'; clear hK' K')) | (clear hK' K'; first | omega | skip)))
    | (refine ops_no rfl rfl ?_; intro K' hK'; push_cast; (repeat' refine And.intro ?_ ?_); all_goals (first | (apply hK'; clear hK' K') | (refine ⟨trivial, trivial, ?_⟩; apply hK'; clear hK' K') | (intro hb; (try push_cast at hb); all_goals (intros; apply hK'; clear hK' K')) | (clear hK' K'; first | omega | skip)))
    | (refine go_cond (by push_cast; first | done | rfl) ?_ ?_ <;> intro hc <;> (try push_cast at hc))
    | (refine ops_gt rfl rfl rfl (by push_cast; first | done | rfl) ?_)
    | (refine ops_gb rfl rfl rfl (by push_cast; first | done | rfl) ?_ ?_; focus (intro hc; (try push_cast at hc); all_goals (intro K' hK'; push_cast; (repeat' refine And.intro ?_ ?_); all_goals (first | (apply hK'; clear hK' K') | (refine ⟨trivial, trivial, ?_⟩; apply hK'; clear hK' K') | (intro hb; (try push_cast at hb); all_goals (intros; apply hK'; clear hK' K')) | (clear hK' K'; first | omega | skip)))))
    | (intro hc; (try push_cast at hc)))
    · have h0 : D.Burns = 0 := by assumption
      refine fin_disk1 (m := 9001) (wy := 9002) (ac := 9003) (n := D.Burns) (V := V) (M := M) (way := tks [] D.Queue) (size := D.Base.length) (dead := true) (rest := []) ?_ (by push_cast) (by push_cast) ?_ (by simp [tvL, TV.ids, SV.ids, LV.ids, idsV])
      · simp only [dSpend, h0, if_true]
        exact ⟨⟨hwf.many, hwf.sec, hwf.qs, hwf.qn, by simp [h0]⟩, rfl, rfl, by simp [h0], hr, rfl⟩
      · push_cast; simp [dSpend, h0]
    · have h0 : ¬ D.Burns = 0 := by assumption
      have hd : (!D.Dead) = true := by assumption
      have hd : D.Dead = false := by simpa using hd
      have h1 : 0 < D.Burns := by omega
      refine fin_disk1 (m := 9001) (wy := 9002) (ac := 9003) (n := (D.Burns - 1)) (V := V) (M := M) (way := tks [] D.Queue) (size := D.Base.length) (dead := D.Dead) (rest := []) ?_ (by push_cast) (by push_cast) ?_ (by simp [tvL, TV.ids, SV.ids, LV.ids, idsV])
      · simp only [dSpend, if_neg h0, hd, Bool.false_eq_true, if_false, if_pos h1]
        exact ⟨⟨hwf.many, hwf.sec, hwf.qs, hwf.qn, by simp only; omega⟩, rfl, by simp [hd], by simp only; rw [if_neg (by omega)], hr, rfl⟩
      · push_cast; simp [dSpend, if_neg h0, hd]
    · have h0 : ¬ D.Burns = 0 := by assumption
      have hd : (!D.Dead) = false := by assumption
      have hd : D.Dead = true := by simpa using hd
      refine fin_disk1 (m := 9001) (wy := 9002) (ac := 9003) (n := D.Burns) (V := V) (M := M) (way := tks [] D.Queue) (size := D.Base.length) (dead := D.Dead) (rest := []) ?_ (by push_cast) (by push_cast) ?_ (by simp [tvL, TV.ids, SV.ids, LV.ids, idsV])
      · simp only [dSpend, if_neg h0, hd, if_true]
        exact ⟨hwf, rfl, by simp [hd], by simp only; rw [if_neg (by omega)], hr, rfl⟩
      · push_cast; simp [dSpend, if_neg h0, hd]
#print axioms act_fn
theorem there_fn (D : R08Disk) (k : Int) : Spec Cx.P 80 [.l (.ptr 1 [] 0), .l (.int .i64 k)] [(1, .obj DiskO D)] (tvL [.bool (dThere D k)]) [(1, .obj DiskO D)] := by
  refine Spec.go2 (E := Cx.env) (fn := Try.f80) (res := [_]) _ (open_disk D [] (by simp [idsM]) (by simp)) Try.func80 isfn80 rfl rfl (by simp [idsV, SV.ids, LV.ids]) (by simp [idsM]) (by kernel_rfl) rfl ?_
  intro hf
  try push_cast at hf
  rintro ⟨⟨V, M, way, acts, size, dead⟩, ⟨hwf, h1, h2, ha, hr, h3⟩⟩
  simp only at h1 h2 ha hr h3
  subst h1 h2 h3
  have hbu := hwf.burns
  rcases acts with _ | n
  all_goals
    simp only [mmD, parSl, idsM, List.map_cons, List.map_nil, List.cons_append, List.nil_append]
    repeat' (first
    | apply go_seq | apply go_block | apply go_region | apply go_skip | apply go_exit | apply go_label | apply go_ret
    | apply seqK_n | apply seqK_x | apply seqK_r | apply blockK_n | apply blockK_r | apply blockK_hit | apply blockK_miss rfl | apply loopK_x | apply loopK_r | apply regK_go | apply finK_n | apply finK_r
    | (refine vres_go ?_; push_cast) | apply ops_nil | refine ops_in (w_i64 _ (by omega) (by omega)) ?_ | refine ops_in (w_u8 _ (by omega) (by omega)) ?_ | refine ops_in (w_u32 _ (by omega) (by omega)) ?_ | refine ops_in (w_u64 _ (by omega) (by omega)) ?_
    | (refine ops_put rfl rfl ?_; intro K' hK'; push_cast; (repeat' refine And.intro ?_ ?_); all_goals (first | (apply hK'; clear hK' K') | (refine ⟨trivial, trivial, ?_⟩; apply hK'; clear hK' K') | (intro hb; (try push_cast at hb); all_goals (intros; apply hK'; clear hK' K')) | (clear hK' K'; first | omega | skip)))
    | (refine ops_no rfl rfl ?_; intro K' hK'; push_cast; (repeat' refine And.intro ?_ ?_); all_goals (first | (apply hK'; clear hK' K') | (refine ⟨trivial, trivial, ?_⟩; apply hK'; clear hK' K') | (intro hb; (try push_cast at hb); all_goals (intros; apply hK'; clear hK' K')) | (clear hK' K'; first | omega | skip)))
    | (refine go_cond (by push_cast; first | done | rfl) ?_ ?_ <;> intro hc <;> (try push_cast at hc))
    | (refine ops_gt rfl rfl rfl (by push_cast; first | done | rfl) ?_)
    | (refine ops_gb rfl rfl rfl (by push_cast; first | done | rfl) ?_ ?_; focus (intro hc; (try push_cast at hc); all_goals (intro K' hK'; push_cast; (repeat' refine And.intro ?_ ?_); all_goals (first | (apply hK'; clear hK' K') | (refine ⟨trivial, trivial, ?_⟩; apply hK'; clear hK' K') | (intro hb; (try push_cast at hb); all_goals (intros; apply hK'; clear hK' K')) | (clear hK' K'; first | omega | skip)))))
    | (intro hc; (try push_cast at hc)))
  all_goals
    first
        | (refine fin_disk0 (m := 9001) (wy := 9002) (V := V) (M := M) (way := (tks [] D.Queue)) (size := D.Base.length) (dead := D.Dead) (rest := []) ⟨hwf, rfl, rfl, ha, hr, rfl⟩ ?_ ?_ ?_ ?_; (focus (push_cast; done)); (focus (push_cast; done)); (focus ((push_cast; simp_all [dThere]; try omega))); (focus (simp [tvL, TV.ids, SV.ids, LV.ids, idsV]; done)))
        | (refine fin_disk1 (m := 9001) (wy := 9002) (V := V) (M := M) (way := (tks [] D.Queue)) (size := D.Base.length) (dead := D.Dead) (rest := []) (ac := 9003) (n := _) ⟨hwf, rfl, rfl, ha, hr, rfl⟩ ?_ ?_ ?_ ?_; (focus (push_cast; done)); (focus (push_cast; done)); (focus ((push_cast; simp_all [dThere]; try omega))); (focus (simp [tvL, TV.ids, SV.ids, LV.ids, idsV]; done)))
theorem Size_fn (D : R08Disk) : Spec Cx.P 25 [.l (.ptr 1 [] 0)] [(1, .obj DiskO D)] (tvL [.int .i64 D.Base.length]) [(1, .obj DiskO D)] := by
  refine Spec.go2 (E := Cx.env) (fn := Try.f25) (res := [_]) _ (open_disk D [] (by simp [idsM]) (by simp)) Try.func25 isfn25 rfl rfl (by simp [idsV, SV.ids, LV.ids]) (by simp [idsM]) (by kernel_rfl) rfl ?_
  intro hf
  try push_cast at hf
  rintro ⟨⟨V, M, way, acts, size, dead⟩, ⟨hwf, h1, h2, ha, hr, h3⟩⟩
  simp only at h1 h2 ha hr h3
  subst h1 h2 h3
  have hbu := hwf.burns
  rcases acts with _ | n
  all_goals
    simp only [mmD, parSl, idsM, List.map_cons, List.map_nil, List.cons_append, List.nil_append]
    repeat' (first
    | apply go_seq | apply go_block | apply go_region | apply go_skip | apply go_exit | apply go_label | apply go_ret
    | apply seqK_n | apply seqK_x | apply seqK_r | apply blockK_n | apply blockK_r | apply blockK_hit | apply blockK_miss rfl | apply loopK_x | apply loopK_r | apply regK_go | apply finK_n | apply finK_r
    | (refine vres_go ?_; push_cast) | apply ops_nil | refine ops_in (w_i64 _ (by omega) (by omega)) ?_ | refine ops_in (w_u8 _ (by omega) (by omega)) ?_ | refine ops_in (w_u32 _ (by omega) (by omega)) ?_ | refine ops_in (w_u64 _ (by omega) (by omega)) ?_
    | (refine ops_put rfl rfl ?_; intro K' hK'; push_cast; (repeat' refine And.intro ?_ ?_); all_goals (first | (apply hK'; clear hK' K') | (refine ⟨trivial, trivial, ?_⟩; apply hK'; clear hK' K') | (intro hb; (try push_cast at hb); all_goals (intros; apply hK'; clear hK' K')) | (clear hK' K'; first | omega | skip)))
    | (refine ops_no rfl rfl ?_; intro K' hK'; push_cast; (repeat' refine And.intro ?_ ?_); all_goals (first | (apply hK'; clear hK' K') | (refine ⟨trivial, trivial, ?_⟩; apply hK'; clear hK' K') | (intro hb; (try push_cast at hb); all_goals (intros; apply hK'; clear hK' K')) | (clear hK' K'; first | omega | skip)))
    | (refine go_cond (by push_cast; first | done | rfl) ?_ ?_ <;> intro hc <;> (try push_cast at hc))
    | (refine ops_gt rfl rfl rfl (by push_cast; first | done | rfl) ?_)
    | (refine ops_gb rfl rfl rfl (by push_cast; first | done | rfl) ?_ ?_; focus (intro hc; (try push_cast at hc); all_goals (intro K' hK'; push_cast; (repeat' refine And.intro ?_ ?_); all_goals (first | (apply hK'; clear hK' K') | (refine ⟨trivial, trivial, ?_⟩; apply hK'; clear hK' K') | (intro hb; (try push_cast at hb); all_goals (intros; apply hK'; clear hK' K')) | (clear hK' K'; first | omega | skip)))))
    | (intro hc; (try push_cast at hc)))
  all_goals
    first
        | (refine fin_disk0 (m := 9001) (wy := 9002) (V := V) (M := M) (way := (tks [] D.Queue)) (size := D.Base.length) (dead := D.Dead) (rest := []) ⟨hwf, rfl, rfl, ha, hr, rfl⟩ ?_ ?_ ?_ ?_; (focus (push_cast; done)); (focus (push_cast; done)); (focus ((push_cast; done))); (focus (simp [tvL, TV.ids, SV.ids, LV.ids, idsV]; done)))
        | (refine fin_disk1 (m := 9001) (wy := 9002) (V := V) (M := M) (way := (tks [] D.Queue)) (size := D.Base.length) (dead := D.Dead) (rest := []) (ac := 9003) (n := _) ⟨hwf, rfl, rfl, ha, hr, rfl⟩ ?_ ?_ ?_ ?_; (focus (push_cast; done)); (focus (push_cast; done)); (focus ((push_cast; done))); (focus (simp [tvL, TV.ids, SV.ids, LV.ids, idsV]; done)))
theorem Dead_fn (D : R08Disk) : Spec Cx.P 31 [.l (.ptr 1 [] 0)] [(1, .obj DiskO D)] (tvL [.bool D.Dead]) [(1, .obj DiskO D)] := by
  refine Spec.go2 (E := Cx.env) (fn := Try.f31) (res := [_]) _ (open_disk D [] (by simp [idsM]) (by simp)) Try.func31 isfn31 rfl rfl (by simp [idsV, SV.ids, LV.ids]) (by simp [idsM]) (by kernel_rfl) rfl ?_
  intro hf
  try push_cast at hf
  rintro ⟨⟨V, M, way, acts, size, dead⟩, ⟨hwf, h1, h2, ha, hr, h3⟩⟩
  simp only at h1 h2 ha hr h3
  subst h1 h2 h3
  have hbu := hwf.burns
  rcases acts with _ | n
  all_goals
    simp only [mmD, parSl, idsM, List.map_cons, List.map_nil, List.cons_append, List.nil_append]
    repeat' (first
    | apply go_seq | apply go_block | apply go_region | apply go_skip | apply go_exit | apply go_label | apply go_ret
    | apply seqK_n | apply seqK_x | apply seqK_r | apply blockK_n | apply blockK_r | apply blockK_hit | apply blockK_miss rfl | apply loopK_x | apply loopK_r | apply regK_go | apply finK_n | apply finK_r
    | (refine vres_go ?_; push_cast) | apply ops_nil | refine ops_in (w_i64 _ (by omega) (by omega)) ?_ | refine ops_in (w_u8 _ (by omega) (by omega)) ?_ | refine ops_in (w_u32 _ (by omega) (by omega)) ?_ | refine ops_in (w_u64 _ (by omega) (by omega)) ?_
    | (refine ops_put rfl rfl ?_; intro K' hK'; push_cast; (repeat' refine And.intro ?_ ?_); all_goals (first | (apply hK'; clear hK' K') | (refine ⟨trivial, trivial, ?_⟩; apply hK'; clear hK' K') | (intro hb; (try push_cast at hb); all_goals (intros; apply hK'; clear hK' K')) | (clear hK' K'; first | omega | skip)))
    | (refine ops_no rfl rfl ?_; intro K' hK'; push_cast; (repeat' refine And.intro ?_ ?_); all_goals (first | (apply hK'; clear hK' K') | (refine ⟨trivial, trivial, ?_⟩; apply hK'; clear hK' K') | (intro hb; (try push_cast at hb); all_goals (intros; apply hK'; clear hK' K')) | (clear hK' K'; first | omega | skip)))
    | (refine go_cond (by push_cast; first | done | rfl) ?_ ?_ <;> intro hc <;> (try push_cast at hc))
    | (refine ops_gt rfl rfl rfl (by push_cast; first | done | rfl) ?_)
    | (refine ops_gb rfl rfl rfl (by push_cast; first | done | rfl) ?_ ?_; focus (intro hc; (try push_cast at hc); all_goals (intro K' hK'; push_cast; (repeat' refine And.intro ?_ ?_); all_goals (first | (apply hK'; clear hK' K') | (refine ⟨trivial, trivial, ?_⟩; apply hK'; clear hK' K') | (intro hb; (try push_cast at hb); all_goals (intros; apply hK'; clear hK' K')) | (clear hK' K'; first | omega | skip)))))
    | (intro hc; (try push_cast at hc)))
  all_goals
    first
        | (refine fin_disk0 (m := 9001) (wy := 9002) (V := V) (M := M) (way := (tks [] D.Queue)) (size := D.Base.length) (dead := D.Dead) (rest := []) ⟨hwf, rfl, rfl, ha, hr, rfl⟩ ?_ ?_ ?_ ?_; (focus (push_cast; done)); (focus (push_cast; done)); (focus ((push_cast; done))); (focus (simp [tvL, TV.ids, SV.ids, LV.ids, idsV]; done)))
        | (refine fin_disk1 (m := 9001) (wy := 9002) (V := V) (M := M) (way := (tks [] D.Queue)) (size := D.Base.length) (dead := D.Dead) (rest := []) (ac := 9003) (n := _) ⟨hwf, rfl, rfl, ha, hr, rfl⟩ ?_ ?_ ?_ ?_; (focus (push_cast; done)); (focus (push_cast; done)); (focus ((push_cast; done))); (focus (simp [tvL, TV.ids, SV.ids, LV.ids, idsV]; done)))
theorem fuse_some {k : Int} (h : 0 ≤ k) : some k = if max k (-1) < 0 then none else some (max k (-1)) := by
  have h1 : ¬ max k (-1) < 0 := by omega
  have h2 : max k (-1) = k := by omega
  rw [if_neg h1, h2]
theorem fuse_none {k : Int} (h : ¬ 0 ≤ k) : (none : Option Int) = if max k (-1) < 0 then none else some (max k (-1)) := by
  have h1 : max k (-1) < 0 := by omega
  rw [if_pos h1]
theorem Fuse_fn (D : R08Disk) (k : Int) (hk : k ≤ 9223372036854775807) : Spec Cx.P 27 [.l (.ptr 1 [] 0), .l (.int .i64 k)] [(1, .obj DiskO D)] (tvL []) [(1, .obj DiskO (dFuse D k))] := by
  refine Spec.go2 (E := Cx.env) (fn := Try.f27) (res := []) _ (open_disk D [] (by simp [idsM]) (by simp)) Try.func27 isfn27 rfl rfl (by simp [idsV, SV.ids, LV.ids]) (by simp [idsM]) (by kernel_rfl) rfl ?_
  intro hf
  try push_cast at hf
  rintro ⟨⟨V, M, way, acts, size, dead⟩, ⟨hwf, h1, h2, ha, hr, h3⟩⟩
  simp only at h1 h2 ha hr h3
  subst h1 h2 h3
  have hbu := hwf.burns
  rcases acts with _ | n
  all_goals
    simp only [mmD, parSl, idsM, List.map_cons, List.map_nil, List.cons_append, List.nil_append]
    repeat' (first
    | apply go_seq | apply go_block | apply go_region | apply go_skip | apply go_exit | apply go_label | apply go_ret
    | apply seqK_n | apply seqK_x | apply seqK_r | apply blockK_n | apply blockK_r | apply blockK_hit | apply blockK_miss rfl | apply loopK_x | apply loopK_r | apply regK_go | apply finK_n | apply finK_r
    | (refine vres_go ?_; push_cast) | apply ops_nil | refine ops_in (w_i64 _ (by omega) (by omega)) ?_ | refine ops_in (w_u8 _ (by omega) (by omega)) ?_ | refine ops_in (w_u32 _ (by omega) (by omega)) ?_ | refine ops_in (w_u64 _ (by omega) (by omega)) ?_
    | (refine ops_put rfl rfl ?_; intro K' hK'; push_cast; (repeat' refine And.intro ?_ ?_); all_goals (first | (apply hK'; clear hK' K') | (refine ⟨trivial, trivial, ?_⟩; apply hK'; clear hK' K') | (intro hb; (try push_cast at hb); all_goals (intros; apply hK'; clear hK' K')) | (clear hK' K'; first | omega | skip)))
    | (refine ops_no rfl rfl ?_; intro K' hK'; push_cast; (repeat' refine And.intro ?_ ?_); all_goals (first | (apply hK'; clear hK' K') | (refine ⟨trivial, trivial, ?_⟩; apply hK'; clear hK' K') | (intro hb; (try push_cast at hb); all_goals (intros; apply hK'; clear hK' K')) | (clear hK' K'; first | omega | skip)))
    | (refine go_cond (by push_cast; first | done | rfl) ?_ ?_ <;> intro hc <;> (try push_cast at hc))
    | (refine ops_gt rfl rfl rfl (by push_cast; first | done | rfl) ?_)
    | (refine ops_gb rfl rfl rfl (by push_cast; first | done | rfl) ?_ ?_; focus (intro hc; (try push_cast at hc); all_goals (intro K' hK'; push_cast; (repeat' refine And.intro ?_ ?_); all_goals (first | (apply hK'; clear hK' K') | (refine ⟨trivial, trivial, ?_⟩; apply hK'; clear hK' K') | (intro hb; (try push_cast at hb); all_goals (intros; apply hK'; clear hK' K')) | (clear hK' K'; first | omega | skip)))))
    | (intro hc; (try push_cast at hc)))
  all_goals
    have hw' : DWf (dFuse D k) := ⟨hwf.many, hwf.sec, hwf.qs, hwf.qn, by simp only [dFuse]; omega⟩
  · exact fin_disk1 (m := 9001) (wy := 9002) (ac := 3) (n := k) (V := V) (M := M) (way := tks [] D.Queue) (size := D.Base.length) (dead := D.Dead) (rest := []) ⟨hw', rfl, rfl, fuse_some (by omega), hr, rfl⟩ (by push_cast) (by push_cast) (by push_cast) (by simp [tvL, TV.ids, idsV])
  · exact fin_disk0 (m := 9001) (wy := 9002) (V := V) (M := M) (way := tks [] D.Queue) (size := D.Base.length) (dead := D.Dead) (rest := []) ⟨hw', rfl, rfl, fuse_none (by omega), hr, rfl⟩ (by push_cast) (by push_cast) (by push_cast) (by simp [tvL, TV.ids, idsV])
  · exact fin_disk1 (m := 9001) (wy := 9002) (ac := 3) (n := k) (V := V) (M := M) (way := tks [] D.Queue) (size := D.Base.length) (dead := D.Dead) (rest := []) ⟨hw', rfl, rfl, fuse_some (by omega), hr, rfl⟩ (by push_cast) (by push_cast) (by push_cast) (by simp [tvL, TV.ids, idsV])
  · exact fin_disk0 (m := 9001) (wy := 9002) (V := V) (M := M) (way := tks [] D.Queue) (size := D.Base.length) (dead := D.Dead) (rest := []) ⟨hw', rfl, rfl, fuse_none (by omega), hr, rfl⟩ (by push_cast) (by push_cast) (by push_cast) (by simp [tvL, TV.ids, idsV])
end Go.Proofs.Ytnmjcdlgfimnaaa
