/- The disk: Flush, Power. -/
import Derived.Test.YtnmjcdlgfimnaaaDo
import Derived.Test.YtnmjcdlgfimnaaaL8
namespace Go.Proofs.Ytnmjcdlgfimnaaa
set_option linter.unusedSimpArgs false
set_option linter.unusedVariables false
set_option maxRecDepth 20000
attribute [local irreducible] vcOps vcCode vcA vcSch Wc
set_option maxHeartbeats 8000000
def arrD (D : R08Disk) (f : Nat → Int) : R08Disk := ⟨landAll f 0 D.Queue D.Base, [], D.Burns, D.Dead⟩
def arrF (vs0 : List SV) (s : SymSt) (K : KT) : Prop := match vs0 with
  | [.l (.ptr id [] 0), .l (.clo f [])] => (match getM s.mem id with
    | some (@Box.obj τ O D) => f = 83 ∧ ∃ h : τ = R08Disk, HEq O DiskO ∧ K (tvL []) (s.back [id] [] [(id, .obj DiskO (arrD (cast h D) fun _ => 64))])
    | _ => False)
  | _ => False
theorem call_arrF {vs0 : List SV} {s : SymSt} {K : KT} (hc : arrF vs0 s K) : Wc Cx.P 82 vs0 s K := by
  unfold arrF at hc
  split at hc
  · rename_i id f
    split at hc
    · rename_i τ O D hg
      obtain ⟨rfl, e, hO, hc⟩ := hc
      subst e
      have hO := eq_of_heq hO
      subst hO
      simp only [cast_eq] at hc
      refine Wc_spec (arriveF_fn D) (fun _ => id) [] (by simp [idsM]) (by simp [idsM]) (by simp [idsM]) (by simp [idsM]) (by simp) (by simp [tvL, TV.ids, idsV]) ?_ ?_ (fun _ _ _ h => h) hc
      · intro e he i hi
        simp only [List.mem_singleton] at he
        subst he
        simp [Box.ids] at hi
      · intro e he
        simp only [List.mem_singleton] at he
        subst he
        exact hg
    · exact hc.elim
  · exact hc.elim
def arrPw (vs0 : List SV) (s : SymSt) (K : KT) : Prop := match vs0 with
  | [.l (.ptr id [] 0), .l (.clo f [b])] => (match getM s.mem id, getM s.mem b with
    | some (@Box.obj τ O D), some (.segs [x]) => f = 84 ∧ id ≠ b ∧ ∃ h : τ = R08Disk, HEq O DiskO ∧ datAs (.slice (.int .i64)) x fun keep => K (tvL []) (s.back [id, b] [] [(id, .obj DiskO (arrD (cast h D) (keepAt keep))), (b, .segs [x])])
    | _, _ => False)
  | _ => False
theorem call_arrP {vs0 : List SV} {s : SymSt} {K : KT} (hc : arrPw vs0 s K) : Wc Cx.P 82 vs0 s K := by
  unfold arrPw at hc
  split at hc
  · rename_i id f b
    split at hc
    · rename_i τ O D x hg hb
      obtain ⟨rfl, hne, e, hO, hc⟩ := hc
      subst e
      have hO := eq_of_heq hO
      subst hO
      simp only [cast_eq] at hc
      obtain ⟨keep, hc, rfl⟩ := datAs_eq hc
      refine Wc_spec (arriveP_fn D keep) (fun i => if i = 1 then id else b) [] (by simp [idsM]) ?_ ?_ (by simp [idsM]) (by simp) (by simp [tvL, TV.ids, idsV]) ?_ ?_ ?_ hc
      · simp only [idsM, List.map_cons, List.map_nil, List.mem_cons, List.not_mem_nil, or_false]
        rintro i (rfl | rfl) j (rfl | rfl) <;> simp [hne, Ne.symm hne]
      · simp only [idsM, List.map_cons, List.map_nil, List.mem_cons, List.not_mem_nil, or_false]
        rintro i (rfl | rfl) j (rfl | rfl) <;> simp [hne, Ne.symm hne]
      · intro e he i hi
        simp only [List.mem_cons, List.not_mem_nil, or_false] at he
        rcases he with rfl | rfl <;> simp [Box.ids, idsL, LV.ids] at hi
      · intro e he
        simp only [List.mem_cons, List.not_mem_nil, or_false] at he
        rcases he with rfl | rfl
        · exact hg
        · exact hb
      · intro G γ us h
        simpa [SV.ren, LV.ren] using h
    · exact hc.elim
  · exact hc.elim
attribute [push_cast] arrF arrPw
theorem Flush_fn (D : R08Disk) : Spec Cx.P 28 [.l (.ptr 1 [] 0)] [(1, .obj DiskO D)] (tvL [.int .i64 (dFlush D).2]) [(1, .obj DiskO (dFlush D).1)] := by
  refine Spec.go2 (E := Cx.env) (fn := Try.f28) (res := [_]) _ (Opens.refl _) Try.func28 isfn28 rfl rfl (by simp [idsV, SV.ids, LV.ids]) (by simp [idsM]) (by kernel_rfl) rfl ?_
  intro hf
  try push_cast at hf
  intro _
  simp only [mmD, parSl, idsM, List.map_cons, List.map_nil, List.cons_append, List.nil_append]
  have hqs := dSpend_queue D
  have hbs := dSpend_base D
  repeat' (first
    | apply go_seq | apply go_block | apply go_region | apply go_skip | apply go_exit | apply go_label | apply go_ret
    | apply seqK_n | apply seqK_x | apply seqK_r | apply blockK_n | apply blockK_r | apply blockK_hit | apply blockK_miss rfl | apply loopK_x | apply loopK_r | apply regK_go | apply finK_n | apply finK_r
    | (refine vres_go ?_; push_cast) | apply ops_nil | refine ops_in (w_i64 _ (by omega) (by omega)) ?_ | refine ops_in (w_u8 _ (by omega) (by omega)) ?_ | refine ops_in (w_u32 _ (by omega) (by omega)) ?_ | refine ops_in (w_u64 _ (by omega) (by omega)) ?_
    | (refine ops_put rfl rfl ?_; intro K' hK'; push_cast; (repeat' refine And.intro ?_ ?_); all_goals (first | (apply hK'; clear hK' K') | (refine ⟨trivial, trivial, ?_⟩; apply hK'; clear hK' K') | (intro hb; (try push_cast at hb); all_goals (intros; apply hK'; clear hK' K')) | ((first | refine call_1 act_con (fun _ _ => rfl) ?_ | refine call_arrF ?_); push_cast; (repeat' refine And.intro ?_ ?_); all_goals (first | (apply hK'; clear hK' K') | (intros; apply hK'; clear hK' K') | (clear hK' K'; first | omega | skip))) | (clear hK' K'; first | omega | skip)))
    | (refine ops_no rfl rfl ?_; intro K' hK'; push_cast; (repeat' refine And.intro ?_ ?_); all_goals (first | (apply hK'; clear hK' K') | (refine ⟨trivial, trivial, ?_⟩; apply hK'; clear hK' K') | (intro hb; (try push_cast at hb); all_goals (intros; apply hK'; clear hK' K')) | ((first | refine call_1 act_con (fun _ _ => rfl) ?_ | refine call_arrF ?_); push_cast; (repeat' refine And.intro ?_ ?_); all_goals (first | (apply hK'; clear hK' K') | (intros; apply hK'; clear hK' K') | (clear hK' K'; first | omega | skip))) | (clear hK' K'; first | omega | skip)))
    | (refine go_cond (by push_cast; first | done | rfl) ?_ ?_ <;> intro hc <;> (try push_cast at hc))
    | (refine ops_gt rfl rfl rfl (by push_cast; first | done | rfl) ?_)
    | (refine ops_gb rfl rfl rfl (by push_cast; first | done | rfl) ?_ ?_; focus (intro hc; (try push_cast at hc); all_goals (intro K' hK'; push_cast; (repeat' refine And.intro ?_ ?_); all_goals (first | (apply hK'; clear hK' K') | (refine ⟨trivial, trivial, ?_⟩; apply hK'; clear hK' K') | (intro hb; (try push_cast at hb); all_goals (intros; apply hK'; clear hK' K')) | ((first | refine call_1 act_con (fun _ _ => rfl) ?_ | refine call_arrF ?_); push_cast; (repeat' refine And.intro ?_ ?_); all_goals (first | (apply hK'; clear hK' K') | (intros; apply hK'; clear hK' K') | (clear hK' K'; first | omega | skip))) | (clear hK' K'; first | omega | skip)))))
    | (intro hc; (try push_cast at hc)))
  · have hs : (dSpend D).2 = false := by simpa using hc
    have e : dFlush D = ((dSpend D).1, 82) := by simp [dFlush, hs]
    rw [e]
    (refine Fin2.fin ⟨[(1, .obj DiskO (dSpend D).1)], ?_, ?_, ?_, Closes.refl _, ?_⟩
     · push_cast
     · push_cast
     · simp [idsM]
     · simp [tvL, TV.ids, SV.ids, LV.ids, idsV])
  · have hs : (dSpend D).2 = true := by
      have : (!(dSpend D).2) = false := by assumption
      simpa using this
    have e : dFlush D = (arrD (dSpend D).1 (fun _ => 64), 0) := by simp [dFlush, hs, arrD, hqs, hbs]
    rw [e]
    (refine Fin2.fin ⟨[(1, .obj DiskO (arrD (dSpend D).1 (fun _ => 64)))], ?_, ?_, ?_, Closes.refl _, ?_⟩
     · push_cast
     · push_cast
     · simp [idsM]
     · simp [tvL, TV.ids, SV.ids, LV.ids, idsV])
theorem Power_fn (D : R08Disk) (keep : List Int) : Spec Cx.P 32 [.l (.ptr 1 [] 0), .l (.dat (.slice (.int .i64)) keep)] [(1, .obj DiskO D)] (tvL []) [(1, .obj DiskO (dPower D keep))] := by
  refine Spec.go2 (E := Cx.env) (fn := Try.f32) (res := []) _ (Opens.refl _) Try.func32 isfn32 rfl rfl (by simp [idsV, SV.ids, LV.ids]) (by simp [idsM]) (by kernel_rfl) rfl ?_
  intro hf
  try push_cast at hf
  intro _
  simp only [mmD, parSl, idsM, List.map_cons, List.map_nil, List.cons_append, List.nil_append]
  repeat' (first
    | apply go_seq | apply go_block | refine go_region_stop (id := 2) ?_ | apply go_region | apply go_skip | apply go_exit | apply go_label | apply go_ret
    | apply seqK_n | apply seqK_x | apply seqK_r | apply blockK_n | apply blockK_r | apply blockK_hit | apply blockK_miss rfl | apply loopK_x | apply loopK_r | apply regK_go | apply finK_n | apply finK_r
    | (refine vres_go ?_; push_cast) | apply ops_nil | refine ops_in (w_i64 _ (by omega) (by omega)) ?_ | refine ops_in (w_u8 _ (by omega) (by omega)) ?_ | refine ops_in (w_u32 _ (by omega) (by omega)) ?_ | refine ops_in (w_u64 _ (by omega) (by omega)) ?_
    | (refine ops_put rfl rfl ?_; intro K' hK'; push_cast; (repeat' refine And.intro ?_ ?_); all_goals (first | (apply hK'; clear hK' K') | (refine ⟨trivial, trivial, ?_⟩; apply hK'; clear hK' K') | (intro hb; (try push_cast at hb); all_goals (intros; apply hK'; clear hK' K')) | ((first | refine call_1 Fuse_con (fun _ _ => rfl) ?_ | refine call_arrP ?_); push_cast; (repeat' refine And.intro ?_ ?_); all_goals (first | (apply hK'; clear hK' K') | (intros; apply hK'; clear hK' K') | (clear hK' K'; first | omega | skip))) | (clear hK' K'; first | omega | skip)))
    | (refine ops_no rfl rfl ?_; intro K' hK'; push_cast; (repeat' refine And.intro ?_ ?_); all_goals (first | (apply hK'; clear hK' K') | (refine ⟨trivial, trivial, ?_⟩; apply hK'; clear hK' K') | (intro hb; (try push_cast at hb); all_goals (intros; apply hK'; clear hK' K')) | ((first | refine call_1 Fuse_con (fun _ _ => rfl) ?_ | refine call_arrP ?_); push_cast; (repeat' refine And.intro ?_ ?_); all_goals (first | (apply hK'; clear hK' K') | (intros; apply hK'; clear hK' K') | (clear hK' K'; first | omega | skip))) | (clear hK' K'; first | omega | skip)))
    | (refine go_cond (by push_cast; first | done | rfl) ?_ ?_ <;> intro hc <;> (try push_cast at hc))
    | (refine ops_gt rfl rfl rfl (by push_cast; first | done | rfl) ?_)
    | (refine ops_gb rfl rfl rfl (by push_cast; first | done | rfl) ?_ ?_; focus (intro hc; (try push_cast at hc); all_goals (intro K' hK'; push_cast; (repeat' refine And.intro ?_ ?_); all_goals (first | (apply hK'; clear hK' K') | (refine ⟨trivial, trivial, ?_⟩; apply hK'; clear hK' K') | (intro hb; (try push_cast at hb); all_goals (intros; apply hK'; clear hK' K')) | ((first | refine call_1 Fuse_con (fun _ _ => rfl) ?_ | refine call_arrP ?_); push_cast; (repeat' refine And.intro ?_ ?_); all_goals (first | (apply hK'; clear hK' K') | (intros; apply hK'; clear hK' K') | (clear hK' K'; first | omega | skip))) | (clear hK' K'; first | omega | skip)))))
    | (intro hc; (try push_cast at hc)))

  refine regKS_open (regK_opens _ (open_disk (dFuse (arrD D (keepAt keep)) (-1)) _ (by simp [idsM]) (by simp [Box.ids, idsL, LV.ids])) (Closes.refl _) (by simp) (by push_cast; first | done | rfl) ?_)
  rintro ⟨⟨V, M, way, acts, size, dead⟩, ⟨hwf, h1, h2, ha, hr, h3⟩⟩
  simp only at h1 h2 ha hr h3
  subst h1 h2 h3
  have hbu := hwf.burns
  rcases acts with _ | n
  all_goals
    simp only [mmD, parSl, idsM, List.map_cons, List.map_nil, List.cons_append, List.nil_append]
    repeat' (first
    | apply go_seq | apply go_block | apply go_region | apply go_skip | apply go_exit | apply go_label | apply go_ret
    | apply seqK_n | apply seqK_x | apply seqK_r | apply blockK_n | apply blockK_r | apply blockK_hit | apply blockK_miss rfl | apply loopK_x | apply loopK_r | apply regK_go | apply finK_n | apply finK_r
    | (refine vres_go ?_; push_cast) | apply ops_nil | refine ops_in (w_i64 _ (by omega) (by omega)) ?_ | refine ops_in (w_u8 _ (by omega) (by omega)) ?_ | refine ops_in (w_u32 _ (by omega) (by omega)) ?_ | refine ops_in (w_u64 _ (by omega) (by omega)) ?_
    | (refine ops_put rfl rfl ?_; intro K' hK'; push_cast; (repeat' refine And.intro ?_ ?_); all_goals (first | (apply hK'; clear hK' K') | (refine ⟨trivial, trivial, ?_⟩; apply hK'; clear hK' K') | (intro hb; (try push_cast at hb); all_goals (intros; apply hK'; clear hK' K')) | (clear hK' K'; first | omega | skip)))
    | (refine ops_no rfl rfl ?_; intro K' hK'; push_cast; (repeat' refine And.intro ?_ ?_); all_goals (first | (apply hK'; clear hK' K') | (refine ⟨trivial, trivial, ?_⟩; apply hK'; clear hK' K') | (intro hb; (try push_cast at hb); all_goals (intros; apply hK'; clear hK' K')) | (clear hK' K'; first | omega | skip)))
    | (refine go_cond (by push_cast; first | done | rfl) ?_ ?_ <;> intro hc <;> (try push_cast at hc))
    | (refine ops_gt rfl rfl rfl (by push_cast; first | done | rfl) ?_)
    | (refine ops_gb rfl rfl rfl (by push_cast; first | done | rfl) ?_ ?_; focus (intro hc; (try push_cast at hc); all_goals (intro K' hK'; push_cast; (repeat' refine And.intro ?_ ?_); all_goals (first | (apply hK'; clear hK' K') | (refine ⟨trivial, trivial, ?_⟩; apply hK'; clear hK' K') | (intro hb; (try push_cast at hb); all_goals (intros; apply hK'; clear hK' K')) | (clear hK' K'; first | omega | skip)))))
    | (intro hc; (try push_cast at hc)))
  · exact fin_disk0 (m := 9001) (wy := 9002) (V := V) (M := M) (way := (tks [] (dFuse (arrD D (keepAt keep)) (-1)).Queue)) (size := (dFuse (arrD D (keepAt keep)) (-1)).Base.length) (dead := false) (rest := []) ⟨⟨hwf.many, hwf.sec, hwf.qs, hwf.qn, by simp [dPower]⟩, rfl, rfl, by simp [dPower], hr, rfl⟩ (by push_cast) (by push_cast) (by push_cast) (by simp [tvL, TV.ids, SV.ids, LV.ids, idsV])
  · simp [dFuse, arrD] at ha
theorem Flush_con : Con1 Cx.P 28 DiskO .unit (fun _ _ => True) (fun D _ => [.int .i64 (dFlush D).2]) (fun D _ => (dFlush D).1) := ⟨isfn28, fun D _ _ => Flush_fn D⟩
theorem Power_con : Con1 Cx.P 32 DiskO (.pair (.slice (.int .i64)) .unit) (fun _ _ => True) (fun _ _ => []) (fun D x => dPower D x.1) := ⟨isfn32, fun D x _ => Power_fn D x.1⟩
theorem Queue_con : Con1 Cx.P 33 DiskO .unit (fun _ _ => True) (fun D _ => [.dat (.slice (.int .i64)) (D.Queue.map (·.To))]) (fun D _ => D) := ⟨isfn33, fun D _ _ => Queue_fn D⟩
end Go.Proofs.Ytnmjcdlgfimnaaa
