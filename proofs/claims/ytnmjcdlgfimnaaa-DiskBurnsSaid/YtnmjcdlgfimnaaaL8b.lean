/- Chapter 8's statements: a fuse lasts just so many acts. -/
import Derived.Test.YtnmjcdlgfimnaaaL8a
namespace Go.Proofs.Ytnmjcdlgfimnaaa
set_option linter.unusedSimpArgs false
set_option linter.unusedVariables false
set_option maxRecDepth 20000
attribute [local irreducible] vcOps vcCode vcA vcSch Wc
set_option maxHeartbeats 8000000
structure BI (D : R08Disk) (k : Nat) : Prop where
  base : D.Base.length = 2
  q : D.Queue.length ≤ k
  b0 : 0 ≤ D.Burns
  dd : D.Dead = true → D.Burns = 0
theorem bi_spend {D : R08Disk} {k : Nat} (h : BI D k) : BI (dSpend D).1 k ∧ (dSpend D).1.Burns = max 0 (D.Burns - 1) ∧ ((dSpend D).2 = false ↔ D.Burns = 0) ∧ ((dSpend D).1.Dead = true → D.Burns = 0) := by
  obtain ⟨h1, h2, h3, h4⟩ := h
  refine ⟨⟨by rw [dSpend_base]; exact h1, by rw [dSpend_queue]; exact h2, ?_, ?_⟩, ?_, ?_, ?_⟩ <;> unfold dSpend <;> grind
theorem bi_flush {D : R08Disk} {k : Nat} (h : BI D k) : BI (dFlush D).1 (k + 1) ∧ (dFlush D).1.Burns = max 0 (D.Burns - 1) ∧ ((dFlush D).2 = 82 ↔ D.Burns = 0) ∧ ((dFlush D).1.Dead = true → D.Burns = 0) := by
  obtain ⟨⟨h1, h2, h3, h4⟩, h5, h6, h7⟩ := bi_spend h
  unfold dFlush
  cases hs : (dSpend D).2
  · simp only [Bool.false_eq_true, if_false]
    exact ⟨⟨h1, by omega, h3, h4⟩, h5, by simp [h6.1 hs], h7⟩
  · simp only [if_true]
    refine ⟨⟨?_, by simp, h3, h4⟩, h5, ?_, h7⟩
    · simp only [landAll_len]; exact h.base
    · rw [hs] at h6
      simp only [Bool.true_eq_false, false_iff] at h6
      omega
theorem bi_put {D : R08Disk} {k : Nat} (h : BI D k) (x : List Int) : BI (dPut D 1 x).1 (k + 1) ∧ (dPut D 1 x).1.Burns = max 0 (D.Burns - 1) ∧ ((dPut D 1 x).2 = 82 ↔ D.Burns = 0) ∧ ((dPut D 1 x).1.Dead = true → D.Burns = 0) := by
  obtain ⟨⟨h1, h2, h3, h4⟩, h5, h6, h7⟩ := bi_spend h
  have ht : dThere D 1 = true := by simp [dThere, h.base]
  unfold dPut
  rw [if_pos ht]
  cases hs : (dSpend D).2
  · simp only [Bool.false_eq_true, if_false]
    exact ⟨⟨h1, by omega, h3, h4⟩, h5, by simp [h6.1 hs], h7⟩
  · simp only [if_true]
    refine ⟨⟨h1, by simp; omega, h3, h4⟩, h5, ?_, h7⟩
    rw [hs] at h6
    simp only [Bool.true_eq_false, false_iff] at h6
    omega
theorem bi_not {D : R08Disk} {k : Nat} (h : BI D k) (n : Int) (hn : 2 ≤ n) (x : List Int) : dPut D n x = (D, 81) := by
  have ht : dThere D n = false := by
    unfold dThere
    rw [h.base]
    simp only [Bool.and_eq_false_iff, decide_eq_false_iff_not]
    omega
  simp [dPut, ht]
theorem bi_blank (n : Int) (h : 0 ≤ n) : BI (dFuse (dBlank 2) n) 0 := by
  refine ⟨by simp only [dFuse, dBlank, List.length_replicate]; omega, by simp [dFuse, dBlank], by simp only [dFuse]; omega, by simp [dFuse, dBlank]⟩
theorem fl_gone (D : R08Disk) : (dFlush (dFuse D (-1))).2 = if D.Dead = true then 82 else 0 := by
  unfold dFlush dSpend dFuse
  cases h : D.Dead <;> simp
theorem fl_back (D : R08Disk) (keep : List Int) : (dFlush (dPower D keep)).2 = 0 := by
  simp [dFlush, dSpend, dPower]
theorem burns_fn (acts : Int) (deeds : List Int) : Pure Cx.P 4 [.int .i64 acts, .dat (.slice (.int .i64)) deeds] [.bool true] := by
  refine Pure.go2 (E := Cx.env) (fn := Try.f4) (res := [_]) Try.func4 isfn4 rfl rfl rfl (by kernel_rfl) rfl ?_
  push_cast
  try intro hf
  repeat' (first
    | apply go_seq | apply go_block | apply go_region | apply go_skip | apply go_exit | apply go_label | apply go_ret
    | apply seqK_n | apply seqK_x | apply seqK_r | apply blockK_n | apply blockK_r | apply blockK_hit | apply blockK_miss rfl | apply loopK_x | apply loopK_r | apply regK_go | apply finK_n | apply finK_r
    | (refine vres_go ?_; push_cast) | apply ops_nil | refine ops_in (w_i64 _ (by omega) (by omega)) ?_ | refine ops_in (w_u8 _ (by omega) (by omega)) ?_ | refine ops_in (w_u32 _ (by omega) (by omega)) ?_ | refine ops_in (w_u64 _ (by omega) (by omega)) ?_
    | (refine ops_put rfl rfl ?_; intro K' hK'; push_cast; (repeat' refine And.intro ?_ ?_); all_goals (first | (apply hK'; clear hK' K') | (refine ⟨trivial, trivial, ?_⟩; apply hK'; clear hK' K') | (intro hb; (try push_cast at hb); all_goals (intros; apply hK'; clear hK' K')) | ((first | refine call_F alive_con (fun _ => rfl) ?_ | refine call_F painted_con (fun _ => rfl) ?_ | refine call_new Blank_con 9100 ?_ | refine call_1 Put_con (fun _ _ => rfl) ?_ | refine call_1 Power_con (fun _ _ => rfl) ?_ | refine call_1 Get_con (fun _ _ => rfl) ?_ | refine call_1 Fuse_con (fun _ _ => rfl) ?_ | refine call_1 Flush_con (fun _ _ => rfl) ?_ | refine call_1 Dead_con (fun _ _ => rfl) ?_); push_cast; (repeat' refine And.intro ?_ ?_); all_goals (first | (apply hK'; clear hK' K') | (intros; apply hK'; clear hK' K') | (clear hK' K'; first | omega | skip))) | (clear hK' K'; first | omega | skip)))
    | (refine ops_no rfl rfl ?_; intro K' hK'; push_cast; (repeat' refine And.intro ?_ ?_); all_goals (first | (apply hK'; clear hK' K') | (refine ⟨trivial, trivial, ?_⟩; apply hK'; clear hK' K') | (intro hb; (try push_cast at hb); all_goals (intros; apply hK'; clear hK' K')) | ((first | refine call_F alive_con (fun _ => rfl) ?_ | refine call_F painted_con (fun _ => rfl) ?_ | refine call_new Blank_con 9100 ?_ | refine call_1 Put_con (fun _ _ => rfl) ?_ | refine call_1 Power_con (fun _ _ => rfl) ?_ | refine call_1 Get_con (fun _ _ => rfl) ?_ | refine call_1 Fuse_con (fun _ _ => rfl) ?_ | refine call_1 Flush_con (fun _ _ => rfl) ?_ | refine call_1 Dead_con (fun _ _ => rfl) ?_); push_cast; (repeat' refine And.intro ?_ ?_); all_goals (first | (apply hK'; clear hK' K') | (intros; apply hK'; clear hK' K') | (clear hK' K'; first | omega | skip))) | (clear hK' K'; first | omega | skip)))
    | (refine go_cond (by push_cast; first | done | rfl) ?_ ?_ <;> intro hc <;> (try push_cast at hc))
    | (refine ops_gt rfl rfl rfl (by push_cast; first | done | rfl) ?_)
    | (refine ops_gb rfl rfl rfl (by push_cast; first | done | rfl) ?_ ?_; focus (intro hc; (try push_cast at hc); all_goals (intro K' hK'; push_cast; (repeat' refine And.intro ?_ ?_); all_goals (first | (apply hK'; clear hK' K') | (refine ⟨trivial, trivial, ?_⟩; apply hK'; clear hK' K') | (intro hb; (try push_cast at hb); all_goals (intros; apply hK'; clear hK' K')) | ((first | refine call_F alive_con (fun _ => rfl) ?_ | refine call_F painted_con (fun _ => rfl) ?_ | refine call_new Blank_con 9100 ?_ | refine call_1 Put_con (fun _ _ => rfl) ?_ | refine call_1 Power_con (fun _ _ => rfl) ?_ | refine call_1 Get_con (fun _ _ => rfl) ?_ | refine call_1 Fuse_con (fun _ _ => rfl) ?_ | refine call_1 Flush_con (fun _ _ => rfl) ?_ | refine call_1 Dead_con (fun _ _ => rfl) ?_); push_cast; (repeat' refine And.intro ?_ ?_); all_goals (first | (apply hK'; clear hK' K') | (intros; apply hK'; clear hK' K') | (clear hK' K'; first | omega | skip))) | (clear hK' K'; first | omega | skip)))))
    | (intro hc; (try push_cast at hc)))
  refine go_loop2 [4, 6, 8, 9, 10, 28, 29, 30, 31, 32, 33, 34, 35, 36, 37, 38, 39, 40, 41, 42, 43, 44, 45, 46, 47, 48, 49, 50, 51, 52, 53, 54, 55, 56, 57, 58, 59, 60, 61, 62, 63, 64, 65, 66, 67, 68, 69] [35, 36, 37, 42, 46, 47, 59, 68, 9100] (fun (p : R08Disk × Nat) => p.2 ≤ deeds.length ∧ BI p.1 p.2) (fun (p : R08Disk × Nat) => [(28, .one (.l (.int .i64 p.2))), (6, .one (.l (.int .i64 p.1.Burns)))]) (fun (p : R08Disk × Nat) => [(9100, .obj DiskO p.1)]) (fun (p : R08Disk × Nat) => deeds.length - p.2) (dFuse (dBlank 2) acts, 0) ?_ (by push_cast; first | done | rfl) (by push_cast; first | done | rfl) ?_ ?_
  · exact ⟨Nat.zero_le _, bi_blank acts (by omega)⟩
  · have e : (dFuse (dBlank 2) acts).Burns = acts := by simp only [dFuse]; omega
    rw [e]
    push_cast
  · rintro ⟨D, k⟩ ⟨hk, hb⟩
    simp only at hk hb
    push_cast
    intro hg
    have f1 := bi_flush hb
    have f2 := bi_put hb (paintL 5)
    have q1 := f1.1.q
    have q2 := f2.1.q
    have b1 := f1.2.1
    have b2 := f2.2.1
    have c1 := f1.2.2.1
    have c2 := f2.2.2.1
    have e1 := f1.2.2.2
    have e2 := f2.2.2.2
    have e3 := hb.dd
    have f3 := bi_not hb (max 2 (deeds.getD k 0)) (by omega) (paintL 5)
    have d0 := hb.b0
    have dq := hb.q
    repeat' (first
    | apply go_seq | apply go_block | apply go_region | apply go_skip | apply go_exit | apply go_label | apply go_ret
    | apply seqK_n | apply seqK_x | apply seqK_r | apply blockK_n | apply blockK_r | apply blockK_hit | apply blockK_miss rfl | apply loopK_x | apply loopK_r | apply regK_go | apply finK_n | apply finK_r
    | (refine vres_go ?_; push_cast) | apply ops_nil | refine ops_in (w_i64 _ (by omega) (by omega)) ?_ | refine ops_in (w_u8 _ (by omega) (by omega)) ?_ | refine ops_in (w_u32 _ (by omega) (by omega)) ?_ | refine ops_in (w_u64 _ (by omega) (by omega)) ?_
    | (refine ops_put rfl rfl ?_; intro K' hK'; push_cast; (repeat' refine And.intro ?_ ?_); all_goals (first | (apply hK'; clear hK' K') | (refine ⟨trivial, trivial, ?_⟩; apply hK'; clear hK' K') | (intro hb; (try push_cast at hb); all_goals (intros; apply hK'; clear hK' K')) | ((first | refine call_F alive_con (fun _ => rfl) ?_ | refine call_F painted_con (fun _ => rfl) ?_ | refine call_new Blank_con 9100 ?_ | refine call_1 Put_con (fun _ _ => rfl) ?_ | refine call_1 Power_con (fun _ _ => rfl) ?_ | refine call_1 Get_con (fun _ _ => rfl) ?_ | refine call_1 Fuse_con (fun _ _ => rfl) ?_ | refine call_1 Flush_con (fun _ _ => rfl) ?_ | refine call_1 Dead_con (fun _ _ => rfl) ?_); push_cast; (repeat' refine And.intro ?_ ?_); all_goals (first | (apply hK'; clear hK' K') | (intros; apply hK'; clear hK' K') | (clear hK' K'; first | omega | skip))) | (clear hK' K'; first | omega | skip)))
    | (refine ops_no rfl rfl ?_; intro K' hK'; push_cast; (repeat' refine And.intro ?_ ?_); all_goals (first | (apply hK'; clear hK' K') | (refine ⟨trivial, trivial, ?_⟩; apply hK'; clear hK' K') | (intro hb; (try push_cast at hb); all_goals (intros; apply hK'; clear hK' K')) | ((first | refine call_F alive_con (fun _ => rfl) ?_ | refine call_F painted_con (fun _ => rfl) ?_ | refine call_new Blank_con 9100 ?_ | refine call_1 Put_con (fun _ _ => rfl) ?_ | refine call_1 Power_con (fun _ _ => rfl) ?_ | refine call_1 Get_con (fun _ _ => rfl) ?_ | refine call_1 Fuse_con (fun _ _ => rfl) ?_ | refine call_1 Flush_con (fun _ _ => rfl) ?_ | refine call_1 Dead_con (fun _ _ => rfl) ?_); push_cast; (repeat' refine And.intro ?_ ?_); all_goals (first | (apply hK'; clear hK' K') | (intros; apply hK'; clear hK' K') | (clear hK' K'; first | omega | skip))) | (clear hK' K'; first | omega | skip)))
    | (refine go_cond (by push_cast; first | done | rfl) ?_ ?_ <;> intro hc <;> (try push_cast at hc))
    | (refine ops_gt rfl rfl rfl (by push_cast; first | done | rfl) ?_)
    | (refine ops_gb rfl rfl rfl (by push_cast; first | done | rfl) ?_ ?_; focus (intro hc; (try push_cast at hc); all_goals (intro K' hK'; push_cast; (repeat' refine And.intro ?_ ?_); all_goals (first | (apply hK'; clear hK' K') | (refine ⟨trivial, trivial, ?_⟩; apply hK'; clear hK' K') | (intro hb; (try push_cast at hb); all_goals (intros; apply hK'; clear hK' K')) | ((first | refine call_F alive_con (fun _ => rfl) ?_ | refine call_F painted_con (fun _ => rfl) ?_ | refine call_new Blank_con 9100 ?_ | refine call_1 Put_con (fun _ _ => rfl) ?_ | refine call_1 Power_con (fun _ _ => rfl) ?_ | refine call_1 Get_con (fun _ _ => rfl) ?_ | refine call_1 Fuse_con (fun _ _ => rfl) ?_ | refine call_1 Flush_con (fun _ _ => rfl) ?_ | refine call_1 Dead_con (fun _ _ => rfl) ?_); push_cast; (repeat' refine And.intro ?_ ?_); all_goals (first | (apply hK'; clear hK' K') | (intros; apply hK'; clear hK' K') | (clear hK' K'; first | omega | skip))) | (clear hK' K'; first | omega | skip)))))
    | (intro hc; (try push_cast at hc)))
    all_goals
      first
      | (exfalso; have g1 := fl_gone D; have g2 := fl_back (dFlush (dFuse D (-1))).1 []; have g3 : (dPower (dFlush (dFuse D (-1))).1 []).Dead = false := rfl; rw [f3] at *; clear f1 f2 hb hg hf; grind)
      | (exfalso; have g1 := fl_gone D; have g2 := fl_back (dFlush (dFuse D (-1))).1 []; have g3 : (dPower (dFlush (dFuse D (-1))).1 []).Dead = false := rfl; clear f1 f2 hb hg hf; grind)
      | exact fl_back _ _
      | (refine loopK_m ((dFlush D).1, k + 1) ⟨by push_cast; omega, f1.1⟩ (by push_cast; omega) ?_; focus (push_cast; rw [b1]; done))
      | (refine loopK_m ((dPut D 1 (paintL 5)).1, k + 1) ⟨by push_cast; omega, f2.1⟩ (by push_cast; omega) ?_; focus (push_cast; rw [b2]; done))
      | (rw [f3]; refine loopK_m (D, k + 1) ⟨by push_cast; omega, hb.base, by omega, hb.b0, hb.dd⟩ (by push_cast; omega) ?_; focus (push_cast; omega; done))
      | skip
    all_goals (rw [f3]; refine loopK_m (D, k + 1) ⟨by push_cast; omega, hb.base, by push_cast; omega, hb.b0, hb.dd⟩ (by push_cast; omega) ?_; push_cast; omega)
theorem burns_con : Con Cx.P 4 (.pair (.int .i64) (.pair (.slice (.int .i64)) (.unit))) (fun x => (fun (acts : Int) (deeds : List Int) => True) x.1 x.2.1) (fun x => (fun (acts : Int) (deeds : List Int) => [.bool true]) x.1 x.2.1) := ⟨isfn4, fun x h => burns_fn x.1 x.2.1⟩
end Go.Proofs.Ytnmjcdlgfimnaaa
