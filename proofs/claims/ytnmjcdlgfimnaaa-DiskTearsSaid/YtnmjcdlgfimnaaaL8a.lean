/- Chapter 8's statements: it is alive. -/
import Derived.Test.YtnmjcdlgfimnaaaDp
namespace Go.Proofs.Ytnmjcdlgfimnaaa
set_option linter.unusedSimpArgs false
set_option linter.unusedVariables false
set_option maxRecDepth 20000
attribute [local irreducible] vcOps vcCode vcA vcSch Wc
set_option maxHeartbeats 8000000
theorem alive_fn : Pure Cx.P 23 [] [.bool true] := by
  refine Pure.go2 (E := Cx.env) (fn := Try.f23) (res := [_]) Try.func23 isfn23 rfl rfl rfl (by kernel_rfl) rfl ?_
  push_cast
  try intro hf
  repeat' (first
    | apply go_seq | apply go_block | apply go_region | apply go_skip | apply go_exit | apply go_label | apply go_ret
    | apply seqK_n | apply seqK_x | apply seqK_r | apply blockK_n | apply blockK_r | apply blockK_hit | apply blockK_miss rfl | apply loopK_x | apply loopK_r | apply regK_go | apply finK_n | apply finK_r
    | (refine vres_go ?_; push_cast) | apply ops_nil | refine ops_in (w_i64 _ (by omega) (by omega)) ?_ | refine ops_in (w_u8 _ (by omega) (by omega)) ?_ | refine ops_in (w_u32 _ (by omega) (by omega)) ?_ | refine ops_in (w_u64 _ (by omega) (by omega)) ?_
    | (refine ops_put rfl rfl ?_; intro K' hK'; push_cast; (repeat' refine And.intro ?_ ?_); all_goals (first | (apply hK'; clear hK' K') | (refine ⟨trivial, trivial, ?_⟩; apply hK'; clear hK' K') | (intro hb; (try push_cast at hb); all_goals (intros; apply hK'; clear hK' K')) | ((first | refine call_F painted_con (fun _ => rfl) ?_ | refine call_new Blank_con 9100 ?_ | refine call_1 Put_con (fun _ _ => rfl) ?_ | refine call_1 Power_con (fun _ _ => rfl) ?_ | refine call_1 Get_con (fun _ _ => rfl) ?_); push_cast; (repeat' refine And.intro ?_ ?_); all_goals (first | (apply hK'; clear hK' K') | (intros; apply hK'; clear hK' K') | (clear hK' K'; first | omega | skip))) | (clear hK' K'; first | omega | skip)))
    | (refine ops_no rfl rfl ?_; intro K' hK'; push_cast; (repeat' refine And.intro ?_ ?_); all_goals (first | (apply hK'; clear hK' K') | (refine ⟨trivial, trivial, ?_⟩; apply hK'; clear hK' K') | (intro hb; (try push_cast at hb); all_goals (intros; apply hK'; clear hK' K')) | ((first | refine call_F painted_con (fun _ => rfl) ?_ | refine call_new Blank_con 9100 ?_ | refine call_1 Put_con (fun _ _ => rfl) ?_ | refine call_1 Power_con (fun _ _ => rfl) ?_ | refine call_1 Get_con (fun _ _ => rfl) ?_); push_cast; (repeat' refine And.intro ?_ ?_); all_goals (first | (apply hK'; clear hK' K') | (intros; apply hK'; clear hK' K') | (clear hK' K'; first | omega | skip))) | (clear hK' K'; first | omega | skip)))
    | (refine go_cond (by push_cast; first | done | rfl) ?_ ?_ <;> intro hc <;> (try push_cast at hc))
    | (refine ops_gt rfl rfl rfl (by push_cast; first | done | rfl) ?_)
    | (refine ops_gb rfl rfl rfl (by push_cast; first | done | rfl) ?_ ?_; focus (intro hc; (try push_cast at hc); all_goals (intro K' hK'; push_cast; (repeat' refine And.intro ?_ ?_); all_goals (first | (apply hK'; clear hK' K') | (refine ⟨trivial, trivial, ?_⟩; apply hK'; clear hK' K') | (intro hb; (try push_cast at hb); all_goals (intros; apply hK'; clear hK' K')) | ((first | refine call_F painted_con (fun _ => rfl) ?_ | refine call_new Blank_con 9100 ?_ | refine call_1 Put_con (fun _ _ => rfl) ?_ | refine call_1 Power_con (fun _ _ => rfl) ?_ | refine call_1 Get_con (fun _ _ => rfl) ?_); push_cast; (repeat' refine And.intro ?_ ?_); all_goals (first | (apply hK'; clear hK' K') | (intros; apply hK'; clear hK' K') | (clear hK' K'; first | omega | skip))) | (clear hK' K'; first | omega | skip)))))
    | (intro hc; (try push_cast at hc)))
  · simp [dBlank]
  · have h : (!decide ((dPut (dBlank 2) 1 (paintL 9)).2 = 0)) = false := by kernel_rfl
    simp [h] at hc
  · kernel_rfl
  · have h : (dGet (dPower (dPut (dBlank 2) 1 (paintL 9)).1 [3]) 1).2 = 0 := by kernel_rfl
    contradiction
theorem alive_con : Con Cx.P 23 (.unit) (fun x => True) (fun x => [.bool true]) := ⟨isfn23, fun x h => alive_fn ⟩
end Go.Proofs.Ytnmjcdlgfimnaaa
