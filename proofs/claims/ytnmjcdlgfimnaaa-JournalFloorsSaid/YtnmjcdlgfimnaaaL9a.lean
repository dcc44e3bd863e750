/- Chapter 9's statements: it is alive. -/
import Derived.Test.YtnmjcdlgfimnaaaS9i
import Derived.Test.YtnmjcdlgfimnaaaS9j
import Derived.Test.YtnmjcdlgfimnaaaS9m
namespace Go.Proofs.Ytnmjcdlgfimnaaa
set_option linter.unusedSimpArgs false
set_option linter.unusedVariables false
set_option maxRecDepth 20000
attribute [local irreducible] vcOps vcCode vcA vcSch Wc
set_option maxHeartbeats 8000000
theorem z54_lit : ([0, 0, 0, 0, 0, 0, 0, 0, 0, 0, 0, 0, 0, 0, 0, 0, 0, 0, 0, 0, 0, 0, 0, 0, 0, 0, 0, 0, 0, 0, 0, 0, 0, 0, 0, 0, 0, 0, 0, 0, 0, 0, 0, 0, 0, 0, 0, 0, 0, 0, 0, 0, 0, 0] : List Int) = z54 := rfl
theorem span54 : spanN 54 = 2 := by decide
theorem blank4_len : (dBlank 4).Base.length = 4 := by decide
theorem blank4_q : (dBlank 4).Queue.length = 0 := rfl
attribute [local push_cast] z54_lit span54 alive_put alive_read z54_len blank4_len blank4_q
theorem stAlive_fn : Pure Cx.P 39 [] [.bool true] := by
  refine Pure.go2 (E := Cx.env) (fn := Try.f39) (res := [_]) Try.func39 isfn39 rfl rfl rfl (by kernel_rfl) rfl ?_
  push_cast
  try intro hf
  repeat' (first
    | (intro (K' : KT) hK'; push_cast; (repeat' refine And.intro ?_ ?_); all_goals (first | (apply hK'; clear hK' K') | (refine ⟨trivial, trivial, ?_⟩; apply hK'; clear hK' K') | (intro hb; (try push_cast at hb); all_goals (intros; apply hK'; clear hK' K')) | ((first | refine call_new Blank_con 9100 ?_ | refine call_F span_con (fun _ => rfl) ?_ | refine call_1 Write_con (fun _ _ => rfl) ?_ | refine call_1 Read_con (fun _ _ => rfl) ?_); push_cast; (repeat' refine And.intro ?_ ?_); all_goals (first | (apply hK'; clear hK' K') | (intros; apply hK'; clear hK' K') | (clear hK' K'; first | omega | skip))) | (clear hK' K'; first | omega | skip)))
    | apply go_seq | apply go_region | apply go_skip | apply go_exit | apply go_ret
    | apply seqK_n | apply seqK_x | apply seqK_r | apply regK_go | apply finK_n | apply finK_r
    | (refine vres_go ?_; push_cast) | apply ops_nil | refine ops_in (w_i64 _ (by omega) (by omega)) ?_ | refine ops_in (w_u8 _ (by omega) (by omega)) ?_ | refine ops_in (w_u32 _ (by omega) (by omega)) ?_ | refine ops_in (w_u64 _ (by omega) (by omega)) ?_
    | refine ops_put rfl rfl ?_ | refine ops_no rfl rfl ?_
    | (refine go_cond (by push_cast; first | done | rfl) ?_ ?_ <;> intro hc <;> (try push_cast at hc))
    | refine ops_gt rfl rfl rfl (by push_cast; first | done | rfl) ?_
    | refine ops_gb rfl rfl rfl (by push_cast; first | done | rfl) ?_ ?_
    | (intro (hc : (_ : Prop)); (try push_cast at hc)) | intro (hc : R08Item) | intro (hc : Int) | intro (hc : Nat))
theorem stAlive_con : Con Cx.P 39 (.unit) (fun x => True) (fun x => [.bool true]) := ⟨isfn39, fun x h => stAlive_fn ⟩
end Go.Proofs.Ytnmjcdlgfimnaaa
