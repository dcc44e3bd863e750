/- Chapter 10's statements: what was appended is there. -/
import Derived.Test.YtnmjcdlgfimnaaaL10a
import Derived.Test.YtnmjcdlgfimnaaaC10j
namespace Go.Proofs.Ytnmjcdlgfimnaaa
def bigA10 (a : L09Act) : Bool := decide (5000 < (a.Bytes.length : Int)) || decide (400 < (a.Keep.length : Int))
def greatB10 (l : List L09Act) : Bool := decide (40 < (l.length : Int)) || l.any bigA10
theorem great10_len {l : List L09Act} (h : greatB10 l = false) : l.length ≤ 40 := by
  simp only [greatB10, Bool.or_eq_false_iff, decide_eq_false_iff_not] at h
  omega
theorem any_take10 {l : List L09Act} {i : Nat} (h : (l.take i).any bigA10 = false) (hi : i < l.length) (hb : bigA10 (l.getD i ⟨0, 0, 0, [], []⟩) = false) : (l.take (i + 1)).any bigA10 = false := by
  rw [take_succ_getD l i ⟨0, 0, 0, [], []⟩ hi, List.any_append, h]
  simpa using hb
theorem great10_hit {l : List L09Act} {i : Nat} (hi : i < l.length) (hb : bigA10 (l.getD i ⟨0, 0, 0, [], []⟩) = true) : greatB10 l = true := by
  simp only [greatB10, Bool.or_eq_true]
  exact .inr (List.any_eq_true.2 ⟨_, getD_mem l i _ hi, hb⟩)
section
set_option linter.unusedSimpArgs false
set_option linter.unusedVariables false
set_option maxRecDepth 20000
attribute [local irreducible] vcOps vcCode vcA vcSch Wc
set_option maxHeartbeats 8000000
theorem great10_fn (acts : List L09Act) : Pure Cx.P 61 [.dat (.slice rL09Act) acts] [.bool (greatB10 acts)] := by
  refine Pure.go2 (E := Cx.env) (fn := Try.f61) (res := [_]) Try.func61 isfn61 rfl rfl rfl (by kernel_rfl) rfl ?_
  push_cast
  try intro hf
  repeat' (first
    | apply go_seq | apply go_block | apply go_region | apply go_skip | apply go_exit | apply go_label | apply go_ret | apply go_goto
    | apply seqK_n | apply seqK_x | apply seqK_r | apply seqK_j | apply blockK_j | apply loopK_j | apply jumpK_n | apply jumpK_x | apply jumpK_r | apply passK_n | apply passK_x | apply passK_r | apply straightK_n | apply straightK_x | apply straightK_r | apply blockK_n | apply blockK_r | apply blockK_hit | apply blockK_miss rfl | apply loopK_x | apply loopK_r | apply regK_go | apply finK_n | apply finK_r
    | (refine vres_go ?_; push_cast) | apply ops_nil | refine ops_in (w_i64 _ (by omega) (by omega)) ?_ | refine ops_in (w_u8 _ (by omega) (by omega)) ?_ | refine ops_in (w_u32 _ (by omega) (by omega)) ?_ | refine ops_in (w_u64 _ (by omega) (by omega)) ?_
    | (refine ops_put rfl rfl ?_; intro K' hK'; push_cast; (repeat' refine And.intro ?_ ?_); all_goals (first | (apply hK'; clear hK' K') | (refine ⟨trivial, trivial, ?_⟩; apply hK'; clear hK' K') | (intro hb; (try push_cast at hb); all_goals (intros; apply hK'; clear hK' K')) | (clear hK' K'; first | omega | skip)))
    | (refine ops_no rfl rfl ?_; intro K' hK'; push_cast; (repeat' refine And.intro ?_ ?_); all_goals (first | (apply hK'; clear hK' K') | (refine ⟨trivial, trivial, ?_⟩; apply hK'; clear hK' K') | (intro hb; (try push_cast at hb); all_goals (intros; apply hK'; clear hK' K')) | (clear hK' K'; first | omega | skip)))
    | (refine go_cond (by push_cast; first | done | rfl) ?_ ?_ <;> intro hc <;> (try push_cast at hc))
    | (refine ops_gt rfl rfl rfl (by push_cast; first | done | rfl) ?_)
    | (refine ops_gb rfl rfl rfl (by push_cast; first | done | rfl) ?_ ?_; focus (intro hc; (try push_cast at hc); all_goals (intro K' hK'; push_cast; (repeat' refine And.intro ?_ ?_); all_goals (first | (apply hK'; clear hK' K') | (refine ⟨trivial, trivial, ?_⟩; apply hK'; clear hK' K') | (intro hb; (try push_cast at hb); all_goals (intros; apply hK'; clear hK' K')) | (clear hK' K'; first | omega | skip)))))
    | (intro hc; (try push_cast at hc)))
  · simp [greatB10, ‹(40 : Int) < acts.length›]
  · refine go_loop2 [2, 4, 10, 11, 12, 13, 14, 15, 16, 17, 18, 19, 20, 21, 22, 23, 24] [4, 16, 21] (fun (i : Nat) => i ≤ acts.length ∧ (acts.take i).any bigA10 = false) (fun (i : Nat) => [(10, .one (.l (.int .i64 i)))]) (fun (i : Nat) => []) (fun (i : Nat) => acts.length - i) 0 ?_ (by push_cast; first | done | rfl) (by push_cast; first | done | rfl) ?_ ?_
    · exact ⟨Nat.zero_le _, by simp⟩
    · push_cast
    · rintro i ⟨hi, hall⟩
      push_cast
      intro hg
      repeat' (first
    | apply go_seq | apply go_block | apply go_region | apply go_skip | apply go_exit | apply go_label | apply go_ret | apply go_goto
    | apply seqK_n | apply seqK_x | apply seqK_r | apply seqK_j | apply blockK_j | apply loopK_j | apply jumpK_n | apply jumpK_x | apply jumpK_r | apply passK_n | apply passK_x | apply passK_r | apply straightK_n | apply straightK_x | apply straightK_r | apply blockK_n | apply blockK_r | apply blockK_hit | apply blockK_miss rfl | apply loopK_x | apply loopK_r | apply regK_go | apply finK_n | apply finK_r
    | (refine vres_go ?_; push_cast) | apply ops_nil | refine ops_in (w_i64 _ (by omega) (by omega)) ?_ | refine ops_in (w_u8 _ (by omega) (by omega)) ?_ | refine ops_in (w_u32 _ (by omega) (by omega)) ?_ | refine ops_in (w_u64 _ (by omega) (by omega)) ?_
    | (refine ops_put rfl rfl ?_; intro K' hK'; push_cast; (repeat' refine And.intro ?_ ?_); all_goals (first | (apply hK'; clear hK' K') | (refine ⟨trivial, trivial, ?_⟩; apply hK'; clear hK' K') | (intro hb; (try push_cast at hb); all_goals (intros; apply hK'; clear hK' K')) | (clear hK' K'; first | omega | skip)))
    | (refine ops_no rfl rfl ?_; intro K' hK'; push_cast; (repeat' refine And.intro ?_ ?_); all_goals (first | (apply hK'; clear hK' K') | (refine ⟨trivial, trivial, ?_⟩; apply hK'; clear hK' K') | (intro hb; (try push_cast at hb); all_goals (intros; apply hK'; clear hK' K')) | (clear hK' K'; first | omega | skip)))
    | (refine go_cond (by push_cast; first | done | rfl) ?_ ?_ <;> intro hc <;> (try push_cast at hc))
    | (refine ops_gt rfl rfl rfl (by push_cast; first | done | rfl) ?_)
    | (refine ops_gb rfl rfl rfl (by push_cast; first | done | rfl) ?_ ?_; focus (intro hc; (try push_cast at hc); all_goals (intro K' hK'; push_cast; (repeat' refine And.intro ?_ ?_); all_goals (first | (apply hK'; clear hK' K') | (refine ⟨trivial, trivial, ?_⟩; apply hK'; clear hK' K') | (intro hb; (try push_cast at hb); all_goals (intros; apply hK'; clear hK' K')) | (clear hK' K'; first | omega | skip)))))
    | (intro hc; (try push_cast at hc)))
      · rw [great10_hit (i := i) (by omega) (by simp [bigA10, -List.getD_eq_getElem?_getD, hc])]
      · refine loopK_m (i + 1) ⟨by omega, any_take10 hall (by omega) (by
          simp only [bigA10, Bool.or_eq_false_iff, decide_eq_false_iff_not]
          exact ⟨‹_›, ‹_›⟩)⟩ (by omega) ?_
        push_cast
      · rw [great10_hit (i := i) (by omega) (by
          simp only [bigA10, Bool.or_eq_true, decide_eq_true_eq]
          exact .inl ‹_›)]
      · have e : acts.take i = acts := List.take_of_length_le (by omega)
        rw [e] at hall
        simp only [greatB10, hall, Bool.or_false]
        simp [‹¬ (40 : Int) < acts.length›]
theorem great10_con : Con Cx.P 61 (.pair (.slice rL09Act) (.unit)) (fun x => (fun (acts : List L09Act) => True) x.1) (fun x => (fun (acts : List L09Act) => [.bool (greatB10 acts)]) x.1) := ⟨isfn61, fun x h => great10_fn x.1⟩
end
end Go.Proofs.Ytnmjcdlgfimnaaa
