/- The document's disk: contracts. -/
import Derived.Test.YtnmjcdlgfimnaaaMd
namespace Go.Proofs.Ytnmjcdlgfimnaaa
set_option linter.unusedSimpArgs false
set_option linter.unusedVariables false
set_option maxRecDepth 20000
attribute [local irreducible] vcOps vcCode vcA vcSch Wc
set_option maxHeartbeats 8000000
theorem r08spend_fn (d : R08Disk) : Pure Cx.P 89 [.dat rR08Disk d] [.dat rR08Disk (dSpend d).1, .bool (dSpend d).2] := by
  refine Pure.go2 (E := Cx.env) (fn := Try.f89) (res := [_, _]) Try.func89 isfn89 rfl rfl rfl (by kernel_rfl) rfl ?_
  push_cast
  try intro hf
  repeat' (first
    | apply go_seq | apply go_block | apply go_region | apply go_skip | apply go_exit | apply go_label | apply go_ret
    | apply seqK_n | apply seqK_x | apply seqK_r | apply blockK_n | apply blockK_r | apply blockK_hit | apply blockK_miss rfl | apply loopK_x | apply loopK_r | apply regK_go | apply finK_n | apply finK_r
    | (refine vres_go ?_; push_cast) | apply ops_nil | refine ops_in (w_i64 _ (by omega) (by omega)) ?_ | refine ops_in (w_u8 _ (by omega) (by omega)) ?_ | refine ops_in (w_u32 _ (by omega) (by omega)) ?_ | refine ops_in (w_u64 _ (by omega) (by omega)) ?_
    | (refine ops_put rfl rfl ?_; intro K' hK'; push_cast; (repeat' refine And.intro ?_ ?_); all_goals (first | (apply hK'; clear hK' K') | (refine ⟨trivial, trivial, ?_⟩; apply hK'; clear hK' K') | (intro hb; (try push_cast at hb); all_goals (intros; apply hK'; clear hK' K')) | (clear hK' K'; first | omega | skip)))
    | (refine ops_no rfl rfl ?_; intro K' hK'; push_cast; (repeat' refine And.intro ?_ ?_); all_goals (first | (apply hK'; clear hK' K') | (refine ⟨trivial, trivial, ?_⟩; apply hK'; clear hK' K') | (intro hb; (try push_cast at hb); all_goals (intros; apply hK'; clear hK' K')) | (clear hK' K'; first | omega | skip)))
    | (refine go_cond (by push_cast; first | done | rfl) ?_ ?_ <;> intro hc <;> (try push_cast at hc))
    | (refine ops_gt rfl rfl rfl (by push_cast; first | done | rfl) ?_)
    | (refine ops_gb rfl rfl rfl (by push_cast; first | done | rfl) ?_ ?_; focus (intro hc; (try push_cast at hc); all_goals (intro K' hK'; push_cast; (repeat' refine And.intro ?_ ?_); all_goals (first | (apply hK'; clear hK' K') | (refine ⟨trivial, trivial, ?_⟩; apply hK'; clear hK' K') | (intro hb; (try push_cast at hb); all_goals (intros; apply hK'; clear hK' K')) | (clear hK' K'; first | omega | skip)))))
    | (intro hc; (try push_cast at hc)))
  all_goals grind [dSpend]
theorem r08spend_con : Con Cx.P 89 (.pair rR08Disk (.unit)) (fun x => (fun (d : R08Disk) => True) x.1) (fun x => (fun (d : R08Disk) => [.dat rR08Disk (dSpend d).1, .bool (dSpend d).2]) x.1) := ⟨isfn89, fun x h => r08spend_fn x.1⟩
theorem r08Fuse_fn (d : R08Disk) (k : Int) : Pure Cx.P 44 [.dat rR08Disk d, .int .i64 k] [.dat rR08Disk (dFuse d k)] := by
  refine Pure.go2 (E := Cx.env) (fn := Try.f44) (res := [_]) Try.func44 isfn44 rfl rfl rfl (by kernel_rfl) rfl ?_
  push_cast
  try intro hf
  repeat' (first
    | apply go_seq | apply go_block | apply go_region | apply go_skip | apply go_exit | apply go_label | apply go_ret
    | apply seqK_n | apply seqK_x | apply seqK_r | apply blockK_n | apply blockK_r | apply blockK_hit | apply blockK_miss rfl | apply loopK_x | apply loopK_r | apply regK_go | apply finK_n | apply finK_r
    | (refine vres_go ?_; push_cast) | apply ops_nil | refine ops_in (w_i64 _ (by omega) (by omega)) ?_ | refine ops_in (w_u8 _ (by omega) (by omega)) ?_ | refine ops_in (w_u32 _ (by omega) (by omega)) ?_ | refine ops_in (w_u64 _ (by omega) (by omega)) ?_
    | (refine ops_put rfl rfl ?_; intro K' hK'; push_cast; (repeat' refine And.intro ?_ ?_); all_goals (first | (apply hK'; clear hK' K') | (refine ⟨trivial, trivial, ?_⟩; apply hK'; clear hK' K') | (intro hb; (try push_cast at hb); all_goals (intros; apply hK'; clear hK' K')) | (clear hK' K'; first | omega | skip)))
    | (refine ops_no rfl rfl ?_; intro K' hK'; push_cast; (repeat' refine And.intro ?_ ?_); all_goals (first | (apply hK'; clear hK' K') | (refine ⟨trivial, trivial, ?_⟩; apply hK'; clear hK' K') | (intro hb; (try push_cast at hb); all_goals (intros; apply hK'; clear hK' K')) | (clear hK' K'; first | omega | skip)))
    | (refine go_cond (by push_cast; first | done | rfl) ?_ ?_ <;> intro hc <;> (try push_cast at hc))
    | (refine ops_gt rfl rfl rfl (by push_cast; first | done | rfl) ?_)
    | (refine ops_gb rfl rfl rfl (by push_cast; first | done | rfl) ?_ ?_; focus (intro hc; (try push_cast at hc); all_goals (intro K' hK'; push_cast; (repeat' refine And.intro ?_ ?_); all_goals (first | (apply hK'; clear hK' K') | (refine ⟨trivial, trivial, ?_⟩; apply hK'; clear hK' K') | (intro hb; (try push_cast at hb); all_goals (intros; apply hK'; clear hK' K')) | (clear hK' K'; first | omega | skip)))))
    | (intro hc; (try push_cast at hc)))
  all_goals rfl
theorem r08Fuse_con : Con Cx.P 44 (.pair rR08Disk (.pair (.int .i64) (.unit))) (fun x => (fun (d : R08Disk) (k : Int) => True) x.1 x.2.1) (fun x => (fun (d : R08Disk) (k : Int) => [.dat rR08Disk (dFuse d k)]) x.1 x.2.1) := ⟨isfn44, fun x h => r08Fuse_fn x.1 x.2.1⟩
theorem r08Blank_fn (n : Int) : Pure Cx.P 34 [.int .i64 n] [.dat rR08Disk (dBlank n)] := by
  refine Pure.go2 (E := Cx.env) (fn := Try.f34) (res := [_]) Try.func34 isfn34 rfl rfl rfl (by kernel_rfl) rfl ?_
  push_cast
  try intro hf
  repeat' (first
    | apply go_seq | apply go_block | apply go_region | apply go_skip | apply go_exit | apply go_label | apply go_ret
    | apply seqK_n | apply seqK_x | apply seqK_r | apply blockK_n | apply blockK_r | apply blockK_hit | apply blockK_miss rfl | apply loopK_x | apply loopK_r | apply regK_go | apply finK_n | apply finK_r
    | (refine vres_go ?_; push_cast) | apply ops_nil | refine ops_in (w_i64 _ (by omega) (by omega)) ?_ | refine ops_in (w_u8 _ (by omega) (by omega)) ?_ | refine ops_in (w_u32 _ (by omega) (by omega)) ?_ | refine ops_in (w_u64 _ (by omega) (by omega)) ?_
    | (refine ops_put rfl rfl ?_; intro K' hK'; push_cast; (repeat' refine And.intro ?_ ?_); all_goals (first | (apply hK'; clear hK' K') | (refine ⟨trivial, trivial, ?_⟩; apply hK'; clear hK' K') | (intro hb; (try push_cast at hb); all_goals (intros; apply hK'; clear hK' K')) | (clear hK' K'; first | omega | skip)))
    | (refine ops_no rfl rfl ?_; intro K' hK'; push_cast; (repeat' refine And.intro ?_ ?_); all_goals (first | (apply hK'; clear hK' K') | (refine ⟨trivial, trivial, ?_⟩; apply hK'; clear hK' K') | (intro hb; (try push_cast at hb); all_goals (intros; apply hK'; clear hK' K')) | (clear hK' K'; first | omega | skip)))
    | (refine go_cond (by push_cast; first | done | rfl) ?_ ?_ <;> intro hc <;> (try push_cast at hc))
    | (refine ops_gt rfl rfl rfl (by push_cast; first | done | rfl) ?_)
    | (refine ops_gb rfl rfl rfl (by push_cast; first | done | rfl) ?_ ?_; focus (intro hc; (try push_cast at hc); all_goals (intro K' hK'; push_cast; (repeat' refine And.intro ?_ ?_); all_goals (first | (apply hK'; clear hK' K') | (refine ⟨trivial, trivial, ?_⟩; apply hK'; clear hK' K') | (intro hb; (try push_cast at hb); all_goals (intros; apply hK'; clear hK' K')) | (clear hK' K'; first | omega | skip)))))
    | (intro hc; (try push_cast at hc)))
  all_goals rfl
theorem r08Blank_con : Con Cx.P 34 (.pair (.int .i64) (.unit)) (fun x => (fun (n : Int) => True) x.1) (fun x => (fun (n : Int) => [.dat rR08Disk (dBlank n)]) x.1) := ⟨isfn34, fun x h => r08Blank_fn x.1⟩
theorem r08land_fn (base : List (List Int)) (x : R08Item) (many : Int) (hpre : 0 ≤ x.To ∧ x.To < base.length ∧ base.length ≤ 4096) : Pure Cx.P 90 [.dat (.slice (.arr 64 (.int .u8))) base, .dat rR08Item x, .int .i64 many] [.dat (.slice (.arr 64 (.int .u8))) (landL base x many)] := by
  refine Pure.go2 (E := Cx.env) (fn := Try.f90) (res := [_]) Try.func90 isfn90 rfl rfl rfl (by kernel_rfl) rfl ?_
  push_cast
  try intro hf
  repeat' (first
    | apply go_seq | apply go_block | apply go_region | apply go_skip | apply go_exit | apply go_label | apply go_ret
    | apply seqK_n | apply seqK_x | apply seqK_r | apply blockK_n | apply blockK_r | apply blockK_hit | apply blockK_miss rfl | apply loopK_x | apply loopK_r | apply regK_go | apply finK_n | apply finK_r
    | (refine vres_go ?_; push_cast) | apply ops_nil | refine ops_in (w_i64 _ (by omega) (by omega)) ?_ | refine ops_in (w_u8 _ (by omega) (by omega)) ?_ | refine ops_in (w_u32 _ (by omega) (by omega)) ?_ | refine ops_in (w_u64 _ (by omega) (by omega)) ?_
    | (refine ops_put rfl rfl ?_; intro K' hK'; push_cast; (repeat' refine And.intro ?_ ?_); all_goals (first | (apply hK'; clear hK' K') | (refine ⟨trivial, trivial, ?_⟩; apply hK'; clear hK' K') | (intro hb; (try push_cast at hb); all_goals (intros; apply hK'; clear hK' K')) | (clear hK' K'; first | omega | skip)))
    | (refine ops_no rfl rfl ?_; intro K' hK'; push_cast; (repeat' refine And.intro ?_ ?_); all_goals (first | (apply hK'; clear hK' K') | (refine ⟨trivial, trivial, ?_⟩; apply hK'; clear hK' K') | (intro hb; (try push_cast at hb); all_goals (intros; apply hK'; clear hK' K')) | (clear hK' K'; first | omega | skip)))
    | (refine go_cond (by push_cast; first | done | rfl) ?_ ?_ <;> intro hc <;> (try push_cast at hc))
    | (refine ops_gt rfl rfl rfl (by push_cast; first | done | rfl) ?_)
    | (refine ops_gb rfl rfl rfl (by push_cast; first | done | rfl) ?_ ?_; focus (intro hc; (try push_cast at hc); all_goals (intro K' hK'; push_cast; (repeat' refine And.intro ?_ ?_); all_goals (first | (apply hK'; clear hK' K') | (refine ⟨trivial, trivial, ?_⟩; apply hK'; clear hK' K') | (intro hb; (try push_cast at hb); all_goals (intros; apply hK'; clear hK' K')) | (clear hK' K'; first | omega | skip)))))
    | refine go_draw (id := 6) [0, 1, 2, 3, 4, 5, 6, 7, 8, 9] [10] [4, 11] (.or 10 (.done) (.stop)) wide (by kernel_rfl) ?_
    | apply goA_nil | apply goS_done | apply goS_stop
    | (refine goA_put rfl rfl rfl ?_; intro K' hK'; push_cast; (repeat' refine And.intro ?_ ?_); all_goals (first | (apply hK'; clear hK' K') | (refine ⟨trivial, trivial, ?_⟩; apply hK'; clear hK' K') | (intro hb; (try push_cast at hb); all_goals (intros; apply hK'; clear hK' K')) | (clear hK' K'; first | omega | skip)))
    | (refine goS_free rfl rfl rfl ?_; intro K' hK'; push_cast; (repeat' refine And.intro ?_ ?_); all_goals (first | (apply hK'; clear hK' K') | (refine ⟨trivial, trivial, ?_⟩; apply hK'; clear hK' K') | (intro hb; (try push_cast at hb); all_goals (intros; apply hK'; clear hK' K')) | (clear hK' K'; first | omega | skip)))
    | (refine goS_late rfl rfl rfl rfl ?_ ?_; rotate_left; focus (intro K' hK'; push_cast; (repeat' refine And.intro ?_ ?_); all_goals (first | (apply hK'; clear hK' K') | (refine ⟨trivial, trivial, ?_⟩; apply hK'; clear hK' K') | (intro hb; (try push_cast at hb); all_goals (intros; apply hK'; clear hK' K')) | (clear hK' K'; first | omega | skip))))
    | (refine goS_late' rfl rfl rfl rfl ?_ ?_; rotate_left; focus (intro K' hK'; push_cast; (repeat' refine And.intro ?_ ?_); all_goals (first | (apply hK'; clear hK' K') | (refine ⟨trivial, trivial, ?_⟩; apply hK'; clear hK' K') | (intro hb; (try push_cast at hb); all_goals (intros; apply hK'; clear hK' K')) | (clear hK' K'; first | omega | skip))))
    | (refine goS_hid rfl rfl rfl rfl ?_ ?_; rotate_left; focus (intro K' hK'; push_cast; (repeat' refine And.intro ?_ ?_); all_goals (first | (refine hK' _ _ _ _ _ (by push_cast) (by push_cast; first | done | rfl) ?_; clear hK' K') | (clear hK' K'; first | omega | skip))))
    | (refine goA_gt rfl rfl rfl rfl (by push_cast; first | done | rfl) ?_)
    | (refine goA_gb rfl rfl rfl rfl (by push_cast; first | done | rfl) ?_ ?_; focus (intro hc; (try push_cast at hc); all_goals (intro K' hK'; push_cast; (repeat' refine And.intro ?_ ?_); all_goals (first | (apply hK'; clear hK' K') | (refine ⟨trivial, trivial, ?_⟩; apply hK'; clear hK' K') | (intro hb; (try push_cast at hb); all_goals (intros; apply hK'; clear hK' K')) | (clear hK' K'; first | omega | skip)))))
    | (intro hc; (try push_cast at hc)))
  refine go_loop2 [8, 12, 13, 14, 15, 16, 17, 18, 19, 20, 21, 22, 23, 24, 25, 26, 27, 28] [11] (fun (i : Nat) => i ≤ 64) (fun (i : Nat) => [(12, .one (.l (.int .i64 i)))]) (fun (i : Nat) => [(11, .arr (.arr 64 (.int .u8)) (landN base x (min many.toNat i)))]) (fun (i : Nat) => 64 - i) 0 ?_ (by push_cast; first | done | rfl) (by push_cast; first | done | rfl) ?_ ?_
  · omega
  · push_cast
    simp [landN_zero]
  · intro i hi
    push_cast
    intro hg
    have hl := landN_len base x (min many.toNat i)
    repeat' (first
    | apply go_seq | apply go_block | apply go_region | apply go_skip | apply go_exit | apply go_label | apply go_ret
    | apply seqK_n | apply seqK_x | apply seqK_r | apply blockK_n | apply blockK_r | apply blockK_hit | apply blockK_miss rfl | apply loopK_x | apply loopK_r | apply regK_go | apply finK_n | apply finK_r
    | (refine vres_go ?_; push_cast) | apply ops_nil | refine ops_in (w_i64 _ (by omega) (by omega)) ?_ | refine ops_in (w_u8 _ (by omega) (by omega)) ?_ | refine ops_in (w_u32 _ (by omega) (by omega)) ?_ | refine ops_in (w_u64 _ (by omega) (by omega)) ?_
    | (refine ops_put rfl rfl ?_; intro K' hK'; push_cast; (repeat' refine And.intro ?_ ?_); all_goals (first | (apply hK'; clear hK' K') | (refine ⟨trivial, trivial, ?_⟩; apply hK'; clear hK' K') | (intro hb; (try push_cast at hb); all_goals (intros; apply hK'; clear hK' K')) | (clear hK' K'; first | omega | skip)))
    | (refine ops_no rfl rfl ?_; intro K' hK'; push_cast; (repeat' refine And.intro ?_ ?_); all_goals (first | (apply hK'; clear hK' K') | (refine ⟨trivial, trivial, ?_⟩; apply hK'; clear hK' K') | (intro hb; (try push_cast at hb); all_goals (intros; apply hK'; clear hK' K')) | (clear hK' K'; first | omega | skip)))
    | (refine go_cond (by push_cast; first | done | rfl) ?_ ?_ <;> intro hc <;> (try push_cast at hc))
    | (refine ops_gt rfl rfl rfl (by push_cast; first | done | rfl) ?_)
    | (refine ops_gb rfl rfl rfl (by push_cast; first | done | rfl) ?_ ?_; focus (intro hc; (try push_cast at hc); all_goals (intro K' hK'; push_cast; (repeat' refine And.intro ?_ ?_); all_goals (first | (apply hK'; clear hK' K') | (refine ⟨trivial, trivial, ?_⟩; apply hK'; clear hK' K') | (intro hb; (try push_cast at hb); all_goals (intros; apply hK'; clear hK' K')) | (clear hK' K'; first | omega | skip)))))
    | refine go_draw (id := 6) [0, 1, 2, 3, 4, 5, 6, 7, 8, 9] [10] [4, 11] (.or 10 (.done) (.stop)) wide (by kernel_rfl) ?_
    | apply goA_nil | apply goS_done | apply goS_stop
    | (refine goA_put rfl rfl rfl ?_; intro K' hK'; push_cast; (repeat' refine And.intro ?_ ?_); all_goals (first | (apply hK'; clear hK' K') | (refine ⟨trivial, trivial, ?_⟩; apply hK'; clear hK' K') | (intro hb; (try push_cast at hb); all_goals (intros; apply hK'; clear hK' K')) | (clear hK' K'; first | omega | skip)))
    | (refine goS_free rfl rfl rfl ?_; intro K' hK'; push_cast; (repeat' refine And.intro ?_ ?_); all_goals (first | (apply hK'; clear hK' K') | (refine ⟨trivial, trivial, ?_⟩; apply hK'; clear hK' K') | (intro hb; (try push_cast at hb); all_goals (intros; apply hK'; clear hK' K')) | (clear hK' K'; first | omega | skip)))
    | (refine goS_late rfl rfl rfl rfl ?_ ?_; rotate_left; focus (intro K' hK'; push_cast; (repeat' refine And.intro ?_ ?_); all_goals (first | (apply hK'; clear hK' K') | (refine ⟨trivial, trivial, ?_⟩; apply hK'; clear hK' K') | (intro hb; (try push_cast at hb); all_goals (intros; apply hK'; clear hK' K')) | (clear hK' K'; first | omega | skip))))
    | (refine goS_late' rfl rfl rfl rfl ?_ ?_; rotate_left; focus (intro K' hK'; push_cast; (repeat' refine And.intro ?_ ?_); all_goals (first | (apply hK'; clear hK' K') | (refine ⟨trivial, trivial, ?_⟩; apply hK'; clear hK' K') | (intro hb; (try push_cast at hb); all_goals (intros; apply hK'; clear hK' K')) | (clear hK' K'; first | omega | skip))))
    | (refine goS_hid rfl rfl rfl rfl ?_ ?_; rotate_left; focus (intro K' hK'; push_cast; (repeat' refine And.intro ?_ ?_); all_goals (first | (refine hK' _ _ _ _ _ (by push_cast) (by push_cast; first | done | rfl) ?_; clear hK' K') | (clear hK' K'; first | omega | skip))))
    | (refine goA_gt rfl rfl rfl rfl (by push_cast; first | done | rfl) ?_)
    | (refine goA_gb rfl rfl rfl rfl (by push_cast; first | done | rfl) ?_ ?_; focus (intro hc; (try push_cast at hc); all_goals (intro K' hK'; push_cast; (repeat' refine And.intro ?_ ?_); all_goals (first | (apply hK'; clear hK' K') | (refine ⟨trivial, trivial, ?_⟩; apply hK'; clear hK' K') | (intro hb; (try push_cast at hb); all_goals (intros; apply hK'; clear hK' K')) | (clear hK' K'; first | omega | skip)))))
    | (intro hc; (try push_cast at hc)))
    · refine loopK_m (i + 1) (by omega) (by omega) ?_
      push_cast
      have e1 : min many.toNat i = i := by omega
      have e2 : min many.toNat (i + 1) = i + 1 := by omega
      rw [e1, e2]
      exact landN_succ base x i (fun y hy => (hf.1.2 y hy).1) hf.2.1.1.1 (by omega) (by omega)
    · refine loopK_m (i + 1) (by omega) (by omega) ?_
      push_cast
      have : min many.toNat (i + 1) = min many.toNat i := by omega
      rw [this]
    · have : i = 64 := by omega
      subst this
      rfl
theorem r08land_con : Con Cx.P 90 (.pair (.slice (.arr 64 (.int .u8))) (.pair rR08Item (.pair (.int .i64) (.unit)))) (fun x => (fun (base : List (List Int)) (x : R08Item) (many : Int) => 0 ≤ x.To ∧ x.To < base.length ∧ base.length ≤ 4096) x.1 x.2.1 x.2.2.1) (fun x => (fun (base : List (List Int)) (x : R08Item) (many : Int) => [.dat (.slice (.arr 64 (.int .u8))) (landL base x many)]) x.1 x.2.1 x.2.2.1) := ⟨isfn90, fun x h => r08land_fn x.1 x.2.1 x.2.2.1 h⟩
theorem r08Get_fn (d : R08Disk) (k : Int) : Pure Cx.P 36 [.dat rR08Disk d, .int .i64 k] [.dat (.arr 64 (.int .u8)) (dGet d k).1, .int .i64 (dGet d k).2] := by
  refine Pure.go2 (E := Cx.env) (fn := Try.f36) (res := [_, _]) Try.func36 isfn36 rfl rfl rfl (by kernel_rfl) rfl ?_
  push_cast
  try intro hf
  repeat' (first
    | apply go_seq | apply go_block | apply go_region | apply go_skip | apply go_exit | apply go_label | apply go_ret
    | apply seqK_n | apply seqK_x | apply seqK_r | apply blockK_n | apply blockK_r | apply blockK_hit | apply blockK_miss rfl | apply loopK_x | apply loopK_r | apply regK_go | apply finK_n | apply finK_r
    | (refine vres_go ?_; push_cast) | apply ops_nil | refine ops_in (w_i64 _ (by omega) (by omega)) ?_ | refine ops_in (w_u8 _ (by omega) (by omega)) ?_ | refine ops_in (w_u32 _ (by omega) (by omega)) ?_ | refine ops_in (w_u64 _ (by omega) (by omega)) ?_
    | (refine ops_put rfl rfl ?_; intro K' hK'; push_cast; (repeat' refine And.intro ?_ ?_); all_goals (first | (apply hK'; clear hK' K') | (refine ⟨trivial, trivial, ?_⟩; apply hK'; clear hK' K') | (intro hb; (try push_cast at hb); all_goals (intros; apply hK'; clear hK' K')) | (clear hK' K'; first | omega | skip)))
    | (refine ops_no rfl rfl ?_; intro K' hK'; push_cast; (repeat' refine And.intro ?_ ?_); all_goals (first | (apply hK'; clear hK' K') | (refine ⟨trivial, trivial, ?_⟩; apply hK'; clear hK' K') | (intro hb; (try push_cast at hb); all_goals (intros; apply hK'; clear hK' K')) | (clear hK' K'; first | omega | skip)))
    | (refine go_cond (by push_cast; first | done | rfl) ?_ ?_ <;> intro hc <;> (try push_cast at hc))
    | (refine ops_gt rfl rfl rfl (by push_cast; first | done | rfl) ?_)
    | (refine ops_gb rfl rfl rfl (by push_cast; first | done | rfl) ?_ ?_; focus (intro hc; (try push_cast at hc); all_goals (intro K' hK'; push_cast; (repeat' refine And.intro ?_ ?_); all_goals (first | (apply hK'; clear hK' K') | (refine ⟨trivial, trivial, ?_⟩; apply hK'; clear hK' K') | (intro hb; (try push_cast at hb); all_goals (intros; apply hK'; clear hK' K')) | (clear hK' K'; first | omega | skip)))))
    | (intro hc; (try push_cast at hc)))
  · have : ¬ k < d.Base.length := by omega
    simp [dGet, dThere, this]
  · have hk : 0 ≤ k ∧ k < d.Base.length := by omega
    have e0 : d.Base.getD k.toNat (repl 64 0) = d.Base.getD k.toNat [] := by
      rw [List.getD_eq_getElem?_getD, List.getD_eq_getElem?_getD, List.getElem?_eq_getElem (by omega)]; rfl
    refine go_loop2 [8, 27, 28, 29, 30, 31, 32, 33, 34, 35, 36, 37] [6, 8] (fun (i : Nat) => i ≤ d.Queue.length) (fun (i : Nat) => [(27, .one (.l (.int .i64 i)))]) (fun (i : Nat) => [(6, .segs [.dat (.arr 64 (.int .u8)) (lastTo (d.Queue.take i) k (d.Base.getD k.toNat []))])]) (fun (i : Nat) => d.Queue.length - i) 0 ?_ (by push_cast; first | done | rfl) (by push_cast; first | done | rfl) ?_ ?_
    · omega
    · push_cast
      rw [e0]; rfl
    · intro i hi
      push_cast
      intro hg
      repeat' (first
    | apply go_seq | apply go_block | apply go_region | apply go_skip | apply go_exit | apply go_label | apply go_ret
    | apply seqK_n | apply seqK_x | apply seqK_r | apply blockK_n | apply blockK_r | apply blockK_hit | apply blockK_miss rfl | apply loopK_x | apply loopK_r | apply regK_go | apply finK_n | apply finK_r
    | (refine vres_go ?_; push_cast) | apply ops_nil | refine ops_in (w_i64 _ (by omega) (by omega)) ?_ | refine ops_in (w_u8 _ (by omega) (by omega)) ?_ | refine ops_in (w_u32 _ (by omega) (by omega)) ?_ | refine ops_in (w_u64 _ (by omega) (by omega)) ?_
    | (refine ops_put rfl rfl ?_; intro K' hK'; push_cast; (repeat' refine And.intro ?_ ?_); all_goals (first | (apply hK'; clear hK' K') | (refine ⟨trivial, trivial, ?_⟩; apply hK'; clear hK' K') | (intro hb; (try push_cast at hb); all_goals (intros; apply hK'; clear hK' K')) | (clear hK' K'; first | omega | skip)))
    | (refine ops_no rfl rfl ?_; intro K' hK'; push_cast; (repeat' refine And.intro ?_ ?_); all_goals (first | (apply hK'; clear hK' K') | (refine ⟨trivial, trivial, ?_⟩; apply hK'; clear hK' K') | (intro hb; (try push_cast at hb); all_goals (intros; apply hK'; clear hK' K')) | (clear hK' K'; first | omega | skip)))
    | (refine go_cond (by push_cast; first | done | rfl) ?_ ?_ <;> intro hc <;> (try push_cast at hc))
    | (refine ops_gt rfl rfl rfl (by push_cast; first | done | rfl) ?_)
    | (refine ops_gb rfl rfl rfl (by push_cast; first | done | rfl) ?_ ?_; focus (intro hc; (try push_cast at hc); all_goals (intro K' hK'; push_cast; (repeat' refine And.intro ?_ ?_); all_goals (first | (apply hK'; clear hK' K') | (refine ⟨trivial, trivial, ?_⟩; apply hK'; clear hK' K') | (intro hb; (try push_cast at hb); all_goals (intros; apply hK'; clear hK' K')) | (clear hK' K'; first | omega | skip)))))
    | (intro hc; (try push_cast at hc)))
      · refine loopK_m (i + 1) (by omega) (by omega) ?_
        push_cast
        rw [take_succ_getD _ _ ⟨repl 64 0, 0⟩ (by omega), lastTo_snoc]
        simp only [*, if_true, if_false]
      · refine loopK_m (i + 1) (by omega) (by omega) ?_
        push_cast
        rw [take_succ_getD _ _ ⟨repl 64 0, 0⟩ (by omega), lastTo_snoc]
        simp only [*, if_true, if_false]
      · have : i = d.Queue.length := by omega
        subst this
        simp [dGet, dThere, hk, lastTo]
  · have : ¬ 0 ≤ k := by omega
    simp [dGet, dThere, this]
theorem r08Get_con : Con Cx.P 36 (.pair rR08Disk (.pair (.int .i64) (.unit))) (fun x => (fun (d : R08Disk) (k : Int) => True) x.1 x.2.1) (fun x => (fun (d : R08Disk) (k : Int) => [.dat (.arr 64 (.int .u8)) (dGet d k).1, .int .i64 (dGet d k).2]) x.1 x.2.1) := ⟨isfn36, fun x h => r08Get_fn x.1 x.2.1⟩
theorem r08Put_fn (d : R08Disk) (k : Int) (s : List Int) (hpre : d.Queue.length ≤ 1000000) : Pure Cx.P 85 [.dat rR08Disk d, .int .i64 k, .dat (.arr 64 (.int .u8)) s] [.dat rR08Disk (dPut d k s).1, .int .i64 (dPut d k s).2] := by
  refine Pure.go2 (E := Cx.env) (fn := Try.f85) (res := [_, _]) Try.func85 isfn85 rfl rfl rfl (by kernel_rfl) rfl ?_
  push_cast
  try intro hf
  repeat' (first
    | apply go_seq | apply go_block | apply go_region | apply go_skip | apply go_exit | apply go_label | apply go_ret
    | apply seqK_n | apply seqK_x | apply seqK_r | apply blockK_n | apply blockK_r | apply blockK_hit | apply blockK_miss rfl | apply loopK_x | apply loopK_r | apply regK_go | apply finK_n | apply finK_r
    | (refine vres_go ?_; push_cast) | apply ops_nil | refine ops_in (w_i64 _ (by omega) (by omega)) ?_ | refine ops_in (w_u8 _ (by omega) (by omega)) ?_ | refine ops_in (w_u32 _ (by omega) (by omega)) ?_ | refine ops_in (w_u64 _ (by omega) (by omega)) ?_
    | (refine ops_put rfl rfl ?_; intro K' hK'; push_cast; (repeat' refine And.intro ?_ ?_); all_goals (first | (apply hK'; clear hK' K') | (refine ⟨trivial, trivial, ?_⟩; apply hK'; clear hK' K') | (intro hb; (try push_cast at hb); all_goals (intros; apply hK'; clear hK' K')) | ((first | refine call_N r08spend_con (fun _ => rfl) ?_); push_cast; (repeat' refine And.intro ?_ ?_); all_goals (first | (apply hK'; clear hK' K') | (intros; apply hK'; clear hK' K') | (clear hK' K'; first | omega | skip))) | (clear hK' K'; first | omega | skip)))
    | (refine ops_no rfl rfl ?_; intro K' hK'; push_cast; (repeat' refine And.intro ?_ ?_); all_goals (first | (apply hK'; clear hK' K') | (refine ⟨trivial, trivial, ?_⟩; apply hK'; clear hK' K') | (intro hb; (try push_cast at hb); all_goals (intros; apply hK'; clear hK' K')) | ((first | refine call_N r08spend_con (fun _ => rfl) ?_); push_cast; (repeat' refine And.intro ?_ ?_); all_goals (first | (apply hK'; clear hK' K') | (intros; apply hK'; clear hK' K') | (clear hK' K'; first | omega | skip))) | (clear hK' K'; first | omega | skip)))
    | (refine go_cond (by push_cast; first | done | rfl) ?_ ?_ <;> intro hc <;> (try push_cast at hc))
    | (refine ops_gt rfl rfl rfl (by push_cast; first | done | rfl) ?_)
    | (refine ops_gb rfl rfl rfl (by push_cast; first | done | rfl) ?_ ?_; focus (intro hc; (try push_cast at hc); all_goals (intro K' hK'; push_cast; (repeat' refine And.intro ?_ ?_); all_goals (first | (apply hK'; clear hK' K') | (refine ⟨trivial, trivial, ?_⟩; apply hK'; clear hK' K') | (intro hb; (try push_cast at hb); all_goals (intros; apply hK'; clear hK' K')) | ((first | refine call_N r08spend_con (fun _ => rfl) ?_); push_cast; (repeat' refine And.intro ?_ ?_); all_goals (first | (apply hK'; clear hK' K') | (intros; apply hK'; clear hK' K') | (clear hK' K'; first | omega | skip))) | (clear hK' K'; first | omega | skip)))))
    | refine go_draw (id := 6) [1, 2, 4, 5, 6] [8, 10] [3, 5] (.or 0 (.or 3 (.or 7 (.or 8 (.free 9 (.or 10 (.done) (.stop))) (.stop)) (.stop)) (.or 7 (.or 3 (.or 8 (.free 9 (.or 10 (.done) (.stop))) (.stop)) (.stop)) (.stop))) (.or 7 (.or 0 (.or 3 (.or 8 (.free 9 (.or 10 (.done) (.stop))) (.stop)) (.stop)) (.stop)) (.stop))) wide (by kernel_rfl) ?_
    | apply goA_nil | apply goS_done | apply goS_stop
    | (refine goA_put rfl rfl rfl ?_; intro K' hK'; push_cast; (repeat' refine And.intro ?_ ?_); all_goals (first | (apply hK'; clear hK' K') | (refine ⟨trivial, trivial, ?_⟩; apply hK'; clear hK' K') | (intro hb; (try push_cast at hb); all_goals (intros; apply hK'; clear hK' K')) | ((first | refine call_N r08spend_con (fun _ => rfl) ?_); push_cast; (repeat' refine And.intro ?_ ?_); all_goals (first | (apply hK'; clear hK' K') | (intros; apply hK'; clear hK' K') | (clear hK' K'; first | omega | skip))) | (clear hK' K'; first | omega | skip)))
    | (refine goS_free rfl rfl rfl ?_; intro K' hK'; push_cast; (repeat' refine And.intro ?_ ?_); all_goals (first | (apply hK'; clear hK' K') | (refine ⟨trivial, trivial, ?_⟩; apply hK'; clear hK' K') | (intro hb; (try push_cast at hb); all_goals (intros; apply hK'; clear hK' K')) | ((first | refine call_N r08spend_con (fun _ => rfl) ?_); push_cast; (repeat' refine And.intro ?_ ?_); all_goals (first | (apply hK'; clear hK' K') | (intros; apply hK'; clear hK' K') | (clear hK' K'; first | omega | skip))) | (clear hK' K'; first | omega | skip)))
    | (refine goS_late rfl rfl rfl rfl ?_ ?_; rotate_left; focus (intro K' hK'; push_cast; (repeat' refine And.intro ?_ ?_); all_goals (first | (apply hK'; clear hK' K') | (refine ⟨trivial, trivial, ?_⟩; apply hK'; clear hK' K') | (intro hb; (try push_cast at hb); all_goals (intros; apply hK'; clear hK' K')) | ((first | refine call_N r08spend_con (fun _ => rfl) ?_); push_cast; (repeat' refine And.intro ?_ ?_); all_goals (first | (apply hK'; clear hK' K') | (intros; apply hK'; clear hK' K') | (clear hK' K'; first | omega | skip))) | (clear hK' K'; first | omega | skip))))
    | (refine goS_late' rfl rfl rfl rfl ?_ ?_; rotate_left; focus (intro K' hK'; push_cast; (repeat' refine And.intro ?_ ?_); all_goals (first | (apply hK'; clear hK' K') | (refine ⟨trivial, trivial, ?_⟩; apply hK'; clear hK' K') | (intro hb; (try push_cast at hb); all_goals (intros; apply hK'; clear hK' K')) | ((first | refine call_N r08spend_con (fun _ => rfl) ?_); push_cast; (repeat' refine And.intro ?_ ?_); all_goals (first | (apply hK'; clear hK' K') | (intros; apply hK'; clear hK' K') | (clear hK' K'; first | omega | skip))) | (clear hK' K'; first | omega | skip))))
    | (refine goS_hid rfl rfl rfl rfl ?_ ?_; rotate_left; focus (intro K' hK'; push_cast; (repeat' refine And.intro ?_ ?_); all_goals (first | (refine hK' _ _ _ _ _ (by push_cast) (by push_cast; first | done | rfl) ?_; clear hK' K') | ((first | refine call_N r08spend_con (fun _ => rfl) ?_); push_cast; (repeat' refine And.intro ?_ ?_); all_goals (first | (refine hK' _ _ _ _ _ (by push_cast) (by push_cast; first | done | rfl) ?_; clear hK' K') | (intros; refine hK' _ _ _ _ _ (by push_cast) (by push_cast; first | done | rfl) ?_; clear hK' K') | (clear hK' K'; first | omega | skip))) | (clear hK' K'; first | omega | skip))))
    | (refine goA_gt rfl rfl rfl rfl (by push_cast; first | done | rfl) ?_)
    | (refine goA_gb rfl rfl rfl rfl (by push_cast; first | done | rfl) ?_ ?_; focus (intro hc; (try push_cast at hc); all_goals (intro K' hK'; push_cast; (repeat' refine And.intro ?_ ?_); all_goals (first | (apply hK'; clear hK' K') | (refine ⟨trivial, trivial, ?_⟩; apply hK'; clear hK' K') | (intro hb; (try push_cast at hb); all_goals (intros; apply hK'; clear hK' K')) | ((first | refine call_N r08spend_con (fun _ => rfl) ?_); push_cast; (repeat' refine And.intro ?_ ?_); all_goals (first | (apply hK'; clear hK' K') | (intros; apply hK'; clear hK' K') | (clear hK' K'; first | omega | skip))) | (clear hK' K'; first | omega | skip)))))
    | (intro hc; (try push_cast at hc)))
  all_goals grind [dPut, dThere, dSpend_queue]
theorem r08Put_con : Con Cx.P 85 (.pair rR08Disk (.pair (.int .i64) (.pair (.arr 64 (.int .u8)) (.unit)))) (fun x => (fun (d : R08Disk) (k : Int) (s : List Int) => d.Queue.length ≤ 1000000) x.1 x.2.1 x.2.2.1) (fun x => (fun (d : R08Disk) (k : Int) (s : List Int) => [.dat rR08Disk (dPut d k s).1, .int .i64 (dPut d k s).2]) x.1 x.2.1 x.2.2.1) := ⟨isfn85, fun x h => r08Put_fn x.1 x.2.1 x.2.2.1 h⟩
theorem r08Flush_fn (d : R08Disk) (hpre : d.Base.length ≤ 4096 ∧ (∀ x ∈ d.Queue, 0 ≤ x.To ∧ x.To < d.Base.length)) : Pure Cx.P 43 [.dat rR08Disk d] [.dat rR08Disk (dFlush d).1, .int .i64 (dFlush d).2] := by
  refine Pure.go2 (E := Cx.env) (fn := Try.f43) (res := [_, _]) Try.func43 isfn43 rfl rfl rfl (by kernel_rfl) rfl ?_
  push_cast
  try intro hf
  repeat' (first
    | apply go_seq | apply go_block | apply go_region | apply go_skip | apply go_exit | apply go_label | apply go_ret
    | apply seqK_n | apply seqK_x | apply seqK_r | apply blockK_n | apply blockK_r | apply blockK_hit | apply blockK_miss rfl | apply loopK_x | apply loopK_r | apply regK_go | apply finK_n | apply finK_r
    | (refine vres_go ?_; push_cast) | apply ops_nil | refine ops_in (w_i64 _ (by omega) (by omega)) ?_ | refine ops_in (w_u8 _ (by omega) (by omega)) ?_ | refine ops_in (w_u32 _ (by omega) (by omega)) ?_ | refine ops_in (w_u64 _ (by omega) (by omega)) ?_
    | (refine ops_put rfl rfl ?_; intro K' hK'; push_cast; (repeat' refine And.intro ?_ ?_); all_goals (first | (apply hK'; clear hK' K') | (refine ⟨trivial, trivial, ?_⟩; apply hK'; clear hK' K') | (intro hb; (try push_cast at hb); all_goals (intros; apply hK'; clear hK' K')) | ((first | refine call_N r08spend_con (fun _ => rfl) ?_); push_cast; (repeat' refine And.intro ?_ ?_); all_goals (first | (apply hK'; clear hK' K') | (intros; apply hK'; clear hK' K') | (clear hK' K'; first | omega | skip))) | (clear hK' K'; first | omega | skip)))
    | (refine ops_no rfl rfl ?_; intro K' hK'; push_cast; (repeat' refine And.intro ?_ ?_); all_goals (first | (apply hK'; clear hK' K') | (refine ⟨trivial, trivial, ?_⟩; apply hK'; clear hK' K') | (intro hb; (try push_cast at hb); all_goals (intros; apply hK'; clear hK' K')) | ((first | refine call_N r08spend_con (fun _ => rfl) ?_); push_cast; (repeat' refine And.intro ?_ ?_); all_goals (first | (apply hK'; clear hK' K') | (intros; apply hK'; clear hK' K') | (clear hK' K'; first | omega | skip))) | (clear hK' K'; first | omega | skip)))
    | (refine go_cond (by push_cast; first | done | rfl) ?_ ?_ <;> intro hc <;> (try push_cast at hc))
    | (refine ops_gt rfl rfl rfl (by push_cast; first | done | rfl) ?_)
    | (refine ops_gb rfl rfl rfl (by push_cast; first | done | rfl) ?_ ?_; focus (intro hc; (try push_cast at hc); all_goals (intro K' hK'; push_cast; (repeat' refine And.intro ?_ ?_); all_goals (first | (apply hK'; clear hK' K') | (refine ⟨trivial, trivial, ?_⟩; apply hK'; clear hK' K') | (intro hb; (try push_cast at hb); all_goals (intros; apply hK'; clear hK' K')) | ((first | refine call_N r08spend_con (fun _ => rfl) ?_); push_cast; (repeat' refine And.intro ?_ ?_); all_goals (first | (apply hK'; clear hK' K') | (intros; apply hK'; clear hK' K') | (clear hK' K'; first | omega | skip))) | (clear hK' K'; first | omega | skip)))))
    | (intro hc; (try push_cast at hc)))
  · simp_all [dFlush]
  · have hsp : (!(dSpend d).snd) = false := by assumption
    refine go_loop2 [7, 19, 20, 21, 22, 23, 24, 25, 26, 27, 28] [4, 7, 26] (fun (i : Nat) => i ≤ d.Queue.length) (fun (i : Nat) => [(19, .one (.l (.int .i64 i)))]) (fun (i : Nat) => [(4, .segs [.dat rR08Disk ⟨landAll (fun _ => 64) 0 (d.Queue.take i) d.Base, (dSpend d).1.Queue, (dSpend d).1.Burns, (dSpend d).1.Dead⟩])]) (fun (i : Nat) => d.Queue.length - i) 0 ?_ (by push_cast; first | done | rfl) (by push_cast; first | done | rfl) ?_ ?_
    · omega
    · push_cast
      simp only [List.take_zero, landAll, ← dSpend_base d]
    · intro i hi
      push_cast
      intro hg
      have hl := landAll_len (fun _ => 64) 0 (d.Queue.take i) d.Base
      by_cases hlt : i < d.Queue.length
      · have hx := hpre.2 _ (getD_mem d.Queue i ⟨repl 64 0, 0⟩ hlt)
        repeat' (first
    | apply go_seq | apply go_block | apply go_region | apply go_skip | apply go_exit | apply go_label | apply go_ret
    | apply seqK_n | apply seqK_x | apply seqK_r | apply blockK_n | apply blockK_r | apply blockK_hit | apply blockK_miss rfl | apply loopK_x | apply loopK_r | apply regK_go | apply finK_n | apply finK_r
    | (refine vres_go ?_; push_cast) | apply ops_nil | refine ops_in (w_i64 _ (by omega) (by omega)) ?_ | refine ops_in (w_u8 _ (by omega) (by omega)) ?_ | refine ops_in (w_u32 _ (by omega) (by omega)) ?_ | refine ops_in (w_u64 _ (by omega) (by omega)) ?_
    | (refine ops_put rfl rfl ?_; intro K' hK'; push_cast; (repeat' refine And.intro ?_ ?_); all_goals (first | (apply hK'; clear hK' K') | (refine ⟨trivial, trivial, ?_⟩; apply hK'; clear hK' K') | (intro hb; (try push_cast at hb); all_goals (intros; apply hK'; clear hK' K')) | ((first | refine call_N r08land_con (fun _ => rfl) ?_); push_cast; (repeat' refine And.intro ?_ ?_); all_goals (first | (apply hK'; clear hK' K') | (intros; apply hK'; clear hK' K') | (clear hK' K'; first | omega | skip))) | (clear hK' K'; first | omega | skip)))
    | (refine ops_no rfl rfl ?_; intro K' hK'; push_cast; (repeat' refine And.intro ?_ ?_); all_goals (first | (apply hK'; clear hK' K') | (refine ⟨trivial, trivial, ?_⟩; apply hK'; clear hK' K') | (intro hb; (try push_cast at hb); all_goals (intros; apply hK'; clear hK' K')) | ((first | refine call_N r08land_con (fun _ => rfl) ?_); push_cast; (repeat' refine And.intro ?_ ?_); all_goals (first | (apply hK'; clear hK' K') | (intros; apply hK'; clear hK' K') | (clear hK' K'; first | omega | skip))) | (clear hK' K'; first | omega | skip)))
    | (refine go_cond (by push_cast; first | done | rfl) ?_ ?_ <;> intro hc <;> (try push_cast at hc))
    | (refine ops_gt rfl rfl rfl (by push_cast; first | done | rfl) ?_)
    | (refine ops_gb rfl rfl rfl (by push_cast; first | done | rfl) ?_ ?_; focus (intro hc; (try push_cast at hc); all_goals (intro K' hK'; push_cast; (repeat' refine And.intro ?_ ?_); all_goals (first | (apply hK'; clear hK' K') | (refine ⟨trivial, trivial, ?_⟩; apply hK'; clear hK' K') | (intro hb; (try push_cast at hb); all_goals (intros; apply hK'; clear hK' K')) | ((first | refine call_N r08land_con (fun _ => rfl) ?_); push_cast; (repeat' refine And.intro ?_ ?_); all_goals (first | (apply hK'; clear hK' K') | (intros; apply hK'; clear hK' K') | (clear hK' K'; first | omega | skip))) | (clear hK' K'; first | omega | skip)))))
    | (intro hc; (try push_cast at hc)))
        · refine loopK_m (i + 1) (by omega) (by omega) ?_
          push_cast
          rw [take_succ_getD _ _ ⟨repl 64 0, 0⟩ (by omega), landAll_snoc]
        · omega
      · repeat' (first
    | apply go_seq | apply go_block | apply go_region | apply go_skip | apply go_exit | apply go_label | apply go_ret
    | apply seqK_n | apply seqK_x | apply seqK_r | apply blockK_n | apply blockK_r | apply blockK_hit | apply blockK_miss rfl | apply loopK_x | apply loopK_r | apply regK_go | apply finK_n | apply finK_r
    | (refine vres_go ?_; push_cast) | apply ops_nil | refine ops_in (w_i64 _ (by omega) (by omega)) ?_ | refine ops_in (w_u8 _ (by omega) (by omega)) ?_ | refine ops_in (w_u32 _ (by omega) (by omega)) ?_ | refine ops_in (w_u64 _ (by omega) (by omega)) ?_
    | (refine ops_put rfl rfl ?_; intro K' hK'; push_cast; (repeat' refine And.intro ?_ ?_); all_goals (first | (apply hK'; clear hK' K') | (refine ⟨trivial, trivial, ?_⟩; apply hK'; clear hK' K') | (intro hb; (try push_cast at hb); all_goals (intros; apply hK'; clear hK' K')) | ((first | refine call_N r08land_con (fun _ => rfl) ?_); push_cast; (repeat' refine And.intro ?_ ?_); all_goals (first | (apply hK'; clear hK' K') | (intros; apply hK'; clear hK' K') | (clear hK' K'; first | omega | skip))) | (clear hK' K'; first | omega | skip)))
    | (refine ops_no rfl rfl ?_; intro K' hK'; push_cast; (repeat' refine And.intro ?_ ?_); all_goals (first | (apply hK'; clear hK' K') | (refine ⟨trivial, trivial, ?_⟩; apply hK'; clear hK' K') | (intro hb; (try push_cast at hb); all_goals (intros; apply hK'; clear hK' K')) | ((first | refine call_N r08land_con (fun _ => rfl) ?_); push_cast; (repeat' refine And.intro ?_ ?_); all_goals (first | (apply hK'; clear hK' K') | (intros; apply hK'; clear hK' K') | (clear hK' K'; first | omega | skip))) | (clear hK' K'; first | omega | skip)))
    | (refine go_cond (by push_cast; first | done | rfl) ?_ ?_ <;> intro hc <;> (try push_cast at hc))
    | (refine ops_gt rfl rfl rfl (by push_cast; first | done | rfl) ?_)
    | (refine ops_gb rfl rfl rfl (by push_cast; first | done | rfl) ?_ ?_; focus (intro hc; (try push_cast at hc); all_goals (intro K' hK'; push_cast; (repeat' refine And.intro ?_ ?_); all_goals (first | (apply hK'; clear hK' K') | (refine ⟨trivial, trivial, ?_⟩; apply hK'; clear hK' K') | (intro hb; (try push_cast at hb); all_goals (intros; apply hK'; clear hK' K')) | ((first | refine call_N r08land_con (fun _ => rfl) ?_); push_cast; (repeat' refine And.intro ?_ ?_); all_goals (first | (apply hK'; clear hK' K') | (intros; apply hK'; clear hK' K') | (clear hK' K'; first | omega | skip))) | (clear hK' K'; first | omega | skip)))))
    | (intro hc; (try push_cast at hc)))
        · omega
        · have : i = d.Queue.length := by omega
          subst this
          have : (dSpend d).2 = true := by simpa using hsp
          simp only [dFlush, this, if_true, List.take_length]
          simp [dSpend_base]
theorem r08Flush_con : Con Cx.P 43 (.pair rR08Disk (.unit)) (fun x => (fun (d : R08Disk) => d.Base.length ≤ 4096 ∧ (∀ x ∈ d.Queue, 0 ≤ x.To ∧ x.To < d.Base.length)) x.1) (fun x => (fun (d : R08Disk) => [.dat rR08Disk (dFlush d).1, .int .i64 (dFlush d).2]) x.1) := ⟨isfn43, fun x h => r08Flush_fn x.1 h⟩
theorem r08Power_fn (d : R08Disk) (keep : List Int) (hpre : d.Base.length ≤ 4096 ∧ (∀ x ∈ d.Queue, 0 ≤ x.To ∧ x.To < d.Base.length)) : Pure Cx.P 45 [.dat rR08Disk d, .dat (.slice (.int .i64)) keep] [.dat rR08Disk (dPower d keep)] := by
  refine Pure.go2 (E := Cx.env) (fn := Try.f45) (res := [_]) Try.func45 isfn45 rfl rfl rfl (by kernel_rfl) rfl ?_
  push_cast
  try intro hf
  repeat' (first
    | apply go_seq | apply go_block | apply go_region | apply go_skip | apply go_exit | apply go_label | apply go_ret
    | apply seqK_n | apply seqK_x | apply seqK_r | apply blockK_n | apply blockK_r | apply blockK_hit | apply blockK_miss rfl | apply loopK_x | apply loopK_r | apply regK_go | apply finK_n | apply finK_r
    | (refine vres_go ?_; push_cast) | apply ops_nil | refine ops_in (w_i64 _ (by omega) (by omega)) ?_ | refine ops_in (w_u8 _ (by omega) (by omega)) ?_ | refine ops_in (w_u32 _ (by omega) (by omega)) ?_ | refine ops_in (w_u64 _ (by omega) (by omega)) ?_
    | (refine ops_put rfl rfl ?_; intro K' hK'; push_cast; (repeat' refine And.intro ?_ ?_); all_goals (first | (apply hK'; clear hK' K') | (refine ⟨trivial, trivial, ?_⟩; apply hK'; clear hK' K') | (intro hb; (try push_cast at hb); all_goals (intros; apply hK'; clear hK' K')) | (clear hK' K'; first | omega | skip)))
    | (refine ops_no rfl rfl ?_; intro K' hK'; push_cast; (repeat' refine And.intro ?_ ?_); all_goals (first | (apply hK'; clear hK' K') | (refine ⟨trivial, trivial, ?_⟩; apply hK'; clear hK' K') | (intro hb; (try push_cast at hb); all_goals (intros; apply hK'; clear hK' K')) | (clear hK' K'; first | omega | skip)))
    | (refine go_cond (by push_cast; first | done | rfl) ?_ ?_ <;> intro hc <;> (try push_cast at hc))
    | (refine ops_gt rfl rfl rfl (by push_cast; first | done | rfl) ?_)
    | (refine ops_gb rfl rfl rfl (by push_cast; first | done | rfl) ?_ ?_; focus (intro hc; (try push_cast at hc); all_goals (intro K' hK'; push_cast; (repeat' refine And.intro ?_ ?_); all_goals (first | (apply hK'; clear hK' K') | (refine ⟨trivial, trivial, ?_⟩; apply hK'; clear hK' K') | (intro hb; (try push_cast at hb); all_goals (intros; apply hK'; clear hK' K')) | (clear hK' K'; first | omega | skip)))))
    | refine go_draw (id := 6) [0, 1, 2, 3, 4, 5] [6] [1, 7] (.or 6 (.free 7 (.done)) (.stop)) wide (by kernel_rfl) ?_
    | apply goA_nil | apply goS_done | apply goS_stop
    | (refine goA_put rfl rfl rfl ?_; intro K' hK'; push_cast; (repeat' refine And.intro ?_ ?_); all_goals (first | (apply hK'; clear hK' K') | (refine ⟨trivial, trivial, ?_⟩; apply hK'; clear hK' K') | (intro hb; (try push_cast at hb); all_goals (intros; apply hK'; clear hK' K')) | (clear hK' K'; first | omega | skip)))
    | (refine goS_free rfl rfl rfl ?_; intro K' hK'; push_cast; (repeat' refine And.intro ?_ ?_); all_goals (first | (apply hK'; clear hK' K') | (refine ⟨trivial, trivial, ?_⟩; apply hK'; clear hK' K') | (intro hb; (try push_cast at hb); all_goals (intros; apply hK'; clear hK' K')) | (clear hK' K'; first | omega | skip)))
    | (refine goS_late rfl rfl rfl rfl ?_ ?_; rotate_left; focus (intro K' hK'; push_cast; (repeat' refine And.intro ?_ ?_); all_goals (first | (apply hK'; clear hK' K') | (refine ⟨trivial, trivial, ?_⟩; apply hK'; clear hK' K') | (intro hb; (try push_cast at hb); all_goals (intros; apply hK'; clear hK' K')) | (clear hK' K'; first | omega | skip))))
    | (refine goS_late' rfl rfl rfl rfl ?_ ?_; rotate_left; focus (intro K' hK'; push_cast; (repeat' refine And.intro ?_ ?_); all_goals (first | (apply hK'; clear hK' K') | (refine ⟨trivial, trivial, ?_⟩; apply hK'; clear hK' K') | (intro hb; (try push_cast at hb); all_goals (intros; apply hK'; clear hK' K')) | (clear hK' K'; first | omega | skip))))
    | (refine goS_hid rfl rfl rfl rfl ?_ ?_; rotate_left; focus (intro K' hK'; push_cast; (repeat' refine And.intro ?_ ?_); all_goals (first | (refine hK' _ _ _ _ _ (by push_cast) (by push_cast; first | done | rfl) ?_; clear hK' K') | (clear hK' K'; first | omega | skip))))
    | (refine goA_gt rfl rfl rfl rfl (by push_cast; first | done | rfl) ?_)
    | (refine goA_gb rfl rfl rfl rfl (by push_cast; first | done | rfl) ?_ ?_; focus (intro hc; (try push_cast at hc); all_goals (intro K' hK'; push_cast; (repeat' refine And.intro ?_ ?_); all_goals (first | (apply hK'; clear hK' K') | (refine ⟨trivial, trivial, ?_⟩; apply hK'; clear hK' K') | (intro hb; (try push_cast at hb); all_goals (intros; apply hK'; clear hK' K')) | (clear hK' K'; first | omega | skip)))))
    | (intro hc; (try push_cast at hc)))
  refine go_loop2 [5, 6, 7, 13, 14, 15, 16, 17, 18, 19, 20, 21, 22, 23, 24, 25, 26, 27, 28, 29] [7, 20, 28] (fun (i : Nat) => i ≤ d.Queue.length) (fun (i : Nat) => [(13, .one (.l (.int .i64 i))), (5, .one (.l (.dat (.slice (.arr 64 (.int .u8))) (landAll (keepAt keep) 0 (d.Queue.take i) d.Base))))]) (fun (i : Nat) => []) (fun (i : Nat) => d.Queue.length - i) 0 ?_ (by push_cast; first | done | rfl) (by push_cast; first | done | rfl) ?_ ?_
  · omega
  · push_cast
    simp [landAll]
  · intro i hi
    push_cast
    intro hg
    have hl := landAll_len (keepAt keep) 0 (d.Queue.take i) d.Base
    by_cases hlt : i < d.Queue.length
    · have hx := hpre.2 _ (getD_mem d.Queue i ⟨repl 64 0, 0⟩ hlt)
      repeat' (first
    | apply go_seq | apply go_block | apply go_region | apply go_skip | apply go_exit | apply go_label | apply go_ret
    | apply seqK_n | apply seqK_x | apply seqK_r | apply blockK_n | apply blockK_r | apply blockK_hit | apply blockK_miss rfl | apply loopK_x | apply loopK_r | apply regK_go | apply finK_n | apply finK_r
    | (refine vres_go ?_; push_cast) | apply ops_nil | refine ops_in (w_i64 _ (by omega) (by omega)) ?_ | refine ops_in (w_u8 _ (by omega) (by omega)) ?_ | refine ops_in (w_u32 _ (by omega) (by omega)) ?_ | refine ops_in (w_u64 _ (by omega) (by omega)) ?_
    | (refine ops_put rfl rfl ?_; intro K' hK'; push_cast; (repeat' refine And.intro ?_ ?_); all_goals (first | (apply hK'; clear hK' K') | (refine ⟨trivial, trivial, ?_⟩; apply hK'; clear hK' K') | (intro hb; (try push_cast at hb); all_goals (intros; apply hK'; clear hK' K')) | ((first | refine call_N r08land_con (fun _ => rfl) ?_); push_cast; (repeat' refine And.intro ?_ ?_); all_goals (first | (apply hK'; clear hK' K') | (intros; apply hK'; clear hK' K') | (clear hK' K'; first | omega | skip))) | (clear hK' K'; first | omega | skip)))
    | (refine ops_no rfl rfl ?_; intro K' hK'; push_cast; (repeat' refine And.intro ?_ ?_); all_goals (first | (apply hK'; clear hK' K') | (refine ⟨trivial, trivial, ?_⟩; apply hK'; clear hK' K') | (intro hb; (try push_cast at hb); all_goals (intros; apply hK'; clear hK' K')) | ((first | refine call_N r08land_con (fun _ => rfl) ?_); push_cast; (repeat' refine And.intro ?_ ?_); all_goals (first | (apply hK'; clear hK' K') | (intros; apply hK'; clear hK' K') | (clear hK' K'; first | omega | skip))) | (clear hK' K'; first | omega | skip)))
    | (refine go_cond (by push_cast; first | done | rfl) ?_ ?_ <;> intro hc <;> (try push_cast at hc))
    | (refine ops_gt rfl rfl rfl (by push_cast; first | done | rfl) ?_)
    | (refine ops_gb rfl rfl rfl (by push_cast; first | done | rfl) ?_ ?_; focus (intro hc; (try push_cast at hc); all_goals (intro K' hK'; push_cast; (repeat' refine And.intro ?_ ?_); all_goals (first | (apply hK'; clear hK' K') | (refine ⟨trivial, trivial, ?_⟩; apply hK'; clear hK' K') | (intro hb; (try push_cast at hb); all_goals (intros; apply hK'; clear hK' K')) | ((first | refine call_N r08land_con (fun _ => rfl) ?_); push_cast; (repeat' refine And.intro ?_ ?_); all_goals (first | (apply hK'; clear hK' K') | (intros; apply hK'; clear hK' K') | (clear hK' K'; first | omega | skip))) | (clear hK' K'; first | omega | skip)))))
    | refine go_draw (id := 6) [0, 1, 2, 3, 4, 5] [6] [1, 7] (.or 6 (.free 7 (.done)) (.stop)) wide (by kernel_rfl) ?_
    | apply goA_nil | apply goS_done | apply goS_stop
    | (refine goA_put rfl rfl rfl ?_; intro K' hK'; push_cast; (repeat' refine And.intro ?_ ?_); all_goals (first | (apply hK'; clear hK' K') | (refine ⟨trivial, trivial, ?_⟩; apply hK'; clear hK' K') | (intro hb; (try push_cast at hb); all_goals (intros; apply hK'; clear hK' K')) | ((first | refine call_N r08land_con (fun _ => rfl) ?_); push_cast; (repeat' refine And.intro ?_ ?_); all_goals (first | (apply hK'; clear hK' K') | (intros; apply hK'; clear hK' K') | (clear hK' K'; first | omega | skip))) | (clear hK' K'; first | omega | skip)))
    | (refine goS_free rfl rfl rfl ?_; intro K' hK'; push_cast; (repeat' refine And.intro ?_ ?_); all_goals (first | (apply hK'; clear hK' K') | (refine ⟨trivial, trivial, ?_⟩; apply hK'; clear hK' K') | (intro hb; (try push_cast at hb); all_goals (intros; apply hK'; clear hK' K')) | ((first | refine call_N r08land_con (fun _ => rfl) ?_); push_cast; (repeat' refine And.intro ?_ ?_); all_goals (first | (apply hK'; clear hK' K') | (intros; apply hK'; clear hK' K') | (clear hK' K'; first | omega | skip))) | (clear hK' K'; first | omega | skip)))
    | (refine goS_late rfl rfl rfl rfl ?_ ?_; rotate_left; focus (intro K' hK'; push_cast; (repeat' refine And.intro ?_ ?_); all_goals (first | (apply hK'; clear hK' K') | (refine ⟨trivial, trivial, ?_⟩; apply hK'; clear hK' K') | (intro hb; (try push_cast at hb); all_goals (intros; apply hK'; clear hK' K')) | ((first | refine call_N r08land_con (fun _ => rfl) ?_); push_cast; (repeat' refine And.intro ?_ ?_); all_goals (first | (apply hK'; clear hK' K') | (intros; apply hK'; clear hK' K') | (clear hK' K'; first | omega | skip))) | (clear hK' K'; first | omega | skip))))
    | (refine goS_late' rfl rfl rfl rfl ?_ ?_; rotate_left; focus (intro K' hK'; push_cast; (repeat' refine And.intro ?_ ?_); all_goals (first | (apply hK'; clear hK' K') | (refine ⟨trivial, trivial, ?_⟩; apply hK'; clear hK' K') | (intro hb; (try push_cast at hb); all_goals (intros; apply hK'; clear hK' K')) | ((first | refine call_N r08land_con (fun _ => rfl) ?_); push_cast; (repeat' refine And.intro ?_ ?_); all_goals (first | (apply hK'; clear hK' K') | (intros; apply hK'; clear hK' K') | (clear hK' K'; first | omega | skip))) | (clear hK' K'; first | omega | skip))))
    | (refine goS_hid rfl rfl rfl rfl ?_ ?_; rotate_left; focus (intro K' hK'; push_cast; (repeat' refine And.intro ?_ ?_); all_goals (first | (refine hK' _ _ _ _ _ (by push_cast) (by push_cast; first | done | rfl) ?_; clear hK' K') | ((first | refine call_N r08land_con (fun _ => rfl) ?_); push_cast; (repeat' refine And.intro ?_ ?_); all_goals (first | (refine hK' _ _ _ _ _ (by push_cast) (by push_cast; first | done | rfl) ?_; clear hK' K') | (intros; refine hK' _ _ _ _ _ (by push_cast) (by push_cast; first | done | rfl) ?_; clear hK' K') | (clear hK' K'; first | omega | skip))) | (clear hK' K'; first | omega | skip))))
    | (refine goA_gt rfl rfl rfl rfl (by push_cast; first | done | rfl) ?_)
    | (refine goA_gb rfl rfl rfl rfl (by push_cast; first | done | rfl) ?_ ?_; focus (intro hc; (try push_cast at hc); all_goals (intro K' hK'; push_cast; (repeat' refine And.intro ?_ ?_); all_goals (first | (apply hK'; clear hK' K') | (refine ⟨trivial, trivial, ?_⟩; apply hK'; clear hK' K') | (intro hb; (try push_cast at hb); all_goals (intros; apply hK'; clear hK' K')) | ((first | refine call_N r08land_con (fun _ => rfl) ?_); push_cast; (repeat' refine And.intro ?_ ?_); all_goals (first | (apply hK'; clear hK' K') | (intros; apply hK'; clear hK' K') | (clear hK' K'; first | omega | skip))) | (clear hK' K'; first | omega | skip)))))
    | (intro hc; (try push_cast at hc)))
      · refine loopK_m (i + 1) (by omega) (by omega) ?_
        push_cast
        rw [take_succ_getD _ _ ⟨repl 64 0, 0⟩ (by omega), landAll_snoc]
        simp only [List.length_take, Nat.min_eq_left hi, keepAt, Nat.zero_add]
      · refine loopK_m (i + 1) (by omega) (by omega) ?_
        push_cast
        rw [take_succ_getD _ _ ⟨repl 64 0, 0⟩ (by omega), landAll_snoc]
        simp only [List.length_take, Nat.min_eq_left hi, keepAt, Nat.zero_add]
        rw [landL_le]
        have : keep[i]? = none := List.getElem?_eq_none (by omega)
        simp [List.getD_eq_getElem?_getD, this]
      · omega
    · repeat' (first
    | apply go_seq | apply go_block | apply go_region | apply go_skip | apply go_exit | apply go_label | apply go_ret
    | apply seqK_n | apply seqK_x | apply seqK_r | apply blockK_n | apply blockK_r | apply blockK_hit | apply blockK_miss rfl | apply loopK_x | apply loopK_r | apply regK_go | apply finK_n | apply finK_r
    | (refine vres_go ?_; push_cast) | apply ops_nil | refine ops_in (w_i64 _ (by omega) (by omega)) ?_ | refine ops_in (w_u8 _ (by omega) (by omega)) ?_ | refine ops_in (w_u32 _ (by omega) (by omega)) ?_ | refine ops_in (w_u64 _ (by omega) (by omega)) ?_
    | (refine ops_put rfl rfl ?_; intro K' hK'; push_cast; (repeat' refine And.intro ?_ ?_); all_goals (first | (apply hK'; clear hK' K') | (refine ⟨trivial, trivial, ?_⟩; apply hK'; clear hK' K') | (intro hb; (try push_cast at hb); all_goals (intros; apply hK'; clear hK' K')) | ((first | refine call_N r08land_con (fun _ => rfl) ?_); push_cast; (repeat' refine And.intro ?_ ?_); all_goals (first | (apply hK'; clear hK' K') | (intros; apply hK'; clear hK' K') | (clear hK' K'; first | omega | skip))) | (clear hK' K'; first | omega | skip)))
    | (refine ops_no rfl rfl ?_; intro K' hK'; push_cast; (repeat' refine And.intro ?_ ?_); all_goals (first | (apply hK'; clear hK' K') | (refine ⟨trivial, trivial, ?_⟩; apply hK'; clear hK' K') | (intro hb; (try push_cast at hb); all_goals (intros; apply hK'; clear hK' K')) | ((first | refine call_N r08land_con (fun _ => rfl) ?_); push_cast; (repeat' refine And.intro ?_ ?_); all_goals (first | (apply hK'; clear hK' K') | (intros; apply hK'; clear hK' K') | (clear hK' K'; first | omega | skip))) | (clear hK' K'; first | omega | skip)))
    | (refine go_cond (by push_cast; first | done | rfl) ?_ ?_ <;> intro hc <;> (try push_cast at hc))
    | (refine ops_gt rfl rfl rfl (by push_cast; first | done | rfl) ?_)
    | (refine ops_gb rfl rfl rfl (by push_cast; first | done | rfl) ?_ ?_; focus (intro hc; (try push_cast at hc); all_goals (intro K' hK'; push_cast; (repeat' refine And.intro ?_ ?_); all_goals (first | (apply hK'; clear hK' K') | (refine ⟨trivial, trivial, ?_⟩; apply hK'; clear hK' K') | (intro hb; (try push_cast at hb); all_goals (intros; apply hK'; clear hK' K')) | ((first | refine call_N r08land_con (fun _ => rfl) ?_); push_cast; (repeat' refine And.intro ?_ ?_); all_goals (first | (apply hK'; clear hK' K') | (intros; apply hK'; clear hK' K') | (clear hK' K'; first | omega | skip))) | (clear hK' K'; first | omega | skip)))))
    | refine go_draw (id := 6) [0, 1, 2, 3, 4, 5] [6] [1, 7] (.or 6 (.free 7 (.done)) (.stop)) wide (by kernel_rfl) ?_
    | apply goA_nil | apply goS_done | apply goS_stop
    | (refine goA_put rfl rfl rfl ?_; intro K' hK'; push_cast; (repeat' refine And.intro ?_ ?_); all_goals (first | (apply hK'; clear hK' K') | (refine ⟨trivial, trivial, ?_⟩; apply hK'; clear hK' K') | (intro hb; (try push_cast at hb); all_goals (intros; apply hK'; clear hK' K')) | ((first | refine call_N r08land_con (fun _ => rfl) ?_); push_cast; (repeat' refine And.intro ?_ ?_); all_goals (first | (apply hK'; clear hK' K') | (intros; apply hK'; clear hK' K') | (clear hK' K'; first | omega | skip))) | (clear hK' K'; first | omega | skip)))
    | (refine goS_free rfl rfl rfl ?_; intro K' hK'; push_cast; (repeat' refine And.intro ?_ ?_); all_goals (first | (apply hK'; clear hK' K') | (refine ⟨trivial, trivial, ?_⟩; apply hK'; clear hK' K') | (intro hb; (try push_cast at hb); all_goals (intros; apply hK'; clear hK' K')) | ((first | refine call_N r08land_con (fun _ => rfl) ?_); push_cast; (repeat' refine And.intro ?_ ?_); all_goals (first | (apply hK'; clear hK' K') | (intros; apply hK'; clear hK' K') | (clear hK' K'; first | omega | skip))) | (clear hK' K'; first | omega | skip)))
    | (refine goS_late rfl rfl rfl rfl ?_ ?_; rotate_left; focus (intro K' hK'; push_cast; (repeat' refine And.intro ?_ ?_); all_goals (first | (apply hK'; clear hK' K') | (refine ⟨trivial, trivial, ?_⟩; apply hK'; clear hK' K') | (intro hb; (try push_cast at hb); all_goals (intros; apply hK'; clear hK' K')) | ((first | refine call_N r08land_con (fun _ => rfl) ?_); push_cast; (repeat' refine And.intro ?_ ?_); all_goals (first | (apply hK'; clear hK' K') | (intros; apply hK'; clear hK' K') | (clear hK' K'; first | omega | skip))) | (clear hK' K'; first | omega | skip))))
    | (refine goS_late' rfl rfl rfl rfl ?_ ?_; rotate_left; focus (intro K' hK'; push_cast; (repeat' refine And.intro ?_ ?_); all_goals (first | (apply hK'; clear hK' K') | (refine ⟨trivial, trivial, ?_⟩; apply hK'; clear hK' K') | (intro hb; (try push_cast at hb); all_goals (intros; apply hK'; clear hK' K')) | ((first | refine call_N r08land_con (fun _ => rfl) ?_); push_cast; (repeat' refine And.intro ?_ ?_); all_goals (first | (apply hK'; clear hK' K') | (intros; apply hK'; clear hK' K') | (clear hK' K'; first | omega | skip))) | (clear hK' K'; first | omega | skip))))
    | (refine goS_hid rfl rfl rfl rfl ?_ ?_; rotate_left; focus (intro K' hK'; push_cast; (repeat' refine And.intro ?_ ?_); all_goals (first | (refine hK' _ _ _ _ _ (by push_cast) (by push_cast; first | done | rfl) ?_; clear hK' K') | ((first | refine call_N r08land_con (fun _ => rfl) ?_); push_cast; (repeat' refine And.intro ?_ ?_); all_goals (first | (refine hK' _ _ _ _ _ (by push_cast) (by push_cast; first | done | rfl) ?_; clear hK' K') | (intros; refine hK' _ _ _ _ _ (by push_cast) (by push_cast; first | done | rfl) ?_; clear hK' K') | (clear hK' K'; first | omega | skip))) | (clear hK' K'; first | omega | skip))))
    | (refine goA_gt rfl rfl rfl rfl (by push_cast; first | done | rfl) ?_)
    | (refine goA_gb rfl rfl rfl rfl (by push_cast; first | done | rfl) ?_ ?_; focus (intro hc; (try push_cast at hc); all_goals (intro K' hK'; push_cast; (repeat' refine And.intro ?_ ?_); all_goals (first | (apply hK'; clear hK' K') | (refine ⟨trivial, trivial, ?_⟩; apply hK'; clear hK' K') | (intro hb; (try push_cast at hb); all_goals (intros; apply hK'; clear hK' K')) | ((first | refine call_N r08land_con (fun _ => rfl) ?_); push_cast; (repeat' refine And.intro ?_ ?_); all_goals (first | (apply hK'; clear hK' K') | (intros; apply hK'; clear hK' K') | (clear hK' K'; first | omega | skip))) | (clear hK' K'; first | omega | skip)))))
    | (intro hc; (try push_cast at hc)))
      · omega
      · omega
      · have : i = d.Queue.length := by omega
        subst this
        simp [dPower]
theorem r08Power_con : Con Cx.P 45 (.pair rR08Disk (.pair (.slice (.int .i64)) (.unit))) (fun x => (fun (d : R08Disk) (keep : List Int) => d.Base.length ≤ 4096 ∧ (∀ x ∈ d.Queue, 0 ≤ x.To ∧ x.To < d.Base.length)) x.1 x.2.1) (fun x => (fun (d : R08Disk) (keep : List Int) => [.dat rR08Disk (dPower d keep)]) x.1 x.2.1) := ⟨isfn45, fun x h => r08Power_fn x.1 x.2.1 h⟩
end Go.Proofs.Ytnmjcdlgfimnaaa
