/- The disk: what is on its way arrives. -/
import Derived.Test.YtnmjcdlgfimnaaaDm
import Derived.Test.YtnmjcdlgfimnaaaL8m
import Derived.Test.YtnmjcdlgfimnaaaFzb
namespace Go.Proofs.Ytnmjcdlgfimnaaa
set_option linter.unusedSimpArgs false
set_option linter.unusedVariables false
set_option maxRecDepth 20000
attribute [local irreducible] vcOps vcCode vcA vcSch Wc
set_option maxHeartbeats 8000000
theorem flush1_fn (k : Int) : Pure Cx.P 83 [.int .i64 k] [.int .i64 64] := by
  refine Pure.go2 (E := Cx.env) (fn := Try.f83) (res := [_]) Try.func83 isfn83 rfl rfl rfl (by kernel_rfl) rfl ?_
  push_cast
  try intro hf
  repeat' (first
    | apply go_seq | apply go_block | apply go_region | apply go_skip | apply go_exit | apply go_label | apply go_ret
    | apply seqK_n | apply seqK_x | apply seqK_r | apply blockK_n | apply blockK_r | apply blockK_hit | apply blockK_miss rfl | apply loopK_x | apply loopK_r | apply regK_go | apply finK_n | apply finK_r
    | (refine vres_go ?_; push_cast) | apply ops_nil | refine ops_in (w_i64 _ (by omega) (by omega)) ?_ | refine ops_in (w_u8 _ (by omega) (by omega)) ?_ | refine ops_in (w_u32 _ (by omega) (by omega)) ?_ | refine ops_in (w_u64 _ (by omega) (by omega)) ?_
    | (refine ops_put rfl rfl ?_; intro K' hK'; push_cast; (repeat' refine And.intro ?_ ?_); all_goals (first | (apply hK'; clear hK' K') | (refine ⟨trivial, trivial, ?_⟩; apply hK'; clear hK' K') | (intro hb; (try push_cast at hb); all_goals (intros; apply hK'; clear hK' K')) | (clear hK' K'; first | omega | skip)))
    | (refine ops_no rfl rfl ?_; intro K' hK'; push_cast; (repeat' refine And.intro ?_ ?_); all_goals (first | (apply hK'; clear hK' K') | (refine ⟨trivial, trivial, ?_⟩; apply hK'; clear hK' K') | (intro hb; (try push_cast at hb); all_goals (intros; apply hK'; clear hK' K')) | (clear hK' K'; first | omega | skip)))
    | (refine go_cond (by push_cast; first | done | rfl) ?_ ?_ <;> intro hc <;> (try push_cast at hc))
    | (refine ops_gt rfl rfl rfl (by push_cast; first | done | rfl) ?_)
    | (refine ops_gb rfl rfl rfl (by push_cast; first | done | rfl) ?_ ?_; focus (intro hc; (try push_cast at hc); all_goals (intro K' hK'; push_cast; (repeat' refine And.intro ?_ ?_); all_goals (first | (apply hK'; clear hK' K') | (refine ⟨trivial, trivial, ?_⟩; apply hK'; clear hK' K') | (intro hb; (try push_cast at hb); all_goals (intros; apply hK'; clear hK' K')) | (clear hK' K'; first | omega | skip)))))
    | (intro hc; (try push_cast at hc)))
theorem flush1_con : Con Cx.P 83 (.pair (.int .i64) (.unit)) (fun x => (fun (k : Int) => True) x.1) (fun x => (fun (k : Int) => [.int .i64 64]) x.1) := ⟨isfn83, fun x h => flush1_fn x.1⟩
theorem power1_con : ConC Cx.P 84 (.pair (.int .i64) .unit) (.pair (.slice (.int .i64)) .unit) (fun x _ => 0 ≤ x.1) (fun x y => [.int .i64 (keepAt y.1 x.1.toNat)]) := by
  refine ⟨isfn84, ?_⟩
  rintro ⟨k, _⟩ ⟨keep, _⟩ hk
  refine Spec.go2 (E := Cx.env) (fn := Try.f84) (res := [_]) _ (Opens.refl _) Try.func84 isfn84 rfl rfl (by simp [idsV, SV.ids, LV.ids, Rep.argL, Rep.leaf, capPtr]) (by simp [idsM, Rep.argL, Rep.leaf, capMem]) (by kernel_rfl) rfl ?_
  intro hf
  try push_cast at hf
  try push_cast at hk
  intro _
  push_cast
  repeat' (first
    | apply go_seq | apply go_block | apply go_region | apply go_skip | apply go_exit | apply go_label | apply go_ret
    | apply seqK_n | apply seqK_x | apply seqK_r | apply blockK_n | apply blockK_r | apply blockK_hit | apply blockK_miss rfl | apply loopK_x | apply loopK_r | apply regK_go | apply finK_n | apply finK_r
    | (refine vres_go ?_; push_cast) | apply ops_nil | refine ops_in (w_i64 _ (by omega) (by omega)) ?_ | refine ops_in (w_u8 _ (by omega) (by omega)) ?_ | refine ops_in (w_u32 _ (by omega) (by omega)) ?_ | refine ops_in (w_u64 _ (by omega) (by omega)) ?_
    | (refine ops_put rfl rfl ?_; intro K' hK'; push_cast; (repeat' refine And.intro ?_ ?_); all_goals (first | (apply hK'; clear hK' K') | (refine ⟨trivial, trivial, ?_⟩; apply hK'; clear hK' K') | (intro hb; (try push_cast at hb); all_goals (intros; apply hK'; clear hK' K')) | (clear hK' K'; first | omega | skip)))
    | (refine ops_no rfl rfl ?_; intro K' hK'; push_cast; (repeat' refine And.intro ?_ ?_); all_goals (first | (apply hK'; clear hK' K') | (refine ⟨trivial, trivial, ?_⟩; apply hK'; clear hK' K') | (intro hb; (try push_cast at hb); all_goals (intros; apply hK'; clear hK' K')) | (clear hK' K'; first | omega | skip)))
    | (refine go_cond (by push_cast; first | done | rfl) ?_ ?_ <;> intro hc <;> (try push_cast at hc))
    | (refine ops_gt rfl rfl rfl (by push_cast; first | done | rfl) ?_)
    | (refine ops_gb rfl rfl rfl (by push_cast; first | done | rfl) ?_ ?_; focus (intro hc; (try push_cast at hc); all_goals (intro K' hK'; push_cast; (repeat' refine And.intro ?_ ?_); all_goals (first | (apply hK'; clear hK' K') | (refine ⟨trivial, trivial, ?_⟩; apply hK'; clear hK' K') | (intro hb; (try push_cast at hb); all_goals (intros; apply hK'; clear hK' K')) | (clear hK' K'; first | omega | skip)))))
    | (intro hc; (try push_cast at hc)))
  · have e : keepAt keep k.toNat = 0 := by
      unfold keepAt
      rw [List.getD_eq_getElem?_getD, List.getElem?_eq_none (by omega)]; rfl
    rw [e]
    (refine Fin2.fin ⟨[(1, .segs [.dat (.slice (.int .i64)) keep])], ?_, ?_, ?_, Closes.refl _, ?_⟩
     · push_cast
     · push_cast
     · simp [idsM]
     · simp [tvL, TV.ids, SV.ids, LV.ids, idsV])
  · have e : keepAt keep k.toNat = keep.getD k.toNat 0 := rfl
    rw [e]
    (refine Fin2.fin ⟨[(1, .segs [.dat (.slice (.int .i64)) keep])], ?_, ?_, ?_, Closes.refl _, ?_⟩
     · push_cast
     · push_cast
     · simp [idsM]
     · simp [tvL, TV.ids, SV.ids, LV.ids, idsV])
theorem arriveF_fn (D : R08Disk) : Spec Cx.P 82 [.l (.ptr 1 [] 0), .l (.clo 83 [])] [(1, .obj DiskO D)] (tvL []) [(1, .obj DiskO ⟨landAll (fun _ => 64) 0 D.Queue D.Base, [], D.Burns, D.Dead⟩)] := by
  refine Spec.go2 (E := Cx.env) (fn := Try.f82) (res := []) _ (open_disk D [] (by simp [idsM]) (by simp)) Try.func82 isfn82 rfl rfl (by simp [idsV, SV.ids, LV.ids]) (by simp [idsM]) (by kernel_rfl) rfl ?_
  intro hf
  try push_cast at hf
  rintro ⟨⟨V, M, way, acts, size, dead⟩, ⟨hwf, h1, h2, ha, hr, h3⟩⟩
  simp only at h1 h2 ha hr h3
  subst h1 h2 h3
  have hbu := hwf.burns
  have htk := tks_len D.Queue []
  have hqn := hwf.qn
  rcases acts with _ | n
  all_goals
    simp only [mmD, parSl, idsM, List.map_cons, List.map_nil, List.cons_append, List.nil_append]
    repeat' (first
    | apply go_seq | apply go_block | apply go_region | apply go_skip | apply go_exit | apply go_label | apply go_ret
    | apply seqK_n | apply seqK_x | apply seqK_r | apply blockK_n | apply blockK_r | apply blockK_hit | apply blockK_miss rfl | apply loopK_x | apply loopK_r | apply regK_go | apply finK_n | apply finK_r
    | (refine vres_go ?_; push_cast) | apply ops_nil | refine ops_in (w_i64 _ (by omega) (by omega)) ?_ | refine ops_in (w_u8 _ (by omega) (by omega)) ?_ | refine ops_in (w_u32 _ (by omega) (by omega)) ?_ | refine ops_in (w_u64 _ (by omega) (by omega)) ?_
    | (refine ops_put rfl rfl ?_; intro K' hK'; push_cast; (repeat' refine And.intro ?_ ?_); all_goals (first | (apply hK'; clear hK' K') | (refine ⟨trivial, trivial, ?_⟩; apply hK'; clear hK' K') | (intro hb; (try push_cast at hb); all_goals (intros; apply hK'; clear hK' K')) | (clear hK' K'; first | omega | skip)))
    | (refine ops_no rfl rfl ?_; intro K' hK'; push_cast; (repeat' refine And.intro ?_ ?_); all_goals (first | (apply hK'; clear hK' K') | (refine ⟨trivial, trivial, ?_⟩; apply hK'; clear hK' K') | (intro hb; (try push_cast at hb); all_goals (intros; apply hK'; clear hK' K')) | (clear hK' K'; first | omega | skip)))
    | (refine go_cond (by push_cast; first | done | rfl) ?_ ?_ <;> intro hc <;> (try push_cast at hc))
    | (refine ops_gt rfl rfl rfl (by push_cast; first | done | rfl) ?_)
    | (refine ops_gb rfl rfl rfl (by push_cast; first | done | rfl) ?_ ?_; focus (intro hc; (try push_cast at hc); all_goals (intro K' hK'; push_cast; (repeat' refine And.intro ?_ ?_); all_goals (first | (apply hK'; clear hK' K') | (refine ⟨trivial, trivial, ?_⟩; apply hK'; clear hK' K') | (intro hb; (try push_cast at hb); all_goals (intros; apply hK'; clear hK' K')) | (clear hK' K'; first | omega | skip)))))
    | refine go_draw (id := 3) [0, 1, 2, 3, 4, 5] [6] [0, 5] (.or 6 (.free 7 (.done)) (.stop)) wide (by kernel_rfl) ?_
    | refine go_draw (id := 5) [0, 2, 3, 4, 5, 6, 7, 9, 10, 11, 12] [17] [5, 31] (.or 1 (.or 8 (.or 13 (.free 14 (.or 15 (.free 16 (.or 17 (.done) (.stop))) (.stop))) (.stop)) (.stop)) (.stop)) wide (by kernel_rfl) ?_
    | refine go_draw (id := 10) [0, 1, 2, 3, 4, 5, 6, 7, 8, 9, 10, 11] [14] [0, 9] (.or 12 (.free 13 (.or 14 (.done) (.stop))) (.stop)) wide (by kernel_rfl) ?_
    | apply goA_nil | apply goS_done | apply goS_stop
    | (refine goA_put rfl rfl rfl ?_; intro K' hK'; push_cast; (repeat' refine And.intro ?_ ?_); all_goals (first | (apply hK'; clear hK' K') | (refine ⟨trivial, trivial, ?_⟩; apply hK'; clear hK' K') | (intro hb; (try push_cast at hb); all_goals (intros; apply hK'; clear hK' K')) | (clear hK' K'; first | omega | skip)))
    | (refine goS_free rfl rfl rfl ?_; intro K' hK'; push_cast; (repeat' refine And.intro ?_ ?_); all_goals (first | (apply hK'; clear hK' K') | (refine ⟨trivial, trivial, ?_⟩; apply hK'; clear hK' K') | (intro hb; (try push_cast at hb); all_goals (intros; apply hK'; clear hK' K')) | (clear hK' K'; first | omega | skip)))
    | (refine goS_late rfl rfl rfl rfl ?_ ?_; rotate_left; focus (intro K' hK'; push_cast; (repeat' refine And.intro ?_ ?_); all_goals (first | (apply hK'; clear hK' K') | (refine ⟨trivial, trivial, ?_⟩; apply hK'; clear hK' K') | (intro hb; (try push_cast at hb); all_goals (intros; apply hK'; clear hK' K')) | (clear hK' K'; first | omega | skip))))
    | (refine goS_late' rfl rfl rfl rfl ?_ ?_; rotate_left; focus (intro K' hK'; push_cast; (repeat' refine And.intro ?_ ?_); all_goals (first | (apply hK'; clear hK' K') | (refine ⟨trivial, trivial, ?_⟩; apply hK'; clear hK' K') | (intro hb; (try push_cast at hb); all_goals (intros; apply hK'; clear hK' K')) | (clear hK' K'; first | omega | skip))))
    | (refine goS_hid rfl rfl rfl rfl ?_ ?_; rotate_left; focus (intro K' hK'; push_cast; (repeat' refine And.intro ?_ ?_); all_goals (first | (refine hK' _ _ _ _ _ (by push_cast) (by push_cast; first | done | rfl) ?_; clear hK' K') | (clear hK' K'; first | omega | skip))))
    | (refine goA_gt rfl rfl rfl rfl (by push_cast; first | done | rfl) ?_)
    | (refine goA_gb rfl rfl rfl rfl (by push_cast; first | done | rfl) ?_ ?_; focus (intro hc; (try push_cast at hc); all_goals (intro K' hK'; push_cast; (repeat' refine And.intro ?_ ?_); all_goals (first | (apply hK'; clear hK' K') | (refine ⟨trivial, trivial, ?_⟩; apply hK'; clear hK' K') | (intro hb; (try push_cast at hb); all_goals (intros; apply hK'; clear hK' K')) | (clear hK' K'; first | omega | skip)))))
    | (intro hc; (try push_cast at hc)))
    refine go_loop2 [4, 5, 6, 7, 15, 16, 17, 18, 19, 20, 21, 22, 23, 24, 25, 26, 27, 28, 29, 30, 31, 32, 33, 34, 35, 36, 37, 38, 39, 40, 41, 42, 43, 44, 45, 46, 47, 48, 49] [5, 29, 30, 31, 33, 40, 45, 9001] (fun (i : Nat) => i ≤ D.Queue.length) (fun (i : Nat) => [(15, .one (.l (.int .i64 i)))]) (fun (i : Nat) => [(9001, .mpr (.arr 64 (.int .u8)) (MA M (landAll (fun _ => 64) 0 (D.Queue.take i) D.Base)) V none)]) (fun (i : Nat) => D.Queue.length - i) 0 ?_ (by push_cast; first | done | rfl) (by push_cast; first | done | rfl) ?_ ?_
    · omega
    · simp only [List.take_zero, landAll, MA_self hr]
      push_cast
    · intro i hi
      push_cast
      intro hg
      have hwy := way_facts (B := landAll (fun _ => 64) 0 (D.Queue.take i) D.Base) hr i
      repeat' (first
    | apply go_seq | apply go_block | apply go_region | apply go_skip | apply go_exit | apply go_label | apply go_ret
    | apply seqK_n | apply seqK_x | apply seqK_r | apply blockK_n | apply blockK_r | apply blockK_hit | apply blockK_miss rfl | apply loopK_x | apply loopK_r | (refine regK_open rfl (by push_cast; first | done | rfl) rfl (by push_cast) (by push_cast; first | done | rfl) (by push_cast; first | done | rfl) ?_) | apply regK_go | apply finK_n | apply finK_r
    | (refine vres_go ?_; push_cast) | apply ops_nil | refine ops_in (w_i64 _ (by omega) (by omega)) ?_ | refine ops_in (w_u8 _ (by omega) (by omega)) ?_ | refine ops_in (w_u32 _ (by omega) (by omega)) ?_ | refine ops_in (w_u64 _ (by omega) (by omega)) ?_
    | (refine ops_put rfl rfl ?_; intro K' hK'; push_cast; (repeat' refine And.intro ?_ ?_); all_goals (first | (apply hK'; clear hK' K') | (refine ⟨trivial, trivial, ?_⟩; apply hK'; clear hK' K') | (intro hb; (try push_cast at hb); all_goals (intros; apply hK'; clear hK' K')) | ((first | refine call_F flush1_con (fun _ => rfl) ?_); push_cast; (repeat' refine And.intro ?_ ?_); all_goals (first | (apply hK'; clear hK' K') | (intros; apply hK'; clear hK' K') | (clear hK' K'; first | omega | skip))) | (clear hK' K'; first | omega | skip)))
    | (refine ops_no rfl rfl ?_; intro K' hK'; push_cast; (repeat' refine And.intro ?_ ?_); all_goals (first | (apply hK'; clear hK' K') | (refine ⟨trivial, trivial, ?_⟩; apply hK'; clear hK' K') | (intro hb; (try push_cast at hb); all_goals (intros; apply hK'; clear hK' K')) | ((first | refine call_F flush1_con (fun _ => rfl) ?_); push_cast; (repeat' refine And.intro ?_ ?_); all_goals (first | (apply hK'; clear hK' K') | (intros; apply hK'; clear hK' K') | (clear hK' K'; first | omega | skip))) | (clear hK' K'; first | omega | skip)))
    | (refine go_cond (by push_cast; first | done | rfl) ?_ ?_ <;> intro hc <;> (try push_cast at hc))
    | (refine ops_gt rfl rfl rfl (by push_cast; first | done | rfl) ?_)
    | (refine ops_gb rfl rfl rfl (by push_cast; first | done | rfl) ?_ ?_; focus (intro hc; (try push_cast at hc); all_goals (intro K' hK'; push_cast; (repeat' refine And.intro ?_ ?_); all_goals (first | (apply hK'; clear hK' K') | (refine ⟨trivial, trivial, ?_⟩; apply hK'; clear hK' K') | (intro hb; (try push_cast at hb); all_goals (intros; apply hK'; clear hK' K')) | ((first | refine call_F flush1_con (fun _ => rfl) ?_); push_cast; (repeat' refine And.intro ?_ ?_); all_goals (first | (apply hK'; clear hK' K') | (intros; apply hK'; clear hK' K') | (clear hK' K'; first | omega | skip))) | (clear hK' K'; first | omega | skip)))))
    | refine go_draw (id := 3) [0, 1, 2, 3, 4, 5] [6] [1, 5] (.or 6 (.free 7 (.done)) (.stop)) wide (by kernel_rfl) ?_
    | refine go_draw (id := 5) [0, 2, 3, 4, 6, 9, 11] [17] [5] (.free 5 (.free 7 (.free 10 (.free 12 (.or 1 (.or 8 (.or 13 (.free 14 (.or 15 (.free 16 (.or 17 (.done) (.stop))) (.stop))) (.stop)) (.stop)) (.stop)))))) wide (by kernel_rfl) ?_
    | refine go_draw (id := 10) [0, 1, 2, 3, 4, 5, 6, 7, 8, 9, 10, 11] [14] [1, 9] (.or 12 (.free 13 (.or 14 (.done) (.stop))) (.stop)) wide (by kernel_rfl) ?_
    | apply goA_nil | apply goS_done | apply goS_stop
    | (refine goA_put rfl rfl rfl ?_; intro K' hK'; push_cast; (repeat' refine And.intro ?_ ?_); all_goals (first | (apply hK'; clear hK' K') | (refine ⟨trivial, trivial, ?_⟩; apply hK'; clear hK' K') | (intro hb; (try push_cast at hb); all_goals (intros; apply hK'; clear hK' K')) | ((first | refine call_F flush1_con (fun _ => rfl) ?_); push_cast; (repeat' refine And.intro ?_ ?_); all_goals (first | (apply hK'; clear hK' K') | (intros; apply hK'; clear hK' K') | (clear hK' K'; first | omega | skip))) | (clear hK' K'; first | omega | skip)))
    | (refine goS_free rfl rfl rfl ?_; intro K' hK'; push_cast; (repeat' refine And.intro ?_ ?_); all_goals (first | (apply hK'; clear hK' K') | (refine ⟨trivial, trivial, ?_⟩; apply hK'; clear hK' K') | (intro hb; (try push_cast at hb); all_goals (intros; apply hK'; clear hK' K')) | ((first | refine call_F flush1_con (fun _ => rfl) ?_); push_cast; (repeat' refine And.intro ?_ ?_); all_goals (first | (apply hK'; clear hK' K') | (intros; apply hK'; clear hK' K') | (clear hK' K'; first | omega | skip))) | (clear hK' K'; first | omega | skip)))
    | (refine goS_late rfl rfl rfl rfl ?_ ?_; rotate_left; focus (intro K' hK'; push_cast; (repeat' refine And.intro ?_ ?_); all_goals (first | (apply hK'; clear hK' K') | (refine ⟨trivial, trivial, ?_⟩; apply hK'; clear hK' K') | (intro hb; (try push_cast at hb); all_goals (intros; apply hK'; clear hK' K')) | ((first | refine call_F flush1_con (fun _ => rfl) ?_); push_cast; (repeat' refine And.intro ?_ ?_); all_goals (first | (apply hK'; clear hK' K') | (intros; apply hK'; clear hK' K') | (clear hK' K'; first | omega | skip))) | (clear hK' K'; first | omega | skip))))
    | (refine goS_late' rfl rfl rfl rfl ?_ ?_; rotate_left; focus (intro K' hK'; push_cast; (repeat' refine And.intro ?_ ?_); all_goals (first | (apply hK'; clear hK' K') | (refine ⟨trivial, trivial, ?_⟩; apply hK'; clear hK' K') | (intro hb; (try push_cast at hb); all_goals (intros; apply hK'; clear hK' K')) | ((first | refine call_F flush1_con (fun _ => rfl) ?_); push_cast; (repeat' refine And.intro ?_ ?_); all_goals (first | (apply hK'; clear hK' K') | (intros; apply hK'; clear hK' K') | (clear hK' K'; first | omega | skip))) | (clear hK' K'; first | omega | skip))))
    | (refine goS_hid rfl rfl rfl rfl ?_ ?_; rotate_left; focus (intro K' hK'; push_cast; (repeat' refine And.intro ?_ ?_); all_goals (first | (refine hK' _ _ _ _ _ (by push_cast) (by push_cast; first | done | rfl) ?_; clear hK' K') | ((first | refine call_F flush1_con (fun _ => rfl) ?_); push_cast; (repeat' refine And.intro ?_ ?_); all_goals (first | (refine hK' _ _ _ _ _ (by push_cast) (by push_cast; first | done | rfl) ?_; clear hK' K') | (intros; refine hK' _ _ _ _ _ (by push_cast) (by push_cast; first | done | rfl) ?_; clear hK' K') | (clear hK' K'; first | omega | skip))) | (clear hK' K'; first | omega | skip))))
    | (refine goA_gt rfl rfl rfl rfl (by push_cast; first | done | rfl) ?_)
    | (refine goA_gb rfl rfl rfl rfl (by push_cast; first | done | rfl) ?_ ?_; focus (intro hc; (try push_cast at hc); all_goals (intro K' hK'; push_cast; (repeat' refine And.intro ?_ ?_); all_goals (first | (apply hK'; clear hK' K') | (refine ⟨trivial, trivial, ?_⟩; apply hK'; clear hK' K') | (intro hb; (try push_cast at hb); all_goals (intros; apply hK'; clear hK' K')) | ((first | refine call_F flush1_con (fun _ => rfl) ?_); push_cast; (repeat' refine And.intro ?_ ?_); all_goals (first | (apply hK'; clear hK' K') | (intros; apply hK'; clear hK' K') | (clear hK' K'; first | omega | skip))) | (clear hK' K'; first | omega | skip)))))
    | (intro hc; (try push_cast at hc)))
      all_goals
        first
        | (have hlt : i < D.Queue.length := by omega
           have hm : D.Queue.getD i ⟨repl 64 0, 0⟩ ∈ D.Queue := getD_mem _ _ _ hlt
           have hq := hwf.qs _ hm
           have hB := landAll_len (fun _ => 64) 0 (D.Queue.take i) D.Base
           have hb : ((landAll (fun _ => 64) 0 (D.Queue.take i) D.Base).getD (D.Queue.getD i ⟨repl 64 0, 0⟩).To.toNat []).length = 64 := landAll_sec hwf.sec (fun x hx => hwf.qs x (List.mem_of_mem_take hx)) _ (getD_mem _ _ _ (by omega))
           simp only [Int.zero_add, way_at hr i hlt, way_0 hr i hlt, List.length_take, List.length_drop, List.length_append, hb, hq.1]
           omega)
        | skip
      · have hlt : i < D.Queue.length := by omega
        have hm : D.Queue.getD i ⟨repl 64 0, 0⟩ ∈ D.Queue := getD_mem _ _ _ hlt
        have hq := hwf.qs _ hm
        have hB := landAll_len (fun _ => 64) 0 (D.Queue.take i) D.Base
        have hb : ((landAll (fun _ => 64) 0 (D.Queue.take i) D.Base).getD (D.Queue.getD i ⟨repl 64 0, 0⟩).To.toNat []).length = 64 := landAll_sec hwf.sec (fun x hx => hwf.qs x (List.mem_of_mem_take hx)) _ (getD_mem _ _ _ (by omega))
        apply loopK_row 9001 6006 (j := i + 1)
        · (push_cast; first | done | rfl)
        · (push_cast; first | done | rfl)
        · show i + 1 ≤ D.Queue.length; omega
        · show D.Queue.length - (i + 1) < D.Queue.length - i; omega
        push_cast
        congr 1
        rw [take_succ_getD _ _ ⟨repl 64 0, 0⟩ hlt, landAll_snoc, Int.zero_add, way_at hr i hlt, way_0 hr i hlt, tks_to _ _ hlt]
        refine MA_upd hr hm hq.2.1 (by omega) _ _ ?_
        exact mix_at _ _ hb hq.1 64
      · have e : i = D.Queue.length := by omega
        subst e
        rw [List.take_length]
        generalize hB : landAll (fun _ => 64) 0 D.Queue D.Base = B
        refine go_loop2 [9, 55, 56, 57, 58, 59, 60, 61, 62, 63, 64, 65, 66, 67, 68, 69, 70, 71, 72, 73] [9, 9001] (fun (p : Nat × (Int → Value)) => p.1 ≤ D.Queue.length) (fun (p : Nat × (Int → Value)) => [(55, .one (.l (.int .i64 p.1)))]) (fun (p : Nat × (Int → Value)) => [(9001, .mpr (.arr 64 (.int .u8)) (MB (MA M B) D.Queue p.1) p.2 none)]) (fun (p : Nat × (Int → Value)) => D.Queue.length - p.1) (0, V) ?_ (by push_cast; first | done | rfl) (by push_cast; first | done | rfl) ?_ ?_
        · omega
        · simp only [MB_zero]
          push_cast
        · rintro ⟨j, V2⟩ hj
          push_cast at hj
          push_cast
          intro hg2
          have hwy2 := MB_pos (B := B) hr j j
          repeat' (first
    | apply go_seq | apply go_block | apply go_region | apply go_skip | apply go_exit | apply go_label | apply go_ret
    | apply seqK_n | apply seqK_x | apply seqK_r | apply blockK_n | apply blockK_r | apply blockK_hit | apply blockK_miss rfl | apply loopK_x | apply loopK_r | apply regK_go | apply finK_n | apply finK_r
    | (refine vres_go ?_; push_cast) | apply ops_nil | refine ops_in (w_i64 _ (by omega) (by omega)) ?_ | refine ops_in (w_u8 _ (by omega) (by omega)) ?_ | refine ops_in (w_u32 _ (by omega) (by omega)) ?_ | refine ops_in (w_u64 _ (by omega) (by omega)) ?_
    | (refine ops_put rfl rfl ?_; intro K' hK'; push_cast; (repeat' refine And.intro ?_ ?_); all_goals (first | (apply hK'; clear hK' K') | (refine ⟨trivial, trivial, ?_⟩; apply hK'; clear hK' K') | (intro hb; (try push_cast at hb); all_goals (intros; apply hK'; clear hK' K')) | (clear hK' K'; first | omega | skip)))
    | (refine ops_no rfl rfl ?_; intro K' hK'; push_cast; (repeat' refine And.intro ?_ ?_); all_goals (first | (apply hK'; clear hK' K') | (refine ⟨trivial, trivial, ?_⟩; apply hK'; clear hK' K') | (intro hb; (try push_cast at hb); all_goals (intros; apply hK'; clear hK' K')) | (clear hK' K'; first | omega | skip)))
    | (refine go_cond (by push_cast; first | done | rfl) ?_ ?_ <;> intro hc <;> (try push_cast at hc))
    | (refine ops_gt rfl rfl rfl (by push_cast; first | done | rfl) ?_)
    | (refine ops_gb rfl rfl rfl (by push_cast; first | done | rfl) ?_ ?_; focus (intro hc; (try push_cast at hc); all_goals (intro K' hK'; push_cast; (repeat' refine And.intro ?_ ?_); all_goals (first | (apply hK'; clear hK' K') | (refine ⟨trivial, trivial, ?_⟩; apply hK'; clear hK' K') | (intro hb; (try push_cast at hb); all_goals (intros; apply hK'; clear hK' K')) | (clear hK' K'; first | omega | skip)))))
    | refine go_draw (id := 3) [0, 1, 2, 3, 4, 5] [6] [1, 5] (.or 6 (.free 7 (.done)) (.stop)) wide (by kernel_rfl) ?_
    | refine go_draw (id := 5) [0, 2, 3, 4, 5, 6, 7, 9, 10, 11, 12] [17] [5, 31] (.or 1 (.or 8 (.or 13 (.free 14 (.or 15 (.free 16 (.or 17 (.done) (.stop))) (.stop))) (.stop)) (.stop)) (.stop)) wide (by kernel_rfl) ?_
    | refine go_draw (id := 10) [0, 1, 2, 3, 4, 5, 6, 7, 8, 9, 10, 11] [14] [1, 9] (.or 12 (.free 13 (.or 14 (.done) (.stop))) (.stop)) wide (by kernel_rfl) ?_
    | apply goA_nil | apply goS_done | apply goS_stop
    | (refine goA_put rfl rfl rfl ?_; intro K' hK'; push_cast; (repeat' refine And.intro ?_ ?_); all_goals (first | (apply hK'; clear hK' K') | (refine ⟨trivial, trivial, ?_⟩; apply hK'; clear hK' K') | (intro hb; (try push_cast at hb); all_goals (intros; apply hK'; clear hK' K')) | (clear hK' K'; first | omega | skip)))
    | (refine goS_free rfl rfl rfl ?_; intro K' hK'; push_cast; (repeat' refine And.intro ?_ ?_); all_goals (first | (apply hK'; clear hK' K') | (refine ⟨trivial, trivial, ?_⟩; apply hK'; clear hK' K') | (intro hb; (try push_cast at hb); all_goals (intros; apply hK'; clear hK' K')) | (clear hK' K'; first | omega | skip)))
    | (refine goS_late rfl rfl rfl rfl ?_ ?_; rotate_left; focus (intro K' hK'; push_cast; (repeat' refine And.intro ?_ ?_); all_goals (first | (apply hK'; clear hK' K') | (refine ⟨trivial, trivial, ?_⟩; apply hK'; clear hK' K') | (intro hb; (try push_cast at hb); all_goals (intros; apply hK'; clear hK' K')) | (clear hK' K'; first | omega | skip))))
    | (refine goS_late' rfl rfl rfl rfl ?_ ?_; rotate_left; focus (intro K' hK'; push_cast; (repeat' refine And.intro ?_ ?_); all_goals (first | (apply hK'; clear hK' K') | (refine ⟨trivial, trivial, ?_⟩; apply hK'; clear hK' K') | (intro hb; (try push_cast at hb); all_goals (intros; apply hK'; clear hK' K')) | (clear hK' K'; first | omega | skip))))
    | (refine goS_hid rfl rfl rfl rfl ?_ ?_; rotate_left; focus (intro K' hK'; push_cast; (repeat' refine And.intro ?_ ?_); all_goals (first | (refine hK' _ _ _ _ _ (by push_cast) (by push_cast; first | done | rfl) ?_; clear hK' K') | (clear hK' K'; first | omega | skip))))
    | (refine goA_gt rfl rfl rfl rfl (by push_cast; first | done | rfl) ?_)
    | (refine goA_gb rfl rfl rfl rfl (by push_cast; first | done | rfl) ?_ ?_; focus (intro hc; (try push_cast at hc); all_goals (intro K' hK'; push_cast; (repeat' refine And.intro ?_ ?_); all_goals (first | (apply hK'; clear hK' K') | (refine ⟨trivial, trivial, ?_⟩; apply hK'; clear hK' K') | (intro hb; (try push_cast at hb); all_goals (intros; apply hK'; clear hK' K')) | (clear hK' K'; first | omega | skip)))))
    | (intro hc; (try push_cast at hc)))
          · have hlt : j < D.Queue.length := by omega
            refine loopK_m (j + 1, ‹Int → Value›) (by push_cast; omega) (by push_cast; omega) ?_
            push_cast
            congr 1
            rw [tks_to _ _ hlt]
            exact MB_succ _ _ _ hlt
          · have e : j = D.Queue.length := by omega
            subst e
            have hend : RowsOk B [] (MB (MA M B) D.Queue D.Queue.length) := hB ▸ rows_end hr hwf (fun _ => 64)
            have hwe : DWf ⟨B, [], D.Burns, D.Dead⟩ := hB ▸ DWf_arr hwf (fun _ => 64)
            have hbl : B.length = D.Base.length := hB ▸ landAll_len (fun _ => 64) 0 D.Queue D.Base
            first
            | (refine fin_cut0 (way := tks [] D.Queue) (V := V2) (M := MB (MA M B) D.Queue D.Queue.length) (size := D.Base.length) (dead := D.Dead) (rest := []) ⟨hwe, by rw [← hbl], rfl, ha, hend, rfl⟩ ?_ ?_ ?_ ?_ ?_ ?_; (focus (push_cast; done)); (focus (push_cast; done)); (focus (push_cast; done)); (focus (simp; done)); (focus (push_cast; done)); (focus (simp [tvL, TV.ids, SV.ids, LV.ids, idsV]; done)))
            | (refine fin_cut1 (n := n) (way := tks [] D.Queue) (V := V2) (M := MB (MA M B) D.Queue D.Queue.length) (size := D.Base.length) (dead := D.Dead) (rest := []) ⟨hwe, by rw [← hbl], rfl, ha, hend, rfl⟩ ?_ ?_ ?_ ?_ ?_ ?_; (focus (push_cast; done)); (focus (push_cast; done)); (focus (push_cast; done)); (focus (simp; done)); (focus (push_cast; done)); (focus (simp [tvL, TV.ids, SV.ids, LV.ids, idsV]; done)))
end Go.Proofs.Ytnmjcdlgfimnaaa
