/- Chapter 9's statements: what is written is read. -/
import Derived.Test.YtnmjcdlgfimnaaaL9a
namespace Go.Proofs.Ytnmjcdlgfimnaaa
set_option linter.unusedSimpArgs false
set_option linter.unusedVariables false
set_option maxRecDepth 20000
attribute [local irreducible] vcOps vcCode vcA vcSch Wc
set_option maxHeartbeats 8000000
theorem turn_ne {s : List Int} (h : s.length = 64) {i : Int} (h0 : 0 ≤ i) (h1 : i ≤ 63) : s.set i.toNat (IntKind.u8.wrap (s.getD i.toNat 0 + 1)) ≠ s := by
  intro e
  have := congrArg (fun l => l.getD i.toNat 0) e
  simp only [List.getD_eq_getElem?_getD] at this
  rw [List.getElem?_set_self (by omega), wrap_u8, List.getElem?_eq_getElem (by omega)] at this
  simp only [Option.getD_some] at this
  omega
theorem toBytes_inj : ∀ {l m : List Int}, (∀ x ∈ l, 0 ≤ x ∧ x ≤ 255) → (∀ x ∈ m, 0 ≤ x ∧ x ≤ 255) → toBytes l = toBytes m → l = m
  | [], [], _, _, _ => rfl
  | [], _ :: _, _, _, h => by simp [toBytes] at h
  | _ :: _, [], _, _, h => by simp [toBytes] at h
  | x :: l, y :: m, h1, h2, h => by
    simp only [toBytes, List.map_cons, List.cons.injEq] at h
    have hx := h1 x (by simp)
    have hy := h2 y (by simp)
    have e := congrArg UInt8.toNat h.1
    simp only [UInt8.toNat_ofNat'] at e
    have e2 : x = y := by omega
    rw [e2, toBytes_inj (fun z hz => h1 z (by simp [hz])) (fun z hz => h2 z (by simp [hz])) h.2]
theorem blank_q (m : Int) : (dBlank m).Queue.length = 0 := rfl
attribute [local push_cast] blank_q
theorem back_fn (n : Int) (b : List Int) (turn : List Int) : Pure Cx.P 9 [.int .u64 n, .dat (.slice (.int .u8)) b, .dat (.arr 2 (.int .i64)) turn] [.bool true] := by
  refine Pure.go2 (E := Cx.env) (fn := Try.f9) (res := [_]) Try.func9 isfn9 rfl rfl rfl (by kernel_rfl) rfl ?_
  push_cast
  try intro hf
  have hlen : (dBlank (spanN b.length + 2)).Base.length ≤ 2048 := by simp only [dBlank, List.length_replicate]; omega
  have hT := spanN_bd b.length
  have hput : b.length ≤ 2000 → ¬ n = 0 → sPut (dBlank (spanN b.length + 2)) 1 n b = (backD n b, 0) := fun h1 h2 => back_put h2 h1
  have hread : b.length ≤ 2000 → ¬ n = 0 → sRead (backD n b) 1 (spanN b.length + 1) = (b, n, spanN b.length, 0) := fun h1 h2 => back_read (by omega) h1
  repeat' (first
    | apply go_seq | apply go_block | refine go_region_stop (id := 7) ?_ | apply go_region | apply go_skip | apply go_exit | apply go_label | apply go_ret | apply go_goto
    | apply seqK_n | apply seqK_x | apply seqK_r | apply seqK_j | apply blockK_j | apply loopK_j | apply jumpK_n | apply jumpK_x | apply jumpK_r | apply passK_n | apply passK_x | apply passK_r | apply straightK_n | apply straightK_x | apply straightK_r | apply blockK_n | apply blockK_r | apply blockK_hit | apply blockK_miss rfl | apply loopK_x | apply loopK_r | apply regK_go | apply finK_n | apply finK_r
    | (refine vres_go ?_; push_cast) | apply ops_nil | refine ops_in (w_i64 _ (by omega) (by omega)) ?_ | refine ops_in (w_u8 _ (by omega) (by omega)) ?_ | refine ops_in (w_u32 _ (by omega) (by omega)) ?_ | refine ops_in (w_u64 _ (by omega) (by omega)) ?_
    | (refine ops_put rfl rfl ?_; intro K' hK'; push_cast; (repeat' refine And.intro ?_ ?_); all_goals (first | (apply hK'; clear hK' K') | (refine ⟨trivial, trivial, ?_⟩; apply hK'; clear hK' K') | (intro hb; (try push_cast at hb); all_goals (intros; apply hK'; clear hK' K')) | ((first | refine call_F stAlive_con (fun _ => rfl) ?_ | refine call_F span_con (fun _ => rfl) ?_ | refine call_new Blank_con 9100 ?_ | refine call_1 Write_con (fun _ _ => rfl) ?_); push_cast; (repeat' refine And.intro ?_ ?_); all_goals (first | (apply hK'; clear hK' K') | (intros; apply hK'; clear hK' K') | (clear hK' K'; first | omega | skip))) | (clear hK' K'; first | omega | skip)))
    | (refine ops_no rfl rfl ?_; intro K' hK'; push_cast; (repeat' refine And.intro ?_ ?_); all_goals (first | (apply hK'; clear hK' K') | (refine ⟨trivial, trivial, ?_⟩; apply hK'; clear hK' K') | (intro hb; (try push_cast at hb); all_goals (intros; apply hK'; clear hK' K')) | ((first | refine call_F stAlive_con (fun _ => rfl) ?_ | refine call_F span_con (fun _ => rfl) ?_ | refine call_new Blank_con 9100 ?_ | refine call_1 Write_con (fun _ _ => rfl) ?_); push_cast; (repeat' refine And.intro ?_ ?_); all_goals (first | (apply hK'; clear hK' K') | (intros; apply hK'; clear hK' K') | (clear hK' K'; first | omega | skip))) | (clear hK' K'; first | omega | skip)))
    | (refine go_cond (by push_cast; first | done | rfl) ?_ ?_ <;> intro hc <;> (try push_cast at hc))
    | (refine ops_gt rfl rfl rfl (by push_cast; first | done | rfl) ?_)
    | (refine ops_gb rfl rfl rfl (by push_cast; first | done | rfl) ?_ ?_; focus (intro hc; (try push_cast at hc); all_goals (intro K' hK'; push_cast; (repeat' refine And.intro ?_ ?_); all_goals (first | (apply hK'; clear hK' K') | (refine ⟨trivial, trivial, ?_⟩; apply hK'; clear hK' K') | (intro hb; (try push_cast at hb); all_goals (intros; apply hK'; clear hK' K')) | ((first | refine call_F stAlive_con (fun _ => rfl) ?_ | refine call_F span_con (fun _ => rfl) ?_ | refine call_new Blank_con 9100 ?_ | refine call_1 Write_con (fun _ _ => rfl) ?_); push_cast; (repeat' refine And.intro ?_ ?_); all_goals (first | (apply hK'; clear hK' K') | (intros; apply hK'; clear hK' K') | (clear hK' K'; first | omega | skip))) | (clear hK' K'; first | omega | skip)))))
    | (intro hc; (try push_cast at hc)))
  have hb : b.length ≤ 2000 := by omega
  have hn : ¬ n = 0 := ‹_›
  obtain ⟨hs1, hs2, hs3, hs4⟩ := back_span hb
  have hbl := backD_len n b
  rw [hput hb hn]
  clear hput
  apply regKS_go
  push_cast
  repeat' (first
    | apply go_seq | apply go_block | refine go_region_stop (id := 9) ?_ | apply go_region | apply go_skip | apply go_exit | apply go_label | apply go_ret | apply go_goto
    | apply seqK_n | apply seqK_x | apply seqK_r | apply seqK_j | apply blockK_j | apply loopK_j | apply jumpK_n | apply jumpK_x | apply jumpK_r | apply passK_n | apply passK_x | apply passK_r | apply straightK_n | apply straightK_x | apply straightK_r | apply blockK_n | apply blockK_r | apply blockK_hit | apply blockK_miss rfl | apply loopK_x | apply loopK_r | apply regK_go | apply finK_n | apply finK_r
    | (refine vres_go ?_; push_cast) | apply ops_nil | refine ops_in (w_i64 _ (by omega) (by omega)) ?_ | refine ops_in (w_u8 _ (by omega) (by omega)) ?_ | refine ops_in (w_u32 _ (by omega) (by omega)) ?_ | refine ops_in (w_u64 _ (by omega) (by omega)) ?_
    | (refine ops_put rfl rfl ?_; intro K' hK'; push_cast; (repeat' refine And.intro ?_ ?_); all_goals (first | (apply hK'; clear hK' K') | (refine ⟨trivial, trivial, ?_⟩; apply hK'; clear hK' K') | (intro hb; (try push_cast at hb); all_goals (intros; apply hK'; clear hK' K')) | ((first | refine call_1 Read_con (fun _ _ => rfl) ?_); push_cast; (repeat' refine And.intro ?_ ?_); all_goals (first | (apply hK'; clear hK' K') | (intros; apply hK'; clear hK' K') | (clear hK' K'; first | omega | skip))) | (clear hK' K'; first | omega | skip)))
    | (refine ops_no rfl rfl ?_; intro K' hK'; push_cast; (repeat' refine And.intro ?_ ?_); all_goals (first | (apply hK'; clear hK' K') | (refine ⟨trivial, trivial, ?_⟩; apply hK'; clear hK' K') | (intro hb; (try push_cast at hb); all_goals (intros; apply hK'; clear hK' K')) | ((first | refine call_1 Read_con (fun _ _ => rfl) ?_); push_cast; (repeat' refine And.intro ?_ ?_); all_goals (first | (apply hK'; clear hK' K') | (intros; apply hK'; clear hK' K') | (clear hK' K'; first | omega | skip))) | (clear hK' K'; first | omega | skip)))
    | (refine go_cond (by push_cast; first | done | rfl) ?_ ?_ <;> intro hc <;> (try push_cast at hc))
    | (refine ops_gt rfl rfl rfl (by push_cast; first | done | rfl) ?_)
    | (refine ops_gb rfl rfl rfl (by push_cast; first | done | rfl) ?_ ?_; focus (intro hc; (try push_cast at hc); all_goals (intro K' hK'; push_cast; (repeat' refine And.intro ?_ ?_); all_goals (first | (apply hK'; clear hK' K') | (refine ⟨trivial, trivial, ?_⟩; apply hK'; clear hK' K') | (intro hb; (try push_cast at hb); all_goals (intros; apply hK'; clear hK' K')) | ((first | refine call_1 Read_con (fun _ _ => rfl) ?_); push_cast; (repeat' refine And.intro ?_ ?_); all_goals (first | (apply hK'; clear hK' K') | (intros; apply hK'; clear hK' K') | (clear hK' K'; first | omega | skip))) | (clear hK' K'; first | omega | skip)))))
    | (intro hc; (try push_cast at hc)))
  rw [hread hb hn]
  clear hread
  apply regKS_go
  push_cast
  repeat' (first
    | apply go_seq | apply go_block | refine go_region_stop (id := 13) ?_ | apply go_region | apply go_skip | apply go_exit | apply go_label | apply go_ret | apply go_goto
    | apply seqK_n | apply seqK_x | apply seqK_r | apply seqK_j | apply blockK_j | apply loopK_j | apply jumpK_n | apply jumpK_x | apply jumpK_r | apply passK_n | apply passK_x | apply passK_r | apply straightK_n | apply straightK_x | apply straightK_r | apply blockK_n | apply blockK_r | apply blockK_hit | apply blockK_miss rfl | apply loopK_x | apply loopK_r | apply regK_go | apply finK_n | apply finK_r
    | (refine vres_go ?_; push_cast) | apply ops_nil | refine ops_in (w_i64 _ (by omega) (by omega)) ?_ | refine ops_in (w_u8 _ (by omega) (by omega)) ?_ | refine ops_in (w_u32 _ (by omega) (by omega)) ?_ | refine ops_in (w_u64 _ (by omega) (by omega)) ?_
    | (refine ops_put rfl rfl ?_; intro K' hK'; push_cast; (repeat' refine And.intro ?_ ?_); all_goals (first | (apply hK'; clear hK' K') | (refine ⟨trivial, trivial, ?_⟩; apply hK'; clear hK' K') | (intro hb; (try push_cast at hb); all_goals (intros; apply hK'; clear hK' K')) | ((first | refine call_1 Read_con (fun _ _ => rfl) ?_); push_cast; (repeat' refine And.intro ?_ ?_); all_goals (first | (apply hK'; clear hK' K') | (intros; apply hK'; clear hK' K') | (clear hK' K'; first | omega | skip))) | (clear hK' K'; first | omega | skip)))
    | (refine ops_no rfl rfl ?_; intro K' hK'; push_cast; (repeat' refine And.intro ?_ ?_); all_goals (first | (apply hK'; clear hK' K') | (refine ⟨trivial, trivial, ?_⟩; apply hK'; clear hK' K') | (intro hb; (try push_cast at hb); all_goals (intros; apply hK'; clear hK' K')) | ((first | refine call_1 Read_con (fun _ _ => rfl) ?_); push_cast; (repeat' refine And.intro ?_ ?_); all_goals (first | (apply hK'; clear hK' K') | (intros; apply hK'; clear hK' K') | (clear hK' K'; first | omega | skip))) | (clear hK' K'; first | omega | skip)))
    | (refine go_cond (by push_cast; first | done | rfl) ?_ ?_ <;> intro hc <;> (try push_cast at hc))
    | (refine ops_gt rfl rfl rfl (by push_cast; first | done | rfl) ?_)
    | (refine ops_gb rfl rfl rfl (by push_cast; first | done | rfl) ?_ ?_; focus (intro hc; (try push_cast at hc); all_goals (intro K' hK'; push_cast; (repeat' refine And.intro ?_ ?_); all_goals (first | (apply hK'; clear hK' K') | (refine ⟨trivial, trivial, ?_⟩; apply hK'; clear hK' K') | (intro hb; (try push_cast at hb); all_goals (intros; apply hK'; clear hK' K')) | ((first | refine call_1 Read_con (fun _ _ => rfl) ?_); push_cast; (repeat' refine And.intro ?_ ?_); all_goals (first | (apply hK'; clear hK' K') | (intros; apply hK'; clear hK' K') | (clear hK' K'; first | omega | skip))) | (clear hK' K'; first | omega | skip)))))
    | (intro hc; (try push_cast at hc)))
  all_goals try omega
  rw [back_short hb, back_late hb]
  apply regKS_go
  push_cast
  repeat' (first
    | apply go_seq | apply go_block | refine go_region_stop (id := 18) ?_ | apply go_region | apply go_skip | apply go_exit | apply go_label | apply go_ret | apply go_goto
    | apply seqK_n | apply seqK_x | apply seqK_r | apply seqK_j | apply blockK_j | apply loopK_j | apply jumpK_n | apply jumpK_x | apply jumpK_r | apply passK_n | apply passK_x | apply passK_r | apply straightK_n | apply straightK_x | apply straightK_r | apply blockK_n | apply blockK_r | apply blockK_hit | apply blockK_miss rfl | apply loopK_x | apply loopK_r | apply regK_go | apply finK_n | apply finK_r
    | (refine vres_go ?_; push_cast) | apply ops_nil | refine ops_in (w_i64 _ (by omega) (by omega)) ?_ | refine ops_in (w_u8 _ (by omega) (by omega)) ?_ | refine ops_in (w_u32 _ (by omega) (by omega)) ?_ | refine ops_in (w_u64 _ (by omega) (by omega)) ?_
    | (refine ops_put rfl rfl ?_; intro K' hK'; push_cast; (repeat' refine And.intro ?_ ?_); all_goals (first | (apply hK'; clear hK' K') | (refine ⟨trivial, trivial, ?_⟩; apply hK'; clear hK' K') | (intro hb; (try push_cast at hb); all_goals (intros; apply hK'; clear hK' K')) | ((first | refine call_1 Get_con (fun _ _ => rfl) ?_); push_cast; (repeat' refine And.intro ?_ ?_); all_goals (first | (apply hK'; clear hK' K') | (intros; apply hK'; clear hK' K') | (clear hK' K'; first | omega | skip))) | (clear hK' K'; first | omega | skip)))
    | (refine ops_no rfl rfl ?_; intro K' hK'; push_cast; (repeat' refine And.intro ?_ ?_); all_goals (first | (apply hK'; clear hK' K') | (refine ⟨trivial, trivial, ?_⟩; apply hK'; clear hK' K') | (intro hb; (try push_cast at hb); all_goals (intros; apply hK'; clear hK' K')) | ((first | refine call_1 Get_con (fun _ _ => rfl) ?_); push_cast; (repeat' refine And.intro ?_ ?_); all_goals (first | (apply hK'; clear hK' K') | (intros; apply hK'; clear hK' K') | (clear hK' K'; first | omega | skip))) | (clear hK' K'; first | omega | skip)))
    | (refine go_cond (by push_cast; first | done | rfl) ?_ ?_ <;> intro hc <;> (try push_cast at hc))
    | (refine ops_gt rfl rfl rfl (by push_cast; first | done | rfl) ?_)
    | (refine ops_gb rfl rfl rfl (by push_cast; first | done | rfl) ?_ ?_; focus (intro hc; (try push_cast at hc); all_goals (intro K' hK'; push_cast; (repeat' refine And.intro ?_ ?_); all_goals (first | (apply hK'; clear hK' K') | (refine ⟨trivial, trivial, ?_⟩; apply hK'; clear hK' K') | (intro hb; (try push_cast at hb); all_goals (intros; apply hK'; clear hK' K')) | ((first | refine call_1 Get_con (fun _ _ => rfl) ?_); push_cast; (repeat' refine And.intro ?_ ?_); all_goals (first | (apply hK'; clear hK' K') | (intros; apply hK'; clear hK' K') | (clear hK' K'; first | omega | skip))) | (clear hK' K'; first | omega | skip)))))
    | (intro hc; (try push_cast at hc)))
  have hget : (dGet (backD n b) (turn.getD 0 0)).2 = 0 := get_ok (by omega) (by omega)
  have hsl : (dGet (backD n b) (turn.getD 0 0)).1.length = 64 := by
    obtain ⟨i, hi⟩ : ∃ i : Nat, turn.getD 0 0 = 1 + i := ⟨(turn.getD 0 0 - 1).toNat, by omega⟩
    rw [hi, back_sec i (by omega)]
    exact madeN_len _ _ _ _ (pieceN_le b i)
  have hbq := backD_q n b
  have hput2 := put_live (D := backD n b) (by simp [backD, dQ, dBlank]) rfl (k := turn.getD 0 0) ((dGet (backD n b) (turn.getD 0 0)).1.set (turn.getD 1 0).toNat (IntKind.u8.wrap ((dGet (backD n b) (turn.getD 0 0)).1.getD (turn.getD 1 0).toNat 0 + 1))) (by omega) (by omega)
  have hne := turn_ne hsl (i := turn.getD 1 0) (by omega) (by omega)
  have hend := back_turn (n := n) hb (t := turn.getD 0 0) (by omega) (by omega) hne
  rw [hget]
  apply regKS_go
  push_cast
  repeat' (first
    | apply go_seq | apply go_block | refine go_region_stop (id := 20) ?_ | apply go_region | apply go_skip | apply go_exit | apply go_label | apply go_ret | apply go_goto
    | apply seqK_n | apply seqK_x | apply seqK_r | apply seqK_j | apply blockK_j | apply loopK_j | apply jumpK_n | apply jumpK_x | apply jumpK_r | apply passK_n | apply passK_x | apply passK_r | apply straightK_n | apply straightK_x | apply straightK_r | apply blockK_n | apply blockK_r | apply blockK_hit | apply blockK_miss rfl | apply loopK_x | apply loopK_r | apply regK_go | apply finK_n | apply finK_r
    | (refine vres_go ?_; push_cast) | apply ops_nil | refine ops_in (w_i64 _ (by omega) (by omega)) ?_ | refine ops_in (w_u8 _ (by omega) (by omega)) ?_ | refine ops_in (w_u32 _ (by omega) (by omega)) ?_ | refine ops_in (w_u64 _ (by omega) (by omega)) ?_
    | (refine ops_put rfl rfl ?_; intro K' hK'; push_cast; (repeat' refine And.intro ?_ ?_); all_goals (first | (apply hK'; clear hK' K') | (refine ⟨trivial, trivial, ?_⟩; apply hK'; clear hK' K') | (intro hb; (try push_cast at hb); all_goals (intros; apply hK'; clear hK' K')) | ((first | refine call_1 Put_con (fun _ _ => rfl) ?_); push_cast; (repeat' refine And.intro ?_ ?_); all_goals (first | (apply hK'; clear hK' K') | (intros; apply hK'; clear hK' K') | (clear hK' K'; first | omega | skip))) | (clear hK' K'; first | omega | skip)))
    | (refine ops_no rfl rfl ?_; intro K' hK'; push_cast; (repeat' refine And.intro ?_ ?_); all_goals (first | (apply hK'; clear hK' K') | (refine ⟨trivial, trivial, ?_⟩; apply hK'; clear hK' K') | (intro hb; (try push_cast at hb); all_goals (intros; apply hK'; clear hK' K')) | ((first | refine call_1 Put_con (fun _ _ => rfl) ?_); push_cast; (repeat' refine And.intro ?_ ?_); all_goals (first | (apply hK'; clear hK' K') | (intros; apply hK'; clear hK' K') | (clear hK' K'; first | omega | skip))) | (clear hK' K'; first | omega | skip)))
    | (refine go_cond (by push_cast; first | done | rfl) ?_ ?_ <;> intro hc <;> (try push_cast at hc))
    | (refine ops_gt rfl rfl rfl (by push_cast; first | done | rfl) ?_)
    | (refine ops_gb rfl rfl rfl (by push_cast; first | done | rfl) ?_ ?_; focus (intro hc; (try push_cast at hc); all_goals (intro K' hK'; push_cast; (repeat' refine And.intro ?_ ?_); all_goals (first | (apply hK'; clear hK' K') | (refine ⟨trivial, trivial, ?_⟩; apply hK'; clear hK' K') | (intro hb; (try push_cast at hb); all_goals (intros; apply hK'; clear hK' K')) | ((first | refine call_1 Put_con (fun _ _ => rfl) ?_); push_cast; (repeat' refine And.intro ?_ ?_); all_goals (first | (apply hK'; clear hK' K') | (intros; apply hK'; clear hK' K') | (clear hK' K'; first | omega | skip))) | (clear hK' K'; first | omega | skip)))))
    | (intro hc; (try push_cast at hc)))
  rw [hput2]
  clear hput2 hne hsl
  apply regKS_go
  push_cast
  repeat' (first
    | apply go_seq | apply go_block | apply go_region | apply go_skip | apply go_exit | apply go_label | apply go_ret | apply go_goto
    | apply seqK_n | apply seqK_x | apply seqK_r | apply seqK_j | apply blockK_j | apply loopK_j | apply jumpK_n | apply jumpK_x | apply jumpK_r | apply passK_n | apply passK_x | apply passK_r | apply straightK_n | apply straightK_x | apply straightK_r | apply blockK_n | apply blockK_r | apply blockK_hit | apply blockK_miss rfl | apply loopK_x | apply loopK_r | apply regK_go | apply finK_n | apply finK_r
    | (refine vres_go ?_; push_cast) | apply ops_nil | refine ops_in (w_i64 _ (by omega) (by omega)) ?_ | refine ops_in (w_u8 _ (by omega) (by omega)) ?_ | refine ops_in (w_u32 _ (by omega) (by omega)) ?_ | refine ops_in (w_u64 _ (by omega) (by omega)) ?_
    | (refine ops_put rfl rfl ?_; intro K' hK'; push_cast; (repeat' refine And.intro ?_ ?_); all_goals (first | (apply hK'; clear hK' K') | (refine ⟨trivial, trivial, ?_⟩; apply hK'; clear hK' K') | (intro hb; (try push_cast at hb); all_goals (intros; apply hK'; clear hK' K')) | ((first | refine call_1f Read_con (fun _ _ => rfl) ?_); push_cast; (repeat' refine And.intro ?_ ?_); all_goals (first | (apply hK'; clear hK' K') | (intros; apply hK'; clear hK' K') | (clear hK' K'; first | omega | skip))) | (clear hK' K'; first | omega | skip)))
    | (refine ops_no rfl rfl ?_; intro K' hK'; push_cast; (repeat' refine And.intro ?_ ?_); all_goals (first | (apply hK'; clear hK' K') | (refine ⟨trivial, trivial, ?_⟩; apply hK'; clear hK' K') | (intro hb; (try push_cast at hb); all_goals (intros; apply hK'; clear hK' K')) | ((first | refine call_1f Read_con (fun _ _ => rfl) ?_); push_cast; (repeat' refine And.intro ?_ ?_); all_goals (first | (apply hK'; clear hK' K') | (intros; apply hK'; clear hK' K') | (clear hK' K'; first | omega | skip))) | (clear hK' K'; first | omega | skip)))
    | (refine go_cond (by push_cast; first | done | rfl) ?_ ?_ <;> intro hc <;> (try push_cast at hc))
    | (refine ops_gt rfl rfl rfl (by push_cast; first | done | rfl) ?_)
    | (refine ops_gb rfl rfl rfl (by push_cast; first | done | rfl) ?_ ?_; focus (intro hc; (try push_cast at hc); all_goals (intro K' hK'; push_cast; (repeat' refine And.intro ?_ ?_); all_goals (first | (apply hK'; clear hK' K') | (refine ⟨trivial, trivial, ?_⟩; apply hK'; clear hK' K') | (intro hb; (try push_cast at hb); all_goals (intros; apply hK'; clear hK' K')) | ((first | refine call_1f Read_con (fun _ _ => rfl) ?_); push_cast; (repeat' refine And.intro ?_ ?_); all_goals (first | (apply hK'; clear hK' K') | (intros; apply hK'; clear hK' K') | (clear hK' K'; first | omega | skip))) | (clear hK' K'; first | omega | skip)))))
    | (intro hc; (try push_cast at hc)))
  generalize sRead (dQ (backD n b) [⟨(dGet (backD n b) (turn.getD 0 0)).1.set (turn.getD 1 0).toNat (IntKind.u8.wrap ((dGet (backD n b) (turn.getD 0 0)).1.getD (turn.getD 1 0).toNat 0 + 1)), turn.getD 0 0⟩]) 1 (spanN b.length + 1) = X at *
  have hfx : X.1.length ≤ 9223372036854775807 ∧ ∀ x ∈ X.1, 0 ≤ x ∧ x ≤ 255 := 
    (show (X.1.length ≤ 9223372036854775807 ∧ ∀ x ∈ X.1, 0 ≤ x ∧ x ≤ 255) ∧ (0 ≤ X.2.1 ∧ X.2.1 ≤ 18446744073709551615) ∧ (-9223372036854775808 ≤ X.2.2.1 ∧ X.2.2.1 ≤ 9223372036854775807) ∧ -9223372036854775808 ≤ X.2.2.2 ∧ X.2.2.2 ≤ 9223372036854775807 from ‹_›).1
  rw [Bool.not_eq_true', decide_eq_false_iff_not]
  intro hy
  exact hend ⟨by simpa using ‹(!decide (X.2.2.2 = 0)) = false›, toBytes_inj hfx.2 hf.2.1.2 (by simpa using ‹(!toBytes X.1 == toBytes b) = false›), hy⟩
theorem back_con : Con Cx.P 9 (.pair (.int .u64) (.pair (.slice (.int .u8)) (.pair (.arr 2 (.int .i64)) (.unit)))) (fun x => (fun (n : Int) (b : List Int) (turn : List Int) => True) x.1 x.2.1 x.2.2.1) (fun x => (fun (n : Int) (b : List Int) (turn : List Int) => [.bool true]) x.1 x.2.1 x.2.2.1) := ⟨isfn9, fun x h => back_fn x.1 x.2.1 x.2.2.1⟩
end Go.Proofs.Ytnmjcdlgfimnaaa
