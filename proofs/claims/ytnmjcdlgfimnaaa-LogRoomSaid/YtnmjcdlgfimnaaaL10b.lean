/- Chapter 10's statements: each record takes as much room as it needs. -/
import Derived.Test.YtnmjcdlgfimnaaaL10a
namespace Go.Proofs.Ytnmjcdlgfimnaaa
theorem need_zero (n : Int) : needN n = 0 ↔ n < 0 ∨ 4096 < n := by
  unfold needN
  split
  · simpa
  · rename_i h
    simp only [h, iff_false]
    rw [spanN_zero]
    omega
theorem need_bd (n : Int) : 0 ≤ needN n ∧ needN n ≤ 255 := by
  unfold needN
  have := spanN_bd (n + 4)
  split <;> omega
theorem logOk_none {L : LogS} {m : Nat} {k0 st0 : Int} {rs : List (List Int)} (h : LogOk L m k0 st0 rs) {last : Int} (hl : st0 + rs.length - 1 ≤ last) : recsN L.D k0 L.e last = ([], k0) := by
  have he : recEnd L.D k0 L.e last := by
    cases rs with
    | nil =>
      refine recEnd_low fun hlt => ?_
      have ha := h.a
      simp only [endPos] at ha
      have := h.low k0 (by omega) hlt
      simp only [List.length_nil] at hl
      omega
    | cons r rs =>
      obtain ⟨h0, h1, _⟩ := h.placed
      have hb := spanR_bd r
      have hle := endPos_le rs (k0 + spanR r)
      have ha := h.a
      simp only [endPos] at ha
      have h2 := h.le
      have h3 := h.e
      have h4 := h.quiet.base
      have h5 := h.stb
      simp only [List.length_cons] at hl h5
      have hr : sRead L.D k0 L.e = (closeN r, st0, spanR r, 0) := read_back (by omega) h0 h.pos (by show k0 + spanR r ≤ L.e; omega) (by omega) h1
      exact .inr (.inr (by rw [hr]; simp only; omega))
  unfold recsN
  simp [recN, he]
theorem same_self (a : List (List Int)) : sameR a (a.map toBytes) = true := by simp [sameR]
section
set_option linter.unusedSimpArgs false
set_option linter.unusedVariables false
set_option maxRecDepth 20000
attribute [local irreducible] vcOps vcCode vcA vcSch Wc
set_option maxHeartbeats 8000000
attribute [local push_cast] same_self
theorem room_fn (n : Int) (rs : List (List Int)) : Pure Cx.P 13 [.int .i64 n, .dat (.slice (.slice (.int .u8))) rs] [.bool true] := by
  refine Pure.go2 (E := Cx.env) (fn := Try.f13) (res := [_]) Try.func13 isfn13 rfl rfl rfl (by kernel_rfl) rfl ?_
  push_cast
  try intro hf
  have hbl : 1 ≤ n → n ≤ 60 → ((dBlank n).Base.length : Int) = n := fun h1 h2 => blank_len (by omega) (by omega)
  repeat' (first
    | apply go_seq | apply go_block | refine go_region_stop (id := 6) ?_ | apply go_region | apply go_skip | apply go_exit | apply go_label | apply go_ret | apply go_goto
    | apply seqK_n | apply seqK_x | apply seqK_r | apply seqK_j | apply blockK_j | apply loopK_j | apply jumpK_n | apply jumpK_x | apply jumpK_r | apply passK_n | apply passK_x | apply passK_r | apply straightK_n | apply straightK_x | apply straightK_r | apply blockK_n | apply blockK_r | apply blockK_hit | apply blockK_miss rfl | apply loopK_x | apply loopK_r | apply regK_go | apply finK_n | apply finK_r
    | (refine vres_go ?_; push_cast) | apply ops_nil | refine ops_in (w_i64 _ (by omega) (by omega)) ?_ | refine ops_in (w_u8 _ (by omega) (by omega)) ?_ | refine ops_in (w_u32 _ (by omega) (by omega)) ?_ | refine ops_in (w_u64 _ (by omega) (by omega)) ?_
    | (refine ops_put rfl rfl ?_; intro K' hK'; push_cast; (repeat' refine And.intro ?_ ?_); all_goals (first | (apply hK'; clear hK' K') | (refine ⟨trivial, trivial, ?_⟩; apply hK'; clear hK' K') | (intro hb; (try push_cast at hb); all_goals (intros; apply hK'; clear hK' K')) | ((first | refine call_F logAlive_con (fun _ => rfl) ?_ | refine call_new Blank_con 9100 ?_ | refine call_O 9200 ?_); push_cast; (repeat' refine And.intro ?_ ?_); all_goals (first | (apply hK'; clear hK' K') | (intros; apply hK'; clear hK' K') | (clear hK' K'; first | omega | skip))) | (clear hK' K'; first | omega | skip)))
    | (refine ops_no rfl rfl ?_; intro K' hK'; push_cast; (repeat' refine And.intro ?_ ?_); all_goals (first | (apply hK'; clear hK' K') | (refine ⟨trivial, trivial, ?_⟩; apply hK'; clear hK' K') | (intro hb; (try push_cast at hb); all_goals (intros; apply hK'; clear hK' K')) | ((first | refine call_F logAlive_con (fun _ => rfl) ?_ | refine call_new Blank_con 9100 ?_ | refine call_O 9200 ?_); push_cast; (repeat' refine And.intro ?_ ?_); all_goals (first | (apply hK'; clear hK' K') | (intros; apply hK'; clear hK' K') | (clear hK' K'; first | omega | skip))) | (clear hK' K'; first | omega | skip)))
    | (refine go_cond (by push_cast; first | done | rfl) ?_ ?_ <;> intro hc <;> (try push_cast at hc))
    | (refine ops_gt rfl rfl rfl (by push_cast; first | done | rfl) ?_)
    | (refine ops_gb rfl rfl rfl (by push_cast; first | done | rfl) ?_ ?_; focus (intro hc; (try push_cast at hc); all_goals (intro K' hK'; push_cast; (repeat' refine And.intro ?_ ?_); all_goals (first | (apply hK'; clear hK' K') | (refine ⟨trivial, trivial, ?_⟩; apply hK'; clear hK' K') | (intro hb; (try push_cast at hb); all_goals (intros; apply hK'; clear hK' K')) | ((first | refine call_F logAlive_con (fun _ => rfl) ?_ | refine call_new Blank_con 9100 ?_ | refine call_O 9200 ?_); push_cast; (repeat' refine And.intro ?_ ?_); all_goals (first | (apply hK'; clear hK' K') | (intros; apply hK'; clear hK' K') | (clear hK' K'; first | omega | skip))) | (clear hK' K'; first | omega | skip)))))
    | (intro hc; (try push_cast at hc)))
  rw [openL_new (n := n) (k := 0) (e := n) (by omega) (by omega) (by omega) (by omega) 5 (by omega), blank_recs 5 (by omega) 0]
  have hbl2 := hbl (by omega) (by omega)
  clear hbl
  apply regKS_go
  push_cast
  repeat' (first
    | apply go_seq | apply go_block | apply go_region | apply go_skip | apply go_exit | apply go_label | apply go_ret | apply go_goto
    | apply seqK_n | apply seqK_x | apply seqK_r | apply seqK_j | apply blockK_j | apply loopK_j | apply jumpK_n | apply jumpK_x | apply jumpK_r | apply passK_n | apply passK_x | apply passK_r | apply straightK_n | apply straightK_x | apply straightK_r | apply blockK_n | apply blockK_r | apply blockK_hit | apply blockK_miss rfl | apply loopK_x | apply loopK_r | apply regK_go | apply finK_n | apply finK_r
    | (refine vres_go ?_; push_cast) | apply ops_nil | refine ops_in (w_i64 _ (by omega) (by omega)) ?_ | refine ops_in (w_u8 _ (by omega) (by omega)) ?_ | refine ops_in (w_u32 _ (by omega) (by omega)) ?_ | refine ops_in (w_u64 _ (by omega) (by omega)) ?_
    | (refine ops_put rfl rfl ?_; intro K' hK'; push_cast; (repeat' refine And.intro ?_ ?_); all_goals (first | (apply hK'; clear hK' K') | (refine ⟨trivial, trivial, ?_⟩; apply hK'; clear hK' K') | (intro hb; (try push_cast at hb); all_goals (intros; apply hK'; clear hK' K')) | (clear hK' K'; first | omega | skip)))
    | (refine ops_no rfl rfl ?_; intro K' hK'; push_cast; (repeat' refine And.intro ?_ ?_); all_goals (first | (apply hK'; clear hK' K') | (refine ⟨trivial, trivial, ?_⟩; apply hK'; clear hK' K') | (intro hb; (try push_cast at hb); all_goals (intros; apply hK'; clear hK' K')) | (clear hK' K'; first | omega | skip)))
    | (refine go_cond (by push_cast; first | done | rfl) ?_ ?_ <;> intro hc <;> (try push_cast at hc))
    | (refine ops_gt rfl rfl rfl (by push_cast; first | done | rfl) ?_)
    | (refine ops_gb rfl rfl rfl (by push_cast; first | done | rfl) ?_ ?_; focus (intro hc; (try push_cast at hc); all_goals (intro K' hK'; push_cast; (repeat' refine And.intro ?_ ?_); all_goals (first | (apply hK'; clear hK' K') | (refine ⟨trivial, trivial, ?_⟩; apply hK'; clear hK' K') | (intro hb; (try push_cast at hb); all_goals (intros; apply hK'; clear hK' K')) | (clear hK' K'; first | omega | skip)))))
    | (intro hc; (try push_cast at hc)))
  refine loop_ren 50 75 rfl (by push_cast) (by decide) ?_
  push_cast
  refine go_loop2 [4, 9, 10, 12, 13, 14, 50, 53, 54, 55, 56, 57, 58, 59, 60, 61, 62, 63, 64, 65, 66, 67, 68, 69, 70, 71, 72, 73, 74, 75, 76, 77, 78, 79, 80, 81, 82, 83, 84, 85, 86, 87, 88, 89, 90, 91, 92, 93, 94, 95, 96, 97, 98, 99, 100, 101, 102, 103, 104, 105] [58, 61, 62, 65, 73, 74, 75, 78, 93, 98, 100, 102, 9100, 9200] (fun (p : LogS × List (List Int) × Nat) => p.2.2 ≤ rs.length ∧ LogOk p.1 n.toNat 0 6 p.2.1 ∧ p.1.e = n ∧ p.2.1.length ≤ p.2.2) (fun (p : LogS × List (List Int) × Nat) => [(53, .one (.l (.int .i64 p.2.2))), (9, .one (.l (.int .i64 (p.1.e - p.1.a)))), (10, .one (.l (.own 75)))]) (fun (p : LogS × List (List Int) × Nat) => [(9100, .obj DiskO p.1.D), (9200, .segs [.ptr 9100 [] 0, .int .i64 p.1.a, .int .i64 p.1.e, .int .u64 p.1.st]), (75, .arr .str (p.2.1.map toBytes))]) (fun (p : LogS × List (List Int) × Nat) => rs.length - p.2.2) (⟨dBlank n, 0, n, 6⟩, [], 0) ?_ (by push_cast; first | done | rfl) (by push_cast; first | done | rfl) ?_ ?_
  · exact ⟨Nat.zero_le _, logOk_blank (by omega) (by omega) (by omega) (by omega) 5 (by omega), rfl, Nat.le_refl _⟩
  · push_cast
    first | done | omega | simp
  · rintro ⟨⟨D, a, e, st⟩, done, i⟩ ⟨hi, hok, he, hd⟩
    simp only at hi he hd
    subst he
    push_cast
    intro hg
    have hq : D.Queue.length = 0 := by have := hok.quiet.q; simp only at this; rw [this]; rfl
    have hb : D.Base.length = e.toNat := hok.quiet.base
    have ha : a = endPos 0 done := hok.a
    have ha0 := endPos_le done 0
    have hae : a ≤ e := hok.le
    have hnz := need_zero (rs.getD i []).length
    have hnb := need_bd (rs.getD i []).length
    repeat' (first
    | apply go_seq | apply go_block | refine go_region_stop (id := 17) ?_ | apply go_region | apply go_skip | apply go_exit | apply go_label | apply go_ret | apply go_goto
    | apply seqK_n | apply seqK_x | apply seqK_r | apply seqK_j | apply blockK_j | apply loopK_j | apply jumpK_n | apply jumpK_x | apply jumpK_r | apply passK_n | apply passK_x | apply passK_r | apply straightK_n | apply straightK_x | apply straightK_r | apply blockK_n | apply blockK_r | apply blockK_hit | apply blockK_miss rfl | apply loopK_x | apply loopK_r | apply regK_go | apply finK_n | apply finK_r
    | (refine vres_go ?_; push_cast) | apply ops_nil | refine ops_in (w_i64 _ (by omega) (by omega)) ?_ | refine ops_in (w_u8 _ (by omega) (by omega)) ?_ | refine ops_in (w_u32 _ (by omega) (by omega)) ?_ | refine ops_in (w_u64 _ (by omega) (by omega)) ?_
    | (refine ops_put rfl rfl ?_; intro K' hK'; push_cast; (repeat' refine And.intro ?_ ?_); all_goals (first | (apply hK'; clear hK' K') | (refine ⟨trivial, trivial, ?_⟩; apply hK'; clear hK' K') | (intro hb; (try push_cast at hb); all_goals (intros; apply hK'; clear hK' K')) | ((first | refine call_F logNeed_con (fun _ => rfl) ?_ | refine call_L logAppend_con (fun _ _ => rfl) ?_); push_cast; (repeat' refine And.intro ?_ ?_); all_goals (first | (apply hK'; clear hK' K') | (intros; apply hK'; clear hK' K') | (clear hK' K'; first | omega | skip))) | (clear hK' K'; first | omega | skip)))
    | (refine ops_no rfl rfl ?_; intro K' hK'; push_cast; (repeat' refine And.intro ?_ ?_); all_goals (first | (apply hK'; clear hK' K') | (refine ⟨trivial, trivial, ?_⟩; apply hK'; clear hK' K') | (intro hb; (try push_cast at hb); all_goals (intros; apply hK'; clear hK' K')) | ((first | refine call_F logNeed_con (fun _ => rfl) ?_ | refine call_L logAppend_con (fun _ _ => rfl) ?_); push_cast; (repeat' refine And.intro ?_ ?_); all_goals (first | (apply hK'; clear hK' K') | (intros; apply hK'; clear hK' K') | (clear hK' K'; first | omega | skip))) | (clear hK' K'; first | omega | skip)))
    | (refine go_cond (by push_cast; first | done | rfl) ?_ ?_ <;> intro hc <;> (try push_cast at hc))
    | (refine ops_gt rfl rfl rfl (by push_cast; first | done | rfl) ?_)
    | (refine ops_gb rfl rfl rfl (by push_cast; first | done | rfl) ?_ ?_; focus (intro hc; (try push_cast at hc); all_goals (intro K' hK'; push_cast; (repeat' refine And.intro ?_ ?_); all_goals (first | (apply hK'; clear hK' K') | (refine ⟨trivial, trivial, ?_⟩; apply hK'; clear hK' K') | (intro hb; (try push_cast at hb); all_goals (intros; apply hK'; clear hK' K')) | ((first | refine call_F logNeed_con (fun _ => rfl) ?_ | refine call_L logAppend_con (fun _ _ => rfl) ?_); push_cast; (repeat' refine And.intro ?_ ?_); all_goals (first | (apply hK'; clear hK' K') | (intros; apply hK'; clear hK' K') | (clear hK' K'; first | omega | skip))) | (clear hK' K'; first | omega | skip)))))
    | (intro hc; (try push_cast at hc)))
    · have hok : LogOk ⟨D, a, e, st⟩ e.toNat 0 6 done := hok
      have hst : st = 6 + done.length := hok.st
      have happ := logOk_app hok (rs.getD i []) (by omega)
      have hlen : (done.map toBytes).length = done.length := List.length_map _
      generalize hr : rs.getD i [] = r at *
      by_cases hn : needN r.length = 0
      · rw [happ.1 hn]
        apply regKS_go
        push_cast
        repeat' (first
    | apply go_seq | apply go_block | apply go_region | apply go_skip | apply go_exit | apply go_label | apply go_ret | apply go_goto
    | apply seqK_n | apply seqK_x | apply seqK_r | apply seqK_j | apply blockK_j | apply loopK_j | apply jumpK_n | apply jumpK_x | apply jumpK_r | apply passK_n | apply passK_x | apply passK_r | apply straightK_n | apply straightK_x | apply straightK_r | apply blockK_n | apply blockK_r | apply blockK_hit | apply blockK_miss rfl | apply loopK_x | apply loopK_r | apply regK_go | apply finK_n | apply finK_r
    | (refine vres_go ?_; push_cast) | apply ops_nil | refine ops_in (w_i64 _ (by omega) (by omega)) ?_ | refine ops_in (w_u8 _ (by omega) (by omega)) ?_ | refine ops_in (w_u32 _ (by omega) (by omega)) ?_ | refine ops_in (w_u64 _ (by omega) (by omega)) ?_
    | (refine ops_put rfl rfl ?_; intro K' hK'; push_cast; (repeat' refine And.intro ?_ ?_); all_goals (first | (apply hK'; clear hK' K') | (refine ⟨trivial, trivial, ?_⟩; apply hK'; clear hK' K') | (intro hb; (try push_cast at hb); all_goals (intros; apply hK'; clear hK' K')) | ((first | refine call_L logRoom_con (fun _ _ => rfl) ?_ | refine call_L logStamp_con (fun _ _ => rfl) ?_); push_cast; (repeat' refine And.intro ?_ ?_); all_goals (first | (apply hK'; clear hK' K') | (intros; apply hK'; clear hK' K') | (clear hK' K'; first | omega | skip))) | (clear hK' K'; first | omega | skip)))
    | (refine ops_no rfl rfl ?_; intro K' hK'; push_cast; (repeat' refine And.intro ?_ ?_); all_goals (first | (apply hK'; clear hK' K') | (refine ⟨trivial, trivial, ?_⟩; apply hK'; clear hK' K') | (intro hb; (try push_cast at hb); all_goals (intros; apply hK'; clear hK' K')) | ((first | refine call_L logRoom_con (fun _ _ => rfl) ?_ | refine call_L logStamp_con (fun _ _ => rfl) ?_); push_cast; (repeat' refine And.intro ?_ ?_); all_goals (first | (apply hK'; clear hK' K') | (intros; apply hK'; clear hK' K') | (clear hK' K'; first | omega | skip))) | (clear hK' K'; first | omega | skip)))
    | (refine go_cond (by push_cast; first | done | rfl) ?_ ?_ <;> intro hc <;> (try push_cast at hc))
    | (refine ops_gt rfl rfl rfl (by push_cast; first | done | rfl) ?_)
    | (refine ops_gb rfl rfl rfl (by push_cast; first | done | rfl) ?_ ?_; focus (intro hc; (try push_cast at hc); all_goals (intro K' hK'; push_cast; (repeat' refine And.intro ?_ ?_); all_goals (first | (apply hK'; clear hK' K') | (refine ⟨trivial, trivial, ?_⟩; apply hK'; clear hK' K') | (intro hb; (try push_cast at hb); all_goals (intros; apply hK'; clear hK' K')) | ((first | refine call_L logRoom_con (fun _ _ => rfl) ?_ | refine call_L logStamp_con (fun _ _ => rfl) ?_); push_cast; (repeat' refine And.intro ?_ ?_); all_goals (first | (apply hK'; clear hK' K') | (intros; apply hK'; clear hK' K') | (clear hK' K'; first | omega | skip))) | (clear hK' K'; first | omega | skip)))))
    | (intro hc; (try push_cast at hc)))
        all_goals
          first
          | (exfalso; omega)
          | (exfalso; have h9 := hc; simp only [Bool.not_eq_true', decide_eq_false_iff_not] at h9; omega)
          | (refine loopK_m (⟨D, a, e, st⟩, done, i + 1) ⟨by simp only; omega, hok, rfl, by simp only; omega⟩ (by simp only; omega) ?_; push_cast; done)
      · by_cases hfit : e - a < needN r.length
        · rw [happ.2.1 hn hfit]
          apply regKS_go
          push_cast
          repeat' (first
    | apply go_seq | apply go_block | apply go_region | apply go_skip | apply go_exit | apply go_label | apply go_ret | apply go_goto
    | apply seqK_n | apply seqK_x | apply seqK_r | apply seqK_j | apply blockK_j | apply loopK_j | apply jumpK_n | apply jumpK_x | apply jumpK_r | apply passK_n | apply passK_x | apply passK_r | apply straightK_n | apply straightK_x | apply straightK_r | apply blockK_n | apply blockK_r | apply blockK_hit | apply blockK_miss rfl | apply loopK_x | apply loopK_r | apply regK_go | apply finK_n | apply finK_r
    | (refine vres_go ?_; push_cast) | apply ops_nil | refine ops_in (w_i64 _ (by omega) (by omega)) ?_ | refine ops_in (w_u8 _ (by omega) (by omega)) ?_ | refine ops_in (w_u32 _ (by omega) (by omega)) ?_ | refine ops_in (w_u64 _ (by omega) (by omega)) ?_
    | (refine ops_put rfl rfl ?_; intro K' hK'; push_cast; (repeat' refine And.intro ?_ ?_); all_goals (first | (apply hK'; clear hK' K') | (refine ⟨trivial, trivial, ?_⟩; apply hK'; clear hK' K') | (intro hb; (try push_cast at hb); all_goals (intros; apply hK'; clear hK' K')) | ((first | refine call_L logRoom_con (fun _ _ => rfl) ?_ | refine call_L logStamp_con (fun _ _ => rfl) ?_); push_cast; (repeat' refine And.intro ?_ ?_); all_goals (first | (apply hK'; clear hK' K') | (intros; apply hK'; clear hK' K') | (clear hK' K'; first | omega | skip))) | (clear hK' K'; first | omega | skip)))
    | (refine ops_no rfl rfl ?_; intro K' hK'; push_cast; (repeat' refine And.intro ?_ ?_); all_goals (first | (apply hK'; clear hK' K') | (refine ⟨trivial, trivial, ?_⟩; apply hK'; clear hK' K') | (intro hb; (try push_cast at hb); all_goals (intros; apply hK'; clear hK' K')) | ((first | refine call_L logRoom_con (fun _ _ => rfl) ?_ | refine call_L logStamp_con (fun _ _ => rfl) ?_); push_cast; (repeat' refine And.intro ?_ ?_); all_goals (first | (apply hK'; clear hK' K') | (intros; apply hK'; clear hK' K') | (clear hK' K'; first | omega | skip))) | (clear hK' K'; first | omega | skip)))
    | (refine go_cond (by push_cast; first | done | rfl) ?_ ?_ <;> intro hc <;> (try push_cast at hc))
    | (refine ops_gt rfl rfl rfl (by push_cast; first | done | rfl) ?_)
    | (refine ops_gb rfl rfl rfl (by push_cast; first | done | rfl) ?_ ?_; focus (intro hc; (try push_cast at hc); all_goals (intro K' hK'; push_cast; (repeat' refine And.intro ?_ ?_); all_goals (first | (apply hK'; clear hK' K') | (refine ⟨trivial, trivial, ?_⟩; apply hK'; clear hK' K') | (intro hb; (try push_cast at hb); all_goals (intros; apply hK'; clear hK' K')) | ((first | refine call_L logRoom_con (fun _ _ => rfl) ?_ | refine call_L logStamp_con (fun _ _ => rfl) ?_); push_cast; (repeat' refine And.intro ?_ ?_); all_goals (first | (apply hK'; clear hK' K') | (intros; apply hK'; clear hK' K') | (clear hK' K'; first | omega | skip))) | (clear hK' K'; first | omega | skip)))))
    | (intro hc; (try push_cast at hc)))
          all_goals
            first
            | (exfalso; omega)
            | (exfalso; have h9 := hc; simp only [Bool.not_eq_true', decide_eq_false_iff_not] at h9; omega)
            | (refine loopK_m (⟨D, a, e, st⟩, done, i + 1) ⟨by simp only; omega, hok, rfl, by simp only; omega⟩ (by simp only; omega) ?_; push_cast; done)
        · obtain ⟨h1, h2, h3, h4⟩ := happ.2.2 hn hfit
          have e1 : appN ⟨D, a, e, st⟩ r = ((appN ⟨D, a, e, st⟩ r).1, 0) := Prod.ext rfl h1
          rw [e1]
          generalize (appN ⟨D, a, e, st⟩ r).1 = L at *
          obtain ⟨D2, a2, e2, st2⟩ := L
          simp only at h3 h4
          have hst2 : st2 = 6 + ((done ++ [r]).length : Int) := h2.st
          apply regKS_go
          push_cast
          repeat' (first
    | apply go_seq | apply go_block | apply go_region | apply go_skip | apply go_exit | apply go_label | apply go_ret | apply go_goto
    | apply seqK_n | apply seqK_x | apply seqK_r | apply seqK_j | apply blockK_j | apply loopK_j | apply jumpK_n | apply jumpK_x | apply jumpK_r | apply passK_n | apply passK_x | apply passK_r | apply straightK_n | apply straightK_x | apply straightK_r | apply blockK_n | apply blockK_r | apply blockK_hit | apply blockK_miss rfl | apply loopK_x | apply loopK_r | apply regK_go | apply finK_n | apply finK_r
    | (refine vres_go ?_; push_cast) | apply ops_nil | refine ops_in (w_i64 _ (by omega) (by omega)) ?_ | refine ops_in (w_u8 _ (by omega) (by omega)) ?_ | refine ops_in (w_u32 _ (by omega) (by omega)) ?_ | refine ops_in (w_u64 _ (by omega) (by omega)) ?_
    | (refine ops_put rfl rfl ?_; intro K' hK'; push_cast; (repeat' refine And.intro ?_ ?_); all_goals (first | (apply hK'; clear hK' K') | (refine ⟨trivial, trivial, ?_⟩; apply hK'; clear hK' K') | (intro hb; (try push_cast at hb); all_goals (intros; apply hK'; clear hK' K')) | ((first | refine call_L logRoom_con (fun _ _ => rfl) ?_ | refine call_L logStamp_con (fun _ _ => rfl) ?_); push_cast; (repeat' refine And.intro ?_ ?_); all_goals (first | (apply hK'; clear hK' K') | (intros; apply hK'; clear hK' K') | (clear hK' K'; first | omega | skip))) | (clear hK' K'; first | omega | skip)))
    | (refine ops_no rfl rfl ?_; intro K' hK'; push_cast; (repeat' refine And.intro ?_ ?_); all_goals (first | (apply hK'; clear hK' K') | (refine ⟨trivial, trivial, ?_⟩; apply hK'; clear hK' K') | (intro hb; (try push_cast at hb); all_goals (intros; apply hK'; clear hK' K')) | ((first | refine call_L logRoom_con (fun _ _ => rfl) ?_ | refine call_L logStamp_con (fun _ _ => rfl) ?_); push_cast; (repeat' refine And.intro ?_ ?_); all_goals (first | (apply hK'; clear hK' K') | (intros; apply hK'; clear hK' K') | (clear hK' K'; first | omega | skip))) | (clear hK' K'; first | omega | skip)))
    | (refine go_cond (by push_cast; first | done | rfl) ?_ ?_ <;> intro hc <;> (try push_cast at hc))
    | (refine ops_gt rfl rfl rfl (by push_cast; first | done | rfl) ?_)
    | (refine ops_gb rfl rfl rfl (by push_cast; first | done | rfl) ?_ ?_; focus (intro hc; (try push_cast at hc); all_goals (intro K' hK'; push_cast; (repeat' refine And.intro ?_ ?_); all_goals (first | (apply hK'; clear hK' K') | (refine ⟨trivial, trivial, ?_⟩; apply hK'; clear hK' K') | (intro hb; (try push_cast at hb); all_goals (intros; apply hK'; clear hK' K')) | ((first | refine call_L logRoom_con (fun _ _ => rfl) ?_ | refine call_L logStamp_con (fun _ _ => rfl) ?_); push_cast; (repeat' refine And.intro ?_ ?_); all_goals (first | (apply hK'; clear hK' K') | (intros; apply hK'; clear hK' K') | (clear hK' K'; first | omega | skip))) | (clear hK' K'; first | omega | skip)))))
    | (intro hc; (try push_cast at hc)))
          all_goals
            first
            | (exfalso; omega)
            | (exfalso; have h9 := hc; simp only [Bool.not_eq_true', decide_eq_false_iff_not] at h9; simp only [List.length_append, List.length_singleton] at hst2; omega)
            | (refine loopK_m (⟨D2, a2, e2, st2⟩, done ++ [r], i + 1) ⟨by simp only; omega, h2, h4, by simp only [List.length_append, List.length_singleton]; omega⟩ (by simp only; omega) ?_
               push_cast
               exact ⟨by omega, by simp⟩)
            | (exfalso
               have h9 := ‹(!decide (e2 - a2 = e - a - needN r.length)) = true›
               simp only [Bool.not_eq_true', decide_eq_false_iff_not] at h9
               omega)
    · have hok : LogOk ⟨D, a, e, st⟩ e.toNat 0 6 done := hok
      have hst : st = 6 + done.length := hok.st
      have hlen : (done.map toBytes).length = done.length := List.length_map _
      have hrec : recsN D 0 e 5 = (done, a) := by
        have := logOk_recs hok
        simpa using this
      have hnone : recsN D 0 e (5 + ((done.map toBytes).length : Int)) = ([], 0) := by
        rw [hlen]
        exact logOk_none hok (by omega)
      repeat' (first
    | apply go_seq | apply go_block | refine go_region_stop (id := 32) ?_ | apply go_region | apply go_skip | apply go_exit | apply go_label | apply go_ret | apply go_goto
    | apply seqK_n | apply seqK_x | apply seqK_r | apply seqK_j | apply blockK_j | apply loopK_j | apply jumpK_n | apply jumpK_x | apply jumpK_r | apply passK_n | apply passK_x | apply passK_r | apply straightK_n | apply straightK_x | apply straightK_r | apply blockK_n | apply blockK_r | apply blockK_hit | apply blockK_miss rfl | apply loopK_x | apply loopK_r | apply regK_go | apply finK_n | apply finK_r
    | (refine vres_go ?_; push_cast) | apply ops_nil | refine ops_in (w_i64 _ (by omega) (by omega)) ?_ | refine ops_in (w_u8 _ (by omega) (by omega)) ?_ | refine ops_in (w_u32 _ (by omega) (by omega)) ?_ | refine ops_in (w_u64 _ (by omega) (by omega)) ?_
    | (refine ops_put rfl rfl ?_; intro K' hK'; push_cast; (repeat' refine And.intro ?_ ?_); all_goals (first | (apply hK'; clear hK' K') | (refine ⟨trivial, trivial, ?_⟩; apply hK'; clear hK' K') | (intro hb; (try push_cast at hb); all_goals (intros; apply hK'; clear hK' K')) | ((first | refine call_O 9201 ?_); push_cast; (repeat' refine And.intro ?_ ?_); all_goals (first | (apply hK'; clear hK' K') | (intros; apply hK'; clear hK' K') | (clear hK' K'; first | omega | skip))) | (clear hK' K'; first | omega | skip)))
    | (refine ops_no rfl rfl ?_; intro K' hK'; push_cast; (repeat' refine And.intro ?_ ?_); all_goals (first | (apply hK'; clear hK' K') | (refine ⟨trivial, trivial, ?_⟩; apply hK'; clear hK' K') | (intro hb; (try push_cast at hb); all_goals (intros; apply hK'; clear hK' K')) | ((first | refine call_O 9201 ?_); push_cast; (repeat' refine And.intro ?_ ?_); all_goals (first | (apply hK'; clear hK' K') | (intros; apply hK'; clear hK' K') | (clear hK' K'; first | omega | skip))) | (clear hK' K'; first | omega | skip)))
    | (refine go_cond (by push_cast; first | done | rfl) ?_ ?_ <;> intro hc <;> (try push_cast at hc))
    | (refine ops_gt rfl rfl rfl (by push_cast; first | done | rfl) ?_)
    | (refine ops_gb rfl rfl rfl (by push_cast; first | done | rfl) ?_ ?_; focus (intro hc; (try push_cast at hc); all_goals (intro K' hK'; push_cast; (repeat' refine And.intro ?_ ?_); all_goals (first | (apply hK'; clear hK' K') | (refine ⟨trivial, trivial, ?_⟩; apply hK'; clear hK' K') | (intro hb; (try push_cast at hb); all_goals (intros; apply hK'; clear hK' K')) | ((first | refine call_O 9201 ?_); push_cast; (repeat' refine And.intro ?_ ?_); all_goals (first | (apply hK'; clear hK' K') | (intros; apply hK'; clear hK' K') | (clear hK' K'; first | omega | skip))) | (clear hK' K'; first | omega | skip)))))
    | (intro hc; (try push_cast at hc)))
      rw [hrec, hnone]
      apply regKS_go
      push_cast
      repeat' (first
    | apply go_seq | apply go_block | apply go_region | apply go_skip | apply go_exit | apply go_label | apply go_ret | apply go_goto
    | apply seqK_n | apply seqK_x | apply seqK_r | apply seqK_j | apply blockK_j | apply loopK_j | apply jumpK_n | apply jumpK_x | apply jumpK_r | apply passK_n | apply passK_x | apply passK_r | apply straightK_n | apply straightK_x | apply straightK_r | apply blockK_n | apply blockK_r | apply blockK_hit | apply blockK_miss rfl | apply loopK_x | apply loopK_r | apply regK_go | apply finK_n | apply finK_r
    | (refine vres_go ?_; push_cast) | apply ops_nil | refine ops_in (w_i64 _ (by omega) (by omega)) ?_ | refine ops_in (w_u8 _ (by omega) (by omega)) ?_ | refine ops_in (w_u32 _ (by omega) (by omega)) ?_ | refine ops_in (w_u64 _ (by omega) (by omega)) ?_
    | (refine ops_put rfl rfl ?_; intro K' hK'; push_cast; (repeat' refine And.intro ?_ ?_); all_goals (first | (apply hK'; clear hK' K') | (refine ⟨trivial, trivial, ?_⟩; apply hK'; clear hK' K') | (intro hb; (try push_cast at hb); all_goals (intros; apply hK'; clear hK' K')) | ((first | refine call_F same10_con (fun _ => rfl) ?_); push_cast; (repeat' refine And.intro ?_ ?_); all_goals (first | (apply hK'; clear hK' K') | (intros; apply hK'; clear hK' K') | (clear hK' K'; first | omega | skip))) | (clear hK' K'; first | omega | skip)))
    | (refine ops_no rfl rfl ?_; intro K' hK'; push_cast; (repeat' refine And.intro ?_ ?_); all_goals (first | (apply hK'; clear hK' K') | (refine ⟨trivial, trivial, ?_⟩; apply hK'; clear hK' K') | (intro hb; (try push_cast at hb); all_goals (intros; apply hK'; clear hK' K')) | ((first | refine call_F same10_con (fun _ => rfl) ?_); push_cast; (repeat' refine And.intro ?_ ?_); all_goals (first | (apply hK'; clear hK' K') | (intros; apply hK'; clear hK' K') | (clear hK' K'; first | omega | skip))) | (clear hK' K'; first | omega | skip)))
    | (refine go_cond (by push_cast; first | done | rfl) ?_ ?_ <;> intro hc <;> (try push_cast at hc))
    | (refine ops_gt rfl rfl rfl (by push_cast; first | done | rfl) ?_)
    | (refine ops_gb rfl rfl rfl (by push_cast; first | done | rfl) ?_ ?_; focus (intro hc; (try push_cast at hc); all_goals (intro K' hK'; push_cast; (repeat' refine And.intro ?_ ?_); all_goals (first | (apply hK'; clear hK' K') | (refine ⟨trivial, trivial, ?_⟩; apply hK'; clear hK' K') | (intro hb; (try push_cast at hb); all_goals (intros; apply hK'; clear hK' K')) | ((first | refine call_F same10_con (fun _ => rfl) ?_); push_cast; (repeat' refine And.intro ?_ ?_); all_goals (first | (apply hK'; clear hK' K') | (intros; apply hK'; clear hK' K') | (clear hK' K'; first | omega | skip))) | (clear hK' K'; first | omega | skip)))))
    | (intro hc; (try push_cast at hc)))
theorem room_con : Con Cx.P 13 (.pair (.int .i64) (.pair (.slice (.slice (.int .u8))) (.unit))) (fun x => (fun (n : Int) (rs : List (List Int)) => True) x.1 x.2.1) (fun x => (fun (n : Int) (rs : List (List Int)) => [.bool true]) x.1 x.2.1) := ⟨isfn13, fun x h => room_fn x.1 x.2.1⟩
end
end Go.Proofs.Ytnmjcdlgfimnaaa
