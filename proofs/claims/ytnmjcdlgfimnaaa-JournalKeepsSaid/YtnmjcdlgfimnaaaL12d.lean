/- Chapter 12's statements: what was answered is there. -/
import Derived.Test.YtnmjcdlgfimnaaaJ3
namespace Go.Proofs.Ytnmjcdlgfimnaaa
section
set_option linter.unusedSimpArgs false
set_option linter.unusedVariables false
set_option maxRecDepth 20000
attribute [local irreducible] vcOps vcCode vcA vcSch Wc
set_option maxHeartbeats 8000000
attribute [local push_cast] slWrite_len
theorem jKeeps_fn (n : Int) (acts : List L12Act) : Pure Cx.P 21 [.int .i64 n, .dat (.slice rL12Act) acts] [.bool true] := by
  refine Pure.go2 (E := Cx.env) (fn := Try.f21) (res := [_]) Try.func21 isfn21 rfl rfl rfl (by kernel_rfl) rfl ?_
  push_cast
  try intro hf
  have hn0 : numB 0 = [0] := numB_low (by decide)
  have hsp0 : spanN (closeN (numB 0 ++ [])).length ≠ 0 ∧ spanN (closeN (numB 0 ++ [])).length ≤ 4 := by rw [close_len, hn0]; decide
  have e8 : (2 * 4 : Int) = 8 := by decide
  have hbl : 10 ≤ n → n ≤ 60 → ((dBlank n).Base.length : Int) = n := fun h1 h2 => blank_len (by omega) (by omega)
  have hnew : 10 ≤ n → n ≤ 60 → (openL (dBlank n) 8 (dBlank n).Base.length 0).st = 1 ∧ (slWrite (dBlank n) 0 4 (numB ((openL (dBlank n) 8 (dBlank n).Base.length 0).st - 1).toNat)).2.2 = 0 ∧ JF (jNew (dBlank n) 4 []) n.toNat 1 0 [] [] := fun h1 h2 => by
    have h3 := jok_new (n := n) (z := 4) (by omega) (by omega) [] hsp0
    rw [e8, List.append_nil] at h3
    exact ⟨h3.1, h3.2.1, jf_new (by omega) (by omega) (by simp) hsp0⟩
  repeat' (first
    | (intro (K' : KT) hK'; push_cast; (repeat' refine And.intro ?_ ?_); all_goals (first | (apply hK'; clear hK' K') | (refine ⟨trivial, trivial, ?_⟩; apply hK'; clear hK' K') | (intro hb; (try push_cast at hb); all_goals (intros; apply hK'; clear hK' K')) | ((first | refine call_F jAlive_con (fun _ => rfl) ?_ | refine call_F great12_con (fun _ => rfl) ?_ | refine call_new Blank_con 9100 ?_ | refine call_Fo 9300 9200 ?_); push_cast; (repeat' refine And.intro ?_ ?_); all_goals (first | (apply hK'; clear hK' K') | (intros; apply hK'; clear hK' K') | (clear hK' K'; first | omega | skip))) | (clear hK' K'; first | omega | skip)))
    | apply go_seq | apply go_block | refine go_region_stop (id := 6) ?_ | apply go_region | apply go_skip | apply go_exit | apply go_ret
    | apply seqK_n | apply seqK_x | apply seqK_r | apply blockK_n | apply blockK_r | apply blockK_hit | apply blockK_miss rfl | apply loopK_x | apply loopK_r | apply regK_go | apply finK_n | apply finK_r
    | (refine vres_go ?_; push_cast) | apply ops_nil | refine ops_in (w_i64 _ (by omega) (by omega)) ?_ | refine ops_in (w_u8 _ (by omega) (by omega)) ?_ | refine ops_in (w_u32 _ (by omega) (by omega)) ?_ | refine ops_in (w_u64 _ (by omega) (by omega)) ?_
    | refine ops_put rfl rfl ?_ | refine ops_no rfl rfl ?_
    | (refine go_cond (by push_cast; first | done | rfl) ?_ ?_ <;> intro hc <;> (try push_cast at hc))
    | refine ops_gt rfl rfl rfl (by push_cast; first | done | rfl) ?_
    | refine ops_gb rfl rfl rfl (by push_cast; first | done | rfl) ?_ ?_
    | refine go_draw (id := 19) [1, 2, 4, 5, 6] [8, 10] [8, 11] (.or 0 (.or 3 (.or 7 (.or 8 (.free 9 (.or 10 (.done) (.stop))) (.stop)) (.stop)) (.or 7 (.or 3 (.or 8 (.free 9 (.or 10 (.done) (.stop))) (.stop)) (.stop)) (.stop))) (.or 7 (.or 0 (.or 3 (.or 8 (.free 9 (.or 10 (.done) (.stop))) (.stop)) (.stop)) (.stop)) (.stop))) wide (by kernel_rfl) ?_
    | apply goA_nil | apply goS_done | apply goS_stop
    | refine goA_put rfl rfl rfl ?_ | refine goS_free rfl rfl rfl ?_
    | (refine goS_late rfl rfl rfl rfl ?_ ?_; rotate_left) | (refine goS_late' rfl rfl rfl rfl ?_ ?_; rotate_left)
    | (refine goS_hid rfl rfl rfl rfl ?_ ?_; rotate_left; focus (intro K' hK'; push_cast; (repeat' refine And.intro ?_ ?_); all_goals (first | (refine hK' _ _ _ _ _ (by push_cast) (by push_cast; first | done | rfl) ?_; clear hK' K') | ((first | refine call_F jAlive_con (fun _ => rfl) ?_ | refine call_F great12_con (fun _ => rfl) ?_ | refine call_new Blank_con 9100 ?_ | refine call_Fo 9300 9200 ?_); push_cast; (repeat' refine And.intro ?_ ?_); all_goals (first | (refine hK' _ _ _ _ _ (by push_cast) (by push_cast; first | done | rfl) ?_; clear hK' K') | (intros; refine hK' _ _ _ _ _ (by push_cast) (by push_cast; first | done | rfl) ?_; clear hK' K') | (clear hK' K'; first | omega | skip))) | (clear hK' K'; first | omega | skip))))
    | refine goA_gt rfl rfl rfl rfl (by push_cast; first | done | rfl) ?_
    | refine goA_gb rfl rfl rfl rfl (by push_cast; first | done | rfl) ?_ ?_
    | (intro (hc : (_ : Prop)); (try push_cast at hc)) | intro (hc : R08Item) | intro (hc : Int) | intro (hc : Nat))
  · exact Nat.zero_le _
  have hlen := great12_len ‹greatB12 acts = false›
  have hJ0 := (hnew (by omega) (by omega)).2.2
  have hz : (jNew (dBlank n) 4 []).z = 4 := rfl
  have hr : (jNew (dBlank n) 4 []).r = true := rfl
  clear hnew hsp0 hn0 hbl
  generalize jNew (dBlank n) 4 [] = J at *
  obtain ⟨⟨D0, a0, e0, st0⟩, z, b⟩ := J
  simp only at hz hr
  subst hz hr
  apply regKS_go
  push_cast
  repeat' (first
    | (intro (K' : KT) hK'; push_cast; (repeat' refine And.intro ?_ ?_); all_goals (first | (apply hK'; clear hK' K') | (refine ⟨trivial, trivial, ?_⟩; apply hK'; clear hK' K') | (intro hb; (try push_cast at hb); all_goals (intros; apply hK'; clear hK' K')) | (clear hK' K'; first | omega | skip)))
    | apply go_seq | apply go_block | apply go_region | apply go_skip | apply go_exit | apply go_ret
    | apply seqK_n | apply seqK_x | apply seqK_r | apply blockK_n | apply blockK_r | apply blockK_hit | apply blockK_miss rfl | apply loopK_x | apply loopK_r | apply regK_go | apply finK_n | apply finK_r
    | (refine vres_go ?_; push_cast) | apply ops_nil | refine ops_in (w_i64 _ (by omega) (by omega)) ?_ | refine ops_in (w_u8 _ (by omega) (by omega)) ?_ | refine ops_in (w_u32 _ (by omega) (by omega)) ?_ | refine ops_in (w_u64 _ (by omega) (by omega)) ?_
    | refine ops_put rfl rfl ?_ | refine ops_no rfl rfl ?_
    | (refine go_cond (by push_cast; first | done | rfl) ?_ ?_ <;> intro hc <;> (try push_cast at hc))
    | refine ops_gt rfl rfl rfl (by push_cast; first | done | rfl) ?_
    | refine ops_gb rfl rfl rfl (by push_cast; first | done | rfl) ?_ ?_
    | refine go_draw (id := 19) [1, 2, 4, 5, 6] [8, 10] [8, 11] (.or 0 (.or 3 (.or 7 (.or 8 (.free 9 (.or 10 (.done) (.stop))) (.stop)) (.stop)) (.or 7 (.or 3 (.or 8 (.free 9 (.or 10 (.done) (.stop))) (.stop)) (.stop)) (.stop))) (.or 7 (.or 0 (.or 3 (.or 8 (.free 9 (.or 10 (.done) (.stop))) (.stop)) (.stop)) (.stop)) (.stop))) wide (by kernel_rfl) ?_
    | apply goA_nil | apply goS_done | apply goS_stop
    | refine goA_put rfl rfl rfl ?_ | refine goS_free rfl rfl rfl ?_
    | (refine goS_late rfl rfl rfl rfl ?_ ?_; rotate_left) | (refine goS_late' rfl rfl rfl rfl ?_ ?_; rotate_left)
    | (refine goS_hid rfl rfl rfl rfl ?_ ?_; rotate_left; focus (intro K' hK'; push_cast; (repeat' refine And.intro ?_ ?_); all_goals (first | (refine hK' _ _ _ _ _ (by push_cast) (by push_cast; first | done | rfl) ?_; clear hK' K') | (clear hK' K'; first | omega | skip))))
    | refine goA_gt rfl rfl rfl rfl (by push_cast; first | done | rfl) ?_
    | refine goA_gb rfl rfl rfl rfl (by push_cast; first | done | rfl) ?_ ?_
    | (intro (hc : (_ : Prop)); (try push_cast at hc)) | intro (hc : R08Item) | intro (hc : Int) | intro (hc : Nat))
  generalize hmm : n.toNat = m at *
  have hm : 10 ≤ m ∧ m ≤ 60 := by omega
  refine go_loop2 [4, 6, 11, 12, 13, 14, 15, 16, 17, 18, 19, 20, 21, 23, 25, 40, 42, 43, 48, 55, 56, 57, 58, 59, 60, 61, 62, 63, 64, 65, 66, 67, 68, 69, 70, 71, 72, 73, 74, 75, 76, 77, 78, 79, 80, 81, 82, 83, 84, 85, 86, 87, 88, 89, 90, 91, 92, 93, 94, 95, 96, 97, 98, 99, 100, 101, 102, 103, 104, 105, 106, 107, 108, 109, 110, 111, 112, 113, 114, 115, 116, 117, 118, 119, 120, 121, 122, 123, 124, 125, 126, 127, 128, 129, 130, 131, 132, 133, 134, 135, 136, 137, 138, 139, 140, 141, 142, 143, 144, 145, 146, 147, 148, 149, 150, 151, 152, 153, 154, 155, 156, 157, 158, 159, 160, 161, 162, 163, 164, 165, 166, 167, 168, 169, 170, 171, 172, 173, 174, 175, 176, 177, 178, 179, 180, 181, 182, 183, 184, 185, 186, 187, 188, 189, 190, 191, 192, 193, 194, 195, 196, 197, 198, 199, 200] [8, 9, 11, 12, 67, 68, 71, 74, 75, 76, 81, 85, 88, 98, 103, 106, 117, 123, 129, 135, 136, 139, 147, 148, 149, 160, 165, 169, 176, 181, 182, 183, 192, 9100, 9200, 9300] (fun (p : KS) => p.i ≤ acts.length ∧ KInv m p) (fun (p : KS) => [(55, .one (.l (.int .i64 p.i))), (6, .one (.l (.ptr 9300 [] 0)))]) (fun (p : KS) => [(9100, .obj DiskO p.L.D), (9200, .segs [.ptr 9100 [] 0, .int .i64 p.L.a, .int .i64 p.L.e, .int .u64 p.L.st]), (9300, .segs [.ptr 9100 [] 0, .int .i64 4, .ptr 9200 [] 0, .bool p.b]), (8, .segs [.dat rL12Past p.now]), (9, .segs [.dat rL12Past p.may])]) (fun (p : KS) => acts.length - p.i) ⟨⟨D0, a0, e0, st0⟩, true, ⟨[], []⟩, ⟨[], []⟩, 0⟩ ?_ (by push_cast; first | done | rfl) (by push_cast; first | done | rfl) ?_ ?_
  · exact ⟨Nat.zero_le _, .inl ⟨rfl, rfl, 1, 0, [], [], hJ0, rfl, by simp [bytesOk], by simp, by simp, by simp⟩⟩
  · push_cast
    first | done | rfl
  · rintro ⟨⟨D, a, e, st⟩, b, now, may, i⟩ ⟨hi, hinv⟩
    simp only at hi
    push_cast
    intro hg
    clear hJ0
    have hpow := fun keep => kinv_power hm.2 hinv keep
    have haliv := kinv_alive hm.2 hinv
    obtain ⟨hbase, hq⟩ := kinv_len hinv
    simp only at hpow haliv hbase hq
    by_cases hk24 : (acts.getD i ⟨0, 0, [], []⟩).Kind = 2 ∨ (acts.getD i ⟨0, 0, [], []⟩).Kind = 4
    · repeat' (first
    | (intro (K' : KT) hK'; push_cast; (repeat' refine And.intro ?_ ?_); all_goals (first | (apply hK'; clear hK' K') | (refine ⟨trivial, trivial, ?_⟩; apply hK'; clear hK' K') | (intro hb; (try push_cast at hb); all_goals (intros; apply hK'; clear hK' K')) | (clear hK' K'; first | omega | skip)))
    | apply go_seq | apply go_block | refine go_region_stop (id := 18) ?_ | refine go_region_stop (id := 22) ?_ | refine go_region_stop (id := 24) ?_ | apply go_region | apply go_skip | apply go_exit | apply go_ret
    | apply seqK_n | apply seqK_x | apply seqK_r | apply blockK_n | apply blockK_r | apply blockK_hit | apply blockK_miss rfl | apply loopK_x | apply loopK_r | apply regK_go | apply finK_n | apply finK_r
    | (refine vres_go ?_; push_cast) | apply ops_nil | refine ops_in (w_i64 _ (by omega) (by omega)) ?_ | refine ops_in (w_u8 _ (by omega) (by omega)) ?_ | refine ops_in (w_u32 _ (by omega) (by omega)) ?_ | refine ops_in (w_u64 _ (by omega) (by omega)) ?_
    | refine ops_put rfl rfl ?_ | refine ops_no rfl rfl ?_
    | (refine go_cond (by push_cast; first | done | rfl) ?_ ?_ <;> intro hc <;> (try push_cast at hc))
    | refine ops_gt rfl rfl rfl (by push_cast; first | done | rfl) ?_
    | refine ops_gb rfl rfl rfl (by push_cast; first | done | rfl) ?_ ?_
    | refine go_draw (id := 19) [1, 2, 4, 5, 6] [8, 10] [8, 11] (.or 0 (.or 3 (.or 7 (.or 8 (.free 9 (.or 10 (.done) (.stop))) (.stop)) (.stop)) (.or 7 (.or 3 (.or 8 (.free 9 (.or 10 (.done) (.stop))) (.stop)) (.stop)) (.stop))) (.or 7 (.or 0 (.or 3 (.or 8 (.free 9 (.or 10 (.done) (.stop))) (.stop)) (.stop)) (.stop)) (.stop))) wide (by kernel_rfl) ?_
    | apply goA_nil | apply goS_done | apply goS_stop
    | refine goA_put rfl rfl rfl ?_ | refine goS_free rfl rfl rfl ?_
    | (refine goS_late rfl rfl rfl rfl ?_ ?_; rotate_left) | (refine goS_late' rfl rfl rfl rfl ?_ ?_; rotate_left)
    | (refine goS_hid rfl rfl rfl rfl ?_ ?_; rotate_left; focus (intro K' hK'; push_cast; (repeat' refine And.intro ?_ ?_); all_goals (first | (refine hK' _ _ _ _ _ (by push_cast) (by push_cast; first | done | rfl) ?_; clear hK' K') | (clear hK' K'; first | omega | skip))))
    | refine goA_gt rfl rfl rfl rfl (by push_cast; first | done | rfl) ?_
    | refine goA_gb rfl rfl rfl rfl (by push_cast; first | done | rfl) ?_ ?_
    | (intro (hc : (_ : Prop)); (try push_cast at hc)) | intro (hc : R08Item) | intro (hc : Int) | intro (hc : Nat))
      all_goals (try (exfalso; omega))
      apply regKS_go
      apply seqK_n
      refine go_joinK [90, 91, 92] [] (fun _ : Unit => True) (fun _ => [(90, .one (.l (.bool true)))]) (fun _ => []) (by push_cast; first | done | rfl) (by push_cast; first | done | rfl) ?_ ?_
      · intro K' hj' hx'
        repeat' (first
    | (intro (K' : KT) hK'; push_cast; (repeat' refine And.intro ?_ ?_); all_goals (first | (apply hK'; clear hK' K') | (refine ⟨trivial, trivial, ?_⟩; apply hK'; clear hK' K') | (intro hb; (try push_cast at hb); all_goals (intros; apply hK'; clear hK' K')) | (clear hK' K'; first | omega | skip)))
    | apply go_seq | apply go_block | apply go_region | apply go_skip | apply go_exit | apply go_ret
    | apply seqK_n | apply seqK_x | apply seqK_r | apply blockK_n | apply blockK_r | apply blockK_hit | apply blockK_miss rfl | apply loopK_x | apply loopK_r | apply finK_n | apply finK_r
    | (refine vres_go ?_; push_cast) | apply ops_nil | refine ops_in (w_i64 _ (by omega) (by omega)) ?_ | refine ops_in (w_u8 _ (by omega) (by omega)) ?_ | refine ops_in (w_u32 _ (by omega) (by omega)) ?_ | refine ops_in (w_u64 _ (by omega) (by omega)) ?_
    | refine ops_put rfl rfl ?_ | refine ops_no rfl rfl ?_
    | (refine go_cond (by push_cast; first | done | rfl) ?_ ?_ <;> intro hc <;> (try push_cast at hc))
    | refine ops_gt rfl rfl rfl (by push_cast; first | done | rfl) ?_
    | refine ops_gb rfl rfl rfl (by push_cast; first | done | rfl) ?_ ?_
    | refine go_draw (id := 19) [1, 2, 4, 5, 6] [8, 10] [8, 11] (.or 0 (.or 3 (.or 7 (.or 8 (.free 9 (.or 10 (.done) (.stop))) (.stop)) (.stop)) (.or 7 (.or 3 (.or 8 (.free 9 (.or 10 (.done) (.stop))) (.stop)) (.stop)) (.stop))) (.or 7 (.or 0 (.or 3 (.or 8 (.free 9 (.or 10 (.done) (.stop))) (.stop)) (.stop)) (.stop)) (.stop))) wide (by kernel_rfl) ?_
    | apply goA_nil | apply goS_done | apply goS_stop
    | refine goA_put rfl rfl rfl ?_ | refine goS_free rfl rfl rfl ?_
    | (refine goS_late rfl rfl rfl rfl ?_ ?_; rotate_left) | (refine goS_late' rfl rfl rfl rfl ?_ ?_; rotate_left)
    | (refine goS_hid rfl rfl rfl rfl ?_ ?_; rotate_left; focus (intro K' hK'; push_cast; (repeat' refine And.intro ?_ ?_); all_goals (first | (refine hK' _ _ _ _ _ (by push_cast) (by push_cast; first | done | rfl) ?_; clear hK' K') | (clear hK' K'; first | omega | skip))))
    | refine goA_gt rfl rfl rfl rfl (by push_cast; first | done | rfl) ?_
    | refine goA_gb rfl rfl rfl rfl (by push_cast; first | done | rfl) ?_ ?_
    | (intro (hc : (_ : Prop)); (try push_cast at hc)) | intro (hc : R08Item) | intro (hc : Int) | intro (hc : Nat))
        all_goals first
          | (exfalso; omega)
          | (refine hj' () _ trivial ?_; push_cast; done)
          | (refine hj' () _ trivial ?_; push_cast; simp only [*, decide_true]; done)
          | (refine hj' () _ trivial ?_; push_cast; omega)
          | trace_state
      · rintro ⟨⟩ _
        apply seqK_n
        push_cast
        refine go_cond (by push_cast; first | done | rfl) ?_ ?_ <;> intro hc <;> (try push_cast at hc)
        repeat apply go_seq
        refine go_joinK [93, 94, 95, 96, 97, 98, 99] [] (fun v : Bool => v = false → D.Dead = false) (fun v => [(99, .one (.l (.bool v)))]) (fun _ => []) (by push_cast; first | done | rfl) (by push_cast; first | done | rfl) ?_ ?_
        · intro K' hj' hx'
          repeat' (first
    | (intro (K' : KT) hK'; push_cast; (repeat' refine And.intro ?_ ?_); all_goals (first | (apply hK'; clear hK' K') | (refine ⟨trivial, trivial, ?_⟩; apply hK'; clear hK' K') | (intro hb; (try push_cast at hb); all_goals (intros; apply hK'; clear hK' K')) | ((first | refine call_1 Dead_con (fun _ _ => rfl) ?_); push_cast; (repeat' refine And.intro ?_ ?_); all_goals (first | (apply hK'; clear hK' K') | (intros; apply hK'; clear hK' K') | (clear hK' K'; first | omega | skip))) | (clear hK' K'; first | omega | skip)))
    | apply go_seq | apply go_block | apply go_region | apply go_skip | apply go_exit | apply go_ret
    | apply seqK_n | apply seqK_x | apply seqK_r | apply blockK_n | apply blockK_r | apply blockK_hit | apply blockK_miss rfl | apply loopK_x | apply loopK_r | apply finK_n | apply finK_r
    | (refine vres_go ?_; push_cast) | apply ops_nil | refine ops_in (w_i64 _ (by omega) (by omega)) ?_ | refine ops_in (w_u8 _ (by omega) (by omega)) ?_ | refine ops_in (w_u32 _ (by omega) (by omega)) ?_ | refine ops_in (w_u64 _ (by omega) (by omega)) ?_
    | refine ops_put rfl rfl ?_ | refine ops_no rfl rfl ?_
    | (refine go_cond (by push_cast; first | done | rfl) ?_ ?_ <;> intro hc <;> (try push_cast at hc))
    | refine ops_gt rfl rfl rfl (by push_cast; first | done | rfl) ?_
    | refine ops_gb rfl rfl rfl (by push_cast; first | done | rfl) ?_ ?_
    | refine go_draw (id := 19) [1, 2, 4, 5, 6] [8, 10] [8, 11] (.or 0 (.or 3 (.or 7 (.or 8 (.free 9 (.or 10 (.done) (.stop))) (.stop)) (.stop)) (.or 7 (.or 3 (.or 8 (.free 9 (.or 10 (.done) (.stop))) (.stop)) (.stop)) (.stop))) (.or 7 (.or 0 (.or 3 (.or 8 (.free 9 (.or 10 (.done) (.stop))) (.stop)) (.stop)) (.stop)) (.stop))) wide (by kernel_rfl) ?_
    | apply goA_nil | apply goS_done | apply goS_stop
    | refine goA_put rfl rfl rfl ?_ | refine goS_free rfl rfl rfl ?_
    | (refine goS_late rfl rfl rfl rfl ?_ ?_; rotate_left) | (refine goS_late' rfl rfl rfl rfl ?_ ?_; rotate_left)
    | (refine goS_hid rfl rfl rfl rfl ?_ ?_; rotate_left; focus (intro K' hK'; push_cast; (repeat' refine And.intro ?_ ?_); all_goals (first | (refine hK' _ _ _ _ _ (by push_cast) (by push_cast; first | done | rfl) ?_; clear hK' K') | ((first | refine call_1 Dead_con (fun _ _ => rfl) ?_); push_cast; (repeat' refine And.intro ?_ ?_); all_goals (first | (refine hK' _ _ _ _ _ (by push_cast) (by push_cast; first | done | rfl) ?_; clear hK' K') | (intros; refine hK' _ _ _ _ _ (by push_cast) (by push_cast; first | done | rfl) ?_; clear hK' K') | (clear hK' K'; first | omega | skip))) | (clear hK' K'; first | omega | skip))))
    | refine goA_gt rfl rfl rfl rfl (by push_cast; first | done | rfl) ?_
    | refine goA_gb rfl rfl rfl rfl (by push_cast; first | done | rfl) ?_ ?_
    | (intro (hc : (_ : Prop)); (try push_cast at hc)) | intro (hc : R08Item) | intro (hc : Int) | intro (hc : Nat))
          all_goals first
            | (exfalso; omega)
            | (refine hj' true _ (fun h => absurd h (by decide)) ?_; push_cast; done)
            | (refine hj' D.Dead _ (fun h => h) ?_; push_cast; done)
            | (refine hj' true _ (fun h => absurd h (by decide)) ?_; push_cast; simp only [*, decide_true]; done)
            | trace_state
        rintro v hv
        apply seqK_n
        push_cast
        refine go_joinK [100, 101, 102, 103] [9100] (fun E : R08Disk => KFound E m now may i) (fun _ => []) (fun E => [(9100, .obj DiskO E)]) (by push_cast; first | done | rfl) (by push_cast; first | done | rfl) ?_ ?_
        · intro K' hj' hx'
          repeat' (first
    | (intro (K' : KT) hK'; push_cast; (repeat' refine And.intro ?_ ?_); all_goals (first | (apply hK'; clear hK' K') | (refine ⟨trivial, trivial, ?_⟩; apply hK'; clear hK' K') | (intro hb; (try push_cast at hb); all_goals (intros; apply hK'; clear hK' K')) | ((first | refine call_1 Power_con (fun _ _ => rfl) ?_); push_cast; (repeat' refine And.intro ?_ ?_); all_goals (first | (apply hK'; clear hK' K') | (intros; apply hK'; clear hK' K') | (clear hK' K'; first | omega | skip))) | (clear hK' K'; first | omega | skip)))
    | apply go_seq | apply go_block | apply go_region | apply go_skip | apply go_exit | apply go_ret
    | apply seqK_n | apply seqK_x | apply seqK_r | apply blockK_n | apply blockK_r | apply blockK_hit | apply blockK_miss rfl | apply loopK_x | apply loopK_r | apply finK_n | apply finK_r
    | (refine vres_go ?_; push_cast) | apply ops_nil | refine ops_in (w_i64 _ (by omega) (by omega)) ?_ | refine ops_in (w_u8 _ (by omega) (by omega)) ?_ | refine ops_in (w_u32 _ (by omega) (by omega)) ?_ | refine ops_in (w_u64 _ (by omega) (by omega)) ?_
    | refine ops_put rfl rfl ?_ | refine ops_no rfl rfl ?_
    | (refine go_cond (by push_cast; first | done | rfl) ?_ ?_ <;> intro hc <;> (try push_cast at hc))
    | refine ops_gt rfl rfl rfl (by push_cast; first | done | rfl) ?_
    | refine ops_gb rfl rfl rfl (by push_cast; first | done | rfl) ?_ ?_
    | refine go_draw (id := 19) [1, 2, 4, 5, 6] [8, 10] [8, 11] (.or 0 (.or 3 (.or 7 (.or 8 (.free 9 (.or 10 (.done) (.stop))) (.stop)) (.stop)) (.or 7 (.or 3 (.or 8 (.free 9 (.or 10 (.done) (.stop))) (.stop)) (.stop)) (.stop))) (.or 7 (.or 0 (.or 3 (.or 8 (.free 9 (.or 10 (.done) (.stop))) (.stop)) (.stop)) (.stop)) (.stop))) wide (by kernel_rfl) ?_
    | apply goA_nil | apply goS_done | apply goS_stop
    | refine goA_put rfl rfl rfl ?_ | refine goS_free rfl rfl rfl ?_
    | (refine goS_late rfl rfl rfl rfl ?_ ?_; rotate_left) | (refine goS_late' rfl rfl rfl rfl ?_ ?_; rotate_left)
    | (refine goS_hid rfl rfl rfl rfl ?_ ?_; rotate_left; focus (intro K' hK'; push_cast; (repeat' refine And.intro ?_ ?_); all_goals (first | (refine hK' _ _ _ _ _ (by push_cast) (by push_cast; first | done | rfl) ?_; clear hK' K') | ((first | refine call_1 Power_con (fun _ _ => rfl) ?_); push_cast; (repeat' refine And.intro ?_ ?_); all_goals (first | (refine hK' _ _ _ _ _ (by push_cast) (by push_cast; first | done | rfl) ?_; clear hK' K') | (intros; refine hK' _ _ _ _ _ (by push_cast) (by push_cast; first | done | rfl) ?_; clear hK' K') | (clear hK' K'; first | omega | skip))) | (clear hK' K'; first | omega | skip))))
    | refine goA_gt rfl rfl rfl rfl (by push_cast; first | done | rfl) ?_
    | refine goA_gb rfl rfl rfl rfl (by push_cast; first | done | rfl) ?_ ?_
    | (intro (hc : (_ : Prop)); (try push_cast at hc)) | intro (hc : R08Item) | intro (hc : Int) | intro (hc : Nat))
          all_goals first
            | (exfalso; omega)
            | (refine hj' (dPower D (acts.getD i ⟨0, 0, [], []⟩).Keep) _ (hpow _) ?_; push_cast; done)
            | (refine hj' D _ (haliv (hv (by simp_all))) ?_; push_cast; done)
            | trace_state
        · rintro E ⟨g, fl, c, rs, hfin, hor, hcb, hrb, hrs60⟩
          apply seqK_n
          push_cast
          clear hpow haliv hinv
          have hpast : fits12 now c rs = true ∨ fits12 may c rs = true := by
            rcases hor with h | h
            · left; rw [← h]; exact fits_self c rs
            · right; rw [← h]; exact fits_self c rs
          obtain ⟨hs, hcl, hEb, hEq0⟩ := finds_len hfin
          have hEq : E.Queue.length = 0 := by rw [hEq0]; rfl
          have hflb2 := hfin.flb
          have hfn : (fl.toNat : Int) = fl := by omega
          have hr1 : (recsN E 8 E.Base.length (fl.toNat : Int)).1 = rs := by rw [hEb, hfn]; exact hfin.recs
          repeat' (first
    | (intro (K' : KT) hK'; push_cast; (repeat' refine And.intro ?_ ?_); all_goals (first | (apply hK'; clear hK' K') | (refine ⟨trivial, trivial, ?_⟩; apply hK'; clear hK' K') | (intro hb; (try push_cast at hb); all_goals (intros; apply hK'; clear hK' K')) | ((first | refine call_Jo 9301 9201 _ _ _ rfl hs ?_); push_cast; (repeat' refine And.intro ?_ ?_); all_goals (first | (apply hK'; clear hK' K') | (intros; apply hK'; clear hK' K') | (clear hK' K'; first | omega | skip))) | (clear hK' K'; first | omega | skip)))
    | apply go_seq | apply go_block | refine go_region_stop (id := 28) ?_ | apply go_region | apply go_skip | apply go_exit | apply go_ret
    | apply seqK_n | apply seqK_x | apply seqK_r | apply blockK_n | apply blockK_r | apply blockK_hit | apply blockK_miss rfl | apply loopK_x | apply loopK_r | apply regK_go | apply finK_n | apply finK_r
    | (refine vres_go ?_; push_cast) | apply ops_nil | refine ops_in (w_i64 _ (by omega) (by omega)) ?_ | refine ops_in (w_u8 _ (by omega) (by omega)) ?_ | refine ops_in (w_u32 _ (by omega) (by omega)) ?_ | refine ops_in (w_u64 _ (by omega) (by omega)) ?_
    | refine ops_put rfl rfl ?_ | refine ops_no rfl rfl ?_
    | (refine go_cond (by push_cast; first | done | rfl) ?_ ?_ <;> intro hc <;> (try push_cast at hc))
    | refine ops_gt rfl rfl rfl (by push_cast; first | done | rfl) ?_
    | refine ops_gb rfl rfl rfl (by push_cast; first | done | rfl) ?_ ?_
    | refine go_draw (id := 19) [1, 2, 4, 5, 6] [8, 10] [8, 11] (.or 0 (.or 3 (.or 7 (.or 8 (.free 9 (.or 10 (.done) (.stop))) (.stop)) (.stop)) (.or 7 (.or 3 (.or 8 (.free 9 (.or 10 (.done) (.stop))) (.stop)) (.stop)) (.stop))) (.or 7 (.or 0 (.or 3 (.or 8 (.free 9 (.or 10 (.done) (.stop))) (.stop)) (.stop)) (.stop)) (.stop))) wide (by kernel_rfl) ?_
    | apply goA_nil | apply goS_done | apply goS_stop
    | refine goA_put rfl rfl rfl ?_ | refine goS_free rfl rfl rfl ?_
    | (refine goS_late rfl rfl rfl rfl ?_ ?_; rotate_left) | (refine goS_late' rfl rfl rfl rfl ?_ ?_; rotate_left)
    | (refine goS_hid rfl rfl rfl rfl ?_ ?_; rotate_left; focus (intro K' hK'; push_cast; (repeat' refine And.intro ?_ ?_); all_goals (first | (refine hK' _ _ _ _ _ (by push_cast) (by push_cast; first | done | rfl) ?_; clear hK' K') | ((first | refine call_Jo 9301 9201 _ _ _ rfl hs ?_); push_cast; (repeat' refine And.intro ?_ ?_); all_goals (first | (refine hK' _ _ _ _ _ (by push_cast) (by push_cast; first | done | rfl) ?_; clear hK' K') | (intros; refine hK' _ _ _ _ _ (by push_cast) (by push_cast; first | done | rfl) ?_; clear hK' K') | (clear hK' K'; first | omega | skip))) | (clear hK' K'; first | omega | skip))))
    | refine goA_gt rfl rfl rfl rfl (by push_cast; first | done | rfl) ?_
    | refine goA_gb rfl rfl rfl rfl (by push_cast; first | done | rfl) ?_ ?_
    | (intro (hc : (_ : Prop)); (try push_cast at hc)) | intro (hc : R08Item) | intro (hc : Int) | intro (hc : Nat))
          rw [hr1]
          apply regKS_go
          apply seqK_n
          repeat apply go_seq
          refine go_joinK [111, 112, 113, 114, 115, 116, 117, 118, 119, 120, 121, 122, 123, 124, 125, 126] [] (fun _ : Unit => True) (fun _ => [(126, .one (.l (.bool false)))]) (fun _ => []) (by push_cast; first | done | rfl) (by push_cast; first | done | rfl) ?_ ?_
          · intro K' hj' hx'
            repeat' (first
    | (intro (K' : KT) hK'; push_cast; (repeat' refine And.intro ?_ ?_); all_goals (first | (apply hK'; clear hK' K') | (refine ⟨trivial, trivial, ?_⟩; apply hK'; clear hK' K') | (intro hb; (try push_cast at hb); all_goals (intros; apply hK'; clear hK' K')) | ((first | refine call_N fits_con (fun _ => rfl) ?_); push_cast; (repeat' refine And.intro ?_ ?_); all_goals (first | (apply hK'; clear hK' K') | (intros; apply hK'; clear hK' K') | (clear hK' K'; first | omega | skip))) | (clear hK' K'; first | omega | skip)))
    | apply go_seq | apply go_block | apply go_region | apply go_skip | apply go_exit | apply go_ret
    | apply seqK_n | apply seqK_x | apply seqK_r | apply blockK_n | apply blockK_r | apply blockK_hit | apply blockK_miss rfl | apply loopK_x | apply loopK_r | apply finK_n | apply finK_r
    | (refine vres_go ?_; push_cast) | apply ops_nil | refine ops_in (w_i64 _ (by omega) (by omega)) ?_ | refine ops_in (w_u8 _ (by omega) (by omega)) ?_ | refine ops_in (w_u32 _ (by omega) (by omega)) ?_ | refine ops_in (w_u64 _ (by omega) (by omega)) ?_
    | refine ops_put rfl rfl ?_ | refine ops_no rfl rfl ?_
    | (refine go_cond (by push_cast; first | done | rfl) ?_ ?_ <;> intro hc <;> (try push_cast at hc))
    | refine ops_gt rfl rfl rfl (by push_cast; first | done | rfl) ?_
    | refine ops_gb rfl rfl rfl (by push_cast; first | done | rfl) ?_ ?_
    | refine go_draw (id := 19) [1, 2, 4, 5, 6] [8, 10] [8, 11] (.or 0 (.or 3 (.or 7 (.or 8 (.free 9 (.or 10 (.done) (.stop))) (.stop)) (.stop)) (.or 7 (.or 3 (.or 8 (.free 9 (.or 10 (.done) (.stop))) (.stop)) (.stop)) (.stop))) (.or 7 (.or 0 (.or 3 (.or 8 (.free 9 (.or 10 (.done) (.stop))) (.stop)) (.stop)) (.stop)) (.stop))) wide (by kernel_rfl) ?_
    | apply goA_nil | apply goS_done | apply goS_stop
    | refine goA_put rfl rfl rfl ?_ | refine goS_free rfl rfl rfl ?_
    | (refine goS_late rfl rfl rfl rfl ?_ ?_; rotate_left) | (refine goS_late' rfl rfl rfl rfl ?_ ?_; rotate_left)
    | (refine goS_hid rfl rfl rfl rfl ?_ ?_; rotate_left; focus (intro K' hK'; push_cast; (repeat' refine And.intro ?_ ?_); all_goals (first | (refine hK' _ _ _ _ _ (by push_cast) (by push_cast; first | done | rfl) ?_; clear hK' K') | ((first | refine call_N fits_con (fun _ => rfl) ?_); push_cast; (repeat' refine And.intro ?_ ?_); all_goals (first | (refine hK' _ _ _ _ _ (by push_cast) (by push_cast; first | done | rfl) ?_; clear hK' K') | (intros; refine hK' _ _ _ _ _ (by push_cast) (by push_cast; first | done | rfl) ?_; clear hK' K') | (clear hK' K'; first | omega | skip))) | (clear hK' K'; first | omega | skip))))
    | refine goA_gt rfl rfl rfl rfl (by push_cast; first | done | rfl) ?_
    | refine goA_gb rfl rfl rfl rfl (by push_cast; first | done | rfl) ?_ ?_
    | (intro (hc : (_ : Prop)); (try push_cast at hc)) | intro (hc : R08Item) | intro (hc : Int) | intro (hc : Nat))
            all_goals first
              | (exfalso; omega)
              | (exfalso; have h8 := ‹(!fits12 now c rs) = true›; have h9 := ‹(!fits12 may c rs) = true›; rcases hpast with h | h; (· rw [h] at h8; exact absurd h8 (by decide)); (· rw [h] at h9; exact absurd h9 (by decide)))
              | (refine hj' () _ trivial ?_; push_cast; done)
              | (refine hj' () _ trivial ?_; push_cast; simp only [*]; done)
              | (refine hj' () _ trivial ?_; push_cast; simp_all; done)
              | trace_state
          rintro ⟨⟩ _
          apply seqK_n
          push_cast
          repeat' (first
    | (intro (K' : KT) hK'; push_cast; (repeat' refine And.intro ?_ ?_); all_goals (first | (apply hK'; clear hK' K') | (refine ⟨trivial, trivial, ?_⟩; apply hK'; clear hK' K') | (intro hb; (try push_cast at hb); all_goals (intros; apply hK'; clear hK' K')) | ((first | refine call_Jo 9300 9200 _ _ _ rfl hs ?_); push_cast; (repeat' refine And.intro ?_ ?_); all_goals (first | (apply hK'; clear hK' K') | (intros; apply hK'; clear hK' K') | (clear hK' K'; first | omega | skip))) | (clear hK' K'; first | omega | skip)))
    | apply go_seq | apply go_block | refine go_region_stop (id := 31) ?_ | apply go_region | apply go_skip | apply go_exit | apply go_ret
    | apply seqK_n | apply seqK_x | apply seqK_r | apply blockK_n | apply blockK_r | apply blockK_hit | apply blockK_miss rfl | apply loopK_x | apply loopK_r | apply regK_go | apply finK_n | apply finK_r
    | (refine vres_go ?_; push_cast) | apply ops_nil | refine ops_in (w_i64 _ (by omega) (by omega)) ?_ | refine ops_in (w_u8 _ (by omega) (by omega)) ?_ | refine ops_in (w_u32 _ (by omega) (by omega)) ?_ | refine ops_in (w_u64 _ (by omega) (by omega)) ?_
    | refine ops_put rfl rfl ?_ | refine ops_no rfl rfl ?_
    | (refine go_cond (by push_cast; first | done | rfl) ?_ ?_ <;> intro hc <;> (try push_cast at hc))
    | refine ops_gt rfl rfl rfl (by push_cast; first | done | rfl) ?_
    | refine ops_gb rfl rfl rfl (by push_cast; first | done | rfl) ?_ ?_
    | refine go_draw (id := 19) [1, 2, 4, 5, 6] [8, 10] [8, 11] (.or 0 (.or 3 (.or 7 (.or 8 (.free 9 (.or 10 (.done) (.stop))) (.stop)) (.stop)) (.or 7 (.or 3 (.or 8 (.free 9 (.or 10 (.done) (.stop))) (.stop)) (.stop)) (.stop))) (.or 7 (.or 0 (.or 3 (.or 8 (.free 9 (.or 10 (.done) (.stop))) (.stop)) (.stop)) (.stop)) (.stop))) wide (by kernel_rfl) ?_
    | apply goA_nil | apply goS_done | apply goS_stop
    | refine goA_put rfl rfl rfl ?_ | refine goS_free rfl rfl rfl ?_
    | (refine goS_late rfl rfl rfl rfl ?_ ?_; rotate_left) | (refine goS_late' rfl rfl rfl rfl ?_ ?_; rotate_left)
    | (refine goS_hid rfl rfl rfl rfl ?_ ?_; rotate_left; focus (intro K' hK'; push_cast; (repeat' refine And.intro ?_ ?_); all_goals (first | (refine hK' _ _ _ _ _ (by push_cast) (by push_cast; first | done | rfl) ?_; clear hK' K') | ((first | refine call_Jo 9300 9200 _ _ _ rfl hs ?_); push_cast; (repeat' refine And.intro ?_ ?_); all_goals (first | (refine hK' _ _ _ _ _ (by push_cast) (by push_cast; first | done | rfl) ?_; clear hK' K') | (intros; refine hK' _ _ _ _ _ (by push_cast) (by push_cast; first | done | rfl) ?_; clear hK' K') | (clear hK' K'; first | omega | skip))) | (clear hK' K'; first | omega | skip))))
    | refine goA_gt rfl rfl rfl rfl (by push_cast; first | done | rfl) ?_
    | refine goA_gb rfl rfl rfl rfl (by push_cast; first | done | rfl) ?_ ?_
    | (intro (hc : (_ : Prop)); (try push_cast at hc)) | intro (hc : R08Item) | intro (hc : Int) | intro (hc : Nat))
          rw [hr1]
          apply regKS_go
          push_cast
          repeat' (first
    | (intro (K' : KT) hK'; push_cast; (repeat' refine And.intro ?_ ?_); all_goals (first | (apply hK'; clear hK' K') | (refine ⟨trivial, trivial, ?_⟩; apply hK'; clear hK' K') | (intro hb; (try push_cast at hb); all_goals (intros; apply hK'; clear hK' K')) | (clear hK' K'; first | omega | skip)))
    | apply go_seq | apply go_block | apply go_region | apply go_skip | apply go_exit | apply go_ret
    | apply seqK_n | apply seqK_x | apply seqK_r | apply blockK_n | apply blockK_r | apply blockK_hit | apply blockK_miss rfl | apply loopK_x | apply loopK_r | apply regK_go | apply finK_n | apply finK_r
    | (refine vres_go ?_; push_cast) | apply ops_nil | refine ops_in (w_i64 _ (by omega) (by omega)) ?_ | refine ops_in (w_u8 _ (by omega) (by omega)) ?_ | refine ops_in (w_u32 _ (by omega) (by omega)) ?_ | refine ops_in (w_u64 _ (by omega) (by omega)) ?_
    | refine ops_put rfl rfl ?_ | refine ops_no rfl rfl ?_
    | (refine go_cond (by push_cast; first | done | rfl) ?_ ?_ <;> intro hc <;> (try push_cast at hc))
    | refine ops_gt rfl rfl rfl (by push_cast; first | done | rfl) ?_
    | refine ops_gb rfl rfl rfl (by push_cast; first | done | rfl) ?_ ?_
    | refine go_draw (id := 19) [1, 2, 4, 5, 6] [8, 10] [8, 11] (.or 0 (.or 3 (.or 7 (.or 8 (.free 9 (.or 10 (.done) (.stop))) (.stop)) (.stop)) (.or 7 (.or 3 (.or 8 (.free 9 (.or 10 (.done) (.stop))) (.stop)) (.stop)) (.stop))) (.or 7 (.or 0 (.or 3 (.or 8 (.free 9 (.or 10 (.done) (.stop))) (.stop)) (.stop)) (.stop)) (.stop))) wide (by kernel_rfl) ?_
    | apply goA_nil | apply goS_done | apply goS_stop
    | refine goA_put rfl rfl rfl ?_ | refine goS_free rfl rfl rfl ?_
    | (refine goS_late rfl rfl rfl rfl ?_ ?_; rotate_left) | (refine goS_late' rfl rfl rfl rfl ?_ ?_; rotate_left)
    | (refine goS_hid rfl rfl rfl rfl ?_ ?_; rotate_left; focus (intro K' hK'; push_cast; (repeat' refine And.intro ?_ ?_); all_goals (first | (refine hK' _ _ _ _ _ (by push_cast) (by push_cast; first | done | rfl) ?_; clear hK' K') | (clear hK' K'; first | omega | skip))))
    | refine goA_gt rfl rfl rfl rfl (by push_cast; first | done | rfl) ?_
    | refine goA_gb rfl rfl rfl rfl (by push_cast; first | done | rfl) ?_ ?_
    | (intro (hc : (_ : Prop)); (try push_cast at hc)) | intro (hc : R08Item) | intro (hc : Int) | intro (hc : Nat))
          refine loop_ren 136 149 rfl (by push_cast) (by decide) ?_
          push_cast
          refine go_loop2 [23, 136, 137, 140, 141, 142, 143, 144, 145, 146, 147, 148, 149, 150, 151] [8, 147, 148, 149] (fun (k : Nat) => k ≤ rs.length) (fun (k : Nat) => [(140, .one (.l (.int .i64 k)))]) (fun (k : Nat) => [(8, .segs [.str (toBytes c), .own 149]), (149, .arr .str ((rs.take k).map toBytes))]) (fun (k : Nat) => rs.length - k) 0 ?_ (by push_cast; first | done | rfl) (by push_cast; first | done | rfl) ?_ ?_
          · exact Nat.zero_le _
          · push_cast
            first | done | rfl | simp
          · intro k hk
            push_cast
            intro hg3
            have hkl : ((rs.take k).map toBytes).length ≤ 61 := by rw [List.length_map, List.length_take]; omega
            repeat' (first
    | (intro (K' : KT) hK'; push_cast; (repeat' refine And.intro ?_ ?_); all_goals (first | (apply hK'; clear hK' K') | (refine ⟨trivial, trivial, ?_⟩; apply hK'; clear hK' K') | (intro hb; (try push_cast at hb); all_goals (intros; apply hK'; clear hK' K')) | ((first | refine call_N fits_con (fun _ => rfl) ?_); push_cast; (repeat' refine And.intro ?_ ?_); all_goals (first | (apply hK'; clear hK' K') | (intros; apply hK'; clear hK' K') | (clear hK' K'; first | omega | skip))) | (clear hK' K'; first | omega | skip)))
    | apply go_seq | apply go_block | refine go_region_stop (id := 40) ?_ | apply go_region | apply go_skip | apply go_exit | apply go_ret
    | apply seqK_n | apply seqK_x | apply seqK_r | apply blockK_n | apply blockK_r | apply blockK_hit | apply blockK_miss rfl | apply loopK_x | apply loopK_r | apply regK_go | apply finK_n | apply finK_r
    | (refine vres_go ?_; push_cast) | apply ops_nil | refine ops_in (w_i64 _ (by omega) (by omega)) ?_ | refine ops_in (w_u8 _ (by omega) (by omega)) ?_ | refine ops_in (w_u32 _ (by omega) (by omega)) ?_ | refine ops_in (w_u64 _ (by omega) (by omega)) ?_
    | refine ops_put rfl rfl ?_ | refine ops_no rfl rfl ?_
    | (refine go_cond (by push_cast; first | done | rfl) ?_ ?_ <;> intro hc <;> (try push_cast at hc))
    | refine ops_gt rfl rfl rfl (by push_cast; first | done | rfl) ?_
    | refine ops_gb rfl rfl rfl (by push_cast; first | done | rfl) ?_ ?_
    | refine go_draw (id := 19) [1, 2, 4, 5, 6] [8, 10] [8, 11] (.or 0 (.or 3 (.or 7 (.or 8 (.free 9 (.or 10 (.done) (.stop))) (.stop)) (.stop)) (.or 7 (.or 3 (.or 8 (.free 9 (.or 10 (.done) (.stop))) (.stop)) (.stop)) (.stop))) (.or 7 (.or 0 (.or 3 (.or 8 (.free 9 (.or 10 (.done) (.stop))) (.stop)) (.stop)) (.stop)) (.stop))) wide (by kernel_rfl) ?_
    | apply goA_nil | apply goS_done | apply goS_stop
    | refine goA_put rfl rfl rfl ?_ | refine goS_free rfl rfl rfl ?_
    | (refine goS_late rfl rfl rfl rfl ?_ ?_; rotate_left) | (refine goS_late' rfl rfl rfl rfl ?_ ?_; rotate_left)
    | (refine goS_hid rfl rfl rfl rfl ?_ ?_; rotate_left; focus (intro K' hK'; push_cast; (repeat' refine And.intro ?_ ?_); all_goals (first | (refine hK' _ _ _ _ _ (by push_cast) (by push_cast; first | done | rfl) ?_; clear hK' K') | ((first | refine call_N fits_con (fun _ => rfl) ?_); push_cast; (repeat' refine And.intro ?_ ?_); all_goals (first | (refine hK' _ _ _ _ _ (by push_cast) (by push_cast; first | done | rfl) ?_; clear hK' K') | (intros; refine hK' _ _ _ _ _ (by push_cast) (by push_cast; first | done | rfl) ?_; clear hK' K') | (clear hK' K'; first | omega | skip))) | (clear hK' K'; first | omega | skip))))
    | refine goA_gt rfl rfl rfl rfl (by push_cast; first | done | rfl) ?_
    | refine goA_gb rfl rfl rfl rfl (by push_cast; first | done | rfl) ?_ ?_
    | (intro (hc : (_ : Prop)); (try push_cast at hc)) | intro (hc : R08Item) | intro (hc : Int) | intro (hc : Nat))
            · have et : (rs.take (k + 1)).map toBytes = (rs.take k).map toBytes ++ [toBytes (rs.getD k [])] := by rw [take_succ_getD rs k [] (by omega), List.map_append]; rfl
              refine loopK_m (k + 1) (by omega) (by omega) ?_
              push_cast
              rw [et]
            · have ek : k = rs.length := by omega
              subst ek
              have hself : fits12 ⟨toBytes c, (rs.take rs.length).map toBytes⟩ c rs = true := by simp [fits12, sameR]
              rw [hself]
              have eL : openL E 8 E.Base.length (fl.toNat : Int) = openL E (2 * 4) m fl := by rw [hEb, hfn, e8]
              rw [eL]
              have hre := reopen hfin (by omega) (by omega) hcb.1
              have hcl5 := hcb.2
              have hLD : (openL E (2 * 4) m fl).D = E := rfl
              generalize openL E (2 * 4) m fl = L0 at *
              obtain ⟨D1, a1, e1, st1⟩ := L0
              simp only at hLD hre
              subst hLD
              apply regKS_go
              push_cast
              by_cases hw : (slWrite D1 0 4 (numB (st1 - 1).toNat ++ c)).2.2 = 0
              · obtain ⟨g', hg', hJF⟩ := hre.2 hw
                repeat' (first
    | (intro (K' : KT) hK'; push_cast; (repeat' refine And.intro ?_ ?_); all_goals (first | (apply hK'; clear hK' K') | (refine ⟨trivial, trivial, ?_⟩; apply hK'; clear hK' K') | (intro hb; (try push_cast at hb); all_goals (intros; apply hK'; clear hK' K')) | ((first | refine call_JN jCom_con 9200 (fun _ _ => rfl) ?_); push_cast; (repeat' refine And.intro ?_ ?_); all_goals (first | (apply hK'; clear hK' K') | (intros; apply hK'; clear hK' K') | (clear hK' K'; first | omega | skip))) | (clear hK' K'; first | omega | skip)))
    | apply go_seq | apply go_block | apply go_region | apply go_skip | apply go_exit | apply go_ret
    | apply seqK_n | apply seqK_x | apply seqK_r | apply blockK_n | apply blockK_r | apply blockK_hit | apply blockK_miss rfl | apply loopK_x | apply loopK_r | apply regK_go | apply finK_n | apply finK_r
    | (refine vres_go ?_; push_cast) | apply ops_nil | refine ops_in (w_i64 _ (by omega) (by omega)) ?_ | refine ops_in (w_u8 _ (by omega) (by omega)) ?_ | refine ops_in (w_u32 _ (by omega) (by omega)) ?_ | refine ops_in (w_u64 _ (by omega) (by omega)) ?_
    | refine ops_put rfl rfl ?_ | refine ops_no rfl rfl ?_
    | (refine go_cond (by push_cast; first | done | rfl) ?_ ?_ <;> intro hc <;> (try push_cast at hc))
    | refine ops_gt rfl rfl rfl (by push_cast; first | done | rfl) ?_
    | refine ops_gb rfl rfl rfl (by push_cast; first | done | rfl) ?_ ?_
    | refine go_draw (id := 19) [1, 2, 4, 5, 6] [8, 10] [8, 11] (.or 0 (.or 3 (.or 7 (.or 8 (.free 9 (.or 10 (.done) (.stop))) (.stop)) (.stop)) (.or 7 (.or 3 (.or 8 (.free 9 (.or 10 (.done) (.stop))) (.stop)) (.stop)) (.stop))) (.or 7 (.or 0 (.or 3 (.or 8 (.free 9 (.or 10 (.done) (.stop))) (.stop)) (.stop)) (.stop)) (.stop))) wide (by kernel_rfl) ?_
    | apply goA_nil | apply goS_done | apply goS_stop
    | refine goA_put rfl rfl rfl ?_ | refine goS_free rfl rfl rfl ?_
    | (refine goS_late rfl rfl rfl rfl ?_ ?_; rotate_left) | (refine goS_late' rfl rfl rfl rfl ?_ ?_; rotate_left)
    | (refine goS_hid rfl rfl rfl rfl ?_ ?_; rotate_left; focus (intro K' hK'; push_cast; (repeat' refine And.intro ?_ ?_); all_goals (first | (refine hK' _ _ _ _ _ (by push_cast) (by push_cast; first | done | rfl) ?_; clear hK' K') | ((first | refine call_JN jCom_con 9200 (fun _ _ => rfl) ?_); push_cast; (repeat' refine And.intro ?_ ?_); all_goals (first | (refine hK' _ _ _ _ _ (by push_cast) (by push_cast; first | done | rfl) ?_; clear hK' K') | (intros; refine hK' _ _ _ _ _ (by push_cast) (by push_cast; first | done | rfl) ?_; clear hK' K') | (clear hK' K'; first | omega | skip))) | (clear hK' K'; first | omega | skip))))
    | refine goA_gt rfl rfl rfl rfl (by push_cast; first | done | rfl) ?_
    | refine goA_gb rfl rfl rfl rfl (by push_cast; first | done | rfl) ?_ ?_
    | (intro (hc : (_ : Prop)); (try push_cast at hc)) | intro (hc : R08Item) | intro (hc : Int) | intro (hc : Nat))
                have hz2 : (jCom ⟨⟨D1, a1, e1, st1⟩, 4, false⟩ c).z = 4 := rfl
                have hb2 : (jCom ⟨⟨D1, a1, e1, st1⟩, 4, false⟩ c).r = true := rfl
                generalize jCom ⟨⟨D1, a1, e1, st1⟩, 4, false⟩ c = J at *
                obtain ⟨⟨D2, a2, e2, st2⟩, z, b⟩ := J
                simp only at hz2 hb2
                subst hz2 hb2
                refine loop_nilbox .str 8 183 (by push_cast) rfl ?_
                push_cast
                refine go_loop2 [4, 25, 170, 171, 172, 173, 174, 175, 176, 177, 178, 179, 180, 181, 182, 183, 184, 185] [8, 176, 181, 182, 183, 9100, 9200, 9300] (fun (p : LogS × Nat) => p.2 ≤ rs.length ∧ JF ⟨p.1, 4, true⟩ m g' (st1 - 1) c (rs.take p.2)) (fun (p : LogS × Nat) => [(170, .one (.l (.int .i64 p.2)))]) (fun (p : LogS × Nat) => [(9100, .obj DiskO p.1.D), (9200, .segs [.ptr 9100 [] 0, .int .i64 p.1.a, .int .i64 p.1.e, .int .u64 p.1.st]), (9300, .segs [.ptr 9100 [] 0, .int .i64 4, .ptr 9200 [] 0, .bool true]), (8, .segs [.str (toBytes c), .own 183]), (183, .arr .str ((rs.take p.2).map toBytes))]) (fun (p : LogS × Nat) => rs.length - p.2) (⟨D2, a2, e2, st2⟩, 0) ?_ (by push_cast; first | done | rfl) (by push_cast; first | done | rfl) ?_ ?_
                · exact ⟨Nat.zero_le _, by simpa using hJF⟩
                · push_cast
                  first | done | rfl | simp
                · rintro ⟨⟨D3, a3, e3, st3⟩, k⟩ ⟨hk2, hJ3⟩
                  simp only at hk2
                  push_cast
                  intro hg4
                  have hJ3 : JF ⟨⟨D3, a3, e3, st3⟩, 4, true⟩ m g' (st1 - 1) c (rs.take k) := hJ3
                  have hlog3 := jf_log hJ3
                  have hq3 : D3.Queue.length = 0 := by have := hlog3.q; simp only at this; rw [this]; rfl
                  have hbase3 : D3.Base.length = m := hlog3.base
                  have he3 : e3 = m := hJ3.ok.e
                  have ha3 : a3 = endPos (2 * 4) (rs.take k) := hlog3.a
                  have hale3 : a3 ≤ e3 := hlog3.le
                  have hle3 := endPos_le (rs.take k) (2 * 4)
                  have htk : (rs.take k).length ≤ 61 := by rw [List.length_take]; omega
                  have hkl2 : ((rs.take k).map toBytes).length ≤ 61 := by rw [List.length_map]; exact htk
                  have hrk : (k : Int) < rs.length → bytesOk (rs.getD k []) := fun h => hrb _ (getD_mem rs k [] (by omega))
                  have hrk2 : (k : Int) < rs.length → (rs.getD k []).length ≤ 5000 := fun h => (hrk h).2
                  have hre1 := hre.1
                  repeat' (first
    | (intro (K' : KT) hK'; push_cast; (repeat' refine And.intro ?_ ?_); all_goals (first | (apply hK'; clear hK' K') | (refine ⟨trivial, trivial, ?_⟩; apply hK'; clear hK' K') | (intro hb; (try push_cast at hb); all_goals (intros; apply hK'; clear hK' K')) | ((first | refine call_J jApp_con (fun _ _ => rfl) ?_); push_cast; (repeat' refine And.intro ?_ ?_); all_goals (first | (apply hK'; clear hK' K') | (intros; apply hK'; clear hK' K') | (clear hK' K'; first | omega | skip))) | (clear hK' K'; first | omega | skip)))
    | apply go_seq | apply go_block | refine go_region_stop (id := 48) ?_ | apply go_region | apply go_skip | apply go_exit | apply go_ret
    | apply seqK_n | apply seqK_x | apply seqK_r | apply blockK_n | apply blockK_r | apply blockK_hit | apply blockK_miss rfl | apply loopK_x | apply loopK_r | apply regK_go | apply finK_n | apply finK_r
    | (refine vres_go ?_; push_cast) | apply ops_nil | refine ops_in (w_i64 _ (by omega) (by omega)) ?_ | refine ops_in (w_u8 _ (by omega) (by omega)) ?_ | refine ops_in (w_u32 _ (by omega) (by omega)) ?_ | refine ops_in (w_u64 _ (by omega) (by omega)) ?_
    | refine ops_put rfl rfl ?_ | refine ops_no rfl rfl ?_
    | (refine go_cond (by push_cast; first | done | rfl) ?_ ?_ <;> intro hc <;> (try push_cast at hc))
    | refine ops_gt rfl rfl rfl (by push_cast; first | done | rfl) ?_
    | refine ops_gb rfl rfl rfl (by push_cast; first | done | rfl) ?_ ?_
    | refine go_draw (id := 19) [1, 2, 4, 5, 6] [8, 10] [8, 11] (.or 0 (.or 3 (.or 7 (.or 8 (.free 9 (.or 10 (.done) (.stop))) (.stop)) (.stop)) (.or 7 (.or 3 (.or 8 (.free 9 (.or 10 (.done) (.stop))) (.stop)) (.stop)) (.stop))) (.or 7 (.or 0 (.or 3 (.or 8 (.free 9 (.or 10 (.done) (.stop))) (.stop)) (.stop)) (.stop)) (.stop))) wide (by kernel_rfl) ?_
    | apply goA_nil | apply goS_done | apply goS_stop
    | refine goA_put rfl rfl rfl ?_ | refine goS_free rfl rfl rfl ?_
    | (refine goS_late rfl rfl rfl rfl ?_ ?_; rotate_left) | (refine goS_late' rfl rfl rfl rfl ?_ ?_; rotate_left)
    | (refine goS_hid rfl rfl rfl rfl ?_ ?_; rotate_left; focus (intro K' hK'; push_cast; (repeat' refine And.intro ?_ ?_); all_goals (first | (refine hK' _ _ _ _ _ (by push_cast) (by push_cast; first | done | rfl) ?_; clear hK' K') | ((first | refine call_J jApp_con (fun _ _ => rfl) ?_); push_cast; (repeat' refine And.intro ?_ ?_); all_goals (first | (refine hK' _ _ _ _ _ (by push_cast) (by push_cast; first | done | rfl) ?_; clear hK' K') | (intros; refine hK' _ _ _ _ _ (by push_cast) (by push_cast; first | done | rfl) ?_; clear hK' K') | (clear hK' K'; first | omega | skip))) | (clear hK' K'; first | omega | skip))))
    | refine goA_gt rfl rfl rfl rfl (by push_cast; first | done | rfl) ?_
    | refine goA_gb rfl rfl rfl rfl (by push_cast; first | done | rfl) ?_ ?_
    | (intro (hc : (_ : Prop)); (try push_cast at hc)) | intro (hc : R08Item) | intro (hc : Int) | intro (hc : Nat))
                  · have hr1 := hrk (by omega)
                    have et : rs.take (k + 1) = rs.take k ++ [rs.getD k []] := take_succ_getD rs k [] (by omega)
                    rcases jf_app hJ3 hr1.1 (by omega) with h | h | ⟨p1, p2, p3⟩ | ⟨p1, _⟩
                    · rw [h]
                      apply regKS_go
                      push_cast
                      repeat' (first
    | (intro (K' : KT) hK'; push_cast; (repeat' refine And.intro ?_ ?_); all_goals (first | (apply hK'; clear hK' K') | (refine ⟨trivial, trivial, ?_⟩; apply hK'; clear hK' K') | (intro hb; (try push_cast at hb); all_goals (intros; apply hK'; clear hK' K')) | (clear hK' K'; first | omega | skip)))
    | apply go_seq | apply go_block | apply go_region | apply go_skip | apply go_exit | apply go_ret
    | apply seqK_n | apply seqK_x | apply seqK_r | apply blockK_n | apply blockK_r | apply blockK_hit | apply blockK_miss rfl | apply loopK_x | apply loopK_r | apply regK_go | apply finK_n | apply finK_r
    | (refine vres_go ?_; push_cast) | apply ops_nil | refine ops_in (w_i64 _ (by omega) (by omega)) ?_ | refine ops_in (w_u8 _ (by omega) (by omega)) ?_ | refine ops_in (w_u32 _ (by omega) (by omega)) ?_ | refine ops_in (w_u64 _ (by omega) (by omega)) ?_
    | refine ops_put rfl rfl ?_ | refine ops_no rfl rfl ?_
    | (refine go_cond (by push_cast; first | done | rfl) ?_ ?_ <;> intro hc <;> (try push_cast at hc))
    | refine ops_gt rfl rfl rfl (by push_cast; first | done | rfl) ?_
    | refine ops_gb rfl rfl rfl (by push_cast; first | done | rfl) ?_ ?_
    | refine go_draw (id := 19) [1, 2, 4, 5, 6] [8, 10] [8, 11] (.or 0 (.or 3 (.or 7 (.or 8 (.free 9 (.or 10 (.done) (.stop))) (.stop)) (.stop)) (.or 7 (.or 3 (.or 8 (.free 9 (.or 10 (.done) (.stop))) (.stop)) (.stop)) (.stop))) (.or 7 (.or 0 (.or 3 (.or 8 (.free 9 (.or 10 (.done) (.stop))) (.stop)) (.stop)) (.stop)) (.stop))) wide (by kernel_rfl) ?_
    | apply goA_nil | apply goS_done | apply goS_stop
    | refine goA_put rfl rfl rfl ?_ | refine goS_free rfl rfl rfl ?_
    | (refine goS_late rfl rfl rfl rfl ?_ ?_; rotate_left) | (refine goS_late' rfl rfl rfl rfl ?_ ?_; rotate_left)
    | (refine goS_hid rfl rfl rfl rfl ?_ ?_; rotate_left; focus (intro K' hK'; push_cast; (repeat' refine And.intro ?_ ?_); all_goals (first | (refine hK' _ _ _ _ _ (by push_cast) (by push_cast; first | done | rfl) ?_; clear hK' K') | (clear hK' K'; first | omega | skip))))
    | refine goA_gt rfl rfl rfl rfl (by push_cast; first | done | rfl) ?_
    | refine goA_gb rfl rfl rfl rfl (by push_cast; first | done | rfl) ?_ ?_
    | (intro (hc : (_ : Prop)); (try push_cast at hc)) | intro (hc : R08Item) | intro (hc : Int) | intro (hc : Nat))
                    · rw [h]
                      apply regKS_go
                      push_cast
                      repeat' (first
    | (intro (K' : KT) hK'; push_cast; (repeat' refine And.intro ?_ ?_); all_goals (first | (apply hK'; clear hK' K') | (refine ⟨trivial, trivial, ?_⟩; apply hK'; clear hK' K') | (intro hb; (try push_cast at hb); all_goals (intros; apply hK'; clear hK' K')) | (clear hK' K'; first | omega | skip)))
    | apply go_seq | apply go_block | apply go_region | apply go_skip | apply go_exit | apply go_ret
    | apply seqK_n | apply seqK_x | apply seqK_r | apply blockK_n | apply blockK_r | apply blockK_hit | apply blockK_miss rfl | apply loopK_x | apply loopK_r | apply regK_go | apply finK_n | apply finK_r
    | (refine vres_go ?_; push_cast) | apply ops_nil | refine ops_in (w_i64 _ (by omega) (by omega)) ?_ | refine ops_in (w_u8 _ (by omega) (by omega)) ?_ | refine ops_in (w_u32 _ (by omega) (by omega)) ?_ | refine ops_in (w_u64 _ (by omega) (by omega)) ?_
    | refine ops_put rfl rfl ?_ | refine ops_no rfl rfl ?_
    | (refine go_cond (by push_cast; first | done | rfl) ?_ ?_ <;> intro hc <;> (try push_cast at hc))
    | refine ops_gt rfl rfl rfl (by push_cast; first | done | rfl) ?_
    | refine ops_gb rfl rfl rfl (by push_cast; first | done | rfl) ?_ ?_
    | refine go_draw (id := 19) [1, 2, 4, 5, 6] [8, 10] [8, 11] (.or 0 (.or 3 (.or 7 (.or 8 (.free 9 (.or 10 (.done) (.stop))) (.stop)) (.stop)) (.or 7 (.or 3 (.or 8 (.free 9 (.or 10 (.done) (.stop))) (.stop)) (.stop)) (.stop))) (.or 7 (.or 0 (.or 3 (.or 8 (.free 9 (.or 10 (.done) (.stop))) (.stop)) (.stop)) (.stop)) (.stop))) wide (by kernel_rfl) ?_
    | apply goA_nil | apply goS_done | apply goS_stop
    | refine goA_put rfl rfl rfl ?_ | refine goS_free rfl rfl rfl ?_
    | (refine goS_late rfl rfl rfl rfl ?_ ?_; rotate_left) | (refine goS_late' rfl rfl rfl rfl ?_ ?_; rotate_left)
    | (refine goS_hid rfl rfl rfl rfl ?_ ?_; rotate_left; focus (intro K' hK'; push_cast; (repeat' refine And.intro ?_ ?_); all_goals (first | (refine hK' _ _ _ _ _ (by push_cast) (by push_cast; first | done | rfl) ?_; clear hK' K') | (clear hK' K'; first | omega | skip))))
    | refine goA_gt rfl rfl rfl rfl (by push_cast; first | done | rfl) ?_
    | refine goA_gb rfl rfl rfl rfl (by push_cast; first | done | rfl) ?_ ?_
    | (intro (hc : (_ : Prop)); (try push_cast at hc)) | intro (hc : R08Item) | intro (hc : Int) | intro (hc : Nat))
                    · have e1 : jApp ⟨⟨D3, a3, e3, st3⟩, 4, true⟩ (rs.getD k []) = ((jApp ⟨⟨D3, a3, e3, st3⟩, 4, true⟩ (rs.getD k [])).1, 0) := Prod.ext rfl p1
                      rw [e1]
                      clear e1 p1
                      generalize (jApp ⟨⟨D3, a3, e3, st3⟩, 4, true⟩ (rs.getD k [])).1 = J at *
                      obtain ⟨⟨D4, a4, e4, st4⟩, z, b⟩ := J
                      simp only at p3
                      subst p3
                      have hb4 : b = true := p2.ok.r
                      subst hb4
                      apply regKS_go
                      push_cast
                      repeat' (first
    | (intro (K' : KT) hK'; push_cast; (repeat' refine And.intro ?_ ?_); all_goals (first | (apply hK'; clear hK' K') | (refine ⟨trivial, trivial, ?_⟩; apply hK'; clear hK' K') | (intro hb; (try push_cast at hb); all_goals (intros; apply hK'; clear hK' K')) | (clear hK' K'; first | omega | skip)))
    | apply go_seq | apply go_block | apply go_region | apply go_skip | apply go_exit | apply go_ret
    | apply seqK_n | apply seqK_x | apply seqK_r | apply blockK_n | apply blockK_r | apply blockK_hit | apply blockK_miss rfl | apply loopK_x | apply loopK_r | apply regK_go | apply finK_n | apply finK_r
    | (refine vres_go ?_; push_cast) | apply ops_nil | refine ops_in (w_i64 _ (by omega) (by omega)) ?_ | refine ops_in (w_u8 _ (by omega) (by omega)) ?_ | refine ops_in (w_u32 _ (by omega) (by omega)) ?_ | refine ops_in (w_u64 _ (by omega) (by omega)) ?_
    | refine ops_put rfl rfl ?_ | refine ops_no rfl rfl ?_
    | (refine go_cond (by push_cast; first | done | rfl) ?_ ?_ <;> intro hc <;> (try push_cast at hc))
    | refine ops_gt rfl rfl rfl (by push_cast; first | done | rfl) ?_
    | refine ops_gb rfl rfl rfl (by push_cast; first | done | rfl) ?_ ?_
    | refine go_draw (id := 19) [1, 2, 4, 5, 6] [8, 10] [8, 11] (.or 0 (.or 3 (.or 7 (.or 8 (.free 9 (.or 10 (.done) (.stop))) (.stop)) (.stop)) (.or 7 (.or 3 (.or 8 (.free 9 (.or 10 (.done) (.stop))) (.stop)) (.stop)) (.stop))) (.or 7 (.or 0 (.or 3 (.or 8 (.free 9 (.or 10 (.done) (.stop))) (.stop)) (.stop)) (.stop)) (.stop))) wide (by kernel_rfl) ?_
    | apply goA_nil | apply goS_done | apply goS_stop
    | refine goA_put rfl rfl rfl ?_ | refine goS_free rfl rfl rfl ?_
    | (refine goS_late rfl rfl rfl rfl ?_ ?_; rotate_left) | (refine goS_late' rfl rfl rfl rfl ?_ ?_; rotate_left)
    | (refine goS_hid rfl rfl rfl rfl ?_ ?_; rotate_left; focus (intro K' hK'; push_cast; (repeat' refine And.intro ?_ ?_); all_goals (first | (refine hK' _ _ _ _ _ (by push_cast) (by push_cast; first | done | rfl) ?_; clear hK' K') | (clear hK' K'; first | omega | skip))))
    | refine goA_gt rfl rfl rfl rfl (by push_cast; first | done | rfl) ?_
    | refine goA_gb rfl rfl rfl rfl (by push_cast; first | done | rfl) ?_ ?_
    | (intro (hc : (_ : Prop)); (try push_cast at hc)) | intro (hc : R08Item) | intro (hc : Int) | intro (hc : Nat))
                      refine loopK_m (⟨D4, a4, e4, st4⟩, k + 1) ⟨by simp only; omega, by simp only; rw [et]; exact p2⟩ (by simp only; omega) ?_
                      push_cast
                      rw [et, List.map_append]
                      rfl
                    · have e1 : jApp ⟨⟨D3, a3, e3, st3⟩, 4, true⟩ (rs.getD k []) = ((jApp ⟨⟨D3, a3, e3, st3⟩, 4, true⟩ (rs.getD k [])).1, 82) := Prod.ext rfl p1
                      rw [e1]
                      apply regKS_go
                      push_cast
                      repeat' (first
    | (intro (K' : KT) hK'; push_cast; (repeat' refine And.intro ?_ ?_); all_goals (first | (apply hK'; clear hK' K') | (refine ⟨trivial, trivial, ?_⟩; apply hK'; clear hK' K') | (intro hb; (try push_cast at hb); all_goals (intros; apply hK'; clear hK' K')) | (clear hK' K'; first | omega | skip)))
    | apply go_seq | apply go_block | apply go_region | apply go_skip | apply go_exit | apply go_ret
    | apply seqK_n | apply seqK_x | apply seqK_r | apply blockK_n | apply blockK_r | apply blockK_hit | apply blockK_miss rfl | apply loopK_x | apply loopK_r | apply regK_go | apply finK_n | apply finK_r
    | (refine vres_go ?_; push_cast) | apply ops_nil | refine ops_in (w_i64 _ (by omega) (by omega)) ?_ | refine ops_in (w_u8 _ (by omega) (by omega)) ?_ | refine ops_in (w_u32 _ (by omega) (by omega)) ?_ | refine ops_in (w_u64 _ (by omega) (by omega)) ?_
    | refine ops_put rfl rfl ?_ | refine ops_no rfl rfl ?_
    | (refine go_cond (by push_cast; first | done | rfl) ?_ ?_ <;> intro hc <;> (try push_cast at hc))
    | refine ops_gt rfl rfl rfl (by push_cast; first | done | rfl) ?_
    | refine ops_gb rfl rfl rfl (by push_cast; first | done | rfl) ?_ ?_
    | refine go_draw (id := 19) [1, 2, 4, 5, 6] [8, 10] [8, 11] (.or 0 (.or 3 (.or 7 (.or 8 (.free 9 (.or 10 (.done) (.stop))) (.stop)) (.stop)) (.or 7 (.or 3 (.or 8 (.free 9 (.or 10 (.done) (.stop))) (.stop)) (.stop)) (.stop))) (.or 7 (.or 0 (.or 3 (.or 8 (.free 9 (.or 10 (.done) (.stop))) (.stop)) (.stop)) (.stop)) (.stop))) wide (by kernel_rfl) ?_
    | apply goA_nil | apply goS_done | apply goS_stop
    | refine goA_put rfl rfl rfl ?_ | refine goS_free rfl rfl rfl ?_
    | (refine goS_late rfl rfl rfl rfl ?_ ?_; rotate_left) | (refine goS_late' rfl rfl rfl rfl ?_ ?_; rotate_left)
    | (refine goS_hid rfl rfl rfl rfl ?_ ?_; rotate_left; focus (intro K' hK'; push_cast; (repeat' refine And.intro ?_ ?_); all_goals (first | (refine hK' _ _ _ _ _ (by push_cast) (by push_cast; first | done | rfl) ?_; clear hK' K') | (clear hK' K'; first | omega | skip))))
    | refine goA_gt rfl rfl rfl rfl (by push_cast; first | done | rfl) ?_
    | refine goA_gb rfl rfl rfl rfl (by push_cast; first | done | rfl) ?_ ?_
    | (intro (hc : (_ : Prop)); (try push_cast at hc)) | intro (hc : R08Item) | intro (hc : Int) | intro (hc : Nat))
                  · have ek : k = rs.length := by omega
                    subst ek
                    rw [List.take_length] at *
                    refine loopK_frz 183 rfl ?_
                    push_cast
                    refine loopK_m ⟨⟨D3, a3, e3, st3⟩, true, ⟨toBytes c, rs.map toBytes⟩, ⟨toBytes c, rs.map toBytes⟩, i + 1⟩ ⟨by simp only; omega, .inl ⟨rfl, rfl, g', st1 - 1, c, rs, hJ3, rfl, hcb, hrb, by simp only; omega, by simp only; omega⟩⟩ (by simp only; omega) ?_
                    push_cast
              · repeat' (first
    | (intro (K' : KT) hK'; push_cast; (repeat' refine And.intro ?_ ?_); all_goals (first | (apply hK'; clear hK' K') | (refine ⟨trivial, trivial, ?_⟩; apply hK'; clear hK' K') | (intro hb; (try push_cast at hb); all_goals (intros; apply hK'; clear hK' K')) | ((first | refine call_J jComG_con (fun _ _ => rfl) ?_); push_cast; (repeat' refine And.intro ?_ ?_); all_goals (first | (apply hK'; clear hK' K') | (intros; apply hK'; clear hK' K') | (clear hK' K'; first | omega | skip))) | (clear hK' K'; first | omega | skip)))
    | apply go_seq | apply go_block | apply go_region | apply go_skip | apply go_exit | apply go_ret
    | apply seqK_n | apply seqK_x | apply seqK_r | apply blockK_n | apply blockK_r | apply blockK_hit | apply blockK_miss rfl | apply loopK_x | apply loopK_r | apply regK_go | apply finK_n | apply finK_r
    | (refine vres_go ?_; push_cast) | apply ops_nil | refine ops_in (w_i64 _ (by omega) (by omega)) ?_ | refine ops_in (w_u8 _ (by omega) (by omega)) ?_ | refine ops_in (w_u32 _ (by omega) (by omega)) ?_ | refine ops_in (w_u64 _ (by omega) (by omega)) ?_
    | refine ops_put rfl rfl ?_ | refine ops_no rfl rfl ?_
    | (refine go_cond (by push_cast; first | done | rfl) ?_ ?_ <;> intro hc <;> (try push_cast at hc))
    | refine ops_gt rfl rfl rfl (by push_cast; first | done | rfl) ?_
    | refine ops_gb rfl rfl rfl (by push_cast; first | done | rfl) ?_ ?_
    | refine go_draw (id := 19) [1, 2, 4, 5, 6] [8, 10] [8, 11] (.or 0 (.or 3 (.or 7 (.or 8 (.free 9 (.or 10 (.done) (.stop))) (.stop)) (.stop)) (.or 7 (.or 3 (.or 8 (.free 9 (.or 10 (.done) (.stop))) (.stop)) (.stop)) (.stop))) (.or 7 (.or 0 (.or 3 (.or 8 (.free 9 (.or 10 (.done) (.stop))) (.stop)) (.stop)) (.stop)) (.stop))) wide (by kernel_rfl) ?_
    | apply goA_nil | apply goS_done | apply goS_stop
    | refine goA_put rfl rfl rfl ?_ | refine goS_free rfl rfl rfl ?_
    | (refine goS_late rfl rfl rfl rfl ?_ ?_; rotate_left) | (refine goS_late' rfl rfl rfl rfl ?_ ?_; rotate_left)
    | (refine goS_hid rfl rfl rfl rfl ?_ ?_; rotate_left; focus (intro K' hK'; push_cast; (repeat' refine And.intro ?_ ?_); all_goals (first | (refine hK' _ _ _ _ _ (by push_cast) (by push_cast; first | done | rfl) ?_; clear hK' K') | ((first | refine call_J jComG_con (fun _ _ => rfl) ?_); push_cast; (repeat' refine And.intro ?_ ?_); all_goals (first | (refine hK' _ _ _ _ _ (by push_cast) (by push_cast; first | done | rfl) ?_; clear hK' K') | (intros; refine hK' _ _ _ _ _ (by push_cast) (by push_cast; first | done | rfl) ?_; clear hK' K') | (clear hK' K'; first | omega | skip))) | (clear hK' K'; first | omega | skip))))
    | refine goA_gt rfl rfl rfl rfl (by push_cast; first | done | rfl) ?_
    | refine goA_gb rfl rfl rfl rfl (by push_cast; first | done | rfl) ?_ ?_
    | (intro (hc : (_ : Prop)); (try push_cast at hc)) | intro (hc : R08Item) | intro (hc : Int) | intro (hc : Nat))
                all_goals (exfalso; exact hw (by simpa using ‹(!decide ((slWrite D1 0 4 (numB (st1 - 1).toNat ++ c)).2.2 = 0)) = false›))
    · rcases hinv with ⟨hb, hmay, hal⟩ | ⟨hb, hdead, hpl, hkd⟩
      · simp only at hb hmay hal
        subst hb hmay
        have hx : (i : Int) < acts.length → (acts.getD i ⟨0, 0, [], []⟩).Bytes.length ≤ 5000 ∧ bytesOk (acts.getD i ⟨0, 0, [], []⟩).Bytes ∧ (acts.getD i ⟨0, 0, [], []⟩).At ≤ 9223372036854775807 := fun h => by
          have hmem := getD_mem acts i ⟨0, 0, [], []⟩ (by omega)
          have := hf.2.2 _ hmem
          exact ⟨great12_small ‹greatB12 acts = false› hmem, ⟨this.2.2.1.2, great12_small ‹greatB12 acts = false› hmem⟩, this.2.1.2⟩
        obtain ⟨g, fl, c, rs, hJ, hnow, hcb, hrb, hgb, hflb⟩ := hal
        have hlog := jf_log hJ
        have hq : D.Queue.length = 0 := by have := hlog.q; simp only at this; rw [this]; rfl
        have hbase : D.Base.length = m := hlog.base
        have he : e = m := hJ.ok.e
        have ha := hlog.a
        have hale := hlog.le
        have hle := endPos_le rs (2 * 4)
        simp only at ha hale
        have hrs60 : rs.length ≤ 60 := by
          have := jf_len hJ
          omega
        have hrl : may.records.length ≤ 60 := by
          have := jf_len hJ
          rw [hnow]
          show (rs.map toBytes).length ≤ 60
          rw [List.length_map]
          omega
        repeat' (first
    | (intro (K' : KT) hK'; push_cast; (repeat' refine And.intro ?_ ?_); all_goals (first | (apply hK'; clear hK' K') | (refine ⟨trivial, trivial, ?_⟩; apply hK'; clear hK' K') | (intro hb; (try push_cast at hb); all_goals (intros; apply hK'; clear hK' K')) | ((first | refine call_J jApp_con (fun _ _ => rfl) ?_ | refine call_1 Dead_con (fun _ _ => rfl) ?_ | refine call_1 Fuse_con (fun _ _ => rfl) ?_); push_cast; (repeat' refine And.intro ?_ ?_); all_goals (first | (apply hK'; clear hK' K') | (intros; apply hK'; clear hK' K') | (clear hK' K'; first | omega | skip))) | (clear hK' K'; first | omega | skip)))
    | apply go_seq | apply go_block | refine go_region_stop (id := 18) ?_ | refine go_region_stop (id := 22) ?_ | refine go_region_stop (id := 26) ?_ | apply go_region | apply go_skip | apply go_exit | apply go_ret
    | apply seqK_n | apply seqK_x | apply seqK_r | apply blockK_n | apply blockK_r | apply blockK_hit | apply blockK_miss rfl | apply loopK_x | apply loopK_r | apply regK_go | apply finK_n | apply finK_r
    | (refine vres_go ?_; push_cast) | apply ops_nil | refine ops_in (w_i64 _ (by omega) (by omega)) ?_ | refine ops_in (w_u8 _ (by omega) (by omega)) ?_ | refine ops_in (w_u32 _ (by omega) (by omega)) ?_ | refine ops_in (w_u64 _ (by omega) (by omega)) ?_
    | refine ops_put rfl rfl ?_ | refine ops_no rfl rfl ?_
    | (refine go_cond (by push_cast; first | done | rfl) ?_ ?_ <;> intro hc <;> (try push_cast at hc))
    | refine ops_gt rfl rfl rfl (by push_cast; first | done | rfl) ?_
    | refine ops_gb rfl rfl rfl (by push_cast; first | done | rfl) ?_ ?_
    | refine go_draw (id := 19) [1, 2, 4, 5, 6] [8, 10] [8, 11] (.or 0 (.or 3 (.or 7 (.or 8 (.free 9 (.or 10 (.done) (.stop))) (.stop)) (.stop)) (.or 7 (.or 3 (.or 8 (.free 9 (.or 10 (.done) (.stop))) (.stop)) (.stop)) (.stop))) (.or 7 (.or 0 (.or 3 (.or 8 (.free 9 (.or 10 (.done) (.stop))) (.stop)) (.stop)) (.stop)) (.stop))) wide (by kernel_rfl) ?_
    | apply goA_nil | apply goS_done | apply goS_stop
    | refine goA_put rfl rfl rfl ?_ | refine goS_free rfl rfl rfl ?_
    | (refine goS_late rfl rfl rfl rfl ?_ ?_; rotate_left) | (refine goS_late' rfl rfl rfl rfl ?_ ?_; rotate_left)
    | (refine goS_hid rfl rfl rfl rfl ?_ ?_; rotate_left; focus (intro K' hK'; push_cast; (repeat' refine And.intro ?_ ?_); all_goals (first | (refine hK' _ _ _ _ _ (by push_cast) (by push_cast; first | done | rfl) ?_; clear hK' K') | ((first | refine call_J jApp_con (fun _ _ => rfl) ?_ | refine call_1 Dead_con (fun _ _ => rfl) ?_ | refine call_1 Fuse_con (fun _ _ => rfl) ?_); push_cast; (repeat' refine And.intro ?_ ?_); all_goals (first | (refine hK' _ _ _ _ _ (by push_cast) (by push_cast; first | done | rfl) ?_; clear hK' K') | (intros; refine hK' _ _ _ _ _ (by push_cast) (by push_cast; first | done | rfl) ?_; clear hK' K') | (clear hK' K'; first | omega | skip))) | (clear hK' K'; first | omega | skip))))
    | refine goA_gt rfl rfl rfl rfl (by push_cast; first | done | rfl) ?_
    | refine goA_gb rfl rfl rfl rfl (by push_cast; first | done | rfl) ?_ ?_
    | (intro (hc : (_ : Prop)); (try push_cast at hc)) | intro (hc : R08Item) | intro (hc : Int) | intro (hc : Nat))
        · have hxx := hx ‹_›
          have hkind : (acts.getD i ⟨0, 0, [], []⟩).Kind = 0 := ‹_›
          clear hx
          generalize acts.getD i ⟨0, 0, [], []⟩ = x at *
          have happ := jf_app hJ hxx.2.1.1 (by omega)
          rcases happ with happ | happ | ⟨p1, p2, p3⟩ | ⟨p1, p2, p3, p4, p5, p6, p7, j, p8⟩
          · rw [happ]
            apply regKS_go
            push_cast
            repeat' (first
    | (intro (K' : KT) hK'; push_cast; (repeat' refine And.intro ?_ ?_); all_goals (first | (apply hK'; clear hK' K') | (refine ⟨trivial, trivial, ?_⟩; apply hK'; clear hK' K') | (intro hb; (try push_cast at hb); all_goals (intros; apply hK'; clear hK' K')) | (clear hK' K'; first | omega | skip)))
    | apply go_seq | apply go_block | apply go_region | apply go_skip | apply go_exit | apply go_ret
    | apply seqK_n | apply seqK_x | apply seqK_r | apply blockK_n | apply blockK_r | apply blockK_hit | apply blockK_miss rfl | apply loopK_x | apply loopK_r | apply regK_go | apply finK_n | apply finK_r
    | (refine vres_go ?_; push_cast) | apply ops_nil | refine ops_in (w_i64 _ (by omega) (by omega)) ?_ | refine ops_in (w_u8 _ (by omega) (by omega)) ?_ | refine ops_in (w_u32 _ (by omega) (by omega)) ?_ | refine ops_in (w_u64 _ (by omega) (by omega)) ?_
    | refine ops_put rfl rfl ?_ | refine ops_no rfl rfl ?_
    | (refine go_cond (by push_cast; first | done | rfl) ?_ ?_ <;> intro hc <;> (try push_cast at hc))
    | refine ops_gt rfl rfl rfl (by push_cast; first | done | rfl) ?_
    | refine ops_gb rfl rfl rfl (by push_cast; first | done | rfl) ?_ ?_
    | refine go_draw (id := 19) [1, 2, 4, 5, 6] [8, 10] [8, 11] (.or 0 (.or 3 (.or 7 (.or 8 (.free 9 (.or 10 (.done) (.stop))) (.stop)) (.stop)) (.or 7 (.or 3 (.or 8 (.free 9 (.or 10 (.done) (.stop))) (.stop)) (.stop)) (.stop))) (.or 7 (.or 0 (.or 3 (.or 8 (.free 9 (.or 10 (.done) (.stop))) (.stop)) (.stop)) (.stop)) (.stop))) wide (by kernel_rfl) ?_
    | apply goA_nil | apply goS_done | apply goS_stop
    | refine goA_put rfl rfl rfl ?_ | refine goS_free rfl rfl rfl ?_
    | (refine goS_late rfl rfl rfl rfl ?_ ?_; rotate_left) | (refine goS_late' rfl rfl rfl rfl ?_ ?_; rotate_left)
    | (refine goS_hid rfl rfl rfl rfl ?_ ?_; rotate_left; focus (intro K' hK'; push_cast; (repeat' refine And.intro ?_ ?_); all_goals (first | (refine hK' _ _ _ _ _ (by push_cast) (by push_cast; first | done | rfl) ?_; clear hK' K') | (clear hK' K'; first | omega | skip))))
    | refine goA_gt rfl rfl rfl rfl (by push_cast; first | done | rfl) ?_
    | refine goA_gb rfl rfl rfl rfl (by push_cast; first | done | rfl) ?_ ?_
    | (intro (hc : (_ : Prop)); (try push_cast at hc)) | intro (hc : R08Item) | intro (hc : Int) | intro (hc : Nat))
            all_goals
              refine loopK_m ⟨⟨D, a, e, st⟩, true, may, may, i + 1⟩ ⟨by simp only; omega, .inl ⟨rfl, rfl, g, fl, c, rs, hJ, hnow, hcb, hrb, by simp only; omega, by simp only; omega⟩⟩ (by simp only; omega) ?_
              push_cast
          · rw [happ]
            apply regKS_go
            push_cast
            repeat' (first
    | (intro (K' : KT) hK'; push_cast; (repeat' refine And.intro ?_ ?_); all_goals (first | (apply hK'; clear hK' K') | (refine ⟨trivial, trivial, ?_⟩; apply hK'; clear hK' K') | (intro hb; (try push_cast at hb); all_goals (intros; apply hK'; clear hK' K')) | (clear hK' K'; first | omega | skip)))
    | apply go_seq | apply go_block | apply go_region | apply go_skip | apply go_exit | apply go_ret
    | apply seqK_n | apply seqK_x | apply seqK_r | apply blockK_n | apply blockK_r | apply blockK_hit | apply blockK_miss rfl | apply loopK_x | apply loopK_r | apply regK_go | apply finK_n | apply finK_r
    | (refine vres_go ?_; push_cast) | apply ops_nil | refine ops_in (w_i64 _ (by omega) (by omega)) ?_ | refine ops_in (w_u8 _ (by omega) (by omega)) ?_ | refine ops_in (w_u32 _ (by omega) (by omega)) ?_ | refine ops_in (w_u64 _ (by omega) (by omega)) ?_
    | refine ops_put rfl rfl ?_ | refine ops_no rfl rfl ?_
    | (refine go_cond (by push_cast; first | done | rfl) ?_ ?_ <;> intro hc <;> (try push_cast at hc))
    | refine ops_gt rfl rfl rfl (by push_cast; first | done | rfl) ?_
    | refine ops_gb rfl rfl rfl (by push_cast; first | done | rfl) ?_ ?_
    | refine go_draw (id := 19) [1, 2, 4, 5, 6] [8, 10] [8, 11] (.or 0 (.or 3 (.or 7 (.or 8 (.free 9 (.or 10 (.done) (.stop))) (.stop)) (.stop)) (.or 7 (.or 3 (.or 8 (.free 9 (.or 10 (.done) (.stop))) (.stop)) (.stop)) (.stop))) (.or 7 (.or 0 (.or 3 (.or 8 (.free 9 (.or 10 (.done) (.stop))) (.stop)) (.stop)) (.stop)) (.stop))) wide (by kernel_rfl) ?_
    | apply goA_nil | apply goS_done | apply goS_stop
    | refine goA_put rfl rfl rfl ?_ | refine goS_free rfl rfl rfl ?_
    | (refine goS_late rfl rfl rfl rfl ?_ ?_; rotate_left) | (refine goS_late' rfl rfl rfl rfl ?_ ?_; rotate_left)
    | (refine goS_hid rfl rfl rfl rfl ?_ ?_; rotate_left; focus (intro K' hK'; push_cast; (repeat' refine And.intro ?_ ?_); all_goals (first | (refine hK' _ _ _ _ _ (by push_cast) (by push_cast; first | done | rfl) ?_; clear hK' K') | (clear hK' K'; first | omega | skip))))
    | refine goA_gt rfl rfl rfl rfl (by push_cast; first | done | rfl) ?_
    | refine goA_gb rfl rfl rfl rfl (by push_cast; first | done | rfl) ?_ ?_
    | (intro (hc : (_ : Prop)); (try push_cast at hc)) | intro (hc : R08Item) | intro (hc : Int) | intro (hc : Nat))
            all_goals
              refine loopK_m ⟨⟨D, a, e, st⟩, true, may, may, i + 1⟩ ⟨by simp only; omega, .inl ⟨rfl, rfl, g, fl, c, rs, hJ, hnow, hcb, hrb, by simp only; omega, by simp only; omega⟩⟩ (by simp only; omega) ?_
              push_cast
          · have e1 : jApp ⟨⟨D, a, e, st⟩, 4, true⟩ x.Bytes = ((jApp ⟨⟨D, a, e, st⟩, 4, true⟩ x.Bytes).1, 0) := Prod.ext rfl p1
            rw [e1]
            clear e1 p1
            generalize (jApp ⟨⟨D, a, e, st⟩, 4, true⟩ x.Bytes).1 = J at *
            obtain ⟨⟨D2, a2, e2, st2⟩, z, b⟩ := J
            simp only at p3
            subst p3
            have hb2 : b = true := p2.ok.r
            subst hb2
            apply regKS_go
            push_cast
            repeat' (first
    | (intro (K' : KT) hK'; push_cast; (repeat' refine And.intro ?_ ?_); all_goals (first | (apply hK'; clear hK' K') | (refine ⟨trivial, trivial, ?_⟩; apply hK'; clear hK' K') | (intro hb; (try push_cast at hb); all_goals (intros; apply hK'; clear hK' K')) | (clear hK' K'; first | omega | skip)))
    | apply go_seq | apply go_block | apply go_region | apply go_skip | apply go_exit | apply go_ret
    | apply seqK_n | apply seqK_x | apply seqK_r | apply blockK_n | apply blockK_r | apply blockK_hit | apply blockK_miss rfl | apply loopK_x | apply loopK_r | apply regK_go | apply finK_n | apply finK_r
    | (refine vres_go ?_; push_cast) | apply ops_nil | refine ops_in (w_i64 _ (by omega) (by omega)) ?_ | refine ops_in (w_u8 _ (by omega) (by omega)) ?_ | refine ops_in (w_u32 _ (by omega) (by omega)) ?_ | refine ops_in (w_u64 _ (by omega) (by omega)) ?_
    | refine ops_put rfl rfl ?_ | refine ops_no rfl rfl ?_
    | (refine go_cond (by push_cast; first | done | rfl) ?_ ?_ <;> intro hc <;> (try push_cast at hc))
    | refine ops_gt rfl rfl rfl (by push_cast; first | done | rfl) ?_
    | refine ops_gb rfl rfl rfl (by push_cast; first | done | rfl) ?_ ?_
    | refine go_draw (id := 19) [1, 2, 4, 5, 6] [8, 10] [8, 11] (.or 0 (.or 3 (.or 7 (.or 8 (.free 9 (.or 10 (.done) (.stop))) (.stop)) (.stop)) (.or 7 (.or 3 (.or 8 (.free 9 (.or 10 (.done) (.stop))) (.stop)) (.stop)) (.stop))) (.or 7 (.or 0 (.or 3 (.or 8 (.free 9 (.or 10 (.done) (.stop))) (.stop)) (.stop)) (.stop)) (.stop))) wide (by kernel_rfl) ?_
    | apply goA_nil | apply goS_done | apply goS_stop
    | refine goA_put rfl rfl rfl ?_ | refine goS_free rfl rfl rfl ?_
    | (refine goS_late rfl rfl rfl rfl ?_ ?_; rotate_left) | (refine goS_late' rfl rfl rfl rfl ?_ ?_; rotate_left)
    | (refine goS_hid rfl rfl rfl rfl ?_ ?_; rotate_left; focus (intro K' hK'; push_cast; (repeat' refine And.intro ?_ ?_); all_goals (first | (refine hK' _ _ _ _ _ (by push_cast) (by push_cast; first | done | rfl) ?_; clear hK' K') | (clear hK' K'; first | omega | skip))))
    | refine goA_gt rfl rfl rfl rfl (by push_cast; first | done | rfl) ?_
    | refine goA_gb rfl rfl rfl rfl (by push_cast; first | done | rfl) ?_ ?_
    | (intro (hc : (_ : Prop)); (try push_cast at hc)) | intro (hc : R08Item) | intro (hc : Int) | intro (hc : Nat))
            all_goals
              refine loopK_frz 76 rfl ?_
              push_cast
              refine loopK_m ⟨⟨D2, a2, e2, st2⟩, true, ⟨may.state, may.records ++ [toBytes x.Bytes]⟩, ⟨may.state, may.records ++ [toBytes x.Bytes]⟩, i + 1⟩ ⟨by simp only; omega, .inl ⟨rfl, rfl, g, fl, c, rs ++ [x.Bytes], p2, by rw [hnow]; simp [pastOf], hcb, fun y hy => ?_, by simp only; omega, by simp only [List.length_append, List.length_singleton]; omega⟩⟩ (by simp only; omega) ?_
              · simp only [List.mem_append, List.mem_singleton] at hy
                rcases hy with hy | rfl
                · exact hrb y hy
                · exact hxx.2.1
              · push_cast
                all_goals trace_state
          · have e1 : jApp ⟨⟨D, a, e, st⟩, 4, true⟩ x.Bytes = ((jApp ⟨⟨D, a, e, st⟩, 4, true⟩ x.Bytes).1, 82) := Prod.ext rfl p1
            have hwh := jApp_at p1
            rw [e1]
            clear e1 p1
            generalize (jApp ⟨⟨D, a, e, st⟩, 4, true⟩ x.Bytes).1 = J at *
            obtain ⟨⟨D2, a2, e2, st2⟩, z, b⟩ := J
            simp only at p2 p3 p4 p5 p8 hwh
            subst p2 p3
            have hae2 : 0 ≤ a2 ∧ a2 ≤ e2 ∧ e2 ≤ 4096 := by omega
            apply regKS_go
            push_cast
            repeat' (first
    | (intro (K' : KT) hK'; push_cast; (repeat' refine And.intro ?_ ?_); all_goals (first | (apply hK'; clear hK' K') | (refine ⟨trivial, trivial, ?_⟩; apply hK'; clear hK' K') | (intro hb; (try push_cast at hb); all_goals (intros; apply hK'; clear hK' K')) | (clear hK' K'; first | omega | skip)))
    | apply go_seq | apply go_block | apply go_region | apply go_skip | apply go_exit | apply go_ret
    | apply seqK_n | apply seqK_x | apply seqK_r | apply blockK_n | apply blockK_r | apply blockK_hit | apply blockK_miss rfl | apply loopK_x | apply loopK_r | apply regK_go | apply finK_n | apply finK_r
    | (refine vres_go ?_; push_cast) | apply ops_nil | refine ops_in (w_i64 _ (by omega) (by omega)) ?_ | refine ops_in (w_u8 _ (by omega) (by omega)) ?_ | refine ops_in (w_u32 _ (by omega) (by omega)) ?_ | refine ops_in (w_u64 _ (by omega) (by omega)) ?_
    | refine ops_put rfl rfl ?_ | refine ops_no rfl rfl ?_
    | (refine go_cond (by push_cast; first | done | rfl) ?_ ?_ <;> intro hc <;> (try push_cast at hc))
    | refine ops_gt rfl rfl rfl (by push_cast; first | done | rfl) ?_
    | refine ops_gb rfl rfl rfl (by push_cast; first | done | rfl) ?_ ?_
    | refine go_draw (id := 19) [1, 2, 4, 5, 6] [8, 10] [8, 11] (.or 0 (.or 3 (.or 7 (.or 8 (.free 9 (.or 10 (.done) (.stop))) (.stop)) (.stop)) (.or 7 (.or 3 (.or 8 (.free 9 (.or 10 (.done) (.stop))) (.stop)) (.stop)) (.stop))) (.or 7 (.or 0 (.or 3 (.or 8 (.free 9 (.or 10 (.done) (.stop))) (.stop)) (.stop)) (.stop)) (.stop))) wide (by kernel_rfl) ?_
    | apply goA_nil | apply goS_done | apply goS_stop
    | refine goA_put rfl rfl rfl ?_ | refine goS_free rfl rfl rfl ?_
    | (refine goS_late rfl rfl rfl rfl ?_ ?_; rotate_left) | (refine goS_late' rfl rfl rfl rfl ?_ ?_; rotate_left)
    | (refine goS_hid rfl rfl rfl rfl ?_ ?_; rotate_left; focus (intro K' hK'; push_cast; (repeat' refine And.intro ?_ ?_); all_goals (first | (refine hK' _ _ _ _ _ (by push_cast) (by push_cast; first | done | rfl) ?_; clear hK' K') | (clear hK' K'; first | omega | skip))))
    | refine goA_gt rfl rfl rfl rfl (by push_cast; first | done | rfl) ?_
    | refine goA_gb rfl rfl rfl rfl (by push_cast; first | done | rfl) ?_ ?_
    | (intro (hc : (_ : Prop)); (try push_cast at hc)) | intro (hc : R08Item) | intro (hc : Int) | intro (hc : Nat))
            all_goals
              refine loopK_frz 76 rfl ?_
              push_cast
              refine loopK_m ⟨⟨D2, a2, e2, st2⟩, false, may, ⟨may.state, may.records ++ [toBytes x.Bytes]⟩, i + 1⟩ ⟨by simp only; omega, .inr ⟨rfl, p5, hae2, ?_, ?_, by simp only; omega, fun keep => ?_⟩⟩ (by simp only; omega) ?_
              · show D2.Base.length = m
                rw [p4]; exact hbase
              · show D2.Queue.length ≤ 1000
                have hbd := spanR_bd x.Bytes
                rw [p8, itemsAt_len, List.length_take, secsN_len]
                have : (spanN (closeN x.Bytes).length).toNat ≤ 255 := by have : spanN (closeN x.Bytes).length ≤ 255 := hbd.2; omega
                omega
              · obtain ⟨rs', hrs, hfin⟩ := finds_app hJ hxx.2.1.1 p6 p7 p4 p8 keep
                refine ⟨g, fl, c, rs', finds_up hfin (by simp only; omega) (by simp only; omega), ?_, hcb, fun y hy => ?_, ?_⟩
                · rcases hrs with rfl | rfl
                  · exact .inl hnow.symm
                  · right
                    rw [hnow]
                    simp [pastOf]
                · rcases hrs with rfl | rfl
                  · exact hrb y hy
                  · simp only [List.mem_append, List.mem_singleton] at hy
                    rcases hy with hy | rfl
                    · exact hrb y hy
                    · exact hxx.2.1
                · rcases hrs with rfl | rfl
                  · omega
                  · rw [List.length_append, List.length_singleton]; omega
              · push_cast
                all_goals trace_state
        all_goals (try (exfalso; omega))
        · refine loopK_m ⟨⟨D, a, e, st⟩, true, may, may, i + 1⟩ ⟨by simp only; omega, .inl ⟨rfl, rfl, g, fl, c, rs, hJ, hnow, hcb, hrb, by simp only; omega, by simp only; omega⟩⟩ (by simp only; omega) ?_
          push_cast
        · have hxx := hx ‹_›
          clear hx
          generalize acts.getD i ⟨0, 0, [], []⟩ = x at *
          have hgl : g + 1 < 4611686018427387904 := by omega
          have hfl0 := hJ.ok.b
          have hstv : st - 1 = fl + rs.length := jok_st (J := ⟨calmL ⟨D, a, e, st⟩, 4, true⟩) hJ.ok
          by_cases hfit : spanN (closeN (numB (fl + rs.length).toNat ++ x.Bytes)).length ≠ 0 ∧ spanN (closeN (numB (fl + rs.length).toNat ++ x.Bytes)).length ≤ 4
          · rcases jf_com hJ hgl hxx.2.1.1 hfit with ⟨p1, p2⟩ | ⟨p1, p2, p3, j, p4⟩
            · simp only at p1
              repeat' (first
    | (intro (K' : KT) hK'; push_cast; (repeat' refine And.intro ?_ ?_); all_goals (first | (apply hK'; clear hK' K') | (refine ⟨trivial, trivial, ?_⟩; apply hK'; clear hK' K') | (intro hb; (try push_cast at hb); all_goals (intros; apply hK'; clear hK' K')) | ((first | refine call_JN jCom_con 9200 (fun _ _ => rfl) ?_); push_cast; (repeat' refine And.intro ?_ ?_); all_goals (first | (apply hK'; clear hK' K') | (intros; apply hK'; clear hK' K') | (clear hK' K'; first | omega | skip))) | (clear hK' K'; first | omega | skip)))
    | apply go_seq | apply go_block | apply go_region | apply go_skip | apply go_exit | apply go_ret
    | apply seqK_n | apply seqK_x | apply seqK_r | apply blockK_n | apply blockK_r | apply blockK_hit | apply blockK_miss rfl | apply loopK_x | apply loopK_r | apply regK_go | apply finK_n | apply finK_r
    | (refine vres_go ?_; push_cast) | apply ops_nil | refine ops_in (w_i64 _ (by omega) (by omega)) ?_ | refine ops_in (w_u8 _ (by omega) (by omega)) ?_ | refine ops_in (w_u32 _ (by omega) (by omega)) ?_ | refine ops_in (w_u64 _ (by omega) (by omega)) ?_
    | refine ops_put rfl rfl ?_ | refine ops_no rfl rfl ?_
    | (refine go_cond (by push_cast; first | done | rfl) ?_ ?_ <;> intro hc <;> (try push_cast at hc))
    | refine ops_gt rfl rfl rfl (by push_cast; first | done | rfl) ?_
    | refine ops_gb rfl rfl rfl (by push_cast; first | done | rfl) ?_ ?_
    | refine go_draw (id := 19) [1, 2, 4, 5, 6] [8, 10] [8, 11] (.or 0 (.or 3 (.or 7 (.or 8 (.free 9 (.or 10 (.done) (.stop))) (.stop)) (.stop)) (.or 7 (.or 3 (.or 8 (.free 9 (.or 10 (.done) (.stop))) (.stop)) (.stop)) (.stop))) (.or 7 (.or 0 (.or 3 (.or 8 (.free 9 (.or 10 (.done) (.stop))) (.stop)) (.stop)) (.stop)) (.stop))) wide (by kernel_rfl) ?_
    | apply goA_nil | apply goS_done | apply goS_stop
    | refine goA_put rfl rfl rfl ?_ | refine goS_free rfl rfl rfl ?_
    | (refine goS_late rfl rfl rfl rfl ?_ ?_; rotate_left) | (refine goS_late' rfl rfl rfl rfl ?_ ?_; rotate_left)
    | (refine goS_hid rfl rfl rfl rfl ?_ ?_; rotate_left; focus (intro K' hK'; push_cast; (repeat' refine And.intro ?_ ?_); all_goals (first | (refine hK' _ _ _ _ _ (by push_cast) (by push_cast; first | done | rfl) ?_; clear hK' K') | ((first | refine call_JN jCom_con 9200 (fun _ _ => rfl) ?_); push_cast; (repeat' refine And.intro ?_ ?_); all_goals (first | (refine hK' _ _ _ _ _ (by push_cast) (by push_cast; first | done | rfl) ?_; clear hK' K') | (intros; refine hK' _ _ _ _ _ (by push_cast) (by push_cast; first | done | rfl) ?_; clear hK' K') | (clear hK' K'; first | omega | skip))) | (clear hK' K'; first | omega | skip))))
    | refine goA_gt rfl rfl rfl rfl (by push_cast; first | done | rfl) ?_
    | refine goA_gb rfl rfl rfl rfl (by push_cast; first | done | rfl) ?_ ?_
    | (intro (hc : (_ : Prop)); (try push_cast at hc)) | intro (hc : R08Item) | intro (hc : Int) | intro (hc : Nat))
              have hz2 : (jCom ⟨⟨D, a, e, st⟩, 4, true⟩ x.Bytes).z = 4 := rfl
              have hb2 : (jCom ⟨⟨D, a, e, st⟩, 4, true⟩ x.Bytes).r = true := rfl
              generalize jCom ⟨⟨D, a, e, st⟩, 4, true⟩ x.Bytes = J at *
              obtain ⟨⟨D2, a2, e2, st2⟩, z, b⟩ := J
              simp only at hz2 hb2
              subst hz2 hb2
              apply regKS_go
              push_cast
              repeat' (first
    | (intro (K' : KT) hK'; push_cast; (repeat' refine And.intro ?_ ?_); all_goals (first | (apply hK'; clear hK' K') | (refine ⟨trivial, trivial, ?_⟩; apply hK'; clear hK' K') | (intro hb; (try push_cast at hb); all_goals (intros; apply hK'; clear hK' K')) | (clear hK' K'; first | omega | skip)))
    | apply go_seq | apply go_block | apply go_region | apply go_skip | apply go_exit | apply go_ret
    | apply seqK_n | apply seqK_x | apply seqK_r | apply blockK_n | apply blockK_r | apply blockK_hit | apply blockK_miss rfl | apply loopK_x | apply loopK_r | apply regK_go | apply finK_n | apply finK_r
    | (refine vres_go ?_; push_cast) | apply ops_nil | refine ops_in (w_i64 _ (by omega) (by omega)) ?_ | refine ops_in (w_u8 _ (by omega) (by omega)) ?_ | refine ops_in (w_u32 _ (by omega) (by omega)) ?_ | refine ops_in (w_u64 _ (by omega) (by omega)) ?_
    | refine ops_put rfl rfl ?_ | refine ops_no rfl rfl ?_
    | (refine go_cond (by push_cast; first | done | rfl) ?_ ?_ <;> intro hc <;> (try push_cast at hc))
    | refine ops_gt rfl rfl rfl (by push_cast; first | done | rfl) ?_
    | refine ops_gb rfl rfl rfl (by push_cast; first | done | rfl) ?_ ?_
    | refine go_draw (id := 19) [1, 2, 4, 5, 6] [8, 10] [8, 11] (.or 0 (.or 3 (.or 7 (.or 8 (.free 9 (.or 10 (.done) (.stop))) (.stop)) (.stop)) (.or 7 (.or 3 (.or 8 (.free 9 (.or 10 (.done) (.stop))) (.stop)) (.stop)) (.stop))) (.or 7 (.or 0 (.or 3 (.or 8 (.free 9 (.or 10 (.done) (.stop))) (.stop)) (.stop)) (.stop)) (.stop))) wide (by kernel_rfl) ?_
    | apply goA_nil | apply goS_done | apply goS_stop
    | refine goA_put rfl rfl rfl ?_ | refine goS_free rfl rfl rfl ?_
    | (refine goS_late rfl rfl rfl rfl ?_ ?_; rotate_left) | (refine goS_late' rfl rfl rfl rfl ?_ ?_; rotate_left)
    | (refine goS_hid rfl rfl rfl rfl ?_ ?_; rotate_left; focus (intro K' hK'; push_cast; (repeat' refine And.intro ?_ ?_); all_goals (first | (refine hK' _ _ _ _ _ (by push_cast) (by push_cast; first | done | rfl) ?_; clear hK' K') | (clear hK' K'; first | omega | skip))))
    | refine goA_gt rfl rfl rfl rfl (by push_cast; first | done | rfl) ?_
    | refine goA_gb rfl rfl rfl rfl (by push_cast; first | done | rfl) ?_ ?_
    | (intro (hc : (_ : Prop)); (try push_cast at hc)) | intro (hc : R08Item) | intro (hc : Int) | intro (hc : Nat))
              refine loopK_m ⟨⟨D2, a2, e2, st2⟩, true, ⟨toBytes x.Bytes, []⟩, ⟨toBytes x.Bytes, []⟩, i + 1⟩ ⟨by simp only; omega, .inl ⟨rfl, rfl, g + 1, fl + rs.length, x.Bytes, [], p2, rfl, hxx.2.1, by simp, by simp only; omega, by simp only [List.length_nil]; omega⟩⟩ (by simp only; omega) ?_
              push_cast
            · simp only at p1 p2 p3 p4
              have p0 : (slWrite D 0 4 (numB (st - 1).toNat ++ x.Bytes)).2.2 ≠ 0 := by rw [p1]; decide
              have hae : 0 ≤ a ∧ a ≤ e ∧ e ≤ 4096 := by omega
              repeat' (first
    | (intro (K' : KT) hK'; push_cast; (repeat' refine And.intro ?_ ?_); all_goals (first | (apply hK'; clear hK' K') | (refine ⟨trivial, trivial, ?_⟩; apply hK'; clear hK' K') | (intro hb; (try push_cast at hb); all_goals (intros; apply hK'; clear hK' K')) | ((first | refine call_J jComG_con (fun _ _ => rfl) ?_); push_cast; (repeat' refine And.intro ?_ ?_); all_goals (first | (apply hK'; clear hK' K') | (intros; apply hK'; clear hK' K') | (clear hK' K'; first | omega | skip))) | (clear hK' K'; first | omega | skip)))
    | apply go_seq | apply go_block | apply go_region | apply go_skip | apply go_exit | apply go_ret
    | apply seqK_n | apply seqK_x | apply seqK_r | apply blockK_n | apply blockK_r | apply blockK_hit | apply blockK_miss rfl | apply loopK_x | apply loopK_r | apply regK_go | apply finK_n | apply finK_r
    | (refine vres_go ?_; push_cast) | apply ops_nil | refine ops_in (w_i64 _ (by omega) (by omega)) ?_ | refine ops_in (w_u8 _ (by omega) (by omega)) ?_ | refine ops_in (w_u32 _ (by omega) (by omega)) ?_ | refine ops_in (w_u64 _ (by omega) (by omega)) ?_
    | refine ops_put rfl rfl ?_ | refine ops_no rfl rfl ?_
    | (refine go_cond (by push_cast; first | done | rfl) ?_ ?_ <;> intro hc <;> (try push_cast at hc))
    | refine ops_gt rfl rfl rfl (by push_cast; first | done | rfl) ?_
    | refine ops_gb rfl rfl rfl (by push_cast; first | done | rfl) ?_ ?_
    | refine go_draw (id := 19) [1, 2, 4, 5, 6] [8, 10] [8, 11] (.or 0 (.or 3 (.or 7 (.or 8 (.free 9 (.or 10 (.done) (.stop))) (.stop)) (.stop)) (.or 7 (.or 3 (.or 8 (.free 9 (.or 10 (.done) (.stop))) (.stop)) (.stop)) (.stop))) (.or 7 (.or 0 (.or 3 (.or 8 (.free 9 (.or 10 (.done) (.stop))) (.stop)) (.stop)) (.stop)) (.stop))) wide (by kernel_rfl) ?_
    | apply goA_nil | apply goS_done | apply goS_stop
    | refine goA_put rfl rfl rfl ?_ | refine goS_free rfl rfl rfl ?_
    | (refine goS_late rfl rfl rfl rfl ?_ ?_; rotate_left) | (refine goS_late' rfl rfl rfl rfl ?_ ?_; rotate_left)
    | (refine goS_hid rfl rfl rfl rfl ?_ ?_; rotate_left; focus (intro K' hK'; push_cast; (repeat' refine And.intro ?_ ?_); all_goals (first | (refine hK' _ _ _ _ _ (by push_cast) (by push_cast; first | done | rfl) ?_; clear hK' K') | ((first | refine call_J jComG_con (fun _ _ => rfl) ?_); push_cast; (repeat' refine And.intro ?_ ?_); all_goals (first | (refine hK' _ _ _ _ _ (by push_cast) (by push_cast; first | done | rfl) ?_; clear hK' K') | (intros; refine hK' _ _ _ _ _ (by push_cast) (by push_cast; first | done | rfl) ?_; clear hK' K') | (clear hK' K'; first | omega | skip))) | (clear hK' K'; first | omega | skip))))
    | refine goA_gt rfl rfl rfl rfl (by push_cast; first | done | rfl) ?_
    | refine goA_gb rfl rfl rfl rfl (by push_cast; first | done | rfl) ?_ ?_
    | (intro (hc : (_ : Prop)); (try push_cast at hc)) | intro (hc : R08Item) | intro (hc : Int) | intro (hc : Nat))
              have hG : jComG ⟨⟨D, a, e, st⟩, 4, true⟩ x.Bytes = ⟨⟨(slWrite D 0 4 (numB (st - 1).toNat ++ x.Bytes)).1, a, e, st⟩, 4, false⟩ := by
                unfold jComG
                simp only
                rw [if_pos p1]
              rw [hG, p1]
              clear hG
              have hcom := fun keep => finds_com hJ hgl hxx.2.1.1 hfit p2 p4 keep
              have hql : (slWrite D 0 4 (numB (st - 1).toNat ++ x.Bytes)).1.Queue.length ≤ 1000 := by
                rw [p4, itemsAt_len, List.length_take, secsN_len]
                omega
              clear p0 p4
              generalize slWrite D 0 4 (numB (st - 1).toNat ++ x.Bytes) = W at *
              apply regKS_go
              push_cast
              repeat' (first
    | (intro (K' : KT) hK'; push_cast; (repeat' refine And.intro ?_ ?_); all_goals (first | (apply hK'; clear hK' K') | (refine ⟨trivial, trivial, ?_⟩; apply hK'; clear hK' K') | (intro hb; (try push_cast at hb); all_goals (intros; apply hK'; clear hK' K')) | (clear hK' K'; first | omega | skip)))
    | apply go_seq | apply go_block | apply go_region | apply go_skip | apply go_exit | apply go_ret
    | apply seqK_n | apply seqK_x | apply seqK_r | apply blockK_n | apply blockK_r | apply blockK_hit | apply blockK_miss rfl | apply loopK_x | apply loopK_r | apply regK_go | apply finK_n | apply finK_r
    | (refine vres_go ?_; push_cast) | apply ops_nil | refine ops_in (w_i64 _ (by omega) (by omega)) ?_ | refine ops_in (w_u8 _ (by omega) (by omega)) ?_ | refine ops_in (w_u32 _ (by omega) (by omega)) ?_ | refine ops_in (w_u64 _ (by omega) (by omega)) ?_
    | refine ops_put rfl rfl ?_ | refine ops_no rfl rfl ?_
    | (refine go_cond (by push_cast; first | done | rfl) ?_ ?_ <;> intro hc <;> (try push_cast at hc))
    | refine ops_gt rfl rfl rfl (by push_cast; first | done | rfl) ?_
    | refine ops_gb rfl rfl rfl (by push_cast; first | done | rfl) ?_ ?_
    | refine go_draw (id := 19) [1, 2, 4, 5, 6] [8, 10] [8, 11] (.or 0 (.or 3 (.or 7 (.or 8 (.free 9 (.or 10 (.done) (.stop))) (.stop)) (.stop)) (.or 7 (.or 3 (.or 8 (.free 9 (.or 10 (.done) (.stop))) (.stop)) (.stop)) (.stop))) (.or 7 (.or 0 (.or 3 (.or 8 (.free 9 (.or 10 (.done) (.stop))) (.stop)) (.stop)) (.stop)) (.stop))) wide (by kernel_rfl) ?_
    | apply goA_nil | apply goS_done | apply goS_stop
    | refine goA_put rfl rfl rfl ?_ | refine goS_free rfl rfl rfl ?_
    | (refine goS_late rfl rfl rfl rfl ?_ ?_; rotate_left) | (refine goS_late' rfl rfl rfl rfl ?_ ?_; rotate_left)
    | (refine goS_hid rfl rfl rfl rfl ?_ ?_; rotate_left; focus (intro K' hK'; push_cast; (repeat' refine And.intro ?_ ?_); all_goals (first | (refine hK' _ _ _ _ _ (by push_cast) (by push_cast; first | done | rfl) ?_; clear hK' K') | (clear hK' K'; first | omega | skip))))
    | refine goA_gt rfl rfl rfl rfl (by push_cast; first | done | rfl) ?_
    | refine goA_gb rfl rfl rfl rfl (by push_cast; first | done | rfl) ?_ ?_
    | (intro (hc : (_ : Prop)); (try push_cast at hc)) | intro (hc : R08Item) | intro (hc : Int) | intro (hc : Nat))
              refine loopK_m ⟨⟨W.1, a, e, st⟩, false, may, ⟨toBytes x.Bytes, []⟩, i + 1⟩ ⟨by simp only; omega, .inr ⟨rfl, p3, hae, by rw [p2]; exact hbase, hql, by simp only; omega, fun keep => ?_⟩⟩ (by simp only; omega) ?_
              · obtain ⟨g', fl', c', rs', hor, hfin⟩ := hcom keep
                refine ⟨g', fl', c', rs', finds_up hfin (by simp only; omega) (by simp only; omega), ?_, ?_⟩
                · rcases hor with ⟨rfl, rfl⟩ | ⟨rfl, rfl⟩
                  · exact .inl hnow.symm
                  · exact .inr rfl
                · rcases hor with ⟨rfl, rfl⟩ | ⟨rfl, rfl⟩
                  · exact ⟨hcb, hrb, by omega⟩
                  · exact ⟨hxx.2.1, by simp, by simp⟩
              · push_cast
          · have h111 : slWrite D 0 4 (numB (st - 1).toNat ++ x.Bytes) = (D, 0, 111) := by
              rw [hstv]
              unfold slWrite
              rw [if_neg (fun h => hfit ⟨h.2.1, h.2.2⟩)]
            have p0 : (slWrite D 0 4 (numB (st - 1).toNat ++ x.Bytes)).2.2 ≠ 0 := by rw [h111]; simp
            repeat' (first
    | (intro (K' : KT) hK'; push_cast; (repeat' refine And.intro ?_ ?_); all_goals (first | (apply hK'; clear hK' K') | (refine ⟨trivial, trivial, ?_⟩; apply hK'; clear hK' K') | (intro hb; (try push_cast at hb); all_goals (intros; apply hK'; clear hK' K')) | ((first | refine call_J jComG_con (fun _ _ => rfl) ?_); push_cast; (repeat' refine And.intro ?_ ?_); all_goals (first | (apply hK'; clear hK' K') | (intros; apply hK'; clear hK' K') | (clear hK' K'; first | omega | skip))) | (clear hK' K'; first | omega | skip)))
    | apply go_seq | apply go_block | apply go_region | apply go_skip | apply go_exit | apply go_ret
    | apply seqK_n | apply seqK_x | apply seqK_r | apply blockK_n | apply blockK_r | apply blockK_hit | apply blockK_miss rfl | apply loopK_x | apply loopK_r | apply regK_go | apply finK_n | apply finK_r
    | (refine vres_go ?_; push_cast) | apply ops_nil | refine ops_in (w_i64 _ (by omega) (by omega)) ?_ | refine ops_in (w_u8 _ (by omega) (by omega)) ?_ | refine ops_in (w_u32 _ (by omega) (by omega)) ?_ | refine ops_in (w_u64 _ (by omega) (by omega)) ?_
    | refine ops_put rfl rfl ?_ | refine ops_no rfl rfl ?_
    | (refine go_cond (by push_cast; first | done | rfl) ?_ ?_ <;> intro hc <;> (try push_cast at hc))
    | refine ops_gt rfl rfl rfl (by push_cast; first | done | rfl) ?_
    | refine ops_gb rfl rfl rfl (by push_cast; first | done | rfl) ?_ ?_
    | refine go_draw (id := 19) [1, 2, 4, 5, 6] [8, 10] [8, 11] (.or 0 (.or 3 (.or 7 (.or 8 (.free 9 (.or 10 (.done) (.stop))) (.stop)) (.stop)) (.or 7 (.or 3 (.or 8 (.free 9 (.or 10 (.done) (.stop))) (.stop)) (.stop)) (.stop))) (.or 7 (.or 0 (.or 3 (.or 8 (.free 9 (.or 10 (.done) (.stop))) (.stop)) (.stop)) (.stop)) (.stop))) wide (by kernel_rfl) ?_
    | apply goA_nil | apply goS_done | apply goS_stop
    | refine goA_put rfl rfl rfl ?_ | refine goS_free rfl rfl rfl ?_
    | (refine goS_late rfl rfl rfl rfl ?_ ?_; rotate_left) | (refine goS_late' rfl rfl rfl rfl ?_ ?_; rotate_left)
    | (refine goS_hid rfl rfl rfl rfl ?_ ?_; rotate_left; focus (intro K' hK'; push_cast; (repeat' refine And.intro ?_ ?_); all_goals (first | (refine hK' _ _ _ _ _ (by push_cast) (by push_cast; first | done | rfl) ?_; clear hK' K') | ((first | refine call_J jComG_con (fun _ _ => rfl) ?_); push_cast; (repeat' refine And.intro ?_ ?_); all_goals (first | (refine hK' _ _ _ _ _ (by push_cast) (by push_cast; first | done | rfl) ?_; clear hK' K') | (intros; refine hK' _ _ _ _ _ (by push_cast) (by push_cast; first | done | rfl) ?_; clear hK' K') | (clear hK' K'; first | omega | skip))) | (clear hK' K'; first | omega | skip))))
    | refine goA_gt rfl rfl rfl rfl (by push_cast; first | done | rfl) ?_
    | refine goA_gb rfl rfl rfl rfl (by push_cast; first | done | rfl) ?_ ?_
    | (intro (hc : (_ : Prop)); (try push_cast at hc)) | intro (hc : R08Item) | intro (hc : Int) | intro (hc : Nat))
            have hG : jComG ⟨⟨D, a, e, st⟩, 4, true⟩ x.Bytes = ⟨⟨D, a, e, st⟩, 4, true⟩ := by
              unfold jComG
              simp only
              rw [h111]
              simp
            rw [hG, h111]
            clear hG
            apply regKS_go
            push_cast
            repeat' (first
    | (intro (K' : KT) hK'; push_cast; (repeat' refine And.intro ?_ ?_); all_goals (first | (apply hK'; clear hK' K') | (refine ⟨trivial, trivial, ?_⟩; apply hK'; clear hK' K') | (intro hb; (try push_cast at hb); all_goals (intros; apply hK'; clear hK' K')) | (clear hK' K'; first | omega | skip)))
    | apply go_seq | apply go_block | apply go_region | apply go_skip | apply go_exit | apply go_ret
    | apply seqK_n | apply seqK_x | apply seqK_r | apply blockK_n | apply blockK_r | apply blockK_hit | apply blockK_miss rfl | apply loopK_x | apply loopK_r | apply regK_go | apply finK_n | apply finK_r
    | (refine vres_go ?_; push_cast) | apply ops_nil | refine ops_in (w_i64 _ (by omega) (by omega)) ?_ | refine ops_in (w_u8 _ (by omega) (by omega)) ?_ | refine ops_in (w_u32 _ (by omega) (by omega)) ?_ | refine ops_in (w_u64 _ (by omega) (by omega)) ?_
    | refine ops_put rfl rfl ?_ | refine ops_no rfl rfl ?_
    | (refine go_cond (by push_cast; first | done | rfl) ?_ ?_ <;> intro hc <;> (try push_cast at hc))
    | refine ops_gt rfl rfl rfl (by push_cast; first | done | rfl) ?_
    | refine ops_gb rfl rfl rfl (by push_cast; first | done | rfl) ?_ ?_
    | refine go_draw (id := 19) [1, 2, 4, 5, 6] [8, 10] [8, 11] (.or 0 (.or 3 (.or 7 (.or 8 (.free 9 (.or 10 (.done) (.stop))) (.stop)) (.stop)) (.or 7 (.or 3 (.or 8 (.free 9 (.or 10 (.done) (.stop))) (.stop)) (.stop)) (.stop))) (.or 7 (.or 0 (.or 3 (.or 8 (.free 9 (.or 10 (.done) (.stop))) (.stop)) (.stop)) (.stop)) (.stop))) wide (by kernel_rfl) ?_
    | apply goA_nil | apply goS_done | apply goS_stop
    | refine goA_put rfl rfl rfl ?_ | refine goS_free rfl rfl rfl ?_
    | (refine goS_late rfl rfl rfl rfl ?_ ?_; rotate_left) | (refine goS_late' rfl rfl rfl rfl ?_ ?_; rotate_left)
    | (refine goS_hid rfl rfl rfl rfl ?_ ?_; rotate_left; focus (intro K' hK'; push_cast; (repeat' refine And.intro ?_ ?_); all_goals (first | (refine hK' _ _ _ _ _ (by push_cast) (by push_cast; first | done | rfl) ?_; clear hK' K') | (clear hK' K'; first | omega | skip))))
    | refine goA_gt rfl rfl rfl rfl (by push_cast; first | done | rfl) ?_
    | refine goA_gb rfl rfl rfl rfl (by push_cast; first | done | rfl) ?_ ?_
    | (intro (hc : (_ : Prop)); (try push_cast at hc)) | intro (hc : R08Item) | intro (hc : Int) | intro (hc : Nat))
            refine loopK_m ⟨⟨D, a, e, st⟩, true, may, may, i + 1⟩ ⟨by simp only; omega, .inl ⟨rfl, rfl, g, fl, c, rs, hJ, hnow, hcb, hrb, by simp only; omega, by simp only; omega⟩⟩ (by simp only; omega) ?_
            push_cast
        · refine loopK_m ⟨⟨dFuse D (acts.getD i ⟨0, 0, [], []⟩).At, a, e, st⟩, true, may, may, i + 1⟩ ⟨by simp only; omega, .inl ⟨rfl, rfl, g, fl, c, rs, jf_fuse hJ _, hnow, hcb, hrb, by simp only; omega, by simp only; omega⟩⟩ (by simp only; omega) ?_
          push_cast
        · refine loopK_m ⟨⟨D, a, e, st⟩, true, may, may, i + 1⟩ ⟨by simp only; omega, .inl ⟨rfl, rfl, g, fl, c, rs, hJ, hnow, hcb, hrb, by simp only; omega, by simp only; omega⟩⟩ (by simp only; omega) ?_
          push_cast
      · simp only at hb hdead hpl hkd
        subst hb
        have hx : (i : Int) < acts.length → (acts.getD i ⟨0, 0, [], []⟩).Bytes.length ≤ 5000 ∧ (acts.getD i ⟨0, 0, [], []⟩).At ≤ 9223372036854775807 := fun h => by
          have hmem := getD_mem acts i ⟨0, 0, [], []⟩ (by omega)
          have := hf.2.2 _ hmem
          exact ⟨great12_small ‹greatB12 acts = false› hmem, this.2.1.2⟩
        have hrl : now.records.length ≤ 61 := hkd.2.2.1
        have hstay : KInv m ⟨⟨D, a, e, st⟩, false, now, may, i + 1⟩ := .inr ⟨rfl, hdead, hpl, kdead_up hkd (Nat.le_succ i)⟩
        have hstayF : ∀ n, KInv m ⟨⟨dFuse D n, a, e, st⟩, false, now, may, i + 1⟩ := fun n => .inr ⟨rfl, hdead, hpl, kdead_up hkd (Nat.le_succ i)⟩
        repeat' (first
    | (intro (K' : KT) hK'; push_cast; (repeat' refine And.intro ?_ ?_); all_goals (first | (apply hK'; clear hK' K') | (refine ⟨trivial, trivial, ?_⟩; apply hK'; clear hK' K') | (intro hb; (try push_cast at hb); all_goals (intros; apply hK'; clear hK' K')) | ((first | refine call_J jApp_con (fun _ _ => rfl) ?_ | refine call_1 Dead_con (fun _ _ => rfl) ?_ | refine call_1 Fuse_con (fun _ _ => rfl) ?_); push_cast; (repeat' refine And.intro ?_ ?_); all_goals (first | (apply hK'; clear hK' K') | (intros; apply hK'; clear hK' K') | (clear hK' K'; first | omega | skip))) | (clear hK' K'; first | omega | skip)))
    | apply go_seq | apply go_block | refine go_region_stop (id := 18) ?_ | refine go_region_stop (id := 22) ?_ | refine go_region_stop (id := 26) ?_ | apply go_region | apply go_skip | apply go_exit | apply go_ret
    | apply seqK_n | apply seqK_x | apply seqK_r | apply blockK_n | apply blockK_r | apply blockK_hit | apply blockK_miss rfl | apply loopK_x | apply loopK_r | apply regK_go | apply finK_n | apply finK_r
    | (refine vres_go ?_; push_cast) | apply ops_nil | refine ops_in (w_i64 _ (by omega) (by omega)) ?_ | refine ops_in (w_u8 _ (by omega) (by omega)) ?_ | refine ops_in (w_u32 _ (by omega) (by omega)) ?_ | refine ops_in (w_u64 _ (by omega) (by omega)) ?_
    | refine ops_put rfl rfl ?_ | refine ops_no rfl rfl ?_
    | (refine go_cond (by push_cast; first | done | rfl) ?_ ?_ <;> intro hc <;> (try push_cast at hc))
    | refine ops_gt rfl rfl rfl (by push_cast; first | done | rfl) ?_
    | refine ops_gb rfl rfl rfl (by push_cast; first | done | rfl) ?_ ?_
    | refine go_draw (id := 19) [1, 2, 4, 5, 6] [8, 10] [8, 11] (.or 0 (.or 3 (.or 7 (.or 8 (.free 9 (.or 10 (.done) (.stop))) (.stop)) (.stop)) (.or 7 (.or 3 (.or 8 (.free 9 (.or 10 (.done) (.stop))) (.stop)) (.stop)) (.stop))) (.or 7 (.or 0 (.or 3 (.or 8 (.free 9 (.or 10 (.done) (.stop))) (.stop)) (.stop)) (.stop)) (.stop))) wide (by kernel_rfl) ?_
    | apply goA_nil | apply goS_done | apply goS_stop
    | refine goA_put rfl rfl rfl ?_ | refine goS_free rfl rfl rfl ?_
    | (refine goS_late rfl rfl rfl rfl ?_ ?_; rotate_left) | (refine goS_late' rfl rfl rfl rfl ?_ ?_; rotate_left)
    | (refine goS_hid rfl rfl rfl rfl ?_ ?_; rotate_left; focus (intro K' hK'; push_cast; (repeat' refine And.intro ?_ ?_); all_goals (first | (refine hK' _ _ _ _ _ (by push_cast) (by push_cast; first | done | rfl) ?_; clear hK' K') | ((first | refine call_J jApp_con (fun _ _ => rfl) ?_ | refine call_1 Dead_con (fun _ _ => rfl) ?_ | refine call_1 Fuse_con (fun _ _ => rfl) ?_); push_cast; (repeat' refine And.intro ?_ ?_); all_goals (first | (refine hK' _ _ _ _ _ (by push_cast) (by push_cast; first | done | rfl) ?_; clear hK' K') | (intros; refine hK' _ _ _ _ _ (by push_cast) (by push_cast; first | done | rfl) ?_; clear hK' K') | (clear hK' K'; first | omega | skip))) | (clear hK' K'; first | omega | skip))))
    | refine goA_gt rfl rfl rfl rfl (by push_cast; first | done | rfl) ?_
    | refine goA_gb rfl rfl rfl rfl (by push_cast; first | done | rfl) ?_ ?_
    | (intro (hc : (_ : Prop)); (try push_cast at hc)) | intro (hc : R08Item) | intro (hc : Int) | intro (hc : Nat))
        · have e1 : jApp ⟨⟨D, a, e, st⟩, 4, false⟩ (acts.getD i ⟨0, 0, [], []⟩).Bytes = (⟨⟨D, a, e, st⟩, 4, false⟩, 121) := rfl
          rw [e1]
          apply regKS_go
          push_cast
          repeat' (first
    | (intro (K' : KT) hK'; push_cast; (repeat' refine And.intro ?_ ?_); all_goals (first | (apply hK'; clear hK' K') | (refine ⟨trivial, trivial, ?_⟩; apply hK'; clear hK' K') | (intro hb; (try push_cast at hb); all_goals (intros; apply hK'; clear hK' K')) | (clear hK' K'; first | omega | skip)))
    | apply go_seq | apply go_block | apply go_region | apply go_skip | apply go_exit | apply go_ret
    | apply seqK_n | apply seqK_x | apply seqK_r | apply blockK_n | apply blockK_r | apply blockK_hit | apply blockK_miss rfl | apply loopK_x | apply loopK_r | apply regK_go | apply finK_n | apply finK_r
    | (refine vres_go ?_; push_cast) | apply ops_nil | refine ops_in (w_i64 _ (by omega) (by omega)) ?_ | refine ops_in (w_u8 _ (by omega) (by omega)) ?_ | refine ops_in (w_u32 _ (by omega) (by omega)) ?_ | refine ops_in (w_u64 _ (by omega) (by omega)) ?_
    | refine ops_put rfl rfl ?_ | refine ops_no rfl rfl ?_
    | (refine go_cond (by push_cast; first | done | rfl) ?_ ?_ <;> intro hc <;> (try push_cast at hc))
    | refine ops_gt rfl rfl rfl (by push_cast; first | done | rfl) ?_
    | refine ops_gb rfl rfl rfl (by push_cast; first | done | rfl) ?_ ?_
    | refine go_draw (id := 19) [1, 2, 4, 5, 6] [8, 10] [8, 11] (.or 0 (.or 3 (.or 7 (.or 8 (.free 9 (.or 10 (.done) (.stop))) (.stop)) (.stop)) (.or 7 (.or 3 (.or 8 (.free 9 (.or 10 (.done) (.stop))) (.stop)) (.stop)) (.stop))) (.or 7 (.or 0 (.or 3 (.or 8 (.free 9 (.or 10 (.done) (.stop))) (.stop)) (.stop)) (.stop)) (.stop))) wide (by kernel_rfl) ?_
    | apply goA_nil | apply goS_done | apply goS_stop
    | refine goA_put rfl rfl rfl ?_ | refine goS_free rfl rfl rfl ?_
    | (refine goS_late rfl rfl rfl rfl ?_ ?_; rotate_left) | (refine goS_late' rfl rfl rfl rfl ?_ ?_; rotate_left)
    | (refine goS_hid rfl rfl rfl rfl ?_ ?_; rotate_left; focus (intro K' hK'; push_cast; (repeat' refine And.intro ?_ ?_); all_goals (first | (refine hK' _ _ _ _ _ (by push_cast) (by push_cast; first | done | rfl) ?_; clear hK' K') | (clear hK' K'; first | omega | skip))))
    | refine goA_gt rfl rfl rfl rfl (by push_cast; first | done | rfl) ?_
    | refine goA_gb rfl rfl rfl rfl (by push_cast; first | done | rfl) ?_ ?_
    | (intro (hc : (_ : Prop)); (try push_cast at hc)) | intro (hc : R08Item) | intro (hc : Int) | intro (hc : Nat))
          all_goals
            refine loopK_m ⟨⟨D, a, e, st⟩, false, now, may, i + 1⟩ ⟨by simp only; omega, hstay⟩ (by simp only; omega) ?_
            push_cast
        all_goals first
          | (exfalso; omega)
          | (exfalso; have h9 := ‹D.Dead = false›; rw [hdead] at h9; exact absurd h9 (by decide))
          | (refine loopK_m ⟨⟨D, a, e, st⟩, false, now, may, i + 1⟩ ⟨by simp only; omega, hstay⟩ (by simp only; omega) ?_; push_cast; done)
          | (refine loopK_m ⟨⟨dFuse D (acts.getD i ⟨0, 0, [], []⟩).At, a, e, st⟩, false, now, may, i + 1⟩ ⟨by simp only; omega, hstayF _⟩ (by simp only; omega) ?_; push_cast; done)
          | trace_state
theorem jKeeps_con : Con Cx.P 21 (.pair (.int .i64) (.pair (.slice rL12Act) (.unit))) (fun x => (fun (n : Int) (acts : List L12Act) => True) x.1 x.2.1) (fun x => (fun (n : Int) (acts : List L12Act) => [.bool true]) x.1 x.2.1) := ⟨isfn21, fun x h => jKeeps_fn x.1 x.2.1⟩
end
end Go.Proofs.Ytnmjcdlgfimnaaa
