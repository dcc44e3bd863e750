/- Chapter 7 in the document: bytes with what a register says of them. -/
import Derived.Test.YtnmjcdlgfimnaaaS11b
namespace Go.Proofs.Ytnmjcdlgfimnaaa
section
set_option linter.unusedSimpArgs false
set_option linter.unusedVariables false
set_option maxRecDepth 20000
attribute [local irreducible] vcOps vcCode vcA vcSch Wc
set_option maxHeartbeats 8000000
theorem sum_bd {b : List Int} (h : ∀ x ∈ b, 0 ≤ x ∧ x ≤ 255) : 0 ≤ sumN (addN 4294967295 b) ∧ sumN (addN 4294967295 b) ≤ 4294967295 := by
  obtain ⟨_, h2, h3, h4⟩ := of_sum h
  omega
theorem tail_val {n : Int} (h : 0 ≤ n ∧ n ≤ 4294967295) : tailN n = [n % 256, n / 256 % 256, n / 65536 % 256, n / 16777216] := by
  have hw : ∀ m : Int, IntKind.u8.wrap m = m % 256 := fun m => rfl
  have hs : ∀ k : Nat, shrOp .u32 n ((8 * k : Nat) : Int) = n.fdiv (2 ^ min ((8 * k : Nat) : Int).toNat 32) := fun k => rfl
  have e1 : shrOp .u32 n 8 = n / 256 := by rw [show shrOp .u32 n 8 = n.fdiv 256 from rfl, Int.fdiv_eq_ediv_of_nonneg _ (by decide)]
  have e2 : shrOp .u32 n 16 = n / 65536 := by rw [show shrOp .u32 n 16 = n.fdiv 65536 from rfl, Int.fdiv_eq_ediv_of_nonneg _ (by decide)]
  have e3 : shrOp .u32 n 24 = n / 16777216 := by rw [show shrOp .u32 n 24 = n.fdiv 16777216 from rfl, Int.fdiv_eq_ediv_of_nonneg _ (by decide)]
  unfold tailN
  rw [hw, hw, hw, hw, e1, e2, e3]
  have : n / 16777216 % 256 = n / 16777216 := by omega
  rw [this]
theorem r07Close_fn (b : List Int) (hpre : b.length ≤ 1000000) : Pure Cx.P 98 [.dat (.slice (.int .u8)) b] [.dat (.slice (.int .u8)) (closeN b)] := by
  refine Pure.go2 (E := Cx.env) (fn := Try.f98) (res := [_]) Try.func98 isfn98 rfl rfl rfl (by kernel_rfl) rfl ?_
  push_cast
  try intro hf
  have hn := sum_bd hf.2
  have ht := tail_val hn
  have eres : closeN b = b ++ tailN (sumN (addN 4294967295 b)) := rfl
  rw [eres, ht]
  repeat' (first
    | (intro (K' : KT) hK'; push_cast; (repeat' refine And.intro ?_ ?_); all_goals (first | (apply hK'; clear hK' K') | (refine ⟨trivial, trivial, ?_⟩; apply hK'; clear hK' K') | (intro hb; (try push_cast at hb); all_goals (intros; apply hK'; clear hK' K')) | ((first | refine call_F r07Of_con (fun _ => rfl) ?_); push_cast; (repeat' refine And.intro ?_ ?_); all_goals (first | (apply hK'; clear hK' K') | (intros; apply hK'; clear hK' K') | (clear hK' K'; first | omega | skip))) | (clear hK' K'; first | omega | skip)))
    | apply go_seq | apply go_region | apply go_skip | apply go_exit | apply go_ret
    | apply seqK_n | apply seqK_x | apply seqK_r | apply regK_go | apply finK_n | apply finK_r
    | (refine vres_go ?_; push_cast) | apply ops_nil | refine ops_in (w_i64 _ (by omega) (by omega)) ?_ | refine ops_in (w_u8 _ (by omega) (by omega)) ?_ | refine ops_in (w_u32 _ (by omega) (by omega)) ?_ | refine ops_in (w_u64 _ (by omega) (by omega)) ?_
    | refine ops_put rfl rfl ?_ | refine ops_no rfl rfl ?_
    | (refine go_cond (by push_cast; first | done | rfl) ?_ ?_ <;> intro hc <;> (try push_cast at hc))
    | refine ops_gt rfl rfl rfl (by push_cast; first | done | rfl) ?_
    | refine ops_gb rfl rfl rfl (by push_cast; first | done | rfl) ?_ ?_
    | (intro (hc : (_ : Prop)); (try push_cast at hc)) | intro (hc : R08Item) | intro (hc : Int) | intro (hc : Nat))
  generalize sumN (addN 4294967295 b) = n at *
  obtain ⟨h0, h1⟩ := hn
  have d1 : n.tdiv 256 = n / 256 := Int.tdiv_eq_ediv_of_nonneg h0
  have d2 : n.tdiv 65536 = n / 65536 := Int.tdiv_eq_ediv_of_nonneg h0
  have d3 : n.tdiv 16777216 = n / 16777216 := Int.tdiv_eq_ediv_of_nonneg h0
  rw [d1, d2, d3, w_u32 (n / 256) (by omega) (by omega), w_u32 (n / 65536) (by omega) (by omega), w_u32 (n / 16777216) (by omega) (by omega)]
  have m1 : n.tmod 256 = n % 256 := Int.tmod_eq_emod_of_nonneg h0
  have m2 : (n / 256).tmod 256 = n / 256 % 256 := Int.tmod_eq_emod_of_nonneg (by omega)
  have m3 : (n / 65536).tmod 256 = n / 65536 % 256 := Int.tmod_eq_emod_of_nonneg (by omega)
  rw [m1, m2, m3, w_u8 (n % 256) (by omega) (by omega), w_u8 (n / 256 % 256) (by omega) (by omega), w_u8 (n / 65536 % 256) (by omega) (by omega), w_u8 (n / 16777216) (by omega) (by omega)]
theorem r07Close_con : Con Cx.P 98 (.pair (.slice (.int .u8)) (.unit)) (fun x => (fun (b : List Int) => b.length ≤ 1000000) x.1) (fun x => (fun (b : List Int) => [.dat (.slice (.int .u8)) (closeN b)]) x.1) := ⟨isfn98, fun x h => r07Close_fn x.1 h⟩
theorem toBytes_in : ∀ {l m : List Int}, (∀ x ∈ l, 0 ≤ x ∧ x ≤ 255) → (∀ x ∈ m, 0 ≤ x ∧ x ≤ 255) → toBytes l = toBytes m → l = m
  | [], [], _, _, _ => rfl
  | [], _ :: _, _, _, h => by simp [toBytes] at h
  | _ :: _, [], _, _, h => by simp [toBytes] at h
  | x :: l, y :: m, h1, h2, h => by
    simp only [toBytes, List.map_cons, List.cons.injEq] at h
    have hx := h1 x (by simp)
    have hy := h2 y (by simp)
    have e := congrArg UInt8.toNat h.1
    simp only [UInt8.toNat_ofNat'] at e
    have e2 : x = y := by omega
    rw [e2, toBytes_in (fun z hz => h1 z (by simp [hz])) (fun z hz => h2 z (by simp [hz])) h.2]
theorem crc_by (r : List Int) : ∀ x ∈ crcN r, 0 ≤ x ∧ x ≤ 255 := by
  intro x hx
  have h : ∀ n, 0 ≤ IntKind.u8.wrap n ∧ IntKind.u8.wrap n ≤ 255 := fun n => (inK_u8 _).1 (wrap_inK .u8 n)
  simp only [crcN, tailN, List.mem_cons, List.not_mem_nil, or_false] at hx
  rcases hx with rfl | rfl | rfl | rfl <;> exact h _
theorem close_cmp {b : List Int} (hb : ∀ x ∈ b, 0 ≤ x ∧ x ≤ 255) {n : Nat} (h : n + 4 = b.length) : (toBytes (closeN (List.drop 0 (b.take n))) == toBytes b) = true ↔ crcN (b.take (b.length - 4)) = b.drop (b.length - 4) := by
  have en : b.length - 4 = n := by omega
  rw [en, List.drop_zero]
  have e : b = b.take n ++ b.drop n := (List.take_append_drop n b).symm
  rw [beq_iff_eq]
  constructor
  · intro h1
    have h2 := toBytes_in (fun x hx => by
      simp only [closeN, List.mem_append] at hx
      rcases hx with hx | hx
      · exact hb x (List.mem_of_mem_take hx)
      · exact crc_by _ x hx) hb h1
    unfold closeN at h2
    rw [e] at h2
    have h3 := List.append_inj_right h2 (by rw [← e])
    rw [← e] at h3
    exact h3
  · intro h1
    unfold closeN
    rw [h1, ← e]
theorem r07Open_fn (b : List Int) (hpre : b.length ≤ 1000000) : Pure Cx.P 118 [.dat (.slice (.int .u8)) b] [.dat (.slice (.int .u8)) (openN b).1, .bool (openN b).2] := by
  refine Pure.go2 (E := Cx.env) (fn := Try.f118) (res := [_, _]) Try.func118 isfn118 rfl rfl rfl (by kernel_rfl) rfl ?_
  push_cast
  try intro hf
  repeat' (first
    | (intro (K' : KT) hK'; push_cast; (repeat' refine And.intro ?_ ?_); all_goals (first | (apply hK'; clear hK' K') | (refine ⟨trivial, trivial, ?_⟩; apply hK'; clear hK' K') | (intro hb; (try push_cast at hb); all_goals (intros; apply hK'; clear hK' K')) | (clear hK' K'; first | omega | skip)))
    | apply go_seq | apply go_block | apply go_region | apply go_skip | apply go_exit | apply go_ret
    | apply seqK_n | apply seqK_x | apply seqK_r | apply blockK_n | apply blockK_r | apply blockK_hit | apply blockK_miss rfl | apply loopK_x | apply loopK_r | apply regK_go | apply finK_n | apply finK_r
    | (refine vres_go ?_; push_cast) | apply ops_nil | refine ops_in (w_i64 _ (by omega) (by omega)) ?_ | refine ops_in (w_u8 _ (by omega) (by omega)) ?_ | refine ops_in (w_u32 _ (by omega) (by omega)) ?_ | refine ops_in (w_u64 _ (by omega) (by omega)) ?_
    | refine ops_put rfl rfl ?_ | refine ops_no rfl rfl ?_
    | (refine go_cond (by push_cast; first | done | rfl) ?_ ?_ <;> intro hc <;> (try push_cast at hc))
    | refine ops_gt rfl rfl rfl (by push_cast; first | done | rfl) ?_
    | refine ops_gb rfl rfl rfl (by push_cast; first | done | rfl) ?_ ?_
    | refine go_draw (id := 4) [0, 1, 2, 3, 4, 5, 6, 7, 8, 11, 12] [] [0] (.or 9 (.or 10 (.free 13 (.free 14 (.done))) (.stop)) (.stop)) wide (by kernel_rfl) ?_
    | apply goA_nil | apply goS_done | apply goS_stop
    | refine goA_put rfl rfl rfl ?_ | refine goS_free rfl rfl rfl ?_
    | (refine goS_late rfl rfl rfl rfl ?_ ?_; rotate_left) | (refine goS_late' rfl rfl rfl rfl ?_ ?_; rotate_left)
    | (refine goS_hid rfl rfl rfl rfl ?_ ?_; rotate_left; focus (intro K' hK'; push_cast; (repeat' refine And.intro ?_ ?_); all_goals (first | (refine hK' _ _ _ _ _ (by push_cast) (by push_cast; first | done | rfl) ?_; clear hK' K') | (clear hK' K'; first | omega | skip))))
    | refine goA_gt rfl rfl rfl rfl (by push_cast; first | done | rfl) ?_
    | refine goA_gb rfl rfl rfl rfl (by push_cast; first | done | rfl) ?_ ?_
    | (intro (hc : (_ : Prop)); (try push_cast at hc)) | intro (hc : R08Item) | intro (hc : Int) | intro (hc : Nat))
  refine go_loop2 [2, 3, 4, 7, 8, 9, 10, 11, 12, 13, 14, 15, 16, 17, 18, 19, 20, 21, 22, 23, 24, 25, 26, 27, 28] [13, 19, 20, 22] (fun (i : Nat) => i ≤ b.length ∧ (4 ≤ b.length → b.length < i + 4 → crcN (b.take (b.length - 4)) ≠ b.drop (b.length - 4))) (fun (i : Nat) => [(7, .one (.l (.int .i64 i)))]) (fun (i : Nat) => []) (fun (i : Nat) => b.length - i) 0 ?_ (by push_cast; first | done | rfl) (by push_cast; first | done | rfl) ?_ ?_
  · exact ⟨Nat.zero_le _, fun h h2 => by omega⟩
  · push_cast
    first | done | rfl
  · rintro i ⟨hi, hno⟩
    push_cast
    intro hg
    have hby : ∀ x ∈ b, 0 ≤ x ∧ x ≤ 255 := hf.2
    have hw : (i : Int) < b.length → IntKind.i64.wrap ((i : Int) + 4) = (i : Int) + 4 := fun h => w_i64 _ (by omega) (by omega)
    repeat' (first
    | (intro (K' : KT) hK'; push_cast; (repeat' refine And.intro ?_ ?_); all_goals (first | (apply hK'; clear hK' K') | (refine ⟨trivial, trivial, ?_⟩; apply hK'; clear hK' K') | (intro hb; (try push_cast at hb); all_goals (intros; apply hK'; clear hK' K')) | ((first | refine call_N r07Close_con (fun _ => rfl) ?_); push_cast; (repeat' refine And.intro ?_ ?_); all_goals (first | (apply hK'; clear hK' K') | (intros; apply hK'; clear hK' K') | (clear hK' K'; first | omega | skip))) | (clear hK' K'; first | omega | skip)))
    | apply go_seq | apply go_block | apply go_region | apply go_skip | apply go_exit | apply go_ret
    | apply seqK_n | apply seqK_x | apply seqK_r | apply blockK_n | apply blockK_r | apply blockK_hit | apply blockK_miss rfl | apply loopK_x | apply loopK_r | apply regK_go | apply finK_n | apply finK_r
    | (refine vres_go ?_; push_cast) | apply ops_nil | refine ops_in (w_i64 _ (by omega) (by omega)) ?_ | refine ops_in (w_u8 _ (by omega) (by omega)) ?_ | refine ops_in (w_u32 _ (by omega) (by omega)) ?_ | refine ops_in (w_u64 _ (by omega) (by omega)) ?_
    | refine ops_put rfl rfl ?_ | refine ops_no rfl rfl ?_
    | (refine go_cond (by push_cast; first | done | rfl) ?_ ?_ <;> intro hc <;> (try push_cast at hc))
    | refine ops_gt rfl rfl rfl (by push_cast; first | done | rfl) ?_
    | refine ops_gb rfl rfl rfl (by push_cast; first | done | rfl) ?_ ?_
    | refine go_draw (id := 4) [0, 1, 2, 3, 4, 5, 6, 7, 8, 11, 12] [] [0] (.or 9 (.or 10 (.free 13 (.free 14 (.done))) (.stop)) (.stop)) wide (by kernel_rfl) ?_
    | apply goA_nil | apply goS_done | apply goS_stop
    | refine goA_put rfl rfl rfl ?_ | refine goS_free rfl rfl rfl ?_
    | (refine goS_late rfl rfl rfl rfl ?_ ?_; rotate_left) | (refine goS_late' rfl rfl rfl rfl ?_ ?_; rotate_left)
    | (refine goS_hid rfl rfl rfl rfl ?_ ?_; rotate_left; focus (intro K' hK'; push_cast; (repeat' refine And.intro ?_ ?_); all_goals (first | (refine hK' _ _ _ _ _ (by push_cast) (by push_cast; first | done | rfl) ?_; clear hK' K') | ((first | refine call_N r07Close_con (fun _ => rfl) ?_); push_cast; (repeat' refine And.intro ?_ ?_); all_goals (first | (refine hK' _ _ _ _ _ (by push_cast) (by push_cast; first | done | rfl) ?_; clear hK' K') | (intros; refine hK' _ _ _ _ _ (by push_cast) (by push_cast; first | done | rfl) ?_; clear hK' K') | (clear hK' K'; first | omega | skip))) | (clear hK' K'; first | omega | skip))))
    | (refine goS_hid' rfl rfl rfl rfl ?_ ?_; rotate_left; focus (intro K' hK'; push_cast; (repeat' refine And.intro ?_ ?_); all_goals (first | (refine hK' _ _ _ _ _ (by push_cast) (by push_cast; first | done | rfl) ?_; clear hK' K') | ((first | refine call_N r07Close_con (fun _ => rfl) ?_); push_cast; (repeat' refine And.intro ?_ ?_); all_goals (first | (refine hK' _ _ _ _ _ (by push_cast) (by push_cast; first | done | rfl) ?_; clear hK' K') | (intros; refine hK' _ _ _ _ _ (by push_cast) (by push_cast; first | done | rfl) ?_; clear hK' K') | (clear hK' K'; first | omega | skip))) | (clear hK' K'; first | omega | skip))))
    | (refine goS_freet rfl rfl rfl rfl (by push_cast; first | done | rfl) ?_)
    | refine goS_freeb rfl rfl rfl rfl (by push_cast; first | done | rfl) ?_ ?_
    | (refine goS_hidt rfl rfl rfl rfl (by push_cast; first | done | rfl) ?_ ?_)
    | (refine goS_hidb rfl rfl rfl rfl rfl (by push_cast; first | done | rfl) ?_ ?_ ?_; focus (intro hc; (try push_cast at hc); all_goals (intro K' hK'; push_cast; (repeat' refine And.intro ?_ ?_); all_goals (first | (refine hK' _ _ _ _ _ (by push_cast) (by push_cast; first | done | rfl) ?_; clear hK' K') | ((first | refine call_N r07Close_con (fun _ => rfl) ?_); push_cast; (repeat' refine And.intro ?_ ?_); all_goals (first | (refine hK' _ _ _ _ _ (by push_cast) (by push_cast; first | done | rfl) ?_; clear hK' K') | (intros; refine hK' _ _ _ _ _ (by push_cast) (by push_cast; first | done | rfl) ?_; clear hK' K') | (clear hK' K'; first | omega | skip))) | (clear hK' K'; first | omega | skip)))))
    | refine goS_lateb rfl rfl rfl rfl rfl (by push_cast; first | done | rfl) ?_ ?_ ?_
    | refine goA_gt rfl rfl rfl rfl (by push_cast; first | done | rfl) ?_
    | refine goA_gb rfl rfl rfl rfl (by push_cast; first | done | rfl) ?_ ?_
    | (intro (hc : (_ : Prop)); (try push_cast at hc)) | intro (hc : R08Item) | intro (hc : Int) | intro (hc : Nat))
    · rw [List.drop_zero, List.length_take]; omega
    · have h4 : i + 4 = b.length := by have := hw ‹_›; omega
      have h5 := (close_cmp hby h4).1 ‹_›
      have en : b.length - 4 = i := by omega
      unfold openN
      rw [if_neg (by omega), if_pos h5, en, List.drop_zero]
      exact ⟨rfl, rfl⟩
    · have h4 : i + 4 = b.length := by have := hw ‹_›; omega
      refine loopK_m (i + 1) ⟨by omega, fun _ _ h => ?_⟩ (by omega) ?_
      · have h5 := (close_cmp hby h4).2 h
        rw [h5] at hc
        simp at hc
      · push_cast
    · refine loopK_m (i + 1) ⟨by omega, fun h1 h2 => ?_⟩ (by omega) ?_
      · have h3 := hw ‹_›
        exact hno h1 (by omega)
      · push_cast
    · unfold openN
      by_cases h4 : (b.length : Int) - 4 < 0
      · rw [if_pos h4]; exact ⟨rfl, rfl⟩
      · rw [if_neg h4, if_neg (hno (by omega) (by omega))]
        exact ⟨rfl, rfl⟩
theorem r07Open_con : Con Cx.P 118 (.pair (.slice (.int .u8)) (.unit)) (fun x => (fun (b : List Int) => b.length ≤ 1000000) x.1) (fun x => (fun (b : List Int) => [.dat (.slice (.int .u8)) (openN b).1, .bool (openN b).2]) x.1) := ⟨isfn118, fun x h => r07Open_fn x.1 h⟩
end
end Go.Proofs.Ytnmjcdlgfimnaaa
