/- Chapter 11's statements: it is alive; both places by turns. -/
import Derived.Test.YtnmjcdlgfimnaaaC11e
import Derived.Test.YtnmjcdlgfimnaaaL9a
namespace Go.Proofs.Ytnmjcdlgfimnaaa
theorem close_len (b : List Int) : (closeN b).length = b.length + 4 := by simp [closeN, crcN_len]
def slA : R08Disk := (slWrite (dBlank 6) 1 2 [97, 98]).1
theorem slA_ok : slWrite (dBlank 6) 1 2 [97, 98] = (slA, 1, 0) ∧ slRead slA 1 2 = ([97, 98], 1, 0) := by
  have hs : spanN (closeN [97, 98]).length = 1 := by rw [close_len]; decide
  obtain ⟨h1, h2, _⟩ := slotOk_write (slotOk_blank (n := 6) (k := 1) (z := 2) (by decide) (by decide) (by decide) (by decide) (by decide)) (fun _ => slotOk_zero) (by decide) [97, 98] (by rw [hs]; decide)
  exact ⟨Prod.ext rfl h1, slotOk_read h2 (by decide)⟩
theorem slA_w : slWrite (dBlank 6) 1 2 [97, 98] = (slA, 1, 0) := slA_ok.1
theorem slA_r : slRead slA 1 2 = ([97, 98], 1, 0) := slA_ok.2
theorem blank6_q : (dBlank 6).Queue.length = 0 := rfl
theorem blank6_len : (dBlank 6).Base.length = 6 := by decide
section
set_option linter.unusedSimpArgs false
set_option linter.unusedVariables false
set_option maxRecDepth 20000
attribute [local irreducible] vcOps vcCode vcA vcSch Wc
set_option maxHeartbeats 8000000
attribute [local push_cast] slA_w slA_r blank6_q blank6_len
theorem slotAlive_fn : Pure Cx.P 60 [] [.bool true] := by
  refine Pure.go2 (E := Cx.env) (fn := Try.f60) (res := [_]) Try.func60 isfn60 rfl rfl rfl (by kernel_rfl) rfl ?_
  push_cast
  try intro hf
  repeat' (first
    | (intro (K' : KT) hK'; push_cast; (repeat' refine And.intro ?_ ?_); all_goals (first | (apply hK'; clear hK' K') | (refine ⟨trivial, trivial, ?_⟩; apply hK'; clear hK' K') | (intro hb; (try push_cast at hb); all_goals (intros; apply hK'; clear hK' K')) | ((first | refine call_new Blank_con 9100 ?_ | refine call_1 slWrite_con (fun _ _ => rfl) ?_ | refine call_1 slRead_con (fun _ _ => rfl) ?_); push_cast; (repeat' refine And.intro ?_ ?_); all_goals (first | (apply hK'; clear hK' K') | (intros; apply hK'; clear hK' K') | (clear hK' K'; first | omega | skip))) | (clear hK' K'; first | omega | skip)))
    | apply go_seq | apply go_region | apply go_skip | apply go_exit | apply go_ret
    | apply seqK_n | apply seqK_x | apply seqK_r | apply regK_go | apply finK_n | apply finK_r
    | (refine vres_go ?_; push_cast) | apply ops_nil | refine ops_in (w_i64 _ (by omega) (by omega)) ?_ | refine ops_in (w_u8 _ (by omega) (by omega)) ?_ | refine ops_in (w_u32 _ (by omega) (by omega)) ?_ | refine ops_in (w_u64 _ (by omega) (by omega)) ?_
    | refine ops_put rfl rfl ?_ | refine ops_no rfl rfl ?_
    | (refine go_cond (by push_cast; first | done | rfl) ?_ ?_ <;> intro hc <;> (try push_cast at hc))
    | refine ops_gt rfl rfl rfl (by push_cast; first | done | rfl) ?_
    | refine ops_gb rfl rfl rfl (by push_cast; first | done | rfl) ?_ ?_
    | (intro (hc : (_ : Prop)); (try push_cast at hc)) | intro (hc : R08Item) | intro (hc : Int) | intro (hc : Nat))
  all_goals (exfalso; have h9 := ‹(toBytes [97, 98] == _) = false›; revert h9; decide)
theorem slotAlive_con : Con Cx.P 60 (.unit) (fun x => True) (fun x => [.bool true]) := ⟨isfn60, fun x h => slotAlive_fn ⟩
end
theorem blank40_len : (dBlank 40).Base.length = 40 := by decide
section
set_option linter.unusedSimpArgs false
set_option linter.unusedVariables false
set_option maxRecDepth 20000
attribute [local irreducible] vcOps vcCode vcA vcSch Wc
set_option maxHeartbeats 8000000
attribute [local push_cast] blank40_len
theorem slTurns_fn (l : List (List Int)) : Pure Cx.P 15 [.dat (.slice (.slice (.int .u8))) l] [.bool true] := by
  refine Pure.go2 (E := Cx.env) (fn := Try.f15) (res := [_]) Try.func15 isfn15 rfl rfl rfl (by kernel_rfl) rfl ?_
  push_cast
  try intro hf
  repeat' (first
    | (intro (K' : KT) hK'; push_cast; (repeat' refine And.intro ?_ ?_); all_goals (first | (apply hK'; clear hK' K') | (refine ⟨trivial, trivial, ?_⟩; apply hK'; clear hK' K') | (intro hb; (try push_cast at hb); all_goals (intros; apply hK'; clear hK' K')) | ((first | refine call_F slotAlive_con (fun _ => rfl) ?_ | refine call_new Blank_con 9100 ?_); push_cast; (repeat' refine And.intro ?_ ?_); all_goals (first | (apply hK'; clear hK' K') | (intros; apply hK'; clear hK' K') | (clear hK' K'; first | omega | skip))) | (clear hK' K'; first | omega | skip)))
    | apply go_seq | apply go_block | apply go_region | apply go_skip | apply go_exit | apply go_ret
    | apply seqK_n | apply seqK_x | apply seqK_r | apply blockK_n | apply blockK_r | apply blockK_hit | apply blockK_miss rfl | apply loopK_x | apply loopK_r | apply regK_go | apply finK_n | apply finK_r
    | (refine vres_go ?_; push_cast) | apply ops_nil | refine ops_in (w_i64 _ (by omega) (by omega)) ?_ | refine ops_in (w_u8 _ (by omega) (by omega)) ?_ | refine ops_in (w_u32 _ (by omega) (by omega)) ?_ | refine ops_in (w_u64 _ (by omega) (by omega)) ?_
    | refine ops_put rfl rfl ?_ | refine ops_no rfl rfl ?_
    | (refine go_cond (by push_cast; first | done | rfl) ?_ ?_ <;> intro hc <;> (try push_cast at hc))
    | refine ops_gt rfl rfl rfl (by push_cast; first | done | rfl) ?_
    | refine ops_gb rfl rfl rfl (by push_cast; first | done | rfl) ?_ ?_
    | (intro (hc : (_ : Prop)); (try push_cast at hc)) | intro (hc : R08Item) | intro (hc : Int) | intro (hc : Nat))
  refine go_loop2 [2, 4, 5, 6, 7, 8, 9, 10, 19, 20, 21, 22, 23, 24, 25, 26, 27, 28, 29, 30, 31, 32, 33, 34, 35, 36, 37, 38, 39, 40, 41, 42, 43, 44, 45, 46, 47, 48, 49, 50, 51, 52, 53, 54, 55, 56, 57, 58, 59, 60, 61, 62, 63, 64] [25, 30, 35, 49, 59, 61, 9100] (fun (p : R08Disk × Nat × List Int) => p.2.1 ≤ l.length ∧ SlotOk p.1 40 0 20 p.2.1 p.2.2 ∧ (p.2.1 = 0 → p.1 = dBlank 40)) (fun (p : R08Disk × Nat × List Int) => [(19, .one (.l (.int .i64 p.2.1)))]) (fun (p : R08Disk × Nat × List Int) => [(9100, .obj DiskO p.1)]) (fun (p : R08Disk × Nat × List Int) => l.length - p.2.1) (dBlank 40, 0, []) ?_ (by push_cast; first | done | rfl) (by push_cast; first | done | rfl) ?_ ?_
  · exact ⟨Nat.zero_le _, slotOk_blank (by decide) (by decide) (by decide) (by decide) (by decide), fun _ => rfl⟩
  · push_cast
  · rintro ⟨D, i, was⟩ ⟨hi, hok, h0⟩
    simp only at hi hok h0
    push_cast
    intro hg
    have hq : D.Queue.length = 0 := by rw [hok.quiet.q]; rfl
    have hb : D.Base.length = 40 := hok.quiet.base
    repeat' (first
    | (intro (K' : KT) hK'; push_cast; (repeat' refine And.intro ?_ ?_); all_goals (first | (apply hK'; clear hK' K') | (refine ⟨trivial, trivial, ?_⟩; apply hK'; clear hK' K') | (intro hb; (try push_cast at hb); all_goals (intros; apply hK'; clear hK' K')) | ((first | refine call_1 slWrite_con (fun _ _ => rfl) ?_); push_cast; (repeat' refine And.intro ?_ ?_); all_goals (first | (apply hK'; clear hK' K') | (intros; apply hK'; clear hK' K') | (clear hK' K'; first | omega | skip))) | (clear hK' K'; first | omega | skip)))
    | apply go_seq | apply go_block | refine go_region_stop (id := 11) ?_ | apply go_region | apply go_skip | apply go_exit | apply go_ret
    | apply seqK_n | apply seqK_x | apply seqK_r | apply blockK_n | apply blockK_r | apply blockK_hit | apply blockK_miss rfl | apply loopK_x | apply loopK_r | apply regK_go | apply finK_n | apply finK_r
    | (refine vres_go ?_; push_cast) | apply ops_nil | refine ops_in (w_i64 _ (by omega) (by omega)) ?_ | refine ops_in (w_u8 _ (by omega) (by omega)) ?_ | refine ops_in (w_u32 _ (by omega) (by omega)) ?_ | refine ops_in (w_u64 _ (by omega) (by omega)) ?_
    | refine ops_put rfl rfl ?_ | refine ops_no rfl rfl ?_
    | (refine go_cond (by push_cast; first | done | rfl) ?_ ?_ <;> intro hc <;> (try push_cast at hc))
    | refine ops_gt rfl rfl rfl (by push_cast; first | done | rfl) ?_
    | refine ops_gb rfl rfl rfl (by push_cast; first | done | rfl) ?_ ?_
    | (intro (hc : (_ : Prop)); (try push_cast at hc)) | intro (hc : R08Item) | intro (hc : Int) | intro (hc : Nat))
    · have hs : spanN (closeN (l.getD i [])).length ≠ 0 ∧ spanN (closeN (l.getD i [])).length ≤ 20 := by
        rw [close_len]
        unfold spanN
        rw [if_neg (by omega)]
        omega
      obtain ⟨h1, h2, _⟩ := slotOk_write hok (fun h => by rw [h0 (by omega)]; exact slotOk_zero) (by omega) (l.getD i []) hs
      have e1 : slWrite D 0 20 (l.getD i []) = ((slWrite D 0 20 (l.getD i [])).1, (i : Int) + 1, 0) := Prod.ext rfl h1
      have e2 := slotOk_read h2 (by omega)
      rw [e1]
      generalize (slWrite D 0 20 (l.getD i [])).1 = D2 at *
      have hb2 : D2.Base.length = 40 := h2.quiet.base
      apply regKS_go
      push_cast
      repeat' (first
    | (intro (K' : KT) hK'; push_cast; (repeat' refine And.intro ?_ ?_); all_goals (first | (apply hK'; clear hK' K') | (refine ⟨trivial, trivial, ?_⟩; apply hK'; clear hK' K') | (intro hb; (try push_cast at hb); all_goals (intros; apply hK'; clear hK' K')) | ((first | refine call_1 slRead_con (fun _ _ => rfl) ?_); push_cast; (repeat' refine And.intro ?_ ?_); all_goals (first | (apply hK'; clear hK' K') | (intros; apply hK'; clear hK' K') | (clear hK' K'; first | omega | skip))) | (clear hK' K'; first | omega | skip)))
    | apply go_seq | apply go_block | refine go_region_stop (id := 12) ?_ | apply go_region | apply go_skip | apply go_exit | apply go_ret
    | apply seqK_n | apply seqK_x | apply seqK_r | apply blockK_n | apply blockK_r | apply blockK_hit | apply blockK_miss rfl | apply loopK_x | apply loopK_r | apply regK_go | apply finK_n | apply finK_r
    | (refine vres_go ?_; push_cast) | apply ops_nil | refine ops_in (w_i64 _ (by omega) (by omega)) ?_ | refine ops_in (w_u8 _ (by omega) (by omega)) ?_ | refine ops_in (w_u32 _ (by omega) (by omega)) ?_ | refine ops_in (w_u64 _ (by omega) (by omega)) ?_
    | refine ops_put rfl rfl ?_ | refine ops_no rfl rfl ?_
    | (refine go_cond (by push_cast; first | done | rfl) ?_ ?_ <;> intro hc <;> (try push_cast at hc))
    | refine ops_gt rfl rfl rfl (by push_cast; first | done | rfl) ?_
    | refine ops_gb rfl rfl rfl (by push_cast; first | done | rfl) ?_ ?_
    | (intro (hc : (_ : Prop)); (try push_cast at hc)) | intro (hc : R08Item) | intro (hc : Int) | intro (hc : Nat))
      rw [e2]
      apply regKS_go
      push_cast
      repeat' (first
    | (intro (K' : KT) hK'; push_cast; (repeat' refine And.intro ?_ ?_); all_goals (first | (apply hK'; clear hK' K') | (refine ⟨trivial, trivial, ?_⟩; apply hK'; clear hK' K') | (intro hb; (try push_cast at hb); all_goals (intros; apply hK'; clear hK' K')) | (clear hK' K'; first | omega | skip)))
    | apply go_seq | apply go_block | apply go_region | apply go_skip | apply go_exit | apply go_ret
    | apply seqK_n | apply seqK_x | apply seqK_r | apply blockK_n | apply blockK_r | apply blockK_hit | apply blockK_miss rfl | apply loopK_x | apply loopK_r | apply regK_go | apply finK_n | apply finK_r
    | (refine vres_go ?_; push_cast) | apply ops_nil | refine ops_in (w_i64 _ (by omega) (by omega)) ?_ | refine ops_in (w_u8 _ (by omega) (by omega)) ?_ | refine ops_in (w_u32 _ (by omega) (by omega)) ?_ | refine ops_in (w_u64 _ (by omega) (by omega)) ?_
    | refine ops_put rfl rfl ?_ | refine ops_no rfl rfl ?_
    | (refine go_cond (by push_cast; first | done | rfl) ?_ ?_ <;> intro hc <;> (try push_cast at hc))
    | refine ops_gt rfl rfl rfl (by push_cast; first | done | rfl) ?_
    | refine ops_gb rfl rfl rfl (by push_cast; first | done | rfl) ?_ ?_
    | (intro (hc : (_ : Prop)); (try push_cast at hc)) | intro (hc : R08Item) | intro (hc : Int) | intro (hc : Nat))
      refine loopK_m (D2, i + 1, l.getD i []) ⟨by simp only; omega, h2, fun h => by simp only at h; omega⟩ (by simp only; omega) ?_
      push_cast
theorem slTurns_con : Con Cx.P 15 (.pair (.slice (.slice (.int .u8))) (.unit)) (fun x => (fun (l : List (List Int)) => True) x.1) (fun x => (fun (l : List (List Int)) => [.bool true]) x.1) := ⟨isfn15, fun x h => slTurns_fn x.1⟩
end
end Go.Proofs.Ytnmjcdlgfimnaaa
