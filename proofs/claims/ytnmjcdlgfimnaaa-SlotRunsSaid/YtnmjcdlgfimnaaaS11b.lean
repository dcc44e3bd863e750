/- Chapter 7 in the document: its functions' contracts. -/
import Derived.Test.YtnmjcdlgfimnaaaS11a
namespace Go.Proofs.Ytnmjcdlgfimnaaa
section
set_option linter.unusedSimpArgs false
set_option linter.unusedVariables false
set_option maxRecDepth 20000
attribute [local irreducible] vcOps vcCode vcA vcSch Wc
set_option maxHeartbeats 8000000
def onesR : Nat → List Int
  | 0 => List.replicate 32 0
  | i + 1 => (onesR i).set i 1
theorem onesR_len : ∀ i, (onesR i).length = 32
  | 0 => by simp [onesR]
  | i + 1 => by simp [onesR, onesR_len i]
theorem ones_start : onesR 32 = bitsR 4294967295#32 := by decide
theorem r07Start_fn : Pure Cx.P 126 [] [.dat (.arr 32 (.int .i64)) (bitsR 4294967295#32)] := by
  refine Pure.go2 (E := Cx.env) (fn := Try.f126) (res := [_]) Try.func126 isfn126 rfl rfl rfl (by kernel_rfl) rfl ?_
  push_cast
  try intro hf
  repeat' (first
    | (intro (K' : KT) hK'; push_cast; (repeat' refine And.intro ?_ ?_); all_goals (first | (apply hK'; clear hK' K') | (refine ⟨trivial, trivial, ?_⟩; apply hK'; clear hK' K') | (intro hb; (try push_cast at hb); all_goals (intros; apply hK'; clear hK' K')) | (clear hK' K'; first | omega | skip)))
    | apply go_seq | apply go_block | apply go_region | apply go_skip | apply go_exit | apply go_ret
    | apply seqK_n | apply seqK_x | apply seqK_r | apply blockK_n | apply blockK_r | apply blockK_hit | apply blockK_miss rfl | apply loopK_x | apply loopK_r | apply regK_go | apply finK_n | apply finK_r
    | (refine vres_go ?_; push_cast) | apply ops_nil | refine ops_in (w_i64 _ (by omega) (by omega)) ?_ | refine ops_in (w_u8 _ (by omega) (by omega)) ?_ | refine ops_in (w_u32 _ (by omega) (by omega)) ?_ | refine ops_in (w_u64 _ (by omega) (by omega)) ?_
    | refine ops_put rfl rfl ?_ | refine ops_no rfl rfl ?_
    | (refine go_cond (by push_cast; first | done | rfl) ?_ ?_ <;> intro hc <;> (try push_cast at hc))
    | refine ops_gt rfl rfl rfl (by push_cast; first | done | rfl) ?_
    | refine ops_gb rfl rfl rfl (by push_cast; first | done | rfl) ?_ ?_
    | (intro (hc : (_ : Prop)); (try push_cast at hc)) | intro (hc : R08Item) | intro (hc : Int) | intro (hc : Nat))
  refine go_loop2 [2, 4, 5, 6, 7, 8, 9] [1] (fun (i : Nat) => i ≤ 32) (fun (i : Nat) => [(4, .one (.l (.int .i64 i)))]) (fun (i : Nat) => [(1, .segs [.dat (.arr 32 (.int .i64)) (onesR i)])]) (fun (i : Nat) => 32 - i) 0 ?_ (by push_cast; first | done | rfl) (by push_cast; first | done | rfl) ?_ ?_
  · omega
  · push_cast
    first | done | rfl
  · intro i hi
    push_cast
    intro hg
    have hlen := onesR_len i
    repeat' (first
    | (intro (K' : KT) hK'; push_cast; (repeat' refine And.intro ?_ ?_); all_goals (first | (apply hK'; clear hK' K') | (refine ⟨trivial, trivial, ?_⟩; apply hK'; clear hK' K') | (intro hb; (try push_cast at hb); all_goals (intros; apply hK'; clear hK' K')) | (clear hK' K'; first | omega | skip)))
    | apply go_seq | apply go_block | apply go_region | apply go_skip | apply go_exit | apply go_ret
    | apply seqK_n | apply seqK_x | apply seqK_r | apply blockK_n | apply blockK_r | apply blockK_hit | apply blockK_miss rfl | apply loopK_x | apply loopK_r | apply regK_go | apply finK_n | apply finK_r
    | (refine vres_go ?_; push_cast) | apply ops_nil | refine ops_in (w_i64 _ (by omega) (by omega)) ?_ | refine ops_in (w_u8 _ (by omega) (by omega)) ?_ | refine ops_in (w_u32 _ (by omega) (by omega)) ?_ | refine ops_in (w_u64 _ (by omega) (by omega)) ?_
    | refine ops_put rfl rfl ?_ | refine ops_no rfl rfl ?_
    | (refine go_cond (by push_cast; first | done | rfl) ?_ ?_ <;> intro hc <;> (try push_cast at hc))
    | refine ops_gt rfl rfl rfl (by push_cast; first | done | rfl) ?_
    | refine ops_gb rfl rfl rfl (by push_cast; first | done | rfl) ?_ ?_
    | (intro (hc : (_ : Prop)); (try push_cast at hc)) | intro (hc : R08Item) | intro (hc : Int) | intro (hc : Nat))
    · refine loopK_m (i + 1) (by omega) (by omega) ?_
      push_cast
      first | done | rfl
    · have e : i = 32 := by omega
      subst e
      rw [ones_start]
theorem r07Start_con : Con Cx.P 126 (.unit) (fun x => True) (fun x => [.dat (.arr 32 (.int .i64)) (bitsR 4294967295#32)]) := ⟨isfn126, fun x h => r07Start_fn ⟩
theorem r07in_fn (r : List Int) (b : Int) (hpre : (∀ x ∈ r, 0 ≤ x ∧ x ≤ 1) ∧ 0 ≤ b ∧ b ≤ 1) : Pure Cx.P 127 [.dat (.arr 32 (.int .i64)) r, .int .i64 b] [.dat (.arr 32 (.int .i64)) (inR r b)] := by
  refine Pure.go2 (E := Cx.env) (fn := Try.f127) (res := [_]) Try.func127 isfn127 rfl rfl rfl (by kernel_rfl) rfl ?_
  push_cast
  try intro hf
  obtain ⟨hr, hb⟩ := hpre
  have hlr : r.length = 32 := hf.1.1
  have hrd : ∀ i, 0 ≤ r.getD i 0 ∧ r.getD i 0 ≤ 1 := fun i => by
    by_cases h : i < r.length
    · exact hr _ (getD_mem r i 0 h)
    · rw [List.getD_eq_getElem?_getD, List.getElem?_eq_none (by omega)]
      exact ⟨Int.le_refl 0, by decide⟩
  have hs31 : ∀ i j, i ≤ 31 → 0 ≤ (sh1 r i).getD j 0 ∧ (sh1 r i).getD j 0 ≤ 1 := fun i j h => by
    rw [sh1_get r i h]
    split
    · exact hrd _
    · exact ⟨Int.le_refl 0, by decide⟩
  have hfl : ∀ t i j, i ≤ 32 → 0 ≤ (fl2 t r i).getD j 0 ∧ (fl2 t r i).getD j 0 ≤ 1 := fun t i j h => by
    rw [fl2_get t r i h]
    have := hs31 31 j (by omega)
    split <;> omega
  have hr0 := hrd 0
  repeat' (first
    | (intro (K' : KT) hK'; push_cast; (repeat' refine And.intro ?_ ?_); all_goals (first | (apply hK'; clear hK' K') | (refine ⟨trivial, trivial, ?_⟩; apply hK'; clear hK' K') | (intro hb; (try push_cast at hb); all_goals (intros; apply hK'; clear hK' K')) | (clear hK' K'; first | omega | skip)))
    | apply go_seq | apply go_block | apply go_region | apply go_skip | apply go_exit | apply go_ret
    | apply seqK_n | apply seqK_x | apply seqK_r | apply blockK_n | apply blockK_r | apply blockK_hit | apply blockK_miss rfl | apply loopK_x | apply loopK_r | apply regK_go | apply finK_n | apply finK_r
    | (refine vres_go ?_; push_cast) | apply ops_nil | refine ops_in (w_i64 _ (by omega) (by omega)) ?_ | refine ops_in (w_u8 _ (by omega) (by omega)) ?_ | refine ops_in (w_u32 _ (by omega) (by omega)) ?_ | refine ops_in (w_u64 _ (by omega) (by omega)) ?_
    | refine ops_put rfl rfl ?_ | refine ops_no rfl rfl ?_
    | (refine go_cond (by push_cast; first | done | rfl) ?_ ?_ <;> intro hc <;> (try push_cast at hc))
    | refine ops_gt rfl rfl rfl (by push_cast; first | done | rfl) ?_
    | refine ops_gb rfl rfl rfl (by push_cast; first | done | rfl) ?_ ?_
    | (intro (hc : (_ : Prop)); (try push_cast at hc)) | intro (hc : R08Item) | intro (hc : Int) | intro (hc : Nat))
  refine go_loop2 [7, 15, 16, 17, 18, 19, 20, 21, 22, 23, 24] [6] (fun (i : Nat) => i ≤ 31) (fun (i : Nat) => [(7, .one (.l (.int .i64 i)))]) (fun (i : Nat) => [(6, .segs [.dat (.arr 32 (.int .i64)) (sh1 r i)])]) (fun (i : Nat) => 31 - i) 0 ?_ (by push_cast; first | done | rfl) (by push_cast; first | done | rfl) ?_ ?_
  · omega
  · push_cast
    first | done | rfl
  · intro i hi
    push_cast
    intro hg
    have hlen := sh1_len r i
    repeat' (first
    | (intro (K' : KT) hK'; push_cast; (repeat' refine And.intro ?_ ?_); all_goals (first | (apply hK'; clear hK' K') | (refine ⟨trivial, trivial, ?_⟩; apply hK'; clear hK' K') | (intro hb; (try push_cast at hb); all_goals (intros; apply hK'; clear hK' K')) | (clear hK' K'; first | omega | skip)))
    | apply go_seq | apply go_block | apply go_region | apply go_skip | apply go_exit | apply go_ret
    | apply seqK_n | apply seqK_x | apply seqK_r | apply blockK_n | apply blockK_r | apply blockK_hit | apply blockK_miss rfl | apply loopK_x | apply loopK_r | apply regK_go | apply finK_n | apply finK_r
    | (refine vres_go ?_; push_cast) | apply ops_nil | refine ops_in (w_i64 _ (by omega) (by omega)) ?_ | refine ops_in (w_u8 _ (by omega) (by omega)) ?_ | refine ops_in (w_u32 _ (by omega) (by omega)) ?_ | refine ops_in (w_u64 _ (by omega) (by omega)) ?_
    | refine ops_put rfl rfl ?_ | refine ops_no rfl rfl ?_
    | (refine go_cond (by push_cast; first | done | rfl) ?_ ?_ <;> intro hc <;> (try push_cast at hc))
    | refine ops_gt rfl rfl rfl (by push_cast; first | done | rfl) ?_
    | refine ops_gb rfl rfl rfl (by push_cast; first | done | rfl) ?_ ?_
    | (intro (hc : (_ : Prop)); (try push_cast at hc)) | intro (hc : R08Item) | intro (hc : Int) | intro (hc : Nat))
    · refine loopK_m (i + 1) (by omega) (by omega) ?_
      push_cast
      first | done | rfl
    · have ei : i = 31 := by omega
      subst ei
      generalize ht : (r.getD 0 0 + b).tmod 2 = t
      have eres : inR r b = fl2 t r 32 := by rw [← ht]; rfl
      refine go_loop2 [8, 25, 26, 27, 28, 29, 30, 31, 32, 33, 34, 35, 36, 37, 38, 39, 40, 41, 42] [6] (fun (j : Nat) => j ≤ 32) (fun (j : Nat) => [(25, .one (.l (.int .i64 j)))]) (fun (j : Nat) => [(6, .segs [.dat (.arr 32 (.int .i64)) (fl2 t r j)])]) (fun (j : Nat) => 32 - j) 0 ?_ (by push_cast; first | done | rfl) (by push_cast; first | done | rfl) ?_ ?_
      · omega
      · push_cast
        first | done | rfl
      · intro j hj
        push_cast
        intro hg2
        have hlen2 := fl2_len t r j
        have hb2 := hfl t j j hj
        have hs1 : t = 1 → (shrOp .i64 3988292384 j).tmod 2 = 1 → fl2 t r (j + 1) = (fl2 t r j).set j (1 - (fl2 t r j).getD j 0) := fun a c => by
          show (if _ then _ else _) = _
          rw [if_pos ⟨a, c⟩]
        have hs0 : ¬ (t = 1 ∧ (shrOp .i64 3988292384 j).tmod 2 = 1) → fl2 t r (j + 1) = fl2 t r j := fun a => by
          show (if _ then _ else _) = _
          rw [if_neg a]
        repeat' (first
    | (intro (K' : KT) hK'; push_cast; (repeat' refine And.intro ?_ ?_); all_goals (first | (apply hK'; clear hK' K') | (refine ⟨trivial, trivial, ?_⟩; apply hK'; clear hK' K') | (intro hb; (try push_cast at hb); all_goals (intros; apply hK'; clear hK' K')) | (clear hK' K'; first | omega | skip)))
    | apply go_seq | apply go_block | apply go_region | apply go_skip | apply go_exit | apply go_ret
    | apply seqK_n | apply seqK_x | apply seqK_r | apply blockK_n | apply blockK_r | apply blockK_hit | apply blockK_miss rfl | apply loopK_x | apply loopK_r | apply regK_go | apply finK_n | apply finK_r
    | (refine vres_go ?_; push_cast) | apply ops_nil | refine ops_in (w_i64 _ (by omega) (by omega)) ?_ | refine ops_in (w_u8 _ (by omega) (by omega)) ?_ | refine ops_in (w_u32 _ (by omega) (by omega)) ?_ | refine ops_in (w_u64 _ (by omega) (by omega)) ?_
    | refine ops_put rfl rfl ?_ | refine ops_no rfl rfl ?_
    | (refine go_cond (by push_cast; first | done | rfl) ?_ ?_ <;> intro hc <;> (try push_cast at hc))
    | refine ops_gt rfl rfl rfl (by push_cast; first | done | rfl) ?_
    | refine ops_gb rfl rfl rfl (by push_cast; first | done | rfl) ?_ ?_
    | (intro (hc : (_ : Prop)); (try push_cast at hc)) | intro (hc : R08Item) | intro (hc : Int) | intro (hc : Nat))
        · refine loopK_m (j + 1) (by omega) (by omega) ?_
          push_cast
          rw [hs1 ‹_› ‹_›]
        · refine loopK_m (j + 1) (by omega) (by omega) ?_
          push_cast
          rw [hs0 (fun h => absurd h.2 ‹_›)]
        · refine loopK_m (j + 1) (by omega) (by omega) ?_
          push_cast
          rw [hs0 (fun h => absurd h.1 ‹_›)]
        · have ej : j = 32 := by omega
          subst ej
          rw [eres]
theorem r07in_con : Con Cx.P 127 (.pair (.arr 32 (.int .i64)) (.pair (.int .i64) (.unit))) (fun x => (fun (r : List Int) (b : Int) => (∀ x ∈ r, 0 ≤ x ∧ x ≤ 1) ∧ 0 ≤ b ∧ b ≤ 1) x.1 x.2.1) (fun x => (fun (r : List Int) (b : Int) => [.dat (.arr 32 (.int .i64)) (inR r b)]) x.1 x.2.1) := ⟨isfn127, fun x h => r07in_fn x.1 x.2.1 h⟩
def regV (r : List Int) : Prop := ∃ v, r = bitsR v
theorem bits_bd (v : BitVec 32) : ∀ x ∈ bitsR v, 0 ≤ x ∧ x ≤ 1 := by
  intro x hx
  simp only [bitsR, List.mem_map] at hx
  obtain ⟨i, _, rfl⟩ := hx
  exact bitOf_bd _
theorem r07Add_fn (r : List Int) (b : List Int) (hpre : regV r) : Pure Cx.P 125 [.dat (.arr 32 (.int .i64)) r, .dat (.slice (.int .u8)) b] [.dat (.arr 32 (.int .i64)) (addR b.length b r)] := by
  refine Pure.go2 (E := Cx.env) (fn := Try.f125) (res := [_]) Try.func125 isfn125 rfl rfl rfl (by kernel_rfl) rfl ?_
  push_cast
  try intro hf
  obtain ⟨v, rfl⟩ := hpre
  have hby : ∀ x ∈ b, 0 ≤ x ∧ x ≤ 255 := hf.2.2
  have hreg : ∀ i, i ≤ b.length → ∃ u, addR i b (bitsR v) = bitsR u := fun i hi => ⟨_, addR_val hby v i hi⟩
  repeat' (first
    | (intro (K' : KT) hK'; push_cast; (repeat' refine And.intro ?_ ?_); all_goals (first | (apply hK'; clear hK' K') | (refine ⟨trivial, trivial, ?_⟩; apply hK'; clear hK' K') | (intro hb; (try push_cast at hb); all_goals (intros; apply hK'; clear hK' K')) | (clear hK' K'; first | omega | skip)))
    | apply go_seq | apply go_block | apply go_region | apply go_skip | apply go_exit | apply go_ret
    | apply seqK_n | apply seqK_x | apply seqK_r | apply blockK_n | apply blockK_r | apply blockK_hit | apply blockK_miss rfl | apply loopK_x | apply loopK_r | apply regK_go | apply finK_n | apply finK_r
    | (refine vres_go ?_; push_cast) | apply ops_nil | refine ops_in (w_i64 _ (by omega) (by omega)) ?_ | refine ops_in (w_u8 _ (by omega) (by omega)) ?_ | refine ops_in (w_u32 _ (by omega) (by omega)) ?_ | refine ops_in (w_u64 _ (by omega) (by omega)) ?_
    | refine ops_put rfl rfl ?_ | refine ops_no rfl rfl ?_
    | (refine go_cond (by push_cast; first | done | rfl) ?_ ?_ <;> intro hc <;> (try push_cast at hc))
    | refine ops_gt rfl rfl rfl (by push_cast; first | done | rfl) ?_
    | refine ops_gb rfl rfl rfl (by push_cast; first | done | rfl) ?_ ?_
    | refine go_draw (id := 7) [0, 1, 2, 3, 4, 5] [6, 7] [2] (.or 6 (.or 7 (.done) (.stop)) (.stop)) wide (by kernel_rfl) ?_
    | apply goA_nil | apply goS_done | apply goS_stop
    | refine goA_put rfl rfl rfl ?_ | refine goS_free rfl rfl rfl ?_
    | (refine goS_late rfl rfl rfl rfl ?_ ?_; rotate_left) | (refine goS_late' rfl rfl rfl rfl ?_ ?_; rotate_left)
    | (refine goS_hid rfl rfl rfl rfl ?_ ?_; rotate_left; focus (intro K' hK'; push_cast; (repeat' refine And.intro ?_ ?_); all_goals (first | (refine hK' _ _ _ _ _ (by push_cast) (by push_cast; first | done | rfl) ?_; clear hK' K') | (clear hK' K'; first | omega | skip))))
    | refine goA_gt rfl rfl rfl rfl (by push_cast; first | done | rfl) ?_
    | refine goA_gb rfl rfl rfl rfl (by push_cast; first | done | rfl) ?_ ?_
    | (intro (hc : (_ : Prop)); (try push_cast at hc)) | intro (hc : R08Item) | intro (hc : Int) | intro (hc : Nat))
  refine go_loop2 [6, 7, 10, 11, 12, 13, 14, 15, 16, 17, 18, 19, 20, 21, 22, 23, 24, 25] [2, 22, 24] (fun (i : Nat) => i ≤ b.length) (fun (i : Nat) => [(10, .one (.l (.int .i64 i)))]) (fun (i : Nat) => [(2, .segs [.dat (.arr 32 (.int .i64)) (addR i b (bitsR v))])]) (fun (i : Nat) => b.length - i) 0 ?_ (by push_cast; first | done | rfl) (by push_cast; first | done | rfl) ?_ ?_
  · omega
  · push_cast
    first | done | rfl
  · intro i hi
    push_cast
    intro hg
    obtain ⟨u, hu⟩ := hreg i hi
    have hstep : addR (i + 1) b (bitsR v) = inKR (b.getD i 0) 8 (addR i b (bitsR v)) := rfl
    rw [hu] at hstep
    rw [hu]
    have hc0 : (i : Int) < b.length → 0 ≤ b.getD i 0 ∧ b.getD i 0 ≤ 255 := fun h => hby _ (getD_mem b i 0 (by omega))
    repeat' (first
    | (intro (K' : KT) hK'; push_cast; (repeat' refine And.intro ?_ ?_); all_goals (first | (apply hK'; clear hK' K') | (refine ⟨trivial, trivial, ?_⟩; apply hK'; clear hK' K') | (intro hb; (try push_cast at hb); all_goals (intros; apply hK'; clear hK' K')) | (clear hK' K'; first | omega | skip)))
    | apply go_seq | apply go_block | apply go_region | apply go_skip | apply go_exit | apply go_ret
    | apply seqK_n | apply seqK_x | apply seqK_r | apply blockK_n | apply blockK_r | apply blockK_hit | apply blockK_miss rfl | apply loopK_x | apply loopK_r | apply regK_go | apply finK_n | apply finK_r
    | (refine vres_go ?_; push_cast) | apply ops_nil | refine ops_in (w_i64 _ (by omega) (by omega)) ?_ | refine ops_in (w_u8 _ (by omega) (by omega)) ?_ | refine ops_in (w_u32 _ (by omega) (by omega)) ?_ | refine ops_in (w_u64 _ (by omega) (by omega)) ?_
    | refine ops_put rfl rfl ?_ | refine ops_no rfl rfl ?_
    | (refine go_cond (by push_cast; first | done | rfl) ?_ ?_ <;> intro hc <;> (try push_cast at hc))
    | refine ops_gt rfl rfl rfl (by push_cast; first | done | rfl) ?_
    | refine ops_gb rfl rfl rfl (by push_cast; first | done | rfl) ?_ ?_
    | refine go_draw (id := 7) [0, 1, 2, 3, 4, 5] [6, 7] [2] (.or 6 (.or 7 (.done) (.stop)) (.stop)) wide (by kernel_rfl) ?_
    | apply goA_nil | apply goS_done | apply goS_stop
    | refine goA_put rfl rfl rfl ?_ | refine goS_free rfl rfl rfl ?_
    | (refine goS_late rfl rfl rfl rfl ?_ ?_; rotate_left) | (refine goS_late' rfl rfl rfl rfl ?_ ?_; rotate_left)
    | (refine goS_hid rfl rfl rfl rfl ?_ ?_; rotate_left; focus (intro K' hK'; push_cast; (repeat' refine And.intro ?_ ?_); all_goals (first | (refine hK' _ _ _ _ _ (by push_cast) (by push_cast; first | done | rfl) ?_; clear hK' K') | (clear hK' K'; first | omega | skip))))
    | refine goA_gt rfl rfl rfl rfl (by push_cast; first | done | rfl) ?_
    | refine goA_gb rfl rfl rfl rfl (by push_cast; first | done | rfl) ?_ ?_
    | (intro (hc : (_ : Prop)); (try push_cast at hc)) | intro (hc : R08Item) | intro (hc : Int) | intro (hc : Nat))
    · have hc1 := hc0 ‹_›
      have hin : ∀ k, k ≤ 8 → inKR (b.getD i 0) k (bitsR u) = bitsR (inKV k u (byteV (b.getD i 0))) := fun k hk => inKR_val hc1 u k hk
      have hsh : ∀ k : Nat, k < 8 → (shrOp .u8 (b.getD i 0) k).tmod 2 = bitOf ((byteV (b.getD i 0)).getLsbD k) := fun k hk => bit_byte hc1 hk
      generalize b.getD i 0 = c at *
      refine go_loop2 [7, 14, 15, 16, 17, 18, 19, 20, 21, 22, 23, 24] [2, 22, 24] (fun (k : Nat) => k ≤ 8) (fun (k : Nat) => [(7, .one (.l (.int .i64 k)))]) (fun (k : Nat) => [(2, .segs [.dat (.arr 32 (.int .i64)) (inKR c k (bitsR u))])]) (fun (k : Nat) => 8 - k) 0 ?_ (by push_cast; first | done | rfl) (by push_cast; first | done | rfl) ?_ ?_
      · omega
      · push_cast
        first | done | rfl
      · intro k hk
        push_cast
        intro hg2
        have hbb : (k : Int) < 8 → 0 ≤ (shrOp .u8 c k).tmod 2 ∧ (shrOp .u8 c k).tmod 2 ≤ 1 := fun h => by
          rw [hsh k (by omega)]
          exact bitOf_bd _
        have hrb : ∀ x ∈ inKR c k (bitsR u), 0 ≤ x ∧ x ≤ 1 := by rw [hin k hk]; exact bits_bd _
        have hsb := (inK_u8 _).1 (inK_shr (b := (k : Int)) ((inK_u8 c).2 hc1))
        have hwr : IntKind.i64.wrap (shrOp .u8 c k) = shrOp .u8 c k := w_i64 _ (by omega) (by omega)
        repeat' (first
    | (intro (K' : KT) hK'; push_cast; (repeat' refine And.intro ?_ ?_); all_goals (first | (apply hK'; clear hK' K') | (refine ⟨trivial, trivial, ?_⟩; apply hK'; clear hK' K') | (intro hb; (try push_cast at hb); all_goals (intros; apply hK'; clear hK' K')) | ((first | refine call_F r07in_con (fun _ => rfl) ?_); push_cast; (repeat' refine And.intro ?_ ?_); all_goals (first | (apply hK'; clear hK' K') | (intros; apply hK'; clear hK' K') | (clear hK' K'; first | omega | skip))) | (clear hK' K'; first | omega | skip)))
    | apply go_seq | apply go_block | apply go_region | apply go_skip | apply go_exit | apply go_ret
    | apply seqK_n | apply seqK_x | apply seqK_r | apply blockK_n | apply blockK_r | apply blockK_hit | apply blockK_miss rfl | apply loopK_x | apply loopK_r | apply regK_go | apply finK_n | apply finK_r
    | (refine vres_go ?_; push_cast) | apply ops_nil | refine ops_in (w_i64 _ (by omega) (by omega)) ?_ | refine ops_in (w_u8 _ (by omega) (by omega)) ?_ | refine ops_in (w_u32 _ (by omega) (by omega)) ?_ | refine ops_in (w_u64 _ (by omega) (by omega)) ?_
    | refine ops_put rfl rfl ?_ | refine ops_no rfl rfl ?_
    | (refine go_cond (by push_cast; first | done | rfl) ?_ ?_ <;> intro hc <;> (try push_cast at hc))
    | refine ops_gt rfl rfl rfl (by push_cast; first | done | rfl) ?_
    | refine ops_gb rfl rfl rfl (by push_cast; first | done | rfl) ?_ ?_
    | refine go_draw (id := 7) [0, 1, 2, 3, 4, 5] [6, 7] [2] (.or 6 (.or 7 (.done) (.stop)) (.stop)) wide (by kernel_rfl) ?_
    | apply goA_nil | apply goS_done | apply goS_stop
    | refine goA_put rfl rfl rfl ?_ | refine goS_free rfl rfl rfl ?_
    | (refine goS_late rfl rfl rfl rfl ?_ ?_; rotate_left) | (refine goS_late' rfl rfl rfl rfl ?_ ?_; rotate_left)
    | (refine goS_hid rfl rfl rfl rfl ?_ ?_; rotate_left; focus (intro K' hK'; push_cast; (repeat' refine And.intro ?_ ?_); all_goals (first | (refine hK' _ _ _ _ _ (by push_cast) (by push_cast; first | done | rfl) ?_; clear hK' K') | ((first | refine call_F r07in_con (fun _ => rfl) ?_); push_cast; (repeat' refine And.intro ?_ ?_); all_goals (first | (refine hK' _ _ _ _ _ (by push_cast) (by push_cast; first | done | rfl) ?_; clear hK' K') | (intros; refine hK' _ _ _ _ _ (by push_cast) (by push_cast; first | done | rfl) ?_; clear hK' K') | (clear hK' K'; first | omega | skip))) | (clear hK' K'; first | omega | skip))))
    | refine goA_gt rfl rfl rfl rfl (by push_cast; first | done | rfl) ?_
    | refine goA_gb rfl rfl rfl rfl (by push_cast; first | done | rfl) ?_ ?_
    | (intro (hc : (_ : Prop)); (try push_cast at hc)) | intro (hc : R08Item) | intro (hc : Int) | intro (hc : Nat))
        · rw [hwr]; exact (hbb ‹_›).1
        · rw [hwr]; exact (hbb ‹_›).2
        · rw [hwr]
          refine loopK_m (k + 1) (by omega) (by omega) ?_
          push_cast
          first | done | rfl
        · have e8 : k = 8 := by omega
          subst e8
          refine loopK_m (i + 1) (by omega) (by omega) ?_
          push_cast
          rw [hstep]
    · have ei : i = b.length := by omega
      subst ei
      rw [hu]
theorem r07Add_con : Con Cx.P 125 (.pair (.arr 32 (.int .i64)) (.pair (.slice (.int .u8)) (.unit))) (fun x => (fun (r : List Int) (b : List Int) => regV r) x.1 x.2.1) (fun x => (fun (r : List Int) (b : List Int) => [.dat (.arr 32 (.int .i64)) (addR b.length b r)]) x.1 x.2.1) := ⟨isfn125, fun x h => r07Add_fn x.1 x.2.1 h⟩
theorem nuR_bd (v : BitVec 32) {c : Nat} (h : c < 32) : 0 ≤ nuR (bitsR v) c ∧ nuR (bitsR v) c ≤ 2147483647 := by
  rw [nuR_val v c (by omega)]
  have h1 : v.toNat / 2 ^ (32 - c) ≤ v.toNat / 2 := Nat.div_le_div_left (by
    obtain ⟨k, hk⟩ : ∃ k, 32 - c = k + 1 := ⟨31 - c, by omega⟩
    rw [hk, Nat.pow_succ]
    have := Nat.one_le_two_pow (n := k)
    omega) (by decide)
  have h2 : v.toNat < 2 ^ 32 := v.isLt
  generalize v.toNat / 2 ^ (32 - c) = q at *
  omega
theorem nuR_all (v : BitVec 32) : nuR (bitsR v) 32 = (v.toNat : Int) := by
  rw [nuR_val v 32 (Nat.le_refl _)]
  simp
theorem r07Number_fn (r : List Int) (hpre : regV r) : Pure Cx.P 124 [.dat (.arr 32 (.int .i64)) r] [.int .u32 (nuR r 32)] := by
  refine Pure.go2 (E := Cx.env) (fn := Try.f124) (res := [_]) Try.func124 isfn124 rfl rfl rfl (by kernel_rfl) rfl ?_
  push_cast
  try intro hf
  obtain ⟨v, rfl⟩ := hpre
  have hlr := bitsR_len v
  repeat' (first
    | (intro (K' : KT) hK'; push_cast; (repeat' refine And.intro ?_ ?_); all_goals (first | (apply hK'; clear hK' K') | (refine ⟨trivial, trivial, ?_⟩; apply hK'; clear hK' K') | (intro hb; (try push_cast at hb); all_goals (intros; apply hK'; clear hK' K')) | (clear hK' K'; first | omega | skip)))
    | apply go_seq | apply go_block | apply go_region | apply go_skip | apply go_exit | apply go_ret
    | apply seqK_n | apply seqK_x | apply seqK_r | apply blockK_n | apply blockK_r | apply blockK_hit | apply blockK_miss rfl | apply loopK_x | apply loopK_r | apply regK_go | apply finK_n | apply finK_r
    | (refine vres_go ?_; push_cast) | apply ops_nil | refine ops_in (w_i64 _ (by omega) (by omega)) ?_ | refine ops_in (w_u8 _ (by omega) (by omega)) ?_ | refine ops_in (w_u32 _ (by omega) (by omega)) ?_ | refine ops_in (w_u64 _ (by omega) (by omega)) ?_
    | refine ops_put rfl rfl ?_ | refine ops_no rfl rfl ?_
    | (refine go_cond (by push_cast; first | done | rfl) ?_ ?_ <;> intro hc <;> (try push_cast at hc))
    | refine ops_gt rfl rfl rfl (by push_cast; first | done | rfl) ?_
    | refine ops_gb rfl rfl rfl (by push_cast; first | done | rfl) ?_ ?_
    | (intro (hc : (_ : Prop)); (try push_cast at hc)) | intro (hc : R08Item) | intro (hc : Int) | intro (hc : Nat))
  refine go_loop2 [3, 4, 5, 6, 7, 8, 9, 10, 11, 12, 13, 14, 15] [14] (fun (c : Nat) => c ≤ 32) (fun (c : Nat) => [(4, .one (.l (.int .i64 (31 - (c : Int))))), (3, .one (.l (.int .u32 (nuR (bitsR v) c))))]) (fun (c : Nat) => []) (fun (c : Nat) => 32 - c) 0 ?_ (by push_cast; first | done | rfl) (by push_cast; first | done | rfl) ?_ ?_
  · omega
  · push_cast
    first | done | exact ⟨rfl, rfl⟩ | rfl
  · intro c hc
    push_cast
    intro hg
    have hbd := fun h => nuR_bd v (c := c) h
    have hlt : ((31 : Int) - c).toNat = 31 - c := by omega
    have hb1 := bitOf_bd (v.getLsbD (31 - c))
    rw [← bitsR_get] at hb1
    have hst : nuR (bitsR v) (c + 1) = 2 * nuR (bitsR v) c + (bitsR v).getD (31 - c) 0 := rfl
    repeat' (first
    | (intro (K' : KT) hK'; push_cast; (repeat' refine And.intro ?_ ?_); all_goals (first | (apply hK'; clear hK' K') | (refine ⟨trivial, trivial, ?_⟩; apply hK'; clear hK' K') | (intro hb; (try push_cast at hb); all_goals (intros; apply hK'; clear hK' K')) | (clear hK' K'; first | omega | skip)))
    | apply go_seq | apply go_block | apply go_region | apply go_skip | apply go_exit | apply go_ret
    | apply seqK_n | apply seqK_x | apply seqK_r | apply blockK_n | apply blockK_r | apply blockK_hit | apply blockK_miss rfl | apply loopK_x | apply loopK_r | apply regK_go | apply finK_n | apply finK_r
    | (refine vres_go ?_; push_cast) | apply ops_nil | refine ops_in (w_i64 _ (by omega) (by omega)) ?_ | refine ops_in (w_u8 _ (by omega) (by omega)) ?_ | refine ops_in (w_u32 _ (by omega) (by omega)) ?_ | refine ops_in (w_u64 _ (by omega) (by omega)) ?_
    | refine ops_put rfl rfl ?_ | refine ops_no rfl rfl ?_
    | (refine go_cond (by push_cast; first | done | rfl) ?_ ?_ <;> intro hc <;> (try push_cast at hc))
    | refine ops_gt rfl rfl rfl (by push_cast; first | done | rfl) ?_
    | refine ops_gb rfl rfl rfl (by push_cast; first | done | rfl) ?_ ?_
    | (intro (hc : (_ : Prop)); (try push_cast at hc)) | intro (hc : R08Item) | intro (hc : Int) | intro (hc : Nat))
    · have hbd2 := hbd (by omega)
      rw [hlt, w_u32 ((bitsR v).getD (31 - c) 0) (by omega) (by omega), w_u32 _ (by omega) (by omega), ← hst]
      refine loopK_m (c + 1) (by omega) (by omega) ?_
      push_cast
      first | done | omega | exact ⟨by omega, rfl⟩
    · have e : c = 32 := by omega
      rw [e]
theorem r07Number_con : Con Cx.P 124 (.pair (.arr 32 (.int .i64)) (.unit)) (fun x => (fun (r : List Int) => regV r) x.1) (fun x => (fun (r : List Int) => [.int .u32 (nuR r 32)]) x.1) := ⟨isfn124, fun x h => r07Number_fn x.1 h⟩
theorem sum_val (v : BitVec 32) : sumN (v.toNat : Int) = 4294967295 - (v.toNat : Int) := by
  have e : sumN (v.toNat : Int) = bitsOp .xor .u32 ((BitVec.allOnes 32).toNat : Int) (v.toNat : Int) := rfl
  rw [e, xor_val]
  have h2 : v.toNat < 2 ^ 32 := v.isLt
  have h3 : BitVec.allOnes 32 ^^^ v = ~~~v := by
    rw [BitVec.xor_comm, BitVec.xor_allOnes]
  rw [h3, BitVec.toNat_not]
  omega
theorem of_sum {b : List Int} (h : ∀ x ∈ b, 0 ≤ x ∧ x ≤ 255) : regV (addR b.length b (bitsR 4294967295#32)) ∧ 0 ≤ nuR (addR b.length b (bitsR 4294967295#32)) 32 ∧ nuR (addR b.length b (bitsR 4294967295#32)) 32 ≤ 4294967295 ∧
    4294967295 - nuR (addR b.length b (bitsR 4294967295#32)) 32 = sumN (addN 4294967295 b) := by
  have e := addR_val h 4294967295#32 b.length (Nat.le_refl _)
  rw [List.take_length] at e
  have e2 := addN_val b 4294967295#32 h
  have e3 : ((4294967295#32).toNat : Int) = 4294967295 := by decide
  rw [e3] at e2
  have h2 : (addV 4294967295#32 b).toNat < 2 ^ 32 := (addV 4294967295#32 b).isLt
  rw [e, e2, nuR_all, sum_val]
  exact ⟨⟨_, rfl⟩, by omega, by omega, rfl⟩
theorem r07Of_fn (b : List Int) : Pure Cx.P 117 [.dat (.slice (.int .u8)) b] [.int .u32 (sumN (addN 4294967295 b))] := by
  refine Pure.go2 (E := Cx.env) (fn := Try.f117) (res := [_]) Try.func117 isfn117 rfl rfl rfl (by kernel_rfl) rfl ?_
  push_cast
  try intro hf
  obtain ⟨h1, h2, h3, h4⟩ := of_sum hf.2
  have h0 : regV (bitsR 4294967295#32) := ⟨_, rfl⟩
  repeat' (first
    | (intro (K' : KT) hK'; push_cast; (repeat' refine And.intro ?_ ?_); all_goals (first | (apply hK'; clear hK' K') | (refine ⟨trivial, trivial, ?_⟩; apply hK'; clear hK' K') | (intro hb; (try push_cast at hb); all_goals (intros; apply hK'; clear hK' K')) | ((first | refine call_F r07Start_con (fun _ => rfl) ?_ | refine call_F r07Add_con (fun _ => rfl) ?_ | refine call_F r07Number_con (fun _ => rfl) ?_); push_cast; (repeat' refine And.intro ?_ ?_); all_goals (first | (apply hK'; clear hK' K') | (intros; apply hK'; clear hK' K') | (clear hK' K'; first | omega | skip))) | (clear hK' K'; first | omega | skip)))
    | apply go_seq | apply go_region | apply go_skip | apply go_exit | apply go_ret
    | apply seqK_n | apply seqK_x | apply seqK_r | apply regK_go | apply finK_n | apply finK_r
    | (refine vres_go ?_; push_cast) | apply ops_nil | refine ops_in (w_i64 _ (by omega) (by omega)) ?_ | refine ops_in (w_u8 _ (by omega) (by omega)) ?_ | refine ops_in (w_u32 _ (by omega) (by omega)) ?_ | refine ops_in (w_u64 _ (by omega) (by omega)) ?_
    | refine ops_put rfl rfl ?_ | refine ops_no rfl rfl ?_
    | (refine go_cond (by push_cast; first | done | rfl) ?_ ?_ <;> intro hc <;> (try push_cast at hc))
    | refine ops_gt rfl rfl rfl (by push_cast; first | done | rfl) ?_
    | refine ops_gb rfl rfl rfl (by push_cast; first | done | rfl) ?_ ?_
    | (intro (hc : (_ : Prop)); (try push_cast at hc)) | intro (hc : R08Item) | intro (hc : Int) | intro (hc : Nat))
  exact h4
theorem r07Of_con : Con Cx.P 117 (.pair (.slice (.int .u8)) (.unit)) (fun x => (fun (b : List Int) => True) x.1) (fun x => (fun (b : List Int) => [.int .u32 (sumN (addN 4294967295 b))]) x.1) := ⟨isfn117, fun x h => r07Of_fn x.1⟩
end
end Go.Proofs.Ytnmjcdlgfimnaaa
