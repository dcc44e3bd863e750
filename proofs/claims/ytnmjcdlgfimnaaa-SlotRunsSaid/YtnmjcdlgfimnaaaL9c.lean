/- Chapter 9's statements: all of it, or nothing. -/
import Derived.Test.YtnmjcdlgfimnaaaL9a
import Derived.Test.YtnmjcdlgfimnaaaS9t
namespace Go.Proofs.Ytnmjcdlgfimnaaa
set_option linter.unusedSimpArgs false
set_option linter.unusedVariables false
set_option maxRecDepth 20000
attribute [local irreducible] vcOps vcCode vcA vcSch Wc
set_option maxHeartbeats 8000000
def bigA (a : L09Act) : Bool := decide (1000 < (a.Bytes.length : Int)) || decide (400 < (a.Keep.length : Int))
def greatB (l : List L09Act) : Bool := decide (40 < (l.length : Int)) || l.any bigA
theorem great_len {l : List L09Act} (h : greatB l = false) : l.length ≤ 40 := by
  simp only [greatB, Bool.or_eq_false_iff, decide_eq_false_iff_not] at h
  omega
theorem any_take {l : List L09Act} {i : Nat} (h : (l.take i).any bigA = false) (hi : i < l.length) (hb : bigA (l.getD i ⟨0, 0, 0, [], []⟩) = false) : (l.take (i + 1)).any bigA = false := by
  rw [take_succ_getD l i ⟨0, 0, 0, [], []⟩ hi, List.any_append, h]
  simpa using hb
theorem great_hit {l : List L09Act} {i : Nat} (hi : i < l.length) (hb : bigA (l.getD i ⟨0, 0, 0, [], []⟩) = true) : greatB l = true := by
  simp only [greatB, Bool.or_eq_true]
  exact .inr (List.any_eq_true.2 ⟨_, getD_mem l i _ hi, hb⟩)
theorem great9_fn (acts : List L09Act) : Pure Cx.P 41 [.dat (.slice rL09Act) acts] [.bool (greatB acts)] := by
  refine Pure.go2 (E := Cx.env) (fn := Try.f41) (res := [_]) Try.func41 isfn41 rfl rfl rfl (by kernel_rfl) rfl ?_
  push_cast
  try intro hf
  repeat' (first
    | (intro (K' : KT) hK'; push_cast; (repeat' refine And.intro ?_ ?_); all_goals (first | (apply hK'; clear hK' K') | (refine ⟨trivial, trivial, ?_⟩; apply hK'; clear hK' K') | (intro hb; (try push_cast at hb); all_goals (intros; apply hK'; clear hK' K')) | (clear hK' K'; first | omega | skip)))
    | apply go_seq | apply go_block | apply go_region | apply go_skip | apply go_exit | apply go_ret
    | apply seqK_n | apply seqK_x | apply seqK_r | apply blockK_n | apply blockK_r | apply blockK_hit | apply blockK_miss rfl | apply loopK_x | apply loopK_r | apply regK_go | apply finK_n | apply finK_r
    | (refine vres_go ?_; push_cast) | apply ops_nil | refine ops_in (w_i64 _ (by omega) (by omega)) ?_ | refine ops_in (w_u8 _ (by omega) (by omega)) ?_ | refine ops_in (w_u32 _ (by omega) (by omega)) ?_ | refine ops_in (w_u64 _ (by omega) (by omega)) ?_
    | refine ops_put rfl rfl ?_ | refine ops_no rfl rfl ?_
    | (refine go_cond (by push_cast; first | done | rfl) ?_ ?_ <;> intro hc <;> (try push_cast at hc))
    | refine ops_gt rfl rfl rfl (by push_cast; first | done | rfl) ?_
    | refine ops_gb rfl rfl rfl (by push_cast; first | done | rfl) ?_ ?_
    | (intro (hc : (_ : Prop)); (try push_cast at hc)) | intro (hc : R08Item) | intro (hc : Int) | intro (hc : Nat))
  · simp [greatB, ‹(40 : Int) < acts.length›]
  · refine go_loop2 [2, 4, 10, 11, 12, 13, 14, 15, 16, 17, 18, 19, 20, 21, 22, 23, 24] [4, 16, 21] (fun (i : Nat) => i ≤ acts.length ∧ (acts.take i).any bigA = false) (fun (i : Nat) => [(10, .one (.l (.int .i64 i)))]) (fun (i : Nat) => []) (fun (i : Nat) => acts.length - i) 0 ?_ (by push_cast; first | done | rfl) (by push_cast; first | done | rfl) ?_ ?_
    · exact ⟨Nat.zero_le _, by simp⟩
    · push_cast
    · rintro i ⟨hi, hall⟩
      push_cast
      intro hg
      repeat' (first
    | (intro (K' : KT) hK'; push_cast; (repeat' refine And.intro ?_ ?_); all_goals (first | (apply hK'; clear hK' K') | (refine ⟨trivial, trivial, ?_⟩; apply hK'; clear hK' K') | (intro hb; (try push_cast at hb); all_goals (intros; apply hK'; clear hK' K')) | (clear hK' K'; first | omega | skip)))
    | apply go_seq | apply go_block | apply go_region | apply go_skip | apply go_exit | apply go_ret
    | apply seqK_n | apply seqK_x | apply seqK_r | apply blockK_n | apply blockK_r | apply blockK_hit | apply blockK_miss rfl | apply loopK_x | apply loopK_r | apply regK_go | apply finK_n | apply finK_r
    | (refine vres_go ?_; push_cast) | apply ops_nil | refine ops_in (w_i64 _ (by omega) (by omega)) ?_ | refine ops_in (w_u8 _ (by omega) (by omega)) ?_ | refine ops_in (w_u32 _ (by omega) (by omega)) ?_ | refine ops_in (w_u64 _ (by omega) (by omega)) ?_
    | refine ops_put rfl rfl ?_ | refine ops_no rfl rfl ?_
    | (refine go_cond (by push_cast; first | done | rfl) ?_ ?_ <;> intro hc <;> (try push_cast at hc))
    | refine ops_gt rfl rfl rfl (by push_cast; first | done | rfl) ?_
    | refine ops_gb rfl rfl rfl (by push_cast; first | done | rfl) ?_ ?_
    | (intro (hc : (_ : Prop)); (try push_cast at hc)) | intro (hc : R08Item) | intro (hc : Int) | intro (hc : Nat))
      · rw [great_hit (i := i) (by omega) (by simp [bigA, -List.getD_eq_getElem?_getD, hc])]
      · refine loopK_m (i + 1) ⟨by omega, any_take hall (by omega) (by
          simp only [bigA, Bool.or_eq_false_iff, decide_eq_false_iff_not]
          exact ⟨‹_›, ‹_›⟩)⟩ (by omega) ?_
        push_cast
      · rw [great_hit (i := i) (by omega) (by
          simp only [bigA, Bool.or_eq_true, decide_eq_true_eq]
          exact .inl ‹_›)]
      · have e : acts.take i = acts := List.take_of_length_le (by omega)
        rw [e] at hall
        simp only [greatB, hall, Bool.or_false]
        simp [‹¬ (40 : Int) < acts.length›]
theorem great9_con : Con Cx.P 41 (.pair (.slice rL09Act) (.unit)) (fun x => (fun (acts : List L09Act) => True) x.1) (fun x => (fun (acts : List L09Act) => [.bool (greatB acts)]) x.1) := ⟨isfn41, fun x h => great9_fn x.1⟩
theorem torn_fn (old : List L09Act) (b : List Int) (keep : List Int) : Pure Cx.P 11 [.dat (.slice rL09Act) old, .dat (.slice (.int .u8)) b, .dat (.slice (.int .i64)) keep] [.bool true] := by
  refine Pure.go2 (E := Cx.env) (fn := Try.f11) (res := [_]) Try.func11 isfn11 rfl rfl rfl (by kernel_rfl) rfl ?_
  push_cast
  try intro hf
  repeat' (first
    | (intro (K' : KT) hK'; push_cast; (repeat' refine And.intro ?_ ?_); all_goals (first | (apply hK'; clear hK' K') | (refine ⟨trivial, trivial, ?_⟩; apply hK'; clear hK' K') | (intro hb; (try push_cast at hb); all_goals (intros; apply hK'; clear hK' K')) | ((first | refine call_F stAlive_con (fun _ => rfl) ?_ | refine call_F great9_con (fun _ => rfl) ?_ | refine call_new Blank_con 9100 ?_); push_cast; (repeat' refine And.intro ?_ ?_); all_goals (first | (apply hK'; clear hK' K') | (intros; apply hK'; clear hK' K') | (clear hK' K'; first | omega | skip))) | (clear hK' K'; first | omega | skip)))
    | apply go_seq | apply go_block | apply go_region | apply go_skip | apply go_exit | apply go_ret
    | apply seqK_n | apply seqK_x | apply seqK_r | apply blockK_n | apply blockK_r | apply blockK_hit | apply blockK_miss rfl | apply loopK_x | apply loopK_r | apply regK_go | apply finK_n | apply finK_r
    | (refine vres_go ?_; push_cast) | apply ops_nil | refine ops_in (w_i64 _ (by omega) (by omega)) ?_ | refine ops_in (w_u8 _ (by omega) (by omega)) ?_ | refine ops_in (w_u32 _ (by omega) (by omega)) ?_ | refine ops_in (w_u64 _ (by omega) (by omega)) ?_
    | refine ops_put rfl rfl ?_ | refine ops_no rfl rfl ?_
    | (refine go_cond (by push_cast; first | done | rfl) ?_ ?_ <;> intro hc <;> (try push_cast at hc))
    | refine ops_gt rfl rfl rfl (by push_cast; first | done | rfl) ?_
    | refine ops_gb rfl rfl rfl (by push_cast; first | done | rfl) ?_ ?_
    | (intro (hc : (_ : Prop)); (try push_cast at hc)) | intro (hc : R08Item) | intro (hc : Int) | intro (hc : Nat))
  have hlen := great_len ‹greatB old = false›
  have hbl : b.length ≤ 1000 := by omega
  refine go_loop2 [9, 33, 34, 35, 36, 37, 38, 39, 40, 41, 42, 43, 44, 45, 46, 47, 48, 49, 50, 51, 52, 53, 54, 55, 56, 57, 58, 59, 60] [9, 52, 59, 9100] (fun (p : R08Disk × Nat) => p.2 ≤ old.length ∧ LowD p.1 30 ∧ p.1.Queue.length ≤ 255 * p.2) (fun (p : R08Disk × Nat) => [(33, .one (.l (.int .i64 p.2)))]) (fun (p : R08Disk × Nat) => [(9100, .obj DiskO p.1)]) (fun (p : R08Disk × Nat) => old.length - p.2) (dBlank 30, 0) ?_ (by push_cast; first | done | rfl) (by push_cast; first | done | rfl) ?_ ?_
  · exact ⟨Nat.zero_le _, lowD_blank 30 (by omega), by simp [dBlank]⟩
  · push_cast
  · rintro ⟨D, i⟩ ⟨hi, hlow, hq⟩
    simp only at hi hlow hq
    push_cast
    intro hg
    have hbase := hlow.base
    have hx : (i : Int) < old.length → (∀ y ∈ (old.getD i ⟨0, 0, 0, [], []⟩).Bytes, 0 ≤ y ∧ y ≤ 255) ∧ 0 ≤ (old.getD i ⟨0, 0, 0, [], []⟩).Stamp := fun h => by
      have := hf.1.2 _ (getD_mem old i ⟨0, 0, 0, [], []⟩ (by omega))
      exact ⟨this.2.2.2.1.2, this.2.2.1.1⟩
    have hsq := sPut_q D (old.getD i ⟨0, 0, 0, [], []⟩).At (old.getD i ⟨0, 0, 0, [], []⟩).Stamp (old.getD i ⟨0, 0, 0, [], []⟩).Bytes
    repeat' (first
    | (intro (K' : KT) hK'; push_cast; (repeat' refine And.intro ?_ ?_); all_goals (first | (apply hK'; clear hK' K') | (refine ⟨trivial, trivial, ?_⟩; apply hK'; clear hK' K') | (intro hb; (try push_cast at hb); all_goals (intros; apply hK'; clear hK' K')) | ((first | refine call_1 Write_con (fun _ _ => rfl) ?_ | refine call_1 Power_con (fun _ _ => rfl) ?_ | refine call_1 Flush_con (fun _ _ => rfl) ?_); push_cast; (repeat' refine And.intro ?_ ?_); all_goals (first | (apply hK'; clear hK' K') | (intros; apply hK'; clear hK' K') | (clear hK' K'; first | omega | skip))) | (clear hK' K'; first | omega | skip)))
    | apply go_seq | apply go_block | refine go_region_stop (id := 14) ?_ | apply go_region | apply go_skip | apply go_exit | apply go_ret
    | apply seqK_n | apply seqK_x | apply seqK_r | apply blockK_n | apply blockK_r | apply blockK_hit | apply blockK_miss rfl | apply loopK_x | apply loopK_r | apply regK_go | apply finK_n | apply finK_r
    | (refine vres_go ?_; push_cast) | apply ops_nil | refine ops_in (w_i64 _ (by omega) (by omega)) ?_ | refine ops_in (w_u8 _ (by omega) (by omega)) ?_ | refine ops_in (w_u32 _ (by omega) (by omega)) ?_ | refine ops_in (w_u64 _ (by omega) (by omega)) ?_
    | refine ops_put rfl rfl ?_ | refine ops_no rfl rfl ?_
    | (refine go_cond (by push_cast; first | done | rfl) ?_ ?_ <;> intro hc <;> (try push_cast at hc))
    | refine ops_gt rfl rfl rfl (by push_cast; first | done | rfl) ?_
    | refine ops_gb rfl rfl rfl (by push_cast; first | done | rfl) ?_ ?_
    | (intro (hc : (_ : Prop)); (try push_cast at hc)) | intro (hc : R08Item) | intro (hc : Int) | intro (hc : Nat))
    · exfalso; omega
    · have h1 := hx ‹_›
      refine loopK_m ((sPut D (old.getD i ⟨0, 0, 0, [], []⟩).At (old.getD i ⟨0, 0, 0, [], []⟩).Stamp (old.getD i ⟨0, 0, 0, [], []⟩).Bytes).1, i + 1) ⟨by simp only; omega, lowD_put hlow (old.getD i ⟨0, 0, 0, [], []⟩).At h1.1 ⟨h1.2, ‹_›⟩, by simp only; omega⟩ (by simp only; omega) ?_
      push_cast
    · exfalso; omega
    · refine loopK_m (D, i + 1) ⟨by simp only; omega, hlow, by simp only; omega⟩ (by simp only; omega) ?_
      push_cast
    · refine loopK_m (dPower D (old.getD i ⟨0, 0, 0, [], []⟩).Keep, i + 1) ⟨by simp only; omega, lowD_power hlow _, by simp [dPower]⟩ (by simp only; omega) ?_
      push_cast
    · refine loopK_m (D, i + 1) ⟨by simp only; omega, hlow, by simp only; omega⟩ (by simp only; omega) ?_
      push_cast
    · obtain ⟨hE, hEq, _⟩ := lowD_flush hlow
      generalize (dFlush D).1 = E at *
      have htop := sTop_ok (D := E) 30 0 0 (by omega) (by rw [hE.base]; omega)
      have htop2 := sTop_low hE 30 0 0 (by omega) (by rw [hE.base]; omega) (by omega)
      have et : topN E 0 30 = sTop E 30 0 0 := rfl
      rw [← et] at htop htop2
      have hlive := sPut_live hE.burns hE.live (k := 3) (st := (topN E 0 30).1 + 1) (b := b) (by omega) (by rw [Ne, spanN_zero]; omega) (by omega) (by
        have := hE.base
        obtain ⟨_, _, _, _⟩ := back_span (b := b) (by omega)
        have : spanN b.length ≤ 19 := by unfold spanN; rw [if_neg (by omega)]; omega
        omega)
      have hlaw := fun h0 h1 => torn_law hE hEq hf.2.1.2 hbl keep (floor := (topN E 0 30).1) (fun k h2 h3 => htop.2.2 k h2 (by omega)) htop2 h0 h1
      simp only [hlive] at hlaw
      have hEb := hE.base
      have hEq0 : E.Queue.length = 0 := by rw [hEq]; rfl
      apply regKS_go
      push_cast
      repeat' (first
    | (intro (K' : KT) hK'; push_cast; (repeat' refine And.intro ?_ ?_); all_goals (first | (apply hK'; clear hK' K') | (refine ⟨trivial, trivial, ?_⟩; apply hK'; clear hK' K') | (intro hb; (try push_cast at hb); all_goals (intros; apply hK'; clear hK' K')) | ((first | refine call_1 Top_con (fun _ _ => rfl) ?_); push_cast; (repeat' refine And.intro ?_ ?_); all_goals (first | (apply hK'; clear hK' K') | (intros; apply hK'; clear hK' K') | (clear hK' K'; first | omega | skip))) | (clear hK' K'; first | omega | skip)))
    | apply go_seq | apply go_block | refine go_region_stop (id := 15) ?_ | apply go_region | apply go_skip | apply go_exit | apply go_ret
    | apply seqK_n | apply seqK_x | apply seqK_r | apply blockK_n | apply blockK_r | apply blockK_hit | apply blockK_miss rfl | apply loopK_x | apply loopK_r | apply regK_go | apply finK_n | apply finK_r
    | (refine vres_go ?_; push_cast) | apply ops_nil | refine ops_in (w_i64 _ (by omega) (by omega)) ?_ | refine ops_in (w_u8 _ (by omega) (by omega)) ?_ | refine ops_in (w_u32 _ (by omega) (by omega)) ?_ | refine ops_in (w_u64 _ (by omega) (by omega)) ?_
    | refine ops_put rfl rfl ?_ | refine ops_no rfl rfl ?_
    | (refine go_cond (by push_cast; first | done | rfl) ?_ ?_ <;> intro hc <;> (try push_cast at hc))
    | refine ops_gt rfl rfl rfl (by push_cast; first | done | rfl) ?_
    | refine ops_gb rfl rfl rfl (by push_cast; first | done | rfl) ?_ ?_
    | (intro (hc : (_ : Prop)); (try push_cast at hc)) | intro (hc : R08Item) | intro (hc : Int) | intro (hc : Nat))
      rw [htop.1]
      apply regKS_go
      push_cast
      repeat' (first
    | (intro (K' : KT) hK'; push_cast; (repeat' refine And.intro ?_ ?_); all_goals (first | (apply hK'; clear hK' K') | (refine ⟨trivial, trivial, ?_⟩; apply hK'; clear hK' K') | (intro hb; (try push_cast at hb); all_goals (intros; apply hK'; clear hK' K')) | ((first | refine call_1 Write_con (fun _ _ => rfl) ?_); push_cast; (repeat' refine And.intro ?_ ?_); all_goals (first | (apply hK'; clear hK' K') | (intros; apply hK'; clear hK' K') | (clear hK' K'; first | omega | skip))) | (clear hK' K'; first | omega | skip)))
    | apply go_seq | apply go_block | refine go_region_stop (id := 16) ?_ | apply go_region | apply go_skip | apply go_exit | apply go_ret
    | apply seqK_n | apply seqK_x | apply seqK_r | apply blockK_n | apply blockK_r | apply blockK_hit | apply blockK_miss rfl | apply loopK_x | apply loopK_r | apply regK_go | apply finK_n | apply finK_r
    | (refine vres_go ?_; push_cast) | apply ops_nil | refine ops_in (w_i64 _ (by omega) (by omega)) ?_ | refine ops_in (w_u8 _ (by omega) (by omega)) ?_ | refine ops_in (w_u32 _ (by omega) (by omega)) ?_ | refine ops_in (w_u64 _ (by omega) (by omega)) ?_
    | refine ops_put rfl rfl ?_ | refine ops_no rfl rfl ?_
    | (refine go_cond (by push_cast; first | done | rfl) ?_ ?_ <;> intro hc <;> (try push_cast at hc))
    | refine ops_gt rfl rfl rfl (by push_cast; first | done | rfl) ?_
    | refine ops_gb rfl rfl rfl (by push_cast; first | done | rfl) ?_ ?_
    | (intro (hc : (_ : Prop)); (try push_cast at hc)) | intro (hc : R08Item) | intro (hc : Int) | intro (hc : Nat))
      rw [hlive]
      apply regKS_go
      push_cast
      repeat' (first
    | (intro (K' : KT) hK'; push_cast; (repeat' refine And.intro ?_ ?_); all_goals (first | (apply hK'; clear hK' K') | (refine ⟨trivial, trivial, ?_⟩; apply hK'; clear hK' K') | (intro hb; (try push_cast at hb); all_goals (intros; apply hK'; clear hK' K')) | ((first | refine call_1 Power_con (fun _ _ => rfl) ?_ | refine call_1f Read_con (fun _ _ => rfl) ?_ | refine call_F span_con (fun _ => rfl) ?_); push_cast; (repeat' refine And.intro ?_ ?_); all_goals (first | (apply hK'; clear hK' K') | (intros; apply hK'; clear hK' K') | (clear hK' K'; first | omega | skip))) | (clear hK' K'; first | omega | skip)))
    | apply go_seq | apply go_block | apply go_region | apply go_skip | apply go_exit | apply go_ret
    | apply seqK_n | apply seqK_x | apply seqK_r | apply blockK_n | apply blockK_r | apply blockK_hit | apply blockK_miss rfl | apply loopK_x | apply loopK_r | apply regK_go | apply finK_n | apply finK_r
    | (refine vres_go ?_; push_cast) | apply ops_nil | refine ops_in (w_i64 _ (by omega) (by omega)) ?_ | refine ops_in (w_u8 _ (by omega) (by omega)) ?_ | refine ops_in (w_u32 _ (by omega) (by omega)) ?_ | refine ops_in (w_u64 _ (by omega) (by omega)) ?_
    | refine ops_put rfl rfl ?_ | refine ops_no rfl rfl ?_
    | (refine go_cond (by push_cast; first | done | rfl) ?_ ?_ <;> intro hc <;> (try push_cast at hc))
    | refine ops_gt rfl rfl rfl (by push_cast; first | done | rfl) ?_
    | refine ops_gb rfl rfl rfl (by push_cast; first | done | rfl) ?_ ?_
    | (intro (hc : (_ : Prop)); (try push_cast at hc)) | intro (hc : R08Item) | intro (hc : Int) | intro (hc : Nat))
      all_goals
        generalize sRead (dPower (dQ E (itemsAt 3 (secsN ((topN E 0 30).1 + 1) b))) keep) 3 30 = X at *
        have h0 : X.2.2.2 = 0 := by simpa using ‹(!decide (X.2.2.2 = 0)) = false›
        obtain ⟨h2, h3⟩ := hlaw h0 (by omega)
        first
        | exact h3
        | (exfalso
           have h4 := ‹(toBytes X.1 == toBytes b) = false›
           rw [h2] at h4
           simp at h4)
theorem torn_con : Con Cx.P 11 (.pair (.slice rL09Act) (.pair (.slice (.int .u8)) (.pair (.slice (.int .i64)) (.unit)))) (fun x => (fun (old : List L09Act) (b : List Int) (keep : List Int) => True) x.1 x.2.1 x.2.2.1) (fun x => (fun (old : List L09Act) (b : List Int) (keep : List Int) => [.bool true]) x.1 x.2.1 x.2.2.1) := ⟨isfn11, fun x h => torn_fn x.1 x.2.1 x.2.2.1⟩
end Go.Proofs.Ytnmjcdlgfimnaaa
