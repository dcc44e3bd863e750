/- Chapter 11's statements: whatever is written to any places. -/
import Derived.Test.YtnmjcdlgfimnaaaL11a
import Derived.Test.YtnmjcdlgfimnaaaS11e
namespace Go.Proofs.Ytnmjcdlgfimnaaa
def bigA11 (a : L09Act) : Bool := decide (1000 < (a.Bytes.length : Int)) || decide (400 < (a.Keep.length : Int)) || decide (1152921504606846976 < a.Stamp)
def greatB11 (l : List L09Act) : Bool := decide (40 < (l.length : Int)) || l.any bigA11
theorem great11_len {l : List L09Act} (h : greatB11 l = false) : l.length ≤ 40 := by
  simp only [greatB11, Bool.or_eq_false_iff, decide_eq_false_iff_not] at h
  omega
theorem any_take11 {l : List L09Act} {i : Nat} (h : (l.take i).any bigA11 = false) (hi : i < l.length) (hb : bigA11 (l.getD i ⟨0, 0, 0, [], []⟩) = false) : (l.take (i + 1)).any bigA11 = false := by
  rw [take_succ_getD l i ⟨0, 0, 0, [], []⟩ hi, List.any_append, h]
  simpa using hb
theorem great11_hit {l : List L09Act} {i : Nat} (hi : i < l.length) (hb : bigA11 (l.getD i ⟨0, 0, 0, [], []⟩) = true) : greatB11 l = true := by
  simp only [greatB11, Bool.or_eq_true]
  exact .inr (List.any_eq_true.2 ⟨_, getD_mem l i _ hi, hb⟩)
theorem great11_small {l : List L09Act} (h : greatB11 l = false) {x : L09Act} (hx : x ∈ l) : x.Bytes.length ≤ 1000 := by
  simp only [greatB11, Bool.or_eq_false_iff] at h
  have := List.any_eq_false.1 h.2 x hx
  simp only [bigA11, Bool.or_eq_true, decide_eq_true_eq, not_or] at this
  omega
def actS (D : R08Disk) (k z : Int) (x : L09Act) : R08Disk := if x.Kind = 0 then (slWrite D k z x.Bytes).1 else if x.Kind = 1 then dFuse D x.At else if x.Kind = 2 then dPower D x.Keep else if x.Kind = 3 then (dFlush D).1 else if x.Kind = 4 then (sPut D x.At x.Stamp x.Bytes).1 else D
structure RunS (D : R08Disk) (k : Nat) : Prop where
  base : D.Base.length ≤ 60
  q : D.Queue.length ≤ 255 * k
  to : ∀ y ∈ D.Queue, 0 ≤ y.To ∧ y.To < D.Base.length
theorem runS_blank (n : Int) (h : n ≤ 60) : RunS (dBlank n) 0 := ⟨by simp only [dBlank, List.length_replicate]; omega, by simp [dBlank], by simp [dBlank]⟩
theorem runS_up {D : R08Disk} {k j : Nat} (h : RunS D k) (hj : k ≤ j) : RunS D j := ⟨h.base, by have := h.q; omega, h.to⟩
theorem runS_flush {D : R08Disk} {k : Nat} (h : RunS D k) : RunS (dFlush D).1 k := by
  obtain ⟨h1, h2, h3⟩ := h
  have s1 := dSpend_base D
  have s2 := dSpend_queue D
  unfold dFlush
  split
  · exact ⟨by simp only [landAll_len]; exact h1, by simp, by simp⟩
  · exact ⟨by simp only [s1]; exact h1, by simp only [s2]; omega, by simp only [s1, s2]; exact h3⟩
theorem runS_put {D : R08Disk} {k : Nat} (h : RunS D k) (a st : Int) (b : List Int) : RunS (sPut D a st b).1 (k + 1) := by
  obtain ⟨h1, h2, h3⟩ := h
  have := sPut_q D a st b
  exact ⟨by omega, by omega, by rw [this.2]; exact sPut_to h3 _ _ _⟩
theorem runS_write {D : R08Disk} {k : Nat} (h : RunS D k) (a z : Int) (c : List Int) : RunS (slWrite D a z c).1 (k + 1) := by
  have h1 := runS_put h (a + z * (nextG D a z % 2)) (nextG D a z) (closeN c)
  unfold slWrite slPutD
  split
  · split
    · exact h1
    · split <;> exact runS_flush h1
  · exact runS_up h (by omega)
theorem runS_act {D : R08Disk} {k : Nat} (h : RunS D k) (a z : Int) (x : L09Act) : RunS (actS D a z x) (k + 1) := by
  unfold actS
  split
  · exact runS_write h _ _ _
  split
  · exact runS_up ⟨h.base, h.q, h.to⟩ (by omega)
  split
  · exact ⟨by simp only [dPower, landAll_len]; exact h.base, by simp [dPower], by simp [dPower]⟩
  split
  · exact runS_up (runS_flush h) (by omega)
  split
  · exact runS_put h _ _ _
  · exact runS_up h (by omega)
section
set_option linter.unusedSimpArgs false
set_option linter.unusedVariables false
set_option maxRecDepth 20000
attribute [local irreducible] vcOps vcCode vcA vcSch Wc
set_option maxHeartbeats 8000000
theorem great11_fn (acts : List L09Act) : Pure Cx.P 62 [.dat (.slice rL09Act) acts] [.bool (greatB11 acts)] := by
  refine Pure.go2 (E := Cx.env) (fn := Try.f62) (res := [_]) Try.func62 isfn62 rfl rfl rfl (by kernel_rfl) rfl ?_
  push_cast
  try intro hf
  repeat' (first
    | (intro (K' : KT) hK'; push_cast; (repeat' refine And.intro ?_ ?_); all_goals (first | (apply hK'; clear hK' K') | (refine ⟨trivial, trivial, ?_⟩; apply hK'; clear hK' K') | (intro hb; (try push_cast at hb); all_goals (intros; apply hK'; clear hK' K')) | (clear hK' K'; first | omega | skip)))
    | apply go_seq | apply go_block | apply go_region | apply go_skip | apply go_exit | apply go_ret
    | apply seqK_n | apply seqK_x | apply seqK_r | apply blockK_n | apply blockK_r | apply blockK_hit | apply blockK_miss rfl | apply loopK_x | apply loopK_r | apply regK_go | apply finK_n | apply finK_r
    | (refine vres_go ?_; push_cast) | apply ops_nil | refine ops_in (w_i64 _ (by omega) (by omega)) ?_ | refine ops_in (w_u8 _ (by omega) (by omega)) ?_ | refine ops_in (w_u32 _ (by omega) (by omega)) ?_ | refine ops_in (w_u64 _ (by omega) (by omega)) ?_
    | refine ops_put rfl rfl ?_ | refine ops_no rfl rfl ?_
    | (refine go_cond (by push_cast; first | done | rfl) ?_ ?_ <;> intro hc <;> (try push_cast at hc))
    | refine ops_gt rfl rfl rfl (by push_cast; first | done | rfl) ?_
    | refine ops_gb rfl rfl rfl (by push_cast; first | done | rfl) ?_ ?_
    | (intro (hc : (_ : Prop)); (try push_cast at hc)) | intro (hc : R08Item) | intro (hc : Int) | intro (hc : Nat))
  · simp [greatB11, ‹(40 : Int) < acts.length›]
  · refine go_loop2 [2, 4, 10, 11, 12, 13, 14, 15, 16, 17, 18, 19, 20, 21, 22, 23, 24, 25, 26, 27, 28, 29] [4, 16, 21] (fun (i : Nat) => i ≤ acts.length ∧ (acts.take i).any bigA11 = false) (fun (i : Nat) => [(10, .one (.l (.int .i64 i)))]) (fun (i : Nat) => []) (fun (i : Nat) => acts.length - i) 0 ?_ (by push_cast; first | done | rfl) (by push_cast; first | done | rfl) ?_ ?_
    · exact ⟨Nat.zero_le _, by simp⟩
    · push_cast
    · rintro i ⟨hi, hall⟩
      push_cast
      intro hg
      repeat' (first
    | (intro (K' : KT) hK'; push_cast; (repeat' refine And.intro ?_ ?_); all_goals (first | (apply hK'; clear hK' K') | (refine ⟨trivial, trivial, ?_⟩; apply hK'; clear hK' K') | (intro hb; (try push_cast at hb); all_goals (intros; apply hK'; clear hK' K')) | (clear hK' K'; first | omega | skip)))
    | apply go_seq | apply go_block | apply go_region | apply go_skip | apply go_exit | apply go_ret
    | apply seqK_n | apply seqK_x | apply seqK_r | apply blockK_n | apply blockK_r | apply blockK_hit | apply blockK_miss rfl | apply loopK_x | apply loopK_r | apply regK_go | apply finK_n | apply finK_r
    | (refine vres_go ?_; push_cast) | apply ops_nil | refine ops_in (w_i64 _ (by omega) (by omega)) ?_ | refine ops_in (w_u8 _ (by omega) (by omega)) ?_ | refine ops_in (w_u32 _ (by omega) (by omega)) ?_ | refine ops_in (w_u64 _ (by omega) (by omega)) ?_
    | refine ops_put rfl rfl ?_ | refine ops_no rfl rfl ?_
    | (refine go_cond (by push_cast; first | done | rfl) ?_ ?_ <;> intro hc <;> (try push_cast at hc))
    | refine ops_gt rfl rfl rfl (by push_cast; first | done | rfl) ?_
    | refine ops_gb rfl rfl rfl (by push_cast; first | done | rfl) ?_ ?_
    | (intro (hc : (_ : Prop)); (try push_cast at hc)) | intro (hc : R08Item) | intro (hc : Int) | intro (hc : Nat))
      · rw [great11_hit (i := i) (by omega) (by simp [bigA11, -List.getD_eq_getElem?_getD, hc])]
      · refine loopK_m (i + 1) ⟨by omega, any_take11 hall (by omega) (by
          simp only [bigA11, Bool.or_eq_false_iff, decide_eq_false_iff_not]
          exact ⟨⟨‹_›, ‹_›⟩, ‹_›⟩)⟩ (by omega) ?_
        push_cast
      · rw [great11_hit (i := i) (by omega) (by
          simp only [bigA11, Bool.or_eq_true, decide_eq_true_eq]
          exact .inl (.inr ‹_›))]
      · rw [great11_hit (i := i) (by omega) (by
          simp only [bigA11, Bool.or_eq_true, decide_eq_true_eq]
          exact .inl (.inl ‹_›))]
      · have e : acts.take i = acts := List.take_of_length_le (by omega)
        rw [e] at hall
        simp only [greatB11, hall, Bool.or_false]
        simp [‹¬ (40 : Int) < acts.length›]
theorem great11_con : Con Cx.P 62 (.pair (.slice rL09Act) (.unit)) (fun x => (fun (acts : List L09Act) => True) x.1) (fun x => (fun (acts : List L09Act) => [.bool (greatB11 acts)]) x.1) := ⟨isfn62, fun x h => great11_fn x.1⟩
theorem slRuns_fn (place : List Int) (acts : List L09Act) : Pure Cx.P 17 [.dat (.arr 3 (.int .i64)) place, .dat (.slice rL09Act) acts] [.bool true] := by
  refine Pure.go2 (E := Cx.env) (fn := Try.f17) (res := [_]) Try.func17 isfn17 rfl rfl rfl (by kernel_rfl) rfl ?_
  push_cast
  try intro hf
  repeat' (first
    | (intro (K' : KT) hK'; push_cast; (repeat' refine And.intro ?_ ?_); all_goals (first | (apply hK'; clear hK' K') | (refine ⟨trivial, trivial, ?_⟩; apply hK'; clear hK' K') | (intro hb; (try push_cast at hb); all_goals (intros; apply hK'; clear hK' K')) | ((first | refine call_F slotAlive_con (fun _ => rfl) ?_ | refine call_F great11_con (fun _ => rfl) ?_ | refine call_new Blank_con 9100 ?_ | refine call_N r08Blank_con (fun _ => rfl) ?_); push_cast; (repeat' refine And.intro ?_ ?_); all_goals (first | (apply hK'; clear hK' K') | (intros; apply hK'; clear hK' K') | (clear hK' K'; first | omega | skip))) | (clear hK' K'; first | omega | skip)))
    | apply go_seq | apply go_block | apply go_region | apply go_skip | apply go_exit | apply go_ret
    | apply seqK_n | apply seqK_x | apply seqK_r | apply blockK_n | apply blockK_r | apply blockK_hit | apply blockK_miss rfl | apply loopK_x | apply loopK_r | apply regK_go | apply finK_n | apply finK_r
    | (refine vres_go ?_; push_cast) | apply ops_nil | refine ops_in (w_i64 _ (by omega) (by omega)) ?_ | refine ops_in (w_u8 _ (by omega) (by omega)) ?_ | refine ops_in (w_u32 _ (by omega) (by omega)) ?_ | refine ops_in (w_u64 _ (by omega) (by omega)) ?_
    | refine ops_put rfl rfl ?_ | refine ops_no rfl rfl ?_
    | (refine go_cond (by push_cast; first | done | rfl) ?_ ?_ <;> intro hc <;> (try push_cast at hc))
    | refine ops_gt rfl rfl rfl (by push_cast; first | done | rfl) ?_
    | refine ops_gb rfl rfl rfl (by push_cast; first | done | rfl) ?_ ?_
    | refine go_draw (id := 14) [0, 1, 2, 3, 4, 6, 7] [9] [2, 8] (.or 5 (.or 8 (.or 9 (.free 10 (.free 11 (.free 12 (.free 13 (.free 14 (.done)))))) (.stop)) (.stop)) (.stop)) wide (by kernel_rfl) ?_
    | apply goA_nil | apply goS_done | apply goS_stop
    | refine goA_put rfl rfl rfl ?_ | refine goS_free rfl rfl rfl ?_
    | (refine goS_late rfl rfl rfl rfl ?_ ?_; rotate_left) | (refine goS_late' rfl rfl rfl rfl ?_ ?_; rotate_left)
    | (refine goS_hid rfl rfl rfl rfl ?_ ?_; rotate_left; focus (intro K' hK'; push_cast; (repeat' refine And.intro ?_ ?_); all_goals (first | (refine hK' _ _ _ _ _ (by push_cast) (by push_cast; first | done | rfl) ?_; clear hK' K') | ((first | refine call_F slotAlive_con (fun _ => rfl) ?_ | refine call_F great11_con (fun _ => rfl) ?_ | refine call_new Blank_con 9100 ?_ | refine call_N r08Blank_con (fun _ => rfl) ?_); push_cast; (repeat' refine And.intro ?_ ?_); all_goals (first | (refine hK' _ _ _ _ _ (by push_cast) (by push_cast; first | done | rfl) ?_; clear hK' K') | (intros; refine hK' _ _ _ _ _ (by push_cast) (by push_cast; first | done | rfl) ?_; clear hK' K') | (clear hK' K'; first | omega | skip))) | (clear hK' K'; first | omega | skip))))
    | refine goA_gt rfl rfl rfl rfl (by push_cast; first | done | rfl) ?_
    | refine goA_gb rfl rfl rfl rfl (by push_cast; first | done | rfl) ?_ ?_
    | (intro (hc : (_ : Prop)); (try push_cast at hc)) | intro (hc : R08Item) | intro (hc : Int) | intro (hc : Nat))
  have hgr : greatB11 acts = false := ‹_›
  have hlen := great11_len hgr
  refine go_loop2 [4, 8, 9, 10, 11, 12, 13, 14, 15, 16, 17, 18, 19, 20, 21, 22, 40, 41, 42, 43, 44, 45, 46, 47, 48, 49, 50, 51, 52, 53, 54, 55, 56, 57, 58, 59, 60, 61, 62, 63, 64, 65, 66, 67, 68, 69, 70, 71, 72, 73, 74, 75, 76, 77, 78, 79, 80, 81, 82, 83, 84, 85, 86, 87, 88, 89, 90, 91, 92, 93, 94, 95, 96, 97, 98, 99, 100, 101, 102, 103, 104, 105, 106, 107, 108, 109, 110, 111, 112, 113, 114, 115, 116, 117, 118, 119, 120, 121, 122, 123, 124, 125, 126, 127, 128, 129, 130, 131, 132, 133, 134, 135, 136, 137, 138, 139, 140, 141, 142, 143, 144, 145, 146, 147, 148, 149, 150, 151, 152, 153, 154, 155, 156, 157, 158, 159, 160, 161, 162, 163, 164, 165, 166, 167, 168, 169, 170, 171, 172, 173, 174, 175, 176, 177, 178, 179, 180, 181, 182, 183, 184, 185, 186, 187, 188, 189, 190, 191, 192, 193, 194, 195, 196] [6, 8, 54, 57, 58, 69, 78, 82, 88, 92, 96, 99, 111, 120, 129, 139, 149, 158, 171, 173, 9100] (fun (p : R08Disk × Nat) => p.2 ≤ acts.length ∧ RunS p.1 p.2) (fun (p : R08Disk × Nat) => [(40, .one (.l (.int .i64 p.2)))]) (fun (p : R08Disk × Nat) => [(9100, .obj DiskO p.1), (6, .segs [.dat rR08Disk p.1])]) (fun (p : R08Disk × Nat) => acts.length - p.2) (dBlank (place.getD 0 0), 0) ?_ (by push_cast; first | done | rfl) (by push_cast; first | done | rfl) ?_ ?_
  · exact ⟨Nat.zero_le _, runS_blank _ (by omega)⟩
  · push_cast
    first | done | rfl
  · rintro ⟨D, i⟩ ⟨hi, hr⟩
    simp only at hi hr
    push_cast
    intro hg
    have hbase := hr.base
    have hq := hr.q
    have hto := hr.to
    have hx : (i : Int) < acts.length → (acts.getD i ⟨0, 0, 0, [], []⟩).Bytes.length ≤ 1000 ∧ (acts.getD i ⟨0, 0, 0, [], []⟩).At ≤ 9223372036854775807 := fun h => by
      have hm := getD_mem acts i ⟨0, 0, 0, [], []⟩ (by omega)
      exact ⟨great11_small hgr hm, (hf.2.2 _ hm).2.1.2⟩
    have hact := runS_act hr (place.getD 1 0) (place.getD 2 0) (acts.getD i ⟨0, 0, 0, [], []⟩)
    repeat' (first
    | (intro (K' : KT) hK'; push_cast; (repeat' refine And.intro ?_ ?_); all_goals (first | (apply hK'; clear hK' K') | (refine ⟨trivial, trivial, ?_⟩; apply hK'; clear hK' K') | (intro hb; (try push_cast at hb); all_goals (intros; apply hK'; clear hK' K')) | ((first | refine call_1 slWrite_con (fun _ _ => rfl) ?_ | refine call_N r11Put_con (fun _ => rfl) ?_ | refine call_1 Write_con (fun _ _ => rfl) ?_ | refine call_N r09Put_con (fun _ => rfl) ?_ | refine call_1 Flush_con (fun _ _ => rfl) ?_ | refine call_N r08Flush_con (fun _ => rfl) ?_ | refine call_1 Fuse_con (fun _ _ => rfl) ?_ | refine call_N r08Fuse_con (fun _ => rfl) ?_ | refine call_1 Power_con (fun _ _ => rfl) ?_ | refine call_N r08Power_con (fun _ => rfl) ?_); push_cast; (repeat' refine And.intro ?_ ?_); all_goals (first | (apply hK'; clear hK' K') | (intros; apply hK'; clear hK' K') | (clear hK' K'; first | omega | skip))) | (clear hK' K'; first | omega | skip)))
    | apply go_seq | apply go_block | refine go_region_stop (id := 15) ?_ | refine go_region_stop (id := 18) ?_ | refine go_region_stop (id := 21) ?_ | refine go_region_stop (id := 24) ?_ | refine go_region_stop (id := 27) ?_ | apply go_region | apply go_skip | apply go_exit | apply go_ret
    | apply seqK_n | apply seqK_x | apply seqK_r | apply blockK_n | apply blockK_r | apply blockK_hit | apply blockK_miss rfl | apply loopK_x | apply loopK_r | apply regK_go | apply finK_n | apply finK_r
    | (refine vres_go ?_; push_cast) | apply ops_nil | refine ops_in (w_i64 _ (by omega) (by omega)) ?_ | refine ops_in (w_u8 _ (by omega) (by omega)) ?_ | refine ops_in (w_u32 _ (by omega) (by omega)) ?_ | refine ops_in (w_u64 _ (by omega) (by omega)) ?_
    | refine ops_put rfl rfl ?_ | refine ops_no rfl rfl ?_
    | (refine go_cond (by push_cast; first | done | rfl) ?_ ?_ <;> intro hc <;> (try push_cast at hc))
    | refine ops_gt rfl rfl rfl (by push_cast; first | done | rfl) ?_
    | refine ops_gb rfl rfl rfl (by push_cast; first | done | rfl) ?_ ?_
    | refine go_draw (id := 14) [0, 1, 2, 3, 4, 6, 7] [9] [2,8] (.or 5 (.or 8 (.or 9 (.free 10 (.free 11 (.free 12 (.free 13 (.free 14 (.done)))))) (.stop)) (.stop)) (.stop)) wide (by kernel_rfl) ?_
    | apply goA_nil | apply goS_done | apply goS_stop
    | refine goA_put rfl rfl rfl ?_ | refine goS_free rfl rfl rfl ?_
    | (refine goS_late rfl rfl rfl rfl ?_ ?_; rotate_left) | (refine goS_late' rfl rfl rfl rfl ?_ ?_; rotate_left)
    | (refine goS_hid rfl rfl rfl rfl ?_ ?_; rotate_left; focus (intro K' hK'; push_cast; (repeat' refine And.intro ?_ ?_); all_goals (first | (refine hK' _ _ _ _ _ (by push_cast) (by push_cast; first | done | rfl) ?_; clear hK' K') | ((first | refine call_1 slWrite_con (fun _ _ => rfl) ?_ | refine call_N r11Put_con (fun _ => rfl) ?_ | refine call_1 Write_con (fun _ _ => rfl) ?_ | refine call_N r09Put_con (fun _ => rfl) ?_ | refine call_1 Flush_con (fun _ _ => rfl) ?_ | refine call_N r08Flush_con (fun _ => rfl) ?_ | refine call_1 Fuse_con (fun _ _ => rfl) ?_ | refine call_N r08Fuse_con (fun _ => rfl) ?_ | refine call_1 Power_con (fun _ _ => rfl) ?_ | refine call_N r08Power_con (fun _ => rfl) ?_); push_cast; (repeat' refine And.intro ?_ ?_); all_goals (first | (refine hK' _ _ _ _ _ (by push_cast) (by push_cast; first | done | rfl) ?_; clear hK' K') | (intros; refine hK' _ _ _ _ _ (by push_cast) (by push_cast; first | done | rfl) ?_; clear hK' K') | (clear hK' K'; first | omega | skip))) | (clear hK' K'; first | omega | skip))))
    | (refine goS_hid' rfl rfl rfl rfl ?_ ?_; rotate_left; focus (intro K' hK'; push_cast; (repeat' refine And.intro ?_ ?_); all_goals (first | (refine hK' _ _ _ _ _ (by push_cast) (by push_cast; first | done | rfl) ?_; clear hK' K') | ((first | refine call_1 slWrite_con (fun _ _ => rfl) ?_ | refine call_N r11Put_con (fun _ => rfl) ?_ | refine call_1 Write_con (fun _ _ => rfl) ?_ | refine call_N r09Put_con (fun _ => rfl) ?_ | refine call_1 Flush_con (fun _ _ => rfl) ?_ | refine call_N r08Flush_con (fun _ => rfl) ?_ | refine call_1 Fuse_con (fun _ _ => rfl) ?_ | refine call_N r08Fuse_con (fun _ => rfl) ?_ | refine call_1 Power_con (fun _ _ => rfl) ?_ | refine call_N r08Power_con (fun _ => rfl) ?_); push_cast; (repeat' refine And.intro ?_ ?_); all_goals (first | (refine hK' _ _ _ _ _ (by push_cast) (by push_cast; first | done | rfl) ?_; clear hK' K') | (intros; refine hK' _ _ _ _ _ (by push_cast) (by push_cast; first | done | rfl) ?_; clear hK' K') | (clear hK' K'; first | omega | skip))) | (clear hK' K'; first | omega | skip))))
    | (refine goS_freet rfl rfl rfl rfl (by push_cast; first | done | rfl) ?_)
    | refine goS_freeb rfl rfl rfl rfl (by push_cast; first | done | rfl) ?_ ?_
    | (refine goS_hidt rfl rfl rfl rfl (by push_cast; first | done | rfl) ?_ ?_)
    | (refine goS_hidb rfl rfl rfl rfl rfl (by push_cast; first | done | rfl) ?_ ?_ ?_; focus (intro hc; (try push_cast at hc); all_goals (intro K' hK'; push_cast; (repeat' refine And.intro ?_ ?_); all_goals (first | (refine hK' _ _ _ _ _ (by push_cast) (by push_cast; first | done | rfl) ?_; clear hK' K') | ((first | refine call_1 slWrite_con (fun _ _ => rfl) ?_ | refine call_N r11Put_con (fun _ => rfl) ?_ | refine call_1 Write_con (fun _ _ => rfl) ?_ | refine call_N r09Put_con (fun _ => rfl) ?_ | refine call_1 Flush_con (fun _ _ => rfl) ?_ | refine call_N r08Flush_con (fun _ => rfl) ?_ | refine call_1 Fuse_con (fun _ _ => rfl) ?_ | refine call_N r08Fuse_con (fun _ => rfl) ?_ | refine call_1 Power_con (fun _ _ => rfl) ?_ | refine call_N r08Power_con (fun _ => rfl) ?_); push_cast; (repeat' refine And.intro ?_ ?_); all_goals (first | (refine hK' _ _ _ _ _ (by push_cast) (by push_cast; first | done | rfl) ?_; clear hK' K') | (intros; refine hK' _ _ _ _ _ (by push_cast) (by push_cast; first | done | rfl) ?_; clear hK' K') | (clear hK' K'; first | omega | skip))) | (clear hK' K'; first | omega | skip)))))
    | refine goA_gt rfl rfl rfl rfl (by push_cast; first | done | rfl) ?_
    | refine goA_gb rfl rfl rfl rfl (by push_cast; first | done | rfl) ?_ ?_
    | (intro (hc : (_ : Prop)); (try push_cast at hc)) | intro (hc : R08Item) | intro (hc : Int) | intro (hc : Nat))
    · generalize acts.getD i ⟨0, 0, 0, [], []⟩ = X at *
      have eU : actS D (place.getD 1 0) (place.getD 2 0) X = (slWrite D (place.getD 1 0) (place.getD 2 0) X.Bytes).1 := by
        unfold actS
        rw [if_pos ‹X.Kind = 0›]
      rw [eU] at hact
      clear eU
      generalize (slWrite D (place.getD 1 0) (place.getD 2 0) X.Bytes).1 = E at *
      have hEb := hact.base
      apply regKS_go
      push_cast
      repeat' (first
    | (intro (K' : KT) hK'; push_cast; (repeat' refine And.intro ?_ ?_); all_goals (first | (apply hK'; clear hK' K') | (refine ⟨trivial, trivial, ?_⟩; apply hK'; clear hK' K') | (intro hb; (try push_cast at hb); all_goals (intros; apply hK'; clear hK' K')) | ((first | refine call_1 slRead_con (fun _ _ => rfl) ?_ | refine call_N r11Read_con (fun _ => rfl) ?_ | refine call_1 slNext_con (fun _ _ => rfl) ?_ | refine call_F r11Next_con (fun _ => rfl) ?_); push_cast; (repeat' refine And.intro ?_ ?_); all_goals (first | (apply hK'; clear hK' K') | (intros; apply hK'; clear hK' K') | (clear hK' K'; first | omega | skip))) | (clear hK' K'; first | omega | skip)))
    | apply go_seq | apply go_block | apply go_region | apply go_skip | apply go_exit | apply go_ret
    | apply seqK_n | apply seqK_x | apply seqK_r | apply blockK_n | apply blockK_r | apply blockK_hit | apply blockK_miss rfl | apply loopK_x | apply loopK_r | apply regK_go | apply finK_n | apply finK_r
    | (refine vres_go ?_; push_cast) | apply ops_nil | refine ops_in (w_i64 _ (by omega) (by omega)) ?_ | refine ops_in (w_u8 _ (by omega) (by omega)) ?_ | refine ops_in (w_u32 _ (by omega) (by omega)) ?_ | refine ops_in (w_u64 _ (by omega) (by omega)) ?_
    | refine ops_put rfl rfl ?_ | refine ops_no rfl rfl ?_
    | (refine go_cond (by push_cast; first | done | rfl) ?_ ?_ <;> intro hc <;> (try push_cast at hc))
    | refine ops_gt rfl rfl rfl (by push_cast; first | done | rfl) ?_
    | refine ops_gb rfl rfl rfl (by push_cast; first | done | rfl) ?_ ?_
    | refine go_draw (id := 14) [0, 1, 2, 3, 4, 6, 7] [9] [2, 8] (.or 5 (.or 8 (.or 9 (.free 10 (.free 11 (.free 12 (.free 13 (.free 14 (.done)))))) (.stop)) (.stop)) (.stop)) wide (by kernel_rfl) ?_
    | apply goA_nil | apply goS_done | apply goS_stop
    | refine goA_put rfl rfl rfl ?_ | refine goS_free rfl rfl rfl ?_
    | (refine goS_late rfl rfl rfl rfl ?_ ?_; rotate_left) | (refine goS_late' rfl rfl rfl rfl ?_ ?_; rotate_left)
    | (refine goS_hid rfl rfl rfl rfl ?_ ?_; rotate_left; focus (intro K' hK'; push_cast; (repeat' refine And.intro ?_ ?_); all_goals (first | (refine hK' _ _ _ _ _ (by push_cast) (by push_cast; first | done | rfl) ?_; clear hK' K') | ((first | refine call_1 slRead_con (fun _ _ => rfl) ?_ | refine call_N r11Read_con (fun _ => rfl) ?_ | refine call_1 slNext_con (fun _ _ => rfl) ?_ | refine call_F r11Next_con (fun _ => rfl) ?_); push_cast; (repeat' refine And.intro ?_ ?_); all_goals (first | (refine hK' _ _ _ _ _ (by push_cast) (by push_cast; first | done | rfl) ?_; clear hK' K') | (intros; refine hK' _ _ _ _ _ (by push_cast) (by push_cast; first | done | rfl) ?_; clear hK' K') | (clear hK' K'; first | omega | skip))) | (clear hK' K'; first | omega | skip))))
    | refine goA_gt rfl rfl rfl rfl (by push_cast; first | done | rfl) ?_
    | refine goA_gb rfl rfl rfl rfl (by push_cast; first | done | rfl) ?_ ?_
    | (intro (hc : (_ : Prop)); (try push_cast at hc)) | intro (hc : R08Item) | intro (hc : Int) | intro (hc : Nat))
      refine loopK_m (E, i + 1) ⟨by simp only; omega, hact⟩ (by simp only; omega) ?_
      push_cast
      first | done | rfl
    · generalize acts.getD i ⟨0, 0, 0, [], []⟩ = X at *
      have eU : actS D (place.getD 1 0) (place.getD 2 0) X = dFuse D X.At := by
        unfold actS
        rw [if_neg ‹¬ X.Kind = 0›, if_pos ‹X.Kind = 1›]
      rw [eU] at hact
      clear eU
      generalize dFuse D X.At = E at *
      have hEb := hact.base
      apply regKS_go
      push_cast
      repeat' (first
    | (intro (K' : KT) hK'; push_cast; (repeat' refine And.intro ?_ ?_); all_goals (first | (apply hK'; clear hK' K') | (refine ⟨trivial, trivial, ?_⟩; apply hK'; clear hK' K') | (intro hb; (try push_cast at hb); all_goals (intros; apply hK'; clear hK' K')) | ((first | refine call_1 slRead_con (fun _ _ => rfl) ?_ | refine call_N r11Read_con (fun _ => rfl) ?_ | refine call_1 slNext_con (fun _ _ => rfl) ?_ | refine call_F r11Next_con (fun _ => rfl) ?_); push_cast; (repeat' refine And.intro ?_ ?_); all_goals (first | (apply hK'; clear hK' K') | (intros; apply hK'; clear hK' K') | (clear hK' K'; first | omega | skip))) | (clear hK' K'; first | omega | skip)))
    | apply go_seq | apply go_block | apply go_region | apply go_skip | apply go_exit | apply go_ret
    | apply seqK_n | apply seqK_x | apply seqK_r | apply blockK_n | apply blockK_r | apply blockK_hit | apply blockK_miss rfl | apply loopK_x | apply loopK_r | apply regK_go | apply finK_n | apply finK_r
    | (refine vres_go ?_; push_cast) | apply ops_nil | refine ops_in (w_i64 _ (by omega) (by omega)) ?_ | refine ops_in (w_u8 _ (by omega) (by omega)) ?_ | refine ops_in (w_u32 _ (by omega) (by omega)) ?_ | refine ops_in (w_u64 _ (by omega) (by omega)) ?_
    | refine ops_put rfl rfl ?_ | refine ops_no rfl rfl ?_
    | (refine go_cond (by push_cast; first | done | rfl) ?_ ?_ <;> intro hc <;> (try push_cast at hc))
    | refine ops_gt rfl rfl rfl (by push_cast; first | done | rfl) ?_
    | refine ops_gb rfl rfl rfl (by push_cast; first | done | rfl) ?_ ?_
    | refine go_draw (id := 14) [0, 1, 2, 3, 4, 6, 7] [9] [2, 8] (.or 5 (.or 8 (.or 9 (.free 10 (.free 11 (.free 12 (.free 13 (.free 14 (.done)))))) (.stop)) (.stop)) (.stop)) wide (by kernel_rfl) ?_
    | apply goA_nil | apply goS_done | apply goS_stop
    | refine goA_put rfl rfl rfl ?_ | refine goS_free rfl rfl rfl ?_
    | (refine goS_late rfl rfl rfl rfl ?_ ?_; rotate_left) | (refine goS_late' rfl rfl rfl rfl ?_ ?_; rotate_left)
    | (refine goS_hid rfl rfl rfl rfl ?_ ?_; rotate_left; focus (intro K' hK'; push_cast; (repeat' refine And.intro ?_ ?_); all_goals (first | (refine hK' _ _ _ _ _ (by push_cast) (by push_cast; first | done | rfl) ?_; clear hK' K') | ((first | refine call_1 slRead_con (fun _ _ => rfl) ?_ | refine call_N r11Read_con (fun _ => rfl) ?_ | refine call_1 slNext_con (fun _ _ => rfl) ?_ | refine call_F r11Next_con (fun _ => rfl) ?_); push_cast; (repeat' refine And.intro ?_ ?_); all_goals (first | (refine hK' _ _ _ _ _ (by push_cast) (by push_cast; first | done | rfl) ?_; clear hK' K') | (intros; refine hK' _ _ _ _ _ (by push_cast) (by push_cast; first | done | rfl) ?_; clear hK' K') | (clear hK' K'; first | omega | skip))) | (clear hK' K'; first | omega | skip))))
    | refine goA_gt rfl rfl rfl rfl (by push_cast; first | done | rfl) ?_
    | refine goA_gb rfl rfl rfl rfl (by push_cast; first | done | rfl) ?_ ?_
    | (intro (hc : (_ : Prop)); (try push_cast at hc)) | intro (hc : R08Item) | intro (hc : Int) | intro (hc : Nat))
      refine loopK_m (E, i + 1) ⟨by simp only; omega, hact⟩ (by simp only; omega) ?_
      push_cast
      first | done | rfl
    · generalize acts.getD i ⟨0, 0, 0, [], []⟩ = X at *
      have eU : actS D (place.getD 1 0) (place.getD 2 0) X = dPower D X.Keep := by
        unfold actS
        rw [if_neg ‹¬ X.Kind = 0›, if_neg ‹¬ X.Kind = 1›, if_pos ‹X.Kind = 2›]
      rw [eU] at hact
      clear eU
      generalize dPower D X.Keep = E at *
      have hEb := hact.base
      apply regKS_go
      push_cast
      repeat' (first
    | (intro (K' : KT) hK'; push_cast; (repeat' refine And.intro ?_ ?_); all_goals (first | (apply hK'; clear hK' K') | (refine ⟨trivial, trivial, ?_⟩; apply hK'; clear hK' K') | (intro hb; (try push_cast at hb); all_goals (intros; apply hK'; clear hK' K')) | ((first | refine call_1 slRead_con (fun _ _ => rfl) ?_ | refine call_N r11Read_con (fun _ => rfl) ?_ | refine call_1 slNext_con (fun _ _ => rfl) ?_ | refine call_F r11Next_con (fun _ => rfl) ?_); push_cast; (repeat' refine And.intro ?_ ?_); all_goals (first | (apply hK'; clear hK' K') | (intros; apply hK'; clear hK' K') | (clear hK' K'; first | omega | skip))) | (clear hK' K'; first | omega | skip)))
    | apply go_seq | apply go_block | apply go_region | apply go_skip | apply go_exit | apply go_ret
    | apply seqK_n | apply seqK_x | apply seqK_r | apply blockK_n | apply blockK_r | apply blockK_hit | apply blockK_miss rfl | apply loopK_x | apply loopK_r | apply regK_go | apply finK_n | apply finK_r
    | (refine vres_go ?_; push_cast) | apply ops_nil | refine ops_in (w_i64 _ (by omega) (by omega)) ?_ | refine ops_in (w_u8 _ (by omega) (by omega)) ?_ | refine ops_in (w_u32 _ (by omega) (by omega)) ?_ | refine ops_in (w_u64 _ (by omega) (by omega)) ?_
    | refine ops_put rfl rfl ?_ | refine ops_no rfl rfl ?_
    | (refine go_cond (by push_cast; first | done | rfl) ?_ ?_ <;> intro hc <;> (try push_cast at hc))
    | refine ops_gt rfl rfl rfl (by push_cast; first | done | rfl) ?_
    | refine ops_gb rfl rfl rfl (by push_cast; first | done | rfl) ?_ ?_
    | refine go_draw (id := 14) [0, 1, 2, 3, 4, 6, 7] [9] [2, 8] (.or 5 (.or 8 (.or 9 (.free 10 (.free 11 (.free 12 (.free 13 (.free 14 (.done)))))) (.stop)) (.stop)) (.stop)) wide (by kernel_rfl) ?_
    | apply goA_nil | apply goS_done | apply goS_stop
    | refine goA_put rfl rfl rfl ?_ | refine goS_free rfl rfl rfl ?_
    | (refine goS_late rfl rfl rfl rfl ?_ ?_; rotate_left) | (refine goS_late' rfl rfl rfl rfl ?_ ?_; rotate_left)
    | (refine goS_hid rfl rfl rfl rfl ?_ ?_; rotate_left; focus (intro K' hK'; push_cast; (repeat' refine And.intro ?_ ?_); all_goals (first | (refine hK' _ _ _ _ _ (by push_cast) (by push_cast; first | done | rfl) ?_; clear hK' K') | ((first | refine call_1 slRead_con (fun _ _ => rfl) ?_ | refine call_N r11Read_con (fun _ => rfl) ?_ | refine call_1 slNext_con (fun _ _ => rfl) ?_ | refine call_F r11Next_con (fun _ => rfl) ?_); push_cast; (repeat' refine And.intro ?_ ?_); all_goals (first | (refine hK' _ _ _ _ _ (by push_cast) (by push_cast; first | done | rfl) ?_; clear hK' K') | (intros; refine hK' _ _ _ _ _ (by push_cast) (by push_cast; first | done | rfl) ?_; clear hK' K') | (clear hK' K'; first | omega | skip))) | (clear hK' K'; first | omega | skip))))
    | refine goA_gt rfl rfl rfl rfl (by push_cast; first | done | rfl) ?_
    | refine goA_gb rfl rfl rfl rfl (by push_cast; first | done | rfl) ?_ ?_
    | (intro (hc : (_ : Prop)); (try push_cast at hc)) | intro (hc : R08Item) | intro (hc : Int) | intro (hc : Nat))
      refine loopK_m (E, i + 1) ⟨by simp only; omega, hact⟩ (by simp only; omega) ?_
      push_cast
      first | done | rfl
    · generalize acts.getD i ⟨0, 0, 0, [], []⟩ = X at *
      have eU : actS D (place.getD 1 0) (place.getD 2 0) X = (dFlush D).1 := by
        unfold actS
        rw [if_neg ‹¬ X.Kind = 0›, if_neg ‹¬ X.Kind = 1›, if_neg ‹¬ X.Kind = 2›, if_pos ‹X.Kind = 3›]
      rw [eU] at hact
      clear eU
      generalize (dFlush D).1 = E at *
      have hEb := hact.base
      apply regKS_go
      push_cast
      repeat' (first
    | (intro (K' : KT) hK'; push_cast; (repeat' refine And.intro ?_ ?_); all_goals (first | (apply hK'; clear hK' K') | (refine ⟨trivial, trivial, ?_⟩; apply hK'; clear hK' K') | (intro hb; (try push_cast at hb); all_goals (intros; apply hK'; clear hK' K')) | ((first | refine call_1 slRead_con (fun _ _ => rfl) ?_ | refine call_N r11Read_con (fun _ => rfl) ?_ | refine call_1 slNext_con (fun _ _ => rfl) ?_ | refine call_F r11Next_con (fun _ => rfl) ?_); push_cast; (repeat' refine And.intro ?_ ?_); all_goals (first | (apply hK'; clear hK' K') | (intros; apply hK'; clear hK' K') | (clear hK' K'; first | omega | skip))) | (clear hK' K'; first | omega | skip)))
    | apply go_seq | apply go_block | apply go_region | apply go_skip | apply go_exit | apply go_ret
    | apply seqK_n | apply seqK_x | apply seqK_r | apply blockK_n | apply blockK_r | apply blockK_hit | apply blockK_miss rfl | apply loopK_x | apply loopK_r | apply regK_go | apply finK_n | apply finK_r
    | (refine vres_go ?_; push_cast) | apply ops_nil | refine ops_in (w_i64 _ (by omega) (by omega)) ?_ | refine ops_in (w_u8 _ (by omega) (by omega)) ?_ | refine ops_in (w_u32 _ (by omega) (by omega)) ?_ | refine ops_in (w_u64 _ (by omega) (by omega)) ?_
    | refine ops_put rfl rfl ?_ | refine ops_no rfl rfl ?_
    | (refine go_cond (by push_cast; first | done | rfl) ?_ ?_ <;> intro hc <;> (try push_cast at hc))
    | refine ops_gt rfl rfl rfl (by push_cast; first | done | rfl) ?_
    | refine ops_gb rfl rfl rfl (by push_cast; first | done | rfl) ?_ ?_
    | refine go_draw (id := 14) [0, 1, 2, 3, 4, 6, 7] [9] [2, 8] (.or 5 (.or 8 (.or 9 (.free 10 (.free 11 (.free 12 (.free 13 (.free 14 (.done)))))) (.stop)) (.stop)) (.stop)) wide (by kernel_rfl) ?_
    | apply goA_nil | apply goS_done | apply goS_stop
    | refine goA_put rfl rfl rfl ?_ | refine goS_free rfl rfl rfl ?_
    | (refine goS_late rfl rfl rfl rfl ?_ ?_; rotate_left) | (refine goS_late' rfl rfl rfl rfl ?_ ?_; rotate_left)
    | (refine goS_hid rfl rfl rfl rfl ?_ ?_; rotate_left; focus (intro K' hK'; push_cast; (repeat' refine And.intro ?_ ?_); all_goals (first | (refine hK' _ _ _ _ _ (by push_cast) (by push_cast; first | done | rfl) ?_; clear hK' K') | ((first | refine call_1 slRead_con (fun _ _ => rfl) ?_ | refine call_N r11Read_con (fun _ => rfl) ?_ | refine call_1 slNext_con (fun _ _ => rfl) ?_ | refine call_F r11Next_con (fun _ => rfl) ?_); push_cast; (repeat' refine And.intro ?_ ?_); all_goals (first | (refine hK' _ _ _ _ _ (by push_cast) (by push_cast; first | done | rfl) ?_; clear hK' K') | (intros; refine hK' _ _ _ _ _ (by push_cast) (by push_cast; first | done | rfl) ?_; clear hK' K') | (clear hK' K'; first | omega | skip))) | (clear hK' K'; first | omega | skip))))
    | refine goA_gt rfl rfl rfl rfl (by push_cast; first | done | rfl) ?_
    | refine goA_gb rfl rfl rfl rfl (by push_cast; first | done | rfl) ?_ ?_
    | (intro (hc : (_ : Prop)); (try push_cast at hc)) | intro (hc : R08Item) | intro (hc : Int) | intro (hc : Nat))
      refine loopK_m (E, i + 1) ⟨by simp only; omega, hact⟩ (by simp only; omega) ?_
      push_cast
      first | done | rfl
    · generalize acts.getD i ⟨0, 0, 0, [], []⟩ = X at *
      have eU : actS D (place.getD 1 0) (place.getD 2 0) X = (sPut D X.At X.Stamp X.Bytes).1 := by
        unfold actS
        rw [if_neg ‹¬ X.Kind = 0›, if_neg ‹¬ X.Kind = 1›, if_neg ‹¬ X.Kind = 2›, if_neg ‹¬ X.Kind = 3›, if_pos ‹X.Kind = 4›]
      rw [eU] at hact
      clear eU
      generalize (sPut D X.At X.Stamp X.Bytes).1 = E at *
      have hEb := hact.base
      apply regKS_go
      push_cast
      repeat' (first
    | (intro (K' : KT) hK'; push_cast; (repeat' refine And.intro ?_ ?_); all_goals (first | (apply hK'; clear hK' K') | (refine ⟨trivial, trivial, ?_⟩; apply hK'; clear hK' K') | (intro hb; (try push_cast at hb); all_goals (intros; apply hK'; clear hK' K')) | ((first | refine call_1 slRead_con (fun _ _ => rfl) ?_ | refine call_N r11Read_con (fun _ => rfl) ?_ | refine call_1 slNext_con (fun _ _ => rfl) ?_ | refine call_F r11Next_con (fun _ => rfl) ?_); push_cast; (repeat' refine And.intro ?_ ?_); all_goals (first | (apply hK'; clear hK' K') | (intros; apply hK'; clear hK' K') | (clear hK' K'; first | omega | skip))) | (clear hK' K'; first | omega | skip)))
    | apply go_seq | apply go_block | apply go_region | apply go_skip | apply go_exit | apply go_ret
    | apply seqK_n | apply seqK_x | apply seqK_r | apply blockK_n | apply blockK_r | apply blockK_hit | apply blockK_miss rfl | apply loopK_x | apply loopK_r | apply regK_go | apply finK_n | apply finK_r
    | (refine vres_go ?_; push_cast) | apply ops_nil | refine ops_in (w_i64 _ (by omega) (by omega)) ?_ | refine ops_in (w_u8 _ (by omega) (by omega)) ?_ | refine ops_in (w_u32 _ (by omega) (by omega)) ?_ | refine ops_in (w_u64 _ (by omega) (by omega)) ?_
    | refine ops_put rfl rfl ?_ | refine ops_no rfl rfl ?_
    | (refine go_cond (by push_cast; first | done | rfl) ?_ ?_ <;> intro hc <;> (try push_cast at hc))
    | refine ops_gt rfl rfl rfl (by push_cast; first | done | rfl) ?_
    | refine ops_gb rfl rfl rfl (by push_cast; first | done | rfl) ?_ ?_
    | refine go_draw (id := 14) [0, 1, 2, 3, 4, 6, 7] [9] [2, 8] (.or 5 (.or 8 (.or 9 (.free 10 (.free 11 (.free 12 (.free 13 (.free 14 (.done)))))) (.stop)) (.stop)) (.stop)) wide (by kernel_rfl) ?_
    | apply goA_nil | apply goS_done | apply goS_stop
    | refine goA_put rfl rfl rfl ?_ | refine goS_free rfl rfl rfl ?_
    | (refine goS_late rfl rfl rfl rfl ?_ ?_; rotate_left) | (refine goS_late' rfl rfl rfl rfl ?_ ?_; rotate_left)
    | (refine goS_hid rfl rfl rfl rfl ?_ ?_; rotate_left; focus (intro K' hK'; push_cast; (repeat' refine And.intro ?_ ?_); all_goals (first | (refine hK' _ _ _ _ _ (by push_cast) (by push_cast; first | done | rfl) ?_; clear hK' K') | ((first | refine call_1 slRead_con (fun _ _ => rfl) ?_ | refine call_N r11Read_con (fun _ => rfl) ?_ | refine call_1 slNext_con (fun _ _ => rfl) ?_ | refine call_F r11Next_con (fun _ => rfl) ?_); push_cast; (repeat' refine And.intro ?_ ?_); all_goals (first | (refine hK' _ _ _ _ _ (by push_cast) (by push_cast; first | done | rfl) ?_; clear hK' K') | (intros; refine hK' _ _ _ _ _ (by push_cast) (by push_cast; first | done | rfl) ?_; clear hK' K') | (clear hK' K'; first | omega | skip))) | (clear hK' K'; first | omega | skip))))
    | refine goA_gt rfl rfl rfl rfl (by push_cast; first | done | rfl) ?_
    | refine goA_gb rfl rfl rfl rfl (by push_cast; first | done | rfl) ?_ ?_
    | (intro (hc : (_ : Prop)); (try push_cast at hc)) | intro (hc : R08Item) | intro (hc : Int) | intro (hc : Nat))
      refine loopK_m (E, i + 1) ⟨by simp only; omega, hact⟩ (by simp only; omega) ?_
      push_cast
      first | done | rfl
    · generalize acts.getD i ⟨0, 0, 0, [], []⟩ = X at *
      have eU : actS D (place.getD 1 0) (place.getD 2 0) X = D := by
        unfold actS
        rw [if_neg ‹¬ X.Kind = 0›, if_neg ‹¬ X.Kind = 1›, if_neg ‹¬ X.Kind = 2›, if_neg ‹¬ X.Kind = 3›, if_neg ‹¬ X.Kind = 4›]
      rw [eU] at hact
      clear eU
      generalize D = E at *
      have hEb := hact.base
      repeat' (first
    | (intro (K' : KT) hK'; push_cast; (repeat' refine And.intro ?_ ?_); all_goals (first | (apply hK'; clear hK' K') | (refine ⟨trivial, trivial, ?_⟩; apply hK'; clear hK' K') | (intro hb; (try push_cast at hb); all_goals (intros; apply hK'; clear hK' K')) | ((first | refine call_1 slRead_con (fun _ _ => rfl) ?_ | refine call_N r11Read_con (fun _ => rfl) ?_ | refine call_1 slNext_con (fun _ _ => rfl) ?_ | refine call_F r11Next_con (fun _ => rfl) ?_); push_cast; (repeat' refine And.intro ?_ ?_); all_goals (first | (apply hK'; clear hK' K') | (intros; apply hK'; clear hK' K') | (clear hK' K'; first | omega | skip))) | (clear hK' K'; first | omega | skip)))
    | apply go_seq | apply go_block | apply go_region | apply go_skip | apply go_exit | apply go_ret
    | apply seqK_n | apply seqK_x | apply seqK_r | apply blockK_n | apply blockK_r | apply blockK_hit | apply blockK_miss rfl | apply loopK_x | apply loopK_r | apply regK_go | apply finK_n | apply finK_r
    | (refine vres_go ?_; push_cast) | apply ops_nil | refine ops_in (w_i64 _ (by omega) (by omega)) ?_ | refine ops_in (w_u8 _ (by omega) (by omega)) ?_ | refine ops_in (w_u32 _ (by omega) (by omega)) ?_ | refine ops_in (w_u64 _ (by omega) (by omega)) ?_
    | refine ops_put rfl rfl ?_ | refine ops_no rfl rfl ?_
    | (refine go_cond (by push_cast; first | done | rfl) ?_ ?_ <;> intro hc <;> (try push_cast at hc))
    | refine ops_gt rfl rfl rfl (by push_cast; first | done | rfl) ?_
    | refine ops_gb rfl rfl rfl (by push_cast; first | done | rfl) ?_ ?_
    | refine go_draw (id := 14) [0, 1, 2, 3, 4, 6, 7] [9] [2, 8] (.or 5 (.or 8 (.or 9 (.free 10 (.free 11 (.free 12 (.free 13 (.free 14 (.done)))))) (.stop)) (.stop)) (.stop)) wide (by kernel_rfl) ?_
    | apply goA_nil | apply goS_done | apply goS_stop
    | refine goA_put rfl rfl rfl ?_ | refine goS_free rfl rfl rfl ?_
    | (refine goS_late rfl rfl rfl rfl ?_ ?_; rotate_left) | (refine goS_late' rfl rfl rfl rfl ?_ ?_; rotate_left)
    | (refine goS_hid rfl rfl rfl rfl ?_ ?_; rotate_left; focus (intro K' hK'; push_cast; (repeat' refine And.intro ?_ ?_); all_goals (first | (refine hK' _ _ _ _ _ (by push_cast) (by push_cast; first | done | rfl) ?_; clear hK' K') | ((first | refine call_1 slRead_con (fun _ _ => rfl) ?_ | refine call_N r11Read_con (fun _ => rfl) ?_ | refine call_1 slNext_con (fun _ _ => rfl) ?_ | refine call_F r11Next_con (fun _ => rfl) ?_); push_cast; (repeat' refine And.intro ?_ ?_); all_goals (first | (refine hK' _ _ _ _ _ (by push_cast) (by push_cast; first | done | rfl) ?_; clear hK' K') | (intros; refine hK' _ _ _ _ _ (by push_cast) (by push_cast; first | done | rfl) ?_; clear hK' K') | (clear hK' K'; first | omega | skip))) | (clear hK' K'; first | omega | skip))))
    | refine goA_gt rfl rfl rfl rfl (by push_cast; first | done | rfl) ?_
    | refine goA_gb rfl rfl rfl rfl (by push_cast; first | done | rfl) ?_ ?_
    | (intro (hc : (_ : Prop)); (try push_cast at hc)) | intro (hc : R08Item) | intro (hc : Int) | intro (hc : Nat))
      refine loopK_m (E, i + 1) ⟨by simp only; omega, hact⟩ (by simp only; omega) ?_
      push_cast
      first | done | rfl
theorem slRuns_con : Con Cx.P 17 (.pair (.arr 3 (.int .i64)) (.pair (.slice rL09Act) (.unit))) (fun x => (fun (place : List Int) (acts : List L09Act) => True) x.1 x.2.1) (fun x => (fun (place : List Int) (acts : List L09Act) => [.bool true]) x.1 x.2.1) := ⟨isfn17, fun x h => slRuns_fn x.1 x.2.1⟩
end
end Go.Proofs.Ytnmjcdlgfimnaaa
