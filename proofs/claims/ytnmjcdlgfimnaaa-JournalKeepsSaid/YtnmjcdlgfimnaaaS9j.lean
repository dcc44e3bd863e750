/- Chapter 9: the greatest stamp: the document's and the code's. -/
import Derived.Test.YtnmjcdlgfimnaaaS9s
import Derived.Test.YtnmjcdlgfimnaaaS9g
namespace Go.Proofs.Ytnmjcdlgfimnaaa
set_option linter.unusedSimpArgs false
set_option linter.unusedVariables false
set_option maxRecDepth 20000
attribute [local irreducible] vcOps vcCode vcA vcSch Wc
set_option maxHeartbeats 8000000
def topN (D : R08Disk) (k e : Int) : Int × Int := sTop D (e - k).toNat k 0
theorem sTop_s (D : R08Disk) (n : Nat) (i top : Int) : sTop D (n + 1) i top = if (dGet D i).2 ≠ 0 then (0, (dGet D i).2) else sTop D n (i + 1) (max top (numK (dGet D i).1 8)) := rfl
structure TopTo (D : R08Disk) (k e : Int) (top : Int) (i : Nat) : Prop where
  le : i ≤ (e - k).toNat
  rest : topN D k e = sTop D ((e - k).toNat - i) (k + i) top
theorem topTo_0 (D : R08Disk) (k e : Int) : TopTo D k e 0 0 := ⟨Nat.zero_le _, by simp [topN]⟩
theorem topTo_s {D : R08Disk} {k e top : Int} {i : Nat} (h : TopTo D k e top i) (hi : k + i < e) (h0 : (dGet D (k + i)).2 = 0) : TopTo D k e (max top (numK (dGet D (k + i)).1 8)) (i + 1) := by
  refine ⟨by omega, ?_⟩
  have e1 : (e - k).toNat - i = ((e - k).toNat - (i + 1)) + 1 := by omega
  rw [h.rest, e1, sTop_s, if_neg (by simpa using h0)]
  congr 1
  push_cast
  omega
theorem topTo_e {D : R08Disk} {k e top : Int} {i : Nat} (h : TopTo D k e top i) (hi : k + i < e) (h0 : ¬ (dGet D (k + i)).2 = 0) : topN D k e = (0, (dGet D (k + i)).2) := by
  have e1 : (e - k).toNat - i = ((e - k).toNat - (i + 1)) + 1 := by omega
  rw [h.rest, e1, sTop_s, if_pos h0]
theorem topTo_all {D : R08Disk} {k e top : Int} {i : Nat} (h : TopTo D k e top i) (hi : ¬ k + i < e) : topN D k e = (top, 0) := by
  have e1 : (e - k).toNat - i = 0 := by omega
  rw [h.rest, e1]; rfl
theorem Top_fn (D : R08Disk) (k e : Int) : Spec Cx.P 47 [.l (.ptr 1 [] 0), .l (.int .i64 k), .l (.int .i64 e)] [(1, .obj DiskO D)] (tvL [.int .u64 (topN D k e).1, .int .i64 (topN D k e).2]) [(1, .obj DiskO D)] := by
  refine Spec.go2 (E := Cx.env) (fn := Try.f47) (res := [_, _]) _ (Opens.refl _) Try.func47 isfn47 rfl rfl (by simp [idsV, SV.ids, LV.ids]) (by simp [idsM]) (by kernel_rfl) rfl ?_
  intro hf
  try push_cast at hf
  intro _
  repeat' (first
    | (intro (K' : KT) hK'; push_cast; (repeat' refine And.intro ?_ ?_); all_goals (first | (apply hK'; clear hK' K') | (refine ⟨trivial, trivial, ?_⟩; apply hK'; clear hK' K') | (intro hb; (try push_cast at hb); all_goals (intros; apply hK'; clear hK' K')) | (clear hK' K'; first | omega | skip)))
    | apply go_seq | apply go_block | apply go_region | apply go_skip | apply go_exit | apply go_ret
    | apply seqK_n | apply seqK_x | apply seqK_r | apply blockK_n | apply blockK_r | apply blockK_hit | apply blockK_miss rfl | apply loopK_x | apply loopK_r | apply regK_go | apply finK_n | apply finK_r
    | (refine vres_go ?_; push_cast) | apply ops_nil | refine ops_in (w_i64 _ (by omega) (by omega)) ?_ | refine ops_in (w_u8 _ (by omega) (by omega)) ?_ | refine ops_in (w_u32 _ (by omega) (by omega)) ?_ | refine ops_in (w_u64 _ (by omega) (by omega)) ?_
    | refine ops_put rfl rfl ?_ | refine ops_no rfl rfl ?_
    | (refine go_cond (by push_cast; first | done | rfl) ?_ ?_ <;> intro hc <;> (try push_cast at hc))
    | refine ops_gt rfl rfl rfl (by push_cast; first | done | rfl) ?_
    | refine ops_gb rfl rfl rfl (by push_cast; first | done | rfl) ?_ ?_
    | (intro (hc : (_ : Prop)); (try push_cast at hc)) | intro (hc : R08Item) | intro (hc : Int) | intro (hc : Nat))
  refine go_loop2 [6, 7, 8, 9, 10, 11, 13, 14, 15, 16, 17, 18, 19, 20, 21, 22, 23, 24, 25, 26, 27, 28, 29, 30] [10, 21, 29, 30] (fun (p : Int × Nat) => TopTo D k e p.1 p.2) (fun (p : Int × Nat) => [(9, .one (.l (.int .i64 (k + (p.2 : Int))))), (8, .one (.l (.int .u64 p.1)))]) (fun (p : Int × Nat) => []) (fun (p : Int × Nat) => (e - k).toNat - p.2) (0, 0) ?_ (by push_cast; first | done | rfl) (by push_cast; first | done | rfl) ?_ ?_
  · exact topTo_0 _ _ _
  · push_cast
    simp
  · rintro ⟨top, i⟩ hi
    simp only at hi
    push_cast
    intro hg
    have hle := hi.le
    repeat' (first
    | (intro (K' : KT) hK'; push_cast; (repeat' refine And.intro ?_ ?_); all_goals (first | (apply hK'; clear hK' K') | (refine ⟨trivial, trivial, ?_⟩; apply hK'; clear hK' K') | (intro hb; (try push_cast at hb); all_goals (intros; apply hK'; clear hK' K')) | ((first | refine call_1 Get_con (fun _ _ => rfl) ?_ | refine call_F stNumber_con (fun _ => rfl) ?_); push_cast; (repeat' refine And.intro ?_ ?_); all_goals (first | (apply hK'; clear hK' K') | (intros; apply hK'; clear hK' K') | (clear hK' K'; first | omega | skip))) | (clear hK' K'; first | omega | skip)))
    | apply go_seq | apply go_block | apply go_region | apply go_skip | apply go_exit | apply go_ret
    | apply seqK_n | apply seqK_x | apply seqK_r | apply blockK_n | apply blockK_r | apply blockK_hit | apply blockK_miss rfl | apply loopK_x | apply loopK_r | apply regK_go | apply finK_n | apply finK_r
    | (refine vres_go ?_; push_cast) | apply ops_nil | refine ops_in (w_i64 _ (by omega) (by omega)) ?_ | refine ops_in (w_u8 _ (by omega) (by omega)) ?_ | refine ops_in (w_u32 _ (by omega) (by omega)) ?_ | refine ops_in (w_u64 _ (by omega) (by omega)) ?_
    | refine ops_put rfl rfl ?_ | refine ops_no rfl rfl ?_
    | (refine go_cond (by push_cast; first | done | rfl) ?_ ?_ <;> intro hc <;> (try push_cast at hc))
    | refine ops_gt rfl rfl rfl (by push_cast; first | done | rfl) ?_
    | refine ops_gb rfl rfl rfl (by push_cast; first | done | rfl) ?_ ?_
    | (intro (hc : (_ : Prop)); (try push_cast at hc)) | intro (hc : R08Item) | intro (hc : Int) | intro (hc : Nat))
    · rw [topTo_e hi ‹_› (by simpa using hc)]
      (refine Fin2.fin ⟨[(1, .obj DiskO D)], ?_, ?_, ?_, Closes.refl _, ?_⟩
       · push_cast
       · push_cast
       · simp [idsM]
       · simp [tvL, TV.ids, SV.ids, LV.ids, idsV])
    · refine loopK_m (_, i + 1) (topTo_s hi ‹_› (by simpa using ‹(!decide ((dGet D (k + i)).2 = 0)) = false›)) (by simp only; omega) ?_
      push_cast
      omega
    · rw [topTo_all hi ‹_›]
      (refine Fin2.fin ⟨[(1, .obj DiskO D)], ?_, ?_, ?_, Closes.refl _, ?_⟩
       · push_cast
       · push_cast
       · simp [idsM]
       · simp [tvL, TV.ids, SV.ids, LV.ids, idsV])
theorem Top_con : Con1 Cx.P 47 DiskO (.pair (.int .i64) (.pair (.int .i64) .unit)) (fun _ _ => True)
    (fun D x => [.int .u64 (topN D x.1 x.2.1).1, .int .i64 (topN D x.1 x.2.1).2]) (fun D _ => D) := ⟨isfn47, fun D x _ => Top_fn D x.1 x.2.1⟩
end Go.Proofs.Ytnmjcdlgfimnaaa
