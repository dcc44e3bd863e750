/- Layer 7 as the code has it: bytes with what a register says of them. -/
import Derived.Test.YtnmjcdlgfimnaaaC10
import Derived.Test.YtnmjcdlgfimnaaaB1
namespace Go.Proofs.Ytnmjcdlgfimnaaa
set_option linter.unusedSimpArgs false
set_option linter.unusedVariables false
set_option maxRecDepth 20000
attribute [local irreducible] Qb3 Qa9 vcA Qbp Wc
set_option maxHeartbeats 8000000
def openN (b : List Int) : List Int × Bool := if (b.length : Int) - 4 < 0 then ([], false) else if crcN (b.take (b.length - 4)) = b.drop (b.length - 4) then (b.take (b.length - 4), true) else ([], false)
theorem open_cmp {b : List Int} (h : ¬ (b.length : Int) - 4 < 0) : (List.take 4 (tailN (sumN (addN 4294967295 (List.drop 0 (List.take ((b.length : Int) - 4).toNat b))))) = List.take 4 (List.drop ((b.length : Int) - 4).toNat (List.take b.length b))) = (crcN (b.take (b.length - 4)) = b.drop (b.length - 4)) := by
 have et : ((b.length : Int) - 4).toNat = b.length - 4 := by omega
 rw [et, List.take_length, List.drop_zero]
 have e2 : List.take 4 (tailN (sumN (addN 4294967295 (List.take (b.length - 4) b)))) = crcN (b.take (b.length - 4)) := List.take_of_length_le (by rw [tailN_len]; exact Nat.le_refl _)
 have e3 : List.take 4 (List.drop (b.length - 4) b) = List.drop (b.length - 4) b := List.take_of_length_le (by rw [List.length_drop]; omega)
 rw [e2, e3]
theorem open_cut {b : List Int} (h : ¬ (b.length : Int) - 4 < 0) : List.drop 0 (List.take ((b.length : Int) - 4).toNat b) = b.take (b.length - 4) := by
 have et : ((b.length : Int) - 4).toNat = b.length - 4 := by omega
 rw [et, List.drop_zero]
theorem crcOpen_fn (b : List Int) (hpre : b.length ≤ 1000000) : Qck Cx.P 97 [.dat (.slice (.int .u8)) b] [.dat (.slice (.int .u8)) (openN b).1, .bool (openN b).2] := by
 refine Qck.go2 (E := Cx.env) (fn := Try.f97) (res := [_, _]) Try.func97 Qtl rfl rfl rfl (by kernel_rfl) rfl ?_
 push_cast
 try intro hf
 repeat' (first
 | (intro (K' : KT) hK'; push_cast; (repeat' refine And.intro ?_ ?_); all_goals (first | (apply hK'; clear hK' K') | (refine ⟨trivial, trivial, ?_⟩; apply hK'; clear hK' K') | (intro hb; (try push_cast at hb); all_goals (intros; apply hK'; clear hK' K')) | ((first | refine Qbi crcStart_con (fun _ => rfl) ?_ | refine Qbi crcAdd_con (fun _ => rfl) ?_ | refine Qbi crcSum_con (fun _ => rfl) ?_ | refine Qbg crcTail_con (fun _ => rfl) ?_); push_cast; (repeat' refine And.intro ?_ ?_); all_goals (first | (apply hK'; clear hK' K') | (intros; apply hK'; clear hK' K') | (clear hK' K'; first | omega | skip))) | (clear hK' K'; first | omega | skip)))
 | apply Qar | apply Qac | apply Qah | apply Qaj | apply Qau
 | apply Qap | apply Qax | apply Qas | apply Qam | apply Qaz | apply Qay
 | (refine Qaf ?_; push_cast) | apply Qag | refine Qaa (Qa3 _ (by omega) (by omega)) ?_ | refine Qaa (Qb0 _ (by omega) (by omega)) ?_ | refine Qaa (Qba _ (by omega) (by omega)) ?_ | refine Qaa (Qa5 _ (by omega) (by omega)) ?_
 | refine Qai rfl rfl ?_ | refine Qat rfl rfl ?_
 | (refine Qak (by push_cast; first | done | rfl) ?_ ?_ <;> intro hc <;> (try push_cast at hc))
 | refine Qaw rfl rfl rfl (by push_cast; first | done | rfl) ?_
 | refine Qav rfl rfl rfl (by push_cast; first | done | rfl) ?_ ?_
 | refine Qbf (id := 2) [0, 1, 2, 4, 5, 6, 12, 13, 14, 15, 16] [] [0] (.or 3 (.or 7 (.or 8 (.or 9 (.free 10 (.or 11 (.free 17 (.free 18 (.done))) (.stop))) (.stop)) (.stop)) (.stop)) (.stop)) wide (by kernel_rfl) ?_
 | apply Qby | apply Qbk | apply Qbn
 | refine Qbx rfl rfl rfl ?_ | refine Qbl rfl rfl rfl ?_
 | (refine Qbm rfl rfl rfl rfl ?_ ?_; rotate_left) | (refine Qbe rfl rfl rfl rfl ?_ ?_; rotate_left)
 | (refine Qbz rfl rfl rfl rfl ?_ ?_; rotate_left; focus (intro K' hK'; push_cast; (repeat' refine And.intro ?_ ?_); all_goals (first | (refine hK' _ _ _ _ _ (by push_cast) (by push_cast; first | done | rfl) ?_; clear hK' K') | ((first | refine Qbi crcStart_con (fun _ => rfl) ?_ | refine Qbi crcAdd_con (fun _ => rfl) ?_ | refine Qbi crcSum_con (fun _ => rfl) ?_ | refine Qbg crcTail_con (fun _ => rfl) ?_); push_cast; (repeat' refine And.intro ?_ ?_); all_goals (first | (refine hK' _ _ _ _ _ (by push_cast) (by push_cast; first | done | rfl) ?_; clear hK' K') | (intros; refine hK' _ _ _ _ _ (by push_cast) (by push_cast; first | done | rfl) ?_; clear hK' K') | (clear hK' K'; first | omega | skip))) | (clear hK' K'; first | omega | skip))))
 | (refine Qec rfl rfl rfl rfl ?_ ?_; rotate_left; focus (intro K' hK'; push_cast; (repeat' refine And.intro ?_ ?_); all_goals (first | (refine hK' _ _ _ _ _ (by push_cast) (by push_cast; first | done | rfl) ?_; clear hK' K') | ((first | refine Qbi crcStart_con (fun _ => rfl) ?_ | refine Qbi crcAdd_con (fun _ => rfl) ?_ | refine Qbi crcSum_con (fun _ => rfl) ?_ | refine Qbg crcTail_con (fun _ => rfl) ?_); push_cast; (repeat' refine And.intro ?_ ?_); all_goals (first | (refine hK' _ _ _ _ _ (by push_cast) (by push_cast; first | done | rfl) ?_; clear hK' K') | (intros; refine hK' _ _ _ _ _ (by push_cast) (by push_cast; first | done | rfl) ?_; clear hK' K') | (clear hK' K'; first | omega | skip))) | (clear hK' K'; first | omega | skip))))
 | (refine Qdv rfl rfl rfl rfl (by push_cast; first | done | rfl) ?_)
 | refine Qdt rfl rfl rfl rfl (by push_cast; first | done | rfl) ?_ ?_
 | (refine Qed rfl rfl rfl rfl (by push_cast; first | done | rfl) ?_ ?_)
 | (refine Qeb rfl rfl rfl rfl rfl (by push_cast; first | done | rfl) ?_ ?_ ?_; focus (intro hc; (try push_cast at hc); all_goals (intro K' hK'; push_cast; (repeat' refine And.intro ?_ ?_); all_goals (first | (refine hK' _ _ _ _ _ (by push_cast) (by push_cast; first | done | rfl) ?_; clear hK' K') | ((first | refine Qbi crcStart_con (fun _ => rfl) ?_ | refine Qbi crcAdd_con (fun _ => rfl) ?_ | refine Qbi crcSum_con (fun _ => rfl) ?_ | refine Qbg crcTail_con (fun _ => rfl) ?_); push_cast; (repeat' refine And.intro ?_ ?_); all_goals (first | (refine hK' _ _ _ _ _ (by push_cast) (by push_cast; first | done | rfl) ?_; clear hK' K') | (intros; refine hK' _ _ _ _ _ (by push_cast) (by push_cast; first | done | rfl) ?_; clear hK' K') | (clear hK' K'; first | omega | skip))) | (clear hK' K'; first | omega | skip)))))
 | refine Qfd rfl rfl rfl rfl rfl (by push_cast; first | done | rfl) ?_ ?_ ?_
 | refine Qcc rfl rfl rfl rfl (by push_cast; first | done | rfl) ?_
 | refine Qcd rfl rfl rfl rfl (by push_cast; first | done | rfl) ?_ ?_
 | (intro (hc : (_ : Prop)); (try push_cast at hc)) | intro (hc : Qad) | intro (hc : Int) | intro (hc : Nat))
 ·rw [List.take_length, List.length_drop]; omega
 ·exact Nat.le_refl _
 ·unfold openN
  rw [if_neg ‹_›, if_neg]
  ·exact ⟨rfl, rfl⟩
  ·intro h
   rw [← open_cmp ‹_›] at h
   rw [decide_eq_true h] at hc
   simp at hc
 ·rw [open_cut ‹_›, List.length_take]; omega
 ·unfold openN
  rw [if_neg ‹_›, if_pos, open_cut ‹_›]
  ·exact ⟨rfl, rfl⟩
  ·rw [← open_cmp ‹_›]
   refine Classical.byContradiction fun h => ?_
   rw [decide_eq_false h] at hc
   simp at hc
 ·unfold openN
  rw [if_pos ‹_›]
  exact ⟨rfl, rfl⟩
theorem crcOpen_con : Con Cx.P 97 (.pair (.slice (.int .u8)) (.unit)) (fun x => (fun (b : List Int) => b.length ≤ 1000000) x.1) (fun x => (fun (b : List Int) => [.dat (.slice (.int .u8)) (openN b).1, .bool (openN b).2]) x.1) := ⟨Qtl, fun x h => crcOpen_fn x.1 h⟩
theorem open_close (b : List Int) : openN (closeN b) = (b, true) := by
 have hl : (closeN b).length = b.length + 4 := by simp [closeN, crcN_len]
 have e : (closeN b).length - 4 = b.length := by omega
 unfold openN
 rw [if_neg (by omega), e]
 have e1 : (closeN b).take b.length = b := by simp [closeN]
 have e2 : (closeN b).drop b.length = crcN b := by simp [closeN]
 rw [e1, e2, if_pos rfl]
end Go.Proofs.Ytnmjcdlgfimnaaa
