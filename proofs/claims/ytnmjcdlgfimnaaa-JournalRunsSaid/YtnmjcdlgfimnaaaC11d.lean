/- Chapter 11: a write. -/
import Derived.Test.YtnmjcdlgfimnaaaC11c
namespace Go.Proofs.Ytnmjcdlgfimnaaa
theorem nextG_bd (D : Qab) (k z : Int) : 0 ≤ nextG D k z ∧ nextG D k z ≤ 18446744073709551615 := by
 have h := fun n => Qdu .u64 n
 have h2 : ∀ n, 0 ≤ IntKind.u64.wrap n ∧ IntKind.u64.wrap n ≤ 18446744073709551615 := fun n => (Qrm _).1 (h n)
 unfold nextG
 split
 ·exact h2 _
 ·exact h2 _
section
set_option linter.unusedSimpArgs false
set_option linter.unusedVariables false
set_option maxRecDepth 20000
attribute [local irreducible] Qb3 Qa9 vcA Qbp Wc
set_option maxHeartbeats 8000000
theorem slWrite_fn (D : Qab) (k z : Int) (c : List Int) (hq : D.Queue.length ≤ 900000) (hc0 : c.length ≤ 900000) :
    Qcs Cx.P 58 [.l (.ptr 1 [] 0), .l (.int .i64 k), .l (.int .i64 z), .l (.dat (.slice (.int .u8)) c)] [(1, .obj DiskO D)] (tvL [.int .u64 (slWrite D k z c).2.1, .int .i64 (slWrite D k z c).2.2]) [(1, .obj DiskO (slWrite D k z c).1)] := by
 refine Spec_disk Qsm fun hw hG => ?_
 have hbase := hw.many
 have hsp := spanN_bd (closeN c).length
 have hng := nextG_bd D k z
 refine Qcs.go2 (E := Cx.env) (fn := Try.f58) (res := [_, _]) _ (Qc2.refl _) Try.func58 Qsm rfl rfl (by simp [Qb1, SV.ids, LV.ids]) (by simp [Qao]) (by kernel_rfl) rfl ?_
 intro hf
 try push_cast at hf
 intro _
 have h111 : ¬ (rightB D k z = true ∧ spanN (closeN c).length ≠ 0 ∧ spanN (closeN c).length ≤ z) → slWrite D k z c = (D, 0, 111) := fun h => by unfold slWrite; rw [if_neg h]
 cases hr : rightB D k z
 ·have e : slWrite D k z c = (D, 0, 111) := h111 (by rw [hr]; simp)
  rw [e]
  repeat' (first
 | (intro (K' : KT) hK'; push_cast; (repeat' refine And.intro ?_ ?_); all_goals (first | (apply hK'; clear hK' K') | (refine ⟨trivial, trivial, ?_⟩; apply hK'; clear hK' K') | (intro hb; (try push_cast at hb); all_goals (intros; apply hK'; clear hK' K')) | ((first | refine Qbg crcClose_con (fun _ => rfl) ?_ | refine Qbi span_con (fun _ => rfl) ?_ | refine Qbr slRight_con (fun _ _ => rfl) ?_ | refine Qbr slNext_con (fun _ _ => rfl) ?_ | refine Qbi slPlace_con (fun _ => rfl) ?_ | refine Qbr Write_con (fun _ _ => rfl) ?_ | refine Qbr Flush_con (fun _ _ => rfl) ?_); push_cast; (repeat' refine And.intro ?_ ?_); all_goals (first | (apply hK'; clear hK' K') | (intros; apply hK'; clear hK' K') | (clear hK' K'; first | omega | skip))) | (clear hK' K'; first | omega | skip)))
 | apply Qar | apply Qac | apply Qah | apply Qaj | apply Qau
 | apply Qap | apply Qax | apply Qas | apply Qam | apply Qaz | apply Qay
 | (refine Qaf ?_; push_cast) | apply Qag | refine Qaa (Qa3 _ (by omega) (by omega)) ?_ | refine Qaa (Qb0 _ (by omega) (by omega)) ?_ | refine Qaa (Qba _ (by omega) (by omega)) ?_ | refine Qaa (Qa5 _ (by omega) (by omega)) ?_
 | refine Qai rfl rfl ?_ | refine Qat rfl rfl ?_
 | (refine Qak (by push_cast; first | done | rfl) ?_ ?_ <;> intro hc <;> (try push_cast at hc))
 | refine Qaw rfl rfl rfl (by push_cast; first | done | rfl) ?_
 | refine Qav rfl rfl rfl (by push_cast; first | done | rfl) ?_ ?_
 | (intro (hc : (_ : Prop)); (try push_cast at hc)) | intro (hc : Qad) | intro (hc : Int) | intro (hc : Nat))
  all_goals (try (exfalso; have h9 := ‹(!rightB D k z) = false›; rw [hr] at h9; simp at h9; done))
  ·(refine Qc9.fin ⟨[(1, .obj DiskO D)], ?_, ?_, ?_, Qbb.refl _, ?_⟩
    ·push_cast
    ·push_cast
    ·simp [Qao]
    ·simp [tvL, TV.ids, SV.ids, LV.ids, Qb1])
  all_goals trace_state
 ·have hr2 := rightB_iff.1 hr
  have hnx : slNext D k z = (nextG D k z, 0) := by unfold slNext; rw [if_pos hr]
  repeat' (first
 | (intro (K' : KT) hK'; push_cast; (repeat' refine And.intro ?_ ?_); all_goals (first | (apply hK'; clear hK' K') | (refine ⟨trivial, trivial, ?_⟩; apply hK'; clear hK' K') | (intro hb; (try push_cast at hb); all_goals (intros; apply hK'; clear hK' K')) | ((first | refine Qbg crcClose_con (fun _ => rfl) ?_ | refine Qbi span_con (fun _ => rfl) ?_ | refine Qbr slRight_con (fun _ _ => rfl) ?_ | refine Qbr slNext_con (fun _ _ => rfl) ?_); push_cast; (repeat' refine And.intro ?_ ?_); all_goals (first | (apply hK'; clear hK' K') | (intros; apply hK'; clear hK' K') | (clear hK' K'; first | omega | skip))) | (clear hK' K'; first | omega | skip)))
 | apply Qar | refine Qbo (id := 5) ?_ | apply Qac | apply Qah | apply Qaj | apply Qau
 | apply Qap | apply Qax | apply Qas | apply Qam | apply Qaz | apply Qay
 | (refine Qaf ?_; push_cast) | apply Qag | refine Qaa (Qa3 _ (by omega) (by omega)) ?_ | refine Qaa (Qb0 _ (by omega) (by omega)) ?_ | refine Qaa (Qba _ (by omega) (by omega)) ?_ | refine Qaa (Qa5 _ (by omega) (by omega)) ?_
 | refine Qai rfl rfl ?_ | refine Qat rfl rfl ?_
 | (refine Qak (by push_cast; first | done | rfl) ?_ ?_ <;> intro hc <;> (try push_cast at hc))
 | refine Qaw rfl rfl rfl (by push_cast; first | done | rfl) ?_
 | refine Qav rfl rfl rfl (by push_cast; first | done | rfl) ?_ ?_
 | (intro (hc : (_ : Prop)); (try push_cast at hc)) | intro (hc : Qad) | intro (hc : Int) | intro (hc : Nat))
  ·have h9 : slWrite D k z c = (D, 0, 111) := h111 (by intro h; omega)
   rw [h9]
   (refine Qc9.fin ⟨[(1, .obj DiskO D)], ?_, ?_, ?_, Qbb.refl _, ?_⟩
    ·push_cast
    ·push_cast
    ·simp [Qao]
    ·simp [tvL, TV.ids, SV.ids, LV.ids, Qb1])
  ·rw [hnx]
   apply Qc5
   push_cast
   repeat' (first
 | (intro (K' : KT) hK'; push_cast; (repeat' refine And.intro ?_ ?_); all_goals (first | (apply hK'; clear hK' K') | (refine ⟨trivial, trivial, ?_⟩; apply hK'; clear hK' K') | (intro hb; (try push_cast at hb); all_goals (intros; apply hK'; clear hK' K')) | ((first | refine Qbi slPlace_con (fun _ => rfl) ?_ | refine Qbr Write_con (fun _ _ => rfl) ?_ | refine Qbr Flush_con (fun _ _ => rfl) ?_); push_cast; (repeat' refine And.intro ?_ ?_); all_goals (first | (apply hK'; clear hK' K') | (intros; apply hK'; clear hK' K') | (clear hK' K'; first | omega | skip))) | (clear hK' K'; first | omega | skip)))
 | apply Qar | apply Qac | apply Qah | apply Qaj | apply Qau
 | apply Qap | apply Qax | apply Qas | apply Qam | apply Qaz | apply Qay
 | (refine Qaf ?_; push_cast) | apply Qag | refine Qaa (Qa3 _ (by omega) (by omega)) ?_ | refine Qaa (Qb0 _ (by omega) (by omega)) ?_ | refine Qaa (Qba _ (by omega) (by omega)) ?_ | refine Qaa (Qa5 _ (by omega) (by omega)) ?_
 | refine Qai rfl rfl ?_ | refine Qat rfl rfl ?_
 | (refine Qak (by push_cast; first | done | rfl) ?_ ?_ <;> intro hc <;> (try push_cast at hc))
 | refine Qaw rfl rfl rfl (by push_cast; first | done | rfl) ?_
 | refine Qav rfl rfl rfl (by push_cast; first | done | rfl) ?_ ?_
 | (intro (hc : (_ : Prop)); (try push_cast at hc)) | intro (hc : Qad) | intro (hc : Int) | intro (hc : Nat))
   ·have ha : rightB D k z = true ∧ spanN (closeN c).length ≠ 0 ∧ spanN (closeN c).length ≤ z := ⟨hr, by omega, by omega⟩
    have h9 : slWrite D k z c = ((slPutD D k z c).1, 0, (slPutD D k z c).2) := by unfold slWrite; rw [if_pos ha, if_pos (by unfold slPutD; simpa using hc)]
    rw [h9]
    unfold slPutD
    (refine Qc9.fin ⟨[(1, .obj DiskO (sPut D (k + z * (nextG D k z % 2)) (nextG D k z) (closeN c)).1)], ?_, ?_, ?_, Qbb.refl _, ?_⟩
     ·push_cast
     ·push_cast
     ·simp [Qao]
     ·simp [tvL, TV.ids, SV.ids, LV.ids, Qb1])
   ·have ha : rightB D k z = true ∧ spanN (closeN c).length ≠ 0 ∧ spanN (closeN c).length ≤ z := ⟨hr, by omega, by omega⟩
    have h9 : slWrite D k z c = ((dFlush (slPutD D k z c).1).1, 0, (dFlush (slPutD D k z c).1).2) := by
     unfold slWrite; rw [if_pos ha, if_neg (by unfold slPutD; have h7 := ‹(!decide ((sPut D (k + z * (nextG D k z % 2)) (nextG D k z) (closeN c)).2 = 0)) = false›; simpa using h7), if_pos (by unfold slPutD; simpa using hc)]
    rw [h9]
    unfold slPutD
    (refine Qc9.fin ⟨[(1, .obj DiskO (dFlush (sPut D (k + z * (nextG D k z % 2)) (nextG D k z) (closeN c)).1).1)], ?_, ?_, ?_, Qbb.refl _, ?_⟩
     ·push_cast
     ·push_cast
     ·simp [Qao]
     ·simp [tvL, TV.ids, SV.ids, LV.ids, Qb1])
   ·have ha : rightB D k z = true ∧ spanN (closeN c).length ≠ 0 ∧ spanN (closeN c).length ≤ z := ⟨hr, by omega, by omega⟩
    have h9 : slWrite D k z c = ((dFlush (slPutD D k z c).1).1, nextG D k z, 0) := by
     unfold slWrite; rw [if_pos ha, if_neg (by unfold slPutD; have h7 := ‹(!decide ((sPut D (k + z * (nextG D k z % 2)) (nextG D k z) (closeN c)).2 = 0)) = false›; simpa using h7), if_neg (by unfold slPutD; simpa using hc)]
    rw [h9]
    unfold slPutD
    (refine Qc9.fin ⟨[(1, .obj DiskO (dFlush (sPut D (k + z * (nextG D k z % 2)) (nextG D k z) (closeN c)).1).1)], ?_, ?_, ?_, Qbb.refl _, ?_⟩
     ·push_cast
     ·push_cast
     ·simp [Qao]
     ·simp [tvL, TV.ids, SV.ids, LV.ids, Qb1])
  ·have h9 : slWrite D k z c = (D, 0, 111) := h111 (by intro h; omega)
   rw [h9]
   (refine Qc9.fin ⟨[(1, .obj DiskO D)], ?_, ?_, ?_, Qbb.refl _, ?_⟩
    ·push_cast
    ·push_cast
    ·simp [Qao]
    ·simp [tvL, TV.ids, SV.ids, LV.ids, Qb1])
  all_goals (exfalso; have h9 := ‹(!rightB D k z) = true›; rw [hr] at h9; simp at h9)
theorem slWrite_con : Qkc Cx.P 58 DiskO (.pair (.int .i64) (.pair (.int .i64) (.pair (.slice (.int .u8)) .unit))) (fun D x => D.Queue.length ≤ 900000 ∧ x.2.2.1.length ≤ 900000)
    (fun D x => [.int .u64 (slWrite D x.1 x.2.1 x.2.2.1).2.1, .int .i64 (slWrite D x.1 x.2.1 x.2.2.1).2.2]) (fun D x => (slWrite D x.1 x.2.1 x.2.2.1).1) := ⟨Qsm, fun D x h => slWrite_fn D x.1 x.2.1 x.2.2.1 h.1 h.2⟩
end
end Go.Proofs.Ytnmjcdlgfimnaaa
