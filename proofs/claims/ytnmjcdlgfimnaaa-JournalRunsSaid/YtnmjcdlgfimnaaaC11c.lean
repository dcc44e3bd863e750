/- Chapter 11: the next generation; a write. -/
import Derived.Test.YtnmjcdlgfimnaaaC11b
import Derived.Test.YtnmjcdlgfimnaaaS9t
namespace Go.Proofs.Ytnmjcdlgfimnaaa
def nextG (D : Qab) (k z : Int) : Int :=
 if (slRead D k z).2.2 = 0 ∧ (IntKind.u64.wrap ((topN D k (k + 2 * z)).1 + 1)).tmod 2 = (slRead D k z).2.1.tmod 2 then IntKind.u64.wrap (IntKind.u64.wrap ((topN D k (k + 2 * z)).1 + 1) + 1) else IntKind.u64.wrap ((topN D k (k + 2 * z)).1 + 1)
def slNext (D : Qab) (k z : Int) : Int × Int := if rightB D k z = true then (nextG D k z, 0) else (0, 111)
def slPutD (D : Qab) (k z : Int) (c : List Int) : Qab × Int := sPut D (k + z * (nextG D k z % 2)) (nextG D k z) (closeN c)
def slWrite (D : Qab) (k z : Int) (c : List Int) : Qab × Int × Int :=
 if rightB D k z = true ∧ spanN (closeN c).length ≠ 0 ∧ spanN (closeN c).length ≤ z then
  (if (slPutD D k z c).2 ≠ 0 then ((slPutD D k z c).1, 0, (slPutD D k z c).2)
   else if (dFlush (slPutD D k z c).1).2 ≠ 0 then ((dFlush (slPutD D k z c).1).1, 0, (dFlush (slPutD D k z c).1).2)
   else ((dFlush (slPutD D k z c).1).1, nextG D k z, 0))
 else (D, 0, 111)
section
set_option linter.unusedSimpArgs false
set_option linter.unusedVariables false
set_option maxRecDepth 20000
attribute [local irreducible] Qb3 Qa9 vcA Qbp Wc
set_option maxHeartbeats 8000000
theorem slNext_fn (D : Qab) (k z : Int) :
    Qcs Cx.P 59 [.l (.ptr 1 [] 0), .l (.int .i64 k), .l (.int .i64 z)] [(1, .obj DiskO D)] (tvL [.int .u64 (slNext D k z).1, .int .i64 (slNext D k z).2]) [(1, .obj DiskO D)] := by
 refine Spec_disk Qss fun hw hG => ?_
 have hbase := hw.many
 refine Qcs.go2 (E := Cx.env) (fn := Try.f59) (res := [_, _]) _ (Qc2.refl _) Try.func59 Qss rfl rfl (by simp [Qb1, SV.ids, LV.ids]) (by simp [Qao]) (by kernel_rfl) rfl ?_
 intro hf
 try push_cast at hf
 intro _
 cases hr : rightB D k z
 ·have e : slNext D k z = (0, 111) := by unfold slNext; rw [if_neg (by rw [hr]; simp)]
  rw [e]
  repeat' (first
 | (intro (K' : KT) hK'; push_cast; (repeat' refine And.intro ?_ ?_); all_goals (first | (apply hK'; clear hK' K') | (refine ⟨trivial, trivial, ?_⟩; apply hK'; clear hK' K') | (intro hb; (try push_cast at hb); all_goals (intros; apply hK'; clear hK' K')) | ((first | refine Qbr slRight_con (fun _ _ => rfl) ?_ | refine Qbr Top_con (fun _ _ => rfl) ?_ | refine Qbr slRead_con (fun _ _ => rfl) ?_); push_cast; (repeat' refine And.intro ?_ ?_); all_goals (first | (apply hK'; clear hK' K') | (intros; apply hK'; clear hK' K') | (clear hK' K'; first | omega | skip))) | (clear hK' K'; first | omega | skip)))
 | apply Qar | apply Qac | apply Qah | apply Qaj | apply Qau
 | apply Qap | apply Qax | apply Qas | apply Qam | apply Qaz | apply Qay
 | (refine Qaf ?_; push_cast) | apply Qag | refine Qaa (Qa3 _ (by omega) (by omega)) ?_ | refine Qaa (Qb0 _ (by omega) (by omega)) ?_ | refine Qaa (Qba _ (by omega) (by omega)) ?_ | refine Qaa (Qa5 _ (by omega) (by omega)) ?_
 | refine Qai rfl rfl ?_ | refine Qat rfl rfl ?_
 | (refine Qak (by push_cast; first | done | rfl) ?_ ?_ <;> intro hc <;> (try push_cast at hc))
 | refine Qaw rfl rfl rfl (by push_cast; first | done | rfl) ?_
 | refine Qav rfl rfl rfl (by push_cast; first | done | rfl) ?_ ?_
 | (intro (hc : (_ : Prop)); (try push_cast at hc)) | intro (hc : Qad) | intro (hc : Int) | intro (hc : Nat))
  ·(refine Qc9.fin ⟨[(1, .obj DiskO D)], ?_, ?_, ?_, Qbb.refl _, ?_⟩
    ·push_cast
    ·push_cast
    ·simp [Qao]
    ·simp [tvL, TV.ids, SV.ids, LV.ids, Qb1])
  all_goals (exfalso; have h9 := ‹(!rightB D k z) = false›; rw [hr] at h9; simp at h9)
 ·have hr2 := rightB_iff.1 hr
  have e : slNext D k z = (nextG D k z, 0) := by unfold slNext; rw [if_pos hr]
  have htop : (topN D k (k + 2 * z)).2 = 0 := (sTop_ok (D := D) (k + 2 * z - k).toNat k 0 hr2.1 (by omega)).1
  rw [e]
  repeat' (first
 | (intro (K' : KT) hK'; push_cast; (repeat' refine And.intro ?_ ?_); all_goals (first | (apply hK'; clear hK' K') | (refine ⟨trivial, trivial, ?_⟩; apply hK'; clear hK' K') | (intro hb; (try push_cast at hb); all_goals (intros; apply hK'; clear hK' K')) | ((first | refine Qbr slRight_con (fun _ _ => rfl) ?_ | refine Qbr Top_con (fun _ _ => rfl) ?_ | refine Qbr slRead_con (fun _ _ => rfl) ?_); push_cast; (repeat' refine And.intro ?_ ?_); all_goals (first | (apply hK'; clear hK' K') | (intros; apply hK'; clear hK' K') | (clear hK' K'; first | omega | skip))) | (clear hK' K'; first | omega | skip)))
 | apply Qar | apply Qac | apply Qah | apply Qaj | apply Qau
 | apply Qap | apply Qax | apply Qas | apply Qam | apply Qaz | apply Qay
 | (refine Qaf ?_; push_cast) | apply Qag | refine Qaa (Qa3 _ (by omega) (by omega)) ?_ | refine Qaa (Qb0 _ (by omega) (by omega)) ?_ | refine Qaa (Qba _ (by omega) (by omega)) ?_ | refine Qaa (Qa5 _ (by omega) (by omega)) ?_
 | refine Qai rfl rfl ?_ | refine Qat rfl rfl ?_
 | (refine Qak (by push_cast; first | done | rfl) ?_ ?_ <;> intro hc <;> (try push_cast at hc))
 | refine Qaw rfl rfl rfl (by push_cast; first | done | rfl) ?_
 | refine Qav rfl rfl rfl (by push_cast; first | done | rfl) ?_ ?_
 | (intro (hc : (_ : Prop)); (try push_cast at hc)) | intro (hc : Qad) | intro (hc : Int) | intro (hc : Nat))
  ·exfalso; rw [hr] at hc; simp at hc
  ·exfalso; rw [htop] at hc; simp at hc
  ·have e2 : nextG D k z = IntKind.u64.wrap (IntKind.u64.wrap ((topN D k (k + 2 * z)).1 + 1) + 1) := by unfold nextG; rw [if_pos ⟨‹_›, ‹_›⟩]
   rw [e2]
   (refine Qc9.fin ⟨[(1, .obj DiskO D)], ?_, ?_, ?_, Qbb.refl _, ?_⟩
    ·push_cast
    ·push_cast
    ·simp [Qao]
    ·simp [tvL, TV.ids, SV.ids, LV.ids, Qb1])
  ·have e2 : nextG D k z = IntKind.u64.wrap ((topN D k (k + 2 * z)).1 + 1) := by unfold nextG; rw [if_neg (fun h => absurd h.2 ‹_›)]
   rw [e2]
   (refine Qc9.fin ⟨[(1, .obj DiskO D)], ?_, ?_, ?_, Qbb.refl _, ?_⟩
    ·push_cast
    ·push_cast
    ·simp [Qao]
    ·simp [tvL, TV.ids, SV.ids, LV.ids, Qb1])
  ·have e2 : nextG D k z = IntKind.u64.wrap ((topN D k (k + 2 * z)).1 + 1) := by unfold nextG; rw [if_neg (fun h => absurd h.1 ‹_›)]
   rw [e2]
   (refine Qc9.fin ⟨[(1, .obj DiskO D)], ?_, ?_, ?_, Qbb.refl _, ?_⟩
    ·push_cast
    ·push_cast
    ·simp [Qao]
    ·simp [tvL, TV.ids, SV.ids, LV.ids, Qb1])
theorem slNext_con : Qkc Cx.P 59 DiskO (.pair (.int .i64) (.pair (.int .i64) .unit)) (fun _ _ => True)
    (fun D x => [.int .u64 (slNext D x.1 x.2.1).1, .int .i64 (slNext D x.1 x.2.1).2]) (fun D _ => D) := ⟨Qss, fun D x _ => slNext_fn D x.1 x.2.1⟩
end
end Go.Proofs.Ytnmjcdlgfimnaaa
