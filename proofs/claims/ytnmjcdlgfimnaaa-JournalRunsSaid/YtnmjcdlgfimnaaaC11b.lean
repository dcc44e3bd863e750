/- Chapter 11: what counts, read. -/
import Derived.Test.YtnmjcdlgfimnaaaC11
import Derived.Test.YtnmjcdlgfimnaaaC10d
namespace Go.Proofs.Ytnmjcdlgfimnaaa
def standS (D : Qab) (k z i : Int) (q : List Int × Int) : List Int × Int :=
 if (sRead D (k + z * i) (k + z * i + z)).2.2.2 = 0 ∧ (openN (sRead D (k + z * i) (k + z * i + z)).1).2 = true ∧ (sRead D (k + z * i) (k + z * i + z)).2.1.tmod 2 = i ∧ q.2 < (sRead D (k + z * i) (k + z * i + z)).2.1 then
  ((openN (sRead D (k + z * i) (k + z * i + z)).1).1, (sRead D (k + z * i) (k + z * i + z)).2.1) else q
def accS (D : Qab) (k z : Int) : Nat → List Int × Int
 | 0 => ([], 0)
 | n + 1 => standS D k z n (accS D k z n)
def slRead (D : Qab) (k z : Int) : List Int × Int × Int :=
 if rightB D k z = true then (if (accS D k z 2).2 = 0 then ([], 0, 111) else ((accS D k z 2).1, (accS D k z 2).2, 0)) else ([], 0, 111)
section
set_option linter.unusedSimpArgs false
set_option linter.unusedVariables false
set_option maxRecDepth 20000
attribute [local irreducible] Qb3 Qa9 vcA Qbp Wc
set_option maxHeartbeats 8000000
theorem slRead_fn (D : Qab) (k z : Int) :
    Qcs Cx.P 57 [.l (.ptr 1 [] 0), .l (.int .i64 k), .l (.int .i64 z)] [(1, .obj DiskO D)] (tvL [.dat (.slice (.int .u8)) (slRead D k z).1, .int .u64 (slRead D k z).2.1, .int .i64 (slRead D k z).2.2]) [(1, .obj DiskO D)] := by
 refine Spec_disk Qrn fun hw hG => ?_
 have hbase := hw.many
 refine Qcs.go2 (E := Cx.env) (fn := Try.f57) (res := [_, _, _]) _ (Qc2.refl _) Try.func57 Qrn rfl rfl (by simp [Qb1, SV.ids, LV.ids]) (by simp [Qao]) (by kernel_rfl) rfl ?_
 intro hf
 try push_cast at hf
 intro _
 repeat' (first
 | (intro (K' : KT) hK'; push_cast; (repeat' refine And.intro ?_ ?_); all_goals (first | (apply hK'; clear hK' K') | (refine ⟨trivial, trivial, ?_⟩; apply hK'; clear hK' K') | (intro hb; (try push_cast at hb); all_goals (intros; apply hK'; clear hK' K')) | ((first | refine Qbr slRight_con (fun _ _ => rfl) ?_); push_cast; (repeat' refine And.intro ?_ ?_); all_goals (first | (apply hK'; clear hK' K') | (intros; apply hK'; clear hK' K') | (clear hK' K'; first | omega | skip))) | (clear hK' K'; first | omega | skip)))
 | apply Qar | apply Qa0 | apply Qac | apply Qah | apply Qaj | apply Qau
 | apply Qap | apply Qax | apply Qas | apply Qaq | apply Qa1 | apply Qal | apply Qae rfl | apply Qa6 | apply Qa7 | apply Qam | apply Qaz | apply Qay
 | (refine Qaf ?_; push_cast) | apply Qag | refine Qaa (Qa3 _ (by omega) (by omega)) ?_ | refine Qaa (Qb0 _ (by omega) (by omega)) ?_ | refine Qaa (Qba _ (by omega) (by omega)) ?_ | refine Qaa (Qa5 _ (by omega) (by omega)) ?_
 | refine Qai rfl rfl ?_ | refine Qat rfl rfl ?_
 | (refine Qak (by push_cast; first | done | rfl) ?_ ?_ <;> intro hc <;> (try push_cast at hc))
 | refine Qaw rfl rfl rfl (by push_cast; first | done | rfl) ?_
 | refine Qav rfl rfl rfl (by push_cast; first | done | rfl) ?_ ?_
 | (intro (hc : (_ : Prop)); (try push_cast at hc)) | intro (hc : Qad) | intro (hc : Int) | intro (hc : Nat))
 ·have hr : rightB D k z = false := by simpa using hc
  have e : slRead D k z = ([], 0, 111) := by unfold slRead; rw [if_neg (by rw [hr]; simp)]
  rw [e]
  (refine Qc9.fin ⟨[(1, .obj DiskO D)], ?_, ?_, ?_, Qbb.refl _, ?_⟩
   ·push_cast
   ·push_cast
   ·simp [Qao]
   ·simp [tvL, TV.ids, SV.ids, LV.ids, Qb1])
 ·have hr : rightB D k z = true := by simpa using hc
  have hr2 := rightB_iff.1 hr
  refine loop_nild (.int .u8) 9 rfl ?_
  push_cast
  refine Qbu [9, 10, 11, 12, 13, 14, 15, 16, 17, 18, 24, 25, 26, 27, 28, 29, 30, 31, 32, 33, 34, 35, 36, 37, 38, 39, 40, 41, 42, 43, 44, 45, 46, 47, 48, 49, 50, 51, 52, 53, 54, 55, 56, 57, 58, 59, 60, 61, 62, 63, 64, 65] [30, 37, 44] (fun (i : Nat) => i ≤ 2) (fun (i : Nat) => [(24, .one (.l (.int .u64 i))), (9, .one (.l (.dat (.slice (.int .u8)) (accS D k z i).1))), (10, .one (.l (.int .u64 (accS D k z i).2)))]) (fun (i : Nat) => []) (fun (i : Nat) => 2 - i) 0 ?_ (by push_cast; first | done | rfl) (by push_cast; first | done | rfl) ?_ ?_
  ·omega
  ·push_cast
   exact ⟨rfl, rfl⟩
  ·intro i hi
   push_cast
   intro hg
   have hz : 0 ≤ z * ((i : Int) % 2) ∧ z * ((i : Int) % 2) ≤ z := by
    have h3 : (i : Int) % 2 = 0 ∨ (i : Int) % 2 = 1 := by omega
    rcases h3 with h | h <;> rw [h] <;> omega
   have hle := sRead_le hG (k + z * ((i : Int) % 2)) (k + z * ((i : Int) % 2) + z)
   have hstep : (i : Int) < 2 → accS D k z (i + 1) = if (sRead D (k + z * ((i : Int) % 2)) (k + z * ((i : Int) % 2) + z)).2.2.2 = 0 ∧ (openN (sRead D (k + z * ((i : Int) % 2)) (k + z * ((i : Int) % 2) + z)).1).2 = true ∧ (sRead D (k + z * ((i : Int) % 2)) (k + z * ((i : Int) % 2) + z)).2.1.tmod 2 = i ∧ (accS D k z i).2 < (sRead D (k + z * ((i : Int) % 2)) (k + z * ((i : Int) % 2) + z)).2.1 then ((openN (sRead D (k + z * ((i : Int) % 2)) (k + z * ((i : Int) % 2) + z)).1).1, (sRead D (k + z * ((i : Int) % 2)) (k + z * ((i : Int) % 2) + z)).2.1) else accS D k z i := fun h => by
    have em : (i : Int) % 2 = i := by omega
    rw [em]
    rfl
   repeat' (first
 | (intro (K' : KT) hK'; push_cast; (repeat' refine And.intro ?_ ?_); all_goals (first | (apply hK'; clear hK' K') | (refine ⟨trivial, trivial, ?_⟩; apply hK'; clear hK' K') | (intro hb; (try push_cast at hb); all_goals (intros; apply hK'; clear hK' K')) | ((first | refine Qbi slPlace_con (fun _ => rfl) ?_ | refine Qbr Read_con (fun _ _ => rfl) ?_ | refine Qbg crcOpen_con (fun _ => rfl) ?_); push_cast; (repeat' refine And.intro ?_ ?_); all_goals (first | (apply hK'; clear hK' K') | (intros; apply hK'; clear hK' K') | (clear hK' K'; first | omega | skip))) | (clear hK' K'; first | omega | skip)))
 | apply Qar | apply Qa0 | apply Qac | apply Qah | apply Qaj | apply Qau
 | apply Qap | apply Qax | apply Qas | apply Qaq | apply Qa1 | apply Qal | apply Qae rfl | apply Qa6 | apply Qa7 | apply Qam | apply Qaz | apply Qay
 | (refine Qaf ?_; push_cast) | apply Qag | refine Qaa (Qa3 _ (by omega) (by omega)) ?_ | refine Qaa (Qb0 _ (by omega) (by omega)) ?_ | refine Qaa (Qba _ (by omega) (by omega)) ?_ | refine Qaa (Qa5 _ (by omega) (by omega)) ?_
 | refine Qai rfl rfl ?_ | refine Qat rfl rfl ?_
 | (refine Qak (by push_cast; first | done | rfl) ?_ ?_ <;> intro hc <;> (try push_cast at hc))
 | refine Qaw rfl rfl rfl (by push_cast; first | done | rfl) ?_
 | refine Qav rfl rfl rfl (by push_cast; first | done | rfl) ?_ ?_
 | (intro (hc : (_ : Prop)); (try push_cast at hc)) | intro (hc : Qad) | intro (hc : Int) | intro (hc : Nat))
   ·refine Qbv (i + 1) (by omega) (by omega) ?_
    push_cast
    rw [hstep ‹_›, if_pos ⟨‹_›, ‹_›, ‹_›, ‹_›⟩]
    first | done | exact ⟨rfl, rfl⟩
   ·refine Qbv (i + 1) (by omega) (by omega) ?_
    push_cast
    rw [hstep ‹_›, if_neg (fun h => absurd h.2.2.2 ‹_›)]
    first | done | exact ⟨rfl, rfl⟩
   ·refine Qbv (i + 1) (by omega) (by omega) ?_
    push_cast
    rw [hstep ‹_›, if_neg (fun h => absurd h.2.2.1 ‹_›)]
    first | done | exact ⟨rfl, rfl⟩
   ·refine Qbv (i + 1) (by omega) (by omega) ?_
    push_cast
    rw [hstep ‹_›, if_neg (fun h => absurd h.2.1 (by simp [‹(openN (sRead D (k + z * ((i : Int) % 2)) (k + z * ((i : Int) % 2) + z)).1).2 = false›]))]
    first | done | exact ⟨rfl, rfl⟩
   ·refine Qbv (i + 1) (by omega) (by omega) ?_
    push_cast
    rw [hstep ‹_›, if_neg (fun h => absurd h.1 ‹_›)]
    first | done | exact ⟨rfl, rfl⟩
   ·have e2 : i = 2 := by omega
    subst e2
    have e : slRead D k z = ([], 0, 111) := by unfold slRead; rw [if_pos hr, if_pos ‹_›]
    rw [e]
    (refine Qc9.fin ⟨[(1, .obj DiskO D)], ?_, ?_, ?_, Qbb.refl _, ?_⟩
     ·push_cast
     ·push_cast
     ·simp [Qao]
     ·simp [tvL, TV.ids, SV.ids, LV.ids, Qb1])
   ·have e2 : i = 2 := by omega
    subst e2
    have e : slRead D k z = ((accS D k z 2).1, (accS D k z 2).2, 0) := by unfold slRead; rw [if_pos hr, if_neg ‹_›]
    rw [e]
    (refine Qc9.fin ⟨[(1, .obj DiskO D)], ?_, ?_, ?_, Qbb.refl _, ?_⟩
     ·push_cast
     ·push_cast
     ·simp [Qao]
     ·simp [tvL, TV.ids, SV.ids, LV.ids, Qb1])
theorem slRead_con : Qkc Cx.P 57 DiskO (.pair (.int .i64) (.pair (.int .i64) .unit)) (fun _ _ => True)
    (fun D x => [.dat (.slice (.int .u8)) (slRead D x.1 x.2.1).1, .int .u64 (slRead D x.1 x.2.1).2.1, .int .i64 (slRead D x.1 x.2.1).2.2]) (fun D _ => D) := ⟨Qrn, fun D x _ => slRead_fn D x.1 x.2.1⟩
end
end Go.Proofs.Ytnmjcdlgfimnaaa
