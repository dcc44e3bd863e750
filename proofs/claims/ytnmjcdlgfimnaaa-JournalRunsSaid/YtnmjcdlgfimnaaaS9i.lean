/- Chapter 9: the code's Read. -/
import Derived.Test.YtnmjcdlgfimnaaaS1
import Derived.Test.YtnmjcdlgfimnaaaS9g
import Derived.Test.YtnmjcdlgfimnaaaS2
namespace Go.Proofs.Ytnmjcdlgfimnaaa
set_option linter.unusedSimpArgs false
set_option linter.unusedVariables false
set_option maxRecDepth 20000
attribute [local irreducible] Qb3 Qa9 vcA Qbp Wc
set_option maxHeartbeats 8000000
theorem Read_fn (D : Qab) (k e : Int) :
    Qcs Cx.P 37 [.l (.ptr 1 [] 0), .l (.int .i64 k), .l (.int .i64 e)] [(1, .obj DiskO D)] (tvL [.dat (.slice (.int .u8)) (sRead D k e).1, .int .u64 (sRead D k e).2.1, .int .i64 (sRead D k e).2.2.1, .int .i64 (sRead D k e).2.2.2]) [(1, .obj DiskO D)] := by
 refine Spec_disk Qrg fun hw hG => ?_
 have hbase := hw.many
 refine Qcs.go2 (E := Cx.env) (fn := Try.f37) (res := [_, _, _, _]) _ (Qc2.refl _) Try.func37 Qrg rfl rfl (by simp [Qb1, SV.ids, LV.ids]) (by simp [Qao]) (by kernel_rfl) rfl ?_
 intro hf
 try push_cast at hf
 intro _
 have h81 : (k < 0 ∨ (D.Base.length : Int) < e) → sRead D k e = ([], 0, 0, 81) := fun h => by unfold sRead; rw [if_pos h]
 have h91 : ¬ k < 0 → ¬ (D.Base.length : Int) < e → (e ≤ k ∨ ¬ RdOk D k e) → sRead D k e = ([], 0, 0, 91) := fun h1 h2 h => by
  unfold sRead
  rw [if_neg (by omega)]
  rcases h with h | h
  ·rw [if_pos h]
  ·rw [if_neg h]; split <;> rfl
 have hx0 := (hG k).at 1
 repeat' (first
 | (intro (K' : KT) hK'; push_cast; (repeat' refine And.intro ?_ ?_); all_goals (first | (apply hK'; clear hK' K') | (refine ⟨trivial, trivial, ?_⟩; apply hK'; clear hK' K') | (intro hb; (try push_cast at hb); all_goals (intros; apply hK'; clear hK' K')) | ((first | refine Qbr Size_con (fun _ _ => rfl) ?_ | refine Qbr Get_con (fun _ _ => rfl) ?_ | refine Qbi stNumber_con (fun _ => rfl) ?_); push_cast; (repeat' refine And.intro ?_ ?_); all_goals (first | (apply hK'; clear hK' K') | (intros; apply hK'; clear hK' K') | (clear hK' K'; first | omega | skip))) | (clear hK' K'; first | omega | skip)))
 | apply Qar | apply Qa0 | apply Qac | apply Qah | apply Qaj | apply Qau
 | apply Qap | apply Qax | apply Qas | apply Qaq | apply Qa1 | apply Qal | apply Qae rfl | apply Qa6 | apply Qa7 | apply Qam | apply Qaz | apply Qay
 | (refine Qaf ?_; push_cast) | apply Qag | refine Qaa (Qa3 _ (by omega) (by omega)) ?_ | refine Qaa (Qb0 _ (by omega) (by omega)) ?_ | refine Qaa (Qba _ (by omega) (by omega)) ?_ | refine Qaa (Qa5 _ (by omega) (by omega)) ?_
 | refine Qai rfl rfl ?_ | refine Qat rfl rfl ?_
 | (refine Qak (by push_cast; first | done | rfl) ?_ ?_ <;> intro hc <;> (try push_cast at hc))
 | refine Qaw rfl rfl rfl (by push_cast; first | done | rfl) ?_
 | refine Qav rfl rfl rfl (by push_cast; first | done | rfl) ?_ ?_
 | refine Qbf (id := 8) [0, 2, 3, 4] [] [10] (.or 1 (.free 5 (.free 6 (.done))) (.stop)) wide (by kernel_rfl) ?_
 | refine Qbf (id := 20) [0, 1, 2, 3, 4, 5, 6, 7, 8, 9] [] [16] (.or 10 (.free 11 (.free 12 (.done))) (.stop)) wide (by kernel_rfl) ?_
 | apply Qby | apply Qbk | apply Qbn
 | refine Qbx rfl rfl rfl ?_ | refine Qbl rfl rfl rfl ?_
 | (refine Qbm rfl rfl rfl rfl ?_ ?_; rotate_left) | (refine Qbe rfl rfl rfl rfl ?_ ?_; rotate_left)
 | (refine Qbz rfl rfl rfl rfl ?_ ?_; rotate_left; focus (intro K' hK'; push_cast; (repeat' refine And.intro ?_ ?_); all_goals (first | (refine hK' _ _ _ _ _ (by push_cast) (by push_cast; first | done | rfl) ?_; clear hK' K') | ((first | refine Qbr Size_con (fun _ _ => rfl) ?_ | refine Qbr Get_con (fun _ _ => rfl) ?_ | refine Qbi stNumber_con (fun _ => rfl) ?_); push_cast; (repeat' refine And.intro ?_ ?_); all_goals (first | (refine hK' _ _ _ _ _ (by push_cast) (by push_cast; first | done | rfl) ?_; clear hK' K') | (intros; refine hK' _ _ _ _ _ (by push_cast) (by push_cast; first | done | rfl) ?_; clear hK' K') | (clear hK' K'; first | omega | skip))) | (clear hK' K'; first | omega | skip))))
 | refine Qcc rfl rfl rfl rfl (by push_cast; first | done | rfl) ?_
 | refine Qcd rfl rfl rfl rfl (by push_cast; first | done | rfl) ?_ ?_
 | (intro (hc : (_ : Prop)); (try push_cast at hc)) | intro (hc : Qad) | intro (hc : Int) | intro (hc : Nat))
 ·rw [h81 (.inr ‹_›)]
  (refine Qc9.fin ⟨[(1, .obj DiskO D)], ?_, ?_, ?_, Qbb.refl _, ?_⟩
   ·push_cast
   ·push_cast
   ·simp [Qao]
   ·simp [tvL, TV.ids, SV.ids, LV.ids, Qb1])
 ·rw [h91 ‹_› ‹_› (.inl ‹_›)]
  (refine Qc9.fin ⟨[(1, .obj DiskO D)], ?_, ?_, ?_, Qbb.refl _, ?_⟩
   ·push_cast
   ·push_cast
   ·simp [Qao]
   ·simp [tvL, TV.ids, SV.ids, LV.ids, Qb1])
 ·exfalso
  rw [get_ok (by omega) (by omega)] at hc
  simp at hc
 ·rw [h91 ‹_› ‹_› (.inr fun h => absurd h.2.2.1 (by show ¬ ((dGet D k).1.getD 1 0 ≤ e - k); omega))]
  (refine Qc9.fin ⟨[(1, .obj DiskO D)], ?_, ?_, ?_, Qbb.refl _, ?_⟩
   ·push_cast
   ·push_cast
   ·simp [Qao]
   ·simp [tvL, TV.ids, SV.ids, LV.ids, Qb1])
 ·have hbad : ¬ RdOk D k e → sRead D k e = ([], 0, 0, 91) := fun h => h91 ‹_› ‹_› (.inr h)
  have hroom : totOf (secAt D k) ≤ e - k := by show (dGet D k).1.getD 1 0 ≤ e - k; omega
  have hnum : numK (secAt D k) 8 ≠ 0 := ‹¬ numK (dGet D k).1 8 = 0›
  have htot : totOf (secAt D k) ≠ 0 := ‹¬ (dGet D k).1.getD 1 0 = 0›
  have hgood : RdOk D k e → sRead D k e = (readB D k, numK (secAt D k) 8, totOf (secAt D k), 0) := fun h => by
   unfold sRead
   rw [if_neg (by omega), if_neg (by omega), if_pos h]
  clear h81 h91
  refine Qmi (.int .u8) 14 115 rfl (by push_cast) ?_
  push_cast
  refine Qbu [6, 7, 8, 9, 14, 15, 16, 17, 18, 19, 61, 62, 63, 64, 65, 66, 67, 68, 69, 70, 71, 72, 73, 74, 75, 76, 77, 78, 79, 80, 81, 82, 83, 84, 85, 86, 87, 88, 89, 90, 91, 92, 93, 94, 95, 96, 97, 98, 99, 100, 101, 102, 103, 104, 105, 106, 107, 108, 109, 110, 111, 112, 113, 114, 115, 116] [16, 69, 77, 108, 115] (fun (i : Nat) => (i : Int) ≤ (dGet D k).1.getD 1 0 ∧ ∀ j : Nat, j < i → GoodS D k (totOf (secAt D k)) (numK (secAt D k) 8) j) (fun (i : Nat) => [(61, .one (.l (.int .i64 i))), (14, .one (.l (.own 115)))]) (fun (i : Nat) => [(115, .arr (.int .u8) (flatF (fun (j : Nat) => pieceOf (secAt D (k + j))) i))]) (fun (i : Nat) => ((dGet D k).1.getD 1 0).toNat - i) 0 ?_ (by push_cast; first | done | rfl) (by push_cast; first | done | rfl) ?_ ?_
  ·exact ⟨hx0.1, fun j hj => absurd hj (Nat.not_lt_zero j)⟩
  ·push_cast
   rfl
  ·rintro i ⟨hi, hall⟩
   push_cast
   intro hg
   have hxi := hG (k + i)
   have hx2 := hxi.at 2
   have hge : (i : Int) < (dGet D k).1.getD 1 0 → (dGet D (k + i)).2 = 0 := fun h => get_ok (by omega) (by omega)
   have hfl := flatF_le (fun (j : Nat) => pieceOf (secAt D (k + j))) (fun j => pieceOf_le _) i
   repeat' (first
 | (intro (K' : KT) hK'; push_cast; (repeat' refine And.intro ?_ ?_); all_goals (first | (apply hK'; clear hK' K') | (refine ⟨trivial, trivial, ?_⟩; apply hK'; clear hK' K') | (intro hb; (try push_cast at hb); all_goals (intros; apply hK'; clear hK' K')) | ((first | refine Qbr Get_con (fun _ _ => rfl) ?_); push_cast; (repeat' refine And.intro ?_ ?_); all_goals (first | (apply hK'; clear hK' K') | (intros; apply hK'; clear hK' K') | (clear hK' K'; first | omega | skip))) | (clear hK' K'; first | omega | skip)))
 | apply Qar | apply Qa0 | refine Qbo (id := 18) ?_ | apply Qac | apply Qah | apply Qaj | apply Qau
 | apply Qap | apply Qax | apply Qas | apply Qaq | apply Qa1 | apply Qal | apply Qae rfl | apply Qa6 | apply Qa7 | apply Qam | apply Qaz | apply Qay
 | (refine Qaf ?_; push_cast) | apply Qag | refine Qaa (Qa3 _ (by omega) (by omega)) ?_ | refine Qaa (Qb0 _ (by omega) (by omega)) ?_ | refine Qaa (Qba _ (by omega) (by omega)) ?_ | refine Qaa (Qa5 _ (by omega) (by omega)) ?_
 | refine Qai rfl rfl ?_ | refine Qat rfl rfl ?_
 | (refine Qak (by push_cast; first | done | rfl) ?_ ?_ <;> intro hc <;> (try push_cast at hc))
 | refine Qaw rfl rfl rfl (by push_cast; first | done | rfl) ?_
 | refine Qav rfl rfl rfl (by push_cast; first | done | rfl) ?_ ?_
 | refine Qbf (id := 8) [0, 2, 3, 4] [] [10] (.or 1 (.free 5 (.free 6 (.done))) (.stop)) wide (by kernel_rfl) ?_
 | refine Qbf (id := 20) [0, 1, 2, 3, 4, 5, 6, 7, 8, 9] [] [16] (.or 10 (.free 11 (.free 12 (.done))) (.stop)) wide (by kernel_rfl) ?_
 | apply Qby | apply Qbk | apply Qbn
 | refine Qbx rfl rfl rfl ?_ | refine Qbl rfl rfl rfl ?_
 | (refine Qbm rfl rfl rfl rfl ?_ ?_; rotate_left) | (refine Qbe rfl rfl rfl rfl ?_ ?_; rotate_left)
 | (refine Qbz rfl rfl rfl rfl ?_ ?_; rotate_left; focus (intro K' hK'; push_cast; (repeat' refine And.intro ?_ ?_); all_goals (first | (refine hK' _ _ _ _ _ (by push_cast) (by push_cast; first | done | rfl) ?_; clear hK' K') | ((first | refine Qbr Get_con (fun _ _ => rfl) ?_); push_cast; (repeat' refine And.intro ?_ ?_); all_goals (first | (refine hK' _ _ _ _ _ (by push_cast) (by push_cast; first | done | rfl) ?_; clear hK' K') | (intros; refine hK' _ _ _ _ _ (by push_cast) (by push_cast; first | done | rfl) ?_; clear hK' K') | (clear hK' K'; first | omega | skip))) | (clear hK' K'; first | omega | skip))))
 | refine Qcc rfl rfl rfl rfl (by push_cast; first | done | rfl) ?_
 | refine Qcd rfl rfl rfl rfl (by push_cast; first | done | rfl) ?_ ?_
 | (intro (hc : (_ : Prop)); (try push_cast at hc)) | intro (hc : Qad) | intro (hc : Int) | intro (hc : Nat))
   ·exfalso
    rw [hge ‹_›] at hc
    simp at hc
   ·apply Qc5
    apply Qap
    refine Qvt [19, 78, 79, 80, 81, 82, 83, 84, 85, 86, 87, 88, 89, 90, 91, 92, 93, 94, 95, 96, 97] [] (fun _ : Unit => True) (fun _ => [(19, .one (.l (.bool (fullB ((dGet D (k + i)).1.getD 2 0) i ((dGet D k).1.getD 1 0)))))]) (fun _ => []) (by push_cast; first | done | rfl) (by push_cast; first | done | rfl) ?_ ?_
    ·intro K' hj' hx'
     repeat' (first
 | (intro (K' : KT) hK'; push_cast; (repeat' refine And.intro ?_ ?_); all_goals (first | (apply hK'; clear hK' K') | (refine ⟨trivial, trivial, ?_⟩; apply hK'; clear hK' K') | (intro hb; (try push_cast at hb); all_goals (intros; apply hK'; clear hK' K')) | (clear hK' K'; first | omega | skip)))
 | apply Qar | apply Qa0 | apply Qac | apply Qah | apply Qaj | apply Qau
 | apply Qap | apply Qax | apply Qas | apply Qaq | apply Qa1 | apply Qal | apply Qae rfl | apply Qa6 | apply Qa7 | apply Qaz | apply Qay
 | (refine Qaf ?_; push_cast) | apply Qag | refine Qaa (Qa3 _ (by omega) (by omega)) ?_ | refine Qaa (Qb0 _ (by omega) (by omega)) ?_ | refine Qaa (Qba _ (by omega) (by omega)) ?_ | refine Qaa (Qa5 _ (by omega) (by omega)) ?_
 | refine Qai rfl rfl ?_ | refine Qat rfl rfl ?_
 | (refine Qak (by push_cast; first | done | rfl) ?_ ?_ <;> intro hc <;> (try push_cast at hc))
 | refine Qaw rfl rfl rfl (by push_cast; first | done | rfl) ?_
 | refine Qav rfl rfl rfl (by push_cast; first | done | rfl) ?_ ?_
 | refine Qbf (id := 8) [0, 2, 3, 4] [] [10] (.or 1 (.free 5 (.free 6 (.done))) (.stop)) wide (by kernel_rfl) ?_
 | refine Qbf (id := 20) [0, 1, 2, 3, 4, 5, 6, 7, 8, 9] [] [16] (.or 10 (.free 11 (.free 12 (.done))) (.stop)) wide (by kernel_rfl) ?_
 | apply Qby | apply Qbk | apply Qbn
 | refine Qbx rfl rfl rfl ?_ | refine Qbl rfl rfl rfl ?_
 | (refine Qbm rfl rfl rfl rfl ?_ ?_; rotate_left) | (refine Qbe rfl rfl rfl rfl ?_ ?_; rotate_left)
 | (refine Qbz rfl rfl rfl rfl ?_ ?_; rotate_left; focus (intro K' hK'; push_cast; (repeat' refine And.intro ?_ ?_); all_goals (first | (refine hK' _ _ _ _ _ (by push_cast) (by push_cast; first | done | rfl) ?_; clear hK' K') | (clear hK' K'; first | omega | skip))))
 | refine Qcc rfl rfl rfl rfl (by push_cast; first | done | rfl) ?_
 | refine Qcd rfl rfl rfl rfl (by push_cast; first | done | rfl) ?_ ?_
 | (intro (hc : (_ : Prop)); (try push_cast at hc)) | intro (hc : Qad) | intro (hc : Int) | intro (hc : Nat))
     all_goals (refine hj' () _ trivial ?_; push_cast)
     all_goals
      unfold fullB
      rw [Bool.eq_iff_iff]
      simp only [Bool.or_eq_true, Bool.and_eq_true, decide_eq_true_eq, Bool.false_eq_true, true_iff, false_iff]
      omega
    ·rintro ⟨⟩ _
     push_cast
     have ew : IntKind.i64.wrap (3 + (dGet D (k + i)).1.getD 2 0) = 3 + (dGet D (k + i)).1.getD 2 0 := Qa3 _ (by omega) (by omega)
     have ep : (dGet D (k + i)).1.getD 2 0 ≤ 53 → List.take (3 + (dGet D (k + i)).1.getD 2 0 - 3).toNat (List.drop 3 (dGet D (k + i)).1) = pieceOf (dGet D (k + i)).1 := fun h => by
      have : (3 + (dGet D (k + i)).1.getD 2 0 - 3).toNat = cntOf (dGet D (k + i)).1 := by unfold cntOf; omega
      rw [this]; rfl
     cases hfb : fullB ((dGet D (k + i)).1.getD 2 0) i ((dGet D k).1.getD 1 0)
     ·repeat' (first
 | (intro (K' : KT) hK'; push_cast; (repeat' refine And.intro ?_ ?_); all_goals (first | (apply hK'; clear hK' K') | (refine ⟨trivial, trivial, ?_⟩; apply hK'; clear hK' K') | (intro hb; (try push_cast at hb); all_goals (intros; apply hK'; clear hK' K')) | ((first | refine Qbi made_con (fun _ => rfl) ?_); push_cast; (repeat' refine And.intro ?_ ?_); all_goals (first | (apply hK'; clear hK' K') | (intros; apply hK'; clear hK' K') | (clear hK' K'; first | omega | skip))) | (clear hK' K'; first | omega | skip)))
 | apply Qar | apply Qa0 | apply Qac | apply Qah | apply Qaj | apply Qau
 | apply Qap | apply Qax | apply Qas | apply Qaq | apply Qa1 | apply Qal | apply Qae rfl | apply Qa6 | apply Qa7 | apply Qam | apply Qaz | apply Qay
 | (refine Qaf ?_; push_cast) | apply Qag | refine Qaa (Qa3 _ (by omega) (by omega)) ?_ | refine Qaa (Qb0 _ (by omega) (by omega)) ?_ | refine Qaa (Qba _ (by omega) (by omega)) ?_ | refine Qaa (Qa5 _ (by omega) (by omega)) ?_
 | refine Qai rfl rfl ?_ | refine Qat rfl rfl ?_
 | (refine Qak (by push_cast; first | done | rfl) ?_ ?_ <;> intro hc <;> (try push_cast at hc))
 | refine Qaw rfl rfl rfl (by push_cast; first | done | rfl) ?_
 | refine Qav rfl rfl rfl (by push_cast; first | done | rfl) ?_ ?_
 | refine Qbf (id := 8) [0, 2, 3, 4] [] [10] (.or 1 (.free 5 (.free 6 (.done))) (.stop)) wide (by kernel_rfl) ?_
 | refine Qbf (id := 20) [0, 1, 2, 3, 4, 5, 6, 7, 8, 9] [] [16] (.or 10 (.free 11 (.free 12 (.done))) (.stop)) wide (by kernel_rfl) ?_
 | apply Qby | apply Qbk | apply Qbn
 | refine Qbx rfl rfl rfl ?_ | refine Qbl rfl rfl rfl ?_
 | (refine Qbm rfl rfl rfl rfl ?_ ?_; rotate_left) | (refine Qbe rfl rfl rfl rfl ?_ ?_; rotate_left)
 | (refine Qbz rfl rfl rfl rfl ?_ ?_; rotate_left; focus (intro K' hK'; push_cast; (repeat' refine And.intro ?_ ?_); all_goals (first | (refine hK' _ _ _ _ _ (by push_cast) (by push_cast; first | done | rfl) ?_; clear hK' K') | ((first | refine Qbi made_con (fun _ => rfl) ?_); push_cast; (repeat' refine And.intro ?_ ?_); all_goals (first | (refine hK' _ _ _ _ _ (by push_cast) (by push_cast; first | done | rfl) ?_; clear hK' K') | (intros; refine hK' _ _ _ _ _ (by push_cast) (by push_cast; first | done | rfl) ?_; clear hK' K') | (clear hK' K'; first | omega | skip))) | (clear hK' K'; first | omega | skip))))
 | (refine Qec rfl rfl rfl rfl ?_ ?_; rotate_left; focus (intro K' hK'; push_cast; (repeat' refine And.intro ?_ ?_); all_goals (first | (refine hK' _ _ _ _ _ (by push_cast) (by push_cast; first | done | rfl) ?_; clear hK' K') | ((first | refine Qbi made_con (fun _ => rfl) ?_); push_cast; (repeat' refine And.intro ?_ ?_); all_goals (first | (refine hK' _ _ _ _ _ (by push_cast) (by push_cast; first | done | rfl) ?_; clear hK' K') | (intros; refine hK' _ _ _ _ _ (by push_cast) (by push_cast; first | done | rfl) ?_; clear hK' K') | (clear hK' K'; first | omega | skip))) | (clear hK' K'; first | omega | skip))))
 | (refine Qdv rfl rfl rfl rfl (by push_cast; first | done | rfl) ?_)
 | refine Qdt rfl rfl rfl rfl (by push_cast; first | done | rfl) ?_ ?_
 | (refine Qed rfl rfl rfl rfl (by push_cast; first | done | rfl) ?_ ?_)
 | (refine Qeb rfl rfl rfl rfl rfl (by push_cast; first | done | rfl) ?_ ?_ ?_; focus (intro hc; (try push_cast at hc); all_goals (intro K' hK'; push_cast; (repeat' refine And.intro ?_ ?_); all_goals (first | (refine hK' _ _ _ _ _ (by push_cast) (by push_cast; first | done | rfl) ?_; clear hK' K') | ((first | refine Qbi made_con (fun _ => rfl) ?_); push_cast; (repeat' refine And.intro ?_ ?_); all_goals (first | (refine hK' _ _ _ _ _ (by push_cast) (by push_cast; first | done | rfl) ?_; clear hK' K') | (intros; refine hK' _ _ _ _ _ (by push_cast) (by push_cast; first | done | rfl) ?_; clear hK' K') | (clear hK' K'; first | omega | skip))) | (clear hK' K'; first | omega | skip)))))
 | refine Qcc rfl rfl rfl rfl (by push_cast; first | done | rfl) ?_
 | refine Qcd rfl rfl rfl rfl (by push_cast; first | done | rfl) ?_ ?_
 | (intro (hc : (_ : Prop)); (try push_cast at hc)) | intro (hc : Qad) | intro (hc : Int) | intro (hc : Nat))
      rw [hbad fun h => by
       have := (read_good h hx0.1 (i := i) (by show i < ((dGet D k).1.getD 1 0).toNat; omega)).1
       rw [show fullB ((secAt D (k + i)).getD 2 0) i (totOf (secAt D k)) = false from hfb] at this
       exact absurd this (by simp)]
      (refine Qc9.fin ⟨[(1, .obj DiskO D)], ?_, ?_, ?_, Qbb.refl _, ?_⟩
       ·push_cast
       ·push_cast
       ·simp [Qao]
       ·simp [tvL, TV.ids, SV.ids, LV.ids, Qb1])
     ·have hle := fullB_le hfb
      have ep := ep hle
      repeat' (first
 | (intro (K' : KT) hK'; push_cast; (repeat' refine And.intro ?_ ?_); all_goals (first | (apply hK'; clear hK' K') | (refine ⟨trivial, trivial, ?_⟩; apply hK'; clear hK' K') | (intro hb; (try push_cast at hb); all_goals (intros; apply hK'; clear hK' K')) | ((first | refine Qpw made_con (fun _ => rfl) ?_); push_cast; (repeat' refine And.intro ?_ ?_); all_goals (first | (apply hK'; clear hK' K') | (intros; apply hK'; clear hK' K') | (clear hK' K'; first | omega | skip))) | (clear hK' K'; first | omega | skip)))
 | apply Qar | apply Qa0 | apply Qac | apply Qah | apply Qaj | apply Qau
 | apply Qap | apply Qax | apply Qas | apply Qaq | apply Qa1 | apply Qal | apply Qae rfl | apply Qa6 | apply Qa7 | apply Qam | apply Qaz | apply Qay
 | (refine Qaf ?_; push_cast) | apply Qag | refine Qaa (Qa3 _ (by omega) (by omega)) ?_ | refine Qaa (Qb0 _ (by omega) (by omega)) ?_ | refine Qaa (Qba _ (by omega) (by omega)) ?_ | refine Qaa (Qa5 _ (by omega) (by omega)) ?_
 | refine Qai rfl rfl ?_ | refine Qat rfl rfl ?_
 | (refine Qak (by push_cast; first | done | rfl) ?_ ?_ <;> intro hc <;> (try push_cast at hc))
 | refine Qaw rfl rfl rfl (by push_cast; first | done | rfl) ?_
 | refine Qav rfl rfl rfl (by push_cast; first | done | rfl) ?_ ?_
 | refine Qbf (id := 8) [0, 2, 3, 4] [] [10] (.or 1 (.free 5 (.free 6 (.done))) (.stop)) wide (by kernel_rfl) ?_
 | refine Qbf (id := 20) [0, 1, 2, 4, 5, 6, 7, 8] [10] [] (.free 9 (.or 3 (.or 10 (.free 11 (.free 12 (.done))) (.stop)) (.or 10 (.or 3 (.free 11 (.free 12 (.done))) (.stop)) (.stop)))) wide (by kernel_rfl) ?_
 | apply Qby | apply Qbk | apply Qbn
 | refine Qbx rfl rfl rfl ?_ | refine Qbl rfl rfl rfl ?_
 | (refine Qbm rfl rfl rfl rfl ?_ ?_; rotate_left) | (refine Qbe rfl rfl rfl rfl ?_ ?_; rotate_left)
 | (refine Qbz rfl rfl rfl rfl ?_ ?_; rotate_left; focus (intro K' hK'; push_cast; (repeat' refine And.intro ?_ ?_); all_goals (first | (refine hK' _ _ _ _ _ (by push_cast) (by push_cast; first | done | rfl) ?_; clear hK' K') | ((first | refine Qpw made_con (fun _ => rfl) ?_); push_cast; (repeat' refine And.intro ?_ ?_); all_goals (first | (refine hK' _ _ _ _ _ (by push_cast) (by push_cast; first | done | rfl) ?_; clear hK' K') | (intros; refine hK' _ _ _ _ _ (by push_cast) (by push_cast; first | done | rfl) ?_; clear hK' K') | (clear hK' K'; first | omega | skip))) | (clear hK' K'; first | omega | skip))))
 | (refine Qec rfl rfl rfl rfl ?_ ?_; rotate_left; focus (intro K' hK'; push_cast; (repeat' refine And.intro ?_ ?_); all_goals (first | (refine hK' _ _ _ _ _ (by push_cast) (by push_cast; first | done | rfl) ?_; clear hK' K') | ((first | refine Qpw made_con (fun _ => rfl) ?_); push_cast; (repeat' refine And.intro ?_ ?_); all_goals (first | (refine hK' _ _ _ _ _ (by push_cast) (by push_cast; first | done | rfl) ?_; clear hK' K') | (intros; refine hK' _ _ _ _ _ (by push_cast) (by push_cast; first | done | rfl) ?_; clear hK' K') | (clear hK' K'; first | omega | skip))) | (clear hK' K'; first | omega | skip))))
 | (refine Qdv rfl rfl rfl rfl (by push_cast; first | done | rfl) ?_)
 | refine Qdt rfl rfl rfl rfl (by push_cast; first | done | rfl) ?_ ?_
 | (refine Qed rfl rfl rfl rfl (by push_cast; first | done | rfl) ?_ ?_)
 | (refine Qeb rfl rfl rfl rfl rfl (by push_cast; first | done | rfl) ?_ ?_ ?_; focus (intro hc; (try push_cast at hc); all_goals (intro K' hK'; push_cast; (repeat' refine And.intro ?_ ?_); all_goals (first | (refine hK' _ _ _ _ _ (by push_cast) (by push_cast; first | done | rfl) ?_; clear hK' K') | ((first | refine Qpw made_con (fun _ => rfl) ?_); push_cast; (repeat' refine And.intro ?_ ?_); all_goals (first | (refine hK' _ _ _ _ _ (by push_cast) (by push_cast; first | done | rfl) ?_; clear hK' K') | (intros; refine hK' _ _ _ _ _ (by push_cast) (by push_cast; first | done | rfl) ?_; clear hK' K') | (clear hK' K'; first | omega | skip))) | (clear hK' K'; first | omega | skip)))))
 | refine Qfd rfl rfl rfl rfl rfl (by push_cast; first | done | rfl) ?_ ?_ ?_
 | refine Qcc rfl rfl rfl rfl (by push_cast; first | done | rfl) ?_
 | refine Qcd rfl rfl rfl rfl (by push_cast; first | done | rfl) ?_ ?_
 | (intro (hc : (_ : Prop)); (try push_cast at hc)) | intro (hc : Qad) | intro (hc : Int) | intro (hc : Nat))
      all_goals (try rw [ew])
      all_goals
       first
       | (have hlen := hxi.1; omega)
       | (rw [ep]; exact pieceOf_le _)
       | (rw [ep]
          have hple := pieceOf_le (dGet D (k + i)).1
          omega)
       | (rw [ew, ep] at hc
          rw [hbad fun h => by
           have h4 : (dGet D (k + i)).1 = madeN i ((dGet D k).1.getD 1 0) (numK (dGet D k).1 8) (pieceOf (dGet D (k + i)).1) :=
            (read_good h hx0.1 (i := i) (by show i < ((dGet D k).1.getD 1 0).toNat; omega)).2
           have h5 := decide_eq_true h4
           rw [h5] at hc
           simp at hc]
          (refine Qc9.fin ⟨[(1, .obj DiskO D)], ?_, ?_, ?_, Qbb.refl _, ?_⟩
           ·push_cast
           ·push_cast
           ·simp [Qao]
           ·simp [tvL, TV.ids, SV.ids, LV.ids, Qb1]))
       | (rw [ew, ep] at hc
          refine Qbv (i + 1) ⟨by push_cast; omega, fun j hj => ?_⟩ (by omega) ?_
          ·by_cases ej : j = i
           ·subst ej
            refine ⟨hxi.1, hx2.1, hfb, ?_⟩
            refine Classical.byContradiction fun hn => ?_
            have hn2 : ¬ ((dGet D (k + j)).1 = madeN j ((dGet D k).1.getD 1 0) (numK (dGet D k).1 8) (pieceOf (dGet D (k + j)).1)) := hn
            rw [decide_eq_false hn2] at hc
            simp at hc
           ·exact hall j (by omega)
          ·push_cast
           rw [ep, flatF_s]
           first | done | exact ⟨rfl, rfl⟩ | rfl | trivial)
   ·have ei : i = (totOf (secAt D k)).toNat := by show i = ((dGet D k).1.getD 1 0).toNat; omega
    have hrd : RdOk D k e := read_all hnum htot hroom hx0.1 hx0.2 fun j hj => hall j (by omega)
    have eB : flatF (fun (j : Nat) => pieceOf (secAt D (k + j))) i = readB D k := by rw [readB_flat, ei]
    rw [hgood hrd, eB, show numK (secAt D k) 8 = numK (dGet D k).1 8 from rfl, show totOf (secAt D k) = (dGet D k).1.getD 1 0 from rfl]
    (refine Qc9.fin ⟨[(1, .obj DiskO D)], ?_, ?_, ?_, Qbb.refl _, ?_⟩
     ·push_cast
     ·push_cast
     ·simp [Qao]
     ·simp [tvL, TV.ids, SV.ids, LV.ids, Qb1])
 ·rw [h91 ‹_› ‹_› (.inr fun h => h.2.1 ‹_›)]
  (refine Qc9.fin ⟨[(1, .obj DiskO D)], ?_, ?_, ?_, Qbb.refl _, ?_⟩
   ·push_cast
   ·push_cast
   ·simp [Qao]
   ·simp [tvL, TV.ids, SV.ids, LV.ids, Qb1])
 ·rw [h91 ‹_› ‹_› (.inr fun h => h.1 ‹_›)]
  (refine Qc9.fin ⟨[(1, .obj DiskO D)], ?_, ?_, ?_, Qbb.refl _, ?_⟩
   ·push_cast
   ·push_cast
   ·simp [Qao]
   ·simp [tvL, TV.ids, SV.ids, LV.ids, Qb1])
 ·rw [h81 (.inl ‹_›)]
  (refine Qc9.fin ⟨[(1, .obj DiskO D)], ?_, ?_, ?_, Qbb.refl _, ?_⟩
   ·push_cast
   ·push_cast
   ·simp [Qao]
   ·simp [tvL, TV.ids, SV.ids, LV.ids, Qb1])
theorem Read_con : Qkc Cx.P 37 DiskO (.pair (.int .i64) (.pair (.int .i64) .unit)) (fun _ _ => True)
    (fun D x => [.dat (.slice (.int .u8)) (sRead D x.1 x.2.1).1, .int .u64 (sRead D x.1 x.2.1).2.1, .int .i64 (sRead D x.1 x.2.1).2.2.1, .int .i64 (sRead D x.1 x.2.1).2.2.2]) (fun D _ => D) := ⟨Qrg, fun D x _ => Read_fn D x.1 x.2.1⟩
end Go.Proofs.Ytnmjcdlgfimnaaa
