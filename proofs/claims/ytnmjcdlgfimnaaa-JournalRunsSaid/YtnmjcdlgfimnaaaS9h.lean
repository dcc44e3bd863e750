/- Chapter 9: the document's Read. -/
import Derived.Test.YtnmjcdlgfimnaaaS1
import Derived.Test.YtnmjcdlgfimnaaaS9f
namespace Go.Proofs.Ytnmjcdlgfimnaaa
set_option linter.unusedSimpArgs false
set_option linter.unusedVariables false
set_option maxRecDepth 20000
attribute [local irreducible] Qb3 Qa9 vcA Qbp Wc
set_option maxHeartbeats 8000000
theorem r09Read_fn (d : Qab) (k : Int) (e : Int) : Qck Cx.P 91 [.dat Qa2 d, .int .i64 k, .int .i64 e] [.dat (.slice (.int .u8)) (sRead d k e).1, .int .u64 (sRead d k e).2.1, .int .i64 (sRead d k e).2.2.1, .int .i64 (sRead d k e).2.2.2] := by
 refine Qck.go2 (E := Cx.env) (fn := Try.f91) (res := [_, _, _, _]) Try.func91 Quc rfl rfl rfl (by kernel_rfl) rfl ?_
 push_cast
 try intro hf
 have hG : ∀ j, SecOk (dGet d j).1 := dGet_ok (fun y hy => hf.1.1.2 y hy) (fun y hy => (hf.1.2.1.2 y hy).1)
 have h81 : (k < 0 ∨ (d.Base.length : Int) < e) → sRead d k e = ([], 0, 0, 81) := fun h => by unfold sRead; rw [if_pos h]
 have h91 : ¬ k < 0 → ¬ (d.Base.length : Int) < e → (e ≤ k ∨ ¬ RdOk d k e) → sRead d k e = ([], 0, 0, 91) := fun h1 h2 h => by
  unfold sRead
  rw [if_neg (by omega)]
  rcases h with h | h
  ·rw [if_pos h]
  ·rw [if_neg h]; split <;> rfl
 have hx0 := (hG k).at 1
 repeat' (first
 | (intro (K' : KT) hK'; push_cast; (repeat' refine And.intro ?_ ?_); all_goals (first | (apply hK'; clear hK' K') | (refine ⟨trivial, trivial, ?_⟩; apply hK'; clear hK' K') | (intro hb; (try push_cast at hb); all_goals (intros; apply hK'; clear hK' K')) | ((first | refine Qbi r08Get_con (fun _ => rfl) ?_ | refine Qbi r09Number_con (fun _ => rfl) ?_); push_cast; (repeat' refine And.intro ?_ ?_); all_goals (first | (apply hK'; clear hK' K') | (intros; apply hK'; clear hK' K') | (clear hK' K'; first | omega | skip))) | (clear hK' K'; first | omega | skip)))
 | apply Qar | apply Qa0 | apply Qac | apply Qah | apply Qaj | apply Qau
 | apply Qap | apply Qax | apply Qas | apply Qaq | apply Qa1 | apply Qal | apply Qae rfl | apply Qa6 | apply Qa7 | apply Qam | apply Qaz | apply Qay
 | (refine Qaf ?_; push_cast) | apply Qag | refine Qaa (Qa3 _ (by omega) (by omega)) ?_ | refine Qaa (Qb0 _ (by omega) (by omega)) ?_ | refine Qaa (Qba _ (by omega) (by omega)) ?_ | refine Qaa (Qa5 _ (by omega) (by omega)) ?_
 | refine Qai rfl rfl ?_ | refine Qat rfl rfl ?_
 | (refine Qak (by push_cast; first | done | rfl) ?_ ?_ <;> intro hc <;> (try push_cast at hc))
 | refine Qaw rfl rfl rfl (by push_cast; first | done | rfl) ?_
 | refine Qav rfl rfl rfl (by push_cast; first | done | rfl) ?_ ?_
 | refine Qbf (id := 26) [0, 1, 2, 3, 4, 5, 6, 7, 8] [] [58, 77, 98] (.done) wide (by kernel_rfl) ?_
 | apply Qby | apply Qbk | apply Qbn
 | refine Qbx rfl rfl rfl ?_ | refine Qbl rfl rfl rfl ?_
 | (refine Qbm rfl rfl rfl rfl ?_ ?_; rotate_left) | (refine Qbe rfl rfl rfl rfl ?_ ?_; rotate_left)
 | (refine Qbz rfl rfl rfl rfl ?_ ?_; rotate_left; focus (intro K' hK'; push_cast; (repeat' refine And.intro ?_ ?_); all_goals (first | (refine hK' _ _ _ _ _ (by push_cast) (by push_cast; first | done | rfl) ?_; clear hK' K') | ((first | refine Qbi r08Get_con (fun _ => rfl) ?_ | refine Qbi r09Number_con (fun _ => rfl) ?_); push_cast; (repeat' refine And.intro ?_ ?_); all_goals (first | (refine hK' _ _ _ _ _ (by push_cast) (by push_cast; first | done | rfl) ?_; clear hK' K') | (intros; refine hK' _ _ _ _ _ (by push_cast) (by push_cast; first | done | rfl) ?_; clear hK' K') | (clear hK' K'; first | omega | skip))) | (clear hK' K'; first | omega | skip))))
 | refine Qcc rfl rfl rfl rfl (by push_cast; first | done | rfl) ?_
 | refine Qcd rfl rfl rfl rfl (by push_cast; first | done | rfl) ?_ ?_
 | (intro (hc : (_ : Prop)); (try push_cast at hc)) | intro (hc : Qad) | intro (hc : Int) | intro (hc : Nat))
 ·rw [h81 (.inr ‹_›)]; exact ⟨rfl, rfl, rfl, rfl⟩
 ·rw [h91 ‹_› ‹_› (.inl ‹_›)]; exact ⟨rfl, rfl, rfl, rfl⟩
 ·rw [h91 ‹_› ‹_› (.inr fun h => absurd h.2.2.1 (by show ¬ ((dGet d k).1.getD 1 0 ≤ e - k); omega))]; exact ⟨rfl, rfl, rfl, rfl⟩
 ·have hbad : ¬ RdOk d k e → sRead d k e = ([], 0, 0, 91) := fun h => h91 ‹_› ‹_› (.inr h)
  have hroom : totOf (secAt d k) ≤ e - k := by show (dGet d k).1.getD 1 0 ≤ e - k; omega
  have hnum : numK (secAt d k) 8 ≠ 0 := ‹¬ numK (dGet d k).1 8 = 0›
  have htot : totOf (secAt d k) ≠ 0 := ‹¬ (dGet d k).1.getD 1 0 = 0›
  have hgood : secsN (numK (secAt d k) 8) (readB d k) = secsAt d k (totOf (secAt d k)).toNat → sRead d k e = (readB d k, numK (secAt d k) 8, totOf (secAt d k), 0) := fun h => by
   unfold sRead
   rw [if_neg (by omega), if_neg (by omega), if_pos ⟨hnum, htot, hroom, h⟩]
  clear h81 h91
  refine Qg1 57 95 rfl (by push_cast) (by decide) ?_
  push_cast
  refine Qg1 58 77 rfl (by push_cast) (by decide) ?_
  push_cast
  refine Qbu [13, 14, 15, 16, 17, 18, 57, 58, 59, 60, 61, 62, 63, 64, 65, 66, 67, 68, 69, 70, 71, 72, 73, 74, 75, 76, 77, 78, 79, 80, 81, 82, 83, 84, 85, 86, 87, 88, 89, 90, 91, 92, 93, 94, 95] [16, 62, 71, 76, 77, 81, 94, 95] (fun (i : Nat) => (i : Int) ≤ (dGet d k).1.getD 1 0) (fun (i : Nat) => [(15, .one (.l (.int .i64 i))), (13, .one (.l (.own 95))), (14, .one (.l (.own 77)))]) (fun (i : Nat) => [(95, .arr (.int .u8) (flatF (fun (j : Nat) => pieceOf (secAt d (k + j))) i)), (77, .arr (.arr 64 (.int .u8)) (secsAt d k i))]) (fun (i : Nat) => ((dGet d k).1.getD 1 0).toNat - i) 0 ?_ (by push_cast; first | done | rfl) (by push_cast; first | done | rfl) ?_ ?_
  ·exact hx0.1
  ·push_cast
   exact ⟨rfl, rfl⟩
  ·intro i hi
   push_cast
   intro hg
   have hxi := hG (k + i)
   have hx2 := hxi.at 2
   have hfl := flatF_le (fun (j : Nat) => pieceOf (secAt d (k + j))) (fun j => pieceOf_le _) i
   have hsl := secsAt_len d k i
   repeat' (first
 | (intro (K' : KT) hK'; push_cast; (repeat' refine And.intro ?_ ?_); all_goals (first | (apply hK'; clear hK' K') | (refine ⟨trivial, trivial, ?_⟩; apply hK'; clear hK' K') | (intro hb; (try push_cast at hb); all_goals (intros; apply hK'; clear hK' K')) | ((first | refine Qbi r08Get_con (fun _ => rfl) ?_ | refine Qbi r09Number_con (fun _ => rfl) ?_ | refine Qbg r09Sectors_con (fun _ => rfl) ?_); push_cast; (repeat' refine And.intro ?_ ?_); all_goals (first | (apply hK'; clear hK' K') | (intros; apply hK'; clear hK' K') | (clear hK' K'; first | omega | skip))) | (clear hK' K'; first | omega | skip)))
 | apply Qar | apply Qa0 | apply Qac | apply Qah | apply Qaj | apply Qau
 | apply Qap | apply Qax | apply Qas | apply Qaq | apply Qa1 | apply Qal | apply Qae rfl | apply Qa6 | apply Qa7 | apply Qam | apply Qaz | apply Qay
 | (refine Qaf ?_; push_cast) | apply Qag | refine Qaa (Qa3 _ (by omega) (by omega)) ?_ | refine Qaa (Qb0 _ (by omega) (by omega)) ?_ | refine Qaa (Qba _ (by omega) (by omega)) ?_ | refine Qaa (Qa5 _ (by omega) (by omega)) ?_
 | refine Qai rfl rfl ?_ | refine Qat rfl rfl ?_
 | (refine Qak (by push_cast; first | done | rfl) ?_ ?_ <;> intro hc <;> (try push_cast at hc))
 | refine Qaw rfl rfl rfl (by push_cast; first | done | rfl) ?_
 | refine Qav rfl rfl rfl (by push_cast; first | done | rfl) ?_ ?_
 | refine Qbf (id := 26) [0, 1, 2, 3, 4, 5, 6, 7, 8] [] [58, 77, 98] (.done) wide (by kernel_rfl) ?_
 | apply Qby | apply Qbk | apply Qbn
 | refine Qbx rfl rfl rfl ?_ | refine Qbl rfl rfl rfl ?_
 | (refine Qbm rfl rfl rfl rfl ?_ ?_; rotate_left) | (refine Qbe rfl rfl rfl rfl ?_ ?_; rotate_left)
 | (refine Qbz rfl rfl rfl rfl ?_ ?_; rotate_left; focus (intro K' hK'; push_cast; (repeat' refine And.intro ?_ ?_); all_goals (first | (refine hK' _ _ _ _ _ (by push_cast) (by push_cast; first | done | rfl) ?_; clear hK' K') | ((first | refine Qbi r08Get_con (fun _ => rfl) ?_ | refine Qbi r09Number_con (fun _ => rfl) ?_ | refine Qbg r09Sectors_con (fun _ => rfl) ?_); push_cast; (repeat' refine And.intro ?_ ?_); all_goals (first | (refine hK' _ _ _ _ _ (by push_cast) (by push_cast; first | done | rfl) ?_; clear hK' K') | (intros; refine hK' _ _ _ _ _ (by push_cast) (by push_cast; first | done | rfl) ?_; clear hK' K') | (clear hK' K'; first | omega | skip))) | (clear hK' K'; first | omega | skip))))
 | refine Qcc rfl rfl rfl rfl (by push_cast; first | done | rfl) ?_
 | refine Qcd rfl rfl rfl rfl (by push_cast; first | done | rfl) ?_ ?_
 | (intro (hc : (_ : Prop)); (try push_cast at hc)) | intro (hc : Qad) | intro (hc : Int) | intro (hc : Nat))
   ·have hcn : cntOf (dGet d (k + i)).1 = min ((dGet d (k + i)).1.getD 2 0).toNat 53 := rfl
    refine Qbu [13, 18, 78, 79, 80, 81, 82, 83, 84, 85, 86, 87, 88, 89, 90, 91, 92, 93, 94, 95] [81, 94, 95] (fun (j : Nat) => j ≤ cntOf (dGet d (k + i)).1) (fun (j : Nat) => [(18, .one (.l (.int .i64 j))), (13, .one (.l (.own 95)))]) (fun (j : Nat) => [(95, .arr (.int .u8) (flatF (fun (j : Nat) => pieceOf (secAt d (k + j))) i ++ (pieceOf (dGet d (k + i)).1).take j))]) (fun (j : Nat) => cntOf (dGet d (k + i)).1 - j) 0 ?_ (by push_cast; first | done | rfl) (by push_cast; first | done | rfl) ?_ ?_
    ·omega
    ·push_cast
    ·intro j hj
     push_cast
     intro hg2
     have hx3 := hxi.at (3 + j)
     have ha : ((pieceOf (dGet d (k + i)).1).take j).length ≤ 53 := by
      have := pieceOf_le (dGet d (k + i)).1
      rw [List.length_take]; omega
     have e3 : (3 + (j : Int)).toNat = 3 + j := by omega
     repeat' (first
 | (intro (K' : KT) hK'; push_cast; (repeat' refine And.intro ?_ ?_); all_goals (first | (apply hK'; clear hK' K') | (refine ⟨trivial, trivial, ?_⟩; apply hK'; clear hK' K') | (intro hb; (try push_cast at hb); all_goals (intros; apply hK'; clear hK' K')) | ((first | refine Qbi r08Get_con (fun _ => rfl) ?_ | refine Qbi r09Number_con (fun _ => rfl) ?_ | refine Qbg r09Sectors_con (fun _ => rfl) ?_); push_cast; (repeat' refine And.intro ?_ ?_); all_goals (first | (apply hK'; clear hK' K') | (intros; apply hK'; clear hK' K') | (clear hK' K'; first | omega | skip))) | (clear hK' K'; first | omega | skip)))
 | apply Qar | apply Qa0 | apply Qac | apply Qah | apply Qaj | apply Qau
 | apply Qap | apply Qax | apply Qas | apply Qaq | apply Qa1 | apply Qal | apply Qae rfl | apply Qa6 | apply Qa7 | apply Qam | apply Qaz | apply Qay
 | (refine Qaf ?_; push_cast) | apply Qag | refine Qaa (Qa3 _ (by omega) (by omega)) ?_ | refine Qaa (Qb0 _ (by omega) (by omega)) ?_ | refine Qaa (Qba _ (by omega) (by omega)) ?_ | refine Qaa (Qa5 _ (by omega) (by omega)) ?_
 | refine Qai rfl rfl ?_ | refine Qat rfl rfl ?_
 | (refine Qak (by push_cast; first | done | rfl) ?_ ?_ <;> intro hc <;> (try push_cast at hc))
 | refine Qaw rfl rfl rfl (by push_cast; first | done | rfl) ?_
 | refine Qav rfl rfl rfl (by push_cast; first | done | rfl) ?_ ?_
 | refine Qbf (id := 26) [0, 1, 2, 3, 4, 5, 6, 7, 8] [] [58, 77, 98] (.done) wide (by kernel_rfl) ?_
 | apply Qby | apply Qbk | apply Qbn
 | refine Qbx rfl rfl rfl ?_ | refine Qbl rfl rfl rfl ?_
 | (refine Qbm rfl rfl rfl rfl ?_ ?_; rotate_left) | (refine Qbe rfl rfl rfl rfl ?_ ?_; rotate_left)
 | (refine Qbz rfl rfl rfl rfl ?_ ?_; rotate_left; focus (intro K' hK'; push_cast; (repeat' refine And.intro ?_ ?_); all_goals (first | (refine hK' _ _ _ _ _ (by push_cast) (by push_cast; first | done | rfl) ?_; clear hK' K') | ((first | refine Qbi r08Get_con (fun _ => rfl) ?_ | refine Qbi r09Number_con (fun _ => rfl) ?_ | refine Qbg r09Sectors_con (fun _ => rfl) ?_); push_cast; (repeat' refine And.intro ?_ ?_); all_goals (first | (refine hK' _ _ _ _ _ (by push_cast) (by push_cast; first | done | rfl) ?_; clear hK' K') | (intros; refine hK' _ _ _ _ _ (by push_cast) (by push_cast; first | done | rfl) ?_; clear hK' K') | (clear hK' K'; first | omega | skip))) | (clear hK' K'; first | omega | skip))))
 | refine Qcc rfl rfl rfl rfl (by push_cast; first | done | rfl) ?_
 | refine Qcd rfl rfl rfl rfl (by push_cast; first | done | rfl) ?_ ?_
 | (intro (hc : (_ : Prop)); (try push_cast at hc)) | intro (hc : Qad) | intro (hc : Int) | intro (hc : Nat))
     ·refine Qbv (j + 1) (by rw [hcn]; omega) (by omega) ?_
      push_cast
      rw [e3, piece_step _ hxi j (by rw [hcn]; omega), List.append_assoc]
     ·refine Qbv (i + 1) (by push_cast; omega) (by omega) ?_
      have ej : j = cntOf (dGet d (k + i)).1 := by rw [hcn]; omega
      have ep : (pieceOf (dGet d (k + i)).1).take j = pieceOf (secAt d (k + i)) := by rw [ej]; exact List.take_of_length_le (by rw [pieceOf_len _ hxi.1]; exact Nat.le_refl _)
      push_cast
      rw [ep, ← secsAt_s d k i, flatF_s]
      exact ⟨rfl, rfl⟩
     ·refine Qbv (i + 1) (by push_cast; omega) (by omega) ?_
      have ej : j = cntOf (dGet d (k + i)).1 := by rw [hcn]; omega
      have ep : (pieceOf (dGet d (k + i)).1).take j = pieceOf (secAt d (k + i)) := by rw [ej]; exact List.take_of_length_le (by rw [pieceOf_len _ hxi.1]; exact Nat.le_refl _)
      push_cast
      rw [ep, ← secsAt_s d k i, flatF_s]
      exact ⟨rfl, rfl⟩
   ·have ei : i = (totOf (secAt d k)).toNat := by show i = ((dGet d k).1.getD 1 0).toNat; omega
    have eB : flatF (fun (j : Nat) => pieceOf (secAt d (k + j))) i = readB d k := by rw [readB_flat, ei]
    rw [hbad (fun h => ?_)]
    ·exact ⟨rfl, rfl, rfl, rfl⟩
    ·have h1 := congrArg List.length h.2.2.2
     rw [← eB, ← ei] at h1
     have h2 : ((secsN (numK (dGet d k).1 8) (flatF (fun (j : Nat) => pieceOf (secAt d (k + j))) i)).length : Int) = ((secsAt d k i).length : Int) := by exact_mod_cast h1
     simp [h2] at hc
   ·have ei : i = (totOf (secAt d k)).toNat := by show i = ((dGet d k).1.getD 1 0).toNat; omega
    have eB : flatF (fun (j : Nat) => pieceOf (secAt d (k + j))) i = readB d k := by rw [readB_flat, ei]
    have hbad2 : ¬ secsN (numK (secAt d k) 8) (flatF (fun (j : Nat) => pieceOf (secAt d (k + j))) i) = secsAt d k i → sRead d k e = ([], 0, 0, 91) := fun h => hbad fun h2 => h (by rw [eB, h2.2.2.2, ← ei])
    have hlen : (secsN (numK (dGet d k).1 8) (flatF (fun (j : Nat) => pieceOf (secAt d (k + j))) i)).length = (secsAt d k i).length := by simp at hc; omega
    have hgood2 : secsN (numK (dGet d k).1 8) (flatF (fun (j : Nat) => pieceOf (secAt d (k + j))) i) = secsAt d k i → sRead d k e = (flatF (fun (j : Nat) => pieceOf (secAt d (k + j))) i, numK (dGet d k).1 8, (dGet d k).1.getD 1 0, 0) := fun h => by
     rw [eB] at h ⊢
     exact hgood (by rw [← ei]; exact h)
    clear hbad hfl hgood
    change ¬ secsN (numK (dGet d k).1 8) (flatF (fun (j : Nat) => pieceOf (secAt d (k + j))) i) = _ → _ at hbad2
    generalize secsN (numK (dGet d k).1 8) (flatF (fun (j : Nat) => pieceOf (secAt d (k + j))) i) = A at *
    refine Qbu [6, 7, 8, 9, 20, 106, 107, 108, 109, 110, 111, 112, 113, 114, 115, 116, 117, 118] [] (fun (m : Nat) => m ≤ i ∧ ∀ q, q < m → (secsAt d k i).getD q (Qc1 64 0) = A.getD q (Qc1 64 0)) (fun (m : Nat) => [(106, .one (.l (.int .i64 m)))]) (fun (m : Nat) => []) (fun (m : Nat) => i - m) 0 ?_ (by push_cast; first | done | rfl) (by push_cast; first | done | rfl) ?_ ?_
    ·exact ⟨Nat.zero_le _, fun q hq => absurd hq (Nat.not_lt_zero q)⟩
    ·push_cast
    ·rintro m ⟨hm, hall⟩
     push_cast
     intro hg3
     repeat' (first
 | (intro (K' : KT) hK'; push_cast; (repeat' refine And.intro ?_ ?_); all_goals (first | (apply hK'; clear hK' K') | (refine ⟨trivial, trivial, ?_⟩; apply hK'; clear hK' K') | (intro hb; (try push_cast at hb); all_goals (intros; apply hK'; clear hK' K')) | (clear hK' K'; first | omega | skip)))
 | apply Qar | apply Qa0 | apply Qac | apply Qah | apply Qaj | apply Qau
 | apply Qap | apply Qax | apply Qas | apply Qaq | apply Qa1 | apply Qal | apply Qae rfl | apply Qa6 | apply Qa7 | apply Qam | apply Qaz | apply Qay
 | (refine Qaf ?_; push_cast) | apply Qag | refine Qaa (Qa3 _ (by omega) (by omega)) ?_ | refine Qaa (Qb0 _ (by omega) (by omega)) ?_ | refine Qaa (Qba _ (by omega) (by omega)) ?_ | refine Qaa (Qa5 _ (by omega) (by omega)) ?_
 | refine Qai rfl rfl ?_ | refine Qat rfl rfl ?_
 | (refine Qak (by push_cast; first | done | rfl) ?_ ?_ <;> intro hc <;> (try push_cast at hc))
 | refine Qaw rfl rfl rfl (by push_cast; first | done | rfl) ?_
 | refine Qav rfl rfl rfl (by push_cast; first | done | rfl) ?_ ?_
 | refine Qbf (id := 26) [0, 1, 2, 3, 4, 5, 6, 7, 8] [] [58, 77, 98] (.done) wide (by kernel_rfl) ?_
 | apply Qby | apply Qbk | apply Qbn
 | refine Qbx rfl rfl rfl ?_ | refine Qbl rfl rfl rfl ?_
 | (refine Qbm rfl rfl rfl rfl ?_ ?_; rotate_left) | (refine Qbe rfl rfl rfl rfl ?_ ?_; rotate_left)
 | (refine Qbz rfl rfl rfl rfl ?_ ?_; rotate_left; focus (intro K' hK'; push_cast; (repeat' refine And.intro ?_ ?_); all_goals (first | (refine hK' _ _ _ _ _ (by push_cast) (by push_cast; first | done | rfl) ?_; clear hK' K') | (clear hK' K'; first | omega | skip))))
 | refine Qcc rfl rfl rfl rfl (by push_cast; first | done | rfl) ?_
 | refine Qcd rfl rfl rfl rfl (by push_cast; first | done | rfl) ?_ ?_
 | (intro (hc : (_ : Prop)); (try push_cast at hc)) | intro (hc : Qad) | intro (hc : Int) | intro (hc : Nat))
     ·rw [hbad2 (fun h => by rw [h] at hc; simp at hc)]; exact ⟨rfl, rfl, rfl, rfl⟩
     ·refine Qbv (m + 1) ⟨by omega, fun q hq => ?_⟩ (by omega) ?_
      ·by_cases e : q = m
       ·subst e; simpa using hc
       ·exact hall q (by omega)
      ·push_cast
     ·have em : m = i := by omega
      subst em
      rw [hgood2 (eq_of_getD (Qc1 64 0) hlen.symm.symm fun q hq => (hall q (by omega)).symm)]
      exact ⟨rfl, rfl, by rw [hsl]; show (m : Int) = (dGet d k).1.getD 1 0; omega, rfl⟩
 ·rw [h91 ‹_› ‹_› (.inr fun h => h.2.1 ‹_›)]; exact ⟨rfl, rfl, rfl, rfl⟩
 ·rw [h91 ‹_› ‹_› (.inr fun h => h.1 ‹_›)]; exact ⟨rfl, rfl, rfl, rfl⟩
 ·rw [h81 (.inl ‹_›)]; exact ⟨rfl, rfl, rfl, rfl⟩
theorem r09Read_con : Con Cx.P 91 (.pair Qa2 (.pair (.int .i64) (.pair (.int .i64) (.unit)))) (fun x => (fun (d : Qab) (k : Int) (e : Int) => True) x.1 x.2.1 x.2.2.1) (fun x => (fun (d : Qab) (k : Int) (e : Int) => [.dat (.slice (.int .u8)) (sRead d k e).1, .int .u64 (sRead d k e).2.1, .int .i64 (sRead d k e).2.2.1, .int .i64 (sRead d k e).2.2.2]) x.1 x.2.1 x.2.2.1) := ⟨Quc, fun x h => r09Read_fn x.1 x.2.1 x.2.2.1⟩
end Go.Proofs.Ytnmjcdlgfimnaaa
