/- Chapter 10's statements: it is alive; the same records. -/
import Derived.Test.YtnmjcdlgfimnaaaC10f
import Derived.Test.YtnmjcdlgfimnaaaL9a
namespace Go.Proofs.Ytnmjcdlgfimnaaa
theorem logOk_blank {n k e : Int} (h0 : 0 ≤ k) (h1 : k ≤ e) (h2 : e ≤ n) (h3 : n ≤ 2048) (fl : Int) (hf : 0 ≤ fl ∧ fl < 4611686018427387904) : LogOk ⟨dBlank n, k, e, fl + 1⟩ n.toNat k (fl + 1) [] := by
 refine ⟨blank_quiet n (by omega) h3, rfl, h0, h1, by show e ≤ (n.toNat : Int); omega, by simp, ⟨by omega, by simp only [List.length_nil]; omega⟩, trivial, fun k _ _ => ?_⟩
 show numK (secAt (dBlank n) k) 8 ≤ _
 rw [get_zeros, numK_zeros]
 omega
theorem openL_new {n k e : Int} (h0 : 0 ≤ k) (h1 : k ≤ e) (h2 : e ≤ n) (h3 : n ≤ 2048) (fl : Int) (hf : 0 ≤ fl ∧ fl < 4611686018427387904) : openL (dBlank n) k e fl = ⟨dBlank n, k, e, fl + 1⟩ := by
 have hb := blank_len (m := n) (by omega) h3
 have ht : (topN (dBlank n) k e).1 = 0 := by
  unfold topN
  rw [blank_top _ k (by omega) (by omega)]
 unfold openL
 rw [ht, blank_recs fl hf.1 k, Qa5 _ (by omega) (by omega)]
 have : max fl 0 + 1 = fl + 1 := by omega
 rw [this]
def sameR (a : List (List Int)) (b : List (List UInt8)) : Bool := decide (a.map Qcj = b)
theorem map_getD (a : List (List Int)) (i : Nat) : (a.map Qcj).getD i [] = Qcj (a.getD i []) := by
 simp only [List.getD_eq_getElem?_getD, List.getElem?_map]
 cases a[i]? <;> rfl
theorem same_ne {a : List (List Int)} {b : List (List UInt8)} {i : Nat} (h : ¬ Qcj (a.getD i []) = b.getD i []) : sameR a b = false := by
 unfold sameR
 rw [decide_eq_false]
 rintro rfl
 exact h (map_getD a i).symm
theorem same_eq {a : List (List Int)} {b : List (List UInt8)} (hl : a.length = b.length) (h : ∀ j, j < a.length → Qcj (a.getD j []) = b.getD j []) : sameR a b = true := by
 unfold sameR
 rw [decide_eq_true]
 refine eq_of_getD [] (by simpa using hl) fun j hj => ?_
 rw [map_getD]
 exact h j (by simpa using hj)
section
set_option linter.unusedSimpArgs false
set_option linter.unusedVariables false
set_option maxRecDepth 20000
attribute [local irreducible] Qb3 Qa9 vcA Qbp Wc
set_option maxHeartbeats 8000000
theorem same10_fn (a : List (List Int)) (b : List (List UInt8)) : Qck Cx.P 56 [.dat (.slice (.slice (.int .u8))) a, .dat (.slice .str) b] [.bool (sameR a b)] := by
 refine Qck.go2 (E := Cx.env) (fn := Try.f56) (res := [_]) Try.func56 Qu0 rfl rfl rfl (by kernel_rfl) rfl ?_
 push_cast
 try intro hf
 repeat' (first
 | (intro (K' : KT) hK'; push_cast; (repeat' refine And.intro ?_ ?_); all_goals (first | (apply hK'; clear hK' K') | (refine ⟨trivial, trivial, ?_⟩; apply hK'; clear hK' K') | (intro hb; (try push_cast at hb); all_goals (intros; apply hK'; clear hK' K')) | (clear hK' K'; first | omega | skip)))
 | apply Qar | apply Qa0 | apply Qac | apply Qah | apply Qaj | apply Qau
 | apply Qap | apply Qax | apply Qas | apply Qaq | apply Qa1 | apply Qal | apply Qae rfl | apply Qa6 | apply Qa7 | apply Qam | apply Qaz | apply Qay
 | (refine Qaf ?_; push_cast) | apply Qag | refine Qaa (Qa3 _ (by omega) (by omega)) ?_ | refine Qaa (Qb0 _ (by omega) (by omega)) ?_ | refine Qaa (Qba _ (by omega) (by omega)) ?_ | refine Qaa (Qa5 _ (by omega) (by omega)) ?_
 | refine Qai rfl rfl ?_ | refine Qat rfl rfl ?_
 | (refine Qak (by push_cast; first | done | rfl) ?_ ?_ <;> intro hc <;> (try push_cast at hc))
 | refine Qaw rfl rfl rfl (by push_cast; first | done | rfl) ?_
 | refine Qav rfl rfl rfl (by push_cast; first | done | rfl) ?_ ?_
 | refine Qbf (id := 6) [0, 1, 2, 3, 4, 5, 6, 7, 8, 9] [] [0, 1] (.done) wide (by kernel_rfl) ?_
 | apply Qby | apply Qbk | apply Qbn
 | refine Qbx rfl rfl rfl ?_ | refine Qbl rfl rfl rfl ?_
 | (refine Qbm rfl rfl rfl rfl ?_ ?_; rotate_left) | (refine Qbe rfl rfl rfl rfl ?_ ?_; rotate_left)
 | (refine Qbz rfl rfl rfl rfl ?_ ?_; rotate_left; focus (intro K' hK'; push_cast; (repeat' refine And.intro ?_ ?_); all_goals (first | (refine hK' _ _ _ _ _ (by push_cast) (by push_cast; first | done | rfl) ?_; clear hK' K') | (clear hK' K'; first | omega | skip))))
 | refine Qcc rfl rfl rfl rfl (by push_cast; first | done | rfl) ?_
 | refine Qcd rfl rfl rfl rfl (by push_cast; first | done | rfl) ?_ ?_
 | (intro (hc : (_ : Prop)); (try push_cast at hc)) | intro (hc : Qad) | intro (hc : Int) | intro (hc : Nat))
 ·have h1 : ¬ a.map Qcj = b := fun h => by
   rw [← h] at hc
   simp at hc
  simp [sameR, h1]
 ·have hlen : a.length = b.length := by simp at hc; omega
  refine Qbu [4, 5, 13, 14, 15, 16, 17, 18, 19, 20, 21, 22, 23, 24, 25, 26] [20] (fun (i : Nat) => i ≤ a.length ∧ ∀ j, j < i → Qcj (a.getD j []) = b.getD j []) (fun (i : Nat) => [(13, .one (.l (.int .i64 i)))]) (fun (i : Nat) => []) (fun (i : Nat) => a.length - i) 0 ?_ (by push_cast; first | done | rfl) (by push_cast; first | done | rfl) ?_ ?_
  ·exact ⟨Nat.zero_le _, fun j hj => absurd hj (Nat.not_lt_zero j)⟩
  ·push_cast
  ·rintro i ⟨hi, hall⟩
   push_cast
   intro hg
   repeat' (first
 | (intro (K' : KT) hK'; push_cast; (repeat' refine And.intro ?_ ?_); all_goals (first | (apply hK'; clear hK' K') | (refine ⟨trivial, trivial, ?_⟩; apply hK'; clear hK' K') | (intro hb; (try push_cast at hb); all_goals (intros; apply hK'; clear hK' K')) | (clear hK' K'; first | omega | skip)))
 | apply Qar | apply Qa0 | apply Qac | apply Qah | apply Qaj | apply Qau
 | apply Qap | apply Qax | apply Qas | apply Qaq | apply Qa1 | apply Qal | apply Qae rfl | apply Qa6 | apply Qa7 | apply Qam | apply Qaz | apply Qay
 | (refine Qaf ?_; push_cast) | apply Qag | refine Qaa (Qa3 _ (by omega) (by omega)) ?_ | refine Qaa (Qb0 _ (by omega) (by omega)) ?_ | refine Qaa (Qba _ (by omega) (by omega)) ?_ | refine Qaa (Qa5 _ (by omega) (by omega)) ?_
 | refine Qai rfl rfl ?_ | refine Qat rfl rfl ?_
 | (refine Qak (by push_cast; first | done | rfl) ?_ ?_ <;> intro hc <;> (try push_cast at hc))
 | refine Qaw rfl rfl rfl (by push_cast; first | done | rfl) ?_
 | refine Qav rfl rfl rfl (by push_cast; first | done | rfl) ?_ ?_
 | refine Qbf (id := 6) [0, 1, 2, 3, 4, 5, 6, 7, 8, 9] [] [0, 1] (.done) wide (by kernel_rfl) ?_
 | apply Qby | apply Qbk | apply Qbn
 | refine Qbx rfl rfl rfl ?_ | refine Qbl rfl rfl rfl ?_
 | (refine Qbm rfl rfl rfl rfl ?_ ?_; rotate_left) | (refine Qbe rfl rfl rfl rfl ?_ ?_; rotate_left)
 | (refine Qbz rfl rfl rfl rfl ?_ ?_; rotate_left; focus (intro K' hK'; push_cast; (repeat' refine And.intro ?_ ?_); all_goals (first | (refine hK' _ _ _ _ _ (by push_cast) (by push_cast; first | done | rfl) ?_; clear hK' K') | (clear hK' K'; first | omega | skip))))
 | refine Qcc rfl rfl rfl rfl (by push_cast; first | done | rfl) ?_
 | refine Qcd rfl rfl rfl rfl (by push_cast; first | done | rfl) ?_ ?_
 | (intro (hc : (_ : Prop)); (try push_cast at hc)) | intro (hc : Qad) | intro (hc : Int) | intro (hc : Nat))
   ·have hne : ¬ Qcj (a.getD i []) = b.getD i [] := fun h => by
     rw [h] at hc
     simp at hc
    rw [same_ne hne]
   ·refine Qbv (i + 1) ⟨by omega, fun j hj => ?_⟩ (by omega) ?_
    ·by_cases e : j = i
     ·subst e
      have h9 := hc
      rw [Bool.not_eq_false'] at h9
      exact eq_of_beq h9
     ·exact hall j (by omega)
    ·push_cast
   ·rw [same_eq hlen fun j hj => hall j (by omega)]
theorem same10_con : Con Cx.P 56 (.pair (.slice (.slice (.int .u8))) (.pair (.slice .str) (.unit))) (fun x => (fun (a : List (List Int)) (b : List (List UInt8)) => True) x.1 x.2.1) (fun x => (fun (a : List (List Int)) (b : List (List UInt8)) => [.bool (sameR a b)]) x.1 x.2.1) := ⟨Qu0, fun x h => same10_fn x.1 x.2.1⟩
end
def aliveL : LogS := (appN ⟨dBlank 6, 1, 6, 1⟩ [97, 98]).1
theorem alive_ok : (appN ⟨dBlank 6, 1, 6, 1⟩ [97, 98]).2 = 0 ∧ LogOk aliveL 6 1 1 [[97, 98]] ∧ aliveL.a = 2 ∧ aliveL.e = 6 := by
 have hn : needN (([97, 98] : List Int).length : Int) = 1 := by decide
 have h := (logOk_app (logOk_blank (n := 6) (k := 1) (e := 6) (by decide) (by decide) (by decide) (by decide) 0 (by decide)) [97, 98] (by decide)).2.2 (by rw [hn]; decide) (by rw [hn]; decide)
 obtain ⟨h1, h2, h3, h4⟩ := h
 rw [hn] at h3
 exact ⟨h1, h2, h3, h4⟩
theorem al_open : openL (dBlank 6) 1 6 0 = ⟨dBlank 6, 1, 6, 1⟩ := openL_new (by decide) (by decide) (by decide) (by decide) 0 (by decide)
theorem al_recs : recsN (dBlank 6) 1 6 0 = ([], 1) := blank_recs 0 (by decide) 1
theorem al_app : appN ⟨dBlank 6, 1, 6, 1⟩ [97, 98] = (aliveL, 0) := Prod.ext rfl alive_ok.1
theorem al_a : aliveL.a = 2 := alive_ok.2.2.1
theorem al_e : aliveL.e = 6 := alive_ok.2.2.2
theorem al_base : aliveL.D.Base.length = 6 := alive_ok.2.1.quiet.base
theorem al_again : recsN aliveL.D 1 6 0 = ([[97, 98]], 2) := by
 have := logOk_recs alive_ok.2.1
 rw [al_a, al_e] at this
 exact this
theorem al_len : (dBlank 6).Base.length = 6 := by decide
theorem al_q : (dBlank 6).Queue.length = 0 := rfl
theorem al_same : sameR [[97, 98]] [[97, 98]] = true := by decide
section
set_option linter.unusedSimpArgs false
set_option linter.unusedVariables false
set_option maxRecDepth 20000
attribute [local irreducible] Qb3 Qa9 vcA Qbp Wc
set_option maxHeartbeats 8000000
attribute [local push_cast] al_open al_recs al_app al_a al_e al_base al_again al_len al_q al_same
end
end Go.Proofs.Ytnmjcdlgfimnaaa
