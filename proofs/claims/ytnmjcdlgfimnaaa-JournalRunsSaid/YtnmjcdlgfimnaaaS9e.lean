/- Chapter 9: bytes as sectors with a stamp, as the document has them. -/
import Derived.Test.YtnmjcdlgfimnaaaS1
import Derived.Test.YtnmjcdlgfimnaaaA7
namespace Go.Proofs.Ytnmjcdlgfimnaaa
set_option linter.unusedSimpArgs false
set_option linter.unusedVariables false
set_option maxRecDepth 20000
attribute [local irreducible] Qb3 Qa9 vcA Qbp Wc
set_option maxHeartbeats 8000000
theorem tmod_u (x : Int) (h : 0 ≤ x) : x.tmod 256 = x % 256 := Int.tmod_eq_emod_of_nonneg h
theorem tdiv_u (x : Int) (h : 0 ≤ x) : x.tdiv 256 = x / 256 := Int.tdiv_eq_ediv_of_nonneg h
theorem r09Sectors_fn (st : Int) (b : List Int) : Qck Cx.P 88 [.int .u64 st, .dat (.slice (.int .u8)) b] [.dat (.slice (.arr 64 (.int .u8))) (secsN st b)] := by
 refine Qck.go2 (E := Cx.env) (fn := Try.f88) (res := [_]) Try.func88 Qtx rfl rfl rfl (by kernel_rfl) rfl ?_
 push_cast
 try intro hf
 have hT := spanN_bd b.length
 repeat' (first
 | (intro (K' : KT) hK'; push_cast; (repeat' refine And.intro ?_ ?_); all_goals (first | (apply hK'; clear hK' K') | (refine ⟨trivial, trivial, ?_⟩; apply hK'; clear hK' K') | (intro hb; (try push_cast at hb); all_goals (intros; apply hK'; clear hK' K')) | ((first | refine Qbi r09Span_con (fun _ => rfl) ?_); push_cast; (repeat' refine And.intro ?_ ?_); all_goals (first | (apply hK'; clear hK' K') | (intros; apply hK'; clear hK' K') | (clear hK' K'; first | omega | skip))) | (clear hK' K'; first | omega | skip)))
 | apply Qar | apply Qa0 | apply Qac | apply Qah | apply Qaj | apply Qau
 | apply Qap | apply Qax | apply Qas | apply Qaq | apply Qa1 | apply Qal | apply Qae rfl | apply Qa6 | apply Qa7 | apply Qam | apply Qaz | apply Qay
 | (refine Qaf ?_; push_cast) | apply Qag | refine Qaa (Qa3 _ (by omega) (by omega)) ?_ | refine Qaa (Qb0 _ (by omega) (by omega)) ?_ | refine Qaa (Qba _ (by omega) (by omega)) ?_ | refine Qaa (Qa5 _ (by omega) (by omega)) ?_
 | refine Qai rfl rfl ?_ | refine Qat rfl rfl ?_
 | (refine Qak (by push_cast; first | done | rfl) ?_ ?_ <;> intro hc <;> (try push_cast at hc))
 | refine Qaw rfl rfl rfl (by push_cast; first | done | rfl) ?_
 | refine Qav rfl rfl rfl (by push_cast; first | done | rfl) ?_ ?_
 | (intro (hc : (_ : Prop)); (try push_cast at hc)) | intro (hc : Qad) | intro (hc : Int) | intro (hc : Nat))
 refine Qg1 12 70 rfl (by push_cast) (by decide) ?_
 push_cast
 refine Qbu [5, 7, 8, 9, 10, 11, 12, 16, 17, 18, 19, 20, 21, 22, 23, 24, 25, 26, 27, 28, 29, 30, 31, 32, 33, 34, 35, 36, 37, 38, 39, 40, 41, 42, 43, 44, 45, 46, 47, 48, 49, 50, 51, 52, 53, 54, 55, 56, 57, 58, 59, 60, 61, 62, 63, 64, 65, 66, 67, 68, 69, 70] [8, 23, 26, 36, 63, 69, 70] (fun (i : Nat) => (i : Int) ≤ spanN b.length) (fun (i : Nat) => [(7, .one (.l (.int .i64 i))), (5, .one (.l (.own 70)))]) (fun (i : Nat) => [(70, .arr (.arr 64 (.int .u8)) ((secsN st b).take i))]) (fun (i : Nat) => (spanN b.length).toNat - i) 0 ?_ (by push_cast; first | done | rfl) (by push_cast; first | done | rfl) ?_ ?_
 ·exact hT.1
 ·push_cast
  simp
 ·intro i hi
  push_cast
  intro hg
  have hl : ((secsN st b).take i).length = i := by rw [List.length_take, secsN_len]; omega
  repeat' (first
 | (intro (K' : KT) hK'; push_cast; (repeat' refine And.intro ?_ ?_); all_goals (first | (apply hK'; clear hK' K') | (refine ⟨trivial, trivial, ?_⟩; apply hK'; clear hK' K') | (intro hb; (try push_cast at hb); all_goals (intros; apply hK'; clear hK' K')) | (clear hK' K'; first | omega | skip)))
 | apply Qar | apply Qa0 | apply Qac | apply Qah | apply Qaj | apply Qau
 | apply Qap | apply Qax | apply Qas | apply Qaq | apply Qa1 | apply Qal | apply Qae rfl | apply Qa6 | apply Qa7 | apply Qam | apply Qaz | apply Qay
 | (refine Qaf ?_; push_cast) | apply Qag | refine Qaa (Qa3 _ (by omega) (by omega)) ?_ | refine Qaa (Qb0 _ (by omega) (by omega)) ?_ | refine Qaa (Qba _ (by omega) (by omega)) ?_ | refine Qaa (Qa5 _ (by omega) (by omega)) ?_
 | refine Qai rfl rfl ?_ | refine Qat rfl rfl ?_
 | (refine Qak (by push_cast; first | done | rfl) ?_ ?_ <;> intro hc <;> (try push_cast at hc))
 | refine Qaw rfl rfl rfl (by push_cast; first | done | rfl) ?_
 | refine Qav rfl rfl rfl (by push_cast; first | done | rfl) ?_ ?_
 | (intro (hc : (_ : Prop)); (try push_cast at hc)) | intro (hc : Qad) | intro (hc : Int) | intro (hc : Nat))
  ·have hp := pieceN_len b i
   have hp2 := pieceN_le b i
   generalize hq : pieceN b i = p at hp hp2
   refine Qbu [9, 28, 29, 30, 31, 32, 33, 34, 35, 36, 37, 38, 39, 40, 41, 42, 43, 44, 45, 46, 47, 48, 49, 50, 51, 52, 53, 54] [8, 36] (fun (k : Nat) => k ≤ p.length) (fun (k : Nat) => [(9, .one (.l (.int .i64 k)))]) (fun (k : Nat) => [(8, .segs [.dat (.arr 64 (.int .u8)) (copyP k i (spanN b.length) p)])]) (fun (k : Nat) => p.length - k) 0 ?_ (by push_cast; first | done | rfl) (by push_cast; first | done | rfl) ?_ ?_
   ·omega
   ·push_cast
    rfl
   ·intro k hk
    push_cast
    intro hg2
    repeat' (first
 | (intro (K' : KT) hK'; push_cast; (repeat' refine And.intro ?_ ?_); all_goals (first | (apply hK'; clear hK' K') | (refine ⟨trivial, trivial, ?_⟩; apply hK'; clear hK' K') | (intro hb; (try push_cast at hb); all_goals (intros; apply hK'; clear hK' K')) | (clear hK' K'; first | omega | skip)))
 | apply Qar | apply Qa0 | apply Qac | apply Qah | apply Qaj | apply Qau
 | apply Qap | apply Qax | apply Qas | apply Qaq | apply Qa1 | apply Qal | apply Qae rfl | apply Qa6 | apply Qa7 | apply Qam | apply Qaz | apply Qay
 | (refine Qaf ?_; push_cast) | apply Qag | refine Qaa (Qa3 _ (by omega) (by omega)) ?_ | refine Qaa (Qb0 _ (by omega) (by omega)) ?_ | refine Qaa (Qba _ (by omega) (by omega)) ?_ | refine Qaa (Qa5 _ (by omega) (by omega)) ?_
 | refine Qai rfl rfl ?_ | refine Qat rfl rfl ?_
 | (refine Qak (by push_cast; first | done | rfl) ?_ ?_ <;> intro hc <;> (try push_cast at hc))
 | refine Qaw rfl rfl rfl (by push_cast; first | done | rfl) ?_
 | refine Qav rfl rfl rfl (by push_cast; first | done | rfl) ?_ ?_
 | (intro (hc : (_ : Prop)); (try push_cast at hc)) | intro (hc : Qad) | intro (hc : Int) | intro (hc : Nat))
    ·refine Qbv (k + 1) (by omega) (by omega) ?_
     have e1 : (copyP k i (spanN b.length) p).getD 2 0 = k := rfl
     have e2 : (53 * (i : Int) + k).toNat = 53 * i + k := by omega
     have e3 : (3 + (k : Int)).toNat = 3 + k := by omega
     have e4 : p.getD k 0 = b.getD (53 * i + k) 0 := by rw [← hq]; exact pieceN_getD b i k (by omega)
     push_cast
     rw [e1, e2, e3, ← e4, wrap_u8]
     have e5 : ((k : Int) + 1) % 256 = k + 1 := by omega
     rw [e5, copyP_set k i (spanN b.length) p (by omega) hp2]
    ·have ek : k = p.length := by omega
     subst ek
     rw [copyP_end i (spanN b.length) st p hp2]
     clear hp hg2 hc hk
     refine Qbu [10, 11, 56, 57, 58, 59, 60, 61, 62, 63, 64, 65, 66] [8, 63] (fun (j : Nat) => j ≤ 8) (fun (j : Nat) => [(11, .one (.l (.int .i64 (56 + (j : Int))))), (10, .one (.l (.int .u64 (st / 256 ^ j))))]) (fun (j : Nat) => [(8, .segs [.dat (.arr 64 (.int .u8)) (madeP j i (spanN b.length) st p)])]) (fun (j : Nat) => 8 - j) 0 ?_ (by push_cast; first | done | rfl) (by push_cast; first | done | rfl) ?_ ?_
     ·omega
     ·push_cast
      simp
     ·intro j hj
      push_cast
      intro hg3
      have hb := stamp_bd hf.1 j
      have ht := tmod_u _ hb.1
      have hd := tdiv_u _ hb.1
      have hm : 0 ≤ st / 256 ^ j % 256 ∧ st / 256 ^ j % 256 < 256 := ⟨Int.emod_nonneg _ (by decide), Int.emod_lt_of_pos _ (by decide)⟩
      repeat' (first
 | (intro (K' : KT) hK'; push_cast; (repeat' refine And.intro ?_ ?_); all_goals (first | (apply hK'; clear hK' K') | (refine ⟨trivial, trivial, ?_⟩; apply hK'; clear hK' K') | (intro hb; (try push_cast at hb); all_goals (intros; apply hK'; clear hK' K')) | (clear hK' K'; first | omega | skip)))
 | apply Qar | apply Qa0 | apply Qac | apply Qah | apply Qaj | apply Qau
 | apply Qap | apply Qax | apply Qas | apply Qaq | apply Qa1 | apply Qal | apply Qae rfl | apply Qa6 | apply Qa7 | apply Qam | apply Qaz | apply Qay
 | (refine Qaf ?_; push_cast) | apply Qag | refine Qaa (Qa3 _ (by omega) (by omega)) ?_ | refine Qaa (Qb0 _ (by omega) (by omega)) ?_ | refine Qaa (Qba _ (by omega) (by omega)) ?_ | refine Qaa (Qa5 _ (by omega) (by omega)) ?_
 | refine Qai rfl rfl ?_ | refine Qat rfl rfl ?_
 | (refine Qak (by push_cast; first | done | rfl) ?_ ?_ <;> intro hc <;> (try push_cast at hc))
 | refine Qaw rfl rfl rfl (by push_cast; first | done | rfl) ?_
 | refine Qav rfl rfl rfl (by push_cast; first | done | rfl) ?_ ?_
 | (intro (hc : (_ : Prop)); (try push_cast at hc)) | intro (hc : Qad) | intro (hc : Int) | intro (hc : Nat))
      ·refine Qbv (j + 1) (by omega) (by omega) ?_
       have e : (56 + (j : Int)).toNat = 56 + j := by omega
       push_cast
       rw [e, ht, hd, stamp_step]
       rw [madeP_set j i (spanN b.length) st p hp2 (by omega)]
       refine ⟨⟨by omega, ?_⟩, ?_⟩ <;> trivial
      ·refine Qbv (i + 1) (by push_cast; omega) (by omega) ?_
       have e8 : j = 8 := by omega
       subst e8
       push_cast
       rw [madeP_8, ← hq, ← secsN_take st b i (by omega)]
    ·have ek : k = p.length := by omega
     subst ek
     rw [copyP_end i (spanN b.length) st p hp2]
     clear hp hg2 hc hk
     refine Qbu [10, 11, 56, 57, 58, 59, 60, 61, 62, 63, 64, 65, 66] [8, 63] (fun (j : Nat) => j ≤ 8) (fun (j : Nat) => [(11, .one (.l (.int .i64 (56 + (j : Int))))), (10, .one (.l (.int .u64 (st / 256 ^ j))))]) (fun (j : Nat) => [(8, .segs [.dat (.arr 64 (.int .u8)) (madeP j i (spanN b.length) st p)])]) (fun (j : Nat) => 8 - j) 0 ?_ (by push_cast; first | done | rfl) (by push_cast; first | done | rfl) ?_ ?_
     ·omega
     ·push_cast
      simp
     ·intro j hj
      push_cast
      intro hg3
      have hb := stamp_bd hf.1 j
      have ht := tmod_u _ hb.1
      have hd := tdiv_u _ hb.1
      have hm : 0 ≤ st / 256 ^ j % 256 ∧ st / 256 ^ j % 256 < 256 := ⟨Int.emod_nonneg _ (by decide), Int.emod_lt_of_pos _ (by decide)⟩
      repeat' (first
 | (intro (K' : KT) hK'; push_cast; (repeat' refine And.intro ?_ ?_); all_goals (first | (apply hK'; clear hK' K') | (refine ⟨trivial, trivial, ?_⟩; apply hK'; clear hK' K') | (intro hb; (try push_cast at hb); all_goals (intros; apply hK'; clear hK' K')) | (clear hK' K'; first | omega | skip)))
 | apply Qar | apply Qa0 | apply Qac | apply Qah | apply Qaj | apply Qau
 | apply Qap | apply Qax | apply Qas | apply Qaq | apply Qa1 | apply Qal | apply Qae rfl | apply Qa6 | apply Qa7 | apply Qam | apply Qaz | apply Qay
 | (refine Qaf ?_; push_cast) | apply Qag | refine Qaa (Qa3 _ (by omega) (by omega)) ?_ | refine Qaa (Qb0 _ (by omega) (by omega)) ?_ | refine Qaa (Qba _ (by omega) (by omega)) ?_ | refine Qaa (Qa5 _ (by omega) (by omega)) ?_
 | refine Qai rfl rfl ?_ | refine Qat rfl rfl ?_
 | (refine Qak (by push_cast; first | done | rfl) ?_ ?_ <;> intro hc <;> (try push_cast at hc))
 | refine Qaw rfl rfl rfl (by push_cast; first | done | rfl) ?_
 | refine Qav rfl rfl rfl (by push_cast; first | done | rfl) ?_ ?_
 | (intro (hc : (_ : Prop)); (try push_cast at hc)) | intro (hc : Qad) | intro (hc : Int) | intro (hc : Nat))
      ·refine Qbv (j + 1) (by omega) (by omega) ?_
       have e : (56 + (j : Int)).toNat = 56 + j := by omega
       push_cast
       rw [e, ht, hd, stamp_step]
       rw [madeP_set j i (spanN b.length) st p hp2 (by omega)]
       refine ⟨⟨by omega, ?_⟩, ?_⟩ <;> trivial
      ·refine Qbv (i + 1) (by push_cast; omega) (by omega) ?_
       have e8 : j = 8 := by omega
       subst e8
       push_cast
       rw [madeP_8, ← hq, ← secsN_take st b i (by omega)]
  ·have e : i = (spanN b.length).toNat := by omega
   rw [e, List.take_of_length_le (by rw [secsN_len]; exact Nat.le_refl _)]
theorem r09Sectors_con : Con Cx.P 88 (.pair (.int .u64) (.pair (.slice (.int .u8)) (.unit))) (fun x => (fun (st : Int) (b : List Int) => True) x.1 x.2.1) (fun x => (fun (st : Int) (b : List Int) => [.dat (.slice (.arr 64 (.int .u8))) (secsN st b)]) x.1 x.2.1) := ⟨Qtx, fun x h => r09Sectors_fn x.1 x.2.1⟩
end Go.Proofs.Ytnmjcdlgfimnaaa
