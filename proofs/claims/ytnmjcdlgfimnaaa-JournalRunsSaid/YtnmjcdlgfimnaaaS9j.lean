/- Chapter 9: the greatest stamp: the document's and the code's. -/
import Derived.Test.YtnmjcdlgfimnaaaS2
import Derived.Test.YtnmjcdlgfimnaaaS9g
namespace Go.Proofs.Ytnmjcdlgfimnaaa
set_option linter.unusedSimpArgs false
set_option linter.unusedVariables false
set_option maxRecDepth 20000
attribute [local irreducible] Qb3 Qa9 vcA Qbp Wc
set_option maxHeartbeats 8000000
def topN (D : Qab) (k e : Int) : Int × Int := sTop D (e - k).toNat k 0
theorem sTop_s (D : Qab) (n : Nat) (i top : Int) : sTop D (n + 1) i top = if (dGet D i).2 ≠ 0 then (0, (dGet D i).2) else sTop D n (i + 1) (max top (numK (dGet D i).1 8)) := rfl
structure TopTo (D : Qab) (k e : Int) (top : Int) (i : Nat) : Prop where
 le : i ≤ (e - k).toNat
 rest : topN D k e = sTop D ((e - k).toNat - i) (k + i) top
theorem topTo_0 (D : Qab) (k e : Int) : TopTo D k e 0 0 := ⟨Nat.zero_le _, by simp [topN]⟩
theorem topTo_s {D : Qab} {k e top : Int} {i : Nat} (h : TopTo D k e top i) (hi : k + i < e) (h0 : (dGet D (k + i)).2 = 0) : TopTo D k e (max top (numK (dGet D (k + i)).1 8)) (i + 1) := by
 refine ⟨by omega, ?_⟩
 have e1 : (e - k).toNat - i = ((e - k).toNat - (i + 1)) + 1 := by omega
 rw [h.rest, e1, sTop_s, if_neg (by simpa using h0)]
 congr 1
 push_cast
 omega
theorem topTo_e {D : Qab} {k e top : Int} {i : Nat} (h : TopTo D k e top i) (hi : k + i < e) (h0 : ¬ (dGet D (k + i)).2 = 0) : topN D k e = (0, (dGet D (k + i)).2) := by
 have e1 : (e - k).toNat - i = ((e - k).toNat - (i + 1)) + 1 := by omega
 rw [h.rest, e1, sTop_s, if_pos h0]
theorem topTo_all {D : Qab} {k e top : Int} {i : Nat} (h : TopTo D k e top i) (hi : ¬ k + i < e) : topN D k e = (top, 0) := by
 have e1 : (e - k).toNat - i = 0 := by omega
 rw [h.rest, e1]; rfl
theorem r09Top_fn (d : Qab) (k : Int) (e : Int) : Qck Cx.P 48 [.dat Qa2 d, .int .i64 k, .int .i64 e] [.int .u64 (topN d k e).1, .int .i64 (topN d k e).2] := by
 refine Qck.go2 (E := Cx.env) (fn := Try.f48) (res := [_, _]) Try.func48 Qu2 rfl rfl rfl (by kernel_rfl) rfl ?_
 push_cast
 try intro hf
 repeat' (first
 | (intro (K' : KT) hK'; push_cast; (repeat' refine And.intro ?_ ?_); all_goals (first | (apply hK'; clear hK' K') | (refine ⟨trivial, trivial, ?_⟩; apply hK'; clear hK' K') | (intro hb; (try push_cast at hb); all_goals (intros; apply hK'; clear hK' K')) | (clear hK' K'; first | omega | skip)))
 | apply Qar | apply Qa0 | apply Qac | apply Qah | apply Qaj | apply Qau
 | apply Qap | apply Qax | apply Qas | apply Qaq | apply Qa1 | apply Qal | apply Qae rfl | apply Qa6 | apply Qa7 | apply Qam | apply Qaz | apply Qay
 | (refine Qaf ?_; push_cast) | apply Qag | refine Qaa (Qa3 _ (by omega) (by omega)) ?_ | refine Qaa (Qb0 _ (by omega) (by omega)) ?_ | refine Qaa (Qba _ (by omega) (by omega)) ?_ | refine Qaa (Qa5 _ (by omega) (by omega)) ?_
 | refine Qai rfl rfl ?_ | refine Qat rfl rfl ?_
 | (refine Qak (by push_cast; first | done | rfl) ?_ ?_ <;> intro hc <;> (try push_cast at hc))
 | refine Qaw rfl rfl rfl (by push_cast; first | done | rfl) ?_
 | refine Qav rfl rfl rfl (by push_cast; first | done | rfl) ?_ ?_
 | (intro (hc : (_ : Prop)); (try push_cast at hc)) | intro (hc : Qad) | intro (hc : Int) | intro (hc : Nat))
 refine Qbu [6, 7, 8, 9, 10, 11, 13, 14, 15, 16, 17, 18, 19, 20, 21, 22, 23, 24, 25, 26, 27, 28, 29, 30] [10, 21, 29, 30] (fun (p : Int × Nat) => TopTo d k e p.1 p.2) (fun (p : Int × Nat) => [(9, .one (.l (.int .i64 (k + (p.2 : Int))))), (8, .one (.l (.int .u64 p.1)))]) (fun (p : Int × Nat) => []) (fun (p : Int × Nat) => (e - k).toNat - p.2) (0, 0) ?_ (by push_cast; first | done | rfl) (by push_cast; first | done | rfl) ?_ ?_
 ·exact topTo_0 _ _ _
 ·push_cast
  simp
 ·rintro ⟨top, i⟩ hi
  simp only at hi
  push_cast
  intro hg
  have hle := hi.le
  repeat' (first
 | (intro (K' : KT) hK'; push_cast; (repeat' refine And.intro ?_ ?_); all_goals (first | (apply hK'; clear hK' K') | (refine ⟨trivial, trivial, ?_⟩; apply hK'; clear hK' K') | (intro hb; (try push_cast at hb); all_goals (intros; apply hK'; clear hK' K')) | ((first | refine Qbi r08Get_con (fun _ => rfl) ?_ | refine Qbi r09Number_con (fun _ => rfl) ?_); push_cast; (repeat' refine And.intro ?_ ?_); all_goals (first | (apply hK'; clear hK' K') | (intros; apply hK'; clear hK' K') | (clear hK' K'; first | omega | skip))) | (clear hK' K'; first | omega | skip)))
 | apply Qar | apply Qa0 | apply Qac | apply Qah | apply Qaj | apply Qau
 | apply Qap | apply Qax | apply Qas | apply Qaq | apply Qa1 | apply Qal | apply Qae rfl | apply Qa6 | apply Qa7 | apply Qam | apply Qaz | apply Qay
 | (refine Qaf ?_; push_cast) | apply Qag | refine Qaa (Qa3 _ (by omega) (by omega)) ?_ | refine Qaa (Qb0 _ (by omega) (by omega)) ?_ | refine Qaa (Qba _ (by omega) (by omega)) ?_ | refine Qaa (Qa5 _ (by omega) (by omega)) ?_
 | refine Qai rfl rfl ?_ | refine Qat rfl rfl ?_
 | (refine Qak (by push_cast; first | done | rfl) ?_ ?_ <;> intro hc <;> (try push_cast at hc))
 | refine Qaw rfl rfl rfl (by push_cast; first | done | rfl) ?_
 | refine Qav rfl rfl rfl (by push_cast; first | done | rfl) ?_ ?_
 | (intro (hc : (_ : Prop)); (try push_cast at hc)) | intro (hc : Qad) | intro (hc : Int) | intro (hc : Nat))
  ·rw [topTo_e hi ‹_› (by simpa using hc)]; exact ⟨rfl, rfl⟩
  ·refine Qbv (_, i + 1) (topTo_s hi ‹_› (by simpa using ‹(!decide ((dGet d (k + i)).2 = 0)) = false›)) (by simp only; omega) ?_
   push_cast
   omega
  ·rw [topTo_all hi ‹_›]; exact ⟨rfl, rfl⟩
theorem r09Top_con : Con Cx.P 48 (.pair Qa2 (.pair (.int .i64) (.pair (.int .i64) (.unit)))) (fun x => (fun (d : Qab) (k : Int) (e : Int) => True) x.1 x.2.1 x.2.2.1) (fun x => (fun (d : Qab) (k : Int) (e : Int) => [.int .u64 (topN d k e).1, .int .i64 (topN d k e).2]) x.1 x.2.1 x.2.2.1) := ⟨Qu2, fun x h => r09Top_fn x.1 x.2.1 x.2.2.1⟩
theorem Top_fn (D : Qab) (k e : Int) : Qcs Cx.P 47 [.l (.ptr 1 [] 0), .l (.int .i64 k), .l (.int .i64 e)] [(1, .obj DiskO D)] (tvL [.int .u64 (topN D k e).1, .int .i64 (topN D k e).2]) [(1, .obj DiskO D)] := by
 refine Qcs.go2 (E := Cx.env) (fn := Try.f47) (res := [_, _]) _ (Qc2.refl _) Try.func47 Qud rfl rfl (by simp [Qb1, SV.ids, LV.ids]) (by simp [Qao]) (by kernel_rfl) rfl ?_
 intro hf
 try push_cast at hf
 intro _
 repeat' (first
 | (intro (K' : KT) hK'; push_cast; (repeat' refine And.intro ?_ ?_); all_goals (first | (apply hK'; clear hK' K') | (refine ⟨trivial, trivial, ?_⟩; apply hK'; clear hK' K') | (intro hb; (try push_cast at hb); all_goals (intros; apply hK'; clear hK' K')) | (clear hK' K'; first | omega | skip)))
 | apply Qar | apply Qa0 | apply Qac | apply Qah | apply Qaj | apply Qau
 | apply Qap | apply Qax | apply Qas | apply Qaq | apply Qa1 | apply Qal | apply Qae rfl | apply Qa6 | apply Qa7 | apply Qam | apply Qaz | apply Qay
 | (refine Qaf ?_; push_cast) | apply Qag | refine Qaa (Qa3 _ (by omega) (by omega)) ?_ | refine Qaa (Qb0 _ (by omega) (by omega)) ?_ | refine Qaa (Qba _ (by omega) (by omega)) ?_ | refine Qaa (Qa5 _ (by omega) (by omega)) ?_
 | refine Qai rfl rfl ?_ | refine Qat rfl rfl ?_
 | (refine Qak (by push_cast; first | done | rfl) ?_ ?_ <;> intro hc <;> (try push_cast at hc))
 | refine Qaw rfl rfl rfl (by push_cast; first | done | rfl) ?_
 | refine Qav rfl rfl rfl (by push_cast; first | done | rfl) ?_ ?_
 | (intro (hc : (_ : Prop)); (try push_cast at hc)) | intro (hc : Qad) | intro (hc : Int) | intro (hc : Nat))
 refine Qbu [6, 7, 8, 9, 10, 11, 13, 14, 15, 16, 17, 18, 19, 20, 21, 22, 23, 24, 25, 26, 27, 28, 29, 30] [10, 21, 29, 30] (fun (p : Int × Nat) => TopTo D k e p.1 p.2) (fun (p : Int × Nat) => [(9, .one (.l (.int .i64 (k + (p.2 : Int))))), (8, .one (.l (.int .u64 p.1)))]) (fun (p : Int × Nat) => []) (fun (p : Int × Nat) => (e - k).toNat - p.2) (0, 0) ?_ (by push_cast; first | done | rfl) (by push_cast; first | done | rfl) ?_ ?_
 ·exact topTo_0 _ _ _
 ·push_cast
  simp
 ·rintro ⟨top, i⟩ hi
  simp only at hi
  push_cast
  intro hg
  have hle := hi.le
  repeat' (first
 | (intro (K' : KT) hK'; push_cast; (repeat' refine And.intro ?_ ?_); all_goals (first | (apply hK'; clear hK' K') | (refine ⟨trivial, trivial, ?_⟩; apply hK'; clear hK' K') | (intro hb; (try push_cast at hb); all_goals (intros; apply hK'; clear hK' K')) | ((first | refine Qbr Get_con (fun _ _ => rfl) ?_ | refine Qbi stNumber_con (fun _ => rfl) ?_); push_cast; (repeat' refine And.intro ?_ ?_); all_goals (first | (apply hK'; clear hK' K') | (intros; apply hK'; clear hK' K') | (clear hK' K'; first | omega | skip))) | (clear hK' K'; first | omega | skip)))
 | apply Qar | apply Qa0 | apply Qac | apply Qah | apply Qaj | apply Qau
 | apply Qap | apply Qax | apply Qas | apply Qaq | apply Qa1 | apply Qal | apply Qae rfl | apply Qa6 | apply Qa7 | apply Qam | apply Qaz | apply Qay
 | (refine Qaf ?_; push_cast) | apply Qag | refine Qaa (Qa3 _ (by omega) (by omega)) ?_ | refine Qaa (Qb0 _ (by omega) (by omega)) ?_ | refine Qaa (Qba _ (by omega) (by omega)) ?_ | refine Qaa (Qa5 _ (by omega) (by omega)) ?_
 | refine Qai rfl rfl ?_ | refine Qat rfl rfl ?_
 | (refine Qak (by push_cast; first | done | rfl) ?_ ?_ <;> intro hc <;> (try push_cast at hc))
 | refine Qaw rfl rfl rfl (by push_cast; first | done | rfl) ?_
 | refine Qav rfl rfl rfl (by push_cast; first | done | rfl) ?_ ?_
 | (intro (hc : (_ : Prop)); (try push_cast at hc)) | intro (hc : Qad) | intro (hc : Int) | intro (hc : Nat))
  ·rw [topTo_e hi ‹_› (by simpa using hc)]
   (refine Qc9.fin ⟨[(1, .obj DiskO D)], ?_, ?_, ?_, Qbb.refl _, ?_⟩
    ·push_cast
    ·push_cast
    ·simp [Qao]
    ·simp [tvL, TV.ids, SV.ids, LV.ids, Qb1])
  ·refine Qbv (_, i + 1) (topTo_s hi ‹_› (by simpa using ‹(!decide ((dGet D (k + i)).2 = 0)) = false›)) (by simp only; omega) ?_
   push_cast
   omega
  ·rw [topTo_all hi ‹_›]
   (refine Qc9.fin ⟨[(1, .obj DiskO D)], ?_, ?_, ?_, Qbb.refl _, ?_⟩
    ·push_cast
    ·push_cast
    ·simp [Qao]
    ·simp [tvL, TV.ids, SV.ids, LV.ids, Qb1])
theorem Top_con : Qkc Cx.P 47 DiskO (.pair (.int .i64) (.pair (.int .i64) .unit)) (fun _ _ => True)
    (fun D x => [.int .u64 (topN D x.1 x.2.1).1, .int .i64 (topN D x.1 x.2.1).2]) (fun D _ => D) := ⟨Qud, fun D x _ => Top_fn D x.1 x.2.1⟩
end Go.Proofs.Ytnmjcdlgfimnaaa
