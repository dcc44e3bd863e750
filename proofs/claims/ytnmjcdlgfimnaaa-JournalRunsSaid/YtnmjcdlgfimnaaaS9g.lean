/- Chapter 9: the code's Write. -/
import Derived.Test.YtnmjcdlgfimnaaaS9f
namespace Go.Proofs.Ytnmjcdlgfimnaaa
set_option linter.unusedSimpArgs false
set_option linter.unusedVariables false
set_option maxRecDepth 20000
attribute [local irreducible] Qb3 Qa9 vcA Qbp Wc
set_option maxHeartbeats 8000000
attribute [local push_cast] cutN_eq
theorem Write_fn (D : Qab) (k st : Int) (b : List Int) (hq : D.Queue.length ≤ 999000) (hbase : D.Base.length ≤ 4096) :
    Qcs Cx.P 38 [.l (.ptr 1 [] 0), .l (.int .i64 k), .l (.int .u64 st), .l (.dat (.slice (.int .u8)) b)] [(1, .obj DiskO D)] (tvL [.int .i64 (sPut D k st b).2]) [(1, .obj DiskO (sPut D k st b).1)] := by
 refine Qcs.go2 (E := Cx.env) (fn := Try.f38) (res := [_]) _ (Qc2.refl _) Try.func38 Qup rfl rfl (by simp [Qb1, SV.ids, LV.ids]) (by simp [Qao]) (by kernel_rfl) rfl ?_
 intro hf
 try push_cast at hf
 intro _
 have hT := spanN_bd b.length
 have hL := secsN_len st b
 have h91 : st = 0 ∨ spanN b.length = 0 → sPut D k st b = (D, 91) := fun h => by unfold sPut; rw [if_pos h]
 have h81 : ¬ st = 0 → ¬ spanN b.length = 0 → (k < 0 ∨ (D.Base.length : Int) - spanN b.length < k) → sPut D k st b = (D, 81) := fun h1 h2 h => by unfold sPut; rw [if_neg (by omega), if_pos h]
 have hgo : ¬ st = 0 → ¬ spanN b.length = 0 → ¬ (k < 0 ∨ (D.Base.length : Int) - spanN b.length < k) → sPut D k st b = putAll D k (secsN st b) := fun h1 h2 h => by unfold sPut; rw [if_neg (by omega), if_neg h]
 repeat' (first
 | (intro (K' : KT) hK'; push_cast; (repeat' refine And.intro ?_ ?_); all_goals (first | (apply hK'; clear hK' K') | (refine ⟨trivial, trivial, ?_⟩; apply hK'; clear hK' K') | (intro hb; (try push_cast at hb); all_goals (intros; apply hK'; clear hK' K')) | ((first | refine Qbi span_con (fun _ => rfl) ?_ | refine Qbr Size_con (fun _ _ => rfl) ?_); push_cast; (repeat' refine And.intro ?_ ?_); all_goals (first | (apply hK'; clear hK' K') | (intros; apply hK'; clear hK' K') | (clear hK' K'; first | omega | skip))) | (clear hK' K'; first | omega | skip)))
 | apply Qar | apply Qa0 | apply Qac | apply Qah | apply Qaj | apply Qau
 | apply Qap | apply Qax | apply Qas | apply Qaq | apply Qa1 | apply Qal | apply Qae rfl | apply Qa6 | apply Qa7 | apply Qam | apply Qaz | apply Qay
 | (refine Qaf ?_; push_cast) | apply Qag | refine Qaa (Qa3 _ (by omega) (by omega)) ?_ | refine Qaa (Qb0 _ (by omega) (by omega)) ?_ | refine Qaa (Qba _ (by omega) (by omega)) ?_ | refine Qaa (Qa5 _ (by omega) (by omega)) ?_
 | refine Qai rfl rfl ?_ | refine Qat rfl rfl ?_
 | (refine Qak (by push_cast; first | done | rfl) ?_ ?_ <;> intro hc <;> (try push_cast at hc))
 | refine Qaw rfl rfl rfl (by push_cast; first | done | rfl) ?_
 | refine Qav rfl rfl rfl (by push_cast; first | done | rfl) ?_ ?_
 | (intro (hc : (_ : Prop)); (try push_cast at hc)) | intro (hc : Qad) | intro (hc : Int) | intro (hc : Nat))
 ·rw [h91 (.inr ‹_›)]
  (refine Qc9.fin ⟨[(1, .obj DiskO D)], ?_, ?_, ?_, Qbb.refl _, ?_⟩
   ·push_cast
   ·push_cast
   ·simp [Qao]
   ·simp [tvL, TV.ids, SV.ids, LV.ids, Qb1])
 ·rw [h81 ‹_› ‹_› (.inr (by omega))]
  (refine Qc9.fin ⟨[(1, .obj DiskO D)], ?_, ?_, ?_, Qbb.refl _, ?_⟩
   ·push_cast
   ·push_cast
   ·simp [Qao]
   ·simp [tvL, TV.ids, SV.ids, LV.ids, Qb1])
 ·have hp := hgo ‹_› ‹_› (by omega)
  clear hgo h81 h91
  refine Qbu [8, 10, 11, 12, 35, 36, 37, 38, 39, 40, 41, 42, 43, 44, 45, 46, 47, 48, 49, 50, 51, 52, 53, 54, 55, 56, 57, 58, 59, 60, 61] [1, 45, 46, 56, 57] (fun (p : Qab × Nat) => PutTo D k (secsN st b) p.1 p.2) (fun (p : Qab × Nat) => [(35, .one (.l (.int .i64 p.2)))]) (fun (p : Qab × Nat) => [(1, .obj DiskO p.1)]) (fun (p : Qab × Nat) => (secsN st b).length - p.2) (D, 0) ?_ (by push_cast; first | done | rfl) (by push_cast; first | done | rfl) ?_ ?_
  ·exact putTo_0 _ _ _
  ·push_cast
  ·rintro ⟨F, i⟩ hi
   simp only at hi
   push_cast
   intro hg
   have hq := hi.q
   have hle := hi.le
   have hfb := hi.base
   have hs := spanN_lt b.length i
   have hp2 := pieceN_le b i
   have hget : (i : Int) < spanN b.length → (secsN st b)[i]? = some (madeN i (spanN b.length) st (pieceN b i)) := fun h => secsN_get st b i (by omega)
   repeat' (first
 | (intro (K' : KT) hK'; push_cast; (repeat' refine And.intro ?_ ?_); all_goals (first | (apply hK'; clear hK' K') | (refine ⟨trivial, trivial, ?_⟩; apply hK'; clear hK' K') | (intro hb; (try push_cast at hb); all_goals (intros; apply hK'; clear hK' K')) | ((first | refine Qbi made_con (fun _ => rfl) ?_ | refine Qbr Put_con (fun _ _ => rfl) ?_); push_cast; (repeat' refine And.intro ?_ ?_); all_goals (first | (apply hK'; clear hK' K') | (intros; apply hK'; clear hK' K') | (clear hK' K'; first | omega | skip))) | (clear hK' K'; first | omega | skip)))
 | apply Qar | apply Qa0 | apply Qac | apply Qah | apply Qaj | apply Qau
 | apply Qap | apply Qax | apply Qas | apply Qaq | apply Qa1 | apply Qal | apply Qae rfl | apply Qa6 | apply Qa7 | apply Qam | apply Qaz | apply Qay
 | (refine Qaf ?_; push_cast) | apply Qag | refine Qaa (Qa3 _ (by omega) (by omega)) ?_ | refine Qaa (Qb0 _ (by omega) (by omega)) ?_ | refine Qaa (Qba _ (by omega) (by omega)) ?_ | refine Qaa (Qa5 _ (by omega) (by omega)) ?_
 | refine Qai rfl rfl ?_ | refine Qat rfl rfl ?_
 | (refine Qak (by push_cast; first | done | rfl) ?_ ?_ <;> intro hc <;> (try push_cast at hc))
 | refine Qaw rfl rfl rfl (by push_cast; first | done | rfl) ?_
 | refine Qav rfl rfl rfl (by push_cast; first | done | rfl) ?_ ?_
 | (intro (hc : (_ : Prop)); (try push_cast at hc)) | intro (hc : Qad) | intro (hc : Int) | intro (hc : Nat))
   ·rw [hp, putTo_e hi (hget ‹_›) (by simpa using hc)]
    (refine Qc9.fin ⟨[(1, .obj DiskO (dPut F (k + i) (madeN i (spanN b.length) st (pieceN b i))).1)], ?_, ?_, ?_, Qbb.refl _, ?_⟩
     ·push_cast
     ·push_cast
     ·simp [Qao]
     ·simp [tvL, TV.ids, SV.ids, LV.ids, Qb1])
   ·refine Qbv (_, i + 1) (putTo_s hi (hget ‹_›) (by simpa using hc)) (by simp only; omega) ?_
    push_cast
   ·have e : i = (secsN st b).length := by omega
    subst e
    rw [hp, putTo_all hi]
    (refine Qc9.fin ⟨[(1, .obj DiskO F)], ?_, ?_, ?_, Qbb.refl _, ?_⟩
     ·push_cast
     ·push_cast
     ·simp [Qao]
     ·simp [tvL, TV.ids, SV.ids, LV.ids, Qb1])
 ·rw [h81 ‹_› ‹_› (.inl ‹_›)]
  (refine Qc9.fin ⟨[(1, .obj DiskO D)], ?_, ?_, ?_, Qbb.refl _, ?_⟩
   ·push_cast
   ·push_cast
   ·simp [Qao]
   ·simp [tvL, TV.ids, SV.ids, LV.ids, Qb1])
 ·rw [h91 (.inl ‹_›)]
  (refine Qc9.fin ⟨[(1, .obj DiskO D)], ?_, ?_, ?_, Qbb.refl _, ?_⟩
   ·push_cast
   ·push_cast
   ·simp [Qao]
   ·simp [tvL, TV.ids, SV.ids, LV.ids, Qb1])
theorem Write_con : Qkc Cx.P 38 DiskO (.pair (.int .i64) (.pair (.int .u64) (.pair (.slice (.int .u8)) .unit))) (fun D _ => D.Queue.length ≤ 999000 ∧ D.Base.length ≤ 4096)
    (fun D x => [.int .i64 (sPut D x.1 x.2.1 x.2.2.1).2]) (fun D x => (sPut D x.1 x.2.1 x.2.2.1).1) := ⟨Qup, fun D x h => Write_fn D x.1 x.2.1 x.2.2.1 h.1 h.2⟩
end Go.Proofs.Ytnmjcdlgfimnaaa
