/- Chapter 12's statements: it is alive. -/
import Derived.Test.YtnmjcdlgfimnaaaJ1
import Derived.Test.YtnmjcdlgfimnaaaL11a
namespace Go.Proofs.Ytnmjcdlgfimnaaa
theorem same_self12 (a : List (List Int)) : sameR a (a.map Qcj) = true := by simp [sameR]
section
set_option linter.unusedSimpArgs false
set_option linter.unusedVariables false
set_option maxRecDepth 20000
attribute [local irreducible] Qb3 Qa9 vcA Qbp Wc
set_option maxHeartbeats 8000000
theorem jAlive_fn : Qck Cx.P 66 [] [.bool true] := by
 refine Qck.go2 (E := Cx.env) (fn := Try.f66) (res := [_]) Try.func66 Quy rfl rfl rfl (by kernel_rfl) rfl ?_
 push_cast
 try intro hf
 have hb8 : ((dBlank 8).Base.length : Int) = 8 := by decide
 have hq8 : (dBlank 8).Queue.length = 0 := rfl
 have hn0 : numB 0 = [0] := numB_low (by decide)
 obtain ⟨h1, h2, h3, h4⟩ := jok_new (n := 8) (z := 2) (by decide) (by decide) [97, 98] (by rw [close_len, hn0]; decide)
 have e4 : (2 * 2 : Int) = 4 := by decide
 rw [e4] at h1 h2 h4
 have hz : (jNew (dBlank 8) 2 [97, 98]).z = 2 := rfl
 repeat' (first
 | (intro (K' : KT) hK'; push_cast; (repeat' refine And.intro ?_ ?_); all_goals (first | (apply hK'; clear hK' K') | (refine ⟨trivial, trivial, ?_⟩; apply hK'; clear hK' K') | (intro hb; (try push_cast at hb); all_goals (intros; apply hK'; clear hK' K')) | ((first | refine Qqd Blank_con 9100 ?_ | refine call_Fo 9300 9200 ?_); push_cast; (repeat' refine And.intro ?_ ?_); all_goals (first | (apply hK'; clear hK' K') | (intros; apply hK'; clear hK' K') | (clear hK' K'; first | omega | skip))) | (clear hK' K'; first | omega | skip)))
 | apply Qar | refine Qbo (id := 2) ?_ | apply Qac | apply Qah | apply Qaj | apply Qau
 | apply Qap | apply Qax | apply Qas | apply Qam | apply Qaz | apply Qay
 | (refine Qaf ?_; push_cast) | apply Qag | refine Qaa (Qa3 _ (by omega) (by omega)) ?_ | refine Qaa (Qb0 _ (by omega) (by omega)) ?_ | refine Qaa (Qba _ (by omega) (by omega)) ?_ | refine Qaa (Qa5 _ (by omega) (by omega)) ?_
 | refine Qai rfl rfl ?_ | refine Qat rfl rfl ?_
 | (refine Qak (by push_cast; first | done | rfl) ?_ ?_ <;> intro hc <;> (try push_cast at hc))
 | refine Qaw rfl rfl rfl (by push_cast; first | done | rfl) ?_
 | refine Qav rfl rfl rfl (by push_cast; first | done | rfl) ?_ ?_
 | (intro (hc : (_ : Prop)); (try push_cast at hc)) | intro (hc : Qad) | intro (hc : Int) | intro (hc : Nat))
 ·generalize jNew (dBlank 8) 2 [97, 98] = J at *
  obtain ⟨⟨D, a, e, st⟩, z, b⟩ := J
  simp only at h4 hz
  subst hz
  have hb : b = true := h3.r
  subst hb
  have h3 : JOk ⟨⟨D, a, e, st⟩, 2, true⟩ 8 1 0 [97, 98] [] := h3
  have he : e = 8 := h3.e
  subst he
  have hq : D.Queue.length = 0 := by have := h3.log.quiet.q; simp only at this; rw [this]; rfl
  have hbl : D.Base.length = 8 := h3.log.quiet.base
  obtain ⟨p1, p2, p3⟩ := jok_app h3 [99] (by decide)
  obtain ⟨p4, p5, p6⟩ := p3 (by decide) (by simp only [h4]; decide)
  have p7 := jok_read p5
  have p8 := jok_recs p5
  have p9 : (jApp ⟨⟨D, a, 8, st⟩, 2, true⟩ [99]).1.L.D.Base.length = 8 := p5.log.quiet.base
  clear p1 p2
  rw [p6] at p7 p8
  simp only at p7 p8
  apply Qc5
  push_cast
  repeat' (first
 | (intro (K' : KT) hK'; push_cast; (repeat' refine And.intro ?_ ?_); all_goals (first | (apply hK'; clear hK' K') | (refine ⟨trivial, trivial, ?_⟩; apply hK'; clear hK' K') | (intro hb; (try push_cast at hb); all_goals (intros; apply hK'; clear hK' K')) | ((first | refine call_J jReady_con (fun _ _ => rfl) ?_ | refine call_J jApp_con (fun _ _ => rfl) ?_ | refine call_Jo 9301 9201 _ _ _ rfl p7 ?_ | refine Qbi same10_con (fun _ => rfl) ?_); push_cast; (repeat' refine And.intro ?_ ?_); all_goals (first | (apply hK'; clear hK' K') | (intros; apply hK'; clear hK' K') | (clear hK' K'; first | omega | skip))) | (clear hK' K'; first | omega | skip)))
 | apply Qar | apply Qac | apply Qah | apply Qaj | apply Qau
 | apply Qap | apply Qax | apply Qas | apply Qam | apply Qaz | apply Qay
 | (refine Qaf ?_; push_cast) | apply Qag | refine Qaa (Qa3 _ (by omega) (by omega)) ?_ | refine Qaa (Qb0 _ (by omega) (by omega)) ?_ | refine Qaa (Qba _ (by omega) (by omega)) ?_ | refine Qaa (Qa5 _ (by omega) (by omega)) ?_
 | refine Qai rfl rfl ?_ | refine Qat rfl rfl ?_
 | (refine Qak (by push_cast; first | done | rfl) ?_ ?_ <;> intro hc <;> (try push_cast at hc))
 | refine Qaw rfl rfl rfl (by push_cast; first | done | rfl) ?_
 | refine Qav rfl rfl rfl (by push_cast; first | done | rfl) ?_ ?_
 | (intro (hc : (_ : Prop)); (try push_cast at hc)) | intro (hc : Qad) | intro (hc : Int) | intro (hc : Nat))
  all_goals (try (exfalso; rw [p4] at hc; simp at hc; done))
  all_goals (try rfl)
  ·have e8 : ((jApp ⟨⟨D, a, 8, st⟩, 2, true⟩ [99]).1.L.D.Base.length : Int) = 8 := by rw [p9]; rfl
   rw [e4] at p8
   rw [e8]
   have p8 : recsN (jApp ⟨⟨D, a, 8, st⟩, 2, true⟩ [99]).1.L.D 4 8 0 = _ := p8
   rw [p8]
   show sameR [[99]] [[99]] = true
   decide
  ·exfalso
   have h9 := ‹(Qcj [97, 98] == _) = false›
   revert h9
   decide
theorem jAlive_con : Con Cx.P 66 (.unit) (fun x => True) (fun x => [.bool true]) := ⟨Quy, fun x h => jAlive_fn ⟩
end
end Go.Proofs.Ytnmjcdlgfimnaaa
