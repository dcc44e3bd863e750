/- Chapter 10: records behind a crash that cuts one off, as plain law. -/
import Derived.Test.YtnmjcdlgfimnaaaS9t
namespace Go.Proofs.Ytnmjcdlgfimnaaa
theorem spend_fail {D : Qab} (h : (dSpend D).2 = false) : (dSpend D).1.Dead = true := by
 unfold dSpend at h ⊢
 grind
theorem putAll_gen : ∀ (l : List (List Int)) (D : Qab) (k : Int), 0 ≤ k → k + l.length ≤ D.Base.length →
    ∃ j, j ≤ l.length ∧ (putAll D k l).1.Base = D.Base ∧ (putAll D k l).1.Queue = D.Queue ++ itemsAt k (l.take j) ∧ (((putAll D k l).2 = 0 ∧ j = l.length) ∨ ((putAll D k l).2 = 82 ∧ (putAll D k l).1.Dead = true))
 | [], D, k, _, _ => ⟨0, Nat.le_refl _, rfl, by simp [putAll, itemsAt], .inl ⟨rfl, rfl⟩⟩
 | s :: l, D, k, h0, h1 => by
  simp only [List.length_cons] at h1
  have ht : dThere D k = true := by simp [dThere, h0]; omega
  have s1 := dSpend_base D
  have s2 := dSpend_queue D
  cases hs : (dSpend D).2 with
  | false =>
   have e : dPut D k s = ((dSpend D).1, 82) := by simp [dPut, ht, hs]
   have e2 : putAll D k (s :: l) = ((dSpend D).1, 82) := by
    rw [putAll, e, if_pos (by simp)]
   refine ⟨0, Nat.zero_le _, by rw [e2]; exact s1, by rw [e2]; simp [itemsAt, s2], .inr ?_⟩
   rw [e2]
   exact ⟨rfl, spend_fail hs⟩
  | true =>
   have e : dPut D k s = ({ (dSpend D).1 with Queue := (dSpend D).1.Queue ++ [⟨s, k⟩] }, 0) := by simp [dPut, ht, hs]
   obtain ⟨j, hj, hb, hq, hr⟩ := putAll_gen l (dPut D k s).1 (k + 1) (by omega) (by rw [dPut_len]; omega)
   have e2 : putAll D k (s :: l) = putAll (dPut D k s).1 (k + 1) l := by
    rw [putAll, if_neg (by rw [e]; simp)]
   refine ⟨j + 1, by simp only [List.length_cons]; omega, by rw [e2, hb, e]; exact s1, ?_, ?_⟩
   ·rw [e2, hq, e]
    simp [s2, itemsAt]
   ·rw [e2]
    rcases hr with ⟨h5, h6⟩ | h5
    ·exact .inl ⟨h5, by simp only [List.length_cons]; omega⟩
    ·exact .inr h5
theorem flush_gen (D : Qab) : ((dFlush D).2 = 0 ∧ (dFlush D).1.Base = landAll (fun _ => 64) 0 D.Queue D.Base ∧ (dFlush D).1.Queue = []) ∨ ((dFlush D).2 = 82 ∧ (dFlush D).1.Base = D.Base ∧ (dFlush D).1.Queue = D.Queue ∧ (dFlush D).1.Dead = true) := by
 have s1 := dSpend_base D
 have s2 := dSpend_queue D
 unfold dFlush
 cases hs : (dSpend D).2 with
 | true => exact .inl ⟨rfl, rfl, rfl⟩
 | false => exact .inr ⟨rfl, s1, s2, spend_fail hs⟩
end Go.Proofs.Ytnmjcdlgfimnaaa
