/- Chapter 9's statements: all of it, or nothing. -/
import Derived.Test.YtnmjcdlgfimnaaaL9a
import Derived.Test.YtnmjcdlgfimnaaaS9t
import Derived.Test.YtnmjcdlgfimnaaaS9h
namespace Go.Proofs.Ytnmjcdlgfimnaaa
set_option linter.unusedSimpArgs false
set_option linter.unusedVariables false
set_option maxRecDepth 20000
attribute [local irreducible] Qb3 Qa9 vcA Qbp Wc
set_option maxHeartbeats 8000000
end Go.Proofs.Ytnmjcdlgfimnaaa
namespace Go.Proofs.Ytnmjcdlgfimnaaa
set_option linter.unusedSimpArgs false
set_option linter.unusedVariables false
set_option maxRecDepth 20000
attribute [local irreducible] Qb3 Qa9 vcA Qbp Wc
set_option maxHeartbeats 8000000
theorem dPut_to {D : Qab} (h : ∀ y ∈ D.Queue, 0 ≤ y.To ∧ y.To < D.Base.length) (k : Int) (s : List Int) : ∀ y ∈ (dPut D k s).1.Queue, 0 ≤ y.To ∧ y.To < D.Base.length := by
 have s2 := dSpend_queue D
 unfold dPut
 split
 ·rename_i ht
  have ht := there_iff ht
  split
  ·intro y hy
   simp only [s2, List.mem_append, List.mem_singleton] at hy
   rcases hy with hy | rfl
   ·exact h y hy
   ·exact ht
  ·simp only [s2]; exact h
 ·exact h
theorem putAll_to : ∀ (l : List (List Int)) {D : Qab} (_ : ∀ y ∈ D.Queue, 0 ≤ y.To ∧ y.To < D.Base.length) (k : Int), ∀ y ∈ (putAll D k l).1.Queue, 0 ≤ y.To ∧ y.To < D.Base.length
 | [], _, h, _ => h
 | s :: l, D, h, k => by
  have h1 := dPut_to h k s
  have h2 := dPut_len D k s
  unfold putAll
  split
  ·exact h1
  ·have := putAll_to l (D := (dPut D k s).1) (by rw [h2]; exact h1) (k + 1)
   rw [h2] at this
   exact this
theorem sPut_to {D : Qab} (h : ∀ y ∈ D.Queue, 0 ≤ y.To ∧ y.To < D.Base.length) (k st : Int) (b : List Int) : ∀ y ∈ (sPut D k st b).1.Queue, 0 ≤ y.To ∧ y.To < D.Base.length := by
 unfold sPut
 split
 ·exact h
 ·split
  ·exact h
  ·exact putAll_to _ h k
end Go.Proofs.Ytnmjcdlgfimnaaa
