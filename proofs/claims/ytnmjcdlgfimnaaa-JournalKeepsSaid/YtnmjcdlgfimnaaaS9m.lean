/- Chapter 9: the plain law of what is written and read back. -/
import Derived.Test.YtnmjcdlgfimnaaaS9l
namespace Go.Proofs.Ytnmjcdlgfimnaaa
theorem read_inv {D : R08Disk} {k e : Int} (h : (sRead D k e).2.2.2 = 0) : RdOk D k e ∧ sRead D k e = (readB D k, numK (secAt D k) 8, totOf (secAt D k), 0) := by
  unfold sRead at h ⊢
  split at h
  · simp at h
  · split at h
    · simp at h
    · split at h
      · rename_i h1 h2 h3
        rw [if_neg h1, if_neg h2, if_pos h3]
        exact ⟨h3, rfl⟩
      · simp at h
theorem blank_len {m : Int} (h0 : 0 ≤ m) (h1 : m ≤ 2048) : ((dBlank m).Base.length : Int) = m := by
  simp only [dBlank, List.length_replicate]
  omega
theorem numK_zeros : numK zeros 8 = 0 := by decide
theorem itemsAt_len : ∀ (l : List (List Int)) (a : Int), (itemsAt a l).length = l.length
  | [], _ => rfl
  | s :: l, a => by simp only [itemsAt, List.length_cons, itemsAt_len l]
end Go.Proofs.Ytnmjcdlgfimnaaa
