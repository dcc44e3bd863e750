/- Chapter 11's statements: it is alive; both places by turns. -/
import Derived.Test.YtnmjcdlgfimnaaaC11e
import Derived.Test.YtnmjcdlgfimnaaaL9a
namespace Go.Proofs.Ytnmjcdlgfimnaaa
theorem close_len (b : List Int) : (closeN b).length = b.length + 4 := by simp [closeN, crcN_len]
def slA : Qab := (slWrite (dBlank 6) 1 2 [97, 98]).1
theorem slA_ok : slWrite (dBlank 6) 1 2 [97, 98] = (slA, 1, 0) ∧ slRead slA 1 2 = ([97, 98], 1, 0) := by
 have hs : spanN (closeN [97, 98]).length = 1 := by rw [close_len]; decide
 obtain ⟨h1, h2, _⟩ := slotOk_write (slotOk_blank (n := 6) (k := 1) (z := 2) (by decide) (by decide) (by decide) (by decide) (by decide)) (fun _ => slotOk_zero) (by decide) [97, 98] (by rw [hs]; decide)
 exact ⟨Prod.ext rfl h1, slotOk_read h2 (by decide)⟩
theorem slA_w : slWrite (dBlank 6) 1 2 [97, 98] = (slA, 1, 0) := slA_ok.1
theorem slA_r : slRead slA 1 2 = ([97, 98], 1, 0) := slA_ok.2
theorem blank6_q : (dBlank 6).Queue.length = 0 := rfl
theorem blank6_len : (dBlank 6).Base.length = 6 := by decide
section
set_option linter.unusedSimpArgs false
set_option linter.unusedVariables false
set_option maxRecDepth 20000
attribute [local irreducible] Qb3 Qa9 vcA Qbp Wc
set_option maxHeartbeats 8000000
attribute [local push_cast] slA_w slA_r blank6_q blank6_len
end
theorem blank40_len : (dBlank 40).Base.length = 40 := by decide
section
set_option linter.unusedSimpArgs false
set_option linter.unusedVariables false
set_option maxRecDepth 20000
attribute [local irreducible] Qb3 Qa9 vcA Qbp Wc
set_option maxHeartbeats 8000000
attribute [local push_cast] blank40_len
end
end Go.Proofs.Ytnmjcdlgfimnaaa
