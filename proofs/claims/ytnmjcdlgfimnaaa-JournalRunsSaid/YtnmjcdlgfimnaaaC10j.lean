/- Chapter 10: an append that a fuse may cut off, as plain law. -/
import Derived.Test.YtnmjcdlgfimnaaaC10i
import Derived.Test.YtnmjcdlgfimnaaaC10e
import Derived.Test.YtnmjcdlgfimnaaaC11e
namespace Go.Proofs.Ytnmjcdlgfimnaaa
theorem crc_bytes (r : List Int) : ∀ x ∈ crcN r, 0 ≤ x ∧ x ≤ 255 := by
 intro x hx
 have h : ∀ n, 0 ≤ IntKind.u8.wrap n ∧ IntKind.u8.wrap n ≤ 255 := fun n => (Qm7 _).1 (Qdu .u8 n)
 simp only [crcN, tailN, List.mem_cons, List.not_mem_nil, or_false] at hx
 rcases hx with rfl | rfl | rfl | rfl <;> exact h _
theorem close_bytes {r : List Int} (hb : ∀ x ∈ r, 0 ≤ x ∧ x ≤ 255) : ∀ x ∈ closeN r, 0 ≤ x ∧ x ≤ 255 := by
 intro x hx
 simp only [closeN, List.mem_append] at hx
 rcases hx with h | h
 ·exact hb x h
 ·exact crc_bytes r x h
theorem secs_ok {st : Int} {b : List Int} (hb : ∀ x ∈ b, 0 ≤ x ∧ x ≤ 255) : ∀ s ∈ secsN st b, SecOk s := by
 intro s hs
 have := spanN_bd b.length
 simp only [secsN, List.mem_map, List.mem_range] at hs
 obtain ⟨i, hi, rfl⟩ := hs
 exact made_ok (by omega) (by omega) (pieceN_le b i) (piece_bytes hb i)
end Go.Proofs.Ytnmjcdlgfimnaaa
