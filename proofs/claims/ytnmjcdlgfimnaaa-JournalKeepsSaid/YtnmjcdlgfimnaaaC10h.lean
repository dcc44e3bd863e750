/- Chapter 10: records behind a crash that cuts one off, as plain law. -/
import Derived.Test.YtnmjcdlgfimnaaaS9t
namespace Go.Proofs.Ytnmjcdlgfimnaaa
theorem span_cover {b : List Int} (h : spanN b.length ≠ 0) : (b.length : Int) ≤ 53 * spanN b.length ∧ 1 ≤ spanN b.length := by
  unfold spanN at h ⊢
  split at h
  · simp at h
  · rename_i h1
    rw [if_neg h1]
    omega
theorem torn_core {E : R08Disk} {k e floor st : Int} {b : List Int} (hT : spanN b.length ≠ 0) (hb : ∀ x ∈ b, 0 ≤ x ∧ x ≤ 255)
    (hsec : ∀ i : Nat, (i : Int) < spanN b.length → ∃ n old, n ≤ 64 ∧ SecOk old ∧ numK old 8 ≤ floor ∧ secAt E (k + i) = mixTo n old (madeN i (spanN b.length) st (pieceN b i)))
    (h0 : (sRead E k e).2.2.2 = 0) (h1 : floor < (sRead E k e).2.1) : (sRead E k e).1 = b ∧ (sRead E k e).2.2.1 = spanN b.length := by
  obtain ⟨hcov, hs1⟩ := span_cover hT
  have hbd := spanN_bd b.length
  obtain ⟨hok, he⟩ := read_inv h0
  rw [he] at h1 ⊢
  simp only at h1 ⊢
  have hm64 : ∀ i : Nat, (madeN i (spanN b.length) st (pieceN b i)).length = 64 := fun i => madeN_len _ _ _ _ (pieceN_le b i)
  have hnew : ∀ i : Nat, (i : Int) < spanN b.length → floor < numK (secAt E (k + i)) 8 → ∀ j, j < 56 → (secAt E (k + i)).getD j 0 = (madeN i (spanN b.length) st (pieceN b i)).getD j 0 := by
    intro i hi hlt j hj
    obtain ⟨n, old, hn, hold, hf, e⟩ := hsec i hi
    rw [e] at hlt ⊢
    by_cases hn2 : n ≤ 56
    · exfalso
      have : numK (mixTo n old (madeN i (spanN b.length) st (pieceN b i))) 8 = numK old 8 := by
        refine numK_congr fun j h5 h6 => ?_
        rw [mix_get n _ _ hold.1 (hm64 i) hn j h6, if_neg (by omega)]
      omega
    · rw [mix_get n _ _ hold.1 (hm64 i) hn j (by omega), if_pos (by omega)]
  have hEok : ∀ i : Nat, (i : Int) < spanN b.length → SecOk (secAt E (k + i)) := by
    intro i hi
    obtain ⟨n, old, hn, hold, hf, e⟩ := hsec i hi
    rw [e]
    exact mix_ok hold (made_ok (by omega) (by omega) (pieceN_le b i) (piece_bytes hb i)) n
  have e0 : secAt E (k + (0 : Nat)) = secAt E k := by simp
  have htot : totOf (secAt E k) = spanN b.length := by
    have := hnew 0 (by omega) (by rw [e0]; exact h1) 1 (by omega)
    rw [e0] at this
    exact this
  refine ⟨?_, htot⟩
  rw [readB_flat, htot]
  have hbd2 : 0 ≤ numK (secAt E k) 8 ∧ numK (secAt E k) 8 ≤ 18446744073709551615 := by
    have h7 := hEok 0 (by omega)
    rw [e0] at h7
    have h8 := numK_bd h7.2 8
    have e : (256 : Int) ^ 8 = 18446744073709551616 := by decide
    omega
  have key : ∀ n : Nat, (n : Int) ≤ spanN b.length → flatF (fun (i : Nat) => pieceOf (secAt E (k + i))) n = flatF (pieceN b) n := by
    intro n
    induction n with
    | zero => intro _; rfl
    | succ n ih =>
      intro hn
      have hg := (read_good hok (by omega) (i := n) (by omega)).2
      have hnum : numK (secAt E (k + n)) 8 = numK (secAt E k) 8 := by
        rw [hg]
        exact numK_made hbd2 _ _ _ (pieceOf_le _)
      rw [flatF_s, flatF_s, ih (by omega), pieceOf_congr (hEok n (by omega)).1 (hm64 n) (hnew n (by omega) (by omega)), pieceOf_made _ _ _ _ (pieceN_le b n)]
  rw [key _ (by omega), pieceN_all]
  exact List.take_of_length_le (by omega)
theorem spend_fail {D : R08Disk} (h : (dSpend D).2 = false) : (dSpend D).1.Dead = true := by
  unfold dSpend at h ⊢
  grind
theorem putAll_gen : ∀ (l : List (List Int)) (D : R08Disk) (k : Int), 0 ≤ k → k + l.length ≤ D.Base.length →
    ∃ j, j ≤ l.length ∧ (putAll D k l).1.Base = D.Base ∧ (putAll D k l).1.Queue = D.Queue ++ itemsAt k (l.take j) ∧ (((putAll D k l).2 = 0 ∧ j = l.length) ∨ ((putAll D k l).2 = 82 ∧ (putAll D k l).1.Dead = true))
  | [], D, k, _, _ => ⟨0, Nat.le_refl _, rfl, by simp [putAll, itemsAt], .inl ⟨rfl, rfl⟩⟩
  | s :: l, D, k, h0, h1 => by
    simp only [List.length_cons] at h1
    have ht : dThere D k = true := by simp [dThere, h0]; omega
    have s1 := dSpend_base D
    have s2 := dSpend_queue D
    cases hs : (dSpend D).2 with
    | false =>
      have e : dPut D k s = ((dSpend D).1, 82) := by simp [dPut, ht, hs]
      have e2 : putAll D k (s :: l) = ((dSpend D).1, 82) := by
        rw [putAll, e, if_pos (by simp)]
      refine ⟨0, Nat.zero_le _, by rw [e2]; exact s1, by rw [e2]; simp [itemsAt, s2], .inr ?_⟩
      rw [e2]
      exact ⟨rfl, spend_fail hs⟩
    | true =>
      have e : dPut D k s = ({ (dSpend D).1 with Queue := (dSpend D).1.Queue ++ [⟨s, k⟩] }, 0) := by simp [dPut, ht, hs]
      obtain ⟨j, hj, hb, hq, hr⟩ := putAll_gen l (dPut D k s).1 (k + 1) (by omega) (by rw [dPut_len]; omega)
      have e2 : putAll D k (s :: l) = putAll (dPut D k s).1 (k + 1) l := by
        rw [putAll, if_neg (by rw [e]; simp)]
      refine ⟨j + 1, by simp only [List.length_cons]; omega, by rw [e2, hb, e]; exact s1, ?_, ?_⟩
      · rw [e2, hq, e]
        simp [s2, itemsAt]
      · rw [e2]
        rcases hr with ⟨h5, h6⟩ | h5
        · exact .inl ⟨h5, by simp only [List.length_cons]; omega⟩
        · exact .inr h5
theorem flush_gen (D : R08Disk) : ((dFlush D).2 = 0 ∧ (dFlush D).1.Base = landAll (fun _ => 64) 0 D.Queue D.Base ∧ (dFlush D).1.Queue = []) ∨ ((dFlush D).2 = 82 ∧ (dFlush D).1.Base = D.Base ∧ (dFlush D).1.Queue = D.Queue ∧ (dFlush D).1.Dead = true) := by
  have s1 := dSpend_base D
  have s2 := dSpend_queue D
  unfold dFlush
  cases hs : (dSpend D).2 with
  | true => exact .inl ⟨rfl, rfl, rfl⟩
  | false => exact .inr ⟨rfl, s1, s2, spend_fail hs⟩
end Go.Proofs.Ytnmjcdlgfimnaaa
