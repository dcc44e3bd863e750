/- Chapter 9: the plain law of what is written and read back. -/
import Derived.Test.YtnmjcdlgfimnaaaS9l
namespace Go.Proofs.Ytnmjcdlgfimnaaa
theorem read_inv {D : R08Disk} {k e : Int} (h : (sRead D k e).2.2.2 = 0) : RdOk D k e ∧ sRead D k e = (readB D k, numK (secAt D k) 8, totOf (secAt D k), 0) := by
  unfold sRead at h ⊢
  split at h
  · simp at h
  · split at h
    · simp at h
    · split at h
      · rename_i h1 h2 h3
        rw [if_neg h1, if_neg h2, if_pos h3]
        exact ⟨h3, rfl⟩
      · simp at h
def backD (n : Int) (b : List Int) : R08Disk := dQ (dBlank (spanN b.length + 2)) (itemsAt 1 (secsN n b))
theorem backD_len (n : Int) (b : List Int) : ((backD n b).Base.length : Int) = spanN b.length + 2 := by
  have := spanN_bd b.length
  show ((dBlank (spanN b.length + 2)).Base.length : Int) = _
  simp only [dBlank, List.length_replicate]
  omega
theorem blank_len {m : Int} (h0 : 0 ≤ m) (h1 : m ≤ 2048) : ((dBlank m).Base.length : Int) = m := by
  simp only [dBlank, List.length_replicate]
  omega
theorem back_put {n : Int} {b : List Int} (hn : n ≠ 0) (hb : b.length ≤ 2000) : sPut (dBlank (spanN b.length + 2)) 1 n b = (backD n b, 0) := by
  have h1 := spanN_bd b.length
  have h2 : spanN b.length ≠ 0 := by rw [Ne, spanN_zero]; omega
  exact sPut_live (by simp [dBlank]) rfl hn h2 (by omega) (by rw [blank_len (by omega) (by omega)]; omega)
theorem back_sec {n : Int} {b : List Int} (i : Nat) (hi : (i : Int) < spanN b.length) : dGet (backD n b) (1 + i) = (madeN i (spanN b.length) n (pieceN b i), 0) := by
  have h1 := spanN_bd b.length
  have h3 := (getQ (1 + i) (secsN n b) (dBlank (spanN b.length + 2)) 1 (by omega) (by rw [secsN_len, blank_len (by omega) (by omega)]; omega)).1 i rfl (by rw [secsN_len]; omega)
  unfold backD
  rw [h3, List.getD_eq_getElem?_getD, secsN_get n b i (by omega)]
  rfl
theorem back_read {n : Int} {b : List Int} (hn : 0 < n ∧ n ≤ 18446744073709551615) (hb : b.length ≤ 2000) : sRead (backD n b) 1 (spanN b.length + 1) = (b, n, spanN b.length, 0) := by
  have h1 := spanN_bd b.length
  have h2 : spanN b.length ≠ 0 := by rw [Ne, spanN_zero]; omega
  refine read_back hn h2 (by omega) (by omega) (by rw [backD_len]; omega) fun i hi => ?_
  unfold secAt
  rw [back_sec i hi]
theorem back_span {b : List Int} (hb : b.length ≤ 2000) : (spanN b.length - 1) * 53 ≤ b.length ∧ (b.length : Int) ≤ spanN b.length * 53 ∧ 1 ≤ spanN b.length ∧ spanN b.length ≤ 38 := by
  unfold spanN
  rw [if_neg (by omega)]
  omega
theorem back_short {n : Int} {b : List Int} (hb : b.length ≤ 2000) : (sRead (backD n b) 1 (spanN b.length)).2.2.2 = 91 := by
  obtain ⟨_, _, h1, h2⟩ := back_span hb
  have h3 := back_sec (n := n) (b := b) 0 (by omega)
  have hl := backD_len n b
  unfold sRead
  rw [if_neg (by omega)]
  split
  · rfl
  · rw [if_neg]
    intro h
    have h4 := h.2.2.1
    have h5 : secAt (backD n b) 1 = madeN 0 (spanN b.length) n (pieceN b 0) := by
      have := congrArg Prod.fst h3
      unfold secAt
      simpa using this
    rw [h5] at h4
    have : totOf (madeN 0 (spanN b.length) n (pieceN b 0)) = spanN b.length := rfl
    omega
theorem numK_zeros : numK zeros 8 = 0 := by decide
theorem back_late {n : Int} {b : List Int} (hb : b.length ≤ 2000) : (sRead (backD n b) 2 (spanN b.length + 2)).2.2.2 = 91 := by
  obtain ⟨_, _, h1, h2⟩ := back_span hb
  have hl := backD_len n b
  unfold sRead
  rw [if_neg (by omega), if_neg (by omega), if_neg]
  intro h
  by_cases h3 : spanN b.length = 1
  · have h4 := (getQ 2 (secsN n b) (dBlank (spanN b.length + 2)) 1 (by omega) (by rw [secsN_len, blank_len (by omega) (by omega)]; omega)).2 (.inr (by rw [secsN_len]; omega))
    have h5 : secAt (backD n b) 2 = zeros := by
      unfold secAt backD
      rw [h4, h3]
      rfl
    exact h.1 (by rw [h5]; exact numK_zeros)
  · have h4 := back_sec (n := n) (b := b) 1 (by omega)
    have h5 : secAt (backD n b) 2 = madeN 1 (spanN b.length) n (pieceN b 1) := congrArg Prod.fst h4
    have h6 : totOf (secAt (backD n b) 2) = spanN b.length := by rw [h5]; rfl
    have h7 := (read_good h (by omega) (i := 0) (by omega)).2
    have h8 : secAt (backD n b) (2 + (0 : Nat)) = secAt (backD n b) 2 := by simp
    rw [h8, h5] at h7
    have := congrArg (fun l => l.getD 0 0) h7
    simp [madeN] at this
theorem back_turn {n : Int} {b : List Int} (hb : b.length ≤ 2000) {t : Int} (h0 : 1 ≤ t) (h1 : t ≤ spanN b.length) {s : List Int} (hs : s ≠ secAt (backD n b) t) :
    ¬ ((sRead (dQ (backD n b) [⟨s, t⟩]) 1 (spanN b.length + 1)).2.2.2 = 0 ∧ (sRead (dQ (backD n b) [⟨s, t⟩]) 1 (spanN b.length + 1)).1 = b ∧ (sRead (dQ (backD n b) [⟨s, t⟩]) 1 (spanN b.length + 1)).2.1 = n) := by
  rintro ⟨h3, h4, h5⟩
  obtain ⟨_, _, h6, h7⟩ := back_span hb
  have hl := backD_len n b
  obtain ⟨hok, he⟩ := read_inv h3
  rw [he] at h4 h5
  simp only at h4 h5
  have ha := hok.2.2.2
  rw [h4, h5] at ha
  have hlen := congrArg List.length ha
  rw [secsN_len, secsAt_len] at hlen
  obtain ⟨i, rfl⟩ : ∃ i : Nat, t = 1 + i := ⟨(t - 1).toNat, by omega⟩
  have h8 : (secsN n b)[i]? = (secsAt (dQ (backD n b) [⟨s, 1 + i⟩]) 1 (spanN b.length).toNat)[i]? := by rw [ha, hlen]
  rw [secsN_get n b i (by omega)] at h8
  have h9 := getQ1 (backD n b) s (a := 1 + i) (by omega) (by omega) (1 + i)
  rw [if_pos rfl] at h9
  simp only [secsAt, List.getElem?_map, List.getElem?_range (show i < (spanN b.length).toNat by omega), Option.map_some, Option.some.injEq, secAt, h9] at h8
  apply hs
  rw [← h8]
  unfold secAt
  rw [back_sec i (by omega)]
theorem itemsAt_len : ∀ (l : List (List Int)) (a : Int), (itemsAt a l).length = l.length
  | [], _ => rfl
  | s :: l, a => by simp only [itemsAt, List.length_cons, itemsAt_len l]
theorem backD_q (n : Int) (b : List Int) : (backD n b).Queue.length ≤ 255 := by
  have := spanN_bd b.length
  show ((dBlank (spanN b.length + 2)).Queue ++ itemsAt 1 (secsN n b)).length ≤ 255
  rw [List.length_append, itemsAt_len, secsN_len]
  show 0 + _ ≤ 255
  omega
/-! The example. -/
def z54 : List Int := repl 54 0
theorem z54_len : z54.length = 54 := by simp [z54, repl]
theorem z54_span : spanN z54.length = 2 := by rw [z54_len]; decide
theorem alive_put : sPut (dBlank 4) 1 7 z54 = (backD 7 z54, 0) := by
  have := back_put (n := 7) (b := z54) (by decide) (by rw [z54_len]; omega)
  rwa [z54_span] at this
theorem alive_read : sRead (backD 7 z54) 1 4 = (z54, 7, 2, 0) := by
  have hl := backD_len 7 z54
  rw [z54_span] at hl
  have := read_back (D := backD 7 z54) (k := 1) (e := 4) (st := 7) (b := z54) (by decide) (by rw [z54_span]; decide) (by decide) (by rw [z54_span]; decide) (by omega) fun i hi => by
    unfold secAt
    rw [back_sec i hi]
  rwa [z54_span] at this
end Go.Proofs.Ytnmjcdlgfimnaaa
