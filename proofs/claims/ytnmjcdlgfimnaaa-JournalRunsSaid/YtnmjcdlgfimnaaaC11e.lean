/- Chapter 11: the plain law of a slot: what is written is what counts, with the next generation. -/
import Derived.Test.YtnmjcdlgfimnaaaC11d
import Derived.Test.YtnmjcdlgfimnaaaC10f
namespace Go.Proofs.Ytnmjcdlgfimnaaa
structure SlotOk (D : Qab) (m : Nat) (k z g : Int) (was : List Int) : Prop where
 quiet : Quiet D m
 right : 0 ≤ k ∧ 1 ≤ z ∧ z ≤ 255 ∧ k + 2 * z ≤ m
 gb : 0 ≤ g ∧ g < 4611686018427387904
 low : ∀ j : Int, k ≤ j → j < k + 2 * z → numK (secAt D j) 8 ≤ g
 zero : g = 0 → was = []
 sp : g ≠ 0 → spanN (closeN was).length ≠ 0 ∧ spanN (closeN was).length ≤ z
 there : g ≠ 0 → ∀ i : Nat, (i : Int) < spanN (closeN was).length → secAt D (k + z * (g % 2) + i) = madeN i (spanN (closeN was).length) g (pieceN (closeN was) i)
 other : g ≠ 0 → ∀ j : Int, k + z * ((g + 1) % 2) ≤ j → j < k + z * ((g + 1) % 2) + z → numK (secAt D j) 8 < g
theorem par2 (g : Int) : (g % 2 = 0 ∧ (g + 1) % 2 = 1) ∨ (g % 2 = 1 ∧ (g + 1) % 2 = 0) := by omega
theorem sTop_le {D : Qab} {b : Int} : ∀ (n : Nat) (i top : Int), (∀ j : Int, i ≤ j → j < i + n → numK (secAt D j) 8 ≤ b) → top ≤ b → 0 ≤ i → i + n ≤ D.Base.length → (sTop D n i top).1 ≤ b
 | 0, _, _, _, h, _, _ => h
 | n + 1, i, top, h, ht, h0, h1 => by
  have hg : (dGet D i).2 = 0 := get_ok h0 (by omega)
  have e : sTop D (n + 1) i top = sTop D n (i + 1) (max top (numK (secAt D i) 8)) := by
   show (if (dGet D i).2 ≠ 0 then _ else _) = _
   rw [if_neg (by simpa using hg)]
  rw [e]
  have := h i (by omega) (by omega)
  exact sTop_le n (i + 1) _ (fun j a b => h j (by omega) (by omega)) (by omega) (by omega) (by push_cast at h1; omega)
theorem read_nil {D : Qab} {a e : Int} (h : numK (secAt D a) 8 ≤ 0) (h2 : 0 ≤ numK (secAt D a) 8) : (sRead D a e).2.2.2 ≠ 0 := by
 intro h0
 have := (read_inv h0).1.1
 omega
theorem slotOk_right {D : Qab} {m : Nat} {k z g : Int} {was : List Int} (h : SlotOk D m k z g was) : rightB D k z = true := by
 have := h.right
 have hb := h.quiet.base
 exact rightB_iff.2 ⟨by omega, by omega, by omega, by omega⟩
theorem stand_lt {D : Qab} {k z i : Int} {q : List Int × Int} (h : (sRead D (k + z * i) (k + z * i + z)).2.2.2 = 0 → (sRead D (k + z * i) (k + z * i + z)).2.1 ≤ q.2) : standS D k z i q = q := by
 unfold standS
 rw [if_neg]
 rintro ⟨h1, _, _, h4⟩
 have := h h1
 omega
theorem slotOk_gen {D : Qab} {m : Nat} {k z g : Int} {was : List Int} (h : SlotOk D m k z g was) (hg : g ≠ 0) : sRead D (k + z * (g % 2)) (k + z * (g % 2) + z) = (closeN was, g, spanN (closeN was).length, 0) := by
 have hb := h.quiet.base
 obtain ⟨h1, h2, h3, h4⟩ := h.right
 have hgb := h.gb
 have hp : 0 ≤ z * (g % 2) ∧ z * (g % 2) + z ≤ 2 * z := by rcases par2 g with ⟨e, _⟩ | ⟨e, _⟩ <;> rw [e] <;> omega
 obtain ⟨s1, s2⟩ := h.sp hg
 exact read_back (by omega) s1 (by omega) (by omega) (by omega) (h.there hg)
theorem slotOk_read {D : Qab} {m : Nat} {k z g : Int} {was : List Int} (h : SlotOk D m k z g was) (hg : g ≠ 0) : slRead D k z = (was, g, 0) := by
 have hb := h.quiet.base
 have hgb := h.gb
 have hs := slotOk_gen h hg
 have hoth : (sRead D (k + z * ((g + 1) % 2)) (k + z * ((g + 1) % 2) + z)).2.2.2 = 0 → (sRead D (k + z * ((g + 1) % 2)) (k + z * ((g + 1) % 2) + z)).2.1 < g := fun h0 => by
  obtain ⟨_, e⟩ := read_inv h0
  have hr := h.right
  rw [e]
  exact h.other hg _ (by omega) (by omega)
 have hacc : accS D k z 2 = (was, g) := by
  show standS D k z 1 (standS D k z 0 ([], 0)) = (was, g)
  have ht : g.tmod 2 = g % 2 := Int.tmod_eq_emod_of_nonneg hgb.1
  rcases par2 g with ⟨e1, e2⟩ | ⟨e1, e2⟩
  ·rw [e1] at hs
   rw [e2] at hoth
   have e3 : standS D k z 0 ([], 0) = (was, g) := by
    unfold standS
    rw [hs]
    simp only [open_close]
    rw [if_pos ⟨trivial, trivial, by rw [ht, e1], by omega⟩]
   rw [e3]
   exact stand_lt fun h0 => by have := hoth h0; simp only; omega
  ·rw [e1] at hs
   rw [e2] at hoth
   have e3 : (standS D k z 0 ([], 0)).2 < g := by
    unfold standS
    split
    ·rename_i h5
     exact hoth h5.1
    ·simp only; omega
   generalize standS D k z 0 ([], 0) = q at *
   unfold standS
   rw [hs]
   simp only [open_close]
   rw [if_pos ⟨trivial, trivial, by rw [ht, e1], by omega⟩]
 unfold slRead
 rw [if_pos (slotOk_right h), hacc]
 simp only
 rw [if_neg hg]
theorem slotOk_none {D : Qab} {m : Nat} {k z : Int} {was : List Int} (h : SlotOk D m k z 0 was) (h0 : ∀ j : Int, k ≤ j → j < k + 2 * z → 0 ≤ numK (secAt D j) 8) : slRead D k z = ([], 0, 111) := by
 obtain ⟨h1, h2, h3, h4⟩ := h.right
 have hn : ∀ i : Int, 0 ≤ i → i ≤ 1 → ∀ q, standS D k z i q = q := fun i hi0 hi1 q => by
  have hp : 0 ≤ z * i ∧ z * i ≤ z := by
   have : i = 0 ∨ i = 1 := by omega
   rcases this with rfl | rfl <;> omega
  unfold standS
  rw [if_neg]
  rintro ⟨h5, _⟩
  exact read_nil (h.low _ (by omega) (by omega)) (h0 _ (by omega) (by omega)) h5
 have hacc : accS D k z 2 = ([], 0) := by
  show standS D k z 1 (standS D k z 0 ([], 0)) = ([], 0)
  rw [hn 0 (by omega) (by omega), hn 1 (by omega) (by omega)]
 unfold slRead
 rw [if_pos (slotOk_right h), hacc]
 rfl
theorem slotOk_top {D : Qab} {m : Nat} {k z g : Int} {was : List Int} (h : SlotOk D m k z g was) : topN D k (k + 2 * z) = (g, 0) := by
 obtain ⟨h1, h2, h3, h4⟩ := h.right
 have hb := h.quiet.base
 have hgb := h.gb
 have e : (k + 2 * z - k).toNat = (2 * z).toNat := by congr 1; omega
 obtain ⟨a, b, c⟩ := sTop_ok (D := D) (2 * z).toNat k 0 (by omega) (by omega)
 have hle := sTop_le (D := D) (b := g) (2 * z).toNat k 0 (fun j h5 h6 => h.low j h5 (by omega)) hgb.1 (by omega) (by omega)
 unfold topN
 rw [e]
 refine Prod.ext ?_ a
 simp only
 by_cases hg : g = 0
 ·omega
 ·obtain ⟨s1, s2⟩ := h.sp hg
  have hp : 0 ≤ z * (g % 2) ∧ z * (g % 2) + z ≤ 2 * z := by rcases par2 g with ⟨e, _⟩ | ⟨e, _⟩ <;> rw [e] <;> omega
  have hsp := spanN_bd (closeN was).length
  have h5 := h.there hg 0 (by omega)
  have h6 := c (k + z * (g % 2) + (0 : Nat)) (by omega) (by omega)
  have h7 : (dGet D (k + z * (g % 2) + (0 : Nat))).1 = _ := h5
  rw [h7, numK_made (by omega) _ _ _ (pieceN_le _ _)] at h6
  omega
theorem slotOk_next {D : Qab} {m : Nat} {k z g : Int} {was : List Int} (h : SlotOk D m k z g was) (h0 : g = 0 → ∀ j : Int, k ≤ j → j < k + 2 * z → 0 ≤ numK (secAt D j) 8) : nextG D k z = g + 1 := by
 have hgb := h.gb
 unfold nextG
 rw [slotOk_top h]
 simp only
 rw [Qa5 (g + 1) (by omega) (by omega), if_neg]
 rintro ⟨h1, h2⟩
 by_cases hg : g = 0
 ·subst hg
  rw [slotOk_none h (h0 rfl)] at h1
  simp at h1
 ·rw [slotOk_read h hg] at h2
  simp only at h2
  rw [Int.tmod_eq_emod_of_nonneg (by omega), Int.tmod_eq_emod_of_nonneg hgb.1] at h2
  omega
theorem slotOk_write {D : Qab} {m : Nat} {k z g : Int} {was : List Int} (h : SlotOk D m k z g was) (h0 : g = 0 → ∀ j : Int, k ≤ j → j < k + 2 * z → 0 ≤ numK (secAt D j) 8) (hgl : g + 1 < 4611686018427387904) (c : List Int) (hc : spanN (closeN c).length ≠ 0 ∧ spanN (closeN c).length ≤ z) :
    (slWrite D k z c).2 = (g + 1, 0) ∧ SlotOk (slWrite D k z c).1 m k z (g + 1) c ∧ ∀ j : Int, 0 ≤ j → j < m → (j < k ∨ k + 2 * z ≤ j) → secAt (slWrite D k z c).1 j = secAt D j := by
 have hn := slotOk_next h h0
 obtain ⟨h1, h2, h3, h4⟩ := h.right
 have hgb := h.gb
 have hb := h.quiet.base
 have hsp := spanN_bd (closeN c).length
 have hp : 0 ≤ z * ((g + 1) % 2) ∧ z * ((g + 1) % 2) + z ≤ 2 * z := by rcases par2 g with ⟨_, e⟩ | ⟨_, e⟩ <;> rw [e] <;> omega
 obtain ⟨w1, w2, w3, w4, w5⟩ := write_flush h.quiet (a := k + z * ((g + 1) % 2)) (st := g + 1) (b := closeN c) (by omega) hc.1 (by omega) (by omega)
 have e : slWrite D k z c = ((dFlush (sPut D (k + z * ((g + 1) % 2)) (g + 1) (closeN c)).1).1, g + 1, 0) := by
  unfold slWrite slPutD
  rw [hn, if_pos ⟨slotOk_right h, hc.1, hc.2⟩, if_neg (by simpa using w1), if_neg (by simpa using w2)]
 rw [e]
 refine ⟨rfl, ⟨w3, ⟨h1, h2, h3, h4⟩, by omega, fun j h5 h6 => ?_, fun h => absurd h (by omega), fun _ => hc, fun _ => w4, fun _ j h5 h6 => ?_⟩, fun j h5 h6 h7 => w5 j h5 h6 (by omega)⟩
 ·simp only
  by_cases hin : k + z * ((g + 1) % 2) ≤ j ∧ j < k + z * ((g + 1) % 2) + spanN (closeN c).length
  ·obtain ⟨i, rfl⟩ : ∃ i : Nat, j = k + z * ((g + 1) % 2) + i := ⟨(j - (k + z * ((g + 1) % 2))).toNat, by omega⟩
   rw [w4 i (by omega), numK_made (by omega) _ _ _ (pieceN_le _ _)]
   omega
  ·rw [w5 j (by omega) (by omega) (by omega)]
   have := h.low j h5 h6
   omega
 ·simp only
  have hp2 : z * ((g + 1 + 1) % 2) = z * (g % 2) := by congr 1; omega
  rw [hp2] at h5 h6
  have hdis : j < k + z * ((g + 1) % 2) ∨ k + z * ((g + 1) % 2) + z ≤ j := by
   rcases par2 g with ⟨e1, e2⟩ | ⟨e1, e2⟩ <;> rw [e1] at h5 h6 <;> rw [e2] <;> omega
  have hp3 : 0 ≤ z * (g % 2) ∧ z * (g % 2) + z ≤ 2 * z := by rcases par2 g with ⟨e, _⟩ | ⟨e, _⟩ <;> rw [e] <;> omega
  rw [w5 j (by omega) (by omega) (by omega)]
  have := h.low j (by omega) (by omega)
  omega
theorem slotOk_blank {n k z : Int} (h0 : 0 ≤ k) (h1 : 1 ≤ z) (h2 : z ≤ 255) (h3 : k + 2 * z ≤ n) (h4 : n ≤ 2048) : SlotOk (dBlank n) n.toNat k z 0 [] := by
 refine ⟨blank_quiet n (by omega) h4, ⟨h0, h1, h2, by omega⟩, by omega, fun j _ _ => ?_, fun _ => rfl, fun h => absurd rfl h, fun h => absurd rfl h, fun h => absurd rfl h⟩
 rw [get_zeros, numK_zeros]
 omega
theorem slotOk_zero {n k z : Int} : ∀ j : Int, k ≤ j → j < k + 2 * z → 0 ≤ numK (secAt (dBlank n) j) 8 := fun j _ _ => by rw [get_zeros, numK_zeros]; omega
end Go.Proofs.Ytnmjcdlgfimnaaa
