/- Chapter 9: the plain law of torn writes: all of it, or nothing. -/
import Derived.Test.YtnmjcdlgfimnaaaS2
namespace Go.Proofs.Ytnmjcdlgfimnaaa
theorem mix_get (n : Nat) (a b : List Int) (ha : a.length = 64) (hb : b.length = 64) (hn : n ≤ 64) (i : Nat) (h : i < 64) : (mixTo n a b).getD i 0 = if i < n then b.getD i 0 else a.getD i 0 := by
 simp only [mixTo, List.getD_eq_getElem?_getD, List.getElem?_append, List.length_take, List.getElem?_take, List.getElem?_drop, hb]
 by_cases h1 : i < n
 ·rw [if_pos (by omega), if_pos h1, if_pos h1]
 ·rw [if_neg (by omega), if_neg h1]
  congr 2; omega
theorem numK_congr {s t : List Int} (h : ∀ j, 56 ≤ j → j < 64 → s.getD j 0 = t.getD j 0) : numK s 8 = numK t 8 := by
 simp only [numK, h 63 (by omega) (by omega), h (63 - 1) (by omega) (by omega), h (63 - 2) (by omega) (by omega), h (63 - 3) (by omega) (by omega), h (63 - 4) (by omega) (by omega), h (63 - 5) (by omega) (by omega), h (63 - 6) (by omega) (by omega), h (63 - 7) (by omega) (by omega), Nat.sub_zero]
theorem made_ok {i total st : Int} {p : List Int} (hi : 0 ≤ i ∧ i ≤ 255) (ht : 0 ≤ total ∧ total ≤ 255) (hp : p.length ≤ 53) (hb : ∀ x ∈ p, 0 ≤ x ∧ x ≤ 255) : SecOk (madeN i total st p) := by
 refine ⟨madeN_len _ _ _ _ hp, fun x hx => ?_⟩
 simp only [madeN, List.mem_cons, List.mem_append, Qc1, List.mem_replicate, stampL, List.mem_map, List.mem_range] at hx
 rcases hx with rfl | rfl | rfl | hx | ⟨_, rfl⟩ | ⟨k, _, rfl⟩
 ·exact hi
 ·exact ht
 ·omega
 ·exact hb x hx
 ·omega
 ·omega
theorem mix_ok {a b : List Int} (ha : SecOk a) (hb : SecOk b) (n : Nat) : SecOk (mixTo n a b) := by
 refine ⟨by rw [mixTo_len _ _ _ (by rw [ha.1, hb.1])]; exact ha.1, fun x hx => ?_⟩
 simp only [mixTo, List.mem_append] at hx
 rcases hx with hx | hx
 ·exact hb.2 x (List.mem_of_mem_take hx)
 ·exact ha.2 x (List.mem_of_mem_drop hx)
theorem piece_bytes {b : List Int} (hb : ∀ x ∈ b, 0 ≤ x ∧ x ≤ 255) (i : Nat) : ∀ x ∈ pieceN b i, 0 ≤ x ∧ x ≤ 255 := fun x hx => hb x (List.mem_of_mem_drop (List.mem_of_mem_take hx))
theorem itemsAt_mem : ∀ (l : List (List Int)) (a : Int) (y : Qad), y ∈ itemsAt a l → y.Sector ∈ l ∧ a ≤ y.To ∧ y.To < a + l.length
 | [], _, _, h => by simp [itemsAt] at h
 | s :: l, a, y, h => by
  simp only [itemsAt, List.mem_cons] at h
  simp only [List.length_cons]
  rcases h with rfl | h
  ·exact ⟨by simp, by simp only; omega, by simp only; omega⟩
  ·have := itemsAt_mem l (a + 1) y h
   exact ⟨by simp [this.1], by omega, by omega⟩
theorem sTop_ok {D : Qab} : ∀ (n : Nat) (i top : Int), 0 ≤ i → i + n ≤ D.Base.length → (sTop D n i top).2 = 0 ∧ top ≤ (sTop D n i top).1 ∧ (∀ k : Int, i ≤ k → k < i + n → numK (dGet D k).1 8 ≤ (sTop D n i top).1)
 | 0, i, top, _, _ => ⟨rfl, Int.le_refl _, fun k h1 h2 => by omega⟩
 | n + 1, i, top, h0, h1 => by
  have hg : (dGet D i).2 = 0 := by
   have : dThere D i = true := by simp [dThere]; omega
   simp [dGet, this]
  have e : sTop D (n + 1) i top = sTop D n (i + 1) (max top (numK (dGet D i).1 8)) := by
   show (if (dGet D i).2 ≠ 0 then _ else _) = _
   rw [if_neg (by simpa using hg)]
   rfl
  obtain ⟨a, b, c⟩ := sTop_ok (D := D) n (i + 1) (max top (numK (dGet D i).1 8)) (by omega) (by omega)
  rw [e]
  refine ⟨a, by omega, fun k h2 h3 => ?_⟩
  by_cases hk : k = i
  ·subst hk; omega
  ·exact c k (by omega) (by omega)
theorem land_items (many : Nat → Int) : ∀ (l : List (List Int)) (a j : Nat) (base : List (List Int)), a + l.length ≤ base.length → (∀ s ∈ base, s.length = 64) → (∀ s ∈ l, s.length = 64) →
    (∀ i, i < l.length → (landAll many j (itemsAt a l) base).getD (a + i) [] = mixTo (min (many (j + i)).toNat 64) (base.getD (a + i) []) (l.getD i [])) ∧
    (∀ k, k < a → (landAll many j (itemsAt a l) base).getD k [] = base.getD k [])
 | [], a, j, base, _, _, _ => ⟨fun i hi => absurd hi (Nat.not_lt_zero i), fun k _ => rfl⟩
 | s :: l, a, j, base, h1, h2, h3 => by
  simp only [List.length_cons] at h1 ⊢
  have e : landAll many j (itemsAt a (s :: l)) base = landAll many (j + 1) (itemsAt ((a + 1 : Nat) : Int) l) (landL base ⟨s, a⟩ (many j)) := by
   simp only [itemsAt, landAll]
   rfl
  have hb : landL base ⟨s, (a : Int)⟩ (many j) = base.set a (mixTo (min (many j).toNat 64) (base.getD a []) s) := by
   simp only [landL, landN, Int.toNat_natCast]
  have hlen : (mixTo (min (many j).toNat 64) (base.getD a []) s).length = 64 := by
   have e1 := h2 _ (getD_mem base a [] (by omega))
   rw [mixTo_len _ _ _ (by rw [e1, h3 s (by simp)]), e1]
  obtain ⟨ih1, ih2⟩ := land_items many l (a + 1) (j + 1) (landL base ⟨s, a⟩ (many j)) (by rw [landL_len]; omega) (by
   rw [hb]
   intro z hz
   rcases List.mem_or_eq_of_mem_set hz with hz | rfl
   ·exact h2 z hz
   ·exact hlen) fun z hz => h3 z (by simp [hz])
  rw [e]
  constructor
  ·intro i hi
   cases i with
   | zero =>
    simp only [Nat.add_zero]
    rw [ih2 a (by omega), hb, List.getD_eq_getElem?_getD, List.getElem?_set_self (by omega)]
    rfl
   | succ i =>
    have h5 := ih1 i (by omega)
    have e3 : a + 1 + i = a + (i + 1) := by omega
    have e4 : j + 1 + i = j + (i + 1) := by omega
    rw [e3, e4] at h5
    rw [h5, hb]
    congr 1
    simp only [List.getD_eq_getElem?_getD]
    rw [List.getElem?_set_ne (by omega)]
  ·intro k hk
   rw [ih2 k (by omega), hb]
   simp only [List.getD_eq_getElem?_getD]
   rw [List.getElem?_set_ne (by omega)]
theorem putAll_q : ∀ (l : List (List Int)) (D : Qab) (k : Int), (putAll D k l).1.Queue.length ≤ D.Queue.length + l.length ∧ (putAll D k l).1.Base.length = D.Base.length
 | [], _, _ => ⟨Nat.le_refl _, rfl⟩
 | s :: l, D, k => by
  have h1 := dPut_q D k s
  have h2 := dPut_len D k s
  obtain ⟨h3, h4⟩ := putAll_q l (dPut D k s).1 (k + 1)
  unfold putAll
  split
  ·exact ⟨by simp only [List.length_cons]; omega, h2⟩
  ·exact ⟨by simp only [List.length_cons]; omega, by rw [h4, h2]⟩
theorem sPut_q (D : Qab) (k st : Int) (b : List Int) : (sPut D k st b).1.Queue.length ≤ D.Queue.length + 255 ∧ (sPut D k st b).1.Base.length = D.Base.length := by
 have hb := spanN_bd b.length
 unfold sPut
 split
 ·exact ⟨by simp, rfl⟩
 ·split
  ·exact ⟨by simp, rfl⟩
  ·have := putAll_q (secsN st b) D k
   rw [secsN_len] at this
   exact ⟨by omega, this.2⟩
end Go.Proofs.Ytnmjcdlgfimnaaa
