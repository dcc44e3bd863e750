/- Chapter 9: the plain law of torn writes: all of it, or nothing. -/
import Derived.Test.YtnmjcdlgfimnaaaS9m
namespace Go.Proofs.Ytnmjcdlgfimnaaa
theorem mix_get (n : Nat) (a b : List Int) (ha : a.length = 64) (hb : b.length = 64) (hn : n ≤ 64) (i : Nat) (h : i < 64) : (mixTo n a b).getD i 0 = if i < n then b.getD i 0 else a.getD i 0 := by
  simp only [mixTo, List.getD_eq_getElem?_getD, List.getElem?_append, List.length_take, List.getElem?_take, List.getElem?_drop, hb]
  by_cases h1 : i < n
  · rw [if_pos (by omega), if_pos h1, if_pos h1]
  · rw [if_neg (by omega), if_neg h1]
    congr 2; omega
theorem numK_congr {s t : List Int} (h : ∀ j, 56 ≤ j → j < 64 → s.getD j 0 = t.getD j 0) : numK s 8 = numK t 8 := by
  simp only [numK, h 63 (by omega) (by omega), h (63 - 1) (by omega) (by omega), h (63 - 2) (by omega) (by omega), h (63 - 3) (by omega) (by omega), h (63 - 4) (by omega) (by omega), h (63 - 5) (by omega) (by omega), h (63 - 6) (by omega) (by omega), h (63 - 7) (by omega) (by omega), Nat.sub_zero]
theorem pieceOf_congr {s t : List Int} (hs : s.length = 64) (ht : t.length = 64) (h : ∀ j, j < 56 → s.getD j 0 = t.getD j 0) : pieceOf s = pieceOf t := by
  have hc : cntOf s = cntOf t := by unfold cntOf; rw [h 2 (by omega)]
  have h53 := cntOf_le t
  unfold pieceOf
  rw [hc]
  apply List.ext_getElem
  · simp only [List.length_take, List.length_drop]; omega
  · intro j h1 h2
    simp only [List.length_take, List.length_drop] at h1 h2
    have := h (3 + j) (by omega)
    simp only [List.getElem_take, List.getElem_drop]
    rw [List.getD_eq_getElem?_getD, List.getD_eq_getElem?_getD, List.getElem?_eq_getElem (by omega), List.getElem?_eq_getElem (by omega)] at this
    simpa using this
/-- A sector whose stamp is less than 2 to the power of 62. -/
def Low (s : List Int) : Prop := SecOk s ∧ s.getD 63 0 ≤ 63
theorem low_zeros : Low zeros := ⟨zeros_ok, by decide⟩
theorem low_num {s : List Int} (h : Low s) : 0 ≤ numK s 8 ∧ numK s 8 < 4611686018427387904 := by
  have h0 := fun i => h.1.at i
  have h1 := h0 63; have h2 := h0 62; have h3 := h0 61; have h4 := h0 60; have h5 := h0 59; have h6 := h0 58; have h7 := h0 57; have h8 := h0 56
  have h9 := h.2
  simp only [numK, Nat.sub_zero, Nat.reduceSub]
  omega
theorem made_ok {i total st : Int} {p : List Int} (hi : 0 ≤ i ∧ i ≤ 255) (ht : 0 ≤ total ∧ total ≤ 255) (hp : p.length ≤ 53) (hb : ∀ x ∈ p, 0 ≤ x ∧ x ≤ 255) : SecOk (madeN i total st p) := by
  refine ⟨madeN_len _ _ _ _ hp, fun x hx => ?_⟩
  simp only [madeN, List.mem_cons, List.mem_append, repl, List.mem_replicate, stampL, List.mem_map, List.mem_range] at hx
  rcases hx with rfl | rfl | rfl | hx | ⟨_, rfl⟩ | ⟨k, _, rfl⟩
  · exact hi
  · exact ht
  · omega
  · exact hb x hx
  · omega
  · omega
theorem made_getD {i total st : Int} {p : List Int} (hp : p.length ≤ 53) (k : Nat) (hk : k < 8) : (madeN i total st p).getD (56 + k) 0 = st / 256 ^ k % 256 := by
  rw [← stampL_getD st k hk]
  have e : madeN i total st p = (i :: total :: (p.length : Int) :: (p ++ repl (53 - p.length) 0)) ++ stampL st := by simp [madeN]
  have el : (i :: total :: (p.length : Int) :: (p ++ repl (53 - p.length) 0)).length = 56 := by simp [repl]; omega
  rw [e, List.getD_eq_getElem?_getD, List.getElem?_append_right (by omega), el, List.getD_eq_getElem?_getD]
  congr 2
  omega
theorem made_low {i total st : Int} {p : List Int} (hi : 0 ≤ i ∧ i ≤ 255) (ht : 0 ≤ total ∧ total ≤ 255) (hp : p.length ≤ 53) (hb : ∀ x ∈ p, 0 ≤ x ∧ x ≤ 255) (hst : 0 ≤ st ∧ st < 4611686018427387904) : Low (madeN i total st p) := by
  refine ⟨made_ok hi ht hp hb, ?_⟩
  have := made_getD (i := i) (total := total) (st := st) hp 7 (by omega)
  have e : (256 : Int) ^ 7 = 72057594037927936 := by decide
  rw [e] at this
  show (madeN i total st p).getD (56 + 7) 0 ≤ 63
  rw [this]
  omega
theorem mix_ok {a b : List Int} (ha : SecOk a) (hb : SecOk b) (n : Nat) : SecOk (mixTo n a b) := by
  refine ⟨by rw [mixTo_len _ _ _ (by rw [ha.1, hb.1])]; exact ha.1, fun x hx => ?_⟩
  simp only [mixTo, List.mem_append] at hx
  rcases hx with hx | hx
  · exact hb.2 x (List.mem_of_mem_take hx)
  · exact ha.2 x (List.mem_of_mem_drop hx)
theorem mix_low {a b : List Int} (ha : Low a) (hb : Low b) (n : Nat) (hn : n ≤ 64) : Low (mixTo n a b) := by
  refine ⟨mix_ok ha.1 hb.1 n, ?_⟩
  rw [mix_get n a b ha.1.1 hb.1.1 hn 63 (by omega)]
  split
  · exact hb.2
  · exact ha.2
theorem piece_bytes {b : List Int} (hb : ∀ x ∈ b, 0 ≤ x ∧ x ≤ 255) (i : Nat) : ∀ x ∈ pieceN b i, 0 ≤ x ∧ x ≤ 255 := fun x hx => hb x (List.mem_of_mem_drop (List.mem_of_mem_take hx))
theorem secs_low {st : Int} {b : List Int} (hb : ∀ x ∈ b, 0 ≤ x ∧ x ≤ 255) (hst : 0 ≤ st ∧ st < 4611686018427387904) : ∀ s ∈ secsN st b, Low s := by
  intro s hs
  have := spanN_bd b.length
  simp only [secsN, List.mem_map, List.mem_range] at hs
  obtain ⟨i, hi, rfl⟩ := hs
  exact made_low (by omega) (by omega) (pieceN_le b i) (piece_bytes hb i) hst
/-- A disk of which nothing is broken, and whose stamps are low. -/
structure LowD (D : R08Disk) (m : Nat) : Prop where
  burns : D.Burns < 0
  live : D.Dead = false
  base : D.Base.length = m
  low : ∀ s ∈ D.Base, Low s
  q : ∀ y ∈ D.Queue, Low y.Sector ∧ 0 ≤ y.To ∧ y.To < m
theorem lowD_blank (m : Nat) (h : m ≤ 2048) : LowD (dBlank m) m := by
  refine ⟨by simp [dBlank], rfl, by have := blank_len (m := m) (by omega) (by omega); omega, ?_, by simp [dBlank]⟩
  intro s hs
  simp only [dBlank, List.mem_replicate] at hs
  rw [hs.2]; exact low_zeros
theorem itemsAt_mem : ∀ (l : List (List Int)) (a : Int) (y : R08Item), y ∈ itemsAt a l → y.Sector ∈ l ∧ a ≤ y.To ∧ y.To < a + l.length
  | [], _, _, h => by simp [itemsAt] at h
  | s :: l, a, y, h => by
    simp only [itemsAt, List.mem_cons] at h
    simp only [List.length_cons]
    rcases h with rfl | h
    · exact ⟨by simp, by simp only; omega, by simp only; omega⟩
    · have := itemsAt_mem l (a + 1) y h
      exact ⟨by simp [this.1], by omega, by omega⟩
theorem lowD_put {D : R08Disk} {m : Nat} (h : LowD D m) (k : Int) {st : Int} {b : List Int} (hb : ∀ x ∈ b, 0 ≤ x ∧ x ≤ 255) (hst : 0 ≤ st ∧ st < 4611686018427387904) : LowD (sPut D k st b).1 m := by
  by_cases h1 : st = 0 ∨ spanN b.length = 0
  · unfold sPut; rw [if_pos h1]; exact h
  · by_cases h2 : k < 0 ∨ (D.Base.length : Int) - spanN b.length < k
    · unfold sPut; rw [if_neg h1, if_pos h2]; exact h
    · have h3 := spanN_bd b.length
      have h4 := h.base
      rw [sPut_live h.burns h.live (by omega) (by omega) (by omega) (by omega)]
      refine ⟨h.burns, h.live, h.base, h.low, fun y hy => ?_⟩
      simp only [dQ, List.mem_append] at hy
      rcases hy with hy | hy
      · exact h.q y hy
      · have := itemsAt_mem _ _ _ hy
        rw [secsN_len] at this
        exact ⟨secs_low hb hst _ this.1, by omega, by omega⟩
theorem landL_low {base : List (List Int)} {m : Nat} (hm : base.length = m) (hb : ∀ s ∈ base, Low s) {y : R08Item} (hy : Low y.Sector ∧ 0 ≤ y.To ∧ y.To < m) (n : Int) : ∀ s ∈ landL base y n, Low s := by
  intro s hs
  unfold landL landN at hs
  rcases List.mem_or_eq_of_mem_set hs with hs | rfl
  · exact hb s hs
  · exact mix_low (hb _ (getD_mem _ _ _ (by omega))) hy.1 _ (by omega)
theorem landAll_low {m : Nat} (many : Nat → Int) : ∀ (q : List R08Item) (k : Nat) (base : List (List Int)), base.length = m → (∀ s ∈ base, Low s) → (∀ y ∈ q, Low y.Sector ∧ 0 ≤ y.To ∧ y.To < m) → ∀ s ∈ landAll many k q base, Low s
  | [], _, _, _, hb, _ => hb
  | y :: q, k, base, hm, hb, hq => landAll_low many q (k + 1) _ (by rw [landL_len]; exact hm) (landL_low hm hb (hq y (by simp)) _) fun z hz => hq z (by simp [hz])
theorem lowD_power {D : R08Disk} {m : Nat} (h : LowD D m) (keep : List Int) : LowD (dPower D keep) m :=
  ⟨by simp [dPower], rfl, by simp only [dPower, landAll_len]; exact h.base, landAll_low _ _ _ _ h.base h.low h.q, by simp [dPower]⟩
theorem lowD_flush {D : R08Disk} {m : Nat} (h : LowD D m) : LowD (dFlush D).1 m ∧ (dFlush D).1.Queue = [] ∧ (dFlush D).2 = 0 := by
  unfold dFlush
  rw [spend_live h.burns h.live, if_pos rfl]
  exact ⟨⟨h.burns, h.live, by simp only [landAll_len]; exact h.base, landAll_low _ _ _ _ h.base h.low h.q, by simp⟩, rfl, rfl⟩
theorem lowD_get {D : R08Disk} {m : Nat} (h : LowD D m) (k : Int) : Low (dGet D k).1 := by
  unfold dGet
  split
  · rename_i ht
    cases hq : (qTo D.Queue k).getLast? with
    | none =>
      simp only [dThere, Bool.and_eq_true, decide_eq_true_eq] at ht
      simp only [Option.getD_none]
      exact h.low _ (getD_mem _ _ _ (by omega))
    | some s =>
      simp only [Option.getD_some]
      have hm := List.mem_of_getLast? hq
      simp only [qTo, List.mem_map, List.mem_filter] at hm
      obtain ⟨y, ⟨hy, _⟩, rfl⟩ := hm
      exact (h.q y hy).1
  · exact low_zeros
theorem sTop_ok {D : R08Disk} : ∀ (n : Nat) (i top : Int), 0 ≤ i → i + n ≤ D.Base.length → (sTop D n i top).2 = 0 ∧ top ≤ (sTop D n i top).1 ∧ (∀ k : Int, i ≤ k → k < i + n → numK (dGet D k).1 8 ≤ (sTop D n i top).1)
  | 0, i, top, _, _ => ⟨rfl, Int.le_refl _, fun k h1 h2 => by omega⟩
  | n + 1, i, top, h0, h1 => by
    have hg : (dGet D i).2 = 0 := by
      have : dThere D i = true := by simp [dThere]; omega
      simp [dGet, this]
    have e : sTop D (n + 1) i top = sTop D n (i + 1) (max top (numK (dGet D i).1 8)) := by
      show (if (dGet D i).2 ≠ 0 then _ else _) = _
      rw [if_neg (by simpa using hg)]
      rfl
    obtain ⟨a, b, c⟩ := sTop_ok (D := D) n (i + 1) (max top (numK (dGet D i).1 8)) (by omega) (by omega)
    rw [e]
    refine ⟨a, by omega, fun k h2 h3 => ?_⟩
    by_cases hk : k = i
    · subst hk; omega
    · exact c k (by omega) (by omega)
theorem sTop_low {D : R08Disk} {m : Nat} (h : LowD D m) : ∀ (n : Nat) (i top : Int), 0 ≤ i → i + n ≤ D.Base.length → 0 ≤ top ∧ top < 4611686018427387904 → 0 ≤ (sTop D n i top).1 ∧ (sTop D n i top).1 < 4611686018427387904
  | 0, _, _, _, _, ht => ht
  | n + 1, i, top, h0, h1, ht => by
    have hg : (dGet D i).2 = 0 := by
      have : dThere D i = true := by simp [dThere]; omega
      simp [dGet, this]
    have e : sTop D (n + 1) i top = sTop D n (i + 1) (max top (numK (dGet D i).1 8)) := by
      show (if (dGet D i).2 ≠ 0 then _ else _) = _
      rw [if_neg (by simpa using hg)]
      rfl
    rw [e]
    have := low_num (lowD_get h i)
    exact sTop_low h n (i + 1) _ (by omega) (by omega) (by omega)
/-- Behind a crash: of sectors that were put one behind the other. -/
theorem land_items (many : Nat → Int) : ∀ (l : List (List Int)) (a j : Nat) (base : List (List Int)), a + l.length ≤ base.length → (∀ s ∈ base, s.length = 64) → (∀ s ∈ l, s.length = 64) →
    (∀ i, i < l.length → (landAll many j (itemsAt a l) base).getD (a + i) [] = mixTo (min (many (j + i)).toNat 64) (base.getD (a + i) []) (l.getD i [])) ∧
    (∀ k, k < a → (landAll many j (itemsAt a l) base).getD k [] = base.getD k [])
  | [], a, j, base, _, _, _ => ⟨fun i hi => absurd hi (Nat.not_lt_zero i), fun k _ => rfl⟩
  | s :: l, a, j, base, h1, h2, h3 => by
    simp only [List.length_cons] at h1 ⊢
    have e : landAll many j (itemsAt a (s :: l)) base = landAll many (j + 1) (itemsAt ((a + 1 : Nat) : Int) l) (landL base ⟨s, a⟩ (many j)) := by
      simp only [itemsAt, landAll]
      rfl
    have hb : landL base ⟨s, (a : Int)⟩ (many j) = base.set a (mixTo (min (many j).toNat 64) (base.getD a []) s) := by
      simp only [landL, landN, Int.toNat_natCast]
    have hlen : (mixTo (min (many j).toNat 64) (base.getD a []) s).length = 64 := by
      have e1 := h2 _ (getD_mem base a [] (by omega))
      rw [mixTo_len _ _ _ (by rw [e1, h3 s (by simp)]), e1]
    obtain ⟨ih1, ih2⟩ := land_items many l (a + 1) (j + 1) (landL base ⟨s, a⟩ (many j)) (by rw [landL_len]; omega) (by
      rw [hb]
      intro z hz
      rcases List.mem_or_eq_of_mem_set hz with hz | rfl
      · exact h2 z hz
      · exact hlen) fun z hz => h3 z (by simp [hz])
    rw [e]
    constructor
    · intro i hi
      cases i with
      | zero =>
        simp only [Nat.add_zero]
        rw [ih2 a (by omega), hb, List.getD_eq_getElem?_getD, List.getElem?_set_self (by omega)]
        rfl
      | succ i =>
        have h5 := ih1 i (by omega)
        have e3 : a + 1 + i = a + (i + 1) := by omega
        have e4 : j + 1 + i = j + (i + 1) := by omega
        rw [e3, e4] at h5
        rw [h5, hb]
        congr 1
        simp only [List.getD_eq_getElem?_getD]
        rw [List.getElem?_set_ne (by omega)]
    · intro k hk
      rw [ih2 k (by omega), hb]
      simp only [List.getD_eq_getElem?_getD]
      rw [List.getElem?_set_ne (by omega)]
/-- ALL OF IT, OR NOTHING. -/
theorem torn_law {D : R08Disk} (h : LowD D 30) (hq : D.Queue = []) {b : List Int} (hb : ∀ x ∈ b, 0 ≤ x ∧ x ≤ 255) (hl : b.length ≤ 1000) (keep : List Int) {floor : Int} (hf : ∀ k : Int, 0 ≤ k → k < 30 → numK (dGet D k).1 8 ≤ floor) (hf0 : 0 ≤ floor ∧ floor < 4611686018427387904)
    (h0 : (sRead (dPower (sPut D 3 (floor + 1) b).1 keep) 3 30).2.2.2 = 0) (h1 : floor < (sRead (dPower (sPut D 3 (floor + 1) b).1 keep) 3 30).2.1) :
    (sRead (dPower (sPut D 3 (floor + 1) b).1 keep) 3 30).1 = b ∧ (sRead (dPower (sPut D 3 (floor + 1) b).1 keep) 3 30).2.2.1 = spanN b.length := by
  obtain ⟨_, _, hs1, hs2⟩ := back_span (b := b) (by omega)
  have hT : spanN b.length ≤ 19 := by unfold spanN; rw [if_neg (by omega)]; omega
  have hbase := h.base
  have hput := sPut_live h.burns h.live (k := 3) (st := floor + 1) (b := b) (by omega) (by omega) (by omega) (by omega)
  rw [hput] at h0 h1 ⊢
  simp only at h0 h1 ⊢
  obtain ⟨hok, he⟩ := read_inv h0
  rw [he] at h1 ⊢
  simp only at h1 ⊢
  generalize hE : dPower (dQ D (itemsAt 3 (secsN (floor + 1) b))) keep = E at *
  have hEq : E.Queue = [] := by rw [← hE]; rfl
  have hEb : E.Base = landAll (keepAt keep) 0 (itemsAt ((3 : Nat) : Int) (secsN (floor + 1) b)) D.Base := by
    rw [← hE]
    simp only [dPower, dQ, hq, List.nil_append]
    rfl
  have hEl : E.Base.length = 30 := by rw [hEb, landAll_len, hbase]
  have hsec64 : ∀ s ∈ secsN (floor + 1) b, s.length = 64 := by
    intro s hs
    simp only [secsN, List.mem_map, List.mem_range] at hs
    obtain ⟨i, _, rfl⟩ := hs
    exact madeN_len _ _ _ _ (pieceN_le b i)
  have hland := (land_items (keepAt keep) (secsN (floor + 1) b) 3 0 D.Base (by rw [secsN_len]; omega) (fun s hs => (h.low s hs).1.1) hsec64).1
  have hDget : ∀ k : Nat, k < 30 → (dGet D k).1 = D.Base.getD k [] := by
    intro k hk
    have : dThere D k = true := by simp [dThere]; omega
    simp [dGet, this, hq, qTo]
  have hEget : ∀ k : Nat, k < 30 → secAt E k = E.Base.getD k [] := by
    intro k hk
    have : dThere E k = true := by simp [dThere]; omega
    simp [secAt, dGet, this, hEq, qTo]
  -- a sector of the write behind the crash
  have hsec : ∀ i : Nat, (i : Int) < spanN b.length → ∃ n, n ≤ 64 ∧ secAt E (3 + i) = mixTo n (dGet D (3 + i)).1 (madeN i (spanN b.length) (floor + 1) (pieceN b i)) := by
    intro i hi
    refine ⟨min (keepAt keep (0 + i)).toNat 64, by omega, ?_⟩
    have e1 := hEget (3 + i) (by omega)
    have e2 := hDget (3 + i) (by omega)
    push_cast at e1 e2
    rw [e1, e2, hEb, hland i (by rw [secsN_len]; omega)]
    congr 1
    rw [List.getD_eq_getElem?_getD, secsN_get _ b i (by omega)]; rfl
  have hD64 : ∀ k, (dGet D k).1.length = 64 := fun k => (lowD_get h k).1.1
  have hm64 : ∀ i : Nat, (madeN i (spanN b.length) (floor + 1) (pieceN b i)).length = 64 := fun i => madeN_len _ _ _ _ (pieceN_le b i)
  -- with a greater stamp all that counts is new
  have hnew : ∀ i : Nat, (i : Int) < spanN b.length → floor < numK (secAt E (3 + i)) 8 → ∀ j, j < 56 → (secAt E (3 + i)).getD j 0 = (madeN i (spanN b.length) (floor + 1) (pieceN b i)).getD j 0 := by
    intro i hi hlt j hj
    obtain ⟨n, hn, e⟩ := hsec i hi
    rw [e] at hlt ⊢
    by_cases hn2 : n ≤ 56
    · exfalso
      have : numK (mixTo n (dGet D (3 + i)).1 (madeN i (spanN b.length) (floor + 1) (pieceN b i))) 8 = numK (dGet D (3 + i)).1 8 := by
        refine numK_congr fun j h5 h6 => ?_
        rw [mix_get n _ _ (hD64 _) (hm64 i) hn j h6, if_neg (by omega)]
      have := hf (3 + i) (by omega) (by omega)
      omega
    · rw [mix_get n _ _ (hD64 _) (hm64 i) hn j (by omega), if_pos (by omega)]
  have hEok : ∀ i : Nat, (i : Int) < spanN b.length → SecOk (secAt E (3 + i)) := by
    intro i hi
    obtain ⟨n, hn, e⟩ := hsec i hi
    rw [e]
    exact mix_ok (lowD_get h _).1 (made_ok (by omega) (by omega) (pieceN_le b i) (piece_bytes hb i)) n
  have e0 : secAt E (3 + (0 : Nat)) = secAt E 3 := by simp
  have htot : totOf (secAt E 3) = spanN b.length := by
    have := hnew 0 (by omega) (by rw [e0]; exact h1) 1 (by omega)
    rw [e0] at this
    exact this
  refine ⟨?_, htot⟩
  rw [readB_flat, htot]
  have hbd : 0 ≤ numK (secAt E 3) 8 ∧ numK (secAt E 3) 8 ≤ 18446744073709551615 := by
    have h7 := hEok 0 (by omega)
    rw [e0] at h7
    have h8 := numK_bd h7.2 8
    have e : (256 : Int) ^ 8 = 18446744073709551616 := by decide
    omega
  have key : ∀ n : Nat, (n : Int) ≤ spanN b.length → flatF (fun (i : Nat) => pieceOf (secAt E (3 + i))) n = flatF (pieceN b) n := by
    intro n
    induction n with
    | zero => intro _; rfl
    | succ n ih =>
      intro hn
      have hg := (read_good hok (by omega) (i := n) (by omega)).2
      have hnum : numK (secAt E (3 + n)) 8 = numK (secAt E 3) 8 := by
        rw [hg]
        exact numK_made hbd _ _ _ (pieceOf_le _)
      rw [flatF_s, flatF_s, ih (by omega), pieceOf_congr (hEok n (by omega)).1 (hm64 n) (hnew n (by omega) (by omega)), pieceOf_made _ _ _ _ (pieceN_le b n)]
  rw [key _ (by omega), pieceN_all]
  refine List.take_of_length_le ?_
  obtain ⟨_, hs, _, _⟩ := back_span (b := b) (by omega)
  omega
theorem putAll_q : ∀ (l : List (List Int)) (D : R08Disk) (k : Int), (putAll D k l).1.Queue.length ≤ D.Queue.length + l.length ∧ (putAll D k l).1.Base.length = D.Base.length
  | [], _, _ => ⟨Nat.le_refl _, rfl⟩
  | s :: l, D, k => by
    have h1 := dPut_q D k s
    have h2 := dPut_len D k s
    obtain ⟨h3, h4⟩ := putAll_q l (dPut D k s).1 (k + 1)
    unfold putAll
    split
    · exact ⟨by simp only [List.length_cons]; omega, h2⟩
    · exact ⟨by simp only [List.length_cons]; omega, by rw [h4, h2]⟩
theorem sPut_q (D : R08Disk) (k st : Int) (b : List Int) : (sPut D k st b).1.Queue.length ≤ D.Queue.length + 255 ∧ (sPut D k st b).1.Base.length = D.Base.length := by
  have hb := spanN_bd b.length
  unfold sPut
  split
  · exact ⟨by simp, rfl⟩
  · split
    · exact ⟨by simp, rfl⟩
    · have := putAll_q (secsN st b) D k
      rw [secsN_len] at this
      exact ⟨by omega, this.2⟩
end Go.Proofs.Ytnmjcdlgfimnaaa
