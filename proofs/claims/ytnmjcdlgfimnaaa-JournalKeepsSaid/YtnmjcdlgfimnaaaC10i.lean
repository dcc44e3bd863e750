/- Chapter 10: a log behind a crash, as plain law. -/
import Derived.Test.YtnmjcdlgfimnaaaC10f
import Derived.Test.YtnmjcdlgfimnaaaC10h
namespace Go.Proofs.Ytnmjcdlgfimnaaa
theorem land_facts (many : Nat → Int) {base : List (List Int)} {m : Nat} (hm : base.length = m) (ok : ∀ s ∈ base, SecOk s) (p : Nat) (l : List (List Int)) (hl : ∀ s ∈ l, SecOk s) (hfit : p + l.length ≤ m) :
    (landAll many 0 (itemsAt p l) base).length = m ∧ (∀ s ∈ landAll many 0 (itemsAt p l) base, SecOk s) ∧
      (∀ i, i < l.length → (landAll many 0 (itemsAt p l) base).getD (p + i) [] = mixTo (min (many i).toNat 64) (base.getD (p + i) []) (l.getD i [])) ∧
      ∀ k, k < p ∨ p + l.length ≤ k → (landAll many 0 (itemsAt p l) base).getD k [] = base.getD k [] := by
  have hland := (land_items many l p 0 base (by omega) (fun s hs => (ok s hs).1) (fun s hs => (hl s hs).1)).1
  have hto : ∀ y ∈ itemsAt p l, (p : Int) ≤ y.To ∧ y.To < p + l.length := fun y hy => (itemsAt_mem _ _ _ hy).2
  have hout : ∀ k, k < p ∨ p + l.length ≤ k → (landAll many 0 (itemsAt p l) base).getD k [] = base.getD k [] := fun k hk =>
    landAll_out many (itemsAt p l) 0 base fun y hy => by
      have := hto y hy
      omega
  have hin : ∀ i, i < l.length → (landAll many 0 (itemsAt p l) base).getD (p + i) [] = mixTo (min (many i).toNat 64) (base.getD (p + i) []) (l.getD i []) := fun i hi => by
    have := hland i hi
    rwa [Nat.zero_add] at this
  refine ⟨by rw [landAll_len]; exact hm, ?_, hin, hout⟩
  intro s hs
  obtain ⟨k, hk, rfl⟩ := List.mem_iff_getElem.1 hs
  rw [landAll_len] at hk
  have e : (landAll many 0 (itemsAt p l) base).getD k [] = (landAll many 0 (itemsAt p l) base)[k]'(by rw [landAll_len]; exact hk) := by
    rw [List.getD_eq_getElem?_getD, List.getElem?_eq_getElem (by rw [landAll_len]; exact hk)]; rfl
  rw [← e]
  by_cases h : p ≤ k ∧ k < p + l.length
  · obtain ⟨i, rfl⟩ : ∃ i, k = p + i := ⟨k - p, by omega⟩
    rw [hin i (by omega)]
    exact mix_ok (ok _ (getD_mem _ _ _ hk)) (hl _ (getD_mem _ _ _ (by omega))) _
  · rw [hout k (by omega)]
    exact ok _ (getD_mem _ _ _ hk)
theorem recN_app {D : R08Disk} {e : Int} : ∀ (rs : List (List Int)) (n : Nat) (k st : Int), 0 ≤ k → endPos k rs ≤ e → e ≤ D.Base.length → 0 < st → st + rs.length ≤ 18446744073709551615 → Placed D k st rs →
    recN D e (rs.length + n) k (st - 1) = (rs ++ (recN D e n (endPos k rs) (st + rs.length - 1)).1, (recN D e n (endPos k rs) (st + rs.length - 1)).2)
  | [], n, k, st, _, _, _, _, _, _ => by
    have : st + (([] : List (List Int)).length : Int) - 1 = st - 1 := by simp
    rw [this]
    simp [endPos]
  | r :: rs, n, k, st, h0, h1, h2, h3, h4, ⟨hp0, hp1, hp2⟩ => by
    have hb := spanR_bd r
    have hle := endPos_le rs (k + spanR r)
    simp only [endPos] at h1
    simp only [List.length_cons] at h4
    have hr : sRead D k e = (closeN r, st, spanR r, 0) := read_back (by omega) hp0 h0 (by show k + spanR r ≤ e; omega) h2 hp1
    have hn : ¬ recEnd D k e (st - 1) := by
      rintro (h | h | h)
      · rw [hr] at h; exact h rfl
      · rw [hr] at h
        simp only [open_close] at h
        simp at h
      · rw [hr] at h
        simp only at h
        omega
    have ih := recN_app rs n (k + spanR r) (st + 1) (by omega) h1 h2 (by omega) (by omega) hp2
    have e2 : st + 1 - 1 = st := by omega
    have e3 : st + 1 + (rs.length : Int) - 1 = st + ((r :: rs).length : Int) - 1 := by simp only [List.length_cons]; push_cast; omega
    rw [e2, e3] at ih
    have e4 : (r :: rs).length + n = (rs.length + n) + 1 := by simp only [List.length_cons]; omega
    rw [e4]
    simp only [recN, if_neg hn, hr, open_close, ih, endPos, List.cons_append]
structure LogF (L : LogS) (m : Nat) (k0 st0 : Int) (rs : List (List Int)) : Prop where
  base : L.D.Base.length = m
  q : L.D.Queue = []
  ok : ∀ s ∈ L.D.Base, SecOk s
  a : L.a = endPos k0 rs
  pos : 0 ≤ k0
  le : L.a ≤ L.e
  e : L.e ≤ m
  st : L.st = st0 + rs.length
  stb : 0 < st0 ∧ st0 + rs.length < 18446744073709551615
  placed : Placed L.D k0 st0 rs
  low : ∀ k : Int, L.a ≤ k → k < L.e → numK (secAt L.D k) 8 ≤ st0 - 1
theorem placed_len {D : R08Disk} : ∀ (rs : List (List Int)) (k st : Int), Placed D k st rs → (rs.length : Int) ≤ endPos k rs - k
  | [], k, st, _ => by simp [endPos]
  | r :: rs, k, st, ⟨h0, _, h2⟩ => by
    have := placed_len rs _ _ h2
    have := spanR_bd r
    simp only [List.length_cons, endPos]; omega
theorem keeps_torn {L : LogS} {m : Nat} {k0 st0 : Int} {rs : List (List Int)} (h : LogF L m k0 st0 rs) {r : List Int} (hb : ∀ x ∈ closeN r, 0 ≤ x ∧ x ≤ 255) (hsp : spanR r ≠ 0) (hfit : L.a + spanR r ≤ L.e)
    {D : R08Disk} (hD : D.Base = L.D.Base) {j : Nat} (hq : D.Queue = itemsAt L.a ((secsN L.st (closeN r)).take j)) (keep : List Int) :
    (recsN (dPower D keep) k0 L.e (st0 - 1)).1 = rs ∨ (recsN (dPower D keep) k0 L.e (st0 - 1)).1 = rs ++ [r] := by
  have ha := h.a
  have hle := endPos_le rs k0
  have h1 := h.le
  have h2 := h.e
  have h3 := h.pos
  have h4 := h.stb
  have hbase := h.base
  have hbd := spanR_bd r
  have hst := h.st
  obtain ⟨p, hp0⟩ : ∃ p : Nat, L.a = p := ⟨L.a.toNat, by omega⟩
  have hll : ((secsN L.st (closeN r)).take j).length = min j (spanR r).toNat := by rw [List.length_take, secsN_len]; rfl
  have hsecok : ∀ s ∈ (secsN L.st (closeN r)).take j, SecOk s := by
    intro s hs
    have hs := List.mem_of_mem_take hs
    simp only [secsN, List.mem_map, List.mem_range] at hs
    obtain ⟨i, hi, rfl⟩ := hs
    have := spanN_bd (closeN r).length
    exact made_ok (by omega) (by omega) (pieceN_le _ i) (piece_bytes hb i)
  obtain ⟨f1, f2, f3, f4⟩ := land_facts (keepAt keep) hbase h.ok p ((secsN L.st (closeN r)).take j) hsecok (by rw [hll]; omega)
  generalize hE0 : dPower D keep = E
  have hE : E.Base = landAll (keepAt keep) 0 (itemsAt p ((secsN L.st (closeN r)).take j)) L.D.Base := by
    rw [← hE0]
    simp only [dPower, hq, hD, hp0]
  have hEq : E.Queue = [] := by rw [← hE0]; rfl
  have hEl : E.Base.length = m := by rw [hE]; exact f1
  have hout : ∀ k : Int, 0 ≤ k → k < m → (k < L.a ∨ L.a + spanR r ≤ k) → secAt E k = secAt L.D k := by
    intro k h5 h6 h7
    obtain ⟨i, rfl⟩ : ∃ i : Nat, k = i := ⟨k.toNat, by omega⟩
    rw [get_base hEq (by omega), get_base h.q (by omega), hE]
    exact f4 i (by rw [hll]; omega)
  have hG : ∀ k, SecOk (dGet E k).1 := dGet_ok (by rw [hE]; exact f2) (by rw [hEq]; simp)
  have hp := placed_congr rs k0 st0 (E := E) (fun i h5 h6 => hout i (by omega) (by omega) (.inl (by omega))) h.placed
  have hl := placed_len rs k0 st0 h.placed
  have hsec : ∀ i : Nat, (i : Int) < spanR r → ∃ n old, n ≤ 64 ∧ SecOk old ∧ numK old 8 ≤ st0 - 1 ∧ secAt E (L.a + i) = mixTo n old (madeN i (spanR r) L.st (pieceN (closeN r) i)) := by
    intro i hi
    have hold : secAt L.D (L.a + i) = L.D.Base.getD (p + i) [] := by
      have := get_base h.q (k := p + i) (by omega)
      push_cast at this
      rw [hp0, this]
    have hnew : secAt E (L.a + i) = E.Base.getD (p + i) [] := by
      have := get_base hEq (k := p + i) (by omega)
      push_cast at this
      rw [hp0, this]
    have hok : SecOk (L.D.Base.getD (p + i) []) := h.ok _ (getD_mem _ _ _ (by omega))
    have hlow := h.low (L.a + i) (by omega) (by omega)
    rw [hold] at hlow
    by_cases hij : i < j
    · refine ⟨min (keepAt keep i).toNat 64, _, by omega, hok, hlow, ?_⟩
      rw [hnew, hE, f3 i (by rw [hll]; omega)]
      congr 1
      rw [List.getD_eq_getElem?_getD, List.getElem?_take, if_pos hij, secsN_get _ _ i (by show i < (spanR r).toNat; omega)]
      rfl
    · refine ⟨0, _, by omega, hok, hlow, ?_⟩
      rw [hnew, hE, f4 (p + i) (by rw [hll]; omega)]
      simp [mixTo]
  unfold recsN
  obtain ⟨n, hn⟩ : ∃ n, (L.e - k0).toNat + 1 = rs.length + (n + 2) := ⟨(L.e - k0).toNat - rs.length - 1, by omega⟩
  rw [hn, recN_app rs (n + 2) k0 st0 h3 (by omega) (by omega) h4.1 (by omega) hp, ← ha]
  by_cases hend : recEnd E L.a L.e (st0 + rs.length - 1)
  · left
    simp [recN, hend]
  · right
    have h0 : (sRead E L.a L.e).2.2.2 = 0 := Classical.byContradiction fun hc => hend (.inl hc)
    have hlt : st0 + rs.length - 1 < (sRead E L.a L.e).2.1 := by
      refine Classical.byContradiction fun hc => hend (.inr (.inr (by omega)))
    obtain ⟨g1, g2⟩ := torn_core (E := E) (k := L.a) (e := L.e) (floor := st0 - 1) (st := L.st) (b := closeN r) hsp hb hsec h0 (by omega)
    have g2' : (sRead E L.a L.e).2.2.1 = spanR r := g2
    have hend2 : recEnd E (L.a + spanR r) L.e (sRead E L.a L.e).2.1 := recEnd_low fun hk => by
      rw [hout _ (by omega) (by omega) (.inr (Int.le_refl _))]
      have := h.low (L.a + spanR r) (by omega) hk
      omega
    simp [recN, hend, g1, g2', hend2, open_close]
end Go.Proofs.Ytnmjcdlgfimnaaa
