/- Chapter 10: records on a disk, as plain law. -/
import Derived.Test.YtnmjcdlgfimnaaaC10e
namespace Go.Proofs.Ytnmjcdlgfimnaaa
def spanR (r : List Int) : Int := spanN ((closeN r).length : Int)
theorem closeN_len (r : List Int) : (closeN r).length = r.length + 4 := by simp [closeN, crcN_len]
theorem need_span {r : List Int} (h : needN r.length ≠ 0) : needN r.length = spanR r ∧ r.length ≤ 4096 := by
 unfold needN at h ⊢
 split at h
 ·simp at h
 ·rename_i h1
  rw [if_neg h1]
  refine ⟨?_, by omega⟩
  unfold spanR
  rw [closeN_len]
  push_cast
  rfl
def endPos (k : Int) : List (List Int) → Int
 | [] => k
 | r :: rs => endPos (k + spanR r) rs
def Placed (D : Qab) : Int → Int → List (List Int) → Prop
 | _, _, [] => True
 | k, st, r :: rs => spanR r ≠ 0 ∧ (∀ i : Nat, (i : Int) < spanR r → secAt D (k + i) = madeN i (spanR r) st (pieceN (closeN r) i)) ∧ Placed D (k + spanR r) (st + 1) rs
theorem spanR_bd (r : List Int) : 0 ≤ spanR r ∧ spanR r ≤ 255 := spanN_bd _
theorem endPos_le : ∀ (rs : List (List Int)) (k : Int), k ≤ endPos k rs
 | [], k => Int.le_refl k
 | r :: rs, k => by
  have := spanR_bd r
  have := endPos_le rs (k + spanR r)
  simp only [endPos]; omega
theorem endPos_snoc : ∀ (rs : List (List Int)) (k : Int) (r : List Int), endPos k (rs ++ [r]) = endPos k rs + spanR r
 | [], _, _ => rfl
 | x :: rs, k, r => endPos_snoc rs (k + spanR x) r
theorem placed_congr {D E : Qab} : ∀ (rs : List (List Int)) (k st : Int), (∀ j, k ≤ j → j < endPos k rs → secAt E j = secAt D j) → Placed D k st rs → Placed E k st rs
 | [], _, _, _, _ => trivial
 | r :: rs, k, st, h, ⟨h0, h1, h2⟩ => by
  have hb := spanR_bd r
  have hle := endPos_le rs (k + spanR r)
  refine ⟨h0, fun i hi => ?_, placed_congr rs (k + spanR r) (st + 1) (fun j h3 h4 => h j (by omega) h4) h2⟩
  rw [h (k + i) (by omega) (by simp only [endPos]; omega)]
  exact h1 i hi
theorem placed_snoc {D : Qab} : ∀ (rs : List (List Int)) (k st : Int) (r : List Int), Placed D k st rs → spanR r ≠ 0 → (∀ i : Nat, (i : Int) < spanR r → secAt D (endPos k rs + i) = madeN i (spanR r) (st + rs.length) (pieceN (closeN r) i)) → Placed D k st (rs ++ [r])
 | [], k, st, r, _, h1, h2 => ⟨h1, by simpa [endPos] using h2, trivial⟩
 | x :: rs, k, st, r, ⟨h0, h3, h4⟩, h1, h2 => by
  refine ⟨h0, h3, placed_snoc rs (k + spanR x) (st + 1) r h4 h1 fun i hi => ?_⟩
  have h9 := h2 i hi
  simp only [endPos] at h9
  rw [h9]
  congr 1
  simp only [List.length_cons]; omega
theorem recN_placed {D : Qab} {e : Int} : ∀ (rs : List (List Int)) (n : Nat) (k st : Int), 0 ≤ k → endPos k rs ≤ e → e ≤ D.Base.length → 0 < st → st + rs.length ≤ 18446744073709551615 → rs.length < n →
    Placed D k st rs → recEnd D (endPos k rs) e (st + rs.length - 1) → recN D e n k (st - 1) = (rs, endPos k rs)
 | rs, 0, _, _, _, _, _, _, _, h, _, _ => absurd h (Nat.not_lt_zero _)
 | [], n + 1, k, st, _, _, _, _, _, _, _, he => by
  have : recEnd D k e (st - 1) := by simpa [endPos] using he
  simp [recN, this, endPos]
 | r :: rs, n + 1, k, st, h0, h1, h2, h3, h4, h5, ⟨hp0, hp1, hp2⟩, he => by
  have hb := spanR_bd r
  have hle := endPos_le rs (k + spanR r)
  simp only [endPos] at h1 he
  simp only [List.length_cons] at h4 h5 he
  have hr : sRead D k e = (closeN r, st, spanR r, 0) := read_back (by omega) hp0 h0 (by show k + spanR r ≤ e; omega) h2 hp1
  have hn : ¬ recEnd D k e (st - 1) := by
   rintro (h | h | h)
   ·rw [hr] at h; exact h rfl
   ·rw [hr] at h
    simp only [open_close] at h
    simp at h
   ·rw [hr] at h
    simp only at h
    omega
  have ih := recN_placed rs n (k + spanR r) (st + 1) (by omega) h1 h2 (by omega) (by omega) (by omega) hp2 (by
   have e1 : st + 1 + (rs.length : Int) - 1 = st + ((rs.length + 1 : Nat) : Int) - 1 := by push_cast; omega
   rw [e1]; exact he)
  have e2 : st + 1 - 1 = st := by omega
  rw [e2] at ih
  simp only [recN, if_neg hn, hr, open_close, ih, endPos]
theorem recEnd_low {D : Qab} {k e last : Int} (h : k < e → numK (secAt D k) 8 ≤ last) : recEnd D k e last := by
 unfold recEnd
 by_cases h0 : (sRead D k e).2.2.2 = 0
 ·obtain ⟨hok, he⟩ := read_inv h0
  refine .inr (.inr ?_)
  rw [he]
  simp only
  refine h ?_
  have h1 := hok.2.2.1
  have h2 := hok.2.1
  refine Classical.byContradiction fun hc => ?_
  unfold sRead at h0
  split at h0
  ·simp at h0
  ·rw [if_pos (by omega)] at h0; simp at h0
 ·exact .inl h0
theorem landAll_out (many : Nat → Int) {k : Nat} : ∀ (q : List Qad) (j : Nat) (base : List (List Int)), (∀ y ∈ q, y.To.toNat ≠ k) → (landAll many j q base).getD k [] = base.getD k []
 | [], _, _, _ => rfl
 | y :: q, j, base, h => by
  have h1 := h y (by simp)
  rw [landAll, landAll_out many q (j + 1) _ fun z hz => h z (by simp [hz])]
  simp only [landL, landN, List.getD_eq_getElem?_getD]
  rw [List.getElem?_set_ne h1]
theorem get_base {D : Qab} (hq : D.Queue = []) {k : Nat} (h : k < D.Base.length) : secAt D k = D.Base.getD k [] := by
 have : dThere D k = true := by simp [dThere, h]
 simp [secAt, dGet, this, hq, qTo]
structure Quiet (D : Qab) (m : Nat) : Prop where
 burns : D.Burns < 0
 live : D.Dead = false
 base : D.Base.length = m
 q : D.Queue = []
 ok : ∀ s ∈ D.Base, s.length = 64
theorem mix_full (a b : List Int) (ha : a.length = 64) (hb : b.length = 64) : mixTo 64 a b = b := by
 unfold mixTo
 rw [List.take_of_length_le (by omega), List.drop_eq_nil_of_le (by omega), List.append_nil]
theorem write_flush {D : Qab} {m : Nat} (h : Quiet D m) {a st : Int} {b : List Int} (hst : st ≠ 0) (hsp : spanN b.length ≠ 0) (h0 : 0 ≤ a) (h1 : a + spanN b.length ≤ m) :
    (sPut D a st b).2 = 0 ∧ (dFlush (sPut D a st b).1).2 = 0 ∧ Quiet (dFlush (sPut D a st b).1).1 m ∧
     (∀ i : Nat, (i : Int) < spanN b.length → secAt (dFlush (sPut D a st b).1).1 (a + i) = madeN i (spanN b.length) st (pieceN b i)) ∧
     ∀ k : Int, 0 ≤ k → k < m → (k < a ∨ a + spanN b.length ≤ k) → secAt (dFlush (sPut D a st b).1).1 k = secAt D k := by
 have hb := spanN_bd b.length
 have hbase := h.base
 obtain ⟨p, rfl⟩ : ∃ p : Nat, a = p := ⟨a.toNat, by omega⟩
 rw [sPut_live h.burns h.live hst hsp h0 (by omega)]
 have hfl : dFlush (dQ D (itemsAt p (secsN st b))) = ({ D with Base := landAll (fun _ => 64) 0 (itemsAt p (secsN st b)) D.Base, Queue := [] }, 0) := by
  unfold dFlush
  rw [spend_live (D := dQ D (itemsAt p (secsN st b))) h.burns h.live, if_pos rfl]
  simp [dQ, h.q]
 simp only [hfl]
 have hsec64 : ∀ s ∈ secsN st b, s.length = 64 := by
  intro s hs
  simp only [secsN, List.mem_map, List.mem_range] at hs
  obtain ⟨i, _, rfl⟩ := hs
  exact madeN_len _ _ _ _ (pieceN_le b i)
 have hland := (land_items (fun _ => 64) (secsN st b) p 0 D.Base (by rw [secsN_len]; omega) h.ok hsec64).1
 have hto : ∀ y ∈ itemsAt p (secsN st b), (p : Int) ≤ y.To ∧ y.To < p + spanN b.length := by
  intro y hy
  have := itemsAt_mem _ _ _ hy
  rw [secsN_len] at this
  omega
 refine ⟨trivial, trivial, ⟨h.burns, h.live, by simp only [landAll_len]; exact hbase, rfl, ?_⟩, ?_, ?_⟩
 ·intro s hs
  obtain ⟨k, hk, rfl⟩ := List.mem_iff_getElem.1 hs
  rw [landAll_len] at hk
  by_cases hin : p ≤ k ∧ k < p + (secsN st b).length
  ·obtain ⟨i, rfl⟩ : ∃ i, k = p + i := ⟨k - p, by omega⟩
   have := hland i (by omega)
   rw [List.getD_eq_getElem?_getD, List.getElem?_eq_getElem (by rw [landAll_len]; exact hk)] at this
   simp only [Option.getD_some] at this
   rw [this, mixTo_len]
   ·exact h.ok _ (getD_mem _ _ _ hk)
   ·rw [h.ok _ (getD_mem _ _ _ hk), hsec64 _ (getD_mem _ _ _ (by omega))]
  ·have := landAll_out (fun _ => 64) (k := k) (itemsAt p (secsN st b)) 0 D.Base fun y hy => by
    have := hto y hy
    rw [secsN_len] at hin
    omega
   rw [List.getD_eq_getElem?_getD, List.getElem?_eq_getElem (by rw [landAll_len]; exact hk), List.getD_eq_getElem?_getD, List.getElem?_eq_getElem hk] at this
   simp only [Option.getD_some] at this
   rw [this]
   exact h.ok _ (List.getElem_mem hk)
 ·intro i hi
  have e1 := get_base (D := { D with Base := landAll (fun _ => 64) 0 (itemsAt p (secsN st b)) D.Base, Queue := [] }) rfl (k := p + i) (by simp only [landAll_len]; omega)
  push_cast at e1
  rw [e1]
  rw [hland i (by rw [secsN_len]; omega)]
  have e2 : (secsN st b).getD i [] = madeN i (spanN b.length) st (pieceN b i) := by
   rw [List.getD_eq_getElem?_getD, secsN_get st b i (by omega)]; rfl
  rw [e2]
  exact mix_full _ _ (h.ok _ (getD_mem _ _ _ (by omega))) (madeN_len _ _ _ _ (pieceN_le b i))
 ·intro k hk0 hkm hk
  obtain ⟨j, rfl⟩ : ∃ j : Nat, k = j := ⟨k.toNat, by omega⟩
  rw [get_base (D := { D with Base := landAll (fun _ => 64) 0 (itemsAt p (secsN st b)) D.Base, Queue := [] }) rfl (by simp only [landAll_len]; omega), get_base h.q (by omega)]
  exact landAll_out (fun _ => 64) (itemsAt p (secsN st b)) 0 D.Base fun y hy => by
   have := hto y hy
   omega
structure LogOk (L : LogS) (m : Nat) (k0 st0 : Int) (rs : List (List Int)) : Prop where
 quiet : Quiet L.D m
 a : L.a = endPos k0 rs
 pos : 0 ≤ k0
 le : L.a ≤ L.e
 e : L.e ≤ m
 st : L.st = st0 + rs.length
 stb : 0 < st0 ∧ st0 + rs.length < 18446744073709551615
 placed : Placed L.D k0 st0 rs
 low : ∀ k : Int, L.a ≤ k → k < L.e → numK (secAt L.D k) 8 ≤ st0 - 1
theorem logOk_recs {L : LogS} {m : Nat} {k0 st0 : Int} {rs : List (List Int)} (h : LogOk L m k0 st0 rs) : recsN L.D k0 L.e (st0 - 1) = (rs, L.a) := by
 have hle := endPos_le rs k0
 have hlen : ∀ (rs : List (List Int)) (k : Int) (st : Int), Placed L.D k st rs → (rs.length : Int) ≤ endPos k rs - k := by
  intro rs
  induction rs with
  | nil => intro k st _; simp [endPos]
  | cons r rs ih =>
   rintro k st ⟨h0, _, h2⟩
   have := ih _ _ h2
   have := spanR_bd r
   simp only [List.length_cons, endPos]; omega
 have hl := hlen rs k0 st0 h.placed
 have ha := h.a
 have hk := h.le
 have he := h.e
 have hb := h.quiet.base
 have hs := h.stb
 unfold recsN
 rw [recN_placed rs _ k0 st0 h.pos (by omega) (by omega) hs.1 (by omega) (by omega) h.placed (recEnd_low fun hlt => by
  rw [← ha] at hlt ⊢
  have := h.low L.a (Int.le_refl _) hlt
  omega), ha]
theorem logOk_app {L : LogS} {m : Nat} {k0 st0 : Int} {rs : List (List Int)} (h : LogOk L m k0 st0 rs) (r : List Int) (hst : st0 + rs.length + 1 < 18446744073709551615) :
    (needN r.length = 0 → appN L r = (L, 101)) ∧ (needN r.length ≠ 0 → L.e - L.a < needN r.length → appN L r = (L, 102)) ∧
     (needN r.length ≠ 0 → ¬ L.e - L.a < needN r.length → (appN L r).2 = 0 ∧ LogOk (appN L r).1 m k0 st0 (rs ++ [r]) ∧ (appN L r).1.a = L.a + needN r.length ∧ (appN L r).1.e = L.e) := by
 refine ⟨fun h1 => by unfold appN; rw [if_pos h1], fun h1 h2 => by unfold appN; rw [if_neg h1, if_pos h2], fun h1 h2 => ?_⟩
 obtain ⟨hsp, hr⟩ := need_span h1
 have hs := h.stb
 have hLst := h.st
 have hle := endPos_le rs k0
 have ha := h.a
 have he := h.e
 have hk := h.le
 have hk0 := h.pos
 have hbd := spanR_bd r
 obtain ⟨w1, w2, w3, w4, w5⟩ := write_flush h.quiet (a := L.a) (st := L.st) (b := closeN r) (by omega) (by show spanR r ≠ 0; omega) (by omega) (by show L.a + spanR r ≤ m; omega)
 have hw : IntKind.u64.wrap (L.st + 1) = L.st + 1 := Qa5 _ (by omega) (by omega)
 have e : appN L r = (⟨(dFlush (sPut L.D L.a L.st (closeN r)).1).1, L.a + needN r.length, L.e, IntKind.u64.wrap (L.st + 1)⟩, 0) := by
  unfold appN
  rw [if_neg h1, if_neg h2, if_neg (by simpa using w1), if_neg (by simpa using w2)]
 rw [e]
 refine ⟨rfl, ⟨w3, ?_, hk0, ?_, he, ?_, ?_, ?_, ?_⟩, rfl, rfl⟩
 ·show L.a + needN r.length = endPos k0 (rs ++ [r])
  rw [endPos_snoc, hsp, ha]
 ·show L.a + needN r.length ≤ L.e
  omega
 ·show IntKind.u64.wrap (L.st + 1) = st0 + ((rs ++ [r]).length : Int)
  rw [hw, hLst]
  simp only [List.length_append, List.length_singleton]
  push_cast
  omega
 ·simp only [List.length_append, List.length_singleton]
  push_cast
  omega
 ·refine placed_snoc rs k0 st0 r (placed_congr rs k0 st0 (fun j h3 h4 => w5 j (by omega) (by omega) (.inl (by omega))) h.placed) (by omega) fun i hi => ?_
  rw [← ha, ← hLst]
  exact w4 i hi
 ·intro k h3 h4
  have h3' : L.a + needN r.length ≤ k := h3
  have h4' : k < L.e := h4
  show numK (secAt (dFlush (sPut L.D L.a L.st (closeN r)).1).1 k) 8 ≤ st0 - 1
  rw [w5 k (by omega) (by omega) (.inr (by show L.a + spanR r ≤ k; omega))]
  exact h.low k (by omega) h4'
theorem get_zeros {n : Int} {k : Int} : secAt (dBlank n) k = zeros := by
 unfold secAt dGet
 split
 ·rename_i ht
  simp only [dThere, Bool.and_eq_true, decide_eq_true_eq] at ht
  have : (dBlank n).Base.getD k.toNat [] = zeros := by
   have hm := getD_mem (dBlank n).Base k.toNat [] (by omega)
   simp only [dBlank, List.mem_replicate] at hm
   exact hm.2
  rw [this]
  rfl
 ·rfl
theorem blank_quiet (n : Int) (h0 : 0 ≤ n) (h1 : n ≤ 2048) : Quiet (dBlank n) n.toNat := by
 refine ⟨by simp [dBlank], rfl, by have := blank_len h0 h1; omega, rfl, fun s hs => ?_⟩
 simp only [dBlank, List.mem_replicate] at hs
 rw [hs.2]; rfl
theorem blank_recs {n e : Int} (last : Int) (hl : 0 ≤ last) (k : Int) : recsN (dBlank n) k e last = ([], k) := by
 unfold recsN
 have : recEnd (dBlank n) k e last := recEnd_low fun _ => by rw [get_zeros, numK_zeros]; exact hl
 simp [recN, this]
theorem blank_top {n : Int} : ∀ (m : Nat) (k : Int), 0 ≤ k → k + m ≤ (dBlank n).Base.length → (sTop (dBlank n) m k 0) = (0, 0)
 | 0, _, _, _ => rfl
 | m + 1, k, h0, h1 => by
  have hg : (dGet (dBlank n) k).2 = 0 := get_ok h0 (by omega)
  have hs : secAt (dBlank n) k = zeros := get_zeros
  have : sTop (dBlank n) (m + 1) k 0 = sTop (dBlank n) m (k + 1) (max 0 (numK (secAt (dBlank n) k) 8)) := by
   show (if (dGet (dBlank n) k).2 ≠ 0 then _ else _) = _
   rw [if_neg (by simpa using hg)]
  rw [this, hs, numK_zeros]
  exact blank_top m (k + 1) (by omega) (by push_cast at h1; omega)
end Go.Proofs.Ytnmjcdlgfimnaaa
