/- Chapter 10: an append that a fuse may cut off, as plain law. -/
import Derived.Test.YtnmjcdlgfimnaaaC10i
import Derived.Test.YtnmjcdlgfimnaaaC10e
import Derived.Test.YtnmjcdlgfimnaaaC11e
namespace Go.Proofs.Ytnmjcdlgfimnaaa
theorem crc_bytes (r : List Int) : ∀ x ∈ crcN r, 0 ≤ x ∧ x ≤ 255 := by
  intro x hx
  have h : ∀ n, 0 ≤ IntKind.u8.wrap n ∧ IntKind.u8.wrap n ≤ 255 := fun n => (inK_u8 _).1 (wrap_inK .u8 n)
  simp only [crcN, tailN, List.mem_cons, List.not_mem_nil, or_false] at hx
  rcases hx with rfl | rfl | rfl | rfl <;> exact h _
theorem close_bytes {r : List Int} (hb : ∀ x ∈ r, 0 ≤ x ∧ x ≤ 255) : ∀ x ∈ closeN r, 0 ≤ x ∧ x ≤ 255 := by
  intro x hx
  simp only [closeN, List.mem_append] at hx
  rcases hx with h | h
  · exact hb x h
  · exact crc_bytes r x h
theorem secs_ok {st : Int} {b : List Int} (hb : ∀ x ∈ b, 0 ≤ x ∧ x ≤ 255) : ∀ s ∈ secsN st b, SecOk s := by
  intro s hs
  have := spanN_bd b.length
  simp only [secsN, List.mem_map, List.mem_range] at hs
  obtain ⟨i, hi, rfl⟩ := hs
  exact made_ok (by omega) (by omega) (pieceN_le b i) (piece_bytes hb i)
theorem logF_app {L : LogS} {m : Nat} {k0 st0 : Int} {rs : List (List Int)} (h : LogF L m k0 st0 rs) {r : List Int} (hb : ∀ x ∈ closeN r, 0 ≤ x ∧ x ≤ 255) (hst : st0 + rs.length + 1 < 18446744073709551615) :
    (needN r.length = 0 → appN L r = (L, 101)) ∧ (needN r.length ≠ 0 → L.e - L.a < needN r.length → appN L r = (L, 102)) ∧
      (needN r.length ≠ 0 → ¬ L.e - L.a < needN r.length →
        ((appN L r).2 = 0 ∧ LogF (appN L r).1 m k0 st0 (rs ++ [r]) ∧ (appN L r).1.e = L.e) ∨
        ((appN L r).2 = 82 ∧ (appN L r).1.D.Base = L.D.Base ∧ (appN L r).1.D.Dead = true ∧ ∃ j, (appN L r).1.D.Queue = itemsAt L.a ((secsN L.st (closeN r)).take j))) := by
  refine ⟨fun h1 => by unfold appN; rw [if_pos h1], fun h1 h2 => by unfold appN; rw [if_neg h1, if_pos h2], fun h1 h2 => ?_⟩
  obtain ⟨hsp, hr⟩ := need_span h1
  have hs := h.stb
  have hLst := h.st
  have hle := endPos_le rs k0
  have ha := h.a
  have he := h.e
  have hk := h.le
  have hk0 := h.pos
  have hbd := spanR_bd r
  have hbase := h.base
  have hsp2 : spanR r ≠ 0 := by omega
  obtain ⟨p, hp⟩ : ∃ p : Nat, L.a = p := ⟨L.a.toNat, by omega⟩
  have eput : sPut L.D L.a L.st (closeN r) = putAll L.D L.a (secsN L.st (closeN r)) := by
    unfold sPut
    have c1 : ¬ (L.st = 0 ∨ spanN (closeN r).length = 0) := by
      rintro (h5 | h5)
      · omega
      · exact hsp2 h5
    have c2 : ¬ (L.a < 0 ∨ (L.D.Base.length : Int) - spanN (closeN r).length < L.a) := by
      rintro (h5 | h5)
      · omega
      · have : (L.D.Base.length : Int) - spanR r < L.a := h5
        omega
    rw [if_neg c1, if_neg c2]
  have hll : ((secsN L.st (closeN r)).length : Int) = spanR r := by rw [secsN_len]; show ((spanR r).toNat : Int) = _; omega
  obtain ⟨j, hj, p1, p2, p3⟩ := putAll_gen (secsN L.st (closeN r)) L.D L.a (by omega) (by omega)
  rw [← eput] at p1 p2 p3
  rw [h.q, List.nil_append] at p2
  rcases p3 with ⟨p3, p4⟩ | ⟨p3, p4⟩
  · rw [List.take_of_length_le (by omega)] at p2
    rcases flush_gen (sPut L.D L.a L.st (closeN r)).1 with ⟨f1, f2, f3⟩ | ⟨f1, f2, f3, f4⟩
    · left
      have hw : IntKind.u64.wrap (L.st + 1) = L.st + 1 := w_u64 _ (by omega) (by omega)
      have e : appN L r = (⟨(dFlush (sPut L.D L.a L.st (closeN r)).1).1, L.a + needN r.length, L.e, IntKind.u64.wrap (L.st + 1)⟩, 0) := by
        unfold appN
        rw [if_neg h1, if_neg h2, if_neg (by simpa using p3), if_neg (by simpa using f1)]
      rw [e]
      clear e
      generalize (dFlush (sPut L.D L.a L.st (closeN r)).1).1 = F at *
      rw [p1, p2, hp] at f2
      obtain ⟨l1, l2, l3, l4⟩ := land_facts (fun _ => 64) hbase h.ok p (secsN L.st (closeN r)) (secs_ok hb) (by omega)
      rw [← f2] at l1 l2 l3 l4
      have hold : ∀ k : Int, 0 ≤ k → k < m → (k < L.a ∨ L.a + spanR r ≤ k) → secAt F k = secAt L.D k := fun k h5 h6 h7 => by
        obtain ⟨i, rfl⟩ : ∃ i : Nat, k = i := ⟨k.toNat, by omega⟩
        rw [get_base f3 (by omega), get_base h.q (by omega)]
        exact l4 i (by omega)
      refine ⟨rfl, ⟨l1, f3, l2, ?_, hk0, ?_, he, ?_, ?_, ?_, ?_⟩, rfl⟩
      · show L.a + needN r.length = endPos k0 (rs ++ [r])
        rw [endPos_snoc, hsp, ha]
      · show L.a + needN r.length ≤ L.e
        omega
      · show IntKind.u64.wrap (L.st + 1) = st0 + ((rs ++ [r]).length : Int)
        rw [hw, hLst]
        simp only [List.length_append, List.length_singleton]
        push_cast
        omega
      · simp only [List.length_append, List.length_singleton]
        push_cast
        omega
      · refine placed_snoc rs k0 st0 r (placed_congr rs k0 st0 (fun j h3 h4 => hold j (by omega) (by omega) (.inl (by omega))) h.placed) (by omega) fun i hi => ?_
        rw [← ha, ← hLst]
        show secAt F (L.a + i) = _
        have e1 := get_base f3 (k := p + i) (by omega)
        push_cast at e1
        rw [hp, e1, l3 i (by omega)]
        have e2 : (secsN L.st (closeN r)).getD i [] = madeN i (spanR r) L.st (pieceN (closeN r) i) := by
          rw [List.getD_eq_getElem?_getD, secsN_get _ _ i (by show i < (spanR r).toNat; omega)]; rfl
        rw [e2]
        exact mix_full _ _ (h.ok _ (getD_mem _ _ _ (by omega))).1 (madeN_len _ _ _ _ (pieceN_le _ i))
      · intro k h3 h4
        have h3' : L.a + needN r.length ≤ k := h3
        have h4' : k < L.e := h4
        show numK (secAt F k) 8 ≤ st0 - 1
        rw [hold k (by omega) (by omega) (.inr (by omega))]
        exact h.low k (by omega) h4'
    · right
      have e : appN L r = (⟨(dFlush (sPut L.D L.a L.st (closeN r)).1).1, L.a, L.e, L.st⟩, 82) := by
        unfold appN
        rw [if_neg h1, if_neg h2, if_neg (by simpa using p3), if_pos (by rw [f1]; decide), f1]
      rw [e]
      refine ⟨rfl, f2.trans p1, f4, (secsN L.st (closeN r)).length, ?_⟩
      rw [List.take_of_length_le (by omega)]
      exact f3.trans p2
  · right
    have e : appN L r = (⟨(sPut L.D L.a L.st (closeN r)).1, L.a, L.e, L.st⟩, 82) := by
      unfold appN
      rw [if_neg h1, if_neg h2, if_pos (by rw [p3]; decide), p3]
    rw [e]
    exact ⟨rfl, p1, p4, j, p2⟩
end Go.Proofs.Ytnmjcdlgfimnaaa
