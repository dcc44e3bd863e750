/- Chapter 12: the plain law of a journal on a disk that works. -/
import Derived.Test.YtnmjcdlgfimnaaaJ12g
import Derived.Test.YtnmjcdlgfimnaaaC11e
import Derived.Test.YtnmjcdlgfimnaaaL10a
namespace Go.Proofs.Ytnmjcdlgfimnaaa
theorem placed_top {D : R08Disk} : ∀ (rs : List (List Int)) (k st : Int), Placed D k st rs → 0 < st → st + rs.length ≤ 18446744073709551615 → ∀ j : Int, k ≤ j → j < endPos k rs → numK (secAt D j) 8 ≤ st + rs.length - 1
  | [], k, st, _, _, _, j, h1, h2 => by simp only [endPos] at h2; omega
  | r :: rs, k, st, ⟨hs, hp, hr⟩, h0, hb, j, h1, h2 => by
    simp only [endPos] at h2
    simp only [List.length_cons] at hb ⊢
    have hbd := spanR_bd r
    by_cases hj : j < k + spanR r
    · obtain ⟨i, rfl⟩ : ∃ i : Nat, j = k + i := ⟨(j - k).toNat, by omega⟩
      rw [hp i (by omega), numK_made (by omega) _ _ _ (pieceN_le _ _)]
      omega
    · have := placed_top rs (k + spanR r) (st + 1) hr (by omega) (by push_cast at hb; omega) j (by omega) h2
      push_cast
      omega
theorem logOk_top {L : LogS} {m : Nat} {k0 st0 : Int} {rs : List (List Int)} (h : LogOk L m k0 st0 rs) : ∀ j : Int, k0 ≤ j → j < L.e → numK (secAt L.D j) 8 ≤ st0 + rs.length - 1 := by
  intro j h1 h2
  have hb := h.stb
  by_cases hj : j < L.a
  · exact placed_top rs k0 st0 h.placed hb.1 (by omega) j h1 (by rw [← h.a]; exact hj)
  · have := h.low j (by omega) h2
    omega
/-- Opened where nothing of it stands. -/
theorem open_fresh {E : R08Disk} {m : Nat} (h : Quiet E m) {k e fl : Int} (h0 : 0 ≤ k) (h1 : k ≤ e) (h2 : e ≤ m) (hf : ∀ j : Int, k ≤ j → j < e → numK (secAt E j) 8 ≤ fl) (hf0 : 0 ≤ fl ∧ fl < 4611686018427387904) :
    recsN E k e fl = ([], k) ∧ openL E k e fl = ⟨E, k, e, fl + 1⟩ ∧ LogOk ⟨E, k, e, fl + 1⟩ m k (fl + 1) [] := by
  have hb := h.base
  have hr : recsN E k e fl = ([], k) := by
    have he : recEnd E k e fl := recEnd_low fun hlt => hf k (by omega) hlt
    unfold recsN
    simp [recN, he]
  have ht : (topN E k e).1 ≤ fl := by
    unfold topN
    refine sTop_le _ k 0 (fun j h3 h4 => hf j h3 (by omega)) hf0.1 h0 (by omega)
  have ht0 : 0 ≤ (topN E k e).1 := by
    unfold topN
    exact (sTop_ok (D := E) (e - k).toNat k 0 h0 (by omega)).2.1
  refine ⟨hr, ?_, ⟨h, rfl, h0, h1, h2, by simp, ⟨by omega, by simp only [List.length_nil]; omega⟩, trivial, fun j h3 h4 => ?_⟩⟩
  · unfold openL
    rw [hr, w_u64 _ (by omega) (by omega)]
    have : max fl (topN E k e).1 = fl := by omega
    rw [this]
  · have := hf j h3 h4
    simp only
    omega
theorem slotOk_congr {D E : R08Disk} {m : Nat} {k z g : Int} {was : List Int} (h : SlotOk D m k z g was) (hq : Quiet E m) (he : ∀ j : Int, k ≤ j → j < k + 2 * z → secAt E j = secAt D j) : SlotOk E m k z g was := by
  obtain ⟨r1, r2, r3, r4⟩ := h.right
  have hp : ∀ x : Int, (x % 2 = 0 ∨ x % 2 = 1) → 0 ≤ z * (x % 2) ∧ z * (x % 2) + z ≤ 2 * z := fun x hx => by rcases hx with e | e <;> rw [e] <;> omega
  have hg := hp g (by omega)
  have hg1 := hp (g + 1) (by omega)
  refine ⟨hq, h.right, h.gb, fun j h1 h2 => ?_, h.zero, h.sp, fun hg0 i hi => ?_, fun hg0 j h1 h2 => ?_⟩
  · rw [he j h1 h2]; exact h.low j h1 h2
  · have hs := h.sp hg0
    rw [he _ (by omega) (by omega)]; exact h.there hg0 i hi
  · rw [he j (by omega) (by omega)]; exact h.other hg0 j h1 h2
/-- What an append leaves as it was. -/
theorem app_keep {L : LogS} {m : Nat} {k0 st0 : Int} {rs : List (List Int)} (h : LogOk L m k0 st0 rs) (r : List Int) (h1 : needN r.length ≠ 0) (h2 : ¬ L.e - L.a < needN r.length) : ∀ j : Int, 0 ≤ j → j < L.a → secAt (appN L r).1.D j = secAt L.D j := by
  obtain ⟨hsp, hr⟩ := need_span h1
  have hs := h.stb
  have hst := h.st
  have hle := endPos_le rs k0
  have ha := h.a
  have he := h.e
  have hk := h.le
  have hk0 := h.pos
  have hbd := spanR_bd r
  obtain ⟨w1, w2, w3, w4, w5⟩ := write_flush h.quiet (a := L.a) (st := L.st) (b := closeN r) (by omega) (by show spanR r ≠ 0; omega) (by omega) (by show L.a + spanR r ≤ m; omega)
  have e : (appN L r).1.D = (dFlush (sPut L.D L.a L.st (closeN r)).1).1 := by
    unfold appN
    rw [if_neg h1, if_neg h2, if_neg (by simpa using w1), if_neg (by simpa using w2)]
  intro j h3 h4
  rw [e]
  exact w5 j h3 (by omega) (.inl h4)
/-- A journal on a disk that works: what its slot holds, and its records. -/
structure JOk (J : JourS) (m : Nat) (g fl : Int) (c : List Int) (rs : List (List Int)) : Prop where
  slot : SlotOk J.L.D m 0 J.z g (numB fl.toNat ++ c)
  log : LogOk J.L m (2 * J.z) (fl + 1) rs
  e : J.L.e = m
  r : J.r = true
  g0 : 1 ≤ g
  b : 0 ≤ fl ∧ fl + rs.length ≤ 1152921504606846976
theorem jok_z {J : JourS} {m : Nat} {g fl : Int} {c : List Int} {rs : List (List Int)} (h : JOk J m g fl c rs) : 1 ≤ J.z ∧ J.z ≤ 255 ∧ 2 * J.z ≤ m := by
  obtain ⟨_, h2, h3, h4⟩ := h.slot.right
  exact ⟨h2, h3, by omega⟩
theorem jok_read {J : JourS} {m : Nat} {g fl : Int} {c : List Int} {rs : List (List Int)} (h : JOk J m g fl c rs) : slRead J.L.D 0 J.z = (numB fl.toNat ++ c, g, 0) := slotOk_read h.slot (by have := h.g0; omega)
theorem jok_recs {J : JourS} {m : Nat} {g fl : Int} {c : List Int} {rs : List (List Int)} (h : JOk J m g fl c rs) : recsN J.L.D (2 * J.z) m fl = (rs, J.L.a) := by
  have h1 := logOk_recs h.log
  have h2 : fl + 1 - 1 = fl := by omega
  rw [h2, h.e] at h1
  exact h1
theorem jok_st {J : JourS} {m : Nat} {g fl : Int} {c : List Int} {rs : List (List Int)} (h : JOk J m g fl c rs) : J.L.st - 1 = fl + rs.length := by
  have := h.log.st
  omega
theorem jok_com {J : JourS} {m : Nat} {g fl : Int} {c : List Int} {rs : List (List Int)} (h : JOk J m g fl c rs) (hg : g + 1 < 4611686018427387904) (c2 : List Int)
    (hc : spanN (closeN (numB (fl + rs.length).toNat ++ c2)).length ≠ 0 ∧ spanN (closeN (numB (fl + rs.length).toNat ++ c2)).length ≤ J.z) :
    (slWrite J.L.D 0 J.z (numB (J.L.st - 1).toNat ++ c2)).2.2 = 0 ∧ JOk (jCom J c2) m (g + 1) (fl + rs.length) c2 [] ∧ (jCom J c2).L.a = 2 * J.z := by
  have hst := jok_st h
  have hg0 := h.g0
  have hz := jok_z h
  have hb := h.b
  obtain ⟨w1, w2, w3⟩ := slotOk_write h.slot (fun h0 => absurd h0 (by omega)) hg (numB (fl + rs.length).toNat ++ c2) hc
  have htop := logOk_top h.log
  have he := h.e
  have hbase : (slWrite J.L.D 0 J.z (numB (J.L.st - 1).toNat ++ c2)).1.Base.length = m := by rw [hst]; exact w2.quiet.base
  have hcom : jCom J c2 = ⟨openL (slWrite J.L.D 0 J.z (numB (J.L.st - 1).toNat ++ c2)).1 (2 * J.z) (slWrite J.L.D 0 J.z (numB (J.L.st - 1).toNat ++ c2)).1.Base.length (J.L.st - 1), J.z, true⟩ := rfl
  rw [hcom, hbase, hst]
  generalize hW : slWrite J.L.D 0 J.z (numB (fl + rs.length).toNat ++ c2) = W at *
  obtain ⟨f1, f2, f3⟩ := open_fresh (E := W.1) (m := m) w2.quiet (k := 2 * J.z) (e := m) (fl := fl + rs.length) (by omega) (by omega) (Int.le_refl _) (fun j h1 h2 => by
    rw [w3 j (by omega) h2 (by omega)]
    have := htop j h1 (by omega)
    omega) (by omega)
  rw [f2]
  refine ⟨by rw [w1], ⟨w2, f3, rfl, rfl, by omega, ?_⟩, rfl⟩
  simp only [List.length_nil]
  omega
theorem jok_new {n z : Int} (h : 1 ≤ z ∧ z ≤ 255 ∧ 2 * z < n) (hn : n ≤ 2048) (c : List Int) (hc : spanN (closeN (numB 0 ++ c)).length ≠ 0 ∧ spanN (closeN (numB 0 ++ c)).length ≤ z) :
    (openL (dBlank n) (2 * z) (dBlank n).Base.length 0).st = 1 ∧ (slWrite (dBlank n) 0 z (numB ((openL (dBlank n) (2 * z) (dBlank n).Base.length 0).st - 1).toNat ++ c)).2.2 = 0 ∧ JOk (jNew (dBlank n) z c) n.toNat 1 0 c [] ∧ (jNew (dBlank n) z c).L.a = 2 * z := by
  have hbl : ((dBlank n).Base.length : Int) = n := blank_len (by omega) (by omega)
  have ho : openL (dBlank n) (2 * z) n 0 = ⟨dBlank n, 2 * z, n, 1⟩ := openL_new (by omega) (by omega) (by omega) hn 0 (by decide)
  have hs := slotOk_blank (n := n) (k := 0) (z := z) (Int.le_refl _) h.1 h.2.1 (by omega) hn
  obtain ⟨w1, w2, w3⟩ := slotOk_write hs (fun _ => slotOk_zero) (by decide) (numB 0 ++ c) hc
  have hj : jNew (dBlank n) z c = jCom ⟨openL (dBlank n) (2 * z) (dBlank n).Base.length 0, z, false⟩ c := rfl
  have hcom : ∀ J : JourS, jCom J c = ⟨openL (slWrite J.L.D 0 J.z (numB (J.L.st - 1).toNat ++ c)).1 (2 * J.z) (slWrite J.L.D 0 J.z (numB (J.L.st - 1).toNat ++ c)).1.Base.length (J.L.st - 1), J.z, true⟩ := fun _ => rfl
  rw [hj, hbl, ho, hcom]
  have e1 : (1 : Int) - 1 = 0 := by decide
  have e2 : (0 : Int).toNat = 0 := rfl
  simp only [e1, e2]
  have hbase : (slWrite (dBlank n) 0 z (numB 0 ++ c)).1.Base.length = n.toNat := w2.quiet.base
  have hnn : (n.toNat : Int) = n := by omega
  rw [hbase]
  generalize hW : slWrite (dBlank n) 0 z (numB 0 ++ c) = W at *
  obtain ⟨f1, f2, f3⟩ := open_fresh (E := W.1) (m := n.toNat) w2.quiet (k := 2 * z) (e := n.toNat) (fl := 0) (by omega) (by omega) (Int.le_refl _) (fun j h1 h2 => by
    rw [w3 j (by omega) h2 (by omega), get_zeros, numK_zeros]
    decide) (by decide)
  rw [f2]
  exact ⟨trivial, by rw [w1], ⟨w2, f3, rfl, rfl, by omega, by simp⟩, rfl⟩
theorem jok_app {J : JourS} {m : Nat} {g fl : Int} {c : List Int} {rs : List (List Int)} (h : JOk J m g fl c rs) (r : List Int) (hb : fl + rs.length + 1 ≤ 1152921504606846976) :
    (needN r.length = 0 → jApp J r = (J, 101)) ∧ (needN r.length ≠ 0 → J.L.e - J.L.a < needN r.length → jApp J r = (J, 102)) ∧
      (needN r.length ≠ 0 → ¬ J.L.e - J.L.a < needN r.length → (jApp J r).2 = 0 ∧ JOk (jApp J r).1 m g fl c (rs ++ [r]) ∧ (jApp J r).1.z = J.z) := by
  have hfl := h.b
  obtain ⟨a1, a2, a3⟩ := logOk_app h.log r (by omega)
  have hr := h.r
  have ej : jApp J r = (⟨(appN J.L r).1, J.z, decide ((appN J.L r).2 ≠ 82)⟩, (appN J.L r).2) := by unfold jApp; rw [if_pos hr]
  have same : ∀ x : Int, x ≠ 82 → (⟨J.L, J.z, decide (x ≠ 82)⟩ : JourS) = J := fun x hx => by
    obtain ⟨L, z, b⟩ := J
    simp only at hr
    subst hr
    simp [hx]
  refine ⟨fun h1 => ?_, fun h1 h2 => ?_, fun h1 h2 => ?_⟩
  · rw [ej, a1 h1, same 101 (by decide)]
  · rw [ej, a2 h1 h2, same 102 (by decide)]
  · obtain ⟨b1, b2, b3, b4⟩ := a3 h1 h2
    have hk := app_keep h.log r h1 h2
    have hz := jok_z h
    have hle := endPos_le rs (2 * J.z)
    have ha := h.log.a
    rw [ej]
    refine ⟨b1, ⟨?_, b2, ?_, ?_, h.g0, ?_⟩, rfl⟩
    · exact slotOk_congr h.slot b2.quiet (fun j h3 h4 => hk j h3 (by have h5 : j < 0 + 2 * J.z := h4; omega))
    · show (appN J.L r).1.e = m
      rw [b4]; exact h.e
    · simp [b1]
    · simp only [List.length_append, List.length_singleton]
      push_cast
      omega
end Go.Proofs.Ytnmjcdlgfimnaaa
