/- Chapter 9: what is written is read, as plain law. -/
import Derived.Test.YtnmjcdlgfimnaaaS9r
namespace Go.Proofs.Ytnmjcdlgfimnaaa
def itemsAt : Int → List (List Int) → List R08Item
  | _, [] => []
  | a, s :: r => ⟨s, a⟩ :: itemsAt (a + 1) r
def dQ (D : R08Disk) (q : List R08Item) : R08Disk := { D with Queue := D.Queue ++ q }
theorem dQ_nil (D : R08Disk) : dQ D [] = D := by simp [dQ]
theorem dQ_dQ (D : R08Disk) (p q : List R08Item) : dQ (dQ D p) q = dQ D (p ++ q) := by simp [dQ]
theorem spend_live {D : R08Disk} (h1 : D.Burns < 0) (h2 : D.Dead = false) : dSpend D = (D, true) := by
  unfold dSpend
  have h3 : ¬ D.Burns = 0 := by omega
  have h4 : ¬ 0 < D.Burns := by omega
  simp [h2, h3, h4]
theorem put_live {D : R08Disk} (h1 : D.Burns < 0) (h2 : D.Dead = false) {k : Int} (s : List Int) (h3 : 0 ≤ k) (h4 : k < D.Base.length) : dPut D k s = (dQ D [⟨s, k⟩], 0) := by
  have ht : dThere D k = true := by simp [dThere, h3, h4]
  simp [dPut, ht, spend_live h1 h2, dQ]
theorem putAll_live : ∀ (l : List (List Int)) {D : R08Disk} (_ : D.Burns < 0) (_ : D.Dead = false) {k : Int} (_ : 0 ≤ k) (_ : k + l.length ≤ D.Base.length), putAll D k l = (dQ D (itemsAt k l), 0)
  | [], D, _, _, k, _, _ => by simp [putAll, itemsAt, dQ_nil]
  | s :: l, D, h1, h2, k, h3, h4 => by
    simp only [List.length_cons] at h4
    rw [putAll, put_live h1 h2 s h3 (by omega), if_neg (by simp)]
    have ih := putAll_live l (D := dQ D [⟨s, k⟩]) h1 h2 (k := k + 1) (by omega) (by show k + 1 + (l.length : Int) ≤ D.Base.length; omega)
    rw [ih, dQ_dQ]
    rfl
theorem sPut_live {D : R08Disk} (h1 : D.Burns < 0) (h2 : D.Dead = false) {k st : Int} {b : List Int} (hst : st ≠ 0) (hsp : spanN b.length ≠ 0) (h3 : 0 ≤ k) (h4 : k + spanN b.length ≤ D.Base.length) :
    sPut D k st b = (dQ D (itemsAt k (secsN st b)), 0) := by
  have hb := spanN_bd b.length
  unfold sPut
  rw [if_neg (by omega), if_neg (by omega)]
  exact putAll_live _ h1 h2 h3 (by rw [secsN_len]; omega)
theorem numK_made {st : Int} (h : 0 ≤ st ∧ st ≤ 18446744073709551615) (i total : Int) (p : List Int) (hp : p.length ≤ 53) : numK (madeN i total st p) 8 = st := by
  have hget : ∀ k, k < 8 → (madeN i total st p).getD (56 + k) 0 = st / 256 ^ k % 256 := by
    intro k hk
    rw [← stampL_getD st k hk]
    have e : madeN i total st p = (i :: total :: (p.length : Int) :: (p ++ repl (53 - p.length) 0)) ++ stampL st := by simp [madeN]
    have el : (i :: total :: (p.length : Int) :: (p ++ repl (53 - p.length) 0)).length = 56 := by simp [repl]; omega
    rw [e, List.getD_eq_getElem?_getD, List.getElem?_append_right (by omega), el, List.getD_eq_getElem?_getD]
    congr 2
    omega
  have key : ∀ j, j ≤ 8 → numK (madeN i total st p) j = st / 256 ^ (8 - j) := by
    intro j
    induction j with
    | zero =>
      intro _
      have e8 : (256 : Int) ^ 8 = 18446744073709551616 := by decide
      have : st / 256 ^ 8 = 0 := by
        rw [e8]
        exact Int.ediv_eq_zero_of_lt h.1 (by omega)
      simp only [numK, Nat.sub_zero, this]
    | succ j ih =>
      intro hj
      have e : 63 - j = 56 + (7 - j) := by omega
      simp only [numK]
      rw [ih (by omega), e, hget (7 - j) (by omega)]
      have e2 : 8 - j = (7 - j) + 1 := by omega
      have e3 : 8 - (j + 1) = 7 - j := by omega
      rw [e2, e3, ← stamp_step]
      omega
  simpa using key 8 (Nat.le_refl _)
theorem read_back {D : R08Disk} {k e st : Int} {b : List Int} (hst : 0 < st ∧ st ≤ 18446744073709551615) (hsp : spanN b.length ≠ 0) (h0 : 0 ≤ k) (h1 : k + spanN b.length ≤ e) (h2 : e ≤ D.Base.length)
    (hs : ∀ i : Nat, (i : Int) < spanN b.length → secAt D (k + i) = madeN i (spanN b.length) st (pieceN b i)) : sRead D k e = (b, st, spanN b.length, 0) := by
  have hb := spanN_bd b.length
  have hn : 0 ≤ b.length ∧ (b.length : Int) ≤ 13515 := by
    have := mt (spanN_zero b.length).2
    omega
  have hfirst : secAt D k = madeN 0 (spanN b.length) st (pieceN b 0) := by
    have := hs 0 (by omega)
    simpa using this
  have hnum : numK (secAt D k) 8 = st := by rw [hfirst]; exact numK_made ⟨by omega, hst.2⟩ _ _ _ (pieceN_le b 0)
  have htot : totOf (secAt D k) = spanN b.length := by rw [hfirst]; rfl
  have hB : readB D k = b := by
    rw [readB_flat, htot]
    have : ∀ n : Nat, (n : Int) ≤ spanN b.length → flatF (fun (i : Nat) => pieceOf (secAt D (k + i))) n = flatF (pieceN b) n := by
      intro n
      induction n with
      | zero => intro _; rfl
      | succ n ih =>
        intro h
        rw [flatF_s, flatF_s, ih (by omega), hs n (by omega), pieceOf_made _ _ _ _ (pieceN_le b n)]
    rw [this _ (by omega), pieceN_all]
    refine List.take_of_length_le ?_
    unfold spanN at hb ⊢
    split
    · omega
    · omega
  have hok : RdOk D k e := by
    refine ⟨by rw [hnum]; omega, by rw [htot]; exact hsp, by rw [htot]; omega, ?_⟩
    rw [hnum, hB, htot]
    unfold secsN secsAt
    apply List.map_congr_left
    intro i hi
    rw [List.mem_range] at hi
    exact (hs i (by omega)).symm
  unfold sRead
  rw [if_neg (by omega), if_neg (by omega), if_pos hok, hB, hnum, htot]
end Go.Proofs.Ytnmjcdlgfimnaaa
