/- What is known of a disk that stands in memory. -/
import Derived.Test.YtnmjcdlgfimnaaaS1
import Derived.Test.YtnmjcdlgfimnaaaA7
namespace Go.Proofs.Ytnmjcdlgfimnaaa
theorem secOk_enc {G : Hp} {s : List Int} {c : List Value} (h : (Rep.arr 64 (.int .u8)).enc G s c) : SecOk s := by
 have h1 := (Rep.enc_arr 64 (.int .u8) G s c).1 h
 refine ⟨h1.1, fun x hx => ?_⟩
 have h2 := ((Qeg .u8 s G c).1 h1.2).2 x hx
 simpa [inK, IntKind.min, IntKind.max, IntKind.signed, IntKind.bits] using h2
theorem disk_facts {D : Qab} {G : Hp} {v : Value} {f : Hp} (h : (DiskO D).P G v f) : DWf D ∧ ∀ k, SecOk (dGet D k).1 := by
 obtain ⟨i, γ, fr, hok, _, _, _, hat, _⟩ := h
 refine ⟨hok.wf, fun k => ?_⟩
 have hm : (9001, Box.mpr (.arr 64 (.int .u8)) i.M i.V none) ∈ mmD i := by
  unfold mmD
  split <;> simp
 have hM : ∀ s ∈ i.M k, SecOk s := by
  obtain ⟨⟨r, es, clock, F, _, _, _, _, _, hrow, _⟩, _⟩ := hat _ hm
  rcases hrow k (by simp) with ⟨b, t, es, sp, c, _, _, hl, _⟩ | ⟨e, _⟩
  ·exact EncL.all (fun x c hx => secOk_enc hx) hl
  ·rw [e]; simp
 cases ht : dThere D k with
 | false => rw [get_none ht]; exact zeros_ok
 | true =>
  by_cases hz : (i.M k).length = 0
  ·rw [get_zero hok.rows ht hz]; exact zeros_ok
  ·rw [get_some hok.rows ht hz]
   exact hM _ (getD_mem _ _ _ (by omega))
theorem Spec_disk {f : FuncId} {args : List SV} {D : Qab} {tv : TV} {mem' : List (Nat × Box)} (hi : Qcp Cx.P f) (h : DWf D → (∀ k, SecOk (dGet D k).1) → Qcs Cx.P f args [(1, .obj DiskO D)] tv mem') : Qcs Cx.P f args [(1, .obj DiskO D)] tv mem' := by
 refine ⟨hi, fun R G γ w vs hpin hm hv => ?_⟩
 obtain ⟨fr, _, _, hat, _⟩ := id hm
 obtain ⟨h1, h2⟩ := disk_facts (hat (1, .obj DiskO D) (by simp))
 exact (h h1 h2).2 R G γ w vs hpin hm hv
theorem DWf.get {D : Qab} (h : DWf D) {k : Int} (h0 : 0 ≤ k) (h1 : k < D.Base.length) : (dGet D k).2 = 0 := by
 simp [dGet, dThere, h0, h1]
theorem get_ok {D : Qab} {k : Int} (h0 : 0 ≤ k) (h1 : k < D.Base.length) : (dGet D k).2 = 0 := by
 simp [dGet, dThere, h0, h1]
end Go.Proofs.Ytnmjcdlgfimnaaa
namespace Go.Proofs.Ytnmjcdlgfimnaaa
def itemsAt : Int → List (List Int) → List Qad
 | _, [] => []
 | a, s :: r => ⟨s, a⟩ :: itemsAt (a + 1) r
def dQ (D : Qab) (q : List Qad) : Qab := { D with Queue := D.Queue ++ q }
theorem dQ_nil (D : Qab) : dQ D [] = D := by simp [dQ]
theorem dQ_dQ (D : Qab) (p q : List Qad) : dQ (dQ D p) q = dQ D (p ++ q) := by simp [dQ]
theorem spend_live {D : Qab} (h1 : D.Burns < 0) (h2 : D.Dead = false) : dSpend D = (D, true) := by
 unfold dSpend
 have h3 : ¬ D.Burns = 0 := by omega
 have h4 : ¬ 0 < D.Burns := by omega
 simp [h2, h3, h4]
theorem put_live {D : Qab} (h1 : D.Burns < 0) (h2 : D.Dead = false) {k : Int} (s : List Int) (h3 : 0 ≤ k) (h4 : k < D.Base.length) : dPut D k s = (dQ D [⟨s, k⟩], 0) := by
 have ht : dThere D k = true := by simp [dThere, h3, h4]
 simp [dPut, ht, spend_live h1 h2, dQ]
theorem putAll_live : ∀ (l : List (List Int)) {D : Qab} (_ : D.Burns < 0) (_ : D.Dead = false) {k : Int} (_ : 0 ≤ k) (_ : k + l.length ≤ D.Base.length), putAll D k l = (dQ D (itemsAt k l), 0)
 | [], D, _, _, k, _, _ => by simp [putAll, itemsAt, dQ_nil]
 | s :: l, D, h1, h2, k, h3, h4 => by
  simp only [List.length_cons] at h4
  rw [putAll, put_live h1 h2 s h3 (by omega), if_neg (by simp)]
  have ih := putAll_live l (D := dQ D [⟨s, k⟩]) h1 h2 (k := k + 1) (by omega) (by show k + 1 + (l.length : Int) ≤ D.Base.length; omega)
  rw [ih, dQ_dQ]
  rfl
theorem getQ1 (D : Qab) (s : List Int) {a : Int} (h0 : 0 ≤ a) (h1 : a < D.Base.length) (k : Int) : dGet (dQ D [⟨s, a⟩]) k = if k = a then (s, 0) else dGet D k := by
 have ht : dThere (dQ D [⟨s, a⟩]) k = dThere D k := rfl
 unfold dGet
 rw [ht]
 have hl := lastTo_snoc D.Queue ⟨s, a⟩ k (D.Base.getD k.toNat [])
 simp only [lastTo] at hl
 have e : (dQ D [⟨s, a⟩]).Queue = D.Queue ++ [⟨s, a⟩] := rfl
 have e2 : (dQ D [⟨s, a⟩]).Base = D.Base := rfl
 rw [e, e2, hl]
 by_cases hk : k = a
 ·subst hk
  have : dThere D k = true := by simp [dThere, h0, h1]
  simp [this]
 ·have hk2 : ¬ a = k := fun h => hk h.symm
  simp [hk, hk2]
theorem getQ (k : Int) : ∀ (l : List (List Int)) (D : Qab) (a : Int), 0 ≤ a → a + l.length ≤ D.Base.length →
    (∀ i : Nat, k = a + i → i < l.length → dGet (dQ D (itemsAt a l)) k = (l.getD i [], 0)) ∧ ((k < a ∨ a + l.length ≤ k) → dGet (dQ D (itemsAt a l)) k = dGet D k)
 | [], D, a, _, _ => by simp [itemsAt, dQ_nil]
 | s :: l, D, a, h0, h1 => by
  simp only [List.length_cons] at h1 ⊢
  have e : dQ D (itemsAt a (s :: l)) = dQ (dQ D [⟨s, a⟩]) (itemsAt (a + 1) l) := by rw [dQ_dQ]; rfl
  obtain ⟨ih1, ih2⟩ := getQ k l (dQ D [⟨s, a⟩]) (a + 1) (by omega) (by show a + 1 + (l.length : Int) ≤ D.Base.length; omega)
  have hg := getQ1 D s (a := a) h0 (by omega) k
  rw [e]
  constructor
  ·intro i hi hlt
   cases i with
   | zero =>
    rw [ih2 (.inl (by omega)), hg, if_pos (by omega)]; rfl
   | succ i =>
    rw [ih1 i (by omega) (by omega)]; rfl
  ·intro h
   rw [ih2 (by omega), hg, if_neg (by omega)]
theorem sPut_live {D : Qab} (h1 : D.Burns < 0) (h2 : D.Dead = false) {k st : Int} {b : List Int} (hst : st ≠ 0) (hsp : spanN b.length ≠ 0) (h3 : 0 ≤ k) (h4 : k + spanN b.length ≤ D.Base.length) :
    sPut D k st b = (dQ D (itemsAt k (secsN st b)), 0) := by
 have hb := spanN_bd b.length
 unfold sPut
 rw [if_neg (by omega), if_neg (by omega)]
 exact putAll_live _ h1 h2 h3 (by rw [secsN_len]; omega)
theorem numK_made {st : Int} (h : 0 ≤ st ∧ st ≤ 18446744073709551615) (i total : Int) (p : List Int) (hp : p.length ≤ 53) : numK (madeN i total st p) 8 = st := by
 have hget : ∀ k, k < 8 → (madeN i total st p).getD (56 + k) 0 = st / 256 ^ k % 256 := by
  intro k hk
  rw [← stampL_getD st k hk]
  have e : madeN i total st p = (i :: total :: (p.length : Int) :: (p ++ Qc1 (53 - p.length) 0)) ++ stampL st := by simp [madeN]
  have el : (i :: total :: (p.length : Int) :: (p ++ Qc1 (53 - p.length) 0)).length = 56 := by simp [Qc1]; omega
  rw [e, List.getD_eq_getElem?_getD, List.getElem?_append_right (by omega), el, List.getD_eq_getElem?_getD]
  congr 2
  omega
 have key : ∀ j, j ≤ 8 → numK (madeN i total st p) j = st / 256 ^ (8 - j) := by
  intro j
  induction j with
  | zero =>
   intro _
   have e8 : (256 : Int) ^ 8 = 18446744073709551616 := by decide
   have : st / 256 ^ 8 = 0 := by
    rw [e8]
    exact Int.ediv_eq_zero_of_lt h.1 (by omega)
   simp only [numK, Nat.sub_zero, this]
  | succ j ih =>
   intro hj
   have e : 63 - j = 56 + (7 - j) := by omega
   simp only [numK]
   rw [ih (by omega), e, hget (7 - j) (by omega)]
   have e2 : 8 - j = (7 - j) + 1 := by omega
   have e3 : 8 - (j + 1) = 7 - j := by omega
   rw [e2, e3, ← stamp_step]
   omega
 simpa using key 8 (Nat.le_refl _)
theorem read_back {D : Qab} {k e st : Int} {b : List Int} (hst : 0 < st ∧ st ≤ 18446744073709551615) (hsp : spanN b.length ≠ 0) (h0 : 0 ≤ k) (h1 : k + spanN b.length ≤ e) (h2 : e ≤ D.Base.length)
    (hs : ∀ i : Nat, (i : Int) < spanN b.length → secAt D (k + i) = madeN i (spanN b.length) st (pieceN b i)) : sRead D k e = (b, st, spanN b.length, 0) := by
 have hb := spanN_bd b.length
 have hn : 0 ≤ b.length ∧ (b.length : Int) ≤ 13515 := by
  have := mt (spanN_zero b.length).2
  omega
 have hfirst : secAt D k = madeN 0 (spanN b.length) st (pieceN b 0) := by
  have := hs 0 (by omega)
  simpa using this
 have hnum : numK (secAt D k) 8 = st := by rw [hfirst]; exact numK_made ⟨by omega, hst.2⟩ _ _ _ (pieceN_le b 0)
 have htot : totOf (secAt D k) = spanN b.length := by rw [hfirst]; rfl
 have hB : readB D k = b := by
  rw [readB_flat, htot]
  have : ∀ n : Nat, (n : Int) ≤ spanN b.length → flatF (fun (i : Nat) => pieceOf (secAt D (k + i))) n = flatF (pieceN b) n := by
   intro n
   induction n with
   | zero => intro _; rfl
   | succ n ih =>
    intro h
    rw [flatF_s, flatF_s, ih (by omega), hs n (by omega), pieceOf_made _ _ _ _ (pieceN_le b n)]
  rw [this _ (by omega), pieceN_all]
  refine List.take_of_length_le ?_
  unfold spanN at hb ⊢
  split
  ·omega
  ·omega
 have hok : RdOk D k e := by
  refine ⟨by rw [hnum]; omega, by rw [htot]; exact hsp, by rw [htot]; omega, ?_⟩
  rw [hnum, hB, htot]
  unfold secsN secsAt
  apply List.map_congr_left
  intro i hi
  rw [List.mem_range] at hi
  exact (hs i (by omega)).symm
 unfold sRead
 rw [if_neg (by omega), if_neg (by omega), if_pos hok, hB, hnum, htot]
end Go.Proofs.Ytnmjcdlgfimnaaa
namespace Go.Proofs.Ytnmjcdlgfimnaaa
theorem read_inv {D : Qab} {k e : Int} (h : (sRead D k e).2.2.2 = 0) : RdOk D k e ∧ sRead D k e = (readB D k, numK (secAt D k) 8, totOf (secAt D k), 0) := by
 unfold sRead at h ⊢
 split at h
 ·simp at h
 ·split at h
  ·simp at h
  ·split at h
   ·rename_i h1 h2 h3
    rw [if_neg h1, if_neg h2, if_pos h3]
    exact ⟨h3, rfl⟩
   ·simp at h
theorem blank_len {m : Int} (h0 : 0 ≤ m) (h1 : m ≤ 2048) : ((dBlank m).Base.length : Int) = m := by
 simp only [dBlank, List.length_replicate]
 omega
theorem numK_zeros : numK zeros 8 = 0 := by decide
theorem itemsAt_len : ∀ (l : List (List Int)) (a : Int), (itemsAt a l).length = l.length
 | [], _ => rfl
 | s :: l, a => by simp only [itemsAt, List.length_cons, itemsAt_len l]
end Go.Proofs.Ytnmjcdlgfimnaaa
