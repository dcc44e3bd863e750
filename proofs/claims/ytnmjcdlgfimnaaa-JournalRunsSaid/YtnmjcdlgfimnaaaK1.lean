/- Chapter 12: whatever is done with a journal, what an 'Open' finds can be read; as plain law. -/
import Derived.Test.YtnmjcdlgfimnaaaJ2
namespace Go.Proofs.Ytnmjcdlgfimnaaa
def FirstOk (b : Int) (s : List Int) : Prop := numK s 8 ≠ 0 → 5 ≤ s.getD 2 0 ∧ s.getD 3 0 ≤ b
theorem first_up {b b' : Int} {s : List Int} (h : FirstOk b s) (hb : b ≤ b') : FirstOk b' s := fun h0 => ⟨(h h0).1, by have := (h h0).2; omega⟩
theorem first_mix {b : Int} {n : Nat} {old new : List Int} (ho : SecOk old) (hn : SecOk new) (hnn : n ≤ 64) (h1 : FirstOk b old) (h2 : 5 ≤ new.getD 2 0 ∧ new.getD 3 0 ≤ b) : FirstOk b (mixTo n old new) := by
 have hg : ∀ j, j < 64 → (mixTo n old new).getD j 0 = if j < n then new.getD j 0 else old.getD j 0 := fun j hj => mix_get n _ _ ho.1 hn.1 hnn j hj
 intro h0
 rw [hg 2 (by decide), hg 3 (by decide)]
 by_cases h56 : n ≤ 56
 ·have e : numK (mixTo n old new) 8 = numK old 8 := numK_congr fun j h5 h6 => by rw [hg j h6, if_neg (by omega)]
  rw [e] at h0
  have h3 := h1 h0
  constructor
  ·split <;> omega
  ·split <;> omega
 ·rw [if_pos (by omega), if_pos (by omega)]
  exact h2
theorem made_first (T st f : Int) (c : List Int) : 5 ≤ (madeN ((0 : Nat) : Int) T st (pieceN (closeN (f :: c)) 0)).getD 2 0 ∧ (madeN ((0 : Nat) : Int) T st (pieceN (closeN (f :: c)) 0)).getD 3 0 = f := by
 have hcl : (closeN (f :: c)).length = c.length + 1 + 4 := by simp [closeN, crcN_len]
 have hl : (pieceN (closeN (f :: c)) 0).length = min 53 (closeN (f :: c)).length := by rw [pieceN_len]; rfl
 have e : pieceN (closeN (f :: c)) 0 = f :: ((c ++ crcN (f :: c)).take 52) := rfl
 have e2 : (madeN ((0 : Nat) : Int) T st (pieceN (closeN (f :: c)) 0)).getD 2 0 = ((pieceN (closeN (f :: c)) 0).length : Int) := rfl
 refine ⟨by rw [e2]; omega, ?_⟩
 rw [e]
 rfl
structure Mixed (D X : Qab) (m : Nat) (a : Int) (l : List (List Int)) : Prop where
 base : X.Base.length = m
 out : ∀ i : Int, 0 ≤ i → i < m → (i < a ∨ a + l.length ≤ i) → secAt X i = secAt D i
 inn : ∀ i : Nat, i < l.length → ∃ n, n ≤ 64 ∧ secAt X (a + i) = mixTo n (secAt D (a + i)) (l.getD i [])
theorem mixed_power {D X : Qab} {m : Nat} (hbase : D.Base.length = m) (hdq : D.Queue = []) (hsec : ∀ s ∈ D.Base, SecOk s) {a : Int} {l : List (List Int)} (h0 : 0 ≤ a) (hl : ∀ s ∈ l, SecOk s) (hfit : a + l.length ≤ m) (hX : X.Base = D.Base) {j : Nat}
    (hq : X.Queue = itemsAt a (l.take j)) (keep : List Int) : Mixed D (dPower X keep) m a l ∧ ∀ s ∈ (dPower X keep).Base, SecOk s := by
 obtain ⟨t1, t2, t3, t4⟩ := torn_facts hbase hdq hsec h0 hl hfit hX hq keep
 exact ⟨⟨t1.base, t3, fun i hi => by
  obtain ⟨n, h1, _, h2⟩ := t4 i hi
  exact ⟨n, h1, h2⟩⟩, t2⟩
theorem sec_of {D : Qab} (hdq : D.Queue = []) (hsec : ∀ s ∈ D.Base, SecOk s) (k : Int) : SecOk (secAt D k) := dGet_ok hsec (by rw [hdq]; simp) k
theorem mixed_vis {D X : Qab} {m : Nat} (hbase : D.Base.length = m) (hdq : D.Queue = []) (hsec : ∀ s ∈ D.Base, SecOk s) {a : Int} {l : List (List Int)} (h0 : 0 ≤ a) (hl : ∀ s ∈ l, SecOk s) (hfit : a + l.length ≤ m) (hX : X.Base = D.Base) {j : Nat}
    (hq : X.Queue = itemsAt a (l.take j)) : Mixed D X m a l := by
 have hg : ∀ k, dGet X k = dGet (dQ D (itemsAt a (l.take j))) k := fun k => by
  unfold dGet dThere dQ
  simp only [hX, hq, hdq, List.nil_append]
 have hll : (l.take j).length = min j l.length := List.length_take
 refine ⟨by rw [hX]; exact hbase, fun i h1 h2 h3 => ?_, fun i hi => ?_⟩
 ·show (dGet X i).1 = (dGet D i).1
  rw [hg, (getQ i (l.take j) D a h0 (by omega)).2 (by omega)]
 ·by_cases hij : i < j
  ·refine ⟨64, Nat.le_refl _, ?_⟩
   rw [mix_full _ _ (sec_of hdq hsec _).1 (hl _ (getD_mem _ _ _ hi)).1]
   show (dGet X (a + i)).1 = _
   rw [hg, (getQ (a + i) (l.take j) D a h0 (by omega)).1 i rfl (by omega)]
   show (l.take j).getD i [] = l.getD i []
   rw [List.getD_eq_getElem?_getD, List.getElem?_take, if_pos hij, ← List.getD_eq_getElem?_getD]
  ·refine ⟨0, Nat.zero_le _, ?_⟩
   show (dGet X (a + i)).1 = _
   rw [hg, (getQ (a + i) (l.take j) D a h0 (by omega)).2 (.inr (by omega))]
   simp only [mixTo, List.take_zero, List.drop_zero, List.nil_append]
   rfl
theorem mixed_flush {D X : Qab} {m : Nat} (hbase : D.Base.length = m) (hdq : D.Queue = []) (hsec : ∀ s ∈ D.Base, SecOk s) {a : Int} {l : List (List Int)} (h0 : 0 ≤ a) (hl : ∀ s ∈ l, SecOk s) (hfit : a + l.length ≤ m)
    (hX : X.Base = landAll (fun _ => 64) 0 (itemsAt a l) D.Base) (hq : X.Queue = []) : Mixed D X m a l ∧ ∀ s ∈ X.Base, SecOk s := by
 obtain ⟨p, rfl⟩ : ∃ p : Nat, a = p := ⟨a.toNat, by omega⟩
 obtain ⟨f1, f2, f3, f4⟩ := land_facts (fun _ => 64) hbase hsec p l hl (by omega)
 rw [← hX] at f1 f2 f3 f4
 refine ⟨⟨f1, fun i h1 h2 h3 => ?_, fun i hi => ⟨64, Nat.le_refl _, ?_⟩⟩, f2⟩
 ·obtain ⟨i, rfl⟩ : ∃ n : Nat, i = n := ⟨i.toNat, by omega⟩
  rw [get_base hq (by omega), get_base hdq (by omega)]
  exact f4 i (by omega)
 ·have h1 := get_base hq (k := p + i) (by omega)
  have h2 := get_base hdq (k := p + i) (by omega)
  push_cast at h1 h2
  rw [h1, h2]
  exact f3 i hi
theorem mixed_sec {D X : Qab} {m : Nat} {a : Int} {l : List (List Int)} (h : Mixed D X m a l) (hd : ∀ j, SecOk (secAt D j)) (hl : ∀ s ∈ l, SecOk s) (j : Int) : SecOk (secAt X j) := by
 by_cases h1 : 0 ≤ j ∧ j < m
 ·by_cases h2 : a ≤ j ∧ j < a + l.length
  ·obtain ⟨i, rfl⟩ : ∃ n : Nat, j = a + n := ⟨(j - a).toNat, by omega⟩
   obtain ⟨n, _, h3⟩ := h.inn i (by omega)
   rw [h3]
   exact mix_ok (hd _) (hl _ (getD_mem _ _ _ (by omega))) n
  ·rw [h.out j h1.1 h1.2 (by omega)]
   exact hd j
 ·have hb := h.base
  have ht : dThere X j = false := by
   cases hh : dThere X j
   ·rfl
   ·simp only [dThere, Bool.and_eq_true, decide_eq_true_eq] at hh
    exact absurd ⟨hh.1, by omega⟩ h1
  show SecOk (dGet X j).1
  rw [get_none ht]
  exact zeros_ok
theorem sRead_congr {D X : Qab} {a e : Int} (hb : X.Base.length = D.Base.length) (h : ∀ j, a ≤ j → j < e → secAt X j = secAt D j) : sRead X a e = sRead D a e := by
 unfold sRead
 rw [hb]
 by_cases h1 : a < 0 ∨ (D.Base.length : Int) < e
 ·rw [if_pos h1, if_pos h1]
 by_cases h2 : e ≤ a
 ·rw [if_neg h1, if_neg h1, if_pos h2, if_pos h2]
 rw [if_neg h1, if_neg h1, if_neg h2, if_neg h2]
 have h0 := h a (Int.le_refl _) (by omega)
 by_cases h3 : totOf (secAt D a) ≤ e - a
 ·have hs : secsAt X a (totOf (secAt D a)).toNat = secsAt D a (totOf (secAt D a)).toNat := by
   unfold secsAt
   apply List.map_congr_left
   intro i hi
   have := List.mem_range.1 hi
   exact h _ (by omega) (by omega)
  have hR : readB X a = readB D a := by
   unfold readB
   rw [h0, hs]
  have hok : RdOk X a e ↔ RdOk D a e := by
   unfold RdOk
   rw [h0, hs, hR]
  by_cases h4 : RdOk D a e
  ·rw [if_pos (hok.2 h4), if_pos h4, hR, h0]
  ·rw [if_neg (fun h5 => h4 (hok.1 h5)), if_neg h4]
 ·have h4 : ¬ RdOk D a e := fun q => h3 q.2.2.1
  have h5 : ¬ RdOk X a e := fun q => h3 (by rw [← h0]; exact q.2.2.1)
  rw [if_neg h4, if_neg h5]
structure Holds (E : Qab) (m : Nat) (z B G : Int) : Prop where
 sec : ∀ j, SecOk (secAt E j)
 f0 : FirstOk B (secAt E 0)
 f1 : FirstOk B (secAt E z)
 low : ∀ j : Int, 2 * z ≤ j → j < m → numK (secAt E j) 8 ≤ B
 top : ∀ j : Int, 0 ≤ j → j < 2 * z → numK (secAt E j) 8 ≤ G
 there : ∃ g b T, 1 ≤ g ∧ sRead E (z * (g % 2)) (z * (g % 2) + z) = (b, g, T, 0) ∧ (openN b).2 = true
 base : E.Base.length = m
theorem holds_up {E : Qab} {m : Nat} {z B G B' G' : Int} (h : Holds E m z B G) (hB : B ≤ B') (hG : G ≤ G') : Holds E m z B' G' :=
 ⟨h.sec, first_up h.f0 hB, first_up h.f1 hB, fun j h1 h2 => Int.le_trans (h.low j h1 h2) hB, fun j h1 h2 => Int.le_trans (h.top j h1 h2) hG, h.there, h.base⟩
theorem openN_true {b : List Int} (h : (openN b).2 = true) : (openN b).1 = b.take (b.length - 4) := by
 unfold openN at h ⊢
 split
 ·rename_i h1
  rw [if_pos h1] at h
  simp at h
 ·rename_i h1
  rw [if_neg h1] at h
  split
  ·rfl
  ·rename_i h2
   rw [if_neg h2] at h
   simp at h
theorem readB_first {E : Qab} {a : Int} (hs : SecOk (secAt E a)) (ht : 1 ≤ totOf (secAt E a)) (h5 : 5 ≤ (secAt E a).getD 2 0) : ∃ r, readB E a = (secAt E a).getD 3 0 :: r ∧ 4 ≤ r.length := by
 obtain ⟨n, hn⟩ : ∃ n : Nat, (totOf (secAt E a)).toNat = n + 1 := ⟨(totOf (secAt E a)).toNat - 1, by omega⟩
 have h1 : readB E a = pieceOf (secAt E a) ++ (((List.range n).map fun (i : Nat) => secAt E (a + (i + 1 : Nat))).map pieceOf).flatten := by
  unfold readB secsAt
  rw [hn, List.range_succ_eq_map]
  simp [Function.comp_def]
 have hc : 5 ≤ cntOf (secAt E a) := by unfold cntOf; omega
 have hl := hs.1
 have h2 : ∃ r, pieceOf (secAt E a) = (secAt E a).getD 3 0 :: r ∧ 4 ≤ r.length := by
  unfold pieceOf
  generalize secAt E a = s at *
  match s, hl with
  | x0 :: x1 :: x2 :: x3 :: t, hl =>
   obtain ⟨k, hk⟩ : ∃ k, cntOf (x0 :: x1 :: x2 :: x3 :: t) = k + 1 := ⟨cntOf (x0 :: x1 :: x2 :: x3 :: t) - 1, by omega⟩
   rw [hk]
   refine ⟨t.take k, rfl, ?_⟩
   simp only [List.length_cons] at hl
   rw [List.length_take]
   omega
 obtain ⟨r, h3, h4⟩ := h2
 rw [h1, h3]
 exact ⟨r ++ _, rfl, by rw [List.length_append]; omega⟩
def Stood (E : Qab) (z : Int) (q : List Int × Int) : Prop := q.2 = 0 ∨ (1 ≤ q.2 ∧ ∃ b T, sRead E (z * (q.2 % 2)) (z * (q.2 % 2) + z) = (b, q.2, T, 0) ∧ openN b = (q.1, true))
theorem stood_step {E : Qab} {z : Int} {q : List Int × Int} (h : Stood E z q) (i : Int) : Stood E z (standS E 0 z i q) ∧ q.2 ≤ (standS E 0 z i q).2 := by
 have hq : 0 ≤ q.2 := by rcases h with h | h <;> omega
 unfold standS
 rw [Int.zero_add]
 split
 ·rename_i hc
  obtain ⟨c1, c2, c3, c4⟩ := hc
  refine ⟨.inr ⟨by simp only; omega, ?_⟩, by simp only; omega⟩
  have hm : (sRead E (z * i) (z * i + z)).2.1 % 2 = i := by rw [← Int.tmod_eq_emod_of_nonneg (by omega)]; exact c3
  simp only
  rw [hm]
  generalize sRead E (z * i) (z * i + z) = R at *
  obtain ⟨b, n, T, e⟩ := R
  simp only at c1 c2
  subst c1
  exact ⟨b, T, rfl, Prod.ext rfl c2⟩
 ·exact ⟨h, Int.le_refl _⟩
theorem stood_ge {E : Qab} {z g T : Int} {b : List Int} (hg : 1 ≤ g) (hs : sRead E (z * (g % 2)) (z * (g % 2) + z) = (b, g, T, 0)) (ho : (openN b).2 = true) (q : List Int × Int) : g ≤ (standS E 0 z (g % 2) q).2 := by
 unfold standS
 rw [Int.zero_add, hs]
 simp only
 split
 ·exact Int.le_refl _
 ·rename_i hc
  refine Classical.byContradiction fun hlt => hc ⟨trivial, ho, ?_, by omega⟩
  exact Int.tmod_eq_emod_of_nonneg (by omega)
theorem holds_read {E : Qab} {m : Nat} {z B G : Int} (h : Holds E m z B G) (hz : 1 ≤ z ∧ z ≤ 255 ∧ 2 * z ≤ m) :
    ∃ f c g, slRead E 0 z = (f :: c, g, 0) ∧ 0 ≤ f ∧ f ≤ B ∧ 1 ≤ g ∧ ∃ b T, sRead E (z * (g % 2)) (z * (g % 2) + z) = (b, g, T, 0) ∧ (openN b).2 = true := by
 have hb := h.base
 have hr : rightB E 0 z = true := rightB_iff.2 ⟨Int.le_refl _, hz.1, hz.2.1, by omega⟩
 have s0 : Stood E z ([], 0) := .inl rfl
 obtain ⟨s1, l1⟩ := stood_step s0 0
 obtain ⟨s2, l2⟩ := stood_step s1 1
 have hacc : accS E 0 z 2 = standS E 0 z 1 (standS E 0 z 0 ([], 0)) := rfl
 obtain ⟨g, b, T, hg, hs, ho⟩ := h.there
 have hge : g ≤ (accS E 0 z 2).2 := by
  rw [hacc]
  have hpar : g % 2 = 0 ∨ g % 2 = 1 := by omega
  rcases hpar with e | e
  ·have := stood_ge hg hs ho ([], 0)
   rw [e] at this
   omega
  ·have := stood_ge hg hs ho (standS E 0 z 0 ([], 0))
   rw [e] at this
   omega
 rw [← hacc] at s2
 generalize hA : accS E 0 z 2 = A at *
 have hsl : slRead E 0 z = (A.1, A.2, 0) := by
  unfold slRead
  rw [if_pos hr, hA, if_neg (by omega)]
 rcases s2 with s2 | ⟨hg1, b1, T1, hs1, ho1⟩
 ·omega
 ·have hinv := read_inv (D := E) (k := z * (A.2 % 2)) (e := z * (A.2 % 2) + z) (by rw [hs1])
  obtain ⟨⟨k1, k2, k3, k4⟩, k5⟩ := hinv
  rw [hs1] at k5
  have hfst : FirstOk B (secAt E (z * (A.2 % 2))) := by
   have hpar : A.2 % 2 = 0 ∨ A.2 % 2 = 1 := by omega
   rcases hpar with e | e
   ·rw [e, Int.mul_zero]; exact h.f0
   ·rw [e, Int.mul_one]; exact h.f1
  have hsec := h.sec (z * (A.2 % 2))
  have hf := hfst k1
  have ht : 0 ≤ totOf (secAt E (z * (A.2 % 2))) := (hsec.at 1).1
  obtain ⟨r, r1, r2⟩ := readB_first hsec (by omega) hf.1
  have hbb : b1 = readB E (z * (A.2 % 2)) := congrArg (fun t => t.1) k5
  have h01 := openN_true (b := b1) (by rw [ho1])
  rw [ho1, hbb, r1] at h01
  simp only at h01
  have e4 : ((secAt E (z * (A.2 % 2))).getD 3 0 :: r).length - 4 = (r.length - 4) + 1 := by simp only [List.length_cons]; omega
  rw [e4, List.take_succ_cons] at h01
  refine ⟨(secAt E (z * (A.2 % 2))).getD 3 0, r.take (r.length - 4), A.2, by rw [hsl, h01], (hsec.at 3).1, hf.2, hg1, b1, T1, hs1, by rw [ho1]⟩
theorem next_facts {E : Qab} {m : Nat} {z B G : Int} (h : Holds E m z B G) (hz : 1 ≤ z ∧ z ≤ 255 ∧ 2 * z ≤ m) (hG : 0 ≤ G ∧ G + 2 < 4611686018427387904) {c : List Int} {g : Int} (hs : slRead E 0 z = (c, g, 0)) (hg : 1 ≤ g) :
    (∀ j : Int, 0 ≤ j → j < 2 * z → numK (secAt E j) 8 < nextG E 0 z) ∧ nextG E 0 z ≤ G + 2 ∧ nextG E 0 z % 2 ≠ g % 2 ∧ 1 ≤ nextG E 0 z := by
 have hb := h.base
 have htk := sTop_ok (D := E) (2 * z).toNat 0 0 (by omega) (by omega)
 have e0 : topN E 0 (0 + 2 * z) = sTop E (2 * z).toNat 0 0 := by
  unfold topN
  rw [Int.zero_add, Int.sub_zero]
 have hle : (topN E 0 (0 + 2 * z)).1 ≤ G := by
  rw [e0]
  exact sTop_le _ 0 0 (fun j h5 h6 => h.top j h5 (by omega)) hG.1 (by omega) (by omega)
 rw [← e0] at htk
 have ht0 : 0 ≤ (topN E 0 (0 + 2 * z)).1 := htk.2.1
 have hall : ∀ j : Int, 0 ≤ j → j < 2 * z → numK (secAt E j) 8 ≤ (topN E 0 (0 + 2 * z)).1 := fun j h5 h6 => htk.2.2 j h5 (by omega)
 unfold nextG
 rw [hs]
 generalize topN E 0 (0 + 2 * z) = t at *
 rw [Qa5 (t.1 + 1) (by omega) (by omega), Qa5 (t.1 + 1 + 1) (by omega) (by omega), Int.tmod_eq_emod_of_nonneg (by omega), Int.tmod_eq_emod_of_nonneg (by simp only; omega)]
 simp only [true_and]
 split
 ·exact ⟨fun j h5 h6 => by have := hall j h5 h6; omega, by omega, by omega, by omega⟩
 ·exact ⟨fun j h5 h6 => by have := hall j h5 h6; omega, by omega, by omega, by omega⟩
theorem holds_write {D X : Qab} {m : Nat} {z B G B' G' g g' f : Int} {c : List Int} (h : Holds D m z B G) (hz : 1 ≤ z ∧ z ≤ 255 ∧ 2 * z ≤ m) (hM : Mixed D X m (z * (g' % 2)) (secsN g' (closeN (f :: c)))) (hcb : ∀ x ∈ closeN (f :: c), 0 ≤ x ∧ x ≤ 255)
    (hsp : spanN (closeN (f :: c)).length ≠ 0 ∧ spanN (closeN (f :: c)).length ≤ z) (hlt : ∀ j : Int, 0 ≤ j → j < 2 * z → numK (secAt D j) 8 < g') (hg' : 1 ≤ g' ∧ g' ≤ G' ∧ g' < 4611686018427387904) (hB : B ≤ B') (hG : G ≤ G') (hf : f ≤ B')
    (hgo : ∃ b T, 1 ≤ g ∧ g' % 2 ≠ g % 2 ∧ sRead D (z * (g % 2)) (z * (g % 2) + z) = (b, g, T, 0) ∧ (openN b).2 = true) : Holds X m z B' G' := by
 have hbd := spanN_bd (closeN (f :: c)).length
 have hll : ((secsN g' (closeN (f :: c))).length : Int) = spanN (closeN (f :: c)).length := by rw [secsN_len]; omega
 have hsok : ∀ s ∈ secsN g' (closeN (f :: c)), SecOk s := secs_ok hcb
 have hpar : g' % 2 = 0 ∨ g' % 2 = 1 := by omega
 have hp : 0 ≤ z * (g' % 2) ∧ z * (g' % 2) + z ≤ 2 * z := by rcases hpar with e | e <;> rw [e] <;> omega
 have hget : ∀ i : Nat, i < (secsN g' (closeN (f :: c))).length → (secsN g' (closeN (f :: c))).getD i [] = madeN i (spanN (closeN (f :: c)).length) g' (pieceN (closeN (f :: c)) i) := fun i hi => by
  rw [List.getD_eq_getElem?_getD, secsN_get _ _ i (by omega)]
  rfl
 have hfirst : ∀ a : Int, a = z * (g' % 2) → FirstOk B' (secAt D a) → FirstOk B' (secAt X a) := fun a ha h1 => by
  obtain ⟨n, hn, e⟩ := hM.inn 0 (by omega)
  have e0 : z * (g' % 2) + (0 : Nat) = a := by rw [ha]; simp
  rw [e0, hget 0 (by omega)] at e
  rw [e]
  have hmf := made_first (spanN (closeN (f :: c)).length) g' f c
  have hs0 := hsok _ (getD_mem (secsN g' (closeN (f :: c))) 0 [] (by omega))
  rw [hget 0 (by omega)] at hs0
  exact first_mix (h.sec a) hs0 hn h1 ⟨hmf.1, by rw [hmf.2]; exact hf⟩
 refine ⟨mixed_sec hM h.sec hsok, ?_, ?_, fun j h1 h2 => ?_, fun j h1 h2 => ?_, ?_, hM.base⟩
 ·by_cases e : g' % 2 = 0
  ·exact hfirst 0 (by rw [e]; omega) (first_up h.f0 hB)
  ·have e1 : g' % 2 = 1 := by omega
   rw [hM.out 0 (by omega) (by omega) (by rw [e1]; omega)]
   exact first_up h.f0 hB
 ·by_cases e : g' % 2 = 1
  ·exact hfirst z (by rw [e]; omega) (first_up h.f1 hB)
  ·have e1 : g' % 2 = 0 := by omega
   rw [hM.out z (by omega) (by omega) (by rw [e1]; omega)]
   exact first_up h.f1 hB
 ·rw [hM.out j (by omega) h2 (by omega)]
  have := h.low j h1 h2
  omega
 ·by_cases hin : z * (g' % 2) ≤ j ∧ j < z * (g' % 2) + (secsN g' (closeN (f :: c))).length
  ·obtain ⟨i, rfl⟩ : ∃ n : Nat, j = z * (g' % 2) + n := ⟨(j - z * (g' % 2)).toNat, by omega⟩
   obtain ⟨n, hn, e⟩ := hM.inn i (by omega)
   have hmk := numK_made (st := g') (by omega) i (spanN (closeN (f :: c)).length) (pieceN (closeN (f :: c)) i) (pieceN_le _ i)
   have hs0 := hsok _ (getD_mem (secsN g' (closeN (f :: c))) i [] (by omega))
   rw [hget i (by omega)] at e hs0
   rw [e]
   have hold := hlt (z * (g' % 2) + i) h1 h2
   have := numK_mix (n := n) (h.sec (z * (g' % 2) + i)) hs0 hn (by omega)
   omega
  ·rw [hM.out j h1 (by omega) (by omega)]
   have := h.top j h1 h2
   omega
 ·obtain ⟨b, T, hg1, hne, hs, ho⟩ := hgo
  refine ⟨g, b, T, hg1, ?_, ho⟩
  have hb := h.base
  rw [← hs]
  refine sRead_congr (by rw [hM.base, hb]) fun j h1 h2 => ?_
  have hpg : g % 2 = 0 ∨ g % 2 = 1 := by omega
  have hdis : z * (g % 2) + z ≤ z * (g' % 2) ∨ z * (g' % 2) + z ≤ z * (g % 2) := by
   rcases hpg with e | e <;> rcases hpar with e' | e' <;> rw [e, e'] <;> rw [e, e'] at hne <;> omega
  have hpg2 : 0 ≤ z * (g % 2) ∧ z * (g % 2) + z ≤ 2 * z := by rcases hpg with e | e <;> rw [e] <;> omega
  exact hM.out j (by omega) (by omega) (by omega)
theorem holds_app {D X : Qab} {m : Nat} {z B G B' a st : Int} {b : List Int} (h : Holds D m z B G) (hz : 1 ≤ z ∧ z ≤ 255 ∧ 2 * z ≤ m) (ha : 2 * z ≤ a) (hM : Mixed D X m a (secsN st b)) (hcb : ∀ x ∈ b, 0 ≤ x ∧ x ≤ 255) (hfit : a + (secsN st b).length ≤ m)
    (hlt : ∀ j : Int, 2 * z ≤ j → j < m → numK (secAt D j) 8 < st) (hst : 1 ≤ st ∧ st ≤ B' ∧ st < 4611686018427387904) (hB : B ≤ B') : Holds X m z B' G ∧ ∀ j : Int, 2 * z ≤ j → j < m → numK (secAt X j) 8 ≤ st := by
 have hbd := spanN_bd b.length
 have hll : ((secsN st b).length : Int) = spanN b.length := by rw [secsN_len]; omega
 have hsok : ∀ s ∈ secsN st b, SecOk s := secs_ok hcb
 have hlow : ∀ j : Int, 2 * z ≤ j → j < m → numK (secAt X j) 8 ≤ st := fun j h1 h2 => by
  by_cases hin : a ≤ j ∧ j < a + (secsN st b).length
  ·obtain ⟨i, rfl⟩ : ∃ n : Nat, j = a + n := ⟨(j - a).toNat, by omega⟩
   obtain ⟨n, hn, e⟩ := hM.inn i (by omega)
   have hget : (secsN st b).getD i [] = madeN i (spanN b.length) st (pieceN b i) := by
    rw [List.getD_eq_getElem?_getD, secsN_get _ _ i (by omega)]
    rfl
   have hmk := numK_made (st := st) (by omega) i (spanN b.length) (pieceN b i) (pieceN_le _ i)
   have hs0 := hsok _ (getD_mem (secsN st b) i [] (by omega))
   rw [hget] at e hs0
   rw [e]
   have hold := hlt (a + i) h1 h2
   have := numK_mix (n := n) (h.sec (a + i)) hs0 hn (by omega)
   omega
  ·rw [hM.out j (by omega) h2 (by omega)]
   have := hlt j h1 h2
   omega
 refine ⟨⟨mixed_sec hM h.sec hsok, ?_, ?_, fun j h1 h2 => ?_, fun j h1 h2 => ?_, ?_, hM.base⟩, hlow⟩
 ·rw [hM.out 0 (by omega) (by omega) (by omega)]
  exact first_up h.f0 hB
 ·rw [hM.out z (by omega) (by omega) (by omega)]
  exact first_up h.f1 hB
 ·have := hlow j h1 h2
  omega
 ·rw [hM.out j h1 (by omega) (by omega)]
  exact h.top j h1 h2
 ·obtain ⟨g, b1, T, hg1, hs, ho⟩ := h.there
  refine ⟨g, b1, T, hg1, ?_, ho⟩
  have hb := h.base
  rw [← hs]
  refine sRead_congr (by rw [hM.base, hb]) fun j h1 h2 => ?_
  have hpg : g % 2 = 0 ∨ g % 2 = 1 := by omega
  have hpg2 : 0 ≤ z * (g % 2) ∧ z * (g % 2) + z ≤ 2 * z := by rcases hpg with e | e <;> rw [e] <;> omega
  exact hM.out j (by omega) (by omega) (by omega)
end Go.Proofs.Ytnmjcdlgfimnaaa
namespace Go.Proofs.Ytnmjcdlgfimnaaa
theorem recN_bd {D : Qab} (hG : ∀ k, SecOk (dGet D k).1) {e : Int} : ∀ (n : Nat) (k last : Int), k ≤ e → k ≤ (recN D e n k last).2 ∧ (recN D e n k last).2 ≤ e
 | 0, k, _, h => ⟨Int.le_refl _, h⟩
 | n + 1, k, last, h => by
  unfold recN
  split
  ·exact ⟨Int.le_refl _, h⟩
  ·rename_i he
   have h0 : (sRead D k e).2.2.2 = 0 := Classical.byContradiction fun hc => he (.inl hc)
   obtain ⟨_, _, h1, h2⟩ := sRead_ok hG h0
   have ih := recN_bd hG n (k + (sRead D k e).2.2.1) (sRead D k e).2.1 h2
   simp only
   omega
theorem slw_queue {D : Qab} {k z : Int} {c : List Int} (h : (slWrite D k z c).2.2 = 0) : (slWrite D k z c).1.Queue = [] := by
 unfold slWrite at h ⊢
 split
 ·rename_i h1
  rw [if_pos h1] at h
  split
  ·rename_i h2
   rw [if_pos h2] at h
   exact absurd h h2
  ·rename_i h2
   rw [if_neg h2] at h
   split
   ·rename_i h3
    rw [if_pos h3] at h
    exact absurd h h3
   ·rename_i h3
    rcases flush_gen (slPutD D k z c).1 with ⟨_, _, f3⟩ | ⟨f1, _⟩
    ·exact f3
    ·exact absurd (by rw [f1]; decide) h3
 ·rename_i h1
  rw [if_neg h1] at h
  simp at h
theorem items_to {a : Int} {l : List (List Int)} {m j : Nat} (h0 : 0 ≤ a) (hfit : a + l.length ≤ m) : ∀ y ∈ itemsAt a (l.take j), 0 ≤ y.To ∧ y.To < m := fun y hy => by
 obtain ⟨_, h1, h2⟩ := itemsAt_mem _ _ _ hy
 have hl : (l.take j).length = min j l.length := List.length_take
 omega
structure RInv (J : JourS) (m i : Nat) : Prop where
 zz : 1 ≤ J.z ∧ J.z ≤ 255 ∧ 2 * J.z < m
 mm : m ≤ 60
 at_ : 2 * J.z ≤ J.L.a ∧ J.L.a ≤ J.L.e ∧ J.L.e = m
 st : 1 ≤ J.L.st ∧ J.L.st ≤ i + 1
 sec : ∀ s ∈ J.L.D.Base, SecOk s
 q : J.L.D.Queue.length ≤ 255
 to : ∀ y ∈ J.L.D.Queue, 0 ≤ y.To ∧ y.To < m
 live : J.L.D.Dead = false ∨ J.r = true → J.L.D.Queue = [] ∧ ∀ j : Int, 2 * J.z ≤ j → j < m → numK (secAt J.L.D j) 8 < J.L.st
 vis : Holds J.L.D m J.z i (3 * i + 3)
 pow : ∀ keep, Holds (dPower J.L.D keep) m J.z i (3 * i + 3) ∧ ∀ s ∈ (dPower J.L.D keep).Base, SecOk s
theorem rinv_up {J : JourS} {m i : Nat} (h : RInv J m i) : RInv J m (i + 1) := by
 have hst := h.st
 exact ⟨h.zz, h.mm, h.at_, ⟨hst.1, by push_cast; omega⟩, h.sec, h.q, h.to, h.live, holds_up h.vis (by push_cast; omega) (by push_cast; omega), fun keep => ⟨holds_up (h.pow keep).1 (by push_cast; omega) (by push_cast; omega), (h.pow keep).2⟩⟩
theorem rinv_fuse {J : JourS} {m i : Nat} (h : RInv J m i) (n : Int) : RInv ⟨⟨dFuse J.L.D n, J.L.a, J.L.e, J.L.st⟩, J.z, J.r⟩ m i :=
 ⟨h.zz, h.mm, h.at_, h.st, h.sec, h.q, h.to, h.live, ⟨h.vis.sec, h.vis.f0, h.vis.f1, h.vis.low, h.vis.top, h.vis.there, h.vis.base⟩, h.pow⟩
theorem holds_calm {D : Qab} {m : Nat} {z B G : Int} (h : Holds D m z B G) : Holds (calm D) m z B G := ⟨h.sec, h.f0, h.f1, h.low, h.top, h.there, h.base⟩
theorem rinv_open {E : Qab} {m i : Nat} {z : Int} (hz : 1 ≤ z ∧ z ≤ 255 ∧ 2 * z < m) (hm : m ≤ 60) (hi : i ≤ 200) (h : Holds E m z i (3 * i + 3)) (hsec : ∀ s ∈ E.Base, SecOk s) (hq : E.Queue.length ≤ 255) (hto : ∀ y ∈ E.Queue, 0 ≤ y.To ∧ y.To < m) (hl : E.Dead = false → E.Queue = [])
    (hp : ∀ keep, Holds (dPower E keep) m z i (3 * i + 3) ∧ ∀ s ∈ (dPower E keep).Base, SecOk s) {f : Int} (hf : 0 ≤ f ∧ f ≤ i) (r : Bool) (hr : r = true → E.Queue = []) : RInv ⟨openL E (2 * z) m f, z, r⟩ m i := by
 have hb := h.base
 have htk := sTop_ok (D := E) ((m : Int) - 2 * z).toNat (2 * z) 0 (by omega) (by omega)
 have ht0 : 0 ≤ (topN E (2 * z) m).1 := htk.2.1
 have htB : (topN E (2 * z) m).1 ≤ i := by
  unfold topN
  exact sTop_le _ _ 0 (fun j h5 h6 => h.low j h5 (by omega)) (by omega) (by omega) (by omega)
 have hst : (openL E (2 * z) m f).st = max f (topN E (2 * z) m).1 + 1 := Qa5 _ (by omega) (by omega)
 have hall : ∀ j : Int, 2 * z ≤ j → j < m → numK (secAt E j) 8 < (openL E (2 * z) m f).st := fun j h5 h6 => by
  have h7 := htk.2.2 j h5 (by omega)
  have h8 : numK (secAt E j) 8 ≤ (topN E (2 * z) m).1 := h7
  omega
 have hrb := recN_bd (D := E) h.sec (e := m) (((m : Int) - 2 * z).toNat + 1) (2 * z) f (by omega)
 have ha : (openL E (2 * z) m f).a = (recN E m (((m : Int) - 2 * z).toNat + 1) (2 * z) f).2 := rfl
 refine ⟨hz, hm, ⟨?_, ?_, rfl⟩, ⟨?_, ?_⟩, hsec, hq, hto, fun hh => ⟨?_, hall⟩, h, hp⟩
 ·show 2 * z ≤ (openL E (2 * z) m f).a
  rw [ha]; exact hrb.1
 ·show (openL E (2 * z) m f).a ≤ (m : Int)
  rw [ha]; exact hrb.2
 ·show 1 ≤ (openL E (2 * z) m f).st
  omega
 ·show (openL E (2 * z) m f).st ≤ i + 1
  omega
 ·rcases hh with hh | hh
  ·exact hl hh
  ·exact hr hh
theorem rinv_app {J : JourS} {m i : Nat} (h : RInv J m i) (hi : i ≤ 100) {r : List Int} (hb : ∀ x ∈ r, 0 ≤ x ∧ x ≤ 255) : RInv (jApp J r).1 m (i + 1) := by
 by_cases hr : J.r = true
 ·have ej : jApp J r = (⟨(appN J.L r).1, J.z, decide ((appN J.L r).2 ≠ 82)⟩, (appN J.L r).2) := by unfold jApp; rw [if_pos hr]
  obtain ⟨hq, hlt⟩ := h.live (.inr hr)
  obtain ⟨hz1, hz2, hz3⟩ := h.zz
  have hm := h.mm
  obtain ⟨ha1, ha2, ha3⟩ := h.at_
  have hst := h.st
  have hbase := h.vis.base
  have same : ∀ x : Int, x ≠ 82 → (⟨J.L, J.z, decide (x ≠ 82)⟩ : JourS) = J := fun x hx => by
   obtain ⟨L, z, b⟩ := J
   simp only at hr
   subst hr
   simp [hx]
  by_cases h1 : needN r.length = 0
  ·have e : appN J.L r = (J.L, 101) := by unfold appN; rw [if_pos h1]
   rw [ej, e, same 101 (by decide)]
   exact rinv_up h
  by_cases h2 : J.L.e - J.L.a < needN r.length
  ·have e : appN J.L r = (J.L, 102) := by unfold appN; rw [if_neg h1, if_pos h2]
   rw [ej, e, same 102 (by decide)]
   exact rinv_up h
  obtain ⟨hsp, hr4⟩ := need_span h1
  have hsp2 : spanN (closeN r).length ≠ 0 := by show spanR r ≠ 0; omega
  have hcb := close_bytes hb
  have hsok : ∀ s ∈ secsN J.L.st (closeN r), SecOk s := secs_ok hcb
  have hbd := spanR_bd r
  have hll : ((secsN J.L.st (closeN r)).length : Int) = spanR r := by rw [secsN_len]; show ((spanR r).toNat : Int) = _; omega
  have hfit : J.L.a + (secsN J.L.st (closeN r)).length ≤ m := by omega
  -- what a crash leaves
  have torn : ∀ X : Qab, X.Base = J.L.D.Base → (∃ j, X.Queue = itemsAt J.L.a ((secsN J.L.st (closeN r)).take j)) → X.Dead = true →
      RInv ⟨⟨X, J.L.a, J.L.e, J.L.st⟩, J.z, false⟩ m (i + 1) := fun X hX ⟨j, hj⟩ hd => by
   have hv := (holds_app (B' := ((i + 1 : Nat) : Int)) h.vis ⟨hz1, hz2, by omega⟩ ha1 (mixed_vis hbase hq h.sec (by omega) hsok hfit hX hj) hcb hfit hlt ⟨hst.1, by push_cast; omega, by omega⟩ (by push_cast; omega)).1
   refine ⟨⟨hz1, hz2, hz3⟩, hm, ⟨ha1, ha2, ha3⟩, ⟨hst.1, by push_cast; omega⟩, by show ∀ s ∈ X.Base, _; rw [hX]; exact h.sec, ?_, ?_, fun hh => ?_, holds_up hv (Int.le_refl _) (by push_cast; omega), fun keep => ?_⟩
   ·show X.Queue.length ≤ 255
    rw [hj, itemsAt_len, List.length_take]
    omega
   ·show ∀ y ∈ X.Queue, 0 ≤ y.To ∧ y.To < m
    rw [hj]
    exact items_to (by omega) hfit
   ·exfalso
    rcases hh with hh | hh
    ·have hh : X.Dead = false := hh
     rw [hd] at hh
     simp at hh
    ·simp at hh
   ·obtain ⟨p1, p2⟩ := mixed_power hbase hq h.sec (by omega) hsok hfit hX hj keep
    have hv := (holds_app (B' := ((i + 1 : Nat) : Int)) h.vis ⟨hz1, hz2, by omega⟩ ha1 p1 hcb hfit hlt ⟨hst.1, by push_cast; omega, by omega⟩ (by push_cast; omega)).1
    exact ⟨holds_up hv (Int.le_refl _) (by push_cast; omega), p2⟩
  rcases put_sim (D := J.L.D) (a := J.L.a) (st := J.L.st) (b := closeN r) (by omega) hsp2 (by omega) (by show J.L.a + spanR r ≤ _; omega) with ⟨p1, p2, p3, _, _⟩ | ⟨p1, p2, p3, j, p4⟩
  ·rcases flush_gen (sPut J.L.D J.L.a J.L.st (closeN r)).1 with ⟨f1, f2, f3⟩ | ⟨f1, f2, f3, f4⟩
   ·have e : appN J.L r = (⟨(dFlush (sPut J.L.D J.L.a J.L.st (closeN r)).1).1, J.L.a + needN r.length, J.L.e, IntKind.u64.wrap (J.L.st + 1)⟩, 0) := by
     unfold appN
     rw [if_neg h1, if_neg h2, if_neg (by simpa using p1), if_neg (by simpa using f1)]
    rw [ej, e, Qa5 _ (by omega) (by omega)]
    rw [p2, p3, hq, List.nil_append] at f2
    generalize (dFlush (sPut J.L.D J.L.a J.L.st (closeN r)).1).1 = X at *
    obtain ⟨q1, q2⟩ := mixed_flush hbase hq h.sec (by omega) hsok hfit f2 f3
    obtain ⟨q3, q4⟩ := holds_app (B' := ((i + 1 : Nat) : Int)) h.vis ⟨hz1, hz2, by omega⟩ ha1 q1 hcb hfit hlt ⟨hst.1, by push_cast; omega, by omega⟩ (by push_cast; omega)
    have q5 : Holds X m J.z ((i + 1 : Nat) : Int) (3 * ((i + 1 : Nat) : Int) + 3) := holds_up q3 (Int.le_refl _) (by push_cast; omega)
    refine ⟨⟨hz1, hz2, hz3⟩, hm, ⟨by simp only; omega, by simp only; omega, ha3⟩, ⟨by simp only; omega, by push_cast; omega⟩, q2, by show X.Queue.length ≤ 255; rw [f3]; exact Nat.zero_le _, by show ∀ y ∈ X.Queue, _; rw [f3]; simp, fun _ => ⟨f3, fun j h5 h6 => ?_⟩, q5, fun keep => ?_⟩
    ·have := q4 j h5 h6
     simp only
     omega
    ·show Holds (dPower X keep) _ _ _ _ ∧ ∀ s ∈ (dPower X keep).Base, _
     rw [power_quiet f3]
     exact ⟨holds_calm q5, q2⟩
   ·have e : appN J.L r = (⟨(dFlush (sPut J.L.D J.L.a J.L.st (closeN r)).1).1, J.L.a, J.L.e, J.L.st⟩, 82) := by
     unfold appN
     rw [if_neg h1, if_neg h2, if_neg (by simpa using p1), if_pos (by rw [f1]; decide), f1]
    rw [ej, e]
    refine torn _ (by rw [f2, p2]) ⟨(secsN J.L.st (closeN r)).length, ?_⟩ f4
    rw [f3, p3, hq, List.nil_append, List.take_of_length_le (Nat.le_refl _)]
  ·have e : appN J.L r = (⟨(sPut J.L.D J.L.a J.L.st (closeN r)).1, J.L.a, J.L.e, J.L.st⟩, 82) := by
    unfold appN
    rw [if_neg h1, if_neg h2, if_pos (by rw [p1]; decide), p1]
   rw [ej, e]
   exact torn _ p2 ⟨j, by rw [p4, hq, List.nil_append]⟩ p3
 ·have ej : jApp J r = (J, 121) := by unfold jApp; rw [if_neg hr]
  rw [ej]
  exact rinv_up h
theorem rinv_com {J : JourS} {m i : Nat} (h : RInv J m i) (hi : i ≤ 100) (hd : J.L.D.Dead = false) {c : List Int} (hb : ∀ x ∈ c, 0 ≤ x ∧ x ≤ 255) :
    ((slWrite J.L.D 0 J.z (numB (J.L.st - 1).toNat ++ c)).2.2 = 0 → RInv (jCom J c) m (i + 1)) ∧ ((slWrite J.L.D 0 J.z (numB (J.L.st - 1).toNat ++ c)).2.2 ≠ 0 → RInv (jComG J c) m (i + 1)) := by
 obtain ⟨hq, hlt⟩ := h.live (.inl hd)
 obtain ⟨hz1, hz2, hz3⟩ := h.zz
 have hm := h.mm
 obtain ⟨ha1, ha2, ha3⟩ := h.at_
 have hst := h.st
 have hbase := h.vis.base
 have hnb : numB (J.L.st - 1).toNat = [J.L.st - 1] := by
  rw [numB_low (by omega)]
  congr 1
  omega
 have hfc : numB (J.L.st - 1).toNat ++ c = (J.L.st - 1) :: c := by rw [hnb]; rfl
 have hr : rightB J.L.D 0 J.z = true := rightB_iff.2 ⟨Int.le_refl _, hz1, hz2, by omega⟩
 have hcb : ∀ x ∈ closeN ((J.L.st - 1) :: c), 0 ≤ x ∧ x ≤ 255 := by
  rw [← hfc]
  exact cont_bytes hb
 by_cases hsp : spanN (closeN ((J.L.st - 1) :: c)).length ≠ 0 ∧ spanN (closeN ((J.L.st - 1) :: c)).length ≤ J.z
 ·obtain ⟨f, c0, g, hs, hf0, hf1, hg1, b, T, hs2, ho⟩ := holds_read h.vis ⟨hz1, hz2, by omega⟩
  obtain ⟨n1, n2, n3, n4⟩ := next_facts h.vis ⟨hz1, hz2, by omega⟩ (by omega) hs hg1
  have hpar : nextG J.L.D 0 J.z % 2 = 0 ∨ nextG J.L.D 0 J.z % 2 = 1 := by omega
  have hp : 0 ≤ J.z * (nextG J.L.D 0 J.z % 2) ∧ J.z * (nextG J.L.D 0 J.z % 2) + J.z ≤ 2 * J.z := by rcases hpar with e | e <;> rw [e] <;> omega
  have hsim := slw_sim (D := J.L.D) (k := 0) (z := J.z) (c := (J.L.st - 1) :: c) hr hsp (by omega)
  simp only [Int.zero_add, hq, List.nil_append] at hsim
  generalize hg' : nextG J.L.D 0 J.z = g' at *
  have hbd := spanN_bd (closeN ((J.L.st - 1) :: c)).length
  have hsok : ∀ s ∈ secsN g' (closeN ((J.L.st - 1) :: c)), SecOk s := secs_ok hcb
  have hll : ((secsN g' (closeN ((J.L.st - 1) :: c))).length : Int) = spanN (closeN ((J.L.st - 1) :: c)).length := by rw [secsN_len]; omega
  have hfit : J.z * (g' % 2) + (secsN g' (closeN ((J.L.st - 1) :: c))).length ≤ m := by omega
  have key : ∀ X : Qab, Mixed J.L.D X m (J.z * (g' % 2)) (secsN g' (closeN ((J.L.st - 1) :: c))) → Holds X m J.z ((i + 1 : Nat) : Int) (3 * ((i + 1 : Nat) : Int) + 3) := fun X hM =>
   holds_write h.vis ⟨hz1, hz2, by omega⟩ hM hcb hsp n1 ⟨n4, by push_cast; omega, by omega⟩ (by push_cast; omega) (by push_cast; omega) (by push_cast; omega) ⟨b, T, hg1, n3, hs2, ho⟩
  have hout : ∀ X : Qab, Mixed J.L.D X m (J.z * (g' % 2)) (secsN g' (closeN ((J.L.st - 1) :: c))) → ∀ j : Int, 2 * J.z ≤ j → j < m → numK (secAt X j) 8 < J.L.st := fun X hM j h5 h6 => by
   rw [hM.out j (by omega) h6 (by omega)]
   exact hlt j h5 h6
  rw [jCom_eq]
  unfold jComG
  have hqw := slw_queue (D := J.L.D) (k := 0) (z := J.z) (c := numB (J.L.st - 1).toNat ++ c)
  rw [hfc] at hqw ⊢
  rw [hbase]
  generalize slWrite J.L.D 0 J.z ((J.L.st - 1) :: c) = W at *
  rcases hsim with ⟨p1, _, p3⟩ | ⟨p1, p2, p3, j, p4⟩
  ·refine ⟨fun hw => ?_, fun hw => absurd (by rw [p1]) hw⟩
   have hwq := hqw hw
   obtain ⟨q1, q2⟩ := mixed_flush hbase hq h.sec (by omega) hsok hfit p3 hwq
   have q5 := key _ q1
   refine rinv_open ⟨hz1, hz2, hz3⟩ hm (by omega) q5 q2 (by rw [hwq]; exact Nat.zero_le _) (by rw [hwq]; simp) (fun _ => hwq) (fun keep => ?_) ⟨by omega, by push_cast; omega⟩ true (fun _ => hwq)
   rw [power_quiet hwq]
   exact ⟨holds_calm q5, q2⟩
  ·refine ⟨fun hw => absurd hw (by rw [p1]; decide), fun _ => ?_⟩
   have e82 : W.2.2 = 82 := by rw [p1]
   rw [if_pos e82]
   have q5 := key _ (mixed_vis hbase hq h.sec (by omega) hsok hfit p2 p4)
   refine ⟨⟨hz1, hz2, hz3⟩, hm, ⟨ha1, ha2, ha3⟩, ⟨hst.1, by push_cast; omega⟩, by show ∀ s ∈ W.1.Base, _; rw [p2]; exact h.sec, ?_, ?_, fun hh => ?_, q5, fun keep => ?_⟩
   ·show W.1.Queue.length ≤ 255
    rw [p4, itemsAt_len, List.length_take]
    omega
   ·show ∀ y ∈ W.1.Queue, 0 ≤ y.To ∧ y.To < m
    rw [p4]
    exact items_to (by omega) hfit
   ·exfalso
    rcases hh with hh | hh
    ·have hh : W.1.Dead = false := hh
     rw [p3] at hh
     simp at hh
    ·simp at hh
   ·obtain ⟨q1, q2⟩ := mixed_power hbase hq h.sec (by omega) hsok hfit p2 p4 keep
    exact ⟨key _ q1, q2⟩
 ·have h111 : slWrite J.L.D 0 J.z (numB (J.L.st - 1).toNat ++ c) = (J.L.D, 0, 111) := by
   rw [hfc]
   unfold slWrite
   rw [if_neg (fun h5 => hsp h5.2)]
  unfold jComG
  rw [h111]
  refine ⟨fun hw => ?_, fun _ => ?_⟩
  ·simp at hw
  ·have e : (⟨⟨J.L.D, J.L.a, J.L.e, J.L.st⟩, J.z, if (111 : Int) = 82 then false else J.r⟩ : JourS) = J := by
    rw [if_neg (by decide)]
   simp only at e ⊢
   rw [e]
   exact rinv_up h
theorem rinv_new {n z : Int} (h : 1 ≤ z ∧ z ≤ 255 ∧ 2 * z < n) (hn : n ≤ 60) {c : List Int} (hb : ∀ x ∈ c, 0 ≤ x ∧ x ≤ 255) (hc : spanN (closeN (numB 0 ++ c)).length ≠ 0 ∧ spanN (closeN (numB 0 ++ c)).length ≤ z) : RInv (jNew (dBlank n) z c) n.toNat 0 := by
 have hJ := jf_new h (by omega) hb hc
 have hsl := hJ.ok.slot
 have hlog := hJ.ok.log
 have hzz : (jNew (dBlank n) z c).z = z := rfl
 have hq : (jNew (dBlank n) z c).L.D.Queue = [] := hsl.quiet.q
 have hbase : (jNew (dBlank n) z c).L.D.Base.length = n.toNat := hsl.quiet.base
 have hgen := slotOk_gen hsl (by decide)
 have hthere := hsl.there (by decide) 0 (by have := (hsl.sp (by decide)).1; have := spanN_bd (closeN (numB (0 : Int).toNat ++ c)).length; omega)
 have hother := hsl.other (by decide)
 have hlow := hsl.low
 have he : (jNew (dBlank n) z c).L.e = n.toNat := hJ.ok.e
 have hst := hlog.st
 have ha := hlog.a
 have htop := logOk_top hlog
 have hle := hlog.le
 have hsec := hJ.sec
 have hD : ∀ j, secAt (calmL (jNew (dBlank n) z c).L).D j = secAt (jNew (dBlank n) z c).L.D j := fun _ => rfl
 have hR : ∀ a e, sRead (calmL (jNew (dBlank n) z c).L).D a e = sRead (jNew (dBlank n) z c).L.D a e := fun _ _ => rfl
 have hA : (calmL (jNew (dBlank n) z c).L).a = (jNew (dBlank n) z c).L.a := rfl
 have hE : (calmL (jNew (dBlank n) z c).L).e = (jNew (dBlank n) z c).L.e := rfl
 have hS : (calmL (jNew (dBlank n) z c).L).st = (jNew (dBlank n) z c).L.st := rfl
 simp only [hzz, hD, hR, hA, hE, hS] at hgen hthere hother hlow hst ha htop hle
 clear hD hR hA hE hS
 generalize jNew (dBlank n) z c = J at *
 have hn1 : (n.toNat : Int) = n := by omega
 have e0 : numB (0 : Int).toNat = [0] := numB_low (by decide)
 have hso : ∀ j, SecOk (secAt J.L.D j) := sec_of hq hsec
 have hH : Holds J.L.D n.toNat z ((0 : Nat) : Int) (3 * ((0 : Nat) : Int) + 3) := by
  refine ⟨hso, fun h0 => ?_, fun h0 => ?_, fun j h1 h2 => ?_, fun j h1 h2 => ?_, ⟨1, closeN (numB (0 : Int).toNat ++ c), spanN (closeN (numB (0 : Int).toNat ++ c)).length, Int.le_refl _, ?_, by rw [open_close]⟩, hbase⟩
  ·have h1 := hother 0 (by omega) (by omega)
   have h2 := (numK_bd (hso 0).2 8).1
   omega
  ·have e1 : (0 : Int) + z * (1 % 2) + ((0 : Nat) : Int) = z := by omega
   rw [e1, e0] at hthere
   rw [hthere]
   have hmf := made_first (spanN (closeN ([0] ++ c)).length) 1 0 c
   exact ⟨hmf.1, by have h3 := hmf.2; have h4 : (madeN 0 (spanN (closeN ([0] ++ c)).length) 1 (pieceN (closeN (0 :: c)) 0)).getD 3 0 = 0 := h3; show (madeN 0 (spanN (closeN ([0] ++ c)).length) 1 (pieceN (closeN (0 :: c)) 0)).getD 3 0 ≤ _; omega⟩
  ·have := htop j h1 (by omega)
   simp only [List.length_nil] at this
   omega
  ·have := hlow j (by omega) (by omega)
   omega
  ·rw [Int.zero_add] at hgen
   exact hgen
 refine ⟨by rw [hzz]; omega, by omega, ⟨by rw [hzz, ha]; exact Int.le_refl _, by omega, by omega⟩, ⟨by rw [hst]; simp, by rw [hst]; simp⟩, hsec, by rw [hq]; exact Nat.zero_le _, by rw [hq]; simp, fun _ => ⟨hq, fun j h1 h2 => ?_⟩, by rw [hzz]; exact hH, fun keep => ?_⟩
 ·rw [hzz] at h1
  have := htop j h1 (by omega)
  simp only [List.length_nil] at this hst
  omega
 ·rw [power_quiet hq, hzz]
  exact ⟨holds_calm hH, hsec⟩
end Go.Proofs.Ytnmjcdlgfimnaaa
namespace Go.Proofs.Ytnmjcdlgfimnaaa
section
set_option linter.unusedSimpArgs false
set_option linter.unusedVariables false
set_option maxRecDepth 20000
attribute [local irreducible] Qb3 Qa9 vcA Qbp Wc
set_option maxHeartbeats 8000000
attribute [local push_cast] slWrite_len sing_getD
theorem jFmtN_fn (D : Qab) (z : Int) (c : List Int) (h : jrightB D z = false) :
    Qcs Cx.P 67 [.l (.ptr 1 [] 0), .l (.int .i64 z), .l (.dat (.slice (.int .u8)) c)] [(1, .obj DiskO D)] (tvL [.nilp, .int .i64 121]) [(1, .obj DiskO D)] := by
 refine Qcs.go2 (E := Cx.env) (fn := Try.f67) (res := [_, _]) _ (Qc2.refl _) Try.func67 Qk4 rfl rfl (by simp [Qb1, SV.ids, LV.ids]) (by simp [Qao]) (by kernel_rfl) rfl ?_
 intro hf
 try push_cast at hf
 intro _
 simp only [mmD, Qcu, Qao, List.map_cons, List.map_nil, List.cons_append, List.nil_append]
 repeat' (first
 | (intro (K' : KT) hK'; push_cast; (repeat' refine And.intro ?_ ?_); all_goals (first | (apply hK'; clear hK' K') | (refine ⟨trivial, trivial, ?_⟩; apply hK'; clear hK' K') | (intro hb; (try push_cast at hb); all_goals (intros; apply hK'; clear hK' K')) | ((first | refine Qbr jRight_con (fun _ _ => rfl) ?_); push_cast; (repeat' refine And.intro ?_ ?_); all_goals (first | (apply hK'; clear hK' K') | (intros; apply hK'; clear hK' K') | (clear hK' K'; first | omega | skip))) | (clear hK' K'; first | omega | skip)))
 | apply Qar | apply Qac | apply Qah | apply Qaj | apply Qau
 | apply Qap | apply Qax | apply Qas | apply Qam | apply Qaz | apply Qay
 | (refine Qaf ?_; push_cast) | apply Qag | refine Qaa (Qa3 _ (by omega) (by omega)) ?_ | refine Qaa (Qb0 _ (by omega) (by omega)) ?_ | refine Qaa (Qba _ (by omega) (by omega)) ?_ | refine Qaa (Qa5 _ (by omega) (by omega)) ?_
 | refine Qai rfl rfl ?_ | refine Qat rfl rfl ?_
 | (refine Qak (by push_cast; first | done | rfl) ?_ ?_ <;> intro hc <;> (try push_cast at hc))
 | refine Qaw rfl rfl rfl (by push_cast; first | done | rfl) ?_
 | refine Qav rfl rfl rfl (by push_cast; first | done | rfl) ?_ ?_
 | (intro (hc : (_ : Prop)); (try push_cast at hc)) | intro (hc : Qad) | intro (hc : Int) | intro (hc : Nat))
 ·(refine Qc9.fin ⟨[(1, .obj DiskO D)], ?_, ?_, ?_, Qbb.refl _, ?_⟩
   ·push_cast
   ·push_cast
   ·simp [Qao]
   ·simp [tvL, TV.ids, SV.ids, LV.ids, Qb1])
 ·exfalso
  have h9 := ‹(!jrightB D z) = false›
  rw [h] at h9
  simp at h9
theorem jFmtF_fn (D : Qab) (z : Int) (c : List Int) (h : 1 ≤ z ∧ z ≤ 255 ∧ 2 * z < D.Base.length) (hst : 1 ≤ (openL D (2 * z) D.Base.length 0).st ∧ (openL D (2 * z) D.Base.length 0).st ≤ 1152921504606846977) (hc0 : c.length ≤ 12288) (hq : D.Queue.length ≤ 900000)
    (hw : (slWrite D 0 z (numB ((openL D (2 * z) D.Base.length 0).st - 1).toNat ++ c)).2.2 ≠ 0) :
    Qcs Cx.P 67 [.l (.ptr 1 [] 0), .l (.int .i64 z), .l (.dat (.slice (.int .u8)) c)] [(1, .obj DiskO D)] (tvL [.nilp, .int .i64 (slWrite D 0 z (numB ((openL D (2 * z) D.Base.length 0).st - 1).toNat ++ c)).2.2])
     [(1, .obj DiskO (slWrite D 0 z (numB ((openL D (2 * z) D.Base.length 0).st - 1).toNat ++ c)).1)] := by
 have hr : jrightB D z = true := jrightB_iff.2 h
 have hG : (jComG ⟨openL D (2 * z) D.Base.length 0, z, false⟩ c).L.D = (slWrite D 0 z (numB ((openL D (2 * z) D.Base.length 0).st - 1).toNat ++ c)).1 := rfl
 rw [← hG]
 refine Qcs.go2 (E := Cx.env) (fn := Try.f67) (res := [_, _]) _ (Qc2.refl _) Try.func67 Qk4 rfl rfl (by simp [Qb1, SV.ids, LV.ids]) (by simp [Qao]) (by kernel_rfl) rfl ?_
 intro hf
 try push_cast at hf
 intro _
 simp only [mmD, Qcu, Qao, List.map_cons, List.map_nil, List.cons_append, List.nil_append]
 repeat' (first
 | (intro (K' : KT) hK'; push_cast; (repeat' refine And.intro ?_ ?_); all_goals (first | (apply hK'; clear hK' K') | (refine ⟨trivial, trivial, ?_⟩; apply hK'; clear hK' K') | (intro hb; (try push_cast at hb); all_goals (intros; apply hK'; clear hK' K')) | ((first | refine Qbr jRight_con (fun _ _ => rfl) ?_ | refine call_J0 4 ?_ | refine call_J jComG_con (fun _ _ => rfl) ?_); push_cast; (repeat' refine And.intro ?_ ?_); all_goals (first | (apply hK'; clear hK' K') | (intros; apply hK'; clear hK' K') | (clear hK' K'; first | omega | skip))) | (clear hK' K'; first | omega | skip)))
 | apply Qar | apply Qac | apply Qah | apply Qaj | apply Qau
 | apply Qap | apply Qax | apply Qas | apply Qam | apply Qaz | apply Qay
 | (refine Qaf ?_; push_cast) | apply Qag | refine Qaa (Qa3 _ (by omega) (by omega)) ?_ | refine Qaa (Qb0 _ (by omega) (by omega)) ?_ | refine Qaa (Qba _ (by omega) (by omega)) ?_ | refine Qaa (Qa5 _ (by omega) (by omega)) ?_
 | refine Qai rfl rfl ?_ | refine Qat rfl rfl ?_
 | (refine Qak (by push_cast; first | done | rfl) ?_ ?_ <;> intro hc <;> (try push_cast at hc))
 | refine Qaw rfl rfl rfl (by push_cast; first | done | rfl) ?_
 | refine Qav rfl rfl rfl (by push_cast; first | done | rfl) ?_ ?_
 | (intro (hc : (_ : Prop)); (try push_cast at hc)) | intro (hc : Qad) | intro (hc : Int) | intro (hc : Nat))
 ·exfalso; rw [hr] at hc; simp at hc
 ·have eL : (⟨D, (openL D (2 * z) D.Base.length 0).a, (openL D (2 * z) D.Base.length 0).e, (openL D (2 * z) D.Base.length 0).st⟩ : LogS) = openL D (2 * z) D.Base.length 0 := rfl
  rw [eL]
  generalize (slWrite D 0 z (numB ((openL D (2 * z) D.Base.length 0).st - 1).toNat ++ c)).2.2 = er
  generalize jComG ⟨openL D (2 * z) D.Base.length 0, z, false⟩ c = J
  (refine Qc9.fin ⟨[(1, .obj DiskO J.L.D)], ?_, ?_, ?_, Qbb.refl _, ?_⟩
   ·push_cast
   ·push_cast
   ·simp [Qao]
   ·simp [tvL, TV.ids, SV.ids, LV.ids, Qb1])
 ·exfalso; exact hw (by simpa using hc)
theorem jFmtN_con : Qkc Cx.P 67 DiskO (.pair (.int .i64) (.pair (.slice (.int .u8)) .unit)) (fun D x => jrightB D x.1 = false) (fun _ _ => [.nilp, .int .i64 121]) (fun D _ => D) :=
 ⟨Qk4, fun D x h => jFmtN_fn D x.1 x.2.1 h⟩
theorem jFmtF_con : Qkc Cx.P 67 DiskO (.pair (.int .i64) (.pair (.slice (.int .u8)) .unit))
    (fun D x => (1 ≤ x.1 ∧ x.1 ≤ 255 ∧ 2 * x.1 < D.Base.length) ∧ (1 ≤ (openL D (2 * x.1) D.Base.length 0).st ∧ (openL D (2 * x.1) D.Base.length 0).st ≤ 1152921504606846977) ∧ x.2.1.length ≤ 12288 ∧ D.Queue.length ≤ 900000 ∧ (slWrite D 0 x.1 (numB ((openL D (2 * x.1) D.Base.length 0).st - 1).toNat ++ x.2.1)).2.2 ≠ 0)
    (fun D x => [.nilp, .int .i64 (slWrite D 0 x.1 (numB ((openL D (2 * x.1) D.Base.length 0).st - 1).toNat ++ x.2.1)).2.2]) (fun D x => (slWrite D 0 x.1 (numB ((openL D (2 * x.1) D.Base.length 0).st - 1).toNat ++ x.2.1)).1) :=
 ⟨Qk4, fun D x h => jFmtF_fn D x.1 x.2.1 h.1 h.2.1 h.2.2.1 h.2.2.2.1 h.2.2.2.2⟩
end
end Go.Proofs.Ytnmjcdlgfimnaaa
