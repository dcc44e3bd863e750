/- Chapter 9: sectors with a stamp, as plain functions. -/
import Derived.Test.YtnmjcdlgfimnaaaT9
import Derived.Test.YtnmjcdlgfimnaaaB1
namespace Go.Proofs.Ytnmjcdlgfimnaaa
set_option linter.unusedSimpArgs false
set_option linter.unusedVariables false
set_option maxRecDepth 20000
attribute [local irreducible] Qb3 Qa9 vcA Qbp Wc
set_option maxHeartbeats 8000000
def stampL (st : Int) : List Int := (List.range 8).map fun k => st / 256 ^ k % 256
def madeN (i total st : Int) (piece : List Int) : List Int := i :: total :: (piece.length : Int) :: (piece ++ (Qc1 (53 - piece.length) 0 ++ stampL st))
def pieceN (b : List Int) (i : Nat) : List Int := (b.drop (53 * i)).take 53
def secsN (st : Int) (b : List Int) : List (List Int) := (List.range (spanN b.length).toNat).map fun (i : Nat) => madeN (i : Int) (spanN b.length) st (pieceN b i)
theorem spanN_zero (n : Int) : spanN n = 0 ↔ n < 0 ∨ 13515 < n := by
 unfold spanN
 split
 ·simpa
 ·simp only [iff_false, *]; omega
theorem spanN_bd (n : Int) : 0 ≤ spanN n ∧ spanN n ≤ 255 := by
 unfold spanN
 split <;> omega
theorem stampL_len (st : Int) : (stampL st).length = 8 := by simp [stampL]
theorem madeN_len (i total st : Int) (piece : List Int) (h : piece.length ≤ 53) : (madeN i total st piece).length = 64 := by
 simp only [madeN, List.length_cons, List.length_append, Qc1, List.length_replicate, stampL_len]; omega
theorem pieceN_le (b : List Int) (i : Nat) : (pieceN b i).length ≤ 53 := by simp only [pieceN, List.length_take, List.length_drop]; omega
theorem pieceN_len (b : List Int) (i : Nat) : (pieceN b i).length = min 53 (b.length - 53 * i) := by simp only [pieceN, List.length_take, List.length_drop]
theorem secsN_len (st : Int) (b : List Int) : (secsN st b).length = (spanN b.length).toNat := by simp [secsN]
def madeP (k : Nat) (i total st : Int) (piece : List Int) : List Int := i :: total :: (piece.length : Int) :: (piece ++ (Qc1 (53 - piece.length) 0 ++ ((stampL st).take k ++ Qc1 (8 - k) 0)))
theorem madeP_8 (i total st : Int) (piece : List Int) : madeP 8 i total st piece = madeN i total st piece := by
 have : (stampL st).take 8 = stampL st := List.take_of_length_le (by rw [stampL_len]; exact Nat.le_refl _)
 simp [madeP, madeN, this, Qc1]
theorem madeP_0 (i total st : Int) (piece : List Int) (h : piece.length ≤ 53) :
    (((((Qc1 64 0).set 0 i).set 1 total).set 2 (piece.length : Int)).take 3) ++ (piece.take 53 ++ ((((Qc1 64 0).set 0 i).set 1 total).set 2 (piece.length : Int)).drop (3 + min piece.length 53)) = madeP 0 i total st piece := by
 have e : (((Qc1 64 (0 : Int)).set 0 i).set 1 total).set 2 (piece.length : Int) = i :: total :: (piece.length : Int) :: Qc1 61 0 := rfl
 rw [e, List.take_of_length_le h, Nat.min_eq_left h, Nat.add_comm 3]
 simp only [List.take_succ_cons, List.take_zero, List.drop_succ_cons, madeP, Qc1, List.drop_replicate, List.nil_append, List.cons_append, List.replicate_append_replicate]
 have : 61 - piece.length = 53 - piece.length + (8 - 0) := by omega
 rw [this]
theorem stampL_getD (st : Int) (k : Nat) (h : k < 8) : (stampL st).getD k 0 = st / 256 ^ k % 256 := by
 simp [stampL, List.getD_eq_getElem?_getD, h]
theorem set_mid {α : Type} (p q : List α) (x y : α) (n : Nat) (h : p.length = n) : (p ++ x :: q).set n y = p ++ y :: q := by
 subst h
 rw [List.set_append_right _ _ (Nat.le_refl _), Nat.sub_self]; rfl
theorem madeP_set (k : Nat) (i total st : Int) (piece : List Int) (h : piece.length ≤ 53) (hk : k < 8) : (madeP k i total st piece).set (56 + k) (st / 256 ^ k % 256) = madeP (k + 1) i total st piece := by
 have e1 : Qc1 (8 - k) (0 : Int) = 0 :: Qc1 (8 - (k + 1)) 0 := by
  have : 8 - k = 8 - (k + 1) + 1 := by omega
  rw [this]; rfl
 have e2 : (stampL st).take (k + 1) = (stampL st).take k ++ [st / 256 ^ k % 256] := by
  rw [List.take_add_one, ← stampL_getD st k hk, List.getD_eq_getElem?_getD, List.getElem?_eq_getElem (by rw [stampL_len]; exact hk)]; rfl
 have e3 : madeP k i total st piece = (i :: total :: (piece.length : Int) :: (piece ++ (Qc1 (53 - piece.length) 0 ++ (stampL st).take k))) ++ 0 :: Qc1 (8 - (k + 1)) 0 := by
  simp only [madeP, e1, List.cons_append, List.append_assoc]
 rw [e3, set_mid _ _ _ _ _ (by simp only [List.length_cons, List.length_append, Qc1, List.length_replicate, List.length_take, stampL_len]; omega)]
 simp only [madeP, e2, List.cons_append, List.append_assoc, List.nil_append]
theorem wrap_u8 (x : Int) : IntKind.u8.wrap x = x % 256 := by
 simp [IntKind.wrap, IntKind.signed, IntKind.bits]
theorem shr_u64 (x : Int) : Qc8 .u64 x 8 = x / 256 := by
 have : min (8 : Int).toNat IntKind.u64.bits = 8 := by decide
 unfold Qc8
 rw [this, Int.fdiv_eq_ediv_of_nonneg _ (by decide)]
 rfl
theorem stamp_step (st : Int) (k : Nat) : st / 256 ^ k / 256 = st / 256 ^ (k + 1) := by
 rw [Int.pow_succ, Int.ediv_ediv_of_nonneg (by exact Int.le_of_lt (Int.pow_pos (by decide)))]
theorem stamp_bd {st : Int} (h : 0 ≤ st ∧ st ≤ 18446744073709551615) (k : Nat) : 0 ≤ st / 256 ^ k ∧ st / 256 ^ k ≤ 18446744073709551615 := by
 have hp : (0 : Int) < 256 ^ k := Int.pow_pos (by decide)
 refine ⟨Int.ediv_nonneg h.1 (Int.le_of_lt hp), Int.le_trans (Int.ediv_le_self _ h.1) h.2⟩
def copyP (k : Nat) (i total : Int) (p : List Int) : List Int := i :: total :: (k : Int) :: (p.take k ++ Qc1 (61 - k) 0)
theorem copyP_end (i total st : Int) (p : List Int) (h : p.length ≤ 53) : copyP p.length i total p = madeP 0 i total st p := by
 simp only [copyP, madeP, List.take_length, List.take_zero, List.nil_append, Qc1, List.replicate_append_replicate]
 have : 61 - p.length = 53 - p.length + (8 - 0) := by omega
 rw [this]
theorem copyP_set (k : Nat) (i total : Int) (p : List Int) (hk : k < p.length) (h : p.length ≤ 53) : ((copyP k i total p).set 2 ((k : Int) + 1)).set (3 + k) (p.getD k 0) = copyP (k + 1) i total p := by
 have e1 : Qc1 (61 - k) (0 : Int) = 0 :: Qc1 (61 - (k + 1)) 0 := by
  have : 61 - k = 61 - (k + 1) + 1 := by omega
  rw [this]; rfl
 have e2 : p.take (k + 1) = p.take k ++ [p.getD k 0] := by
  rw [List.take_add_one, List.getD_eq_getElem?_getD, List.getElem?_eq_getElem hk]; rfl
 have e3 : (copyP k i total p).set 2 ((k : Int) + 1) = (i :: total :: ((k : Int) + 1) :: p.take k) ++ 0 :: Qc1 (61 - (k + 1)) 0 := by
  simp only [copyP, e1, List.set_cons_succ, List.set_cons_zero, List.cons_append]
 rw [e3, set_mid _ _ _ _ _ (by simp only [List.length_cons, List.length_take]; omega)]
 simp only [copyP, e2, List.cons_append, List.append_assoc, List.nil_append, Int.natCast_add, Int.natCast_one]
theorem pieceN_getD (b : List Int) (i k : Nat) (h : k < 53) : (pieceN b i).getD k 0 = b.getD (53 * i + k) 0 := by
 simp only [pieceN, List.getD_eq_getElem?_getD, List.getElem?_take, List.getElem?_drop, if_pos h]
theorem secsN_take (st : Int) (b : List Int) (i : Nat) (h : i < (spanN b.length).toNat) : (secsN st b).take (i + 1) = (secsN st b).take i ++ [madeN i (spanN b.length) st (pieceN b i)] := by
 rw [List.take_add_one]
 congr 1
 simp [secsN, h]
end Go.Proofs.Ytnmjcdlgfimnaaa
namespace Go.Proofs.Ytnmjcdlgfimnaaa
def putAll (D : Qab) (at_ : Int) : List (List Int) → Qab × Int
 | [] => (D, 0)
 | s :: l => if (dPut D at_ s).2 ≠ 0 then dPut D at_ s else putAll (dPut D at_ s).1 (at_ + 1) l
def sPut (D : Qab) (at_ st : Int) (b : List Int) : Qab × Int :=
 if st = 0 ∨ spanN b.length = 0 then (D, 91)
 else if at_ < 0 ∨ (D.Base.length : Int) - spanN b.length < at_ then (D, 81)
 else putAll D at_ (secsN st b)
def secAt (D : Qab) (k : Int) : List Int := (dGet D k).1
def cntOf (s : List Int) : Nat := min (s.getD 2 0).toNat 53
def pieceOf (s : List Int) : List Int := (s.drop 3).take (cntOf s)
def totOf (s : List Int) : Int := s.getD 1 0
def secsAt (D : Qab) (at_ : Int) (n : Nat) : List (List Int) := (List.range n).map fun (i : Nat) => secAt D (at_ + i)
def readB (D : Qab) (at_ : Int) : List Int := ((secsAt D at_ (totOf (secAt D at_)).toNat).map pieceOf).flatten
def RdOk (D : Qab) (at_ end_ : Int) : Prop := numK (secAt D at_) 8 ≠ 0 ∧ totOf (secAt D at_) ≠ 0 ∧ totOf (secAt D at_) ≤ end_ - at_ ∧
 secsN (numK (secAt D at_) 8) (readB D at_) = secsAt D at_ (totOf (secAt D at_)).toNat
instance (D : Qab) (at_ end_ : Int) : Decidable (RdOk D at_ end_) := by unfold RdOk; exact inferInstance
def sRead (D : Qab) (at_ end_ : Int) : List Int × Int × Int × Int :=
 if at_ < 0 ∨ (D.Base.length : Int) < end_ then ([], 0, 0, 81)
 else if end_ ≤ at_ then ([], 0, 0, 91)
 else if RdOk D at_ end_ then (readB D at_, numK (secAt D at_) 8, totOf (secAt D at_), 0)
 else ([], 0, 0, 91)
def sTop (D : Qab) : Nat → Int → Int → Int × Int
 | 0, _, top => (top, 0)
 | n + 1, i, top => if (dGet D i).2 ≠ 0 then (0, (dGet D i).2) else sTop D n (i + 1) (max top (numK (secAt D i) 8))
theorem secsN_get (st : Int) (b : List Int) (i : Nat) (h : i < (spanN b.length).toNat) : (secsN st b)[i]? = some (madeN i (spanN b.length) st (pieceN b i)) := by simp [secsN, h]
theorem dPut_len (D : Qab) (k : Int) (s : List Int) : (dPut D k s).1.Base.length = D.Base.length := by
 unfold dPut; split
 ·split <;> simp [dSpend_base]
 ·rfl
theorem dPut_q (D : Qab) (k : Int) (s : List Int) : (dPut D k s).1.Queue.length ≤ D.Queue.length + 1 := by
 unfold dPut; split
 ·split <;> simp [dSpend_queue]
 ·simp
structure PutTo (D : Qab) (at_ : Int) (l : List (List Int)) (F : Qab) (i : Nat) : Prop where
 le : i ≤ l.length
 rest : putAll D at_ l = putAll F (at_ + i) (l.drop i)
 base : F.Base.length = D.Base.length
 q : F.Queue.length ≤ D.Queue.length + i
theorem putTo_0 (D : Qab) (at_ : Int) (l : List (List Int)) : PutTo D at_ l D 0 := ⟨Nat.zero_le _, by simp, rfl, Nat.le_refl _⟩
theorem putTo_s {D : Qab} {at_ : Int} {l : List (List Int)} {F : Qab} {i : Nat} (h : PutTo D at_ l F i) {s : List Int} (hi : l[i]? = some s) (h0 : (dPut F (at_ + i) s).2 = 0) : PutTo D at_ l (dPut F (at_ + i) s).1 (i + 1) := by
 obtain ⟨hlt, e⟩ := List.getElem?_eq_some_iff.1 hi
 refine ⟨hlt, ?_, by rw [dPut_len, h.base], by have := dPut_q F (at_ + i) s; have := h.q; omega⟩
 rw [h.rest, List.drop_eq_getElem_cons hlt, e, putAll, if_neg (by simpa using h0)]
 congr 1
 push_cast
 omega
theorem putTo_e {D : Qab} {at_ : Int} {l : List (List Int)} {F : Qab} {i : Nat} (h : PutTo D at_ l F i) {s : List Int} (hi : l[i]? = some s) (h0 : ¬ (dPut F (at_ + i) s).2 = 0) : putAll D at_ l = dPut F (at_ + i) s := by
 obtain ⟨hlt, e⟩ := List.getElem?_eq_some_iff.1 hi
 rw [h.rest, List.drop_eq_getElem_cons hlt, e, putAll, if_pos h0]
theorem putTo_all {D : Qab} {at_ : Int} {l : List (List Int)} {F : Qab} (h : PutTo D at_ l F l.length) : putAll D at_ l = (F, 0) := by
 rw [h.rest, List.drop_length]; rfl
theorem getD_some {α : Type} {l : List α} {i : Nat} (z : α) (h : i < l.length) : l[i]? = some (l.getD i z) := by
 rw [List.getD_eq_getElem?_getD, List.getElem?_eq_getElem h]; rfl
theorem cutN_eq (b : List Int) (i : Nat) : List.drop ((i : Int) * 53).toNat (List.take (min (((i : Int) + 1) * 53) (b.length : Int)).toNat b) = pieceN b i := by
 have e1 : ((i : Int) * 53).toNat = 53 * i := by omega
 have e2 : (min (((i : Int) + 1) * 53) (b.length : Int)).toNat = min (53 * i + 53) b.length := by omega
 rw [e1, e2, pieceN, List.drop_take]
 by_cases h : 53 * i + 53 ≤ b.length
 ·rw [Nat.min_eq_left h]
  congr 1
  omega
 ·rw [Nat.min_eq_right (by omega), List.take_of_length_le (by simp), List.take_of_length_le (by simp; omega)]
theorem spanN_lt (n : Nat) (i : Nat) : (i : Int) < spanN n → 53 * (i : Int) ≤ n := by
 unfold spanN
 split <;> omega
end Go.Proofs.Ytnmjcdlgfimnaaa
namespace Go.Proofs.Ytnmjcdlgfimnaaa
def flatF (f : Nat → List Int) (n : Nat) : List Int := ((List.range n).map f).flatten
theorem flatF_s (f : Nat → List Int) (n : Nat) : flatF f (n + 1) = flatF f n ++ f n := by
 simp [flatF, List.range_succ]
theorem flatF_len (f : Nat → List Int) : ∀ n, (∀ i, i < n → (f i).length = 53) → (flatF f n).length = 53 * n
 | 0, _ => rfl
 | n + 1, h => by
  rw [flatF_s, List.length_append, flatF_len f n (fun i hi => h i (by omega)), h n (by omega)]
  omega
theorem flatF_piece (f : Nat → List Int) : ∀ n, (∀ i, i < n → (f i).length = 53) → (f n).length ≤ 53 → ∀ i, i ≤ n → pieceN (flatF f (n + 1)) i = f i := by
 intro n
 induction n with
 | zero =>
  intro _ h2 i hi
  have : i = 0 := by omega
  subst this
  have e : flatF f (0 + 1) = f 0 := by simp [flatF]
  rw [e, pieceN, Nat.mul_zero, List.drop_zero]
  exact List.take_of_length_le h2
 | succ n ih =>
  intro h1 h2 i hi
  have hl := flatF_len f (n + 1) h1
  rw [flatF_s]
  by_cases e : i = n + 1
  ·subst e
   unfold pieceN
   rw [List.drop_append_of_le_length (by omega), List.drop_eq_nil_of_le (by omega), List.nil_append]
   exact List.take_of_length_le h2
  ·have := ih (fun j hj => h1 j (by omega)) (by rw [h1 n (by omega)]; exact Nat.le_refl _) i (by omega)
   rw [← this]
   unfold pieceN
   rw [List.drop_append_of_le_length (by omega), List.take_append_of_le_length (by rw [List.length_drop]; omega)]
theorem pieceN_all (b : List Int) : ∀ n, flatF (pieceN b) n = b.take (53 * n)
 | 0 => by simp [flatF]
 | n + 1 => by
  rw [flatF_s, pieceN_all b n, pieceN, Nat.mul_add, Nat.mul_one, List.take_add]
theorem pieceOf_made (i total st : Int) (p : List Int) (h : p.length ≤ 53) : pieceOf (madeN i total st p) = p := by
 have e : cntOf (madeN i total st p) = p.length := by
  have : (madeN i total st p).getD 2 0 = p.length := rfl
  rw [cntOf, this]
  omega
 rw [pieceOf, e]
 have : (madeN i total st p).drop 3 = p ++ (Qc1 (53 - p.length) 0 ++ stampL st) := rfl
 rw [this, List.take_append_of_le_length (Nat.le_refl _), List.take_length]
theorem pieceOf_len (s : List Int) (h : s.length = 64) : (pieceOf s).length = cntOf s := by
 simp only [pieceOf, List.length_take, List.length_drop, h, cntOf]
 omega
def fullB (c i total : Int) : Bool := decide (c = 53) || (decide (i = total - 1) && decide (c < 53) && (decide (0 < c) || decide (i = 0)))
structure GoodS (D : Qab) (at_ total st : Int) (i : Nat) : Prop where
 len : (secAt D (at_ + i)).length = 64
 cnt : 0 ≤ (secAt D (at_ + i)).getD 2 0
 full : fullB ((secAt D (at_ + i)).getD 2 0) i total = true
 made : secAt D (at_ + i) = madeN i total st (pieceOf (secAt D (at_ + i)))
theorem fullB_le {c i total : Int} (h : fullB c i total = true) : c ≤ 53 := by
 simp only [fullB, Bool.or_eq_true, Bool.and_eq_true, decide_eq_true_eq] at h
 omega
theorem readB_flat (D : Qab) (at_ : Int) : readB D at_ = flatF (fun (i : Nat) => pieceOf (secAt D (at_ + i))) (totOf (secAt D at_)).toNat := by
 simp only [readB, secsAt, flatF, List.map_map]
 rfl
theorem spanN_at (n : Nat) (t : Nat) (h1 : 53 * t < n ∨ t = 0) (h2 : n ≤ 53 * (t + 1)) (h3 : t < 255) : spanN n = t + 1 := by
 unfold spanN
 rw [if_neg (by omega)]
 omega
theorem read_all {D : Qab} {at_ end_ : Int} (h0 : numK (secAt D at_) 8 ≠ 0) (h1 : totOf (secAt D at_) ≠ 0) (h2 : totOf (secAt D at_) ≤ end_ - at_) (h3 : 0 ≤ totOf (secAt D at_)) (h4 : totOf (secAt D at_) ≤ 255)
    (hg : ∀ i : Nat, i < (totOf (secAt D at_)).toNat → GoodS D at_ (totOf (secAt D at_)) (numK (secAt D at_) 8) i) : RdOk D at_ end_ := by
 refine ⟨h0, h1, h2, ?_⟩
 rw [readB_flat]
 generalize totOf (secAt D at_) = T at *
 generalize numK (secAt D at_) 8 = st at *
 obtain ⟨n, hn⟩ : ∃ n : Nat, T = n + 1 := ⟨(T - 1).toNat, by omega⟩
 subst hn
 have ht : ((n : Int) + 1).toNat = n + 1 := by omega
 rw [ht] at hg ⊢
 have hc : ∀ i, i < n + 1 → (pieceOf (secAt D (at_ + (i : Nat)))).length = ((secAt D (at_ + i)).getD 2 0).toNat := by
  intro i hi
  have g := hg i hi
  rw [pieceOf_len _ g.len, cntOf]
  have := fullB_le g.full
  omega
 have hl : ∀ i, i < n → (pieceOf (secAt D (at_ + (i : Nat)))).length = 53 := by
  intro i hi
  rw [hc i (by omega)]
  have g := (hg i (by omega)).full
  simp only [fullB, Bool.or_eq_true, Bool.and_eq_true, decide_eq_true_eq] at g
  omega
 have hlast := (hg n (by omega)).full
 simp only [fullB, Bool.or_eq_true, Bool.and_eq_true, decide_eq_true_eq] at hlast
 have hcn := hc n (by omega)
 have hcp := (hg n (by omega)).cnt
 have hB : (flatF (fun (i : Nat) => pieceOf (secAt D (at_ + i))) (n + 1)).length = 53 * n + ((secAt D (at_ + n)).getD 2 0).toNat := by
  rw [flatF_s, List.length_append, flatF_len _ n hl, hcn]
 have hspan : spanN (flatF (fun (i : Nat) => pieceOf (secAt D (at_ + i))) (n + 1)).length = (n : Int) + 1 := by
  rw [hB]
  exact spanN_at _ n (by omega) (by omega) (by omega)
 unfold secsN secsAt
 rw [hspan, ht]
 apply List.map_congr_left
 intro i hi
 rw [List.mem_range] at hi
 rw [flatF_piece _ n hl (by rw [hcn]; omega) i (by omega)]
 exact (hg i hi).made.symm
theorem read_good {D : Qab} {at_ end_ : Int} (h : RdOk D at_ end_) (h3 : 0 ≤ totOf (secAt D at_)) {i : Nat} (hi : i < (totOf (secAt D at_)).toNat) :
    fullB ((secAt D (at_ + i)).getD 2 0) i (totOf (secAt D at_)) = true ∧ secAt D (at_ + i) = madeN i (totOf (secAt D at_)) (numK (secAt D at_) 8) (pieceOf (secAt D (at_ + i))) := by
 obtain ⟨h0, h1, h2, ha⟩ := h
 generalize readB D at_ = B at ha
 generalize totOf (secAt D at_) = T at *
 generalize numK (secAt D at_) 8 = st at *
 have hl : (spanN B.length).toNat = T.toNat := by
  have := congrArg List.length ha
  simpa [secsN, secsAt] using this
 have hb := spanN_bd B.length
 have hT : spanN B.length = T := by omega
 have he : (secsN st B)[i]? = (secsAt D at_ T.toNat)[i]? := by rw [ha]
 rw [secsN_get st B i (by omega), hT] at he
 simp only [secsAt, List.getElem?_map, List.getElem?_range hi, Option.map_some, Option.some.injEq] at he
 have hp := pieceN_le B i
 have e2 : (secAt D (at_ + i)).getD 2 0 = (pieceN B i).length := by rw [← he]; rfl
 rw [e2, ← he, pieceOf_made _ _ _ _ hp]
 refine ⟨?_, rfl⟩
 rw [pieceN_len]
 simp only [fullB, Bool.or_eq_true, Bool.and_eq_true, decide_eq_true_eq]
 unfold spanN at hT
 split at hT
 ·omega
 ·omega
def SecOk (s : List Int) : Prop := s.length = 64 ∧ ∀ x ∈ s, 0 ≤ x ∧ x ≤ 255
theorem SecOk.at {s : List Int} (h : SecOk s) (i : Nat) : 0 ≤ s.getD i 0 ∧ s.getD i 0 ≤ 255 := by
 rw [List.getD_eq_getElem?_getD]
 cases hx : s[i]? with
 | none => simp
 | some x => exact h.2 x (List.mem_of_getElem? hx)
theorem zeros_ok : SecOk zeros := by
 refine ⟨by simp [zeros, Qc1], fun x hx => ?_⟩
 have : x = 0 := by simpa [zeros, Qc1] using hx
 omega
theorem dGet_ok {d : Qab} (h1 : ∀ y ∈ d.Base, SecOk y) (h2 : ∀ y ∈ d.Queue, SecOk y.Sector) (k : Int) : SecOk (dGet d k).1 := by
 unfold dGet
 split
 ·rename_i ht
  cases hq : (qTo d.Queue k).getLast? with
  | none =>
   simp only [dThere, Bool.and_eq_true, decide_eq_true_eq] at ht
   simp only [Option.getD_none]
   exact h1 _ (getD_mem _ _ _ (by omega))
  | some s =>
   simp only [Option.getD_some]
   have hm := List.mem_of_getLast? hq
   simp only [qTo, List.mem_map, List.mem_filter] at hm
   obtain ⟨y, ⟨hy, _⟩, rfl⟩ := hm
   exact h2 y hy
 ·exact zeros_ok
theorem cntOf_le (s : List Int) : cntOf s ≤ 53 := by unfold cntOf; omega
theorem pieceOf_le (s : List Int) : (pieceOf s).length ≤ 53 := by
 have := cntOf_le s
 simp only [pieceOf, List.length_take]; omega
theorem flatF_le (f : Nat → List Int) (h : ∀ i, (f i).length ≤ 53) : ∀ n, (flatF f n).length ≤ 53 * n
 | 0 => by simp [flatF]
 | n + 1 => by
  rw [flatF_s, List.length_append]
  have := flatF_le f h n
  have := h n
  omega
theorem piece_step (s : List Int) (h : SecOk s) (j : Nat) (hj : j < cntOf s) : (pieceOf s).take (j + 1) = (pieceOf s).take j ++ [s.getD (3 + j) 0] := by
 have hl := pieceOf_len s h.1
 rw [List.take_add_one]
 congr 1
 have : (pieceOf s)[j]? = s[3 + j]? := by
  rw [pieceOf, List.getElem?_take, if_pos hj, List.getElem?_drop]
 rw [this, List.getD_eq_getElem?_getD]
 have hc := cntOf_le s
 rw [List.getElem?_eq_getElem (by rw [h.1]; omega)]
 rfl
theorem secsAt_s (D : Qab) (k : Int) (n : Nat) : secsAt D k (n + 1) = secsAt D k n ++ [(dGet D (k + n)).1] := by
 simp only [secsAt, List.range_succ, List.map_append, List.map_cons, List.map_nil]
 rfl
theorem secsAt_len (D : Qab) (k : Int) (n : Nat) : (secsAt D k n).length = n := by simp [secsAt]
theorem eq_of_getD {α : Type} {l m : List α} (z : α) (h : l.length = m.length) (h2 : ∀ i, i < l.length → l.getD i z = m.getD i z) : l = m := by
 apply List.ext_getElem h
 intro i h1 h3
 have := h2 i h1
 simpa [List.getD_eq_getElem?_getD, h1, h3] using this
end Go.Proofs.Ytnmjcdlgfimnaaa
