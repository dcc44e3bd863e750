/- Chapter 9: what is put on a disk and read there, as plain functions. -/
import Derived.Test.YtnmjcdlgfimnaaaS9p
import Derived.Test.YtnmjcdlgfimnaaaB1
namespace Go.Proofs.Ytnmjcdlgfimnaaa
def putAll (D : R08Disk) (at_ : Int) : List (List Int) → R08Disk × Int
  | [] => (D, 0)
  | s :: l => if (dPut D at_ s).2 ≠ 0 then dPut D at_ s else putAll (dPut D at_ s).1 (at_ + 1) l
def sPut (D : R08Disk) (at_ st : Int) (b : List Int) : R08Disk × Int :=
  if st = 0 ∨ spanN b.length = 0 then (D, 91)
  else if at_ < 0 ∨ (D.Base.length : Int) - spanN b.length < at_ then (D, 81)
  else putAll D at_ (secsN st b)
def secAt (D : R08Disk) (k : Int) : List Int := (dGet D k).1
def cntOf (s : List Int) : Nat := min (s.getD 2 0).toNat 53
def pieceOf (s : List Int) : List Int := (s.drop 3).take (cntOf s)
def totOf (s : List Int) : Int := s.getD 1 0
def secsAt (D : R08Disk) (at_ : Int) (n : Nat) : List (List Int) := (List.range n).map fun (i : Nat) => secAt D (at_ + i)
def readB (D : R08Disk) (at_ : Int) : List Int := ((secsAt D at_ (totOf (secAt D at_)).toNat).map pieceOf).flatten
def RdOk (D : R08Disk) (at_ end_ : Int) : Prop := numK (secAt D at_) 8 ≠ 0 ∧ totOf (secAt D at_) ≠ 0 ∧ totOf (secAt D at_) ≤ end_ - at_ ∧
  secsN (numK (secAt D at_) 8) (readB D at_) = secsAt D at_ (totOf (secAt D at_)).toNat
instance (D : R08Disk) (at_ end_ : Int) : Decidable (RdOk D at_ end_) := by unfold RdOk; exact inferInstance
def sRead (D : R08Disk) (at_ end_ : Int) : List Int × Int × Int × Int :=
  if at_ < 0 ∨ (D.Base.length : Int) < end_ then ([], 0, 0, 81)
  else if end_ ≤ at_ then ([], 0, 0, 91)
  else if RdOk D at_ end_ then (readB D at_, numK (secAt D at_) 8, totOf (secAt D at_), 0)
  else ([], 0, 0, 91)
def sTop (D : R08Disk) : Nat → Int → Int → Int × Int
  | 0, _, top => (top, 0)
  | n + 1, i, top => if (dGet D i).2 ≠ 0 then (0, (dGet D i).2) else sTop D n (i + 1) (max top (numK (secAt D i) 8))
theorem secsN_get (st : Int) (b : List Int) (i : Nat) (h : i < (spanN b.length).toNat) : (secsN st b)[i]? = some (madeN i (spanN b.length) st (pieceN b i)) := by simp [secsN, h]
theorem dPut_len (D : R08Disk) (k : Int) (s : List Int) : (dPut D k s).1.Base.length = D.Base.length := by
  unfold dPut; split
  · split <;> simp [dSpend_base]
  · rfl
theorem dPut_q (D : R08Disk) (k : Int) (s : List Int) : (dPut D k s).1.Queue.length ≤ D.Queue.length + 1 := by
  unfold dPut; split
  · split <;> simp [dSpend_queue]
  · simp
structure PutTo (D : R08Disk) (at_ : Int) (l : List (List Int)) (F : R08Disk) (i : Nat) : Prop where
  le : i ≤ l.length
  rest : putAll D at_ l = putAll F (at_ + i) (l.drop i)
  base : F.Base.length = D.Base.length
  q : F.Queue.length ≤ D.Queue.length + i
theorem putTo_0 (D : R08Disk) (at_ : Int) (l : List (List Int)) : PutTo D at_ l D 0 := ⟨Nat.zero_le _, by simp, rfl, Nat.le_refl _⟩
theorem putTo_s {D : R08Disk} {at_ : Int} {l : List (List Int)} {F : R08Disk} {i : Nat} (h : PutTo D at_ l F i) {s : List Int} (hi : l[i]? = some s) (h0 : (dPut F (at_ + i) s).2 = 0) : PutTo D at_ l (dPut F (at_ + i) s).1 (i + 1) := by
  obtain ⟨hlt, e⟩ := List.getElem?_eq_some_iff.1 hi
  refine ⟨hlt, ?_, by rw [dPut_len, h.base], by have := dPut_q F (at_ + i) s; have := h.q; omega⟩
  rw [h.rest, List.drop_eq_getElem_cons hlt, e, putAll, if_neg (by simpa using h0)]
  congr 1
  push_cast
  omega
theorem putTo_e {D : R08Disk} {at_ : Int} {l : List (List Int)} {F : R08Disk} {i : Nat} (h : PutTo D at_ l F i) {s : List Int} (hi : l[i]? = some s) (h0 : ¬ (dPut F (at_ + i) s).2 = 0) : putAll D at_ l = dPut F (at_ + i) s := by
  obtain ⟨hlt, e⟩ := List.getElem?_eq_some_iff.1 hi
  rw [h.rest, List.drop_eq_getElem_cons hlt, e, putAll, if_pos h0]
theorem putTo_all {D : R08Disk} {at_ : Int} {l : List (List Int)} {F : R08Disk} (h : PutTo D at_ l F l.length) : putAll D at_ l = (F, 0) := by
  rw [h.rest, List.drop_length]; rfl
theorem getD_some {α : Type} {l : List α} {i : Nat} (z : α) (h : i < l.length) : l[i]? = some (l.getD i z) := by
  rw [List.getD_eq_getElem?_getD, List.getElem?_eq_getElem h]; rfl
theorem cutN_eq (b : List Int) (i : Nat) : List.drop ((i : Int) * 53).toNat (List.take (min (((i : Int) + 1) * 53) (b.length : Int)).toNat b) = pieceN b i := by
  have e1 : ((i : Int) * 53).toNat = 53 * i := by omega
  have e2 : (min (((i : Int) + 1) * 53) (b.length : Int)).toNat = min (53 * i + 53) b.length := by omega
  rw [e1, e2, pieceN, List.drop_take]
  by_cases h : 53 * i + 53 ≤ b.length
  · rw [Nat.min_eq_left h]
    congr 1
    omega
  · rw [Nat.min_eq_right (by omega), List.take_of_length_le (by simp), List.take_of_length_le (by simp; omega)]
theorem spanN_lt (n : Nat) (i : Nat) : (i : Int) < spanN n → 53 * (i : Int) ≤ n := by
  unfold spanN
  split <;> omega
end Go.Proofs.Ytnmjcdlgfimnaaa
