/- Chapter 9: sectors with a stamp, as plain functions. -/
import Derived.Test.YtnmjcdlgfimnaaaT9
namespace Go.Proofs.Ytnmjcdlgfimnaaa
set_option linter.unusedSimpArgs false
set_option linter.unusedVariables false
set_option maxRecDepth 20000
attribute [local irreducible] vcOps vcCode vcA vcSch Wc
set_option maxHeartbeats 8000000
def stampL (st : Int) : List Int := (List.range 8).map fun k => st / 256 ^ k % 256
def madeN (i total st : Int) (piece : List Int) : List Int := i :: total :: (piece.length : Int) :: (piece ++ (repl (53 - piece.length) 0 ++ stampL st))
def pieceN (b : List Int) (i : Nat) : List Int := (b.drop (53 * i)).take 53
def secsN (st : Int) (b : List Int) : List (List Int) := (List.range (spanN b.length).toNat).map fun (i : Nat) => madeN (i : Int) (spanN b.length) st (pieceN b i)
theorem spanN_zero (n : Int) : spanN n = 0 ↔ n < 0 ∨ 13515 < n := by
  unfold spanN
  split
  · simpa
  · simp only [iff_false, *]; omega
theorem spanN_bd (n : Int) : 0 ≤ spanN n ∧ spanN n ≤ 255 := by
  unfold spanN
  split <;> omega
theorem stampL_len (st : Int) : (stampL st).length = 8 := by simp [stampL]
theorem madeN_len (i total st : Int) (piece : List Int) (h : piece.length ≤ 53) : (madeN i total st piece).length = 64 := by
  simp only [madeN, List.length_cons, List.length_append, repl, List.length_replicate, stampL_len]; omega
theorem pieceN_le (b : List Int) (i : Nat) : (pieceN b i).length ≤ 53 := by simp only [pieceN, List.length_take, List.length_drop]; omega
theorem pieceN_len (b : List Int) (i : Nat) : (pieceN b i).length = min 53 (b.length - 53 * i) := by simp only [pieceN, List.length_take, List.length_drop]
theorem secsN_len (st : Int) (b : List Int) : (secsN st b).length = (spanN b.length).toNat := by simp [secsN]
def madeP (k : Nat) (i total st : Int) (piece : List Int) : List Int := i :: total :: (piece.length : Int) :: (piece ++ (repl (53 - piece.length) 0 ++ ((stampL st).take k ++ repl (8 - k) 0)))
theorem madeP_8 (i total st : Int) (piece : List Int) : madeP 8 i total st piece = madeN i total st piece := by
  have : (stampL st).take 8 = stampL st := List.take_of_length_le (by rw [stampL_len]; exact Nat.le_refl _)
  simp [madeP, madeN, this, repl]
theorem madeP_0 (i total st : Int) (piece : List Int) (h : piece.length ≤ 53) :
    (((((repl 64 0).set 0 i).set 1 total).set 2 (piece.length : Int)).take 3) ++ (piece.take 53 ++ ((((repl 64 0).set 0 i).set 1 total).set 2 (piece.length : Int)).drop (3 + min piece.length 53)) = madeP 0 i total st piece := by
  have e : (((repl 64 (0 : Int)).set 0 i).set 1 total).set 2 (piece.length : Int) = i :: total :: (piece.length : Int) :: repl 61 0 := rfl
  rw [e, List.take_of_length_le h, Nat.min_eq_left h, Nat.add_comm 3]
  simp only [List.take_succ_cons, List.take_zero, List.drop_succ_cons, madeP, repl, List.drop_replicate, List.nil_append, List.cons_append, List.replicate_append_replicate]
  have : 61 - piece.length = 53 - piece.length + (8 - 0) := by omega
  rw [this]
theorem stampL_getD (st : Int) (k : Nat) (h : k < 8) : (stampL st).getD k 0 = st / 256 ^ k % 256 := by
  simp [stampL, List.getD_eq_getElem?_getD, h]
theorem set_mid {α : Type} (p q : List α) (x y : α) (n : Nat) (h : p.length = n) : (p ++ x :: q).set n y = p ++ y :: q := by
  subst h
  rw [List.set_append_right _ _ (Nat.le_refl _), Nat.sub_self]; rfl
theorem madeP_set (k : Nat) (i total st : Int) (piece : List Int) (h : piece.length ≤ 53) (hk : k < 8) : (madeP k i total st piece).set (56 + k) (st / 256 ^ k % 256) = madeP (k + 1) i total st piece := by
  have e1 : repl (8 - k) (0 : Int) = 0 :: repl (8 - (k + 1)) 0 := by
    have : 8 - k = 8 - (k + 1) + 1 := by omega
    rw [this]; rfl
  have e2 : (stampL st).take (k + 1) = (stampL st).take k ++ [st / 256 ^ k % 256] := by
    rw [List.take_add_one, ← stampL_getD st k hk, List.getD_eq_getElem?_getD, List.getElem?_eq_getElem (by rw [stampL_len]; exact hk)]; rfl
  have e3 : madeP k i total st piece = (i :: total :: (piece.length : Int) :: (piece ++ (repl (53 - piece.length) 0 ++ (stampL st).take k))) ++ 0 :: repl (8 - (k + 1)) 0 := by
    simp only [madeP, e1, List.cons_append, List.append_assoc]
  rw [e3, set_mid _ _ _ _ _ (by simp only [List.length_cons, List.length_append, repl, List.length_replicate, List.length_take, stampL_len]; omega)]
  simp only [madeP, e2, List.cons_append, List.append_assoc, List.nil_append]
theorem wrap_u8 (x : Int) : IntKind.u8.wrap x = x % 256 := by
  simp [IntKind.wrap, IntKind.signed, IntKind.bits]
theorem shr_u64 (x : Int) : shrOp .u64 x 8 = x / 256 := by
  have : min (8 : Int).toNat IntKind.u64.bits = 8 := by decide
  unfold shrOp
  rw [this, Int.fdiv_eq_ediv_of_nonneg _ (by decide)]
  rfl
theorem stamp_step (st : Int) (k : Nat) : st / 256 ^ k / 256 = st / 256 ^ (k + 1) := by
  rw [Int.pow_succ, Int.ediv_ediv_of_nonneg (by exact Int.le_of_lt (Int.pow_pos (by decide)))]
theorem stamp_bd {st : Int} (h : 0 ≤ st ∧ st ≤ 18446744073709551615) (k : Nat) : 0 ≤ st / 256 ^ k ∧ st / 256 ^ k ≤ 18446744073709551615 := by
  have hp : (0 : Int) < 256 ^ k := Int.pow_pos (by decide)
  refine ⟨Int.ediv_nonneg h.1 (Int.le_of_lt hp), Int.le_trans (Int.ediv_le_self _ h.1) h.2⟩
end Go.Proofs.Ytnmjcdlgfimnaaa
