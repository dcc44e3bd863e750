/- Chapter 9: what the code looks at while it reads, and what the document makes again: the same. -/
import Derived.Test.YtnmjcdlgfimnaaaS9q
namespace Go.Proofs.Ytnmjcdlgfimnaaa
def flatF (f : Nat → List Int) (n : Nat) : List Int := ((List.range n).map f).flatten
theorem flatF_s (f : Nat → List Int) (n : Nat) : flatF f (n + 1) = flatF f n ++ f n := by
  simp [flatF, List.range_succ]
theorem flatF_len (f : Nat → List Int) : ∀ n, (∀ i, i < n → (f i).length = 53) → (flatF f n).length = 53 * n
  | 0, _ => rfl
  | n + 1, h => by
    rw [flatF_s, List.length_append, flatF_len f n (fun i hi => h i (by omega)), h n (by omega)]
    omega
theorem flatF_piece (f : Nat → List Int) : ∀ n, (∀ i, i < n → (f i).length = 53) → (f n).length ≤ 53 → ∀ i, i ≤ n → pieceN (flatF f (n + 1)) i = f i := by
  intro n
  induction n with
  | zero =>
    intro _ h2 i hi
    have : i = 0 := by omega
    subst this
    have e : flatF f (0 + 1) = f 0 := by simp [flatF]
    rw [e, pieceN, Nat.mul_zero, List.drop_zero]
    exact List.take_of_length_le h2
  | succ n ih =>
    intro h1 h2 i hi
    have hl := flatF_len f (n + 1) h1
    rw [flatF_s]
    by_cases e : i = n + 1
    · subst e
      unfold pieceN
      rw [List.drop_append_of_le_length (by omega), List.drop_eq_nil_of_le (by omega), List.nil_append]
      exact List.take_of_length_le h2
    · have := ih (fun j hj => h1 j (by omega)) (by rw [h1 n (by omega)]; exact Nat.le_refl _) i (by omega)
      rw [← this]
      unfold pieceN
      rw [List.drop_append_of_le_length (by omega), List.take_append_of_le_length (by rw [List.length_drop]; omega)]
theorem pieceN_all (b : List Int) : ∀ n, flatF (pieceN b) n = b.take (53 * n)
  | 0 => by simp [flatF]
  | n + 1 => by
    rw [flatF_s, pieceN_all b n, pieceN, Nat.mul_add, Nat.mul_one, List.take_add]
theorem pieceOf_made (i total st : Int) (p : List Int) (h : p.length ≤ 53) : pieceOf (madeN i total st p) = p := by
  have e : cntOf (madeN i total st p) = p.length := by
    have : (madeN i total st p).getD 2 0 = p.length := rfl
    rw [cntOf, this]
    omega
  rw [pieceOf, e]
  have : (madeN i total st p).drop 3 = p ++ (repl (53 - p.length) 0 ++ stampL st) := rfl
  rw [this, List.take_append_of_le_length (Nat.le_refl _), List.take_length]
theorem pieceOf_len (s : List Int) (h : s.length = 64) : (pieceOf s).length = cntOf s := by
  simp only [pieceOf, List.length_take, List.length_drop, h, cntOf]
  omega
def fullB (c i total : Int) : Bool := decide (c = 53) || (decide (i = total - 1) && decide (c < 53) && (decide (0 < c) || decide (i = 0)))
structure GoodS (D : R08Disk) (at_ total st : Int) (i : Nat) : Prop where
  len : (secAt D (at_ + i)).length = 64
  cnt : 0 ≤ (secAt D (at_ + i)).getD 2 0
  full : fullB ((secAt D (at_ + i)).getD 2 0) i total = true
  made : secAt D (at_ + i) = madeN i total st (pieceOf (secAt D (at_ + i)))
theorem fullB_le {c i total : Int} (h : fullB c i total = true) : c ≤ 53 := by
  simp only [fullB, Bool.or_eq_true, Bool.and_eq_true, decide_eq_true_eq] at h
  omega
theorem readB_flat (D : R08Disk) (at_ : Int) : readB D at_ = flatF (fun (i : Nat) => pieceOf (secAt D (at_ + i))) (totOf (secAt D at_)).toNat := by
  simp only [readB, secsAt, flatF, List.map_map]
  rfl
theorem spanN_at (n : Nat) (t : Nat) (h1 : 53 * t < n ∨ t = 0) (h2 : n ≤ 53 * (t + 1)) (h3 : t < 255) : spanN n = t + 1 := by
  unfold spanN
  rw [if_neg (by omega)]
  omega
theorem read_all {D : R08Disk} {at_ end_ : Int} (h0 : numK (secAt D at_) 8 ≠ 0) (h1 : totOf (secAt D at_) ≠ 0) (h2 : totOf (secAt D at_) ≤ end_ - at_) (h3 : 0 ≤ totOf (secAt D at_)) (h4 : totOf (secAt D at_) ≤ 255)
    (hg : ∀ i : Nat, i < (totOf (secAt D at_)).toNat → GoodS D at_ (totOf (secAt D at_)) (numK (secAt D at_) 8) i) : RdOk D at_ end_ := by
  refine ⟨h0, h1, h2, ?_⟩
  rw [readB_flat]
  generalize totOf (secAt D at_) = T at *
  generalize numK (secAt D at_) 8 = st at *
  obtain ⟨n, hn⟩ : ∃ n : Nat, T = n + 1 := ⟨(T - 1).toNat, by omega⟩
  subst hn
  have ht : ((n : Int) + 1).toNat = n + 1 := by omega
  rw [ht] at hg ⊢
  have hc : ∀ i, i < n + 1 → (pieceOf (secAt D (at_ + (i : Nat)))).length = ((secAt D (at_ + i)).getD 2 0).toNat := by
    intro i hi
    have g := hg i hi
    rw [pieceOf_len _ g.len, cntOf]
    have := fullB_le g.full
    omega
  have hl : ∀ i, i < n → (pieceOf (secAt D (at_ + (i : Nat)))).length = 53 := by
    intro i hi
    rw [hc i (by omega)]
    have g := (hg i (by omega)).full
    simp only [fullB, Bool.or_eq_true, Bool.and_eq_true, decide_eq_true_eq] at g
    omega
  have hlast := (hg n (by omega)).full
  simp only [fullB, Bool.or_eq_true, Bool.and_eq_true, decide_eq_true_eq] at hlast
  have hcn := hc n (by omega)
  have hcp := (hg n (by omega)).cnt
  have hB : (flatF (fun (i : Nat) => pieceOf (secAt D (at_ + i))) (n + 1)).length = 53 * n + ((secAt D (at_ + n)).getD 2 0).toNat := by
    rw [flatF_s, List.length_append, flatF_len _ n hl, hcn]
  have hspan : spanN (flatF (fun (i : Nat) => pieceOf (secAt D (at_ + i))) (n + 1)).length = (n : Int) + 1 := by
    rw [hB]
    exact spanN_at _ n (by omega) (by omega) (by omega)
  unfold secsN secsAt
  rw [hspan, ht]
  apply List.map_congr_left
  intro i hi
  rw [List.mem_range] at hi
  rw [flatF_piece _ n hl (by rw [hcn]; omega) i (by omega)]
  exact (hg i hi).made.symm
theorem read_good {D : R08Disk} {at_ end_ : Int} (h : RdOk D at_ end_) (h3 : 0 ≤ totOf (secAt D at_)) {i : Nat} (hi : i < (totOf (secAt D at_)).toNat) :
    fullB ((secAt D (at_ + i)).getD 2 0) i (totOf (secAt D at_)) = true ∧ secAt D (at_ + i) = madeN i (totOf (secAt D at_)) (numK (secAt D at_) 8) (pieceOf (secAt D (at_ + i))) := by
  obtain ⟨h0, h1, h2, ha⟩ := h
  generalize readB D at_ = B at ha
  generalize totOf (secAt D at_) = T at *
  generalize numK (secAt D at_) 8 = st at *
  have hl : (spanN B.length).toNat = T.toNat := by
    have := congrArg List.length ha
    simpa [secsN, secsAt] using this
  have hb := spanN_bd B.length
  have hT : spanN B.length = T := by omega
  have he : (secsN st B)[i]? = (secsAt D at_ T.toNat)[i]? := by rw [ha]
  rw [secsN_get st B i (by omega), hT] at he
  simp only [secsAt, List.getElem?_map, List.getElem?_range hi, Option.map_some, Option.some.injEq] at he
  have hp := pieceN_le B i
  have e2 : (secAt D (at_ + i)).getD 2 0 = (pieceN B i).length := by rw [← he]; rfl
  rw [e2, ← he, pieceOf_made _ _ _ _ hp]
  refine ⟨?_, rfl⟩
  rw [pieceN_len]
  simp only [fullB, Bool.or_eq_true, Bool.and_eq_true, decide_eq_true_eq]
  unfold spanN at hT
  split at hT
  · omega
  · omega
def SecOk (s : List Int) : Prop := s.length = 64 ∧ ∀ x ∈ s, 0 ≤ x ∧ x ≤ 255
theorem SecOk.at {s : List Int} (h : SecOk s) (i : Nat) : 0 ≤ s.getD i 0 ∧ s.getD i 0 ≤ 255 := by
  rw [List.getD_eq_getElem?_getD]
  cases hx : s[i]? with
  | none => simp
  | some x => exact h.2 x (List.mem_of_getElem? hx)
theorem zeros_ok : SecOk zeros := by
  refine ⟨by simp [zeros, repl], fun x hx => ?_⟩
  have : x = 0 := by simpa [zeros, repl] using hx
  omega
theorem dGet_ok {d : R08Disk} (h1 : ∀ y ∈ d.Base, SecOk y) (h2 : ∀ y ∈ d.Queue, SecOk y.Sector) (k : Int) : SecOk (dGet d k).1 := by
  unfold dGet
  split
  · rename_i ht
    cases hq : (qTo d.Queue k).getLast? with
    | none =>
      simp only [dThere, Bool.and_eq_true, decide_eq_true_eq] at ht
      simp only [Option.getD_none]
      exact h1 _ (getD_mem _ _ _ (by omega))
    | some s =>
      simp only [Option.getD_some]
      have hm := List.mem_of_getLast? hq
      simp only [qTo, List.mem_map, List.mem_filter] at hm
      obtain ⟨y, ⟨hy, _⟩, rfl⟩ := hm
      exact h2 y hy
  · exact zeros_ok
theorem cntOf_le (s : List Int) : cntOf s ≤ 53 := by unfold cntOf; omega
theorem pieceOf_le (s : List Int) : (pieceOf s).length ≤ 53 := by
  have := cntOf_le s
  simp only [pieceOf, List.length_take]; omega
theorem flatF_le (f : Nat → List Int) (h : ∀ i, (f i).length ≤ 53) : ∀ n, (flatF f n).length ≤ 53 * n
  | 0 => by simp [flatF]
  | n + 1 => by
    rw [flatF_s, List.length_append]
    have := flatF_le f h n
    have := h n
    omega
theorem eq_of_getD {α : Type} {l m : List α} (z : α) (h : l.length = m.length) (h2 : ∀ i, i < l.length → l.getD i z = m.getD i z) : l = m := by
  apply List.ext_getElem h
  intro i h1 h3
  have := h2 i h1
  simpa [List.getD_eq_getElem?_getD, h1, h3] using this
end Go.Proofs.Ytnmjcdlgfimnaaa
