/- Chapter 10: a log behind a crash, as plain law. -/
import Derived.Test.YtnmjcdlgfimnaaaC10f
import Derived.Test.YtnmjcdlgfimnaaaC10h
namespace Go.Proofs.Ytnmjcdlgfimnaaa
theorem land_facts (many : Nat → Int) {base : List (List Int)} {m : Nat} (hm : base.length = m) (ok : ∀ s ∈ base, SecOk s) (p : Nat) (l : List (List Int)) (hl : ∀ s ∈ l, SecOk s) (hfit : p + l.length ≤ m) :
    (landAll many 0 (itemsAt p l) base).length = m ∧ (∀ s ∈ landAll many 0 (itemsAt p l) base, SecOk s) ∧
     (∀ i, i < l.length → (landAll many 0 (itemsAt p l) base).getD (p + i) [] = mixTo (min (many i).toNat 64) (base.getD (p + i) []) (l.getD i [])) ∧
     ∀ k, k < p ∨ p + l.length ≤ k → (landAll many 0 (itemsAt p l) base).getD k [] = base.getD k [] := by
 have hland := (land_items many l p 0 base (by omega) (fun s hs => (ok s hs).1) (fun s hs => (hl s hs).1)).1
 have hto : ∀ y ∈ itemsAt p l, (p : Int) ≤ y.To ∧ y.To < p + l.length := fun y hy => (itemsAt_mem _ _ _ hy).2
 have hout : ∀ k, k < p ∨ p + l.length ≤ k → (landAll many 0 (itemsAt p l) base).getD k [] = base.getD k [] := fun k hk =>
  landAll_out many (itemsAt p l) 0 base fun y hy => by
   have := hto y hy
   omega
 have hin : ∀ i, i < l.length → (landAll many 0 (itemsAt p l) base).getD (p + i) [] = mixTo (min (many i).toNat 64) (base.getD (p + i) []) (l.getD i []) := fun i hi => by
  have := hland i hi
  rwa [Nat.zero_add] at this
 refine ⟨by rw [landAll_len]; exact hm, ?_, hin, hout⟩
 intro s hs
 obtain ⟨k, hk, rfl⟩ := List.mem_iff_getElem.1 hs
 rw [landAll_len] at hk
 have e : (landAll many 0 (itemsAt p l) base).getD k [] = (landAll many 0 (itemsAt p l) base)[k]'(by rw [landAll_len]; exact hk) := by
  rw [List.getD_eq_getElem?_getD, List.getElem?_eq_getElem (by rw [landAll_len]; exact hk)]; rfl
 rw [← e]
 by_cases h : p ≤ k ∧ k < p + l.length
 ·obtain ⟨i, rfl⟩ : ∃ i, k = p + i := ⟨k - p, by omega⟩
  rw [hin i (by omega)]
  exact mix_ok (ok _ (getD_mem _ _ _ hk)) (hl _ (getD_mem _ _ _ (by omega))) _
 ·rw [hout k (by omega)]
  exact ok _ (getD_mem _ _ _ hk)
end Go.Proofs.Ytnmjcdlgfimnaaa
