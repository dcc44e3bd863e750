/- The document's disk, as plain functions. -/
import Derived.Test.YtnmjcdlgfimnaaaFz
namespace Go.Proofs.Ytnmjcdlgfimnaaa
theorem wide : Cx.P.follows .mixedOrders = true := by kernel_rfl
abbrev zeros : List Int := repl 64 0
def dSpend (d : R08Disk) : R08Disk × Bool :=
  let d1 : R08Disk := if d.Burns = 0 then { d with Dead := true } else d
  if d1.Dead = true then (d1, false) else (if 0 < d1.Burns then { d1 with Burns := d1.Burns - 1 } else d1, true)
def dThere (d : R08Disk) (at_ : Int) : Bool := decide (0 ≤ at_) && decide (at_ < d.Base.length)
def qTo (q : List R08Item) (k : Int) : List (List Int) := (q.filter fun x => x.To == k).map (·.Sector)
def dGet (d : R08Disk) (at_ : Int) : List Int × Int :=
  if dThere d at_ = true then ((qTo d.Queue at_).getLast?.getD (d.Base.getD at_.toNat []), 0) else (zeros, 81)
def dPut (d : R08Disk) (at_ : Int) (s : List Int) : R08Disk × Int :=
  if dThere d at_ = true then
    if (dSpend d).2 = true then ({ (dSpend d).1 with Queue := (dSpend d).1.Queue ++ [⟨s, at_⟩] }, 0) else ((dSpend d).1, 82)
  else (d, 81)
/-- The first so many cells of another list. -/
def mixTo (i : Nat) (a b : List Int) : List Int := b.take i ++ a.drop i
def landN (base : List (List Int)) (x : R08Item) (n : Nat) : List (List Int) := base.set x.To.toNat (mixTo n (base.getD x.To.toNat []) x.Sector)
def landL (base : List (List Int)) (x : R08Item) (many : Int) : List (List Int) := landN base x (min many.toNat 64)
def landAll (many : Nat → Int) : Nat → List R08Item → List (List Int) → List (List Int)
  | _, [], base => base
  | k, x :: r, base => landAll many (k + 1) r (landL base x (many k))
def dFlush (d : R08Disk) : R08Disk × Int :=
  if (dSpend d).2 = true then ({ (dSpend d).1 with Base := landAll (fun _ => 64) 0 d.Queue d.Base, Queue := [] }, 0) else ((dSpend d).1, 82)
def dFuse (d : R08Disk) (acts : Int) : R08Disk := { d with Burns := max acts (-1) }
def keepAt (keep : List Int) (k : Nat) : Int := keep.getD k 0
def dPower (d : R08Disk) (keep : List Int) : R08Disk := ⟨landAll (keepAt keep) 0 d.Queue d.Base, [], -1, false⟩
def dBlank (n : Int) : R08Disk := ⟨List.replicate (max 0 (min n 2048)).toNat zeros, [], -1, false⟩

theorem landN_len (base : List (List Int)) (x : R08Item) (n : Nat) : (landN base x n).length = base.length := by simp [landN]
theorem landL_len (base : List (List Int)) (x : R08Item) (n : Int) : (landL base x n).length = base.length := by simp [landL, landN_len]
theorem set_getD_self {α : Type} (l : List α) (i : Nat) (d : α) : l.set i (l.getD i d) = l := by
  apply List.ext_getElem?
  intro j
  rw [List.getElem?_set]
  split
  · rename_i h; subst h
    split
    · rename_i h; simp [h]
    · rename_i h; simp at h; simp [h]
  · rfl
theorem landN_zero (base : List (List Int)) (x : R08Item) : landN base x 0 = base := by
  simp only [landN, mixTo, List.take_zero, List.drop_zero, List.nil_append]
  exact set_getD_self _ _ _
theorem mixTo_len (i : Nat) (a b : List Int) (h : a.length = b.length) : (mixTo i a b).length = a.length := by
  simp only [mixTo, List.length_append, List.length_take, List.length_drop]; omega
theorem mixTo_succ (i : Nat) (a b : List Int) (h : a.length = b.length) (hi : i < a.length) : (mixTo i a b).set i (b.getD i 0) = mixTo (i + 1) a b := by
  apply List.ext_getElem?
  intro j
  simp only [mixTo, List.getElem?_set, List.getElem?_append, List.length_append, List.length_take, List.length_drop, List.getElem?_take, List.getElem?_drop, List.getD_eq_getElem?_getD]
  by_cases e : i = j
  · subst e
    rw [if_pos rfl, if_pos (by omega), if_pos (by omega), if_pos (by omega), List.getElem?_eq_getElem (by omega)]
    rfl
  · rw [if_neg e]
    by_cases h1 : j < i
    · rw [if_pos (by omega), if_pos (by omega), if_pos (by omega), if_pos (by omega)]
    · rw [if_neg (by omega), if_neg (by omega)]
      congr 1
      omega
theorem landN_succ (base : List (List Int)) (x : R08Item) (i : Nat) (hb : ∀ y ∈ base, y.length = 64) (hx : x.Sector.length = 64) (hi : i < 64) (h : x.To.toNat < base.length) :
    (landN base x i).set x.To.toNat (((landN base x i).getD x.To.toNat (repl 64 0)).set i (x.Sector.getD i 0)) = landN base x (i + 1) := by
  have h1 : (base.getD x.To.toNat []).length = x.Sector.length := by
    rw [List.getD_eq_getElem?_getD, List.getElem?_eq_getElem h, hx]
    exact hb _ (List.getElem_mem h)
  simp only [landN]
  rw [List.set_set]
  congr 1
  have h2 : (base.set x.To.toNat (mixTo i (base.getD x.To.toNat []) x.Sector)).getD x.To.toNat (repl 64 0) = mixTo i (base.getD x.To.toNat []) x.Sector := by
    rw [List.getD_eq_getElem?_getD, List.getElem?_set_self h]; rfl
  rw [h2, mixTo_succ _ _ _ h1 (by omega)]
/-- Of a queue, the sector that is there for one, else a given one. -/
def lastTo (q : List R08Item) (k : Int) (z : List Int) : List Int := (qTo q k).getLast?.getD z
theorem lastTo_nil (k : Int) (z : List Int) : lastTo [] k z = z := rfl
theorem lastTo_snoc (q : List R08Item) (x : R08Item) (k : Int) (z : List Int) : lastTo (q ++ [x]) k z = if x.To = k then x.Sector else lastTo q k z := by
  simp only [lastTo, qTo, List.filter_append, List.map_append]
  by_cases h : x.To = k
  · simp [h]
  · have : (x.To == k) = false := by simpa using h
    simp [h, this]
theorem landAll_snoc (many : Nat → Int) : ∀ (k : Nat) (q : List R08Item) (x : R08Item) (base : List (List Int)), landAll many k (q ++ [x]) base = landL (landAll many k q base) x (many (k + q.length))
  | _, [], _, _ => rfl
  | k, y :: r, x, base => by
    simp only [List.cons_append, landAll]
    rw [landAll_snoc many (k + 1) r x]
    congr 2
    simp only [List.length_cons]; omega
theorem landAll_len (many : Nat → Int) : ∀ (k : Nat) (q : List R08Item) (base : List (List Int)), (landAll many k q base).length = base.length
  | _, [], _ => rfl
  | k, y :: r, base => by rw [landAll, landAll_len many (k + 1) r, landL_len]
theorem landL_le (base : List (List Int)) (x : R08Item) (n : Int) (h : n ≤ 0) : landL base x n = base := by
  have : min n.toNat 64 = 0 := by omega
  rw [landL, this, landN_zero]
theorem take_succ_getD {α : Type} (l : List α) (i : Nat) (d : α) (h : i < l.length) : l.take (i + 1) = l.take i ++ [l.getD i d] := by
  rw [List.take_add_one, List.getElem?_eq_getElem h, List.getD_eq_getElem?_getD, List.getElem?_eq_getElem h]; rfl
theorem dSpend_base (d : R08Disk) : (dSpend d).1.Base = d.Base := by unfold dSpend; grind
theorem dSpend_queue (d : R08Disk) : (dSpend d).1.Queue = d.Queue := by unfold dSpend; grind
theorem getD_mem {α : Type} (l : List α) (i : Nat) (d : α) (h : i < l.length) : l.getD i d ∈ l := by
  rw [List.getD_eq_getElem?_getD, List.getElem?_eq_getElem h]
  exact List.getElem_mem h
end Go.Proofs.Ytnmjcdlgfimnaaa
