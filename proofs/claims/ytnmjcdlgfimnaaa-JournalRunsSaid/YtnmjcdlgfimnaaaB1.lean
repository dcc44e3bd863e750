/- The document's disk, as plain functions. -/
import Derived.Test.YtnmjcdlgfimnaaaA5
namespace Go.Proofs.Ytnmjcdlgfimnaaa
theorem wide : Cx.P.follows .mixedOrders = true := by kernel_rfl
abbrev zeros : List Int := Qc1 64 0
def dSpend (d : Qab) : Qab × Bool :=
 let d1 : Qab := if d.Burns = 0 then { d with Dead := true } else d
 if d1.Dead = true then (d1, false) else (if 0 < d1.Burns then { d1 with Burns := d1.Burns - 1 } else d1, true)
def dThere (d : Qab) (at_ : Int) : Bool := decide (0 ≤ at_) && decide (at_ < d.Base.length)
def qTo (q : List Qad) (k : Int) : List (List Int) := (q.filter fun x => x.To == k).map (·.Sector)
def dGet (d : Qab) (at_ : Int) : List Int × Int :=
 if dThere d at_ = true then ((qTo d.Queue at_).getLast?.getD (d.Base.getD at_.toNat []), 0) else (zeros, 81)
def dPut (d : Qab) (at_ : Int) (s : List Int) : Qab × Int :=
 if dThere d at_ = true then
  if (dSpend d).2 = true then ({ (dSpend d).1 with Queue := (dSpend d).1.Queue ++ [⟨s, at_⟩] }, 0) else ((dSpend d).1, 82)
 else (d, 81)
def mixTo (i : Nat) (a b : List Int) : List Int := b.take i ++ a.drop i
def landN (base : List (List Int)) (x : Qad) (n : Nat) : List (List Int) := base.set x.To.toNat (mixTo n (base.getD x.To.toNat []) x.Sector)
def landL (base : List (List Int)) (x : Qad) (many : Int) : List (List Int) := landN base x (min many.toNat 64)
def landAll (many : Nat → Int) : Nat → List Qad → List (List Int) → List (List Int)
 | _, [], base => base
 | k, x :: r, base => landAll many (k + 1) r (landL base x (many k))
def dFlush (d : Qab) : Qab × Int :=
 if (dSpend d).2 = true then ({ (dSpend d).1 with Base := landAll (fun _ => 64) 0 d.Queue d.Base, Queue := [] }, 0) else ((dSpend d).1, 82)
def dFuse (d : Qab) (acts : Int) : Qab := { d with Burns := max acts (-1) }
def keepAt (keep : List Int) (k : Nat) : Int := keep.getD k 0
def dPower (d : Qab) (keep : List Int) : Qab := ⟨landAll (keepAt keep) 0 d.Queue d.Base, [], -1, false⟩
def dBlank (n : Int) : Qab := ⟨List.replicate (max 0 (min n 2048)).toNat zeros, [], -1, false⟩
theorem landN_len (base : List (List Int)) (x : Qad) (n : Nat) : (landN base x n).length = base.length := by simp [landN]
theorem landL_len (base : List (List Int)) (x : Qad) (n : Int) : (landL base x n).length = base.length := by simp [landL, landN_len]
theorem set_getD_self {α : Type} (l : List α) (i : Nat) (d : α) : l.set i (l.getD i d) = l := by
 apply List.ext_getElem?
 intro j
 rw [List.getElem?_set]
 split
 ·rename_i h; subst h
  split
  ·rename_i h; simp [h]
  ·rename_i h; simp at h; simp [h]
 ·rfl
theorem landN_zero (base : List (List Int)) (x : Qad) : landN base x 0 = base := by
 simp only [landN, mixTo, List.take_zero, List.drop_zero, List.nil_append]
 exact set_getD_self _ _ _
theorem mixTo_len (i : Nat) (a b : List Int) (h : a.length = b.length) : (mixTo i a b).length = a.length := by
 simp only [mixTo, List.length_append, List.length_take, List.length_drop]; omega
theorem mixTo_succ (i : Nat) (a b : List Int) (h : a.length = b.length) (hi : i < a.length) : (mixTo i a b).set i (b.getD i 0) = mixTo (i + 1) a b := by
 apply List.ext_getElem?
 intro j
 simp only [mixTo, List.getElem?_set, List.getElem?_append, List.length_append, List.length_take, List.length_drop, List.getElem?_take, List.getElem?_drop, List.getD_eq_getElem?_getD]
 by_cases e : i = j
 ·subst e
  rw [if_pos rfl, if_pos (by omega), if_pos (by omega), if_pos (by omega), List.getElem?_eq_getElem (by omega)]
  rfl
 ·rw [if_neg e]
  by_cases h1 : j < i
  ·rw [if_pos (by omega), if_pos (by omega), if_pos (by omega), if_pos (by omega)]
  ·rw [if_neg (by omega), if_neg (by omega)]
   congr 1
   omega
theorem landN_succ (base : List (List Int)) (x : Qad) (i : Nat) (hb : ∀ y ∈ base, y.length = 64) (hx : x.Sector.length = 64) (hi : i < 64) (h : x.To.toNat < base.length) :
    (landN base x i).set x.To.toNat (((landN base x i).getD x.To.toNat (Qc1 64 0)).set i (x.Sector.getD i 0)) = landN base x (i + 1) := by
 have h1 : (base.getD x.To.toNat []).length = x.Sector.length := by
  rw [List.getD_eq_getElem?_getD, List.getElem?_eq_getElem h, hx]
  exact hb _ (List.getElem_mem h)
 simp only [landN]
 rw [List.set_set]
 congr 1
 have h2 : (base.set x.To.toNat (mixTo i (base.getD x.To.toNat []) x.Sector)).getD x.To.toNat (Qc1 64 0) = mixTo i (base.getD x.To.toNat []) x.Sector := by
  rw [List.getD_eq_getElem?_getD, List.getElem?_set_self h]; rfl
 rw [h2, mixTo_succ _ _ _ h1 (by omega)]
def lastTo (q : List Qad) (k : Int) (z : List Int) : List Int := (qTo q k).getLast?.getD z
theorem lastTo_snoc (q : List Qad) (x : Qad) (k : Int) (z : List Int) : lastTo (q ++ [x]) k z = if x.To = k then x.Sector else lastTo q k z := by
 simp only [lastTo, qTo, List.filter_append, List.map_append]
 by_cases h : x.To = k
 ·simp [h]
 ·have : (x.To == k) = false := by simpa using h
  simp [h, this]
theorem landAll_snoc (many : Nat → Int) : ∀ (k : Nat) (q : List Qad) (x : Qad) (base : List (List Int)), landAll many k (q ++ [x]) base = landL (landAll many k q base) x (many (k + q.length))
 | _, [], _, _ => rfl
 | k, y :: r, x, base => by
  simp only [List.cons_append, landAll]
  rw [landAll_snoc many (k + 1) r x]
  congr 2
  simp only [List.length_cons]; omega
theorem landAll_len (many : Nat → Int) : ∀ (k : Nat) (q : List Qad) (base : List (List Int)), (landAll many k q base).length = base.length
 | _, [], _ => rfl
 | k, y :: r, base => by rw [landAll, landAll_len many (k + 1) r, landL_len]
theorem landL_le (base : List (List Int)) (x : Qad) (n : Int) (h : n ≤ 0) : landL base x n = base := by
 have : min n.toNat 64 = 0 := by omega
 rw [landL, this, landN_zero]
theorem take_succ_getD {α : Type} (l : List α) (i : Nat) (d : α) (h : i < l.length) : l.take (i + 1) = l.take i ++ [l.getD i d] := by
 rw [List.take_add_one, List.getElem?_eq_getElem h, List.getD_eq_getElem?_getD, List.getElem?_eq_getElem h]; rfl
theorem dSpend_base (d : Qab) : (dSpend d).1.Base = d.Base := by unfold dSpend; grind
theorem dSpend_queue (d : Qab) : (dSpend d).1.Queue = d.Queue := by unfold dSpend; grind
theorem getD_mem {α : Type} (l : List α) (i : Nat) (d : α) (h : i < l.length) : l.getD i d ∈ l := by
 rw [List.getD_eq_getElem?_getD, List.getElem?_eq_getElem h]
 exact List.getElem_mem h
end Go.Proofs.Ytnmjcdlgfimnaaa
namespace Go.Proofs.Ytnmjcdlgfimnaaa
set_option linter.unusedSimpArgs false
set_option linter.unusedVariables false
set_option maxRecDepth 20000
attribute [local irreducible] Qb3 Qa9 vcA Qbp Wc
set_option maxHeartbeats 8000000
theorem r08spend_fn (d : Qab) : Qck Cx.P 89 [.dat Qa2 d] [.dat Qa2 (dSpend d).1, .bool (dSpend d).2] := by
 refine Qck.go2 (E := Cx.env) (fn := Try.f89) (res := [_, _]) Try.func89 Qty rfl rfl rfl (by kernel_rfl) rfl ?_
 push_cast
 try intro hf
 repeat' (first
 | (intro (K' : KT) hK'; push_cast; (repeat' refine And.intro ?_ ?_); all_goals (first | (apply hK'; clear hK' K') | (refine ⟨trivial, trivial, ?_⟩; apply hK'; clear hK' K') | (intro hb; (try push_cast at hb); all_goals (intros; apply hK'; clear hK' K')) | (clear hK' K'; first | omega | skip)))
 | apply Qar | apply Qac | apply Qah | apply Qaj | apply Qau
 | apply Qap | apply Qax | apply Qas | apply Qam | apply Qaz | apply Qay
 | (refine Qaf ?_; push_cast) | apply Qag | refine Qaa (Qa3 _ (by omega) (by omega)) ?_ | refine Qaa (Qb0 _ (by omega) (by omega)) ?_ | refine Qaa (Qba _ (by omega) (by omega)) ?_ | refine Qaa (Qa5 _ (by omega) (by omega)) ?_
 | refine Qai rfl rfl ?_ | refine Qat rfl rfl ?_
 | (refine Qak (by push_cast; first | done | rfl) ?_ ?_ <;> intro hc <;> (try push_cast at hc))
 | refine Qaw rfl rfl rfl (by push_cast; first | done | rfl) ?_
 | refine Qav rfl rfl rfl (by push_cast; first | done | rfl) ?_ ?_
 | (intro (hc : (_ : Prop)); (try push_cast at hc)) | intro (hc : Qad) | intro (hc : Int) | intro (hc : Nat))
 all_goals grind [dSpend]
theorem r08spend_con : Con Cx.P 89 (.pair Qa2 (.unit)) (fun x => (fun (d : Qab) => True) x.1) (fun x => (fun (d : Qab) => [.dat Qa2 (dSpend d).1, .bool (dSpend d).2]) x.1) := ⟨Qty, fun x h => r08spend_fn x.1⟩
theorem r08Fuse_fn (d : Qab) (k : Int) : Qck Cx.P 44 [.dat Qa2 d, .int .i64 k] [.dat Qa2 (dFuse d k)] := by
 refine Qck.go2 (E := Cx.env) (fn := Try.f44) (res := [_]) Try.func44 Qul rfl rfl rfl (by kernel_rfl) rfl ?_
 push_cast
 try intro hf
 repeat' (first
 | (intro (K' : KT) hK'; push_cast; (repeat' refine And.intro ?_ ?_); all_goals (first | (apply hK'; clear hK' K') | (refine ⟨trivial, trivial, ?_⟩; apply hK'; clear hK' K') | (intro hb; (try push_cast at hb); all_goals (intros; apply hK'; clear hK' K')) | (clear hK' K'; first | omega | skip)))
 | apply Qar | apply Qac | apply Qah | apply Qaj | apply Qau
 | apply Qap | apply Qax | apply Qas | apply Qam | apply Qaz | apply Qay
 | (refine Qaf ?_; push_cast) | apply Qag | refine Qaa (Qa3 _ (by omega) (by omega)) ?_ | refine Qaa (Qb0 _ (by omega) (by omega)) ?_ | refine Qaa (Qba _ (by omega) (by omega)) ?_ | refine Qaa (Qa5 _ (by omega) (by omega)) ?_
 | refine Qai rfl rfl ?_ | refine Qat rfl rfl ?_
 | (refine Qak (by push_cast; first | done | rfl) ?_ ?_ <;> intro hc <;> (try push_cast at hc))
 | refine Qaw rfl rfl rfl (by push_cast; first | done | rfl) ?_
 | refine Qav rfl rfl rfl (by push_cast; first | done | rfl) ?_ ?_
 | (intro (hc : (_ : Prop)); (try push_cast at hc)) | intro (hc : Qad) | intro (hc : Int) | intro (hc : Nat))
 all_goals rfl
theorem r08Fuse_con : Con Cx.P 44 (.pair Qa2 (.pair (.int .i64) (.unit))) (fun x => (fun (d : Qab) (k : Int) => True) x.1 x.2.1) (fun x => (fun (d : Qab) (k : Int) => [.dat Qa2 (dFuse d k)]) x.1 x.2.1) := ⟨Qul, fun x h => r08Fuse_fn x.1 x.2.1⟩
theorem r08Blank_fn (n : Int) : Qck Cx.P 34 [.int .i64 n] [.dat Qa2 (dBlank n)] := by
 refine Qck.go2 (E := Cx.env) (fn := Try.f34) (res := [_]) Try.func34 Qt8 rfl rfl rfl (by kernel_rfl) rfl ?_
 push_cast
 try intro hf
 repeat' (first
 | (intro (K' : KT) hK'; push_cast; (repeat' refine And.intro ?_ ?_); all_goals (first | (apply hK'; clear hK' K') | (refine ⟨trivial, trivial, ?_⟩; apply hK'; clear hK' K') | (intro hb; (try push_cast at hb); all_goals (intros; apply hK'; clear hK' K')) | (clear hK' K'; first | omega | skip)))
 | apply Qar | apply Qac | apply Qah | apply Qaj | apply Qau
 | apply Qap | apply Qax | apply Qas | apply Qam | apply Qaz | apply Qay
 | (refine Qaf ?_; push_cast) | apply Qag | refine Qaa (Qa3 _ (by omega) (by omega)) ?_ | refine Qaa (Qb0 _ (by omega) (by omega)) ?_ | refine Qaa (Qba _ (by omega) (by omega)) ?_ | refine Qaa (Qa5 _ (by omega) (by omega)) ?_
 | refine Qai rfl rfl ?_ | refine Qat rfl rfl ?_
 | (refine Qak (by push_cast; first | done | rfl) ?_ ?_ <;> intro hc <;> (try push_cast at hc))
 | refine Qaw rfl rfl rfl (by push_cast; first | done | rfl) ?_
 | refine Qav rfl rfl rfl (by push_cast; first | done | rfl) ?_ ?_
 | (intro (hc : (_ : Prop)); (try push_cast at hc)) | intro (hc : Qad) | intro (hc : Int) | intro (hc : Nat))
 all_goals rfl
theorem r08Blank_con : Con Cx.P 34 (.pair (.int .i64) (.unit)) (fun x => (fun (n : Int) => True) x.1) (fun x => (fun (n : Int) => [.dat Qa2 (dBlank n)]) x.1) := ⟨Qt8, fun x h => r08Blank_fn x.1⟩
theorem r08land_fn (base : List (List Int)) (x : Qad) (many : Int) (hpre : 0 ≤ x.To ∧ x.To < base.length ∧ base.length ≤ 4096) : Qck Cx.P 90 [.dat (.slice (.arr 64 (.int .u8))) base, .dat Qb4 x, .int .i64 many] [.dat (.slice (.arr 64 (.int .u8))) (landL base x many)] := by
 refine Qck.go2 (E := Cx.env) (fn := Try.f90) (res := [_]) Try.func90 Qtd rfl rfl rfl (by kernel_rfl) rfl ?_
 push_cast
 try intro hf
 repeat' (first
 | (intro (K' : KT) hK'; push_cast; (repeat' refine And.intro ?_ ?_); all_goals (first | (apply hK'; clear hK' K') | (refine ⟨trivial, trivial, ?_⟩; apply hK'; clear hK' K') | (intro hb; (try push_cast at hb); all_goals (intros; apply hK'; clear hK' K')) | (clear hK' K'; first | omega | skip)))
 | apply Qar | apply Qa0 | apply Qac | apply Qah | apply Qaj | apply Qau
 | apply Qap | apply Qax | apply Qas | apply Qaq | apply Qa1 | apply Qal | apply Qae rfl | apply Qa6 | apply Qa7 | apply Qam | apply Qaz | apply Qay
 | (refine Qaf ?_; push_cast) | apply Qag | refine Qaa (Qa3 _ (by omega) (by omega)) ?_ | refine Qaa (Qb0 _ (by omega) (by omega)) ?_ | refine Qaa (Qba _ (by omega) (by omega)) ?_ | refine Qaa (Qa5 _ (by omega) (by omega)) ?_
 | refine Qai rfl rfl ?_ | refine Qat rfl rfl ?_
 | (refine Qak (by push_cast; first | done | rfl) ?_ ?_ <;> intro hc <;> (try push_cast at hc))
 | refine Qaw rfl rfl rfl (by push_cast; first | done | rfl) ?_
 | refine Qav rfl rfl rfl (by push_cast; first | done | rfl) ?_ ?_
 | refine Qbf (id := 6) [0, 1, 2, 3, 4, 5, 6, 7, 8, 9] [10] [4, 11] (.or 10 (.done) (.stop)) wide (by kernel_rfl) ?_
 | apply Qby | apply Qbk | apply Qbn
 | refine Qbx rfl rfl rfl ?_ | refine Qbl rfl rfl rfl ?_
 | (refine Qbm rfl rfl rfl rfl ?_ ?_; rotate_left) | (refine Qbe rfl rfl rfl rfl ?_ ?_; rotate_left)
 | (refine Qbz rfl rfl rfl rfl ?_ ?_; rotate_left; focus (intro K' hK'; push_cast; (repeat' refine And.intro ?_ ?_); all_goals (first | (refine hK' _ _ _ _ _ (by push_cast) (by push_cast; first | done | rfl) ?_; clear hK' K') | (clear hK' K'; first | omega | skip))))
 | refine Qcc rfl rfl rfl rfl (by push_cast; first | done | rfl) ?_
 | refine Qcd rfl rfl rfl rfl (by push_cast; first | done | rfl) ?_ ?_
 | (intro (hc : (_ : Prop)); (try push_cast at hc)) | intro (hc : Qad) | intro (hc : Int) | intro (hc : Nat))
 refine Qbu [8, 12, 13, 14, 15, 16, 17, 18, 19, 20, 21, 22, 23, 24, 25, 26, 27, 28] [11] (fun (i : Nat) => i ≤ 64) (fun (i : Nat) => [(12, .one (.l (.int .i64 i)))]) (fun (i : Nat) => [(11, .arr (.arr 64 (.int .u8)) (landN base x (min many.toNat i)))]) (fun (i : Nat) => 64 - i) 0 ?_ (by push_cast; first | done | rfl) (by push_cast; first | done | rfl) ?_ ?_
 ·omega
 ·push_cast
  simp [landN_zero]
 ·intro i hi
  push_cast
  intro hg
  have hl := landN_len base x (min many.toNat i)
  repeat' (first
 | (intro (K' : KT) hK'; push_cast; (repeat' refine And.intro ?_ ?_); all_goals (first | (apply hK'; clear hK' K') | (refine ⟨trivial, trivial, ?_⟩; apply hK'; clear hK' K') | (intro hb; (try push_cast at hb); all_goals (intros; apply hK'; clear hK' K')) | (clear hK' K'; first | omega | skip)))
 | apply Qar | apply Qa0 | apply Qac | apply Qah | apply Qaj | apply Qau
 | apply Qap | apply Qax | apply Qas | apply Qaq | apply Qa1 | apply Qal | apply Qae rfl | apply Qa6 | apply Qa7 | apply Qam | apply Qaz | apply Qay
 | (refine Qaf ?_; push_cast) | apply Qag | refine Qaa (Qa3 _ (by omega) (by omega)) ?_ | refine Qaa (Qb0 _ (by omega) (by omega)) ?_ | refine Qaa (Qba _ (by omega) (by omega)) ?_ | refine Qaa (Qa5 _ (by omega) (by omega)) ?_
 | refine Qai rfl rfl ?_ | refine Qat rfl rfl ?_
 | (refine Qak (by push_cast; first | done | rfl) ?_ ?_ <;> intro hc <;> (try push_cast at hc))
 | refine Qaw rfl rfl rfl (by push_cast; first | done | rfl) ?_
 | refine Qav rfl rfl rfl (by push_cast; first | done | rfl) ?_ ?_
 | refine Qbf (id := 6) [0, 1, 2, 3, 4, 5, 6, 7, 8, 9] [10] [4, 11] (.or 10 (.done) (.stop)) wide (by kernel_rfl) ?_
 | apply Qby | apply Qbk | apply Qbn
 | refine Qbx rfl rfl rfl ?_ | refine Qbl rfl rfl rfl ?_
 | (refine Qbm rfl rfl rfl rfl ?_ ?_; rotate_left) | (refine Qbe rfl rfl rfl rfl ?_ ?_; rotate_left)
 | (refine Qbz rfl rfl rfl rfl ?_ ?_; rotate_left; focus (intro K' hK'; push_cast; (repeat' refine And.intro ?_ ?_); all_goals (first | (refine hK' _ _ _ _ _ (by push_cast) (by push_cast; first | done | rfl) ?_; clear hK' K') | (clear hK' K'; first | omega | skip))))
 | refine Qcc rfl rfl rfl rfl (by push_cast; first | done | rfl) ?_
 | refine Qcd rfl rfl rfl rfl (by push_cast; first | done | rfl) ?_ ?_
 | (intro (hc : (_ : Prop)); (try push_cast at hc)) | intro (hc : Qad) | intro (hc : Int) | intro (hc : Nat))
  ·refine Qbv (i + 1) (by omega) (by omega) ?_
   push_cast
   have e1 : min many.toNat i = i := by omega
   have e2 : min many.toNat (i + 1) = i + 1 := by omega
   rw [e1, e2]
   exact landN_succ base x i (fun y hy => (hf.1.2 y hy).1) hf.2.1.1.1 (by omega) (by omega)
  ·refine Qbv (i + 1) (by omega) (by omega) ?_
   push_cast
   have : min many.toNat (i + 1) = min many.toNat i := by omega
   rw [this]
  ·have : i = 64 := by omega
   subst this
   rfl
theorem r08land_con : Con Cx.P 90 (.pair (.slice (.arr 64 (.int .u8))) (.pair Qb4 (.pair (.int .i64) (.unit)))) (fun x => (fun (base : List (List Int)) (x : Qad) (many : Int) => 0 ≤ x.To ∧ x.To < base.length ∧ base.length ≤ 4096) x.1 x.2.1 x.2.2.1) (fun x => (fun (base : List (List Int)) (x : Qad) (many : Int) => [.dat (.slice (.arr 64 (.int .u8))) (landL base x many)]) x.1 x.2.1 x.2.2.1) := ⟨Qtd, fun x h => r08land_fn x.1 x.2.1 x.2.2.1 h⟩
theorem r08Get_fn (d : Qab) (k : Int) : Qck Cx.P 36 [.dat Qa2 d, .int .i64 k] [.dat (.arr 64 (.int .u8)) (dGet d k).1, .int .i64 (dGet d k).2] := by
 refine Qck.go2 (E := Cx.env) (fn := Try.f36) (res := [_, _]) Try.func36 Quv rfl rfl rfl (by kernel_rfl) rfl ?_
 push_cast
 try intro hf
 repeat' (first
 | (intro (K' : KT) hK'; push_cast; (repeat' refine And.intro ?_ ?_); all_goals (first | (apply hK'; clear hK' K') | (refine ⟨trivial, trivial, ?_⟩; apply hK'; clear hK' K') | (intro hb; (try push_cast at hb); all_goals (intros; apply hK'; clear hK' K')) | (clear hK' K'; first | omega | skip)))
 | apply Qar | apply Qa0 | apply Qac | apply Qah | apply Qaj | apply Qau
 | apply Qap | apply Qax | apply Qas | apply Qaq | apply Qa1 | apply Qal | apply Qae rfl | apply Qa6 | apply Qa7 | apply Qam | apply Qaz | apply Qay
 | (refine Qaf ?_; push_cast) | apply Qag | refine Qaa (Qa3 _ (by omega) (by omega)) ?_ | refine Qaa (Qb0 _ (by omega) (by omega)) ?_ | refine Qaa (Qba _ (by omega) (by omega)) ?_ | refine Qaa (Qa5 _ (by omega) (by omega)) ?_
 | refine Qai rfl rfl ?_ | refine Qat rfl rfl ?_
 | (refine Qak (by push_cast; first | done | rfl) ?_ ?_ <;> intro hc <;> (try push_cast at hc))
 | refine Qaw rfl rfl rfl (by push_cast; first | done | rfl) ?_
 | refine Qav rfl rfl rfl (by push_cast; first | done | rfl) ?_ ?_
 | (intro (hc : (_ : Prop)); (try push_cast at hc)) | intro (hc : Qad) | intro (hc : Int) | intro (hc : Nat))
 ·have : ¬ k < d.Base.length := by omega
  simp [dGet, dThere, this]
 ·have hk : 0 ≤ k ∧ k < d.Base.length := by omega
  have e0 : d.Base.getD k.toNat (Qc1 64 0) = d.Base.getD k.toNat [] := by
   rw [List.getD_eq_getElem?_getD, List.getD_eq_getElem?_getD, List.getElem?_eq_getElem (by omega)]; rfl
  refine Qbu [8, 27, 28, 29, 30, 31, 32, 33, 34, 35, 36, 37] [6, 8] (fun (i : Nat) => i ≤ d.Queue.length) (fun (i : Nat) => [(27, .one (.l (.int .i64 i)))]) (fun (i : Nat) => [(6, .segs [.dat (.arr 64 (.int .u8)) (lastTo (d.Queue.take i) k (d.Base.getD k.toNat []))])]) (fun (i : Nat) => d.Queue.length - i) 0 ?_ (by push_cast; first | done | rfl) (by push_cast; first | done | rfl) ?_ ?_
  ·omega
  ·push_cast
   rw [e0]; rfl
  ·intro i hi
   push_cast
   intro hg
   repeat' (first
 | (intro (K' : KT) hK'; push_cast; (repeat' refine And.intro ?_ ?_); all_goals (first | (apply hK'; clear hK' K') | (refine ⟨trivial, trivial, ?_⟩; apply hK'; clear hK' K') | (intro hb; (try push_cast at hb); all_goals (intros; apply hK'; clear hK' K')) | (clear hK' K'; first | omega | skip)))
 | apply Qar | apply Qa0 | apply Qac | apply Qah | apply Qaj | apply Qau
 | apply Qap | apply Qax | apply Qas | apply Qaq | apply Qa1 | apply Qal | apply Qae rfl | apply Qa6 | apply Qa7 | apply Qam | apply Qaz | apply Qay
 | (refine Qaf ?_; push_cast) | apply Qag | refine Qaa (Qa3 _ (by omega) (by omega)) ?_ | refine Qaa (Qb0 _ (by omega) (by omega)) ?_ | refine Qaa (Qba _ (by omega) (by omega)) ?_ | refine Qaa (Qa5 _ (by omega) (by omega)) ?_
 | refine Qai rfl rfl ?_ | refine Qat rfl rfl ?_
 | (refine Qak (by push_cast; first | done | rfl) ?_ ?_ <;> intro hc <;> (try push_cast at hc))
 | refine Qaw rfl rfl rfl (by push_cast; first | done | rfl) ?_
 | refine Qav rfl rfl rfl (by push_cast; first | done | rfl) ?_ ?_
 | (intro (hc : (_ : Prop)); (try push_cast at hc)) | intro (hc : Qad) | intro (hc : Int) | intro (hc : Nat))
   ·refine Qbv (i + 1) (by omega) (by omega) ?_
    push_cast
    rw [take_succ_getD _ _ ⟨Qc1 64 0, 0⟩ (by omega), lastTo_snoc]
    simp only [*, if_true, if_false]
   ·refine Qbv (i + 1) (by omega) (by omega) ?_
    push_cast
    rw [take_succ_getD _ _ ⟨Qc1 64 0, 0⟩ (by omega), lastTo_snoc]
    simp only [*, if_true, if_false]
   ·have : i = d.Queue.length := by omega
    subst this
    simp [dGet, dThere, hk, lastTo]
 ·have : ¬ 0 ≤ k := by omega
  simp [dGet, dThere, this]
theorem r08Get_con : Con Cx.P 36 (.pair Qa2 (.pair (.int .i64) (.unit))) (fun x => (fun (d : Qab) (k : Int) => True) x.1 x.2.1) (fun x => (fun (d : Qab) (k : Int) => [.dat (.arr 64 (.int .u8)) (dGet d k).1, .int .i64 (dGet d k).2]) x.1 x.2.1) := ⟨Quv, fun x h => r08Get_fn x.1 x.2.1⟩
theorem r08Put_fn (d : Qab) (k : Int) (s : List Int) (hpre : d.Queue.length ≤ 1000000) : Qck Cx.P 85 [.dat Qa2 d, .int .i64 k, .dat (.arr 64 (.int .u8)) s] [.dat Qa2 (dPut d k s).1, .int .i64 (dPut d k s).2] := by
 refine Qck.go2 (E := Cx.env) (fn := Try.f85) (res := [_, _]) Try.func85 Qt3 rfl rfl rfl (by kernel_rfl) rfl ?_
 push_cast
 try intro hf
 repeat' (first
 | (intro (K' : KT) hK'; push_cast; (repeat' refine And.intro ?_ ?_); all_goals (first | (apply hK'; clear hK' K') | (refine ⟨trivial, trivial, ?_⟩; apply hK'; clear hK' K') | (intro hb; (try push_cast at hb); all_goals (intros; apply hK'; clear hK' K')) | ((first | refine Qbg r08spend_con (fun _ => rfl) ?_); push_cast; (repeat' refine And.intro ?_ ?_); all_goals (first | (apply hK'; clear hK' K') | (intros; apply hK'; clear hK' K') | (clear hK' K'; first | omega | skip))) | (clear hK' K'; first | omega | skip)))
 | apply Qar | apply Qac | apply Qah | apply Qaj | apply Qau
 | apply Qap | apply Qax | apply Qas | apply Qam | apply Qaz | apply Qay
 | (refine Qaf ?_; push_cast) | apply Qag | refine Qaa (Qa3 _ (by omega) (by omega)) ?_ | refine Qaa (Qb0 _ (by omega) (by omega)) ?_ | refine Qaa (Qba _ (by omega) (by omega)) ?_ | refine Qaa (Qa5 _ (by omega) (by omega)) ?_
 | refine Qai rfl rfl ?_ | refine Qat rfl rfl ?_
 | (refine Qak (by push_cast; first | done | rfl) ?_ ?_ <;> intro hc <;> (try push_cast at hc))
 | refine Qaw rfl rfl rfl (by push_cast; first | done | rfl) ?_
 | refine Qav rfl rfl rfl (by push_cast; first | done | rfl) ?_ ?_
 | refine Qbf (id := 6) [1, 2, 4, 5, 6] [8, 10] [3, 5] (.or 0 (.or 3 (.or 7 (.or 8 (.free 9 (.or 10 (.done) (.stop))) (.stop)) (.stop)) (.or 7 (.or 3 (.or 8 (.free 9 (.or 10 (.done) (.stop))) (.stop)) (.stop)) (.stop))) (.or 7 (.or 0 (.or 3 (.or 8 (.free 9 (.or 10 (.done) (.stop))) (.stop)) (.stop)) (.stop)) (.stop))) wide (by kernel_rfl) ?_
 | apply Qby | apply Qbk | apply Qbn
 | refine Qbx rfl rfl rfl ?_ | refine Qbl rfl rfl rfl ?_
 | (refine Qbm rfl rfl rfl rfl ?_ ?_; rotate_left) | (refine Qbe rfl rfl rfl rfl ?_ ?_; rotate_left)
 | (refine Qbz rfl rfl rfl rfl ?_ ?_; rotate_left; focus (intro K' hK'; push_cast; (repeat' refine And.intro ?_ ?_); all_goals (first | (refine hK' _ _ _ _ _ (by push_cast) (by push_cast; first | done | rfl) ?_; clear hK' K') | ((first | refine Qbg r08spend_con (fun _ => rfl) ?_); push_cast; (repeat' refine And.intro ?_ ?_); all_goals (first | (refine hK' _ _ _ _ _ (by push_cast) (by push_cast; first | done | rfl) ?_; clear hK' K') | (intros; refine hK' _ _ _ _ _ (by push_cast) (by push_cast; first | done | rfl) ?_; clear hK' K') | (clear hK' K'; first | omega | skip))) | (clear hK' K'; first | omega | skip))))
 | refine Qcc rfl rfl rfl rfl (by push_cast; first | done | rfl) ?_
 | refine Qcd rfl rfl rfl rfl (by push_cast; first | done | rfl) ?_ ?_
 | (intro (hc : (_ : Prop)); (try push_cast at hc)) | intro (hc : Qad) | intro (hc : Int) | intro (hc : Nat))
 all_goals grind [dPut, dThere, dSpend_queue]
theorem r08Put_con : Con Cx.P 85 (.pair Qa2 (.pair (.int .i64) (.pair (.arr 64 (.int .u8)) (.unit)))) (fun x => (fun (d : Qab) (k : Int) (s : List Int) => d.Queue.length ≤ 1000000) x.1 x.2.1 x.2.2.1) (fun x => (fun (d : Qab) (k : Int) (s : List Int) => [.dat Qa2 (dPut d k s).1, .int .i64 (dPut d k s).2]) x.1 x.2.1 x.2.2.1) := ⟨Qt3, fun x h => r08Put_fn x.1 x.2.1 x.2.2.1 h⟩
theorem r08Flush_fn (d : Qab) (hpre : d.Base.length ≤ 4096 ∧ (∀ x ∈ d.Queue, 0 ≤ x.To ∧ x.To < d.Base.length)) : Qck Cx.P 43 [.dat Qa2 d] [.dat Qa2 (dFlush d).1, .int .i64 (dFlush d).2] := by
 refine Qck.go2 (E := Cx.env) (fn := Try.f43) (res := [_, _]) Try.func43 Qt9 rfl rfl rfl (by kernel_rfl) rfl ?_
 push_cast
 try intro hf
 repeat' (first
 | (intro (K' : KT) hK'; push_cast; (repeat' refine And.intro ?_ ?_); all_goals (first | (apply hK'; clear hK' K') | (refine ⟨trivial, trivial, ?_⟩; apply hK'; clear hK' K') | (intro hb; (try push_cast at hb); all_goals (intros; apply hK'; clear hK' K')) | ((first | refine Qbg r08spend_con (fun _ => rfl) ?_); push_cast; (repeat' refine And.intro ?_ ?_); all_goals (first | (apply hK'; clear hK' K') | (intros; apply hK'; clear hK' K') | (clear hK' K'; first | omega | skip))) | (clear hK' K'; first | omega | skip)))
 | apply Qar | apply Qa0 | apply Qac | apply Qah | apply Qaj | apply Qau
 | apply Qap | apply Qax | apply Qas | apply Qaq | apply Qa1 | apply Qal | apply Qae rfl | apply Qa6 | apply Qa7 | apply Qam | apply Qaz | apply Qay
 | (refine Qaf ?_; push_cast) | apply Qag | refine Qaa (Qa3 _ (by omega) (by omega)) ?_ | refine Qaa (Qb0 _ (by omega) (by omega)) ?_ | refine Qaa (Qba _ (by omega) (by omega)) ?_ | refine Qaa (Qa5 _ (by omega) (by omega)) ?_
 | refine Qai rfl rfl ?_ | refine Qat rfl rfl ?_
 | (refine Qak (by push_cast; first | done | rfl) ?_ ?_ <;> intro hc <;> (try push_cast at hc))
 | refine Qaw rfl rfl rfl (by push_cast; first | done | rfl) ?_
 | refine Qav rfl rfl rfl (by push_cast; first | done | rfl) ?_ ?_
 | (intro (hc : (_ : Prop)); (try push_cast at hc)) | intro (hc : Qad) | intro (hc : Int) | intro (hc : Nat))
 ·simp_all [dFlush]
 ·have hsp : (!(dSpend d).snd) = false := by assumption
  refine Qbu [7, 19, 20, 21, 22, 23, 24, 25, 26, 27, 28] [4, 7, 26] (fun (i : Nat) => i ≤ d.Queue.length) (fun (i : Nat) => [(19, .one (.l (.int .i64 i)))]) (fun (i : Nat) => [(4, .segs [.dat Qa2 ⟨landAll (fun _ => 64) 0 (d.Queue.take i) d.Base, (dSpend d).1.Queue, (dSpend d).1.Burns, (dSpend d).1.Dead⟩])]) (fun (i : Nat) => d.Queue.length - i) 0 ?_ (by push_cast; first | done | rfl) (by push_cast; first | done | rfl) ?_ ?_
  ·omega
  ·push_cast
   simp only [List.take_zero, landAll, ← dSpend_base d]
  ·intro i hi
   push_cast
   intro hg
   have hl := landAll_len (fun _ => 64) 0 (d.Queue.take i) d.Base
   by_cases hlt : i < d.Queue.length
   ·have hx := hpre.2 _ (getD_mem d.Queue i ⟨Qc1 64 0, 0⟩ hlt)
    repeat' (first
 | (intro (K' : KT) hK'; push_cast; (repeat' refine And.intro ?_ ?_); all_goals (first | (apply hK'; clear hK' K') | (refine ⟨trivial, trivial, ?_⟩; apply hK'; clear hK' K') | (intro hb; (try push_cast at hb); all_goals (intros; apply hK'; clear hK' K')) | ((first | refine Qbg r08land_con (fun _ => rfl) ?_); push_cast; (repeat' refine And.intro ?_ ?_); all_goals (first | (apply hK'; clear hK' K') | (intros; apply hK'; clear hK' K') | (clear hK' K'; first | omega | skip))) | (clear hK' K'; first | omega | skip)))
 | apply Qar | apply Qa0 | apply Qac | apply Qah | apply Qaj | apply Qau
 | apply Qap | apply Qax | apply Qas | apply Qaq | apply Qa1 | apply Qal | apply Qae rfl | apply Qa6 | apply Qa7 | apply Qam | apply Qaz | apply Qay
 | (refine Qaf ?_; push_cast) | apply Qag | refine Qaa (Qa3 _ (by omega) (by omega)) ?_ | refine Qaa (Qb0 _ (by omega) (by omega)) ?_ | refine Qaa (Qba _ (by omega) (by omega)) ?_ | refine Qaa (Qa5 _ (by omega) (by omega)) ?_
 | refine Qai rfl rfl ?_ | refine Qat rfl rfl ?_
 | (refine Qak (by push_cast; first | done | rfl) ?_ ?_ <;> intro hc <;> (try push_cast at hc))
 | refine Qaw rfl rfl rfl (by push_cast; first | done | rfl) ?_
 | refine Qav rfl rfl rfl (by push_cast; first | done | rfl) ?_ ?_
 | (intro (hc : (_ : Prop)); (try push_cast at hc)) | intro (hc : Qad) | intro (hc : Int) | intro (hc : Nat))
    ·refine Qbv (i + 1) (by omega) (by omega) ?_
     push_cast
     rw [take_succ_getD _ _ ⟨Qc1 64 0, 0⟩ (by omega), landAll_snoc]
    ·omega
   ·repeat' (first
 | (intro (K' : KT) hK'; push_cast; (repeat' refine And.intro ?_ ?_); all_goals (first | (apply hK'; clear hK' K') | (refine ⟨trivial, trivial, ?_⟩; apply hK'; clear hK' K') | (intro hb; (try push_cast at hb); all_goals (intros; apply hK'; clear hK' K')) | ((first | refine Qbg r08land_con (fun _ => rfl) ?_); push_cast; (repeat' refine And.intro ?_ ?_); all_goals (first | (apply hK'; clear hK' K') | (intros; apply hK'; clear hK' K') | (clear hK' K'; first | omega | skip))) | (clear hK' K'; first | omega | skip)))
 | apply Qar | apply Qa0 | apply Qac | apply Qah | apply Qaj | apply Qau
 | apply Qap | apply Qax | apply Qas | apply Qaq | apply Qa1 | apply Qal | apply Qae rfl | apply Qa6 | apply Qa7 | apply Qam | apply Qaz | apply Qay
 | (refine Qaf ?_; push_cast) | apply Qag | refine Qaa (Qa3 _ (by omega) (by omega)) ?_ | refine Qaa (Qb0 _ (by omega) (by omega)) ?_ | refine Qaa (Qba _ (by omega) (by omega)) ?_ | refine Qaa (Qa5 _ (by omega) (by omega)) ?_
 | refine Qai rfl rfl ?_ | refine Qat rfl rfl ?_
 | (refine Qak (by push_cast; first | done | rfl) ?_ ?_ <;> intro hc <;> (try push_cast at hc))
 | refine Qaw rfl rfl rfl (by push_cast; first | done | rfl) ?_
 | refine Qav rfl rfl rfl (by push_cast; first | done | rfl) ?_ ?_
 | (intro (hc : (_ : Prop)); (try push_cast at hc)) | intro (hc : Qad) | intro (hc : Int) | intro (hc : Nat))
    ·omega
    ·have : i = d.Queue.length := by omega
     subst this
     have : (dSpend d).2 = true := by simpa using hsp
     simp only [dFlush, this, if_true, List.take_length]
     simp [dSpend_base]
theorem r08Flush_con : Con Cx.P 43 (.pair Qa2 (.unit)) (fun x => (fun (d : Qab) => d.Base.length ≤ 4096 ∧ (∀ x ∈ d.Queue, 0 ≤ x.To ∧ x.To < d.Base.length)) x.1) (fun x => (fun (d : Qab) => [.dat Qa2 (dFlush d).1, .int .i64 (dFlush d).2]) x.1) := ⟨Qt9, fun x h => r08Flush_fn x.1 h⟩
theorem r08Power_fn (d : Qab) (keep : List Int) (hpre : d.Base.length ≤ 4096 ∧ (∀ x ∈ d.Queue, 0 ≤ x.To ∧ x.To < d.Base.length)) : Qck Cx.P 45 [.dat Qa2 d, .dat (.slice (.int .i64)) keep] [.dat Qa2 (dPower d keep)] := by
 refine Qck.go2 (E := Cx.env) (fn := Try.f45) (res := [_]) Try.func45 Qtw rfl rfl rfl (by kernel_rfl) rfl ?_
 push_cast
 try intro hf
 repeat' (first
 | (intro (K' : KT) hK'; push_cast; (repeat' refine And.intro ?_ ?_); all_goals (first | (apply hK'; clear hK' K') | (refine ⟨trivial, trivial, ?_⟩; apply hK'; clear hK' K') | (intro hb; (try push_cast at hb); all_goals (intros; apply hK'; clear hK' K')) | (clear hK' K'; first | omega | skip)))
 | apply Qar | apply Qa0 | apply Qac | apply Qah | apply Qaj | apply Qau
 | apply Qap | apply Qax | apply Qas | apply Qaq | apply Qa1 | apply Qal | apply Qae rfl | apply Qa6 | apply Qa7 | apply Qam | apply Qaz | apply Qay
 | (refine Qaf ?_; push_cast) | apply Qag | refine Qaa (Qa3 _ (by omega) (by omega)) ?_ | refine Qaa (Qb0 _ (by omega) (by omega)) ?_ | refine Qaa (Qba _ (by omega) (by omega)) ?_ | refine Qaa (Qa5 _ (by omega) (by omega)) ?_
 | refine Qai rfl rfl ?_ | refine Qat rfl rfl ?_
 | (refine Qak (by push_cast; first | done | rfl) ?_ ?_ <;> intro hc <;> (try push_cast at hc))
 | refine Qaw rfl rfl rfl (by push_cast; first | done | rfl) ?_
 | refine Qav rfl rfl rfl (by push_cast; first | done | rfl) ?_ ?_
 | refine Qbf (id := 6) [0, 1, 2, 3, 4, 5] [6] [1, 7] (.or 6 (.free 7 (.done)) (.stop)) wide (by kernel_rfl) ?_
 | apply Qby | apply Qbk | apply Qbn
 | refine Qbx rfl rfl rfl ?_ | refine Qbl rfl rfl rfl ?_
 | (refine Qbm rfl rfl rfl rfl ?_ ?_; rotate_left) | (refine Qbe rfl rfl rfl rfl ?_ ?_; rotate_left)
 | (refine Qbz rfl rfl rfl rfl ?_ ?_; rotate_left; focus (intro K' hK'; push_cast; (repeat' refine And.intro ?_ ?_); all_goals (first | (refine hK' _ _ _ _ _ (by push_cast) (by push_cast; first | done | rfl) ?_; clear hK' K') | (clear hK' K'; first | omega | skip))))
 | refine Qcc rfl rfl rfl rfl (by push_cast; first | done | rfl) ?_
 | refine Qcd rfl rfl rfl rfl (by push_cast; first | done | rfl) ?_ ?_
 | (intro (hc : (_ : Prop)); (try push_cast at hc)) | intro (hc : Qad) | intro (hc : Int) | intro (hc : Nat))
 refine Qbu [5, 6, 7, 13, 14, 15, 16, 17, 18, 19, 20, 21, 22, 23, 24, 25, 26, 27, 28, 29] [7, 20, 28] (fun (i : Nat) => i ≤ d.Queue.length) (fun (i : Nat) => [(13, .one (.l (.int .i64 i))), (5, .one (.l (.dat (.slice (.arr 64 (.int .u8))) (landAll (keepAt keep) 0 (d.Queue.take i) d.Base))))]) (fun (i : Nat) => []) (fun (i : Nat) => d.Queue.length - i) 0 ?_ (by push_cast; first | done | rfl) (by push_cast; first | done | rfl) ?_ ?_
 ·omega
 ·push_cast
  simp [landAll]
 ·intro i hi
  push_cast
  intro hg
  have hl := landAll_len (keepAt keep) 0 (d.Queue.take i) d.Base
  by_cases hlt : i < d.Queue.length
  ·have hx := hpre.2 _ (getD_mem d.Queue i ⟨Qc1 64 0, 0⟩ hlt)
   repeat' (first
 | (intro (K' : KT) hK'; push_cast; (repeat' refine And.intro ?_ ?_); all_goals (first | (apply hK'; clear hK' K') | (refine ⟨trivial, trivial, ?_⟩; apply hK'; clear hK' K') | (intro hb; (try push_cast at hb); all_goals (intros; apply hK'; clear hK' K')) | ((first | refine Qbg r08land_con (fun _ => rfl) ?_); push_cast; (repeat' refine And.intro ?_ ?_); all_goals (first | (apply hK'; clear hK' K') | (intros; apply hK'; clear hK' K') | (clear hK' K'; first | omega | skip))) | (clear hK' K'; first | omega | skip)))
 | apply Qar | apply Qa0 | apply Qac | apply Qah | apply Qaj | apply Qau
 | apply Qap | apply Qax | apply Qas | apply Qaq | apply Qa1 | apply Qal | apply Qae rfl | apply Qa6 | apply Qa7 | apply Qam | apply Qaz | apply Qay
 | (refine Qaf ?_; push_cast) | apply Qag | refine Qaa (Qa3 _ (by omega) (by omega)) ?_ | refine Qaa (Qb0 _ (by omega) (by omega)) ?_ | refine Qaa (Qba _ (by omega) (by omega)) ?_ | refine Qaa (Qa5 _ (by omega) (by omega)) ?_
 | refine Qai rfl rfl ?_ | refine Qat rfl rfl ?_
 | (refine Qak (by push_cast; first | done | rfl) ?_ ?_ <;> intro hc <;> (try push_cast at hc))
 | refine Qaw rfl rfl rfl (by push_cast; first | done | rfl) ?_
 | refine Qav rfl rfl rfl (by push_cast; first | done | rfl) ?_ ?_
 | refine Qbf (id := 6) [0, 1, 2, 3, 4, 5] [6] [1, 7] (.or 6 (.free 7 (.done)) (.stop)) wide (by kernel_rfl) ?_
 | apply Qby | apply Qbk | apply Qbn
 | refine Qbx rfl rfl rfl ?_ | refine Qbl rfl rfl rfl ?_
 | (refine Qbm rfl rfl rfl rfl ?_ ?_; rotate_left) | (refine Qbe rfl rfl rfl rfl ?_ ?_; rotate_left)
 | (refine Qbz rfl rfl rfl rfl ?_ ?_; rotate_left; focus (intro K' hK'; push_cast; (repeat' refine And.intro ?_ ?_); all_goals (first | (refine hK' _ _ _ _ _ (by push_cast) (by push_cast; first | done | rfl) ?_; clear hK' K') | ((first | refine Qbg r08land_con (fun _ => rfl) ?_); push_cast; (repeat' refine And.intro ?_ ?_); all_goals (first | (refine hK' _ _ _ _ _ (by push_cast) (by push_cast; first | done | rfl) ?_; clear hK' K') | (intros; refine hK' _ _ _ _ _ (by push_cast) (by push_cast; first | done | rfl) ?_; clear hK' K') | (clear hK' K'; first | omega | skip))) | (clear hK' K'; first | omega | skip))))
 | refine Qcc rfl rfl rfl rfl (by push_cast; first | done | rfl) ?_
 | refine Qcd rfl rfl rfl rfl (by push_cast; first | done | rfl) ?_ ?_
 | (intro (hc : (_ : Prop)); (try push_cast at hc)) | intro (hc : Qad) | intro (hc : Int) | intro (hc : Nat))
   ·refine Qbv (i + 1) (by omega) (by omega) ?_
    push_cast
    rw [take_succ_getD _ _ ⟨Qc1 64 0, 0⟩ (by omega), landAll_snoc]
    simp only [List.length_take, Nat.min_eq_left hi, keepAt, Nat.zero_add]
   ·refine Qbv (i + 1) (by omega) (by omega) ?_
    push_cast
    rw [take_succ_getD _ _ ⟨Qc1 64 0, 0⟩ (by omega), landAll_snoc]
    simp only [List.length_take, Nat.min_eq_left hi, keepAt, Nat.zero_add]
    rw [landL_le]
    have : keep[i]? = none := List.getElem?_eq_none (by omega)
    simp [List.getD_eq_getElem?_getD, this]
   ·omega
  ·repeat' (first
 | (intro (K' : KT) hK'; push_cast; (repeat' refine And.intro ?_ ?_); all_goals (first | (apply hK'; clear hK' K') | (refine ⟨trivial, trivial, ?_⟩; apply hK'; clear hK' K') | (intro hb; (try push_cast at hb); all_goals (intros; apply hK'; clear hK' K')) | ((first | refine Qbg r08land_con (fun _ => rfl) ?_); push_cast; (repeat' refine And.intro ?_ ?_); all_goals (first | (apply hK'; clear hK' K') | (intros; apply hK'; clear hK' K') | (clear hK' K'; first | omega | skip))) | (clear hK' K'; first | omega | skip)))
 | apply Qar | apply Qa0 | apply Qac | apply Qah | apply Qaj | apply Qau
 | apply Qap | apply Qax | apply Qas | apply Qaq | apply Qa1 | apply Qal | apply Qae rfl | apply Qa6 | apply Qa7 | apply Qam | apply Qaz | apply Qay
 | (refine Qaf ?_; push_cast) | apply Qag | refine Qaa (Qa3 _ (by omega) (by omega)) ?_ | refine Qaa (Qb0 _ (by omega) (by omega)) ?_ | refine Qaa (Qba _ (by omega) (by omega)) ?_ | refine Qaa (Qa5 _ (by omega) (by omega)) ?_
 | refine Qai rfl rfl ?_ | refine Qat rfl rfl ?_
 | (refine Qak (by push_cast; first | done | rfl) ?_ ?_ <;> intro hc <;> (try push_cast at hc))
 | refine Qaw rfl rfl rfl (by push_cast; first | done | rfl) ?_
 | refine Qav rfl rfl rfl (by push_cast; first | done | rfl) ?_ ?_
 | refine Qbf (id := 6) [0, 1, 2, 3, 4, 5] [6] [1, 7] (.or 6 (.free 7 (.done)) (.stop)) wide (by kernel_rfl) ?_
 | apply Qby | apply Qbk | apply Qbn
 | refine Qbx rfl rfl rfl ?_ | refine Qbl rfl rfl rfl ?_
 | (refine Qbm rfl rfl rfl rfl ?_ ?_; rotate_left) | (refine Qbe rfl rfl rfl rfl ?_ ?_; rotate_left)
 | (refine Qbz rfl rfl rfl rfl ?_ ?_; rotate_left; focus (intro K' hK'; push_cast; (repeat' refine And.intro ?_ ?_); all_goals (first | (refine hK' _ _ _ _ _ (by push_cast) (by push_cast; first | done | rfl) ?_; clear hK' K') | ((first | refine Qbg r08land_con (fun _ => rfl) ?_); push_cast; (repeat' refine And.intro ?_ ?_); all_goals (first | (refine hK' _ _ _ _ _ (by push_cast) (by push_cast; first | done | rfl) ?_; clear hK' K') | (intros; refine hK' _ _ _ _ _ (by push_cast) (by push_cast; first | done | rfl) ?_; clear hK' K') | (clear hK' K'; first | omega | skip))) | (clear hK' K'; first | omega | skip))))
 | refine Qcc rfl rfl rfl rfl (by push_cast; first | done | rfl) ?_
 | refine Qcd rfl rfl rfl rfl (by push_cast; first | done | rfl) ?_ ?_
 | (intro (hc : (_ : Prop)); (try push_cast at hc)) | intro (hc : Qad) | intro (hc : Int) | intro (hc : Nat))
   ·omega
   ·omega
   ·have : i = d.Queue.length := by omega
    subst this
    simp [dPower]
theorem r08Power_con : Con Cx.P 45 (.pair Qa2 (.pair (.slice (.int .i64)) (.unit))) (fun x => (fun (d : Qab) (keep : List Int) => d.Base.length ≤ 4096 ∧ (∀ x ∈ d.Queue, 0 ≤ x.To ∧ x.To < d.Base.length)) x.1 x.2.1) (fun x => (fun (d : Qab) (keep : List Int) => [.dat Qa2 (dPower d keep)]) x.1 x.2.1) := ⟨Qtw, fun x h => r08Power_fn x.1 x.2.1 h⟩
end Go.Proofs.Ytnmjcdlgfimnaaa
namespace Go.Proofs.Ytnmjcdlgfimnaaa
structure DiskI : Type 1 where
 V : Int → Value
 M : Int → List (List Int)
 way : List Qbq
 acts : Option Int
 size : Int
 dead : Bool
def mmD (i : DiskI) : List (Nat × Box) := match i.acts with
 | none => [(1, .segs [.mp 9001, .int .i64 i.size, .own 9002, .nilp, .bool i.dead]), (9001, .mpr (.arr 64 (.int .u8)) i.M i.V none), (9002, .arr Qa8 i.way)]
 | some n => [(1, .segs [.mp 9001, .int .i64 i.size, .own 9002, .ptr 9003 [] 0, .bool i.dead]), (9001, .mpr (.arr 64 (.int .u8)) i.M i.V none), (9002, .arr Qa8 i.way), (9003, .segs [.int .i64 n])]
def RowsOk (base : List (List Int)) (q : List Qad) (M : Int → List (List Int)) : Prop :=
 ∀ k, (M k = [] ∧ qTo q k = [] ∧ (0 ≤ k → k < base.length → base.getD k.toNat [] = zeros)) ∨ (0 ≤ k ∧ k < base.length ∧ M k = base.getD k.toNat [] :: qTo q k)
def tks : List Qad → List Qad → List Qbq
 | _, [] => []
 | acc, x :: r => ⟨x.To, ((qTo acc x.To).length : Int) + 1⟩ :: tks (acc ++ [x]) r
structure DWf (d : Qab) : Prop where
 many : d.Base.length ≤ 2048
 sec : ∀ s ∈ d.Base, s.length = 64
 qs : ∀ x ∈ d.Queue, x.Sector.length = 64 ∧ 0 ≤ x.To ∧ x.To < d.Base.length
 qn : d.Queue.length ≤ 1000000000
 burns : -1 ≤ d.Burns ∧ d.Burns ≤ 9223372036854775807
structure DOk (d : Qab) (i : DiskI) : Prop where
 wf : DWf d
 size : i.size = d.Base.length
 dead : i.dead = d.Dead
 acts : i.acts = if d.Burns < 0 then none else some d.Burns
 rows : RowsOk d.Base d.Queue i.M
 way : i.way = tks [] d.Queue
theorem qTo_len (q : List Qad) (k : Int) : (qTo q k).length ≤ q.length := by
 unfold qTo
 rw [List.length_map]
 exact List.length_filter_le _ _
theorem rows_len {D : Qab} {M : Int → List (List Int)} (hr : RowsOk D.Base D.Queue M) (hw : DWf D) (k : Int) : (M k).length ≤ 1000000001 := by
 have h1 := qTo_len D.Queue k
 have h2 := hw.qn
 rcases hr k with ⟨e, _, _⟩ | ⟨_, _, e⟩
 ·rw [e]; simp
 ·rw [e, List.length_cons]; omega
theorem tks_len : ∀ (q acc : List Qad), (tks acc q).length = q.length
 | [], _ => rfl
 | x :: r, acc => by simp only [tks, List.length_cons, tks_len r]
theorem getLast_getD {α : Type} (d : α) : ∀ (l : List α), l ≠ [] → l.getLast?.getD d = l.getD (l.length - 1) d := by
 intro l h
 rw [List.getLast?_eq_getElem?, List.getD_eq_getElem?_getD]
theorem get_none {D : Qab} {k : Int} (h : dThere D k = false) : dGet D k = (zeros, 81) := by simp [dGet, h]
theorem there_iff {D : Qab} {k : Int} (h : dThere D k = true) : 0 ≤ k ∧ k < D.Base.length := by
 simpa [dThere] using h
theorem get_zero {D : Qab} {k : Int} {M : Int → List (List Int)} (hr : RowsOk D.Base D.Queue M) (h : dThere D k = true) (hm : (M k).length = 0) : dGet D k = (zeros, 0) := by
 obtain ⟨h0, h1⟩ := there_iff h
 rcases hr k with ⟨_, e, e2⟩ | ⟨_, _, e⟩
 ·have := e2 h0 h1
  simp only [dGet, h, if_true, e, List.getLast?_nil, Option.getD_none, this]
 ·rw [e] at hm; simp at hm
theorem get_some {D : Qab} {k : Int} {M : Int → List (List Int)} (hr : RowsOk D.Base D.Queue M) (h : dThere D k = true) (hm : ¬ (M k).length = 0) : dGet D k = ((M k).getD ((M k).length - 1) zeros, 0) := by
 rcases hr k with ⟨e, _, _⟩ | ⟨_, _, e⟩
 ·rw [e] at hm; simp at hm
 ·simp only [dGet, h, if_true, e, List.length_cons, Nat.add_sub_cancel]
  cases hq : qTo D.Queue k with
  | nil => simp
  | cons x r =>
   rw [getLast_getD _ _ (by simp)]
   simp [List.getD_eq_getElem?_getD]
def DiskO : Qab → Qst := Qn2 DOk mmD 1
theorem open_disk (D : Qab) (rest : List (Nat × Box)) (h1 : ∀ j ∈ Qao rest, j < 5000) (h2 : ∀ e ∈ rest, ∀ j ∈ e.2.ids, j < 5000) :
    Qc2 ((1, .obj DiskO D) :: rest) (fun i : {i : DiskI // DOk D i} => mmD i.1 ++ rest) := by
 refine Qpj ?_ ?_ ?_
 ·rintro ⟨V, M, way, acts, size, dead⟩ j hj hne
  have : 5000 ≤ j := by
   cases acts <;> simp [mmD, Qao] at hj <;> omega
  exact ⟨fun h => by have := h1 j h; omega, fun e he h => by have := h2 e he j h; omega⟩
 ·rintro ⟨V, M, way, acts, size, dead⟩ e he j hj
  cases acts
  ·simp only [mmD, List.mem_cons, List.not_mem_nil, or_false] at he
   rcases he with rfl | rfl | rfl <;> simp [Box.ids, Qez, LV.ids] at hj <;> simp [mmD, Qao] <;> omega
  ·simp only [mmD, List.mem_cons, List.not_mem_nil, or_false] at he
   rcases he with rfl | rfl | rfl | rfl <;> simp [Box.ids, Qez, LV.ids] at hj <;> simp [mmD, Qao] <;> omega
 ·rintro ⟨V, M, way, acts, size, dead⟩ j hj hne
  cases acts <;> simp [mmD, Qao] at hj <;> omega
theorem close_disk0 {D : Qab} {m wy : Nat} {V : Int → Value} {M : Int → List (List Int)} {way : List Qbq} {size : Int} {dead : Bool} {rest : List (Nat × Box)} (h : DOk D ⟨V, M, way, none, size, dead⟩) (h1 : m ≠ 1) (h2 : wy ≠ 1) (h3 : m ≠ wy) :
    Qbb ((1, .segs [.mp m, .int .i64 size, .own wy, .nilp, .bool dead]) :: (m, .mpr (.arr 64 (.int .u8)) M V none) :: (wy, .arr Qa8 way) :: rest) ((1, .obj DiskO D) :: rest) := by
 have := Qhz (ok := DOk) (mm := mmD) (root := 1) (D := D) (rest := rest) ⟨V, M, way, none, size, dead⟩ (fun j => if j = 9001 then m else if j = 9002 then wy else j) h (by simp) (by simp [mmD, Qao]) (by simp [mmD, Qao]) (by
  simp only [mmD, Qao, List.map_cons, List.map_nil, List.mem_cons, List.not_mem_nil, or_false]
  rintro a (rfl | rfl | rfl) b (rfl | rfl | rfl) <;> simp <;> omega)
 simpa [Qer, mmD, Box.ren, LV.ren, DiskO] using this
theorem close_disk1 {D : Qab} {m wy ac : Nat} {V : Int → Value} {M : Int → List (List Int)} {way : List Qbq} {n size : Int} {dead : Bool} {rest : List (Nat × Box)} (h : DOk D ⟨V, M, way, some n, size, dead⟩) (h1 : m ≠ 1) (h2 : wy ≠ 1) (h3 : m ≠ wy) (h4 : ac ≠ 1) (h5 : ac ≠ m) (h6 : ac ≠ wy) :
    Qbb ((1, .segs [.mp m, .int .i64 size, .own wy, .ptr ac [] 0, .bool dead]) :: (m, .mpr (.arr 64 (.int .u8)) M V none) :: (wy, .arr Qa8 way) :: (ac, .segs [.int .i64 n]) :: rest) ((1, .obj DiskO D) :: rest) := by
 have := Qhz (ok := DOk) (mm := mmD) (root := 1) (D := D) (rest := rest) ⟨V, M, way, some n, size, dead⟩ (fun j => if j = 9001 then m else if j = 9002 then wy else if j = 9003 then ac else j) h (by simp) (by simp [mmD, Qao]) (by simp [mmD, Qao]) (by
  simp only [mmD, Qao, List.map_cons, List.map_nil, List.mem_cons, List.not_mem_nil, or_false]
  rintro a (rfl | rfl | rfl | rfl) b (rfl | rfl | rfl | rfl) <;> simp <;> omega)
 simpa [Qer, mmD, Box.ren, LV.ren, DiskO] using this
theorem fin_disk0 {D : Qab} {m wy : Nat} {V : Int → Value} {M : Int → List (List Int)} {way : List Qbq} {size : Int} {dead : Bool} {rest : List (Nat × Box)} {rets : List LV} {tv : TV} {s : Qan} (h : DOk D ⟨V, M, way, none, size, dead⟩)
    (hm : LeM ((1, .segs [.mp m, .int .i64 size, .own wy, .nilp, .bool dead]) :: (m, .mpr (.arr 64 (.int .u8)) M V none) :: (wy, .arr Qa8 way) :: rest) s.mem)
    (hn : (1 :: m :: wy :: Qao rest).Nodup) (hr : Qdo (tv.list.map (SV.frz (Qiw (1 :: m :: wy :: Qao rest) s.mem))) rets) (hi : ∀ i ∈ (tvL rets).ids, i < 5000) : Fin rets ((1, .obj DiskO D) :: rest) tv s := by
 simp only [List.nodup_cons, List.mem_cons, not_or] at hn
 exact ⟨(1, .segs [.mp m, .int .i64 size, .own wy, .nilp, .bool dead]) :: (m, .mpr (.arr 64 (.int .u8)) M V none) :: (wy, .arr Qa8 way) :: rest, hr, hm, by simp only [Qao, List.map_cons, List.nodup_cons, List.mem_cons, not_or]; exact hn, close_disk0 h (by omega) (by omega) (by omega), hi⟩
theorem fin_disk1 {D : Qab} {m wy ac : Nat} {V : Int → Value} {M : Int → List (List Int)} {way : List Qbq} {n size : Int} {dead : Bool} {rest : List (Nat × Box)} {rets : List LV} {tv : TV} {s : Qan} (h : DOk D ⟨V, M, way, some n, size, dead⟩)
    (hm : LeM ((1, .segs [.mp m, .int .i64 size, .own wy, .ptr ac [] 0, .bool dead]) :: (m, .mpr (.arr 64 (.int .u8)) M V none) :: (wy, .arr Qa8 way) :: (ac, .segs [.int .i64 n]) :: rest) s.mem)
    (hn : (1 :: m :: wy :: ac :: Qao rest).Nodup) (hr : Qdo (tv.list.map (SV.frz (Qiw (1 :: m :: wy :: ac :: Qao rest) s.mem))) rets) (hi : ∀ i ∈ (tvL rets).ids, i < 5000) : Fin rets ((1, .obj DiskO D) :: rest) tv s := by
 simp only [List.nodup_cons, List.mem_cons, not_or] at hn
 exact ⟨(1, .segs [.mp m, .int .i64 size, .own wy, .ptr ac [] 0, .bool dead]) :: (m, .mpr (.arr 64 (.int .u8)) M V none) :: (wy, .arr Qa8 way) :: (ac, .segs [.int .i64 n]) :: rest, hr, hm, by simp only [Qao, List.map_cons, List.nodup_cons, List.mem_cons, not_or]; exact hn, close_disk1 h (by omega) (by omega) (by omega) (by omega) (by omega) (by omega), hi⟩
theorem updM_self {α : Type} (M : Int → List α) (k : Int) : Qf8 M k (M k) = M := by
 funext j
 unfold Qf8
 split
 ·rename_i h; rw [h]
 ·rfl
theorem fin_disk0r {D : Qab} {m wy id : Nat} {k : Int} {l : List (List Int)} {V : Int → Value} {M : Int → List (List Int)} {way : List Qbq} {size : Int} {dead : Bool} {rest : List (Nat × Box)} {rets : List LV} {tv : TV} {s : Qan} (h : DOk D ⟨V, Qf8 M k l, way, none, size, dead⟩)
    (hm : LeM ((1, .segs [.mp m, .int .i64 size, .own wy, .nilp, .bool dead]) :: (m, .mpr (.arr 64 (.int .u8)) M V (some (k, some id))) :: (wy, .arr Qa8 way) :: (id, .arr (.arr 64 (.int .u8)) l) :: rest) s.mem)
    (hn : (1 :: m :: wy :: id :: Qao rest).Nodup) (hr : Qdo (tv.list.map (SV.frz (Qiw (1 :: m :: wy :: id :: Qao rest) s.mem))) rets) (hi : ∀ i ∈ (tvL rets).ids, i < 5000) : Fin rets ((1, .obj DiskO D) :: rest) tv s := by
 simp only [List.nodup_cons, List.mem_cons, not_or] at hn
 obtain ⟨⟨n1, n2, n3, n4⟩, ⟨n5, n6, n7⟩, ⟨n8, n9⟩, n10, n11⟩ := hn
 have hrest : rmM rest id = rest := by
  have gen : ∀ (l : List (Nat × Box)), id ∉ Qao l → rmM l id = l := by
   intro l
   induction l with
   | nil => intro _; rfl
   | cons x r ih =>
    intro h
    simp only [Qao, List.map_cons, List.mem_cons, not_or] at h
    have : (x.1 == id) = false := by simpa using Ne.symm h.1
    unfold rmM
    rw [this, cond_false, ih h.2]
  exact gen rest n10
 refine ⟨(1, .segs [.mp m, .int .i64 size, .own wy, .nilp, .bool dead]) :: (m, .mpr (.arr 64 (.int .u8)) M V (some (k, some id))) :: (wy, .arr Qa8 way) :: (id, .arr (.arr 64 (.int .u8)) l) :: rest, hr, hm, ?_, ?_, hi⟩
 ·simp only [Qao, List.map_cons, List.nodup_cons, List.mem_cons, not_or]
  exact ⟨⟨n1, n2, n3, n4⟩, ⟨n5, n6, n7⟩, ⟨n8, n9⟩, n10, n11⟩
 ·have e1 : (1 == m) = false := by simpa using n1
  have e2 : (m == m) = true := by simp
  have e3 : (1 == id) = false := by simpa using n3
  have e4 : (m == id) = false := by simpa using n6
  have e5 : (wy == id) = false := by simpa using n8
  have e6 : (wy == m) = false := by simpa using Ne.symm n5
  have e7 : (m == 1) = false := by simpa using Ne.symm n1
  have e8 : (id == id) = true := by simp
  refine Qbb.trans (Qbb.row (m := m) (id := id) (A := .arr 64 (.int .u8)) (M := M) (V := V) (k := k) (l := l) ?_ ?_) ?_
  ·simp [Qco, e1]
  ·simp [Qco, e3, e4, e5]
  ·simp only [Qhg, e1, e2, cond_false, cond_true, rmM, e3, e4, e5, e8, hrest]
   exact close_disk0 h (Ne.symm n1) (Ne.symm n2) n5
theorem fin_disk1r {D : Qab} {m wy ac id : Nat} {k n : Int} {l : List (List Int)} {V : Int → Value} {M : Int → List (List Int)} {way : List Qbq} {size : Int} {dead : Bool} {rest : List (Nat × Box)} {rets : List LV} {tv : TV} {s : Qan} (h : DOk D ⟨V, Qf8 M k l, way, some n, size, dead⟩)
    (hm : LeM ((1, .segs [.mp m, .int .i64 size, .own wy, .ptr ac [] 0, .bool dead]) :: (m, .mpr (.arr 64 (.int .u8)) M V (some (k, some id))) :: (wy, .arr Qa8 way) :: (ac, .segs [.int .i64 n]) :: (id, .arr (.arr 64 (.int .u8)) l) :: rest) s.mem)
    (hn : (1 :: m :: wy :: ac :: id :: Qao rest).Nodup) (hr : Qdo (tv.list.map (SV.frz (Qiw (1 :: m :: wy :: ac :: id :: Qao rest) s.mem))) rets) (hi : ∀ i ∈ (tvL rets).ids, i < 5000) : Fin rets ((1, .obj DiskO D) :: rest) tv s := by
 simp only [List.nodup_cons, List.mem_cons, not_or] at hn
 obtain ⟨⟨n1, n2, a1, n3, n4⟩, ⟨n5, a2, n6, n7⟩, ⟨a3, n8, n9⟩, ⟨a4, a5⟩, n10, n11⟩ := hn
 have hrest : rmM rest id = rest := by
  have gen : ∀ (l : List (Nat × Box)), id ∉ Qao l → rmM l id = l := by
   intro l
   induction l with
   | nil => intro _; rfl
   | cons x r ih =>
    intro h
    simp only [Qao, List.map_cons, List.mem_cons, not_or] at h
    have : (x.1 == id) = false := by simpa using Ne.symm h.1
    unfold rmM
    rw [this, cond_false, ih h.2]
  exact gen rest n10
 refine ⟨(1, .segs [.mp m, .int .i64 size, .own wy, .ptr ac [] 0, .bool dead]) :: (m, .mpr (.arr 64 (.int .u8)) M V (some (k, some id))) :: (wy, .arr Qa8 way) :: (ac, .segs [.int .i64 n]) :: (id, .arr (.arr 64 (.int .u8)) l) :: rest, hr, hm, ?_, ?_, hi⟩
 ·simp only [Qao, List.map_cons, List.nodup_cons, List.mem_cons, not_or]
  exact ⟨⟨n1, n2, a1, n3, n4⟩, ⟨n5, a2, n6, n7⟩, ⟨a3, n8, n9⟩, ⟨a4, a5⟩, n10, n11⟩
 ·have e1 : (1 == m) = false := by simpa using n1
  have e2 : (m == m) = true := by simp
  have e3 : (1 == id) = false := by simpa using n3
  have e4 : (m == id) = false := by simpa using n6
  have e5 : (wy == id) = false := by simpa using n8
  have e9 : (ac == id) = false := by simpa using a4
  have e8 : (id == id) = true := by simp
  refine Qbb.trans (Qbb.row (m := m) (id := id) (A := .arr 64 (.int .u8)) (M := M) (V := V) (k := k) (l := l) ?_ ?_) ?_
  ·simp [Qco, e1]
  ·simp [Qco, e3, e4, e5, e9]
  ·simp only [Qhg, e1, e2, cond_false, cond_true, rmM, e3, e4, e5, e8, e9, hrest]
   exact close_disk1 h (Ne.symm n1) (Ne.symm n2) n5 (Ne.symm a1) (Ne.symm a2) (Ne.symm a3)
theorem tks_at : ∀ (q acc : List Qad) (i : Nat), i < q.length → ((tks acc q).getD i ⟨0, 0⟩).at_ = (q.getD i ⟨Qc1 64 0, 0⟩).To
 | [], _, i, h => by simp at h
 | x :: r, acc, 0, _ => rfl
 | x :: r, acc, i + 1, h => by
  have := tks_at r (acc ++ [x]) i (by simpa using h)
  simpa [tks] using this
theorem updM_same {α : Type} (M : Int → List α) (k : Int) (l : List α) : Qf8 M k l k = l := by simp [Qf8]
theorem updM_updM {α : Type} (M : Int → List α) (k : Int) (l l' : List α) : Qf8 (Qf8 M k l) k l' = Qf8 M k l' := by
 funext j
 unfold Qf8
 split <;> rfl
attribute [push_cast] updM_same updM_updM
theorem tks_snoc : ∀ (q acc : List Qad) (y : Qad), tks acc (q ++ [y]) = tks acc q ++ [⟨y.To, ((qTo (acc ++ q) y.To).length : Int) + 1⟩]
 | [], acc, y => by simp [tks]
 | x :: r, acc, y => by
  simp only [List.cons_append, tks]
  rw [tks_snoc r (acc ++ [x]) y, List.append_assoc]
  rfl
theorem qTo_snoc (q : List Qad) (y : Qad) (k : Int) : qTo (q ++ [y]) k = if y.To = k then qTo q k ++ [y.Sector] else qTo q k := by
 unfold qTo
 rw [List.filter_append, List.map_append]
 by_cases h : y.To = k
 ·simp [h]
 ·have : (y.To == k) = false := by simpa using h
  simp [h, this]
theorem DOk_put {S : Qab} {M : Int → List (List Int)} {V : Int → Value} {acts : Option Int} {k : Int} {x : List Int} {l : List (List Int)} (hwf : DWf S) (hr : RowsOk S.Base S.Queue M) (hx : x.length = 64) (h0 : 0 ≤ k) (h1 : k < S.Base.length) (hq : S.Queue.length < 1000000000)
    (ha : acts = if S.Burns < 0 then none else some S.Burns) (hl : ∃ l0, l = l0 ++ [x] ∧ (((M k).length = 0 ∧ l0 = [Qc1 64 0]) ∨ ((M k).length ≠ 0 ∧ l0 = M k))) :
    DOk { S with Queue := S.Queue ++ [⟨x, k⟩] } ⟨V, Qf8 M k l, tks [] S.Queue ++ [⟨k, (l.length : Int) - 1⟩], acts, S.Base.length, S.Dead⟩ := by
 obtain ⟨l0, rfl, hl⟩ := hl
 have hrow : l0 = S.Base.getD k.toNat [] :: qTo S.Queue k := by
  rcases hr k with ⟨e, e1, e2⟩ | ⟨_, _, e⟩
  ·have : l0 = [Qc1 64 0] := by rcases hl with ⟨_, h⟩ | ⟨h, _⟩ <;> simp_all
   rw [this, e1, e2 h0 h1]
  ·rcases hl with ⟨h, _⟩ | ⟨_, h⟩
   ·rw [e] at h; simp at h
   ·rw [h, e]
 refine ⟨⟨hwf.many, hwf.sec, ?_, by simp only [List.length_append, List.length_singleton]; omega, hwf.burns⟩, rfl, rfl, ha, ?_, ?_⟩
 ·intro y hy
  rcases List.mem_append.1 hy with hy | hy
  ·exact hwf.qs y hy
  ·simp only [List.mem_singleton] at hy
   subst hy
   exact ⟨hx, h0, h1⟩
 ·intro j
  rw [qTo_snoc]
  by_cases e : k = j
  ·subst e
   right
   refine ⟨h0, h1, ?_⟩
   simp only [if_true, updM_same]
   rw [hrow]; rfl
  ·have e2 : Qf8 M k (l0 ++ [x]) j = M j := by unfold Qf8; rw [if_neg (Ne.symm e)]
   simp only [e2, if_neg e]
   exact hr j
 ·rw [tks_snoc, hrow]
  simp
end Go.Proofs.Ytnmjcdlgfimnaaa
namespace Go.Proofs.Ytnmjcdlgfimnaaa
set_option linter.unusedSimpArgs false
set_option linter.unusedVariables false
set_option maxRecDepth 20000
attribute [local irreducible] Qb3 Qa9 vcA Qbp Wc
set_option maxHeartbeats 8000000
theorem acts_none {b : Int} (h : (none : Option Int) = if b < 0 then none else some b) : b < 0 := by
 by_cases hb : b < 0
 ·exact hb
 ·rw [if_neg hb] at h; simp at h
theorem acts_some {b n : Int} (h : some n = if b < 0 then none else some b) : n = b ∧ 0 ≤ b := by
 by_cases hb : b < 0
 ·rw [if_pos hb] at h; simp at h
 ·rw [if_neg hb] at h; simp at h; exact ⟨h, by omega⟩
theorem act_fn (D : Qab) : Qcs Cx.P 81 [.l (.ptr 1 [] 0)] [(1, .obj DiskO D)] (tvL [.bool (dSpend D).2]) [(1, .obj DiskO (dSpend D).1)] := by
 refine Qcs.go2 (E := Cx.env) (fn := Try.f81) (res := [_]) _ (open_disk D [] (by simp [Qao]) (by simp)) Try.func81 Qtf rfl rfl (by simp [Qb1, SV.ids, LV.ids]) (by simp [Qao]) (by kernel_rfl) rfl ?_
 intro hf
 try push_cast at hf
 rintro ⟨⟨V, M, way, acts, size, dead⟩, ⟨hwf, h1, h2, ha, hr, h3⟩⟩
 simp only at h1 h2 ha hr h3
 subst h1 h2 h3
 have hbu := hwf.burns
 cases acts
 ·have hb := acts_none ha
  simp only [mmD, Qcu, Qao, List.map_cons, List.map_nil, List.cons_append, List.nil_append]
  repeat' (first
 | (intro (K' : KT) hK'; push_cast; (repeat' refine And.intro ?_ ?_); all_goals (first | (apply hK'; clear hK' K') | (refine ⟨trivial, trivial, ?_⟩; apply hK'; clear hK' K') | (intro hb; (try push_cast at hb); all_goals (intros; apply hK'; clear hK' K')) | (clear hK' K'; first | omega | skip)))
 | apply Qar | apply Qac | apply Qah | apply Qaj | apply Qau
 | apply Qap | apply Qax | apply Qas | apply Qam | apply Qaz | apply Qay
 | (refine Qaf ?_; push_cast) | apply Qag | refine Qaa (Qa3 _ (by omega) (by omega)) ?_ | refine Qaa (Qb0 _ (by omega) (by omega)) ?_ | refine Qaa (Qba _ (by omega) (by omega)) ?_ | refine Qaa (Qa5 _ (by omega) (by omega)) ?_
 | refine Qai rfl rfl ?_ | refine Qat rfl rfl ?_
 | (refine Qak (by push_cast; first | done | rfl) ?_ ?_ <;> intro hc <;> (try push_cast at hc))
 | refine Qaw rfl rfl rfl (by push_cast; first | done | rfl) ?_
 | refine Qav rfl rfl rfl (by push_cast; first | done | rfl) ?_ ?_
 | (intro (hc : (_ : Prop)); (try push_cast at hc)) | intro (hc : Qad) | intro (hc : Int) | intro (hc : Nat))
  all_goals
   refine fin_disk0 (m := 9001) (wy := 9002) (V := V) (M := M) (way := tks [] D.Queue) (size := D.Base.length) (dead := D.Dead) (rest := []) ?_ (by push_cast) (by push_cast) ?_ (by simp [tvL, TV.ids, SV.ids, LV.ids, Qb1])
   ·have h0 : ¬ D.Burns = 0 := by omega
    have h1 : ¬ 0 < D.Burns := by omega
    cases hdd : D.Dead <;> simp only [dSpend, if_neg h0, if_neg h1, hdd, Bool.false_eq_true, if_true, if_false] <;> exact ⟨hwf, rfl, by simp [hdd], by simp [hb], hr, rfl⟩
   ·push_cast
    have h0 : ¬ D.Burns = 0 := by omega
    cases hdd : D.Dead <;> simp [dSpend, if_neg h0, hdd]
 ·obtain ⟨rfl, hb⟩ := acts_some ha
  simp only [mmD, Qcu, Qao, List.map_cons, List.map_nil, List.cons_append, List.nil_append]
  repeat' (first
 | (intro (K' : KT) hK'; push_cast; (repeat' refine And.intro ?_ ?_); all_goals (first | (apply hK'; clear hK' K') | (refine ⟨trivial, trivial, ?_⟩; apply hK'; clear hK' K') | (intro hb; (try push_cast at hb); all_goals (intros; apply hK'; clear hK' K')) | (clear hK' K'; first | omega | skip)))
 | apply Qar | apply Qac | apply Qah | apply Qaj | apply Qau
 | apply Qap | apply Qax | apply Qas | apply Qam | apply Qaz | apply Qay
 | (refine Qaf ?_; push_cast) | apply Qag | refine Qaa (Qa3 _ (by omega) (by omega)) ?_ | refine Qaa (Qb0 _ (by omega) (by omega)) ?_ | refine Qaa (Qba _ (by omega) (by omega)) ?_ | refine Qaa (Qa5 _ (by omega) (by omega)) ?_
 | refine Qai rfl rfl ?_ | refine Qat rfl rfl ?_
 | (refine Qak (by push_cast; first | done | rfl) ?_ ?_ <;> intro hc <;> (try push_cast at hc))
 | refine Qaw rfl rfl rfl (by push_cast; first | done | rfl) ?_
 | refine Qav rfl rfl rfl (by push_cast; first | done | rfl) ?_ ?_
 | (intro (hc : (_ : Prop)); (try push_cast at hc)) | intro (hc : Qad) | intro (hc : Int) | intro (hc : Nat))
  ·have h0 : D.Burns = 0 := by assumption
   refine fin_disk1 (m := 9001) (wy := 9002) (ac := 9003) (n := D.Burns) (V := V) (M := M) (way := tks [] D.Queue) (size := D.Base.length) (dead := true) (rest := []) ?_ (by push_cast) (by push_cast) ?_ (by simp [tvL, TV.ids, SV.ids, LV.ids, Qb1])
   ·simp only [dSpend, h0, if_true]
    exact ⟨⟨hwf.many, hwf.sec, hwf.qs, hwf.qn, by simp [h0]⟩, rfl, rfl, by simp [h0], hr, rfl⟩
   ·push_cast; simp [dSpend, h0]
  ·have h0 : ¬ D.Burns = 0 := by assumption
   have hd : (!D.Dead) = true := by assumption
   have hd : D.Dead = false := by simpa using hd
   have h1 : 0 < D.Burns := by omega
   refine fin_disk1 (m := 9001) (wy := 9002) (ac := 9003) (n := (D.Burns - 1)) (V := V) (M := M) (way := tks [] D.Queue) (size := D.Base.length) (dead := D.Dead) (rest := []) ?_ (by push_cast) (by push_cast) ?_ (by simp [tvL, TV.ids, SV.ids, LV.ids, Qb1])
   ·simp only [dSpend, if_neg h0, hd, Bool.false_eq_true, if_false, if_pos h1]
    exact ⟨⟨hwf.many, hwf.sec, hwf.qs, hwf.qn, by simp only; omega⟩, rfl, by simp [hd], by simp only; rw [if_neg (by omega)], hr, rfl⟩
   ·push_cast; simp [dSpend, if_neg h0, hd]
  ·have h0 : ¬ D.Burns = 0 := by assumption
   have hd : (!D.Dead) = false := by assumption
   have hd : D.Dead = true := by simpa using hd
   refine fin_disk1 (m := 9001) (wy := 9002) (ac := 9003) (n := D.Burns) (V := V) (M := M) (way := tks [] D.Queue) (size := D.Base.length) (dead := D.Dead) (rest := []) ?_ (by push_cast) (by push_cast) ?_ (by simp [tvL, TV.ids, SV.ids, LV.ids, Qb1])
   ·simp only [dSpend, if_neg h0, hd, if_true]
    exact ⟨hwf, rfl, by simp [hd], by simp only; rw [if_neg (by omega)], hr, rfl⟩
   ·push_cast; simp [dSpend, if_neg h0, hd]
#print axioms act_fn
theorem there_fn (D : Qab) (k : Int) : Qcs Cx.P 80 [.l (.ptr 1 [] 0), .l (.int .i64 k)] [(1, .obj DiskO D)] (tvL [.bool (dThere D k)]) [(1, .obj DiskO D)] := by
 refine Qcs.go2 (E := Cx.env) (fn := Try.f80) (res := [_]) _ (open_disk D [] (by simp [Qao]) (by simp)) Try.func80 Quw rfl rfl (by simp [Qb1, SV.ids, LV.ids]) (by simp [Qao]) (by kernel_rfl) rfl ?_
 intro hf
 try push_cast at hf
 rintro ⟨⟨V, M, way, acts, size, dead⟩, ⟨hwf, h1, h2, ha, hr, h3⟩⟩
 simp only at h1 h2 ha hr h3
 subst h1 h2 h3
 have hbu := hwf.burns
 rcases acts with _ | n
 all_goals
  simp only [mmD, Qcu, Qao, List.map_cons, List.map_nil, List.cons_append, List.nil_append]
  repeat' (first
 | (intro (K' : KT) hK'; push_cast; (repeat' refine And.intro ?_ ?_); all_goals (first | (apply hK'; clear hK' K') | (refine ⟨trivial, trivial, ?_⟩; apply hK'; clear hK' K') | (intro hb; (try push_cast at hb); all_goals (intros; apply hK'; clear hK' K')) | (clear hK' K'; first | omega | skip)))
 | apply Qar | apply Qac | apply Qah | apply Qaj | apply Qau
 | apply Qap | apply Qax | apply Qas | apply Qam | apply Qaz | apply Qay
 | (refine Qaf ?_; push_cast) | apply Qag | refine Qaa (Qa3 _ (by omega) (by omega)) ?_ | refine Qaa (Qb0 _ (by omega) (by omega)) ?_ | refine Qaa (Qba _ (by omega) (by omega)) ?_ | refine Qaa (Qa5 _ (by omega) (by omega)) ?_
 | refine Qai rfl rfl ?_ | refine Qat rfl rfl ?_
 | (refine Qak (by push_cast; first | done | rfl) ?_ ?_ <;> intro hc <;> (try push_cast at hc))
 | refine Qaw rfl rfl rfl (by push_cast; first | done | rfl) ?_
 | refine Qav rfl rfl rfl (by push_cast; first | done | rfl) ?_ ?_
 | (intro (hc : (_ : Prop)); (try push_cast at hc)) | intro (hc : Qad) | intro (hc : Int) | intro (hc : Nat))
 all_goals
  first
      | (refine fin_disk0 (m := 9001) (wy := 9002) (V := V) (M := M) (way := (tks [] D.Queue)) (size := D.Base.length) (dead := D.Dead) (rest := []) ⟨hwf, rfl, rfl, ha, hr, rfl⟩ ?_ ?_ ?_ ?_; (focus (push_cast; done)); (focus (push_cast; done)); (focus ((push_cast; simp_all [dThere]; try omega))); (focus (simp [tvL, TV.ids, SV.ids, LV.ids, Qb1]; done)))
      | (refine fin_disk1 (m := 9001) (wy := 9002) (V := V) (M := M) (way := (tks [] D.Queue)) (size := D.Base.length) (dead := D.Dead) (rest := []) (ac := 9003) (n := _) ⟨hwf, rfl, rfl, ha, hr, rfl⟩ ?_ ?_ ?_ ?_; (focus (push_cast; done)); (focus (push_cast; done)); (focus ((push_cast; simp_all [dThere]; try omega))); (focus (simp [tvL, TV.ids, SV.ids, LV.ids, Qb1]; done)))
theorem Size_fn (D : Qab) : Qcs Cx.P 25 [.l (.ptr 1 [] 0)] [(1, .obj DiskO D)] (tvL [.int .i64 D.Base.length]) [(1, .obj DiskO D)] := by
 refine Qcs.go2 (E := Cx.env) (fn := Try.f25) (res := [_]) _ (open_disk D [] (by simp [Qao]) (by simp)) Try.func25 Qtu rfl rfl (by simp [Qb1, SV.ids, LV.ids]) (by simp [Qao]) (by kernel_rfl) rfl ?_
 intro hf
 try push_cast at hf
 rintro ⟨⟨V, M, way, acts, size, dead⟩, ⟨hwf, h1, h2, ha, hr, h3⟩⟩
 simp only at h1 h2 ha hr h3
 subst h1 h2 h3
 have hbu := hwf.burns
 rcases acts with _ | n
 all_goals
  simp only [mmD, Qcu, Qao, List.map_cons, List.map_nil, List.cons_append, List.nil_append]
  repeat' (first
 | (intro (K' : KT) hK'; push_cast; (repeat' refine And.intro ?_ ?_); all_goals (first | (apply hK'; clear hK' K') | (refine ⟨trivial, trivial, ?_⟩; apply hK'; clear hK' K') | (intro hb; (try push_cast at hb); all_goals (intros; apply hK'; clear hK' K')) | (clear hK' K'; first | omega | skip)))
 | apply Qar | apply Qac | apply Qah | apply Qaj | apply Qau
 | apply Qap | apply Qax | apply Qas | apply Qam | apply Qaz | apply Qay
 | (refine Qaf ?_; push_cast) | apply Qag | refine Qaa (Qa3 _ (by omega) (by omega)) ?_ | refine Qaa (Qb0 _ (by omega) (by omega)) ?_ | refine Qaa (Qba _ (by omega) (by omega)) ?_ | refine Qaa (Qa5 _ (by omega) (by omega)) ?_
 | refine Qai rfl rfl ?_ | refine Qat rfl rfl ?_
 | (refine Qak (by push_cast; first | done | rfl) ?_ ?_ <;> intro hc <;> (try push_cast at hc))
 | refine Qaw rfl rfl rfl (by push_cast; first | done | rfl) ?_
 | refine Qav rfl rfl rfl (by push_cast; first | done | rfl) ?_ ?_
 | (intro (hc : (_ : Prop)); (try push_cast at hc)) | intro (hc : Qad) | intro (hc : Int) | intro (hc : Nat))
 all_goals
  first
      | (refine fin_disk0 (m := 9001) (wy := 9002) (V := V) (M := M) (way := (tks [] D.Queue)) (size := D.Base.length) (dead := D.Dead) (rest := []) ⟨hwf, rfl, rfl, ha, hr, rfl⟩ ?_ ?_ ?_ ?_; (focus (push_cast; done)); (focus (push_cast; done)); (focus ((push_cast; done))); (focus (simp [tvL, TV.ids, SV.ids, LV.ids, Qb1]; done)))
      | (refine fin_disk1 (m := 9001) (wy := 9002) (V := V) (M := M) (way := (tks [] D.Queue)) (size := D.Base.length) (dead := D.Dead) (rest := []) (ac := 9003) (n := _) ⟨hwf, rfl, rfl, ha, hr, rfl⟩ ?_ ?_ ?_ ?_; (focus (push_cast; done)); (focus (push_cast; done)); (focus ((push_cast; done))); (focus (simp [tvL, TV.ids, SV.ids, LV.ids, Qb1]; done)))
theorem Dead_fn (D : Qab) : Qcs Cx.P 31 [.l (.ptr 1 [] 0)] [(1, .obj DiskO D)] (tvL [.bool D.Dead]) [(1, .obj DiskO D)] := by
 refine Qcs.go2 (E := Cx.env) (fn := Try.f31) (res := [_]) _ (open_disk D [] (by simp [Qao]) (by simp)) Try.func31 Qub rfl rfl (by simp [Qb1, SV.ids, LV.ids]) (by simp [Qao]) (by kernel_rfl) rfl ?_
 intro hf
 try push_cast at hf
 rintro ⟨⟨V, M, way, acts, size, dead⟩, ⟨hwf, h1, h2, ha, hr, h3⟩⟩
 simp only at h1 h2 ha hr h3
 subst h1 h2 h3
 have hbu := hwf.burns
 rcases acts with _ | n
 all_goals
  simp only [mmD, Qcu, Qao, List.map_cons, List.map_nil, List.cons_append, List.nil_append]
  repeat' (first
 | (intro (K' : KT) hK'; push_cast; (repeat' refine And.intro ?_ ?_); all_goals (first | (apply hK'; clear hK' K') | (refine ⟨trivial, trivial, ?_⟩; apply hK'; clear hK' K') | (intro hb; (try push_cast at hb); all_goals (intros; apply hK'; clear hK' K')) | (clear hK' K'; first | omega | skip)))
 | apply Qar | apply Qac | apply Qah | apply Qaj | apply Qau
 | apply Qap | apply Qax | apply Qas | apply Qam | apply Qaz | apply Qay
 | (refine Qaf ?_; push_cast) | apply Qag | refine Qaa (Qa3 _ (by omega) (by omega)) ?_ | refine Qaa (Qb0 _ (by omega) (by omega)) ?_ | refine Qaa (Qba _ (by omega) (by omega)) ?_ | refine Qaa (Qa5 _ (by omega) (by omega)) ?_
 | refine Qai rfl rfl ?_ | refine Qat rfl rfl ?_
 | (refine Qak (by push_cast; first | done | rfl) ?_ ?_ <;> intro hc <;> (try push_cast at hc))
 | refine Qaw rfl rfl rfl (by push_cast; first | done | rfl) ?_
 | refine Qav rfl rfl rfl (by push_cast; first | done | rfl) ?_ ?_
 | (intro (hc : (_ : Prop)); (try push_cast at hc)) | intro (hc : Qad) | intro (hc : Int) | intro (hc : Nat))
 all_goals
  first
      | (refine fin_disk0 (m := 9001) (wy := 9002) (V := V) (M := M) (way := (tks [] D.Queue)) (size := D.Base.length) (dead := D.Dead) (rest := []) ⟨hwf, rfl, rfl, ha, hr, rfl⟩ ?_ ?_ ?_ ?_; (focus (push_cast; done)); (focus (push_cast; done)); (focus ((push_cast; done))); (focus (simp [tvL, TV.ids, SV.ids, LV.ids, Qb1]; done)))
      | (refine fin_disk1 (m := 9001) (wy := 9002) (V := V) (M := M) (way := (tks [] D.Queue)) (size := D.Base.length) (dead := D.Dead) (rest := []) (ac := 9003) (n := _) ⟨hwf, rfl, rfl, ha, hr, rfl⟩ ?_ ?_ ?_ ?_; (focus (push_cast; done)); (focus (push_cast; done)); (focus ((push_cast; done))); (focus (simp [tvL, TV.ids, SV.ids, LV.ids, Qb1]; done)))
theorem fuse_some {k : Int} (h : 0 ≤ k) : some k = if max k (-1) < 0 then none else some (max k (-1)) := by
 have h1 : ¬ max k (-1) < 0 := by omega
 have h2 : max k (-1) = k := by omega
 rw [if_neg h1, h2]
theorem fuse_none {k : Int} (h : ¬ 0 ≤ k) : (none : Option Int) = if max k (-1) < 0 then none else some (max k (-1)) := by
 have h1 : max k (-1) < 0 := by omega
 rw [if_pos h1]
theorem Fuse_fn (D : Qab) (k : Int) (hk : k ≤ 9223372036854775807) : Qcs Cx.P 27 [.l (.ptr 1 [] 0), .l (.int .i64 k)] [(1, .obj DiskO D)] (tvL []) [(1, .obj DiskO (dFuse D k))] := by
 refine Qcs.go2 (E := Cx.env) (fn := Try.f27) (res := []) _ (open_disk D [] (by simp [Qao]) (by simp)) Try.func27 Qu1 rfl rfl (by simp [Qb1, SV.ids, LV.ids]) (by simp [Qao]) (by kernel_rfl) rfl ?_
 intro hf
 try push_cast at hf
 rintro ⟨⟨V, M, way, acts, size, dead⟩, ⟨hwf, h1, h2, ha, hr, h3⟩⟩
 simp only at h1 h2 ha hr h3
 subst h1 h2 h3
 have hbu := hwf.burns
 rcases acts with _ | n
 all_goals
  simp only [mmD, Qcu, Qao, List.map_cons, List.map_nil, List.cons_append, List.nil_append]
  repeat' (first
 | (intro (K' : KT) hK'; push_cast; (repeat' refine And.intro ?_ ?_); all_goals (first | (apply hK'; clear hK' K') | (refine ⟨trivial, trivial, ?_⟩; apply hK'; clear hK' K') | (intro hb; (try push_cast at hb); all_goals (intros; apply hK'; clear hK' K')) | (clear hK' K'; first | omega | skip)))
 | apply Qar | apply Qac | apply Qah | apply Qaj | apply Qau
 | apply Qap | apply Qax | apply Qas | apply Qam | apply Qaz | apply Qay
 | (refine Qaf ?_; push_cast) | apply Qag | refine Qaa (Qa3 _ (by omega) (by omega)) ?_ | refine Qaa (Qb0 _ (by omega) (by omega)) ?_ | refine Qaa (Qba _ (by omega) (by omega)) ?_ | refine Qaa (Qa5 _ (by omega) (by omega)) ?_
 | refine Qai rfl rfl ?_ | refine Qat rfl rfl ?_
 | (refine Qak (by push_cast; first | done | rfl) ?_ ?_ <;> intro hc <;> (try push_cast at hc))
 | refine Qaw rfl rfl rfl (by push_cast; first | done | rfl) ?_
 | refine Qav rfl rfl rfl (by push_cast; first | done | rfl) ?_ ?_
 | (intro (hc : (_ : Prop)); (try push_cast at hc)) | intro (hc : Qad) | intro (hc : Int) | intro (hc : Nat))
 all_goals
  have hw' : DWf (dFuse D k) := ⟨hwf.many, hwf.sec, hwf.qs, hwf.qn, by simp only [dFuse]; omega⟩
 ·exact fin_disk1 (m := 9001) (wy := 9002) (ac := 3) (n := k) (V := V) (M := M) (way := tks [] D.Queue) (size := D.Base.length) (dead := D.Dead) (rest := []) ⟨hw', rfl, rfl, fuse_some (by omega), hr, rfl⟩ (by push_cast) (by push_cast) (by push_cast) (by simp [tvL, TV.ids, Qb1])
 ·exact fin_disk0 (m := 9001) (wy := 9002) (V := V) (M := M) (way := tks [] D.Queue) (size := D.Base.length) (dead := D.Dead) (rest := []) ⟨hw', rfl, rfl, fuse_none (by omega), hr, rfl⟩ (by push_cast) (by push_cast) (by push_cast) (by simp [tvL, TV.ids, Qb1])
 ·exact fin_disk1 (m := 9001) (wy := 9002) (ac := 3) (n := k) (V := V) (M := M) (way := tks [] D.Queue) (size := D.Base.length) (dead := D.Dead) (rest := []) ⟨hw', rfl, rfl, fuse_some (by omega), hr, rfl⟩ (by push_cast) (by push_cast) (by push_cast) (by simp [tvL, TV.ids, Qb1])
 ·exact fin_disk0 (m := 9001) (wy := 9002) (V := V) (M := M) (way := tks [] D.Queue) (size := D.Base.length) (dead := D.Dead) (rest := []) ⟨hw', rfl, rfl, fuse_none (by omega), hr, rfl⟩ (by push_cast) (by push_cast) (by push_cast) (by simp [tvL, TV.ids, Qb1])
end Go.Proofs.Ytnmjcdlgfimnaaa
namespace Go.Proofs.Ytnmjcdlgfimnaaa
set_option linter.unusedSimpArgs false
set_option linter.unusedVariables false
set_option maxRecDepth 20000
attribute [local irreducible] Qb3 Qa9 vcA Qbp Wc
set_option maxHeartbeats 8000000
theorem there_con : Qkc Cx.P 80 DiskO (.pair (.int .i64) .unit) (fun _ _ => True) (fun D x => [.bool (dThere D x.1)]) (fun D _ => D) := ⟨Quw, fun D x _ => there_fn D x.1⟩
theorem act_con : Qkc Cx.P 81 DiskO .unit (fun _ _ => True) (fun D _ => [.bool (dSpend D).2]) (fun D _ => (dSpend D).1) := ⟨Qtf, fun D _ _ => act_fn D⟩
theorem Size_con : Qkc Cx.P 25 DiskO .unit (fun _ _ => True) (fun D _ => [.int .i64 D.Base.length]) (fun D _ => D) := ⟨Qtu, fun D _ _ => Size_fn D⟩
theorem Dead_con : Qkc Cx.P 31 DiskO .unit (fun _ _ => True) (fun D _ => [.bool D.Dead]) (fun D _ => D) := ⟨Qub, fun D _ _ => Dead_fn D⟩
theorem Fuse_con : Qkc Cx.P 27 DiskO (.pair (.int .i64) .unit) (fun _ x => x.1 ≤ 9223372036854775807) (fun _ _ => []) (fun D x => dFuse D x.1) := ⟨Qu1, fun D x h => Fuse_fn D x.1 h⟩
theorem Get_fn (D : Qab) (k : Int) : Qcs Cx.P 26 [.l (.ptr 1 [] 0), .l (.int .i64 k)] [(1, .obj DiskO D)] (tvL [.dat (.arr 64 (.int .u8)) (dGet D k).1, .int .i64 (dGet D k).2]) [(1, .obj DiskO D)] := by
 refine Qcs.go2 (E := Cx.env) (fn := Try.f26) (res := [_, _]) _ (Qc2.refl _) Try.func26 Qtg rfl rfl (by simp [Qb1, SV.ids, LV.ids]) (by simp [Qao]) (by kernel_rfl) rfl ?_
 intro hf
 try push_cast at hf
 intro _
 simp only [mmD, Qcu, Qao, List.map_cons, List.map_nil, List.cons_append, List.nil_append]
 repeat' (first
 | (intro (K' : KT) hK'; push_cast; (repeat' refine And.intro ?_ ?_); all_goals (first | (apply hK'; clear hK' K') | (refine ⟨trivial, trivial, ?_⟩; apply hK'; clear hK' K') | (intro hb; (try push_cast at hb); all_goals (intros; apply hK'; clear hK' K')) | ((first | refine Qbr there_con (fun _ _ => rfl) ?_); push_cast; (repeat' refine And.intro ?_ ?_); all_goals (first | (apply hK'; clear hK' K') | (intros; apply hK'; clear hK' K') | (clear hK' K'; first | omega | skip))) | (clear hK' K'; first | omega | skip)))
 | apply Qar | refine Qbo (id := 1) ?_ | apply Qac | apply Qah | apply Qaj | apply Qau
 | apply Qap | apply Qax | apply Qas | apply Qam | apply Qaz | apply Qay
 | (refine Qaf ?_; push_cast) | apply Qag | refine Qaa (Qa3 _ (by omega) (by omega)) ?_ | refine Qaa (Qb0 _ (by omega) (by omega)) ?_ | refine Qaa (Qba _ (by omega) (by omega)) ?_ | refine Qaa (Qa5 _ (by omega) (by omega)) ?_
 | refine Qai rfl rfl ?_ | refine Qat rfl rfl ?_
 | (refine Qak (by push_cast; first | done | rfl) ?_ ?_ <;> intro hc <;> (try push_cast at hc))
 | refine Qaw rfl rfl rfl (by push_cast; first | done | rfl) ?_
 | refine Qav rfl rfl rfl (by push_cast; first | done | rfl) ?_ ?_
 | (intro (hc : (_ : Prop)); (try push_cast at hc)) | intro (hc : Qad) | intro (hc : Int) | intro (hc : Nat))
 refine Qhc (Qhf _ (open_disk D _ (by simp [Qao]) (by simp [Box.ids, Qez, LV.ids])) (Qbb.refl _) (by simp) (by push_cast; first | done | rfl) ?_)
 rintro ⟨⟨V, M, way, acts, size, dead⟩, ⟨hwf, h1, h2, ha, hr, h3⟩⟩
 simp only at h1 h2 ha hr h3
 subst h1 h2 h3
 have hbu := hwf.burns
 have hml := rows_len hr hwf k
 rcases acts with _ | n
 all_goals
  simp only [mmD, Qcu, Qao, List.map_cons, List.map_nil, List.cons_append, List.nil_append]
  repeat' (first
 | (intro (K' : KT) hK'; push_cast; (repeat' refine And.intro ?_ ?_); all_goals (first | (apply hK'; clear hK' K') | (refine ⟨trivial, trivial, ?_⟩; apply hK'; clear hK' K') | (intro hb; (try push_cast at hb); all_goals (intros; apply hK'; clear hK' K')) | (clear hK' K'; first | omega | skip)))
 | apply Qar | apply Qac | apply Qah | apply Qaj | apply Qau
 | apply Qap | apply Qax | apply Qas | (refine Qjp rfl (by push_cast; first | done | rfl) rfl (by push_cast) (by push_cast; first | done | rfl) (by push_cast; first | done | rfl) ?_) | apply Qam | apply Qaz | apply Qay
 | (refine Qaf ?_; push_cast) | apply Qag | refine Qaa (Qa3 _ (by omega) (by omega)) ?_ | refine Qaa (Qb0 _ (by omega) (by omega)) ?_ | refine Qaa (Qba _ (by omega) (by omega)) ?_ | refine Qaa (Qa5 _ (by omega) (by omega)) ?_
 | refine Qai rfl rfl ?_ | refine Qat rfl rfl ?_
 | (refine Qak (by push_cast; first | done | rfl) ?_ ?_ <;> intro hc <;> (try push_cast at hc))
 | refine Qaw rfl rfl rfl (by push_cast; first | done | rfl) ?_
 | refine Qav rfl rfl rfl (by push_cast; first | done | rfl) ?_ ?_
 | (intro (hc : (_ : Prop)); (try push_cast at hc)) | intro (hc : Qad) | intro (hc : Int) | intro (hc : Nat))
 ·rw [get_none (D := D) (k := k) (by simpa using hc)]
  first
      | (refine fin_disk0 (m := 9001) (wy := 9002) (V := V) (M := M) (way := (tks [] D.Queue)) (size := D.Base.length) (dead := D.Dead) (rest := []) ⟨hwf, rfl, rfl, ha, hr, rfl⟩ ?_ ?_ ?_ ?_; (focus (push_cast; done)); (focus (push_cast; done)); (focus (push_cast; done)); (focus (simp [tvL, TV.ids, SV.ids, LV.ids, Qb1]; done)))
      | (refine fin_disk1 (m := 9001) (wy := 9002) (V := V) (M := M) (way := (tks [] D.Queue)) (size := D.Base.length) (dead := D.Dead) (rest := []) (ac := 9003) (n := _) ⟨hwf, rfl, rfl, ha, hr, rfl⟩ ?_ ?_ ?_ ?_; (focus (push_cast; done)); (focus (push_cast; done)); (focus (push_cast; done)); (focus (simp [tvL, TV.ids, SV.ids, LV.ids, Qb1]; done)))
      | (refine fin_disk0r (m := 9001) (wy := 9002) (V := V) (M := M) (way := (tks [] D.Queue)) (size := D.Base.length) (dead := D.Dead) (rest := []) (k := k) (id := 6006) (l := (M k)) ⟨hwf, rfl, rfl, ha, by rw [updM_self]; exact hr, rfl⟩ ?_ ?_ ?_ ?_; (focus (push_cast; done)); (focus (push_cast; done)); (focus (push_cast; done)); (focus (simp [tvL, TV.ids, SV.ids, LV.ids, Qb1]; done)))
      | (refine fin_disk1r (m := 9001) (wy := 9002) (V := V) (M := M) (way := (tks [] D.Queue)) (size := D.Base.length) (dead := D.Dead) (rest := []) (ac := 9003) (n := _) (k := k) (id := 6006) (l := (M k)) ⟨hwf, rfl, rfl, ha, by rw [updM_self]; exact hr, rfl⟩ ?_ ?_ ?_ ?_; (focus (push_cast; done)); (focus (push_cast; done)); (focus (push_cast; done)); (focus (simp [tvL, TV.ids, SV.ids, LV.ids, Qb1]; done)))
 ·rename_i hd
  rw [get_zero hr (k := k) (by simpa using hd) (by omega)]
  first
      | (refine fin_disk0 (m := 9001) (wy := 9002) (V := V) (M := M) (way := (tks [] D.Queue)) (size := D.Base.length) (dead := D.Dead) (rest := []) ⟨hwf, rfl, rfl, ha, hr, rfl⟩ ?_ ?_ ?_ ?_; (focus (push_cast; done)); (focus (push_cast; done)); (focus (push_cast; done)); (focus (simp [tvL, TV.ids, SV.ids, LV.ids, Qb1]; done)))
      | (refine fin_disk1 (m := 9001) (wy := 9002) (V := V) (M := M) (way := (tks [] D.Queue)) (size := D.Base.length) (dead := D.Dead) (rest := []) (ac := 9003) (n := _) ⟨hwf, rfl, rfl, ha, hr, rfl⟩ ?_ ?_ ?_ ?_; (focus (push_cast; done)); (focus (push_cast; done)); (focus (push_cast; done)); (focus (simp [tvL, TV.ids, SV.ids, LV.ids, Qb1]; done)))
      | (refine fin_disk0r (m := 9001) (wy := 9002) (V := V) (M := M) (way := (tks [] D.Queue)) (size := D.Base.length) (dead := D.Dead) (rest := []) (k := k) (id := 6006) (l := (M k)) ⟨hwf, rfl, rfl, ha, by rw [updM_self]; exact hr, rfl⟩ ?_ ?_ ?_ ?_; (focus (push_cast; done)); (focus (push_cast; done)); (focus (push_cast; done)); (focus (simp [tvL, TV.ids, SV.ids, LV.ids, Qb1]; done)))
      | (refine fin_disk1r (m := 9001) (wy := 9002) (V := V) (M := M) (way := (tks [] D.Queue)) (size := D.Base.length) (dead := D.Dead) (rest := []) (ac := 9003) (n := _) (k := k) (id := 6006) (l := (M k)) ⟨hwf, rfl, rfl, ha, by rw [updM_self]; exact hr, rfl⟩ ?_ ?_ ?_ ?_; (focus (push_cast; done)); (focus (push_cast; done)); (focus (push_cast; done)); (focus (simp [tvL, TV.ids, SV.ids, LV.ids, Qb1]; done)))
 ·rename_i hd
  have e : (0 + (((M k).length : Int) - 1)).toNat = (M k).length - 1 := by omega
  rw [get_some hr (k := k) (by simpa using hd) (by omega), e]
  first
      | (refine fin_disk0 (m := 9001) (wy := 9002) (V := V) (M := M) (way := (tks [] D.Queue)) (size := D.Base.length) (dead := D.Dead) (rest := []) ⟨hwf, rfl, rfl, ha, hr, rfl⟩ ?_ ?_ ?_ ?_; (focus (push_cast; done)); (focus (push_cast; done)); (focus (push_cast; done)); (focus (simp [tvL, TV.ids, SV.ids, LV.ids, Qb1]; done)))
      | (refine fin_disk1 (m := 9001) (wy := 9002) (V := V) (M := M) (way := (tks [] D.Queue)) (size := D.Base.length) (dead := D.Dead) (rest := []) (ac := 9003) (n := _) ⟨hwf, rfl, rfl, ha, hr, rfl⟩ ?_ ?_ ?_ ?_; (focus (push_cast; done)); (focus (push_cast; done)); (focus (push_cast; done)); (focus (simp [tvL, TV.ids, SV.ids, LV.ids, Qb1]; done)))
      | (refine fin_disk0r (m := 9001) (wy := 9002) (V := V) (M := M) (way := (tks [] D.Queue)) (size := D.Base.length) (dead := D.Dead) (rest := []) (k := k) (id := 6006) (l := (M k)) ⟨hwf, rfl, rfl, ha, by rw [updM_self]; exact hr, rfl⟩ ?_ ?_ ?_ ?_; (focus (push_cast; done)); (focus (push_cast; done)); (focus (push_cast; done)); (focus (simp [tvL, TV.ids, SV.ids, LV.ids, Qb1]; done)))
      | (refine fin_disk1r (m := 9001) (wy := 9002) (V := V) (M := M) (way := (tks [] D.Queue)) (size := D.Base.length) (dead := D.Dead) (rest := []) (ac := 9003) (n := _) (k := k) (id := 6006) (l := (M k)) ⟨hwf, rfl, rfl, ha, by rw [updM_self]; exact hr, rfl⟩ ?_ ?_ ?_ ?_; (focus (push_cast; done)); (focus (push_cast; done)); (focus (push_cast; done)); (focus (simp [tvL, TV.ids, SV.ids, LV.ids, Qb1]; done)))
 ·rw [get_none (D := D) (k := k) (by simpa using hc)]
  first
      | (refine fin_disk0 (m := 9001) (wy := 9002) (V := V) (M := M) (way := (tks [] D.Queue)) (size := D.Base.length) (dead := D.Dead) (rest := []) ⟨hwf, rfl, rfl, ha, hr, rfl⟩ ?_ ?_ ?_ ?_; (focus (push_cast; done)); (focus (push_cast; done)); (focus (push_cast; done)); (focus (simp [tvL, TV.ids, SV.ids, LV.ids, Qb1]; done)))
      | (refine fin_disk1 (m := 9001) (wy := 9002) (V := V) (M := M) (way := (tks [] D.Queue)) (size := D.Base.length) (dead := D.Dead) (rest := []) (ac := 9003) (n := _) ⟨hwf, rfl, rfl, ha, hr, rfl⟩ ?_ ?_ ?_ ?_; (focus (push_cast; done)); (focus (push_cast; done)); (focus (push_cast; done)); (focus (simp [tvL, TV.ids, SV.ids, LV.ids, Qb1]; done)))
      | (refine fin_disk0r (m := 9001) (wy := 9002) (V := V) (M := M) (way := (tks [] D.Queue)) (size := D.Base.length) (dead := D.Dead) (rest := []) (k := k) (id := 6006) (l := (M k)) ⟨hwf, rfl, rfl, ha, by rw [updM_self]; exact hr, rfl⟩ ?_ ?_ ?_ ?_; (focus (push_cast; done)); (focus (push_cast; done)); (focus (push_cast; done)); (focus (simp [tvL, TV.ids, SV.ids, LV.ids, Qb1]; done)))
      | (refine fin_disk1r (m := 9001) (wy := 9002) (V := V) (M := M) (way := (tks [] D.Queue)) (size := D.Base.length) (dead := D.Dead) (rest := []) (ac := 9003) (n := _) (k := k) (id := 6006) (l := (M k)) ⟨hwf, rfl, rfl, ha, by rw [updM_self]; exact hr, rfl⟩ ?_ ?_ ?_ ?_; (focus (push_cast; done)); (focus (push_cast; done)); (focus (push_cast; done)); (focus (simp [tvL, TV.ids, SV.ids, LV.ids, Qb1]; done)))
 ·rename_i hd
  rw [get_zero hr (k := k) (by simpa using hd) (by omega)]
  first
      | (refine fin_disk0 (m := 9001) (wy := 9002) (V := V) (M := M) (way := (tks [] D.Queue)) (size := D.Base.length) (dead := D.Dead) (rest := []) ⟨hwf, rfl, rfl, ha, hr, rfl⟩ ?_ ?_ ?_ ?_; (focus (push_cast; done)); (focus (push_cast; done)); (focus (push_cast; done)); (focus (simp [tvL, TV.ids, SV.ids, LV.ids, Qb1]; done)))
      | (refine fin_disk1 (m := 9001) (wy := 9002) (V := V) (M := M) (way := (tks [] D.Queue)) (size := D.Base.length) (dead := D.Dead) (rest := []) (ac := 9003) (n := _) ⟨hwf, rfl, rfl, ha, hr, rfl⟩ ?_ ?_ ?_ ?_; (focus (push_cast; done)); (focus (push_cast; done)); (focus (push_cast; done)); (focus (simp [tvL, TV.ids, SV.ids, LV.ids, Qb1]; done)))
      | (refine fin_disk0r (m := 9001) (wy := 9002) (V := V) (M := M) (way := (tks [] D.Queue)) (size := D.Base.length) (dead := D.Dead) (rest := []) (k := k) (id := 6006) (l := (M k)) ⟨hwf, rfl, rfl, ha, by rw [updM_self]; exact hr, rfl⟩ ?_ ?_ ?_ ?_; (focus (push_cast; done)); (focus (push_cast; done)); (focus (push_cast; done)); (focus (simp [tvL, TV.ids, SV.ids, LV.ids, Qb1]; done)))
      | (refine fin_disk1r (m := 9001) (wy := 9002) (V := V) (M := M) (way := (tks [] D.Queue)) (size := D.Base.length) (dead := D.Dead) (rest := []) (ac := 9003) (n := _) (k := k) (id := 6006) (l := (M k)) ⟨hwf, rfl, rfl, ha, by rw [updM_self]; exact hr, rfl⟩ ?_ ?_ ?_ ?_; (focus (push_cast; done)); (focus (push_cast; done)); (focus (push_cast; done)); (focus (simp [tvL, TV.ids, SV.ids, LV.ids, Qb1]; done)))
 ·rename_i hd
  have e : (0 + (((M k).length : Int) - 1)).toNat = (M k).length - 1 := by omega
  rw [get_some hr (k := k) (by simpa using hd) (by omega), e]
  first
      | (refine fin_disk0 (m := 9001) (wy := 9002) (V := V) (M := M) (way := (tks [] D.Queue)) (size := D.Base.length) (dead := D.Dead) (rest := []) ⟨hwf, rfl, rfl, ha, hr, rfl⟩ ?_ ?_ ?_ ?_; (focus (push_cast; done)); (focus (push_cast; done)); (focus (push_cast; done)); (focus (simp [tvL, TV.ids, SV.ids, LV.ids, Qb1]; done)))
      | (refine fin_disk1 (m := 9001) (wy := 9002) (V := V) (M := M) (way := (tks [] D.Queue)) (size := D.Base.length) (dead := D.Dead) (rest := []) (ac := 9003) (n := _) ⟨hwf, rfl, rfl, ha, hr, rfl⟩ ?_ ?_ ?_ ?_; (focus (push_cast; done)); (focus (push_cast; done)); (focus (push_cast; done)); (focus (simp [tvL, TV.ids, SV.ids, LV.ids, Qb1]; done)))
      | (refine fin_disk0r (m := 9001) (wy := 9002) (V := V) (M := M) (way := (tks [] D.Queue)) (size := D.Base.length) (dead := D.Dead) (rest := []) (k := k) (id := 6006) (l := (M k)) ⟨hwf, rfl, rfl, ha, by rw [updM_self]; exact hr, rfl⟩ ?_ ?_ ?_ ?_; (focus (push_cast; done)); (focus (push_cast; done)); (focus (push_cast; done)); (focus (simp [tvL, TV.ids, SV.ids, LV.ids, Qb1]; done)))
      | (refine fin_disk1r (m := 9001) (wy := 9002) (V := V) (M := M) (way := (tks [] D.Queue)) (size := D.Base.length) (dead := D.Dead) (rest := []) (ac := 9003) (n := _) (k := k) (id := 6006) (l := (M k)) ⟨hwf, rfl, rfl, ha, by rw [updM_self]; exact hr, rfl⟩ ?_ ?_ ?_ ?_; (focus (push_cast; done)); (focus (push_cast; done)); (focus (push_cast; done)); (focus (simp [tvL, TV.ids, SV.ids, LV.ids, Qb1]; done)))
theorem Get_con : Qkc Cx.P 26 DiskO (.pair (.int .i64) .unit) (fun _ _ => True) (fun D x => [.dat (.arr 64 (.int .u8)) (dGet D x.1).1, .int .i64 (dGet D x.1).2]) (fun D _ => D) := ⟨Qtg, fun D x _ => Get_fn D x.1⟩
end Go.Proofs.Ytnmjcdlgfimnaaa
namespace Go.Proofs.Ytnmjcdlgfimnaaa
set_option linter.unusedSimpArgs false
set_option linter.unusedVariables false
set_option maxRecDepth 20000
attribute [local irreducible] Qb3 Qa9 vcA Qbp Wc
set_option maxHeartbeats 8000000
theorem Put_fn (D : Qab) (k : Int) (x : List Int) (hq : D.Queue.length < 1000000000) :
    Qcs Cx.P 29 [.l (.ptr 1 [] 0), .l (.int .i64 k), .l (.dat (.arr 64 (.int .u8)) x)] [(1, .obj DiskO D)] (tvL [.int .i64 (dPut D k x).2]) [(1, .obj DiskO (dPut D k x).1)] := by
 refine Qcs.go2 (E := Cx.env) (fn := Try.f29) (res := [_]) _ (Qc2.refl _) Try.func29 Qt5 rfl rfl (by simp [Qb1, SV.ids, LV.ids]) (by simp [Qao]) (by kernel_rfl) rfl ?_
 intro hf
 try push_cast at hf
 intro _
 simp only [mmD, Qcu, Qao, List.map_cons, List.map_nil, List.cons_append, List.nil_append]
 have hqs := dSpend_queue D
 have hbs := dSpend_base D
 repeat' (first
 | (intro (K' : KT) hK'; push_cast; (repeat' refine And.intro ?_ ?_); all_goals (first | (apply hK'; clear hK' K') | (refine ⟨trivial, trivial, ?_⟩; apply hK'; clear hK' K') | (intro hb; (try push_cast at hb); all_goals (intros; apply hK'; clear hK' K')) | ((first | refine Qbr there_con (fun _ _ => rfl) ?_ | refine Qbr act_con (fun _ _ => rfl) ?_); push_cast; (repeat' refine And.intro ?_ ?_); all_goals (first | (apply hK'; clear hK' K') | (intros; apply hK'; clear hK' K') | (clear hK' K'; first | omega | skip))) | (clear hK' K'; first | omega | skip)))
 | apply Qar | apply Qa0 | refine Qbo (id := 3) ?_ | apply Qac | apply Qah | apply Qaj | apply Qau
 | apply Qap | apply Qax | apply Qas | apply Qaq | apply Qa1 | apply Qal | apply Qae rfl | apply Qam | apply Qaz | apply Qay
 | (refine Qaf ?_; push_cast) | apply Qag | refine Qaa (Qa3 _ (by omega) (by omega)) ?_ | refine Qaa (Qb0 _ (by omega) (by omega)) ?_ | refine Qaa (Qba _ (by omega) (by omega)) ?_ | refine Qaa (Qa5 _ (by omega) (by omega)) ?_
 | refine Qai rfl rfl ?_ | refine Qat rfl rfl ?_
 | (refine Qak (by push_cast; first | done | rfl) ?_ ?_ <;> intro hc <;> (try push_cast at hc))
 | refine Qaw rfl rfl rfl (by push_cast; first | done | rfl) ?_
 | refine Qav rfl rfl rfl (by push_cast; first | done | rfl) ?_ ?_
 | refine Qbf (id := 6) [0, 1, 2, 3, 4] [6] [1] (.or 5 (.or 6 (.done) (.stop)) (.stop)) wide (by kernel_rfl) ?_
 | refine Qbf (id := 7) [0, 1, 2, 3, 4, 5, 6, 7, 8, 9, 10] [18] [1] (.or 11 (.free 12 (.free 13 (.or 14 (.or 15 (.free 16 (.free 17 (.or 18 (.done) (.stop)))) (.stop)) (.stop)))) (.stop)) wide (by kernel_rfl) ?_
 | refine Qbf (id := 8) [0, 1, 2, 3, 4, 5, 6, 7, 8, 9, 11] [14] [1, 5] (.or 10 (.or 12 (.or 13 (.or 14 (.done) (.stop)) (.stop)) (.stop)) (.or 12 (.or 10 (.or 13 (.or 14 (.done) (.stop)) (.stop)) (.stop)) (.stop))) wide (by kernel_rfl) ?_
 | apply Qby | apply Qbk | apply Qbn
 | refine Qbx rfl rfl rfl ?_ | refine Qbl rfl rfl rfl ?_
 | (refine Qbm rfl rfl rfl rfl ?_ ?_; rotate_left) | (refine Qbe rfl rfl rfl rfl ?_ ?_; rotate_left)
 | (refine Qbz rfl rfl rfl rfl ?_ ?_; rotate_left; focus (intro K' hK'; push_cast; (repeat' refine And.intro ?_ ?_); all_goals (first | (refine hK' _ _ _ _ _ (by push_cast) (by push_cast; first | done | rfl) ?_; clear hK' K') | ((first | refine Qbr there_con (fun _ _ => rfl) ?_ | refine Qbr act_con (fun _ _ => rfl) ?_); push_cast; (repeat' refine And.intro ?_ ?_); all_goals (first | (refine hK' _ _ _ _ _ (by push_cast) (by push_cast; first | done | rfl) ?_; clear hK' K') | (intros; refine hK' _ _ _ _ _ (by push_cast) (by push_cast; first | done | rfl) ?_; clear hK' K') | (clear hK' K'; first | omega | skip))) | (clear hK' K'; first | omega | skip))))
 | refine Qcc rfl rfl rfl rfl (by push_cast; first | done | rfl) ?_
 | refine Qcd rfl rfl rfl rfl (by push_cast; first | done | rfl) ?_ ?_
 | (intro (hc : (_ : Prop)); (try push_cast at hc)) | intro (hc : Qad) | intro (hc : Int) | intro (hc : Nat))
 ·have h : dThere D k = false := by simpa using hc
  have e : dPut D k x = (D, 81) := by simp [dPut, h]
  rw [e]
  refine Qc9.fin ⟨[(1, .obj DiskO D)], ?_, ?_, ?_, Qbb.refl _, ?_⟩
  ·push_cast
  ·push_cast
  ·simp [Qao]
  ·simp [tvL, TV.ids, SV.ids, LV.ids]
 ·have hth : dThere D k = true := by
   have : (!dThere D k) = false := by assumption
   simpa using this
  obtain ⟨hk0, hk1⟩ := there_iff hth
  refine Qhc (Qhf _ (open_disk (dSpend D).1 _ (by simp [Qao]) (by simp [Box.ids, Qez, LV.ids])) (Qbb.refl _) (by simp) (by push_cast; first | done | rfl) ?_)
  rintro ⟨⟨V, M, way, acts, size, dead⟩, ⟨hwf, h1, h2, ha, hr, h3⟩⟩
  simp only at h1 h2 ha hr h3
  subst h1 h2 h3
  have hbu := hwf.burns
  have hml := rows_len hr hwf k
  have htk := tks_len (dSpend D).1.Queue []
  have hql : (dSpend D).1.Queue.length = D.Queue.length := by rw [hqs]
  have hbl : (dSpend D).1.Base.length = D.Base.length := by rw [hbs]
  rcases acts with _ | n
  all_goals
   simp only [mmD, Qcu, Qao, List.map_cons, List.map_nil, List.cons_append, List.nil_append]
   repeat' (first
 | (intro (K' : KT) hK'; push_cast; (repeat' refine And.intro ?_ ?_); all_goals (first | (apply hK'; clear hK' K') | (refine ⟨trivial, trivial, ?_⟩; apply hK'; clear hK' K') | (intro hb; (try push_cast at hb); all_goals (intros; apply hK'; clear hK' K')) | (clear hK' K'; first | omega | skip)))
 | apply Qar | apply Qa0 | apply Qac | apply Qah | apply Qaj | apply Qau
 | apply Qap | apply Qax | apply Qas | apply Qaq | apply Qa1 | apply Qal | apply Qae rfl | apply Qam | apply Qaz | apply Qay
 | (refine Qaf ?_; push_cast) | apply Qag | refine Qaa (Qa3 _ (by omega) (by omega)) ?_ | refine Qaa (Qb0 _ (by omega) (by omega)) ?_ | refine Qaa (Qba _ (by omega) (by omega)) ?_ | refine Qaa (Qa5 _ (by omega) (by omega)) ?_
 | refine Qai rfl rfl ?_ | refine Qat rfl rfl ?_
 | (refine Qak (by push_cast; first | done | rfl) ?_ ?_ <;> intro hc <;> (try push_cast at hc))
 | refine Qaw rfl rfl rfl (by push_cast; first | done | rfl) ?_
 | refine Qav rfl rfl rfl (by push_cast; first | done | rfl) ?_ ?_
 | refine Qbf (id := 6) [0, 1, 2, 3, 4] [6] [1] (.or 5 (.or 6 (.done) (.stop)) (.stop)) wide (by kernel_rfl) ?_
 | refine Qbf (id := 7) [0, 1, 2, 3, 4, 5, 6, 7, 8, 9, 10] [18] [1] (.or 11 (.free 12 (.free 13 (.or 14 (.or 15 (.free 16 (.free 17 (.or 18 (.done) (.stop)))) (.stop)) (.stop)))) (.stop)) wide (by kernel_rfl) ?_
 | refine Qbf (id := 8) [0, 1, 2, 3, 4, 5, 6, 7, 8, 9, 11] [14] [1, 5] (.or 10 (.or 12 (.or 13 (.or 14 (.done) (.stop)) (.stop)) (.stop)) (.or 12 (.or 10 (.or 13 (.or 14 (.done) (.stop)) (.stop)) (.stop)) (.stop))) wide (by kernel_rfl) ?_
 | apply Qby | apply Qbk | apply Qbn
 | refine Qbx rfl rfl rfl ?_ | refine Qbl rfl rfl rfl ?_
 | (refine Qbm rfl rfl rfl rfl ?_ ?_; rotate_left) | (refine Qbe rfl rfl rfl rfl ?_ ?_; rotate_left)
 | (refine Qbz rfl rfl rfl rfl ?_ ?_; rotate_left; focus (intro K' hK'; push_cast; (repeat' refine And.intro ?_ ?_); all_goals (first | (refine hK' _ _ _ _ _ (by push_cast) (by push_cast; first | done | rfl) ?_; clear hK' K') | (clear hK' K'; first | omega | skip))))
 | refine Qcc rfl rfl rfl rfl (by push_cast; first | done | rfl) ?_
 | refine Qcd rfl rfl rfl rfl (by push_cast; first | done | rfl) ?_ ?_
 | (intro (hc : (_ : Prop)); (try push_cast at hc)) | intro (hc : Qad) | intro (hc : Int) | intro (hc : Nat))
  all_goals
   first
   | (have hs : (dSpend D).2 = false := by (have : (!(dSpend D).2) = true := by assumption); simpa using this
      have e : dPut D k x = ((dSpend D).1, 82) := by simp [dPut, hth, hs]
      rw [e]
      first
      | (refine fin_disk0 (m := 9001) (wy := 9002) (V := (by assumption)) (M := M) (way := (tks [] (dSpend D).1.Queue)) (size := (dSpend D).1.Base.length) (dead := (dSpend D).1.Dead) (rest := []) ⟨hwf, rfl, rfl, ha, hr, rfl⟩ ?_ ?_ ?_ ?_; (focus (push_cast; done)); (focus (push_cast; done)); (focus (push_cast; done)); (focus (simp [tvL, TV.ids, SV.ids, LV.ids, Qb1]; done)))
      | (refine fin_disk1 (m := 9001) (wy := 9002) (V := (by assumption)) (M := M) (way := (tks [] (dSpend D).1.Queue)) (size := (dSpend D).1.Base.length) (dead := (dSpend D).1.Dead) (rest := []) (ac := 9003) (n := _) ⟨hwf, rfl, rfl, ha, hr, rfl⟩ ?_ ?_ ?_ ?_; (focus (push_cast; done)); (focus (push_cast; done)); (focus (push_cast; done)); (focus (simp [tvL, TV.ids, SV.ids, LV.ids, Qb1]; done))))
   | (have hs : (dSpend D).2 = true := by (have : (!(dSpend D).2) = false := by assumption); simpa using this
      have e : dPut D k x = ({ (dSpend D).1 with Queue := (dSpend D).1.Queue ++ [⟨x, k⟩] }, 0) := by simp [dPut, hth, hs]
      rw [e]
      have key : ∀ (V : Int → Value) (l : List (List Int)), (∃ l0, l = l0 ++ [x] ∧ (((M k).length = 0 ∧ l0 = [Qc1 64 0]) ∨ ((M k).length ≠ 0 ∧ l0 = M k))) → DOk _ _ := fun V l h => DOk_put (V := V) hwf hr hf.2.1 hk0 (by omega) (by omega) ha h
      first
      | (refine fin_disk0 (m := 9001) (wy := 45) (V := ‹Int → Value›) (M := Qf8 M k (M k ++ [x])) (way := tks [] (dSpend D).1.Queue ++ [⟨k, ((M k).length : Int)⟩]) (size := (dSpend D).1.Base.length) (dead := (dSpend D).1.Dead) (rest := []) ?_ ?_ ?_ ?_ ?_; (focus (have := key ‹Int → Value› (M k ++ [x]) ⟨M k, rfl, .inr ⟨by omega, rfl⟩⟩; simpa using this)); (focus (push_cast; done)); (focus (push_cast; done)); (focus (push_cast; done)); (focus (simp [tvL, TV.ids, SV.ids, LV.ids, Qb1]; done)))
      | (refine fin_disk0 (m := 9001) (wy := 45) (V := ‹Int → Value›) (M := Qf8 M k [Qc1 64 0, x]) (way := tks [] (dSpend D).1.Queue ++ [⟨k, 1⟩]) (size := (dSpend D).1.Base.length) (dead := (dSpend D).1.Dead) (rest := []) ?_ ?_ ?_ ?_ ?_; (focus (have := key ‹Int → Value› ([Qc1 64 0] ++ [x]) ⟨[Qc1 64 0], rfl, .inl ⟨by omega, rfl⟩⟩; simpa using this)); (focus (push_cast; done)); (focus (push_cast; done)); (focus (push_cast; done)); (focus (simp [tvL, TV.ids, SV.ids, LV.ids, Qb1]; done)))
      | (refine fin_disk1 (m := 9001) (wy := 45) (V := ‹Int → Value›) (M := Qf8 M k (M k ++ [x])) (way := tks [] (dSpend D).1.Queue ++ [⟨k, ((M k).length : Int)⟩]) (size := (dSpend D).1.Base.length) (dead := (dSpend D).1.Dead) (rest := []) (ac := 9003) (n := n) ?_ ?_ ?_ ?_ ?_; (focus (have := key ‹Int → Value› (M k ++ [x]) ⟨M k, rfl, .inr ⟨by omega, rfl⟩⟩; simpa using this)); (focus (push_cast; done)); (focus (push_cast; done)); (focus (push_cast; done)); (focus (simp [tvL, TV.ids, SV.ids, LV.ids, Qb1]; done)))
      | (refine fin_disk1 (m := 9001) (wy := 45) (V := ‹Int → Value›) (M := Qf8 M k [Qc1 64 0, x]) (way := tks [] (dSpend D).1.Queue ++ [⟨k, 1⟩]) (size := (dSpend D).1.Base.length) (dead := (dSpend D).1.Dead) (rest := []) (ac := 9003) (n := n) ?_ ?_ ?_ ?_ ?_; (focus (have := key ‹Int → Value› ([Qc1 64 0] ++ [x]) ⟨[Qc1 64 0], rfl, .inl ⟨by omega, rfl⟩⟩; simpa using this)); (focus (push_cast; done)); (focus (push_cast; done)); (focus (push_cast; done)); (focus (simp [tvL, TV.ids, SV.ids, LV.ids, Qb1]; done))))
theorem Put_con : Qkc Cx.P 29 DiskO (.pair (.int .i64) (.pair (.arr 64 (.int .u8)) .unit)) (fun D _ => D.Queue.length < 1000000000) (fun D x => [.int .i64 (dPut D x.1 x.2.1).2]) (fun D x => (dPut D x.1 x.2.1).1) := ⟨Qt5, fun D x h => Put_fn D x.1 x.2.1 h⟩
end Go.Proofs.Ytnmjcdlgfimnaaa
