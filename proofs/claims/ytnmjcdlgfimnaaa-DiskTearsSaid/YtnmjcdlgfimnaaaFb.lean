/- Symbolic states: what the slots of a call and the blocks that it owns hold, and when a real state is one of them. -/
import Derived.Test.YtnmjcdlgfimnaaaFa
namespace Go.Proofs.Ytnmjcdlgfimnaaa

/-- A way into arrays: where each begins, how many cells an element has, which element. -/
abbrev Path := List (Nat × Nat × Int)
def poff : Path → Nat → Nat
  | [], off => off
  | (b, n, i) :: p, off => b + i.toNat * n + poff p off

/-- A leaf: one cell, or the cells of one datum. -/
inductive LV : Type 1
  | int (k : IntKind) (x : Int)
  | bool (b : Bool)
  | str (s : List UInt8)
  | dat {α : Type} (R : Rep α) (x : α)
  | nils
  | emps
  | own (id : Nat)
  | ptr (id : Nat) (path : Path) (off : Nat)
  | nilp
  | eptr {α : Type} (R : Rep α) (x : α) (path : Path) (off : Nat)
  | view (id : Nat) (path : Path) (off n lo len : Nat)
  | clo (f : FuncId) (caps : List Nat)
  | mp (id : Nat)
  | nilm
  | mrow (m : Nat) (V : Int → Value) (key : Int)
  | mcut (m : Nat) (V : Int → Value) (key : Int) (n : Nat)
  | ocut (id n : Nat)
  | undef

/-- A value: a leaf, or an aggregate that is laid open. -/
inductive SV : Type 1
  | l (x : LV)
  | agg (xs : List LV)

/-- What a slot holds. -/
inductive TV : Type 1
  | one (v : SV)
  | tup (vs : List SV)

/-- Something else that a call holds: told by a predicate. -/
structure ObjP : Type 1 where
  P : Hp → Value → Hp → Prop
  mono : ∀ {G G' : Hp} {v : Value} {f : Hp}, Hp.le G G' → P G v f → P G' v f

/-- A block that the call owns. -/
inductive Box : Type 1
  | segs (l : List LV)
  | arr {α : Type} (R : Rep α) (l : List α)
  | sarr (n : Nat) (l : List LV)
  | obj {σ : Type} (O : σ → ObjP) (D : σ)
  | mpr {α : Type} (A : Rep α) (M : Int → List α) (V : Int → Value) (dead : Option (Int × Option Nat))

/-- What the slots hold, what the call owns, and the names that never change. -/
structure SymSt : Type 1 where
  sl : List (Nat × TV)
  mem : List (Nat × Box)
  pins : List Nat

/-- A block's number, out of what leads to it. -/
def blk : Value → Nat
  | .pointer (some a) => a.block
  | .slice (some a) _ _ => a.block
  | .map (some r) => r
  | _ => 0

def Rep.mk {α : Type} (R : Rep α) (cs : List Value) : Value := if R.agg then .agg cs.toArray else cs.headD (.tuple #[])

def sng (b : Nat) (o : Obj) : Hp := fun j => if j = b then some o else none
def emp : Hp := fun _ => none

/-- The cells of a leaf. -/
def LV.rel (G : Hp) (γ : Nat → Value) : LV → List Value → Prop
  | .int k x, cs => cs = [.int k x] ∧ inK k x
  | .bool b, cs => cs = [.bool b]
  | .str s, cs => cs = [.string ⟨s.toArray⟩] ∧ s.length ≤ mxL
  | .dat R x, cs => R.enc G x cs
  | .nils, cs => cs = [.slice none 0 0]
  | .emps, cs => ∃ a, cs = [.slice a 0 0]
  | .own id, cs => cs = [γ id] ∧ Rep.plainCell (γ id) = true
  | .ptr id path off, cs => cs = [.pointer (some ⟨blk (γ id), poff path off, none⟩)]
  | .nilp, cs => cs = [.pointer none]
  | .eptr R x path off, cs => ∃ b p es q t fr, cs = [.pointer (some ⟨b, p.length + poff path off, none⟩)] ∧ G b = some (.cells (p ++ (es ++ q)).toArray t fr) ∧ R.enc G x es
  | .view id path off n lo len, cs => ∃ a cap, len ≤ cap ∧ cap ≤ mxL ∧ cs = [.slice a len cap] ∧ (len ≠ 0 → a = some ⟨blk (γ id), poff path off + lo * n, none⟩) ∧ (a = none → cap = 0)
  | .clo f caps, cs => cs = [.func (.func f) #[] (caps.map fun i => Value.pointer (some ⟨blk (γ i), 0, none⟩)).toArray]
  | .mp id, cs => cs = [γ id] ∧ Rep.plainCell (γ id) = true
  | .nilm, cs => cs = [.map none]
  | .mrow _ V k, cs => cs = [V k] ∧ Rep.plainCell (V k) = true
  | .ocut id n, cs => ∃ a len c, γ id = .slice a len c ∧ n ≤ len ∧ len ≤ c ∧ cs = [.slice a n c]
  | .mcut _ V k n, cs => ∃ a len c, V k = .slice a len c ∧ n ≤ len ∧ len ≤ c ∧ cs = [.slice a n c]
  | .undef, cs => ∃ v, cs = [v] ∧ Rep.plainCell v = true

def LV.ids : LV → List Nat
  | .own id => [id]
  | .ptr id _ _ => [id]
  | .view id _ _ _ _ _ => [id]
  | .clo _ caps => caps
  | .mp id => [id]
  | .ocut id _ => [id]
  | _ => []

def LV.size : LV → Nat
  | .dat R _ => R.size
  | _ => 1

theorem LV.rel_length {G : Hp} {γ : Nat → Value} {x : LV} {cs : List Value} (h : x.rel G γ cs) : cs.length = x.size := by
  cases x <;> simp only [LV.rel] at h <;> simp only [LV.size]
  case dat R x => exact R.enc_length h
  case int => simp [h.1]
  case str => simp [h.1]
  case own => simp [h.1]
  case mp => simp [h.1]
  case eptr => obtain ⟨_, _, _, _, _, _, h, _⟩ := h; simp [h]
  case emps => obtain ⟨_, h⟩ := h; simp [h]
  case view => obtain ⟨_, _, _, _, h, _⟩ := h; simp [h]
  case mrow => simp [h.1]
  case ocut => obtain ⟨_, _, _, _, _, _, h⟩ := h; simp [h]
  case mcut => obtain ⟨_, _, _, _, _, _, h⟩ := h; simp [h]
  case undef => obtain ⟨_, h, _⟩ := h; simp [h]
  all_goals simp [h]

theorem LV.rel_plain {G : Hp} {γ : Nat → Value} {x : LV} {cs : List Value} (h : x.rel G γ cs) : ∀ v ∈ cs, Rep.plainCell v = true := by
  cases x <;> simp only [LV.rel] at h
  case dat R x => exact R.enc_plain h
  case int => simp [h.1, Rep.plainCell]
  case str => simp [h.1, Rep.plainCell]
  case own => simp [h.1, h.2]
  case mp => simp [h.1, h.2]
  case eptr => obtain ⟨_, _, _, _, _, _, h, _⟩ := h; simp [h, Rep.plainCell]
  case emps => obtain ⟨_, h⟩ := h; simp [h, Rep.plainCell]
  case view => obtain ⟨_, _, _, _, h, _⟩ := h; simp [h, Rep.plainCell]
  case mrow => simp [h.1, h.2]
  case ocut => obtain ⟨_, _, _, _, _, _, h⟩ := h; simp [h, Rep.plainCell]
  case mcut => obtain ⟨_, _, _, _, _, _, h⟩ := h; simp [h, Rep.plainCell]
  case undef => obtain ⟨_, h, hp⟩ := h; simp [h, hp]
  all_goals simp [h, Rep.plainCell]

theorem LV.rel_mono {G G' : Hp} {γ : Nat → Value} {x : LV} {cs : List Value} (hg : Hp.le G G') (h : x.rel G γ cs) : x.rel G' γ cs := by
  cases x <;> simp only [LV.rel] at h ⊢
  case dat R x => exact R.enc_mono hg h
  case eptr R x path off =>
    obtain ⟨b, p, es, q, t, fr, e, hb, he⟩ := h
    exact ⟨b, p, es, q, t, fr, e, hg _ _ hb, R.enc_mono hg he⟩
  all_goals exact h

theorem LV.rel_congr {G : Hp} {γ γ' : Nat → Value} {x : LV} {cs : List Value} (hi : ∀ i ∈ x.ids, γ' i = γ i) (h : x.rel G γ cs) : x.rel G γ' cs := by
  cases x <;> simp only [LV.rel] at h ⊢
  case own id => rw [hi id (by simp [ids])]; exact h
  case ptr id _ _ => rw [hi id (by simp [ids])]; exact h
  case view id _ _ _ _ _ => rw [hi id (by simp [ids])]; exact h
  case mp id => rw [hi id (by simp [ids])]; exact h
  case ocut id n => rw [hi id (by simp [ids])]; exact h
  case clo f caps =>
    rw [h]
    have : (caps.map fun i => Value.pointer (some ⟨blk (γ i), 0, none⟩)) = caps.map fun i => Value.pointer (some ⟨blk (γ' i), 0, none⟩) :=
      List.map_congr_left fun i hm => by rw [hi i (by simpa [ids] using hm)]
    rw [this]
  all_goals exact h

/-- Leaves, one behind the other. -/
abbrev RelL (G : Hp) (γ : Nat → Value) : List LV → List Value → Prop := EncL (LV.rel G γ)

def idsL (l : List LV) : List Nat := l.flatMap LV.ids
def sizeL : List LV → Nat
  | [] => 0
  | x :: l => x.size + sizeL l

theorem RelL.length {G : Hp} {γ : Nat → Value} : ∀ {l : List LV} {cs : List Value}, RelL G γ l cs → cs.length = sizeL l
  | [], _, h => by simp only [RelL, EncL] at h; simp [h, sizeL]
  | x :: l, _, ⟨c, d, e, hx, hl⟩ => by rw [e, List.length_append, LV.rel_length hx, RelL.length hl, sizeL]
theorem RelL.mono {G G' : Hp} {γ : Nat → Value} (hg : Hp.le G G') {l : List LV} {cs : List Value} (h : RelL G γ l cs) : RelL G' γ l cs := EncL.mono (fun _ _ => LV.rel_mono hg) h
theorem RelL.plain {G : Hp} {γ : Nat → Value} {l : List LV} {cs : List Value} (h : RelL G γ l cs) : ∀ v ∈ cs, Rep.plainCell v = true := Rep.EncL.plain (fun _ _ => LV.rel_plain) h
theorem RelL.congr {G : Hp} {γ γ' : Nat → Value} : ∀ {l : List LV} {cs : List Value}, (∀ i ∈ idsL l, γ' i = γ i) → RelL G γ l cs → RelL G γ' l cs
  | [], _, _, h => h
  | x :: l, _, hi, ⟨c, d, e, hx, hl⟩ => ⟨c, d, e, LV.rel_congr (fun i hm => hi i (by simp [idsL]; exact .inl hm)) hx,
      RelL.congr (fun i hm => hi i (by simp only [idsL, List.flatMap_cons, List.mem_append]; exact .inr hm)) hl⟩

def LV.isAgg : LV → Bool
  | .dat R _ => R.agg
  | _ => false

/-- A leaf as a value. -/
def LV.relV (G : Hp) (γ : Nat → Value) : LV → Value → Prop
  | .dat R x, v => ∃ cs, R.enc G x cs ∧ v = R.mk cs
  | .undef, _ => True
  | x, v => x.rel G γ [v]

def SV.rel (G : Hp) (γ : Nat → Value) : SV → Value → Prop
  | .l x, v => x.relV G γ v
  | .agg xs, v => ∃ cs, RelL G γ xs cs ∧ v = .agg cs.toArray

def SV.ids : SV → List Nat
  | .l x => x.ids
  | .agg xs => idsL xs

theorem LV.relV_mono {G G' : Hp} {γ : Nat → Value} {x : LV} {v : Value} (hg : Hp.le G G') (h : x.relV G γ v) : x.relV G' γ v := by
  cases x <;> simp only [LV.relV] at h ⊢
  case dat R x => obtain ⟨cs, hc, e⟩ := h; exact ⟨cs, R.enc_mono hg hc, e⟩
  all_goals exact LV.rel_mono hg h
theorem LV.relV_congr {G : Hp} {γ γ' : Nat → Value} {x : LV} {v : Value} (hi : ∀ i ∈ x.ids, γ' i = γ i) (h : x.relV G γ v) : x.relV G γ' v := by
  cases x <;> simp only [LV.relV] at h ⊢
  case dat R x => exact h
  all_goals exact LV.rel_congr hi h
theorem SV.rel_mono {G G' : Hp} {γ : Nat → Value} {x : SV} {v : Value} (hg : Hp.le G G') (h : x.rel G γ v) : x.rel G' γ v := by
  cases x with
  | agg xs => obtain ⟨cs, hc, e⟩ := h; exact ⟨cs, hc.mono hg, e⟩
  | l x => exact LV.relV_mono hg h
theorem SV.rel_congr {G : Hp} {γ γ' : Nat → Value} {x : SV} {v : Value} (hi : ∀ i ∈ x.ids, γ' i = γ i) (h : x.rel G γ v) : x.rel G γ' v := by
  cases x with
  | agg xs => obtain ⟨cs, hc, e⟩ := h; exact ⟨cs, hc.congr hi, e⟩
  | l x => exact LV.relV_congr hi h

/-- A cell as a value. -/
theorem LV.relV_of {G : Hp} {γ : Nat → Value} {x : LV} {v : Value} (ha : x.isAgg = false) (h : x.rel G γ [v]) : x.relV G γ v := by
  cases x <;> simp only [LV.relV]
  case dat R y => exact ⟨[v], h, by simp only [LV.isAgg] at ha; simp [Rep.mk, ha]⟩
  all_goals exact h

theorem Rep.size_of_not_agg : {α : Type} → (R : Rep α) → R.agg = false → R.size = 1
  | _, .int _, _ => rfl
  | _, .bool, _ => rfl
  | _, .str, _ => rfl
  | _, .slice _, _ => rfl
  | _, .iso A _ _ _ _, h => A.size_of_not_agg (by simpa only [Rep.agg] using h)

theorem cells_of_plain {v : Value} (h : Rep.plainCell v = true) : v.cells.toList = [v] := by
  cases v <;> first | rfl | (simp [Rep.plainCell] at h)

theorem Rep.mk_cells {α : Type} (R : Rep α) {G : Hp} {x : α} {cs : List Value} (h : R.enc G x cs) : (R.mk cs).cells.toList = cs := by
  unfold Rep.mk
  cases ha : R.agg
  · have hl := R.enc_length h
    rw [R.size_of_not_agg ha] at hl
    match cs, hl with
    | [c], _ => exact cells_of_plain (R.enc_plain h c (by simp))
  · rfl

/-- A value's cells. -/
theorem LV.rel_cells {G : Hp} {γ : Nat → Value} {x : LV} {v : Value} (hu : x ≠ .undef) (h : x.relV G γ v) : x.rel G γ v.cells.toList := by
  have key : ∀ y : LV, y.rel G γ [v] → y.rel G γ v.cells.toList := fun y hy => by
    rw [cells_of_plain (LV.rel_plain hy v (by simp))]; exact hy
  cases x <;> simp only [LV.relV] at h
  case dat R y =>
    obtain ⟨cs, hc, rfl⟩ := h
    rw [R.mk_cells hc]; exact hc
  case undef => exact absurd rfl hu
  all_goals exact key _ h

def RelV (G : Hp) (γ : Nat → Value) : List SV → List Value → Prop
  | [], vs => vs = []
  | x :: xs, vs => ∃ v r, vs = v :: r ∧ x.rel G γ v ∧ RelV G γ xs r

def TV.rel (G : Hp) (γ : Nat → Value) : TV → Value → Prop
  | .one x, v => x.rel G γ v
  | .tup xs, v => ∃ vs, RelV G γ xs vs ∧ v = .tuple vs.toArray

def idsV (xs : List SV) : List Nat := xs.flatMap SV.ids
def TV.ids : TV → List Nat
  | .one x => x.ids
  | .tup xs => idsV xs

theorem RelV.mono {G G' : Hp} {γ : Nat → Value} (hg : Hp.le G G') : ∀ {xs : List SV} {vs : List Value}, RelV G γ xs vs → RelV G' γ xs vs
  | [], _, h => h
  | _ :: _, _, ⟨v, r, e, hx, hr⟩ => ⟨v, r, e, SV.rel_mono hg hx, RelV.mono hg hr⟩
theorem RelV.congr {G : Hp} {γ γ' : Nat → Value} : ∀ {xs : List SV} {vs : List Value}, (∀ i ∈ idsV xs, γ' i = γ i) → RelV G γ xs vs → RelV G γ' xs vs
  | [], _, _, h => h
  | x :: xs, _, hi, ⟨v, r, e, hx, hr⟩ => ⟨v, r, e, SV.rel_congr (fun i hm => hi i (by simp only [idsV, List.flatMap_cons, List.mem_append]; exact .inl hm)) hx,
      RelV.congr (fun i hm => hi i (by simp only [idsV, List.flatMap_cons, List.mem_append]; exact .inr hm)) hr⟩
theorem TV.rel_mono {G G' : Hp} {γ : Nat → Value} {x : TV} {v : Value} (hg : Hp.le G G') (h : x.rel G γ v) : x.rel G' γ v := by
  cases x with
  | one x => exact SV.rel_mono hg h
  | tup xs => obtain ⟨vs, hv, e⟩ := h; exact ⟨vs, hv.mono hg, e⟩
theorem TV.rel_congr {G : Hp} {γ γ' : Nat → Value} {x : TV} {v : Value} (hi : ∀ i ∈ x.ids, γ' i = γ i) (h : x.rel G γ v) : x.rel G γ' v := by
  cases x with
  | one x => exact SV.rel_congr hi h
  | tup xs => obtain ⟨vs, hv, e⟩ := h; exact ⟨vs, hv.congr hi, e⟩
end Go.Proofs.Ytnmjcdlgfimnaaa
