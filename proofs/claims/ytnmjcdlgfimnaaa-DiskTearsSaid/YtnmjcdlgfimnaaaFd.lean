/- What the model's own operations give, where the cells are known: loads, stores, new blocks. The table of types. -/
import Derived.Test.YtnmjcdlgfimnaaaFc
import Derived.Laws.Sem
import Derived.Laws.Entries
namespace Go.Proofs.Ytnmjcdlgfimnaaa

/-- A type's shape. -/
inductive TD where
  | int (k : IntKind)
  | bool
  | str
  | ptr
  | slice (e : TypeId)
  | arr (n : Nat) (e : TypeId)
  | struct (fs : List (Nat × TypeId))
  | map (k e : TypeId)
  | func
  | other

def TD.agg : TD → Bool
  | .arr _ _ => true
  | .struct _ => true
  | _ => false

/-- A layout, whatever its type. -/
structure SRep : Type 1 where
  α : Type
  A : Rep α

/-- What is told of a type. -/
structure TyI : Type 1 where
  desc : TD
  size : Nat
  bytes : Nat
  zero : List LV
  rep : Option SRep

def TD.fits (P : Program) (t : TypeId) : TD → Prop
  | .int k => P.underlying t = some (.int k)
  | .bool => P.underlying t = some .bool
  | .str => P.underlying t = some .string
  | .ptr => ∃ e, P.underlying t = some (.pointer e)
  | .slice e => P.underlying t = some (.slice e)
  | .arr n e => P.underlying t = some (.array n e)
  | .struct fs => ∃ a, P.underlying t = some (.struct a) ∧ (a.toList.map fun f => (f.offset, f.type)) = fs
  | .map k e => P.underlying t = some (.map k e)
  | .func => ∃ a b c, P.underlying t = some (.func a b c)
  | .other => ∃ a, P.underlying t = some a ∧ (a matches .struct _) = false ∧ (a matches .array _ _) = false

structure TyOk (P : Program) (t : TypeId) (i : TyI) : Prop where
  inf : ∃ x z, P.info? t = some x ∧ x.size = i.size ∧ x.bytes = i.bytes ∧ x.zero = some z ∧ ∀ (G : Hp) (γ : Nat → Value), RelL G γ i.zero z.cells.toList
  one : i.desc.agg = false → i.size = 1
  desc : i.desc.fits P t
  rep : ∀ r, i.rep = some r → ∀ (G : Hp) (z : Value) x, P.info? t = some x → x.zero = some z → r.A.enc G r.A.zero z.cells.toList
  repAgg : ∀ r, i.rep = some r → r.A.agg = i.desc.agg
  grd : ∀ n e, i.desc = .arr n e → P.eqGuardType P.depth t = false

/-- A program with its types. -/
structure Ctx : Type 1 where
  P : Program
  ty : TypeId → Option TyI
  ok : ∀ t i, ty t = some i → TyOk P t i

section
variable {P : Program} {w : World}

theorem run_info {t : TypeId} {x : TypeInfo} (h : P.info? t = some x) : (typeInfo t).run P w = .ok x w := by simp [typeInfo, h]
theorem run_under {t : TypeId} {d : TypeDesc} (h : P.underlying t = some d) : (underlying t).run P w = .ok d w := by simp [underlying, h]
theorem run_size {t : TypeId} {i : TyI} (h : TyOk P t i) : (sizeOf t).run P w = .ok i.size w := by
  obtain ⟨x, z, hx, hs, _⟩ := h.inf
  simp [sizeOf, run_info hx, hs]
theorem run_zero {t : TypeId} {i : TyI} (h : TyOk P t i) : ∃ z, (zeroValue t).run P w = .ok z w ∧ ∀ (G : Hp) (γ : Nat → Value), RelL G γ i.zero z.cells.toList := by
  obtain ⟨x, z, hx, _, _, hz, hr⟩ := h.inf
  exact ⟨z, by simp [zeroValue, run_info hx, hz], hr⟩
theorem run_isAgg {t : TypeId} {i : TyI} (h : TyOk P t i) : (isAgg t).run P w = .ok i.desc.agg w := by
  have hd := h.desc
  cases hi : i.desc <;> rw [hi] at hd <;> simp only [TD.fits] at hd
  case ptr => obtain ⟨e, hd⟩ := hd; simp [isAgg, run_under hd, TD.agg]
  case struct fs => obtain ⟨e, hd, _⟩ := hd; simp [isAgg, run_under hd, TD.agg]
  case func => obtain ⟨_, _, _, hd⟩ := hd; simp [isAgg, run_under hd, TD.agg]
  case other =>
    obtain ⟨a, hd, h1, h2⟩ := hd
    cases a <;> simp_all [isAgg, run_under hd, TD.agg]
  all_goals simp [isAgg, run_under hd, TD.agg]

/-- The cell at a place. -/
theorem cell_at {b off : Nat} {p q : List Value} {v : Value} {t : TypeId} {fr : Nat × Nat} (h : w.heap[b]? = some (.cells (p ++ v :: q).toArray t fr)) (hp : p.length = off) :
    w.cell? ⟨b, off, none⟩ = some v := by
  subst hp
  simp [World.cell?, h]

theorem add_off (b off n : Nat) : (⟨b, off, none⟩ : Addr).add n = ⟨b, off + n, none⟩ := by
  unfold Addr.add
  by_cases h : n = 0 <;> simp [h]

theorem run_loadCellsFrom {b off : Nat} : ∀ (es : List Value) (p q : List Value) (i : Nat) (acc : Array Value) {t : TypeId} {fr : Nat × Nat},
    w.heap[b]? = some (.cells (p ++ (es ++ q)).toArray t fr) → p.length = off + i → (loadCellsFrom ⟨b, off, none⟩ i es.length acc).run P w = .ok (acc ++ es.toArray) w
  | [], _, _, _, acc, _, _, _, _ => by simp [loadCellsFrom]
  | e :: es, p, q, i, acc, t, fr, h, hp => by
    have hc : w.cell? ((⟨b, off, none⟩ : Addr).add i) = some e := by
      rw [add_off]; exact cell_at (by simpa using h) hp
    have ih := run_loadCellsFrom (off := off) es (p ++ [e]) q (i + 1) (acc.push e) (t := t) (fr := fr) (by simpa using h) (by simp; omega)
    simp [loadCellsFrom, hc, ih]

/-- A load of one cell. -/
theorem run_load_one {t : TypeId} {i : TyI} (h : TyOk P t i) (ha : i.desc.agg = false) {a : Addr} {v : Value} (hc : w.cell? a = some v) : (loadVar t a).run P w = .ok v w := by
  simp [loadVar, run_isAgg h, ha, hc]
/-- A load of an aggregate. -/
theorem run_load_agg {t : TypeId} {i : TyI} (h : TyOk P t i) (ha : i.desc.agg = true) {b off : Nat} {p es q : List Value} {t' : TypeId} {fr : Nat × Nat}
    (hb : w.heap[b]? = some (.cells (p ++ (es ++ q)).toArray t' fr)) (hp : p.length = off) (he : es.length = i.size) :
    (loadVar t ⟨b, off, none⟩).run P w = .ok (.agg es.toArray) w := by
  have := run_loadCellsFrom (P := P) es p q 0 #[] hb (by omega)
  simp [loadVar, run_isAgg h, ha, run_size h, loadCells, ← he, this]

theorem plain_one {v : Value} (h : Rep.plainCell v = true) : v.oneCell' = true := by cases v <;> first | rfl | (simp [Rep.plainCell] at h)

theorem setCell_at {b off : Nat} {p q : List Value} {v v' : Value} {t : TypeId} (h : w.heap[b]? = some (.cells (p ++ v :: q).toArray t (0, 0))) (hp : p.length = off) :
    w.setCell ⟨b, off, none⟩ v' = wset w b (.cells (p ++ v' :: q).toArray t (0, 0)) := by
  subst hp
  have hlt := size_of_hp h
  have he : w.heap[b] = .cells (p ++ v :: q).toArray t (0, 0) := by
    rw [Array.getElem?_eq_getElem hlt] at h; exact Option.some.inj h
  unfold World.setCell wset
  dsimp only
  congr 1
  apply Array.ext
  · simp
  · intro j h1 h2
    rw [Array.getElem_modify]
    by_cases hj : b = j
    · subst hj
      rw [if_pos rfl, he]
      simp
    · rw [if_neg hj, Array.getElem_setIfInBounds_ne (by simpa using h1) hj]

theorem wset_wset {b : Nat} {o o' : Obj} : wset (wset w b o) b o' = wset w b o' := by
  unfold wset
  dsimp only
  congr 1
  exact Array.setIfInBounds_setIfInBounds o

theorem run_storeCells {b off : Nat} {t : TypeId} : ∀ (new old p q : List Value) (i : Nat) (w : World),
    w.heap[b]? = some (.cells (p ++ (old ++ q)).toArray t (0, 0)) → p.length = off + i → new.length = old.length → (∀ v ∈ new, Rep.plainCell v = true) → new ≠ [] →
    (storeCells ⟨b, off, none⟩ new i).run P w = .ok () (wset w b (.cells (p ++ (new ++ q)).toArray t (0, 0)))
  | [], _, _, _, _, _, _, _, _, _, hne => absurd rfl hne
  | v :: new, [], _, _, _, _, _, _, hl, _, _ => by simp at hl
  | v :: new, o :: old, p, q, i, w, h, hp, hl, hpl, _ => by
    have h' : w.heap[b]? = some (.cells (p ++ o :: (old ++ q)).toArray t (0, 0)) := by simpa using h
    have hc : w.cell? ⟨b, off + i, none⟩ = some o := cell_at h' hp
    have hf : w.frozen? ⟨b, off + i, none⟩ = false := by simp [World.frozen?, h']
    have hs := setCell_at (v' := v) h' hp
    have h1 := run_store P w ⟨b, off + i, none⟩ v .plain (plain_one (hpl v (by simp)))
    rw [hc] at h1
    simp only [hf, hs] at h1
    have hw : (wset w b (.cells (p ++ v :: (old ++ q)).toArray t (0, 0))).heap[b]? = some (.cells ((p ++ [v]) ++ (old ++ q)).toArray t (0, 0)) := by
      have := hpOf_set_same (w := w) (o := .cells (p ++ v :: (old ++ q)).toArray t (0, 0)) h'
      simpa [hpOf] using this
    by_cases hn : new = []
    · subst hn
      have : old = [] := by simpa using hl
      subst this
      simp [storeCells, add_off, h1]
    · have ih := run_storeCells (off := off) new old (p ++ [v]) q (i + 1) _ hw (by simp; omega) (by simpa using hl) (fun u hu => hpl u (by simp [hu])) hn
      rw [wset_wset] at ih
      simp [storeCells, add_off, h1, ih]

/-- A store. -/
theorem run_store_at {t : TypeId} {i : TyI} (h : TyOk P t i) {b off : Nat} {p old q : List Value} {t' : TypeId} {v : Value}
    (hb : w.heap[b]? = some (.cells (p ++ (old ++ q)).toArray t' (0, 0))) (hp : p.length = off) (ho : old.length = i.size) (hv : v.cells.toList.length = i.size) (hpl : ∀ u ∈ v.cells.toList, Rep.plainCell u = true) (hz : i.size ≠ 0) :
    (Instr.storeAt t (.pointer (some ⟨b, off, none⟩)) v).run P w = .ok () (wset w b (.cells (p ++ (v.cells.toList ++ q)).toArray t' (0, 0))) := by
  have h1 := run_storeCells (P := P) (off := off) v.cells.toList old p q 0 w hb (by omega) (by omega) hpl (by intro e; rw [e] at hv; simp at hv; omega)
  have h2 : v.cells.size = i.size := by simpa using hv
  simp [Instr.storeAt, Instr.sureAddr, storeVar, run_size h, h2, h1]

theorem run_alloc {t : TypeId} {i : TyI} (h : TyOk P t i) : ∃ z : Value, (∀ (G : Hp) (γ : Nat → Value), RelL G γ i.zero z.cells.toList) ∧
    (Instr.alloc t true (.tuple #[])).run P w = .ok (.pointer (some ⟨w.heap.size, 0, none⟩)) (wpush w (.cells (Value.cells z) t)) := by
  obtain ⟨z, hz, hr⟩ := run_zero (w := w) h
  exact ⟨z, hr, by simp [Instr.alloc, hz, newVar, newRow, wpush]⟩
theorem run_box (t : TypeId) (v : Value) : (Instr.box t v).run P w = .ok (.pointer (some ⟨w.heap.size, 0, none⟩)) (wpush w (.cells v.cells t)) := by
  simp [Instr.box, newVar, newRow, wpush]
end
end Go.Proofs.Ytnmjcdlgfimnaaa
