/- The operations that turn memory: new blocks, stores, maps. -/
import Derived.Test.YtclgglffbpfmhaaEe
import Derived.Laws.MakeOwn
import Derived.Laws.AppendOwn
namespace Go.Proofs.Ytclgglffbpfmhaa
set_option linter.unusedSimpArgs false
set_option linter.unusedVariables false

/-- What an operation leaves: d: the name for a new block; fl: blocks with lesser names stay as they are. -/
def NS (P : Program) (o : Oper) (a : Act) (sl : Ss) (hp : Hs) (d fl : Nat) (v : AV) (hp' : Hs) : Prop :=
  ∀ (F : Nat → Prop) (w0 : Base) (γ : Gm) (w : World), HR F w0 γ hp w → SR γ sl a.tmps → γ d = .fresh → d < lim →
    ∃ u γ' w', ((execOp a.eval o).run P w = .ok (.value u) w' ∨ ((execOp a.eval o).run P w = .ok .skip w' ∧ u = undef)) ∧ Gm.le γ γ' ∧ HR (fun j => F j ∧ j ≠ d) w0 γ' hp' w' ∧ v.rel γ' u ∧
      ∀ id r n, id < fl → γ id = .live r n → γ' id = .live r n ∧ w'.heap[r]? = w.heap[r]?
section
variable {sl : Ss} {a : Act} {P : Program} {o : Oper} {hp : Hs} {d fl : Nat}

theorem undef_rel (γ : Gm) : (AV.tup []).rel γ undef := ⟨[], rfl, rfl⟩
/-- A new block of cells. -/
theorem new_block {F : Nat → Prop} {w0 : Base} {γ : Gm} {w : World} (hr : HR F w0 γ hp w) (hd : γ d = .fresh) (hl : d < lim) {cs : List AV} {ds sp : List Value} {t : TypeId} {fr : Nat × Nat}
    (hc : AV.relL γ cs ds) (hf : frOk fr (ds ++ sp).length) :
    Gm.le γ (setG γ d (.live w.heap.size (ds ++ sp).length)) ∧ HR (fun j => F j ∧ j ≠ d) w0 (setG γ d (.live w.heap.size (ds ++ sp).length)) (sid hp d (.cells cs)) (wpush w (.cells (ds ++ sp).toArray t fr)) ∧
      (∀ id r n, id < fl → γ id = .live r n → setG γ d (.live w.heap.size (ds ++ sp).length) id = .live r n ∧ (wpush w (.cells (ds ++ sp).toArray t fr)).heap[r]? = w.heap[r]?) := by
  have hle := setG_le (m := .live w.heap.size (ds ++ sp).length) hd
  refine ⟨hle, hr.push hd hl ⟨ds, sp, t, fr, rfl, hf, rfl, AV.relL_mono hle hc⟩, fun id r n _ h => ?_⟩
  have hne : id ≠ d := fun e => by rw [e, hd] at h; cases h
  exact ⟨by rw [setG_ne hne]; exact h, push_get (hr.own id r n h).2⟩
theorem new_ptr {γ : Gm} {r n : Nat} : (AV.p d 0).rel (setG γ d (.live r n)) (.pointer (some ⟨r, 0, none⟩)) :=
  ⟨_, rfl, by rw [setG_same]; simp, fun r' n' h => by rw [setG_same] at h; cases h; rfl⟩
theorem new_slX {γ : Gm} {r n len c : Nat} (h : len ≤ c) : (AV.sl d 0 len c true).rel (setG γ d (.live r n)) (.slice (some ⟨r, 0, none⟩) len c) :=
  ⟨_, _, rfl, h, fun _ => rfl, by rw [setG_same]; simp, fun r' n' h => by rw [setG_same] at h; cases h; exact ⟨rfl, by simp⟩⟩
theorem new_slU {γ : Gm} {r n len c z : Nat} (h : len ≤ c) (hn : c * z ≤ n) : (AV.sl d 0 len z false).rel (setG γ d (.live r n)) (.slice (some ⟨r, 0, none⟩) len c) :=
  ⟨_, _, rfl, h, by simp, by rw [setG_same]; simp, fun r' n' h => by rw [setG_same] at h; cases h; exact ⟨rfl, fun _ => by omega⟩⟩

/-- What makes a block, and looks into none. -/
def MK (P : Program) (o : Oper) (a : Act) (sl : Ss) (hp : Hs) (d : Nat) (v : AV) (hp' : Hs) : Prop := ∃ b, hp' = sid hp d b ∧ ∀ γ, SR γ sl a.tmps →
  ∃ n obj, ∃ fu : Nat → Value, (∀ w : World, (execOp a.eval o).run P w = .ok (.value (fu w.heap.size)) (wpush w obj)) ∧ b.rel γ n obj ∧ ∀ r, v.rel (setG γ d (.live r n)) (fu r)
theorem MK.ns {v : AV} {hp' : Hs} (h : MK P o a sl hp d v hp') : NS P o a sl hp d fl v hp' := by
  intro F w0 γ w hr hs hd hl
  obtain ⟨b, rfl, h⟩ := h
  obtain ⟨n, obj, fu, hrun, hb, hv⟩ := h γ hs
  have hle := setG_le (m := .live w.heap.size n) hd
  refine ⟨_, _, _, .inl (hrun w), hle, hr.push hd hl (AB.rel_mono hle hb), hv _, fun id r n _ h => ?_⟩
  have hne : id ≠ d := fun e => by rw [e, hd] at h; cases h
  exact ⟨by rw [setG_ne hne]; exact h, push_get (hr.own id r n h).2⟩
def allocE (P : Program) (hp : Hs) (d : Nat) (t : TypeId) : Option (AV × Hs) := match zeT P t with
  | some z => bif z.okCells then some (.p d 0, sid hp d (.cells z.cells)) else none
  | none => none
theorem alloc_mk {t : TypeId} (ho : o.op = .alloc t) {v : AV} {hp' : Hs} (h : allocE P hp d t = some (v, hp')) : MK P o a sl hp d v hp' := by
  unfold allocE at h
  split at h
  · rename_i z hz
    cases hok : z.okCells
    · rw [hok] at h; simp at h
    · rw [hok, cond_true, Option.some.injEq, Prod.mk.injEq] at h
      obtain ⟨rfl, rfl⟩ := h
      refine ⟨_, rfl, fun γ _ => ?_⟩
      obtain ⟨zv, hzr, hrun⟩ := run_zero (γ := γ) hz
      have hc := AV.cells_rel hok hzr
      refine ⟨_, .cells (zv.cells.toList ++ []).toArray t (0, 0), fun r => .pointer (some ⟨r, 0, none⟩), fun w => ?_, ⟨_, [], t, (0, 0), rfl, frOk_zero _, rfl, hc⟩, fun r => new_ptr⟩
      simp [execOp, ho, Instr.alloc, hrun, newVar, newRow, wpush]
  · simp at h
theorem alloc_n {t : TypeId} (ho : o.op = .alloc t) {v : AV} {hp' : Hs} (h : allocE P hp d t = some (v, hp')) : NS P o a sl hp d fl v hp' := (alloc_mk ho h).ns
def boxE (sl : Ss) (hp : Hs) (d : Nat) (x : Operand) : Option (AV × Hs) := bif (evE sl x).okCells then some (.p d 0, sid hp d (.cells (evE sl x).cells)) else none
theorem box_n {t : TypeId} {x : Operand} (ho : o.op = .box t x) {v : AV} {hp' : Hs} (h : boxE sl hp d x = some (v, hp')) : NS P o a sl hp d fl v hp' := by
  intro F w0 γ w hr hs hd hl
  unfold boxE at h
  cases hok : (evE sl x).okCells
  · rw [hok] at h; simp at h
  · rw [hok, cond_true, Option.some.injEq, Prod.mk.injEq] at h
    obtain ⟨rfl, rfl⟩ := h
    have hc := AV.cells_rel hok (evE_rel hs x)
    obtain ⟨h1, h2, h3⟩ := new_block (fl := fl) (t := t) (fr := (0, 0)) (sp := []) hr hd hl hc (frOk_zero _)
    refine ⟨_, _, _, .inl ?_, h1, h2, new_ptr, h3⟩
    simp [execOp, ho, Instr.box, newVar, newRow, wpush]

/-! Stores. -/
theorem plain_one {v : Value} (h : plainCell v = true) : v.oneCell' = true := by cases v <;> first | rfl | (simp [plainCell] at h)
theorem setCell_at {w : World} {b off : Nat} {p q : List Value} {v v' : Value} {t : TypeId} {fr : Nat × Nat} (h : w.heap[b]? = some (.cells (p ++ v :: q).toArray t fr)) (hp : p.length = off) :
    w.setCell ⟨b, off, none⟩ v' = wset w b (.cells (p ++ v' :: q).toArray t fr) := by
  subst hp
  have hlt : b < w.heap.size := by
    rcases Nat.lt_or_ge b w.heap.size with h' | h'
    · exact h'
    · simp [Array.getElem?_eq_none h'] at h
  have he : w.heap[b] = .cells (p ++ v :: q).toArray t fr := by
    rw [Array.getElem?_eq_getElem hlt] at h; exact Option.some.inj h
  unfold World.setCell wset
  dsimp only
  congr 1
  apply Array.ext
  · simp
  · intro j h1 h2
    rw [Array.getElem_modify]
    by_cases hj : b = j
    · subst hj
      rw [if_pos rfl, he]
      simp
    · rw [if_neg hj, Array.getElem_setIfInBounds_ne (by simpa using h1) hj]
theorem wset_wset {w : World} {b : Nat} {o o' : Obj} : wset (wset w b o) b o' = wset w b o' := by
  unfold wset
  dsimp only
  congr 1
  exact Array.setIfInBounds_setIfInBounds o
theorem run_storeCells {b off : Nat} {t : TypeId} {fr : Nat × Nat} : ∀ (new old p q : List Value) (i : Nat) (w : World),
    w.heap[b]? = some (.cells (p ++ (old ++ q)).toArray t fr) → frOk fr (p ++ (old ++ q)).length → p.length = off + i → new.length = old.length → (∀ v ∈ new, plainCell v = true) → new ≠ [] →
    (storeCells ⟨b, off, none⟩ new i).run P w = .ok () (wset w b (.cells (p ++ (new ++ q)).toArray t fr))
  | [], _, _, _, _, _, _, _, _, _, _, hne => absurd rfl hne
  | v :: new, [], _, _, _, _, _, _, _, hl, _, _ => by simp at hl
  | v :: new, o :: old, p, q, i, w, h, hfr, hp, hl, hpl, _ => by
    have h' : w.heap[b]? = some (.cells (p ++ o :: (old ++ q)).toArray t fr) := by simpa using h
    have hc : w.cell? ⟨b, off + i, none⟩ = some o := cell_at h' (by rw [← hp]; simp)
    have hf : w.frozen? ⟨b, off + i, none⟩ = false := by
      have := hfr.at (off + i) (by simp; omega)
      obtain ⟨f1, f2⟩ := fr
      simpa [World.frozen?, h'] using this
    have hs := setCell_at (v' := v) h' hp
    have h1 := run_store P w ⟨b, off + i, none⟩ v .plain (plain_one (hpl v (by simp)))
    rw [hc] at h1
    simp only [hf, hs] at h1
    have hlt : b < w.heap.size := by
      rcases Nat.lt_or_ge b w.heap.size with h2 | h2
      · exact h2
      · simp [Array.getElem?_eq_none h2] at h
    have hw : (wset w b (.cells (p ++ v :: (old ++ q)).toArray t fr)).heap[b]? = some (.cells ((p ++ [v]) ++ (old ++ q)).toArray t fr) := by
      rw [set_same hlt]; simp
    by_cases hn : new = []
    · subst hn
      have : old = [] := by simpa using hl
      subst this
      simp [storeCells, add_off, h1]
    · have ih := run_storeCells (off := off) new old (p ++ [v]) q (i + 1) _ hw (by simpa [Nat.add_assoc, Nat.add_comm, Nat.add_left_comm] using hfr) (by simp; omega) (by simpa using hl) (fun u hu => hpl u (by simp [hu])) hn
      rw [wset_wset] at ih
      simp [storeCells, add_off, h1, ih]
/-- Cells of a block that lives are stored. -/
theorem store_block {F : Nat → Prop} {w0 : Base} {γ : Gm} {w : World} (hr : HR F w0 γ hp w) {id off : Nat} {cs new out : List AV} (hc : cellsOf hp id = some cs) (hput : putE off new cs = some out) {us : List Value} (hn : AV.relL γ new us) (hpl : plainL new = true) (hne : new ≠ []) :
    ∃ r n w', γ id = .live r n ∧ (storeCells ⟨r, off, none⟩ us).run P w = .ok () w' ∧ HR F w0 γ (sid hp id (.cells out)) w' ∧ ∀ id' r' n', id' ≠ id → γ id' = .live r' n' → w'.heap[r']? = w.heap[r']? := by
  obtain ⟨r, n, ds, sp, t, fr, hlive, hw, hf, hlen, hrel⟩ := hr.live.cells hc
  obtain ⟨p, old, q, rfl, hp', hold, hout⟩ := putE_spec hput hrel hn
  have hne' : us ≠ [] := by
    intro e
    have := relL_length hn
    rw [e] at this
    exact hne (List.length_eq_zero_iff.1 (by simpa using this.symm))
  have hw' : w.heap[r]? = some (.cells (p ++ (old ++ (q ++ sp))).toArray t fr) := by rw [hw]; simp
  have hlen' : (p ++ (old ++ (q ++ sp))).length = n := by rw [← hlen]; simp
  have hst := run_storeCells (P := P) (off := off) us old p (q ++ sp) 0 w hw' (by rw [hlen']; exact hf) (by omega) hold.symm (plainL_rel hpl hn) hne'
  refine ⟨r, n, _, hlive, hst, hr.set hlive (gid_lt (cellsOf_gid hc)) (cellsOf_gid hc) rfl ⟨p ++ (us ++ q), sp, t, fr, by simp, hf, by rw [← hlen]; simp; omega, hout⟩, ?_⟩
  intro id' r' n' hlt hl'
  exact set_ne fun e => hlt (hr.inj id' id r' n' n hl' (e ▸ hlive))
theorem store_floor {F : Nat → Prop} {w0 : Base} {γ : Gm} {w : World} (hr : HR F w0 γ hp w) {id off : Nat} {cs new out : List AV} (hc : cellsOf hp id = some cs) (hput : putE off new cs = some out) {us : List Value} (hn : AV.relL γ new us) (hpl : plainL new = true) (hne : new ≠ []) (hfl : fl ≤ id) :
    ∃ r n w', γ id = .live r n ∧ (storeCells ⟨r, off, none⟩ us).run P w = .ok () w' ∧ HR F w0 γ (sid hp id (.cells out)) w' ∧ ∀ id' r' n', id' < fl → γ id' = .live r' n' → w'.heap[r']? = w.heap[r']? := by
  obtain ⟨r, n, w', h1, h2, h3, h4⟩ := store_block (P := P) hr hc hput hn hpl hne
  exact ⟨r, n, w', h1, h2, h3, fun id' r' n' hlt => h4 id' r' n' (by omega)⟩
def storeE (P : Program) (sl : Ss) (hp : Hs) (fl : Nat) (t : TypeId) (x y : Operand) : Option (AV × Hs) := match evE sl x, szT P t with
  | .p id off, some (n + 1) => (match cellsOf hp id with
    | some cs => bif Nat.ble fl id && ((evE sl y).okCells && Nat.beq (lenL (evE sl y).cells 0) (n + 1)) then (match putE off (evE sl y).cells cs with
      | some out => some (.tup [], sid hp id (.cells out))
      | none => none) else none
    | none => none)
  | _, _ => none
theorem store_x {t : TypeId} {x y : Operand} (ho : o.op = .store t x y) {v : AV} {hp' : Hs} (h : storeE P sl hp fl t x y = some (v, hp')) : ∃ id off, evE sl x = .p id off ∧ fl ≤ id ∧
    ∀ (F : Nat → Prop) (w0 : Base) (γ : Gm) (w : World), HR F w0 γ hp w → SR γ sl a.tmps → ∃ w', (execOp a.eval o).run P w = .ok .skip w' ∧ HR F w0 γ hp' w' ∧ v.rel γ undef ∧ ∀ id' r' n', id' ≠ id → γ id' = .live r' n' → w'.heap[r']? = w.heap[r']? := by
  unfold storeE at h
  split at h
  · rename_i id off n he hn
    split at h
    · rename_i cs hc
      cases hb : (Nat.ble fl id && ((evE sl y).okCells && Nat.beq (lenL (evE sl y).cells 0) (n + 1)))
      · rw [hb] at h; simp at h
      · rw [hb, cond_true] at h
        simp only [Bool.and_eq_true] at hb
        obtain ⟨hfl, hok, hlen⟩ := hb
        have hlen := Nat.eq_of_beq_eq_true hlen
        rw [lenL_eq, Nat.add_zero] at hlen
        split at h
        · rename_i out hput
          simp only [Option.some.injEq, Prod.mk.injEq] at h
          obtain ⟨rfl, rfl⟩ := h
          refine ⟨id, off, he, Nat.le_of_ble_eq_true hfl, fun F w0 γ w hr hs => ?_⟩
          have hx := evE_rel hs x
          rw [he] at hx
          have hv := AV.cells_rel hok (evE_rel hs y)
          obtain ⟨r, m, w', hlive, hst, hr', hfr⟩ := store_block (P := P) hr hc hput hv hok (by intro e; rw [e] at hlen; simp at hlen)
          obtain ⟨ad, ex, _, hpt⟩ := hx
          have := hpt r m hlive
          subst this
          refine ⟨w', ?_, hr', undef_rel γ, hfr⟩
          have hsz : (a.eval y).cells.size = n + 1 := by
            have := relL_length hv
            rw [hlen] at this
            simpa using this
          simp [execOp, ho, ex, Instr.storeAt, Instr.sureAddr, storeVar, run_size hn, hsz, hst]
        · simp at h
    · simp at h
  · simp at h

theorem store_n {t : TypeId} {x y : Operand} (ho : o.op = .store t x y) {v : AV} {hp' : Hs} (h : storeE P sl hp fl t x y = some (v, hp')) : NS P o a sl hp d fl v hp' := by
  obtain ⟨id, off, _, hfl, h⟩ := store_x ho h
  intro F w0 γ w hr hs hd hl
  obtain ⟨w', hrun, hr', hv, hfr⟩ := h F w0 γ w hr hs
  exact ⟨undef, γ, w', .inr ⟨hrun, rfl⟩, Gm.le_refl γ, hr'.weak (fun _ h => h.1), hv, fun id' r' n' h1 h2 => ⟨h2, hfr id' r' n' (by omega) h2⟩⟩

/-! Rows. -/
theorem flat_get (l : List Value) (hl : 0 < l.length) : ∀ (n i : Nat), i < n * l.length → (List.replicate n l).flatten[i]? = l[i % l.length]?
  | 0, i, h => by simp at h
  | n + 1, i, h => by
    rw [List.replicate_succ, List.flatten_cons, List.getElem?_append]
    split
    · rename_i h1; rw [Nat.mod_eq_of_lt h1]
    · rename_i h1
      rw [flat_get l hl n (i - l.length) (by rw [Nat.succ_mul] at h; omega)]
      congr 1
      exact (Nat.mod_eq_sub_mod (by omega)).symm
theorem made_cells (z : Array Value) (n : Nat) : ((Array.range (n * z.size)).map (z[· % z.size]!)).toList = (List.replicate n z.toList).flatten := by
  have hz : z.toList.length = z.size := by simp
  apply List.ext_getElem?
  intro i
  by_cases hi : i < n * z.size
  · have h0 : 0 < z.size := by rcases Nat.eq_zero_or_pos z.size with h | h; rw [h] at hi; simp at hi; exact h
    rw [flat_get z.toList (by omega) n i (by omega), hz]
    have hm : i % z.size < z.size := Nat.mod_lt _ h0
    simp [hi, hm]
  · have h1 : ((Array.range (n * z.size)).map (z[· % z.size]!)).toList.length ≤ i := by simp; omega
    have h2 : (List.replicate n z.toList).flatten.length ≤ i := by simp; omega
    rw [List.getElem?_eq_none h1, List.getElem?_eq_none h2]
/-- So many times the same cells. -/
def repE : Nat → List AV → List AV
  | 0, _ => []
  | n + 1, l => l ++ repE n l
theorem repE_eq : ∀ (n : Nat) (l : List AV), repE n l = (List.replicate n l).flatten
  | 0, _ => rfl
  | n + 1, l => by rw [repE, repE_eq n l, List.replicate_succ, List.flatten_cons]
/-- An element's cells: how many, and of zeros. -/
def elemE (P : Program) (e : TypeId) : Option (Nat × List AV) := match szT P e, zeT P e with
  | some (n + 1), some z => bif z.okCells && Nat.beq (lenL z.cells 0) (n + 1) then some (n + 1, z.cells) else none
  | _, _ => none
theorem elemE_spec {e : TypeId} {n : Nat} {z : List AV} (h : elemE P e = some (n, z)) (γ : Gm) : szT P e = some n ∧ n ≠ 0 ∧ z.length = n ∧ plainL z = true ∧ ∃ x v, P.info? e = some x ∧ x.zero = some v ∧ x.size = n ∧ AV.relL γ z v.cells.toList ∧ v.cells.size = n := by
  unfold elemE at h
  split at h
  · rename_i m z' hm hz
    cases hb : (z'.okCells && Nat.beq (lenL z'.cells 0) (m + 1))
    · rw [hb] at h; simp at h
    · rw [hb, cond_true, Option.some.injEq, Prod.mk.injEq] at h
      obtain ⟨rfl, rfl⟩ := h
      simp only [Bool.and_eq_true] at hb
      have hlen := Nat.eq_of_beq_eq_true hb.2
      rw [lenL_eq, Nat.add_zero] at hlen
      refine ⟨hm, by omega, hlen, hb.1, ?_⟩
      unfold zeT at hz
      unfold szT at hm
      split at hz
      · rename_i x hx
        rw [hx] at hm
        simp only [Option.some.injEq] at hm
        split at hz
        · rename_i v hv
          simp only [Option.some.injEq] at hz
          subst hz
          have hc := AV.cells_rel (γ := γ) hb.1 (ofZ_rel γ v)
          refine ⟨x, v, hx, hv, hm, hc, ?_⟩
          have := relL_length hc
          rw [hlen] at this
          simpa using this
        · simp at hz
      · simp at hz
  · simp at h
def buildSliceE (P : Program) (sl : Ss) (hp : Hs) (d : Nat) (t : TypeId) (len : Nat) (parts : List (Nat × Operand)) : Option (AV × Hs) := match P.underlying t with
  | some (.slice e) => (match elemE P e with
    | some (n, z) => bif Nat.ble (len * n) 16777216 then (match fillE sl (fun i => some (i * n, n)) parts (repE len z) with
      | some cs => some (.sl d 0 len len true, sid hp d (.cells cs))
      | none => none) else none
    | none => none)
  | _ => none
theorem buildSlice_mk {t : TypeId} {len : Nat} {parts : Array (Nat × Operand)} (ho : o.op = .buildSlice t len parts) {v : AV} {hp' : Hs} (h : buildSliceE P sl hp d t len parts.toList = some (v, hp')) : MK P o a sl hp d v hp' := by
  unfold buildSliceE at h
  split at h
  · rename_i e hu
    split at h
    · rename_i n z hel
      cases hb : Nat.ble (len * n) 16777216
      · rw [hb] at h; simp at h
      · rw [hb, cond_true] at h
        have hmax := Nat.le_of_ble_eq_true hb
        split at h
        · rename_i cs hf
          simp only [Option.some.injEq, Prod.mk.injEq] at h
          obtain ⟨rfl, rfl⟩ := h
          refine ⟨_, rfl, fun γ hs => ?_⟩
          obtain ⟨hsz, hn0, hzl, hzp, x, zv, hx, hxz, hxs, hzr, hzs⟩ := elemE_spec hel γ
          rw [repE_eq] at hf
          have hzrun : ∀ w, (zeroValue e).run P w = .ok zv w := fun w => by simp [zeroValue, run_info hx, hxz]
          obtain ⟨cs', hr', hfill⟩ := fill_spec (place' := fun i => some (i * n, n)) hs (fun i q hq => hq) hf (relL_replicate hzr len)
          have hmap : (parts.map fun (p : Nat × Operand) => (p.1, a.eval p.2)).toList = parts.toList.map fun p => (p.1, a.eval p.2) := by simp
          have hcells : (Array.range (len * n)).map ((if len * n = 0 then #[] else zv.cells : Array Value)[· % (if len * n = 0 then #[] else zv.cells : Array Value).size]!) = ((List.replicate len zv.cells.toList).flatten).toArray := by
            by_cases h0 : len * n = 0
            · have : len = 0 := by rcases Nat.mul_eq_zero.1 h0 with h | h; exact h; exact absurd h hn0
              subst this
              simp
            · apply Array.ext'
              have := made_cells zv.cells len
              rw [hzs] at this
              simp only [h0, if_false, hzs]
              simpa using this
          refine ⟨_, .cells (cs' ++ []).toArray e (0, 0), fun r => .slice (some ⟨r, 0, none⟩) len len, fun w => ?_, ⟨_, [], e, (0, 0), rfl, frOk_zero _, rfl, hr'⟩, fun r => new_slX (Nat.le_refl _)⟩
          have hno : ¬ len * n > 2 ^ 24 := by omega
          rw [List.append_nil]
          by_cases h0 : len * n = 0
          · simp only [h0, if_true] at hcells
            simp only [h0] at hno
            simp only [execOp, ho, Instr.buildSlice, Sem.run_bind, run_under hu, Result.andThen_ok, run_size hsz, h0, if_neg hno, if_true, Sem.run_pure, hmap, hcells, hfill, newRow, run_newObj]
            rfl
          · simp only [h0, if_false] at hcells
            simp only [execOp, ho, Instr.buildSlice, Sem.run_bind, run_under hu, Result.andThen_ok, run_size hsz, h0, if_neg hno, if_false, hzrun, Sem.run_pure, hmap, hcells, hfill, newRow, run_newObj]
            rfl
        · simp at h
    · simp at h
  · simp at h
theorem buildSlice_n {t : TypeId} {len : Nat} {parts : Array (Nat × Operand)} (ho : o.op = .buildSlice t len parts) {v : AV} {hp' : Hs} (h : buildSliceE P sl hp d t len parts.toList = some (v, hp')) : NS P o a sl hp d fl v hp' := (buildSlice_mk ho h).ns
def byT (P : Program) (t : TypeId) : Nat := match P.info? t with
  | some x => x.bytes
  | none => 0
def makeSliceE (P : Program) (sl : Ss) (hp : Hs) (d : Nat) (t : TypeId) (l c : Operand) : Option (AV × Hs) := match P.underlying t, evE sl l, evE sl c with
  | some (.slice e), .i _ n, .i _ m => (match elemE P e with
    | some (_, z) => bif bnds 0 n m && decide ((byT P e : Int) * m ≤ 1000000000) && decide (m ≤ 1000000000) then some (.sl d 0 n.toNat m.toNat true, sid hp d (.cells (repE m.toNat z))) else none
    | none => none)
  | _, _, _ => none
theorem makeSlice_mk {t : TypeId} {l c : Operand} (ho : o.op = .makeSlice t l c) {v : AV} {hp' : Hs} (h : makeSliceE P sl hp d t l c = some (v, hp')) : MK P o a sl hp d v hp' := by
  unfold makeSliceE at h
  split at h
  · rename_i e k n k' m hu hell hec
    split at h
    · rename_i n' z hel
      cases hb : (bnds 0 n m && decide ((byT P e : Int) * m ≤ 1000000000) && decide (m ≤ 1000000000))
      · rw [hb] at h; simp at h
      · rw [hb, cond_true, Option.some.injEq, Prod.mk.injEq] at h
        obtain ⟨rfl, rfl⟩ := h
        refine ⟨_, rfl, fun γ hs => ?_⟩
        have hll := evE_rel hs l
        have hcc := evE_rel hs c
        rw [hell] at hll
        rw [hec] at hcc
        have hl' : a.eval l = .int k n := hll
        have hc' : a.eval c = .int k' m := hcc
        obtain ⟨hsz, hn0, hzl, hzp, x, zv, hx, hxz, hxs, hzr, hzs⟩ := elemE_spec hel γ
        simp only [Bool.and_eq_true, decide_eq_true_eq] at hb
        obtain ⟨⟨hbn, hby⟩, hm⟩ := hb
        obtain ⟨_, h0, h1⟩ := bnds_spec hbn
        have hby' : (x.bytes : Int) * m ≤ 281474976710656 := by
          unfold byT at hby
          rw [hx] at hby
          simp only at hby
          omega
        have hrun := fun w => run_make (P := P) w t e x zv hu hx hxz k k' n m h0 h1 hby' (by omega)
        have hcells : madeCells zv.cells (m.toNat * x.size) = ((List.replicate m.toNat zv.cells.toList).flatten).toArray := by
          apply Array.ext'
          rw [hxs, ← hzs]
          exact made_cells zv.cells m.toNat
        rw [repE_eq]
        refine ⟨_, .cells ((List.replicate m.toNat zv.cells.toList).flatten ++ []).toArray e (0, 0), fun r => .slice (some ⟨r, 0, none⟩) n.toNat m.toNat, fun w => ?_, ⟨_, [], e, (0, 0), rfl, frOk_zero _, rfl, relL_replicate hzr m.toNat⟩, fun r => new_slX (show n.toNat ≤ m.toNat by omega)⟩
        simp only [execOp, ho, hl', hc', Sem.run_bind, hrun, Result.andThen_ok, Sem.run_pure, hcells, List.append_nil]
        rfl
    · simp at h
  · simp at h

theorem makeSlice_n {t : TypeId} {l c : Operand} (ho : o.op = .makeSlice t l c) {v : AV} {hp' : Hs} (h : makeSliceE P sl hp d t l c = some (v, hp')) : NS P o a sl hp d fl v hp' := (makeSlice_mk ho h).ns

/-! Maps. -/
def makeMapE (hp : Hs) (d : Nat) : Option (AV × Hs) := some (.m d, sid hp d (.map []))
theorem makeMap_n {t : TypeId} (ho : o.op = .makeMap t none) {v : AV} {hp' : Hs} (h : makeMapE hp d = some (v, hp')) : NS P o a sl hp d fl v hp' := by
  intro F w0 γ w hr hs hd hl
  simp only [makeMapE, Option.some.injEq, Prod.mk.injEq] at h
  obtain ⟨rfl, rfl⟩ := h
  have hle := setG_le (m := .live w.heap.size 0) hd
  refine ⟨.map (some w.heap.size), setG γ d (.live w.heap.size 0), wpush w (.map #[] 0), .inl ?_, hle, hr.push hd hl ⟨#[], 0, rfl, rfl⟩, ⟨_, rfl, by rw [setG_same]; simp, fun r' n' h => by rw [setG_same] at h; cases h; rfl⟩, fun id r n _ h => ?_⟩
  · simp [execOp, ho, Instr.makeMap, wpush]
  · have hne : id ≠ d := fun e => by rw [e, hd] at h; cases h
    exact ⟨by rw [setG_ne hne]; exact h, push_get (hr.own id r n h).2⟩
def putM (es : List (AV × AV)) (k : AV) (v : AV) : Nat → List (AV × AV)
  | 0 => match es with
    | _ :: r => (k, v) :: r
    | [] => []
  | n + 1 => match es with
    | x :: r => x :: putM r k v n
    | [] => []
theorem putM_rel {γ : Gm} {k v : AV} {ku vu : Value} (hk : k.rel γ ku) (hv : v.rel γ vu) : ∀ {es : List (AV × AV)} {ms : List MapEntry} {i : Nat}, relE γ es ms → relE γ (putM es k v i) (ms.modify i fun e => { e with key := ku, val := vu })
  | [], ms, 0, h => by simp only [relE] at h; subst h; rfl
  | [], ms, i + 1, h => by simp only [relE] at h; subst h; rfl
  | x :: r, ms, 0, ⟨e, es', e1, _, _, h3⟩ => by
    subst e1
    exact ⟨_, es', rfl, hk, hv, h3⟩
  | x :: r, ms, i + 1, ⟨e, es', e1, h1, h2, h3⟩ => by
    subst e1
    exact ⟨e, es'.modify i fun e => { e with key := ku, val := vu }, by simp, h1, h2, putM_rel hk hv h3⟩
theorem relE_snoc {γ : Gm} {k v : AV} {e0 : MapEntry} (hk : k.rel γ e0.key) (hv : v.rel γ e0.val) : ∀ {es : List (AV × AV)} {ms : List MapEntry}, relE γ es ms → relE γ (es ++ [(k, v)]) (ms ++ [e0])
  | [], ms, h => by simp only [relE] at h; subst h; exact ⟨e0, [], rfl, hk, hv, rfl⟩
  | x :: r, ms, ⟨e, es', e1, h1, h2, h3⟩ => by
    subst e1
    exact ⟨e, es' ++ [e0], rfl, h1, h2, relE_snoc hk hv h3⟩
def mapUpdateE (P : Program) (sl : Ss) (hp : Hs) (fl : Nat) (t : TypeId) (m k x : Operand) : Option (AV × Hs) := match P.underlying t with
  | some (.map kt _) => (match P.underlying kt, evE sl k, evE sl m with
    | some (.int _), .i ki n, .m id => (match mapOf hp id with
      | some es => bif Nat.ble fl id then (match findE ki n es 0 with
        | some (some (j, _)) => some (.tup [], sid hp id (.map (putM es (.i ki n) (evE sl x) j)))
        | some none => some (.tup [], sid hp id (.map (es ++ [(.i ki n, evE sl x)])))
        | none => none) else none
      | none => none)
    | _, _, _ => none)
  | _ => none
theorem mapUpdate_n {t : TypeId} {m k x : Operand} (ho : o.op = .mapUpdate t m k x ∨ o.op = .insert t m k x) {v : AV} {hp' : Hs} (h : mapUpdateE P sl hp fl t m k x = some (v, hp')) : NS P o a sl hp d fl v hp' := by
  intro F w0 γ w hr hs hd hl
  unfold mapUpdateE at h
  have hm := evE_rel hs m
  have hk := evE_rel hs k
  have hx := evE_rel hs x
  have hexec : ∀ {w' : World}, (Instr.mapUpdate t (a.eval m) (a.eval k) (a.eval x)).run P w = .ok () w' → (execOp a.eval o).run P w = .ok .skip w' := by
    intro w' hrun
    rcases ho with ho | ho <;> simp [execOp, ho, hrun]
  split at h
  · rename_i kt et hu
    split at h
    · rename_i kk ki n id hkt hek hem
      rw [hek] at hk
      rw [hem] at hm
      have hk' : a.eval k = .int ki n := hk
      split at h
      · rename_i es hes
        obtain ⟨r, n', ms, clock, hlive, hw, hrel⟩ := hr.live.map hes
        obtain ⟨r', hm', _, hpt⟩ := hm
        have := hpt r n' hlive
        subst this
        cases hfl : Nat.ble fl id
        · rw [hfl] at h; simp at h
        · rw [hfl, cond_true] at h
          have hfl' := Nat.le_of_ble_eq_true hfl
          have fin : ∀ {o' : Obj} {es' : List (AV × AV)}, (AB.map es').rel γ n' o' → HR (fun j => F j ∧ j ≠ d) w0 γ (sid hp id (.map es')) (wset w r' o') ∧ ∀ id' r'' n'', id' < fl → γ id' = .live r'' n'' → γ id' = .live r'' n'' ∧ (wset w r' o').heap[r'']? = w.heap[r'']? := by
            intro o' es' hb
            refine ⟨(hr.set hlive (gid_lt (mapOf_gid hes)) (mapOf_gid hes) rfl hb).weak (fun _ h => h.1), fun id' r'' n'' h1 h2 => ⟨h2, set_ne fun e => ?_⟩⟩
            have := hr.inj id' id r'' n'' n' h2 (e ▸ hlive)
            omega
          split at h
          · rename_i j v' hf
            simp only [Option.some.injEq, Prod.mk.injEq] at h
            obtain ⟨rfl, rfl⟩ := h
            obtain ⟨u, hu', hnow, _, e, he, hkey⟩ := findE_spec (kt := kk) hf hrel
            have hfk : (Instr.findKey kt (.int ki n) ms.toList).run P w = .ok (some (j, u)) w := by simp [Instr.findKey, run_under hkt, hnow]
            have he' : ms[j]? = some e := by simpa using he
            have hstay : (Instr.keyThatStays (((ms[j]?).map (·.key)).getD (.int ki n)) (.int ki n)).run P w = .ok (.int ki n) w := by
              rw [he']
              simp [Instr.keyThatStays, hkey, Instr.sameBits]
            obtain ⟨f1, f2⟩ := fin (o' := .map (ms.modify j fun e => { e with key := .int ki n, val := a.eval x }) clock) (es' := putM es (.i ki n) (evE sl x) j) ⟨_, _, rfl, by rw [Array.toList_modify]; exact putM_rel (show AV.rel γ (.i ki n) (.int ki n) from rfl) hx hrel⟩
            refine ⟨undef, γ, _, .inr ⟨hexec ?_, rfl⟩, Gm.le_refl γ, f1, undef_rel γ, f2⟩
            rw [hm', hk']
            simp only [Instr.mapUpdate, Sem.run_bind, run_under hu, Result.andThen_ok, MapKept.run_getObj_map hw, checkKey_int hkt, hfk, hstay, MapKept.run_setObj_map _ hw]
            rfl
          · rename_i hf
            simp only [Option.some.injEq, Prod.mk.injEq] at h
            obtain ⟨rfl, rfl⟩ := h
            have hnow : Instr.findNow (.int kk) (.int ki n) ms.toList 0 = some none := findE_spec (kt := kk) hf hrel
            have hfk : (Instr.findKey kt (.int ki n) ms.toList).run P w = .ok none w := by simp [Instr.findKey, run_under hkt, hnow]
            obtain ⟨f1, f2⟩ := fin (o' := .map (ms.push ⟨.int ki n, a.eval x, clock⟩) (clock + 1)) (es' := es ++ [(.i ki n, evE sl x)]) ⟨_, _, rfl, by rw [Array.toList_push]; exact relE_snoc (e0 := ⟨.int ki n, a.eval x, clock⟩) (show AV.rel γ (.i ki n) (.int ki n) from rfl) hx hrel⟩
            refine ⟨undef, γ, _, .inr ⟨hexec ?_, rfl⟩, Gm.le_refl γ, f1, undef_rel γ, f2⟩
            rw [hm', hk']
            simp only [Instr.mapUpdate, Sem.run_bind, run_under hu, Result.andThen_ok, MapKept.run_getObj_map hw, checkKey_int hkt, hfk, MapKept.run_setObj_map _ hw]
            rfl
          · simp at h
      · simp at h
    · simp at h
  · simp at h
end
end Go.Proofs.Ytclgglffbpfmhaa
