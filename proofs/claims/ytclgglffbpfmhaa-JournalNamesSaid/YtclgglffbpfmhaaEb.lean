/- The operations that turn nothing: reckoned, and that the model gives the same. -/
import Derived.Test.YtclgglffbpfmhaaEa
import Derived.Laws.Strings
import Derived.Laws.BytesString
import Derived.Laws.Slices
namespace Go.Proofs.Ytclgglffbpfmhaa
set_option linter.unusedSimpArgs false
set_option linter.unusedVariables false

abbrev Ss := Tr AV
def slotE (sl : Ss) (t : Nat) : AV := bif Nat.blt t lim then (match sl.get (key t) with | some x => x | none => .und) else .und
def evE (sl : Ss) : Operand → AV
  | .tmp t => slotE sl t
  | .const v => ofV v
  | .global _ => .und
  | .func f => .f f []
def SR (γ : Gm) (sl : Ss) (ts : Array Value) : Prop := ∀ t, (slotE sl t).rel γ (ts.getD t undef)
theorem SR.mono {γ γ' : Gm} (hg : Gm.le γ γ') {sl : Ss} {ts : Array Value} (h : SR γ sl ts) : SR γ' sl ts := fun t => AV.rel_mono hg (h t)
section
variable {γ : Gm} {sl : Ss} {a : Act} {P : Program} {o : Oper} {hp : Hs} {w : World}
theorem evE_rel (hs : SR γ sl a.tmps) (x : Operand) : (evE sl x).rel γ (a.eval x) := by
  cases x
  case tmp t => exact hs t
  case const v => exact ofV_rel γ v
  case global g => trivial
  case func f => exact ⟨[], rfl, rfl⟩
theorem evE_map (hs : SR γ sl a.tmps) : ∀ l : List Operand, AV.relL γ (l.map (evE sl)) (l.map a.eval)
  | [] => rfl
  | x :: l => ⟨_, _, rfl, evE_rel hs x, evE_map hs l⟩

/-- Does it look into memory? -/
def memE : Op → Bool
  | .load _ _ => true
  | .convert _ _ _ => true
  | .lookup _ _ _ _ => true
  | _ => false
/-- It gives this wherever what is known stands. -/
def QS (P : Program) (o : Oper) (a : Act) (γ : Gm) (hp : Hs) (w : World) (v : AV) : Prop :=
  ∃ u, v.rel γ u ∧ ∀ w', (memE o.op = true → SameL γ hp w w') → (execOp a.eval o).run P w' = .ok (.value u) w'

/-! Types. -/
theorem run_info {t : TypeId} {x : TypeInfo} (h : P.info? t = some x) : (typeInfo t).run P w = .ok x w := by simp [typeInfo, h]
theorem run_under {t : TypeId} {d : TypeDesc} (h : P.underlying t = some d) : (underlying t).run P w = .ok d w := by simp [underlying, h]
def szT (P : Program) (t : TypeId) : Option Nat := match P.info? t with
  | some x => some x.size
  | none => none
theorem run_size {t : TypeId} {n : Nat} (h : szT P t = some n) : (sizeOf t).run P w = .ok n w := by
  unfold szT at h
  split at h
  · rename_i x hx
    simp only [Option.some.injEq] at h
    subst h
    simp [sizeOf, run_info hx]
  · simp at h
def isAggD : TypeDesc → Bool
  | .struct _ => true
  | .array _ _ => true
  | _ => false
def aggT (P : Program) (t : TypeId) : Option Bool := match P.underlying t with
  | some d => some (isAggD d)
  | none => none
theorem run_agg {t : TypeId} {b : Bool} (h : aggT P t = some b) : (isAgg t).run P w = .ok b w := by
  unfold aggT at h
  split at h
  · rename_i d hd
    simp only [Option.some.injEq] at h
    subst h
    cases d <;> simp [isAgg, run_under hd, isAggD]
  · simp at h
def zeT (P : Program) (t : TypeId) : Option AV := match P.info? t with
  | some x => (match x.zero with
    | some z => some (ofZ z)
    | none => none)
  | none => none
theorem run_zero {t : TypeId} {z : AV} (h : zeT P t = some z) : ∃ v, z.rel γ v ∧ ∀ w, (zeroValue t).run P w = .ok v w := by
  unfold zeT at h
  split at h
  · rename_i x hx
    split at h
    · rename_i v hv
      simp only [Option.some.injEq] at h
      subst h
      exact ⟨v, ofZ_rel γ v, fun w => by simp [zeroValue, run_info hx, hv]⟩
    · simp at h
  · simp at h

/-! Parts of rows of cells. -/
def nth : List AV → Nat → Option AV
  | [], _ => none
  | x :: _, 0 => some x
  | _ :: r, n + 1 => nth r n
theorem nth_eq : ∀ (l : List AV) (n : Nat), nth l n = l[n]?
  | [], _ => rfl
  | _ :: _, 0 => rfl
  | _ :: r, n + 1 => by simpa [nth] using nth_eq r n
def lenL : List AV → Nat → Nat
  | [], n => n
  | _ :: r, n => lenL r (n + 1)
theorem lenL_eq : ∀ (l : List AV) (n : Nat), lenL l n = l.length + n
  | [], n => by simp [lenL]
  | _ :: r, n => by rw [lenL, lenL_eq r (n + 1), List.length_cons]; omega
/-- Just so many from the front. -/
def takeE : Nat → List AV → Option (List AV)
  | 0, _ => some []
  | _ + 1, [] => none
  | n + 1, x :: r => match takeE n r with
    | some l => some (x :: l)
    | none => none
theorem takeE_spec : ∀ {n : Nat} {l m : List AV}, takeE n l = some m → m = l.take n ∧ n ≤ l.length
  | 0, l, m, h => by simp only [takeE, Option.some.injEq] at h; subst h; simp
  | n + 1, [], m, h => by simp [takeE] at h
  | n + 1, x :: r, m, h => by
    unfold takeE at h
    split at h
    · rename_i l hl
      obtain ⟨rfl, h2⟩ := takeE_spec hl
      simp only [Option.some.injEq] at h
      subst h
      simp; omega
    · simp at h
def dropE : Nat → List AV → List AV
  | 0, l => l
  | _ + 1, [] => []
  | n + 1, _ :: r => dropE n r
theorem dropE_eq : ∀ (n : Nat) (l : List AV), dropE n l = l.drop n
  | 0, l => by simp [dropE]
  | n + 1, [] => by simp [dropE]
  | n + 1, x :: r => by simpa [dropE] using dropE_eq n r
def partE (P : Program) (t : TypeId) (cs : List AV) (off : Nat) : Option AV := match aggT P t with
  | some true => (match szT P t with
    | some n => (match takeE n (dropE off cs) with
      | some l => bif Nat.ble off (lenL cs 0) then some (.agg l) else none
      | none => none)
    | none => none)
  | some false => nth cs off
  | none => none
theorem takeE_drop {n off : Nat} {cs l : List AV} (h : takeE n (dropE off cs) = some l) (hb : Nat.ble off (lenL cs 0) = true) : l = (cs.drop off).take n ∧ off + n ≤ cs.length := by
  rw [dropE_eq] at h
  obtain ⟨h1, h2⟩ := takeE_spec h
  have h3 := Nat.le_of_ble_eq_true hb
  rw [lenL_eq] at h3
  rw [List.length_drop] at h2
  exact ⟨h1, by omega⟩
theorem part_spec {t : TypeId} {cs : List AV} {off : Nat} {v : AV} (h : partE P t cs off = some v) {vs : List Value} (hr : AV.relL γ cs vs) :
    ∃ u, v.rel γ u ∧ ∀ w, (part t vs.toArray off).run P w = .ok u w := by
  unfold partE at h
  split at h
  · rename_i ha
    split at h
    · rename_i n hn
      split at h
      · rename_i l hl
        cases hb : Nat.ble off (lenL cs 0)
        · rw [hb] at h; simp at h
        · rw [hb, cond_true, Option.some.injEq] at h
          subst h
          obtain ⟨rfl, hle⟩ := takeE_drop hl hb
          obtain ⟨p, es, q, rfl, hp', he, _, hes, _⟩ := relL_cut hr off n hle
          refine ⟨.agg es.toArray, ⟨es, rfl, hes⟩, fun w => ?_⟩
          have : (p ++ (es ++ q)).toArray.extract off (off + n) = es.toArray := by
            subst hp' he
            simp
          simp only [part, Sem.run_bind, run_agg ha, Result.andThen_ok, if_true, run_size hn, this, Sem.run_pure]
      · simp at h
    · simp at h
  · rename_i ha
    rw [nth_eq] at h
    obtain ⟨u, hu, hrel⟩ := relL_get hr h
    refine ⟨u, hrel, fun w => ?_⟩
    have : vs.toArray[off]? = some u := by simpa using hu
    simp only [part, Sem.run_bind, run_agg ha, Result.andThen_ok, Bool.false_eq_true, if_false, this, Sem.run_pure]
  · simp at h

/-! Loads. -/
theorem cell_at {b off : Nat} {cs : List Value} {v : Value} {t : TypeId} {fr : Nat × Nat} (h : w.heap[b]? = some (.cells cs.toArray t fr)) (hp : cs[off]? = some v) :
    w.cell? ⟨b, off, none⟩ = some v := by
  simp [World.cell?, h, hp]
theorem add_off (b off n : Nat) : (⟨b, off, none⟩ : Addr).add n = ⟨b, off + n, none⟩ := by
  unfold Addr.add
  by_cases h : n = 0 <;> simp [h]
theorem run_loadCellsFrom {b off : Nat} {t : TypeId} {fr : Nat × Nat} : ∀ (es p q : List Value) (i : Nat) (acc : Array Value),
    w.heap[b]? = some (.cells (p ++ (es ++ q)).toArray t fr) → p.length = off + i → (loadCellsFrom ⟨b, off, none⟩ i es.length acc).run P w = .ok (acc ++ es.toArray) w
  | [], _, _, _, acc, _, _ => by simp [loadCellsFrom]
  | e :: es, p, q, i, acc, h, hp => by
    have hc : w.cell? ((⟨b, off, none⟩ : Addr).add i) = some e := by
      rw [add_off]; exact cell_at h (by rw [← hp]; simp)
    have ih := run_loadCellsFrom (off := off) es (p ++ [e]) q (i + 1) (acc.push e) (by simpa using h) (by simp; omega)
    simp [loadCellsFrom, hc, ih]
def cellsOf (hp : Hs) (id : Nat) : Option (List AV) := match gid hp id with
  | some (.cells cs) => some cs
  | _ => none
theorem cellsOf_gid {id : Nat} {cs : List AV} (h : cellsOf hp id = some cs) : gid hp id = some (.cells cs) := by
  unfold cellsOf at h
  split at h
  · rename_i c hc
    simp only [Option.some.injEq] at h
    subst h; exact hc
  · simp at h
/-- To be looked into. -/
def readOf (hp : Hs) (id : Nat) : Option (List AV) := match gid hp id with
  | some (.cells cs) => some cs
  | some (.ro cs) => some cs
  | _ => none
theorem readOf_gid {id : Nat} {cs : List AV} (h : readOf hp id = some cs) : ∃ b, gid hp id = some b := by
  unfold readOf at h
  split at h
  · rename_i c hc; exact ⟨_, hc⟩
  · rename_i c hc; exact ⟨_, hc⟩
  · simp at h
theorem HL.read (hl : HL γ hp w) {id : Nat} {cs : List AV} (h : readOf hp id = some cs) :
    ∃ r n ds sp t fr, γ id = .live r n ∧ w.heap[r]? = some (.cells (ds ++ sp).toArray t fr) ∧ frOk fr n ∧ (ds ++ sp).length = n ∧ AV.relL γ cs ds := by
  unfold readOf at h
  split at h
  · rename_i c hc
    simp only [Option.some.injEq] at h
    subst h
    obtain ⟨r, n, o, hr, ho, ds, sp, t, fr, e, hf, hn, hrel⟩ := hl id _ hc
    exact ⟨r, n, ds, sp, t, fr, hr, by rw [ho, e], hf, hn, hrel⟩
  · rename_i c hc
    simp only [Option.some.injEq] at h
    subst h
    obtain ⟨r, n, o, hr, ho, ds, sp, t, fr, e, hf, hn, hrel⟩ := hl id _ hc
    exact ⟨r, n, ds, sp, t, fr, hr, by rw [ho, e], hf, hn, hrel⟩
  · simp at h
theorem HL.cells (hl : HL γ hp w) {id : Nat} {cs : List AV} (h : cellsOf hp id = some cs) :
    ∃ r n ds sp t fr, γ id = .live r n ∧ w.heap[r]? = some (.cells (ds ++ sp).toArray t fr) ∧ frOk fr n ∧ (ds ++ sp).length = n ∧ AV.relL γ cs ds := by
  obtain ⟨r, n, o, hr, ho, ds, sp, t, fr, e, hf, hn, hrel⟩ := hl id _ (cellsOf_gid h)
  exact ⟨r, n, ds, sp, t, fr, hr, by rw [ho, e], hf, hn, hrel⟩
/-- Real cells are loaded. -/
theorem run_loadVar {t : TypeId} {cs : List AV} {off : Nat} {v : AV} (h : partE P t cs off = some v) {r : Nat} {ds sp : List Value} {bt : TypeId} {fr : Nat × Nat} (hr : AV.relL γ cs ds) :
    ∃ u, v.rel γ u ∧ ∀ w : World, w.heap[r]? = some (.cells (ds ++ sp).toArray bt fr) → (loadVar t ⟨r, off, none⟩).run P w = .ok u w := by
  unfold partE at h
  split at h
  · rename_i ha
    split at h
    · rename_i n hn
      split at h
      · rename_i l hl
        cases hb : Nat.ble off (lenL cs 0)
        · rw [hb] at h; simp at h
        · rw [hb, cond_true, Option.some.injEq] at h
          subst h
          obtain ⟨rfl, hle⟩ := takeE_drop hl hb
          obtain ⟨p, es, q, rfl, hp', he, _, hes, _⟩ := relL_cut hr off n hle
          refine ⟨.agg es.toArray, ⟨es, rfl, hes⟩, fun w hw => ?_⟩
          have := run_loadCellsFrom (P := P) (w := w) (off := off) (t := bt) (fr := fr) es p (q ++ sp) 0 #[] (by simpa using hw) (by omega)
          simp [loadVar, run_agg ha, run_size hn, loadCells, ← he, this]
      · simp at h
    · simp at h
  · rename_i ha
    rw [nth_eq] at h
    obtain ⟨u, hu, hrel⟩ := relL_get hr h
    refine ⟨u, hrel, fun w hw => ?_⟩
    have hlt : off < ds.length := by
      rcases Nat.lt_or_ge off ds.length with h | h
      · exact h
      · simp [List.getElem?_eq_none h] at hu
    have hc : w.cell? ⟨r, off, none⟩ = some u := cell_at hw (by rw [List.getElem?_append_left hlt]; exact hu)
    simp [loadVar, run_agg ha, hc]
  · simp at h
def loadE (P : Program) (sl : Ss) (hp : Hs) (t : TypeId) (x : Operand) : Option AV := match evE sl x with
  | .p id off => (match readOf hp id with
    | some cs => partE P t cs off
    | none => none)
  | _ => none
theorem load_q (hs : SR γ sl a.tmps) (hl : HL γ hp w) {t : TypeId} {x : Operand} (ho : o.op = .load t x) {v : AV} (h : loadE P sl hp t x = some v) : QS P o a γ hp w v := by
  unfold loadE at h
  have hx := evE_rel hs x
  split at h
  · rename_i id off he
    rw [he] at hx
    split at h
    · rename_i cs hc
      obtain ⟨r, n, ds, sp, bt, fr, hr, hw, _, _, hrel⟩ := hl.read hc
      obtain ⟨ad, ex, _, hpt⟩ := hx
      have had := hpt r n hr
      subst had
      obtain ⟨u, hu, hrun⟩ := run_loadVar (r := r) (sp := sp) (bt := bt) (fr := fr) h hrel
      refine ⟨u, hu, fun w' hw' => ?_⟩
      have hsame := hw' (by rw [ho]; rfl) id _ r n (readOf_gid hc).choose_spec hr
      have := hrun w' (by rw [hsame]; exact hw)
      simp [execOp, ho, ex, Instr.loadAt, Instr.sureAddr, this]
    · simp at h
  · simp at h

/-! Addresses. -/
/-! Methods of interface values: those whose receiver is the value itself. -/
def methE (P : Program) (t : TypeId) (name : String) : Option FuncId := match P.info? t with
  | some x => (match x.methods.find? (·.name == name) with
    | some m => (match m.path.toList, m.func, P.underlying t with
      | [], some (f, true), some (.pointer _) => some f
      | [], some (f, false), some (.struct _) => some f
      | _, _, _ => none)
    | none => none)
  | none => none
theorem meth_run {t : TypeId} {name : String} {f : FuncId} (h : methE P t name = some f) (d : Nat) (v : Value) : (method (d + 1) t v name).run P w = .ok (f, v) w := by
  unfold methE at h
  split at h
  · rename_i x hx
    split at h
    · rename_i m hm
      split at h
      · rename_i hp hf hu
        simp only [Option.some.injEq] at h
        subst h
        simp only [method, Sem.run_bind, run_info hx, Result.andThen_ok, hm, hp, follow, Sem.run_pure, hf, receiverAt, run_under hu, Place.get]
      · rename_i hp hf hu
        simp only [Option.some.injEq] at h
        subst h
        simp only [method, Sem.run_bind, run_info hx, Result.andThen_ok, hm, hp, follow, Sem.run_pure, hf, receiverAt, run_under hu, Place.get]
      · simp at h
    · simp at h
  · simp at h
theorem ahead_run {t : TypeId} {name : String} {f : FuncId} (h : methE P t name = some f) (d : Nat) (v : Value) : (nilAhead (d + 1) t v name).run P w = .ok (some false) w := by
  unfold methE at h
  split at h
  · rename_i x hx
    split at h
    · rename_i m hm
      split at h
      · rename_i hp hf hu
        simp only [nilAhead, Sem.run_bind, run_info hx, Result.andThen_ok, hm, hp, followBlind, Sem.run_pure, hf]
      · rename_i hp hf hu
        simp only [nilAhead, Sem.run_bind, run_info hx, Result.andThen_ok, hm, hp, followBlind, Sem.run_pure, hf, run_under hu]
      · simp at h
    · simp at h
  · simp at h
def nilCheckE (P : Program) (sl : Ss) (x : Operand) : Option AV := match evE sl x with
  | .p id off => some (.p id off)
  | .f g cs => some (.f g cs)
  | .ifc t v => some (.ifc t v)
  | .mv name (.ifc t v) => (match methE P t name with
    | some _ => some (.mv name (.ifc t v))
    | none => none)
  | _ => none
theorem nilCheck_q (hs : SR γ sl a.tmps) {x : Operand} (ho : o.op = .nilCheck x) {v : AV} (h : nilCheckE P sl x = some v) : QS P o a γ hp w v := by
  unfold nilCheckE at h
  have hx := evE_rel hs x
  split at h <;> try simp only [Option.some.injEq, reduceCtorEq] at h
  · rename_i id off he
    subst h
    rw [he] at hx
    refine ⟨_, hx, fun w' _ => ?_⟩
    obtain ⟨ad, ex, _⟩ := hx
    simp [execOp, ho, ex]
  · rename_i g cs he
    subst h
    rw [he] at hx
    refine ⟨_, hx, fun w' _ => ?_⟩
    obtain ⟨ad, ex, _⟩ := hx
    simp [execOp, ho, ex]
  · rename_i t v he
    subst h
    rw [he] at hx
    refine ⟨_, hx, fun w' _ => ?_⟩
    obtain ⟨ad, ex, _⟩ := hx
    simp [execOp, ho, ex]
  · rename_i name t v he
    rw [he] at hx
    split at h
    · rename_i f hm
      simp only [Option.some.injEq] at h
      subst h
      refine ⟨_, hx, fun w' _ => ?_⟩
      obtain ⟨u, ex, u', eu, _⟩ := hx
      subst eu
      have hd : P.types.size + Made.depth = (P.types.size + Made.depth - 1) + 1 := by unfold Made.depth; omega
      simp only [execOp, ho, ex, List.getElem?_toArray, List.getElem?_cons_zero, Sem.run_bind, run_program, Result.andThen_ok]
      rw [hd, ahead_run hm]
      simp
    · simp at h
def fieldE (P : Program) (s : TypeId) (f : Nat) : Option (Nat × TypeId) := match P.underlying s with
  | some (.struct fs) => (match fs[f]? with
    | some y => some (y.offset, y.type)
    | none => none)
  | _ => none
theorem fieldE_spec {s : TypeId} {f off : Nat} {t : TypeId} (h : fieldE P s f = some (off, t)) : ∃ fs y, P.underlying s = some (.struct fs) ∧ fs[f]? = some y ∧ y.offset = off ∧ y.type = t := by
  unfold fieldE at h
  split at h
  · rename_i fs hfs
    split at h
    · rename_i y hy
      simp only [Option.some.injEq, Prod.mk.injEq] at h
      exact ⟨fs, y, hfs, hy, h.1, h.2⟩
    · simp at h
  · simp at h
def fieldAddrE (P : Program) (sl : Ss) (s : TypeId) (x : Operand) (f : Nat) : Option AV := match fieldE P s f with
  | some (fo, ft) => (match szT P ft with
    | some (_ + 1) => (match evE sl x with
      | .p id off => some (.p id (off + fo))
      | _ => none)
    | _ => none)
  | none => none
theorem fieldAddr_q (hs : SR γ sl a.tmps) {s : TypeId} {x : Operand} {f : Nat} (ho : o.op = .fieldAddr s x f) {v : AV} (h : fieldAddrE P sl s x f = some v) : QS P o a γ hp w v := by
  unfold fieldAddrE at h
  have hx := evE_rel hs x
  split at h
  · rename_i fo ft hf
    obtain ⟨fs, y, hu, hy, rfl, rfl⟩ := fieldE_spec hf
    split at h
    · rename_i n hn
      split at h
      · rename_i id off he
        rw [he] at hx
        simp only [Option.some.injEq] at h
        subst h
        obtain ⟨ad, ex, hne, hpt⟩ := hx
        refine ⟨.pointer (some (ad.add y.offset)), ⟨_, rfl, hne, fun r n hr => ?_⟩, fun w' _ => ?_⟩
        · rw [hpt r n hr, add_off]
        · simp [execOp, ho, ex, Instr.fieldAt, run_under hu, hy, Instr.sureAddr, fieldPlace, run_size hn]
      · simp at h
    · simp at h
  · simp at h
def fieldVE (P : Program) (sl : Ss) (s : TypeId) (x : Operand) (f : Nat) : Option AV := match fieldE P s f with
  | some (fo, ft) => (match evE sl x with
    | .agg cs => partE P ft cs fo
    | _ => none)
  | none => none
theorem field_q (hs : SR γ sl a.tmps) {s : TypeId} {x : Operand} {f : Nat} (ho : o.op = .field s x f) {v : AV} (h : fieldVE P sl s x f = some v) : QS P o a γ hp w v := by
  unfold fieldVE at h
  have hx := evE_rel hs x
  split at h
  · rename_i fo ft hf
    obtain ⟨fs, y, hu, hy, rfl, rfl⟩ := fieldE_spec hf
    split at h
    · rename_i cs he
      rw [he] at hx
      obtain ⟨ds, ex, hr⟩ := hx
      obtain ⟨u, hu', hrun⟩ := part_spec h hr
      refine ⟨u, hu', fun w' _ => ?_⟩
      simp only [execOp, ho, Instr.field, ex, Sem.run_bind, run_under hu, Result.andThen_ok, hy, asAgg, Sem.run_pure, hrun]
    · simp at h
  · simp at h
def inB (m : Int) (n : Nat) : Bool := match m with
  | .ofNat k => Nat.blt k n
  | .negSucc _ => false
theorem inB_spec {m : Int} {n : Nat} (h : inB m n = true) : 0 ≤ m ∧ m < n := by
  unfold inB at h
  split at h
  · rename_i k
    have := lt_of_blt h
    exact ⟨Int.natCast_nonneg k, by simp; omega⟩
  · simp at h
def indexAddrE (P : Program) (sl : Ss) (t : TypeId) (x ix : Operand) : Option AV := match evE sl ix with
  | .i _ m => (match P.underlying t with
    | some (.array n e) => (match szT P e, evE sl x with
      | some z, .p id off => bif inB m n then some (.p id (off + m.toNat * z)) else none
      | _, _ => none)
    | some (.slice e) => (match szT P e, evE sl x with
      | some z, .sl id off n _ _ => bif inB m n then some (.p id (off + m.toNat * z)) else none
      | _, _ => none)
    | _ => none)
  | _ => none
theorem indexAddr_q (hs : SR γ sl a.tmps) {t : TypeId} {x ix : Operand} (ho : o.op = .indexAddr t x ix) {v : AV} (h : indexAddrE P sl t x ix = some v) : QS P o a γ hp w v := by
  unfold indexAddrE at h
  have hx := evE_rel hs x
  have hi := evE_rel hs ix
  split at h
  · rename_i k m he
    rw [he] at hi
    have hi' : a.eval ix = .int k m := hi
    split at h
    · rename_i n e hu
      split at h
      · rename_i z id off hz hex
        rw [hex] at hx
        obtain ⟨ad, ex, hne, hpt⟩ := hx
        cases hb : inB m n
        · rw [hb] at h; simp at h
        · rw [hb, cond_true, Option.some.injEq] at h
          subst h
          obtain ⟨h0, h1⟩ := inB_spec hb
          refine ⟨.pointer (some (ad.add (m.toNat * z))), ⟨_, rfl, hne, fun r n hr => ?_⟩, fun w' _ => ?_⟩
          · rw [hpt r n hr, add_off]
          · simp [execOp, ho, ex, hi', Instr.indexAt, asIntOf, run_under hu, Instr.sureAddr, h0, h1, run_size hz]
      · simp at h
    · rename_i e hu
      split at h
      · rename_i z id off n cap exct hz hex
        rw [hex] at hx
        obtain ⟨ad, c, ex, hle, _, hne, hpt⟩ := hx
        replace hpt : ∀ r n, γ id = .live r n → ad = ⟨r, off, none⟩ := fun r n hr => (hpt r n hr).1
        cases hb : inB m n
        · rw [hb] at h; simp at h
        · rw [hb, cond_true, Option.some.injEq] at h
          subst h
          obtain ⟨h0, h1⟩ := inB_spec hb
          refine ⟨.pointer (some (ad.add (m.toNat * z))), ⟨_, rfl, hne, fun r n hr => ?_⟩, fun w' _ => ?_⟩
          · rw [hpt r n hr, add_off]
          · simp [execOp, ho, ex, hi', Instr.indexAt, asIntOf, run_under hu, h0, h1, run_size hz]
      · simp at h
    · simp at h
  · simp at h
def nthB : List UInt8 → Nat → Option UInt8
  | [], _ => none
  | x :: _, 0 => some x
  | _ :: r, n + 1 => nthB r n
theorem nthB_eq : ∀ (l : List UInt8) (n : Nat), nthB l n = l[n]?
  | [], _ => rfl
  | _ :: _, 0 => rfl
  | _ :: r, n + 1 => by simpa [nthB] using nthB_eq r n
def indexE (P : Program) (sl : Ss) (t : TypeId) (x ix : Operand) : Option AV := match evE sl ix with
  | .i _ m => (match P.underlying t with
    | some (.array n e) => (match szT P e, evE sl x with
      | some z, .agg cs => bif inB m n then partE P e cs (m.toNat * z) else none
      | _, _ => none)
    | some .string => (match evE sl x with
      | .s l => bif inB m l.length then (match nthB l m.toNat with
        | some c => some (.i .u8 c.toNat)
        | none => none) else none
      | _ => none)
    | _ => none)
  | _ => none
theorem index_q (hs : SR γ sl a.tmps) {t : TypeId} {x ix : Operand} (ho : o.op = .index t x ix) {v : AV} (h : indexE P sl t x ix = some v) : QS P o a γ hp w v := by
  unfold indexE at h
  have hx := evE_rel hs x
  have hi := evE_rel hs ix
  split at h
  · rename_i k m he
    rw [he] at hi
    have hi' : a.eval ix = .int k m := hi
    split at h
    · rename_i n e hu
      split at h
      · rename_i z cs hz hex
        rw [hex] at hx
        obtain ⟨ds, ex, hr⟩ := hx
        cases hb : inB m n
        · rw [hb] at h; simp at h
        · rw [hb, cond_true] at h
          obtain ⟨h0, h1⟩ := inB_spec hb
          obtain ⟨u, hu', hrun⟩ := part_spec h hr
          refine ⟨u, hu', fun w' _ => ?_⟩
          simp only [execOp, ho, Instr.index, ex, hi', asIntOf, Sem.run_bind, Sem.run_pure, Result.andThen_ok, run_under hu, h0, h1, and_self, if_true, run_size hz, hrun]
      · simp at h
    · rename_i hu
      split at h
      · rename_i l hex
        rw [hex] at hx
        have hx' : a.eval x = .string ⟨l.toArray⟩ := hx
        cases hb : inB m l.length
        · rw [hb] at h; simp at h
        · rw [hb, cond_true] at h
          obtain ⟨h0, h1⟩ := inB_spec hb
          split at h
          · rename_i c hc
            simp only [Option.some.injEq] at h
            subst h
            rw [nthB_eq] at hc
            refine ⟨.int .u8 c.toNat, rfl, fun w' _ => ?_⟩
            have hlt : m.toNat < l.length := by omega
            have e1 : (⟨l.toArray⟩ : ByteArray)[m.toNat]? = some c := by
              rw [ByteArray.getElem?_lt' _ _ (by simpa [ByteArray.size] using hlt)]
              rw [List.getElem?_eq_getElem hlt] at hc
              rw [← hc]
              rfl
            simp [execOp, ho, Instr.index, hx', hi', asIntOf, run_under hu, h0, e1]
          · simp at h
      · simp at h
    · simp at h
  · simp at h
def extractE (sl : Ss) (x : Operand) (n : Nat) : Option AV := match evE sl x with
  | .tup vs => nth vs n
  | _ => none
theorem extract_q (hs : SR γ sl a.tmps) {x : Operand} {n : Nat} (ho : o.op = .extract x n) {v : AV} (h : extractE sl x n = some v) : QS P o a γ hp w v := by
  unfold extractE at h
  have hx := evE_rel hs x
  split at h
  · rename_i vs he
    rw [he] at hx
    obtain ⟨ds, ex, hr⟩ := hx
    rw [nth_eq] at h
    obtain ⟨u, hu, hrel⟩ := relL_get hr h
    refine ⟨u, hrel, fun w' _ => ?_⟩
    have : ds.toArray[n]? = some u := by simpa using hu
    simp only [execOp, ho, Instr.extract, ex, this, Sem.run_bind, Sem.run_pure, Result.andThen_ok]
  · simp at h
def makeIfcE (P : Program) (sl : Ss) (t : TypeId) (x : Operand) : Option AV := match P.underlying t with
  | some (.interface _) => none
  | some _ => some (.ifc t (evE sl x))
  | none => none
theorem makeIfc_q (hs : SR γ sl a.tmps) {t : TypeId} {x : Operand} (ho : o.op = .makeInterface t x) {v : AV} (h : makeIfcE P sl t x = some v) : QS P o a γ hp w v := by
  unfold makeIfcE at h
  have hx := evE_rel hs x
  split at h
  · simp at h
  · rename_i d hd hu
    simp only [Option.some.injEq] at h
    subst h
    refine ⟨.iface t (a.eval x), ⟨_, rfl, hx⟩, fun w' _ => ?_⟩
    cases d <;> first | (exact absurd rfl (hd _)) | simp [execOp, ho, Instr.makeInterface, run_under hu]
  · simp at h
def makeFuncE (sl : Ss) (fn : Fn) (first captured : List Operand) : Option AV := match fn, first with
  | .func f, [] => some (.f f (captured.map (evE sl)))
  | .method name, [x] => bif captured.isEmpty then some (.mv name (evE sl x)) else none
  | _, _ => none
theorem makeFunc_q (hs : SR γ sl a.tmps) {fn : Fn} {first captured : Array Operand} (ho : o.op = .makeFunc fn first captured) {v : AV} (h : makeFuncE sl fn first.toList captured.toList = some v) : QS P o a γ hp w v := by
  unfold makeFuncE at h
  split at h
  · rename_i f hf
    simp only [Option.some.injEq] at h
    subst h
    have h0 : first = #[] := by apply Array.ext'; simpa using hf
    refine ⟨.func (.func f) #[] (captured.map a.eval), ⟨captured.toList.map a.eval, by congr 1; apply Array.ext'; simp, evE_map hs _⟩, fun w' _ => ?_⟩
    simp only [execOp, ho, Instr.makeFunc, h0, Array.map_empty, Sem.run_bind, Sem.run_pure, Result.andThen_ok]
  · rename_i name x hf
    cases hc : captured.toList.isEmpty
    · rw [hc] at h; simp at h
    · rw [hc, cond_true, Option.some.injEq] at h
      subst h
      have h0 : first = #[x] := by apply Array.ext'; simpa using hf
      have h1 : captured = #[] := by apply Array.ext'; simpa using hc
      refine ⟨.func (.method name) #[a.eval x] #[], ⟨_, rfl, evE_rel hs x⟩, fun w' _ => ?_⟩
      simp [execOp, ho, Instr.makeFunc, h0, h1]
  · simp at h
def arrayAtE (P : Program) (sl : Ss) (t : TypeId) (x : Operand) : Option AV := match P.underlying t, evE sl x with
  | some (.array n _), .sl id off len _ _ => bif Nat.ble n len then some (.p id off) else none
  | _, _ => none
theorem arrayAt_q (hs : SR γ sl a.tmps) {t : TypeId} {x : Operand} (ho : o.op = .sliceToArrayPointer t x) {v : AV} (h : arrayAtE P sl t x = some v) : QS P o a γ hp w v := by
  unfold arrayAtE at h
  have hx := evE_rel hs x
  split at h
  · rename_i n e id off len cap exct hu he
    rw [he] at hx
    obtain ⟨ad, c, ex, _, _, hpt⟩ := hx
    replace hpt := hpt.ptr
    cases hb : Nat.ble n len
    · rw [hb] at h; simp at h
    · rw [hb, cond_true, Option.some.injEq] at h
      subst h
      have := Nat.le_of_ble_eq_true hb
      refine ⟨.pointer (some ad), ⟨ad, rfl, hpt⟩, fun w' _ => ?_⟩
      have hno : ¬ len < n := by omega
      simp only [execOp, ho, Instr.arrayAt, Sem.run_bind, run_under hu, Result.andThen_ok, ex, if_neg hno, Sem.run_pure]
  · simp at h
end
end Go.Proofs.Ytclgglffbpfmhaa
