/- Regions: operations one behind the other; guards; calls by a table of what is known of functions. -/
import Derived.Test.YtclgglffbpfmhaaEh
import Derived.OrdersHeld
namespace Go.Proofs.Ytclgglffbpfmhaa
set_option linter.unusedSimpArgs false
set_option linter.unusedVariables false

/-- A call, reckoned: floor, next name, memory, function, arguments. -/
abbrev CallT := Nat → Nat → Hs → FuncId → List AV → Option (AV × Hs × Nat)
def IsFn (P : Program) (f : FuncId) : Prop := ∃ fn, P.funcs[f]? = some fn ∧ (fn.name == "runtime.NumGoroutine") = false ∧ fn.body.isNone = false
/-- Blocks with lesser names stay as they are. -/
def Fr (fl : Nat) (γ : Gm) (w : World) (γ' : Gm) (w' : World) : Prop := ∀ id r n, id < fl → γ id = .live r n → γ' id = .live r n ∧ w'.heap[r]? = w.heap[r]?
theorem Fr.refl (fl : Nat) (γ : Gm) (w : World) : Fr fl γ w γ w := fun _ _ _ _ h => ⟨h, rfl⟩
theorem Fr.trans {fl : Nat} {γ γ' γ'' : Gm} {w w' w'' : World} (h : Fr fl γ w γ' w') (h' : Fr fl γ' w' γ'' w'') : Fr fl γ w γ'' w'' := by
  intro id r n hlt hl
  obtain ⟨h1, h2⟩ := h id r n hlt hl
  obtain ⟨h3, h4⟩ := h' id r n hlt h1
  exact ⟨h3, h4.trans h2⟩
theorem Fr.weak {fl fl' : Nat} (hf : fl' ≤ fl) {γ γ' : Gm} {w w' : World} (h : Fr fl γ w γ' w') : Fr fl' γ w γ' w' := fun id r n hlt hl => h id r n (Nat.lt_of_lt_of_le hlt hf) hl
def CallOk (P : Program) (call : CallT) : Prop := ∀ fl nx hp g args v hp' nx', call fl nx hp g args = some (v, hp', nx') → IsFn P g ∧ nx ≤ nx' ∧
  ∀ w0 γ w vs, HR (fun j => nx ≤ j) w0 γ hp w → AV.relL γ args vs → Calls P g vs.toArray w fun e w' => ∃ u γ', e = .returned u ∧ Gm.le γ γ' ∧ HR (fun j => nx' ≤ j) w0 γ' hp' w' ∧ v.rel γ' u ∧ Fr fl γ w γ' w'

/-- A real state is one of ours. -/
structure Rl (w0 : Base) (n : Nat) (γ : Gm) (sl : Ss) (hp : Hs) (nx : Nat) (a : Act) (w : World) : Prop where
  sr : SR γ sl a.tmps
  hr : HR (fun j => nx ≤ j) w0 γ hp w
  df : a.defers = []
  sz : a.tmps.size = n

def setS (sl : Ss) (dst : Option Nat) (v : AV) : Ss := match dst with
  | some d => Tr.set (key d) sl v
  | none => sl
theorem slot_set {sl : Ss} {d t : Nat} {v : AV} (hd : d < lim) : slotE (Tr.set (key d) sl v) t = if d = t then (bif Nat.blt t lim then v else .und) else slotE sl t := by
  unfold slotE
  by_cases h : d = t
  · subst h
    rw [if_pos rfl, Tr.get_set_same]
  · rw [if_neg h]
    cases hb : Nat.blt t lim
    · rfl
    · rw [cond_true, cond_true, Tr.get_set_ne _ _ _ _ (fun e => h (key_inj hd (lt_of_blt hb) e))]
theorem put_size (a : Act) (d : Option Nat) (v : Value) : (a.put d v).tmps.size = a.tmps.size := by cases d <;> simp [Act.put]
theorem put_defers (a : Act) (d : Option Nat) (v : Value) : (a.put d v).defers = a.defers := by cases d <;> rfl
theorem SR.put {γ : Gm} {sl : Ss} {a : Act} (hs : SR γ sl a.tmps) {d : Option Nat} (hd : ∀ n, d = some n → n < a.tmps.size ∧ n < lim) {v : AV} {u : Value} (hv : v.rel γ u) : SR γ (setS sl d v) (a.put d u).tmps := by
  cases d with
  | none => exact hs
  | some d =>
    obtain ⟨h1, h2⟩ := hd d rfl
    intro t
    show AV.rel γ (slotE (Tr.set (key d) sl v) t) _
    rw [slot_set h2]
    by_cases h : d = t
    · subst h
      rw [if_pos rfl]
      cases hb : Nat.blt d lim
      · trivial
      · simpa [Act.put, h1] using hv
    · rw [if_neg h]
      have := hs t
      simpa [Act.put, Array.getD_eq_getD_getElem?, Array.getElem?_setIfInBounds_ne h] using this
theorem Rl.put {w0 : Base} {n : Nat} {γ : Gm} {sl : Ss} {hp : Hs} {nx : Nat} {a : Act} {w : World} (h : Rl w0 n γ sl hp nx a w) {d : Option Nat} (hd : ∀ k, d = some k → k < n ∧ k < lim) {v : AV} {u : Value} (hv : v.rel γ u) : Rl w0 n γ (setS sl d v) hp nx (a.put d u) w :=
  ⟨h.sr.put (fun k hk => by rw [h.sz]; exact hd k hk) hv, h.hr, by rw [put_defers]; exact h.df, by rw [put_size]; exact h.sz⟩

/-- Is it to be carried out? -/
def guardE (ops : List Oper) (sl : Ss) (o : Oper) : Option Bool := match o.guard with
  | none => some true
  | some (j, want) => match ops[j]? with
    | some oj => (match oj.dst with
      | some d => (match slotE sl d with
        | .b b => some (bif b then want else !want)
        | .tup [] => some false
        | _ => none)
      | none => none)
    | none => none
theorem guard_spec {ops : Array Oper} {γ : Gm} {sl : Ss} {a : Act} (hs : SR γ sl a.tmps) {o : Oper} {b : Bool} (h : guardE ops.toList sl o = some b) : Region.wanted o (yielded ops a.tmps) = b := by
  unfold guardE at h
  split at h
  · rename_i hg
    simp only [Option.some.injEq] at h
    subst h
    simp [Region.wanted, hg]
  · rename_i j want hg
    split at h
    · rename_i oj hj
      split at h
      · rename_i d hd
        have hdj : (ops[j]?).bind (·.dst) = some d := by
          have : ops[j]? = some oj := by simpa using hj
          rw [this]; exact hd
        have hrel := hs d
        split at h
        · rename_i c hc
          rw [hc] at hrel
          have hv : a.tmps.getD d undef = .bool c := hrel
          have hy : yielded ops a.tmps j = some c := by
            unfold yielded
            rw [hdj]
            simp only [Option.bind_some]
            rw [Array.getD_eq_getD_getElem?] at hv
            cases hx : a.tmps[d]? with
            | none => rw [hx] at hv; simp [undef] at hv
            | some v => rw [hx] at hv; simp only [Option.getD_some] at hv; rw [hv]
          simp only [Option.some.injEq] at h
          subst h
          cases c <;> cases want <;> simp [Region.wanted, hg, hy]
        · rename_i hc
          rw [hc] at hrel
          obtain ⟨vs, hv, hvs⟩ := hrel
          simp only [AV.relL] at hvs
          subst hvs
          have hyn : yielded ops a.tmps j = none := by
            unfold yielded
            rw [hdj]
            simp only [Option.bind_some]
            rw [Array.getD_eq_getD_getElem?] at hv
            cases hx : a.tmps[d]? with
            | none => rfl
            | some v => rw [hx] at hv; simp only [Option.getD_some] at hv; rw [hv]
          simp only [Option.some.injEq] at h
          subst h
          simp [Region.wanted, hg, hyn]
        · simp at h
      · simp at h
    · simp at h

/-- What is called, and with what. -/
def hasBody (P : Program) (g : FuncId) : Bool := match P.funcs[g]? with
  | some fn => !fn.body.isNone
  | none => false
def calleeE (P : Program) (sl : Ss) (o : Oper) : Option (FuncId × List AV) := match o.op with
  | .call c => (match c.callee with
    | .value f => (match evE sl f with
      | .f g caps => bif hasBody P g then some (g, c.args.toList.map (evE sl) ++ caps) else none
      | _ => none)
    | .invoke r name => (match evE sl r with
      | .ifc t v => (match methE P t name with
        | some f => some (f, v :: c.args.toList.map (evE sl))
        | none => none)
      | _ => none)
    | _ => none)
  | _ => none
/-- One operation. -/
def oneE (P : Program) (call : CallT) (fl : Nat) (ops : List Oper) (o : Oper) (sl : Ss) (hp : Hs) (nx : Nat) : Option (Ss × Hs × Nat) := match guardE ops sl o with
  | some false => some (setS sl o.dst (.tup []), hp, nx)
  | some true => (match calleeE P sl o with
    | some (g, args) => (match call fl nx hp g args with
      | some (v, hp', nx') => some (setS sl o.dst v, hp', nx')
      | none => none)
    | none => bif Nat.blt nx lim then (match stepE P sl hp nx fl o with
      | some (v, hp') => some (setS sl o.dst v, hp', nx + 1)
      | none => none) else none)
  | none => none

section
variable {P : Program} {call : CallT} {w0 : Base} {n : Nat}
/-- What stands behind: from a state on. -/
def Aft (w0 : Base) (n fl : Nat) (γ : Gm) (w : World) (sl : Ss) (hp : Hs) (nx : Nat) (a' : Act) (w' : World) : Prop := ∃ γ', Gm.le γ γ' ∧ Rl w0 n γ' sl hp nx a' w' ∧ Fr fl γ w γ' w'
theorem call_sem {γ : Gm} {sl : Ss} {a : Act} (hs : SR γ sl a.tmps) {o : Oper} {g : FuncId} {args : List AV} (h : calleeE P sl o = some (g, args)) (hg : IsFn P g) :
    ∃ vs, AV.relL γ args vs ∧ ∀ w, (execOp a.eval o).run P w = .ok (.enter g vs.toArray) w := by
  unfold calleeE at h
  obtain ⟨fn, hfn, h1, h2⟩ := hg
  split at h
  · rename_i c ho
    split at h
    · rename_i f hc
      have hf := evE_rel hs f
      split at h
      · rename_i g' caps he
        rw [he] at hf
        cases hb : hasBody P g'
        · rw [hb] at h; simp at h
        · rw [hb, cond_true] at h
          simp only [Option.some.injEq, Prod.mk.injEq] at h
          obtain ⟨rfl, rfl⟩ := h
          obtain ⟨cs, hf', hcs⟩ := hf
          refine ⟨c.args.toList.map a.eval ++ cs, relL_append (evE_map hs _) hcs, fun w => ?_⟩
          simp only [execOp, ho, resolve, hc, hf', Deferred.ofValue, Sem.run_bind, Sem.run_pure, Result.andThen_ok, invoke, callFunc, run_program, hfn, h1, h2, Bool.false_eq_true, if_false]
          congr 2
          simp
      · simp at h
    · rename_i r name hc
      have hr := evE_rel hs r
      split at h
      · rename_i t v he
        rw [he] at hr
        split at h
        · rename_i f hm
          simp only [Option.some.injEq, Prod.mk.injEq] at h
          obtain ⟨rfl, rfl⟩ := h
          obtain ⟨u, hu, hv⟩ := hr
          refine ⟨u :: c.args.toList.map a.eval, ⟨_, _, rfl, hv, evE_map hs _⟩, fun w => ?_⟩
          have hd : P.types.size + Made.depth = (P.types.size + Made.depth - 1) + 1 := by unfold Made.depth; omega
          simp only [execOp, ho, resolve, hc, hu, Sem.run_bind, Sem.run_pure, Result.andThen_ok, invoke]
          have e0 : ∀ x : Array Value, (#[Value.iface t u] ++ x)[0]? = some (.iface t u) := fun x => by rw [Array.getElem?_append_left (by simp)]; rfl
          have e1 : ∀ x : Array Value, (#[Value.iface t u] ++ x).extract 1 (#[Value.iface t u] ++ x).size = x := fun x => by
            apply Array.ext'; simp
          simp only [e0, e1, callMethod, Sem.run_bind, run_program, Result.andThen_ok]
          rw [hd, meth_run hm]
          simp only [Result.andThen_ok, callFunc, Sem.run_bind, run_program, hfn, h1, h2, Bool.false_eq_true, if_false, Sem.run_pure]
          congr 2
          simp
        · simp at h
      · simp at h
    · simp at h
  · simp at h
theorem one_op (hcall : CallOk P call) {fl : Nat} {ops : Array Oper} {o : Oper} {i : Nat} (hi : ops[i]? = some o) (hd : ∀ k, o.dst = some k → k < n ∧ k < lim) {sl sl' : Ss} {hp hp' : Hs} {nx nx' : Nat} (h : oneE P call fl ops.toList o sl hp nx = some (sl', hp', nx'))
    {γ : Gm} {a : Act} {w : World} (hr : Rl w0 n γ sl hp nx a w) {K : Act → World → Prop} {Q : Exit → Act → World → Prop} (hK : ∀ u w', Aft w0 n fl γ w sl' hp' nx' (a.put o.dst u) w' → K (a.put o.dst u) w') : nx ≤ nx' ∧ wpOp P ops Q i K a w := by
  unfold oneE at h
  split at h
  · rename_i hg
    simp only [Option.some.injEq, Prod.mk.injEq] at h
    obtain ⟨rfl, rfl, rfl⟩ := h
    refine ⟨Nat.le_refl _, ?_⟩
    unfold wpOp
    simp only [hi]
    rw [guard_spec hr.sr hg]
    simp only [Bool.false_eq_true, if_false]
    exact hK _ _ ⟨γ, Gm.le_refl γ, hr.put hd (undef_rel γ), Fr.refl _ _ _⟩
  · rename_i hg
    have hw := guard_spec hr.sr hg
    split at h
    · rename_i g args hc
      split at h
      · rename_i v hp2 nx2 hcl
        simp only [Option.some.injEq, Prod.mk.injEq] at h
        obtain ⟨rfl, rfl, rfl⟩ := h
        obtain ⟨hfn, hle, hcs⟩ := hcall _ _ _ _ _ _ _ _ hcl
        refine ⟨hle, ?_⟩
        unfold wpOp
        simp only [hi]
        rw [if_pos hw]
        refine .inl ?_
        obtain ⟨vs, hvs, hrun⟩ := call_sem hr.sr hc hfn
        unfold Oper.wp
        rw [hrun w, Oper.upon_enter]
        refine (hcs w0 γ w vs hr.hr hvs).mono ?_
        rintro e w' ⟨u, γ', rfl, hle', hr', hv, hfr⟩
        refine hK _ _ ⟨γ', hle', ?_, hfr⟩
        have : Rl w0 n γ' sl hp2 nx2 a w' := ⟨hr.sr.mono hle', hr', hr.df, hr.sz⟩
        exact this.put hd hv
      · simp at h
    · cases hb : Nat.blt nx lim
      · rw [hb] at h; simp at h
      · rw [hb, cond_true] at h
        have hlt := lt_of_blt hb
        split at h
        · rename_i v hp2 hst
          simp only [Option.some.injEq, Prod.mk.injEq] at h
          obtain ⟨rfl, rfl, rfl⟩ := h
          refine ⟨Nat.le_succ _, ?_⟩
          obtain ⟨u, γ', w', hrun, hle, hr', hv, hfr⟩ := step_n hst _ w0 γ w hr.hr hr.sr (hr.hr.free nx (Nat.le_refl _)) hlt
          have hr2 : Rl w0 n γ' sl hp2 (nx + 1) a w' := ⟨hr.sr.mono hle, hr'.weak (fun j hj => ⟨by omega, by omega⟩), hr.df, hr.sz⟩
          unfold wpOp
          simp only [hi]
          rw [if_pos hw]
          refine .inl ?_
          unfold Oper.wp
          rcases hrun with hrun | ⟨hrun, hu⟩
          · rw [hrun, Oper.upon_value]
            exact hK _ _ ⟨γ', hle, hr2.put hd hv, hfr⟩
          · rw [hrun, Oper.upon_skip]
            subst hu
            exact hK _ _ ⟨γ', hle, hr2.put hd hv, hfr⟩
        · simp at h
  · simp at h
theorem oneE_sl {fl : Nat} {ops : List Oper} {o : Oper} {sl sl' : Ss} {hp hp' : Hs} {nx nx' : Nat} (h : oneE P call fl ops o sl hp nx = some (sl', hp', nx')) : ∃ v, sl' = setS sl o.dst v := by
  unfold oneE at h
  split at h
  · simp only [Option.some.injEq, Prod.mk.injEq] at h
    exact ⟨_, h.1.symm⟩
  · split at h
    · split at h
      · simp only [Option.some.injEq, Prod.mk.injEq] at h
        exact ⟨_, h.1.symm⟩
      · simp at h
    · cases hb : Nat.blt nx lim
      · rw [hb] at h; simp at h
      · rw [hb, cond_true] at h
        split at h
        · simp only [Option.some.injEq, Prod.mk.injEq] at h
          exact ⟨_, h.1.symm⟩
        · simp at h
  · simp at h
/-- Where a store goes. -/
def stId (sl : Ss) (o : Oper) : Option Nat := match o.op with
  | .store _ x _ => (match evE sl x with
    | .p id _ => some id
    | _ => none)
  | _ => none
theorem one_st {fl : Nat} {ops : Array Oper} {o : Oper} {i : Nat} (hi : ops[i]? = some o) (hd : ∀ k, o.dst = some k → k < n ∧ k < lim) {id : Nat} {sl sl' : Ss} {hp hp' : Hs} {nx nx' : Nat} (hid : stId sl o = some id) (h : oneE P call fl ops.toList o sl hp nx = some (sl', hp', nx'))
    {γ : Gm} {a : Act} {w : World} (hr : Rl w0 n γ sl hp nx a w) {K : Act → World → Prop} {Q : Exit → Act → World → Prop}
    (hK : ∀ u w', Rl w0 n γ sl' hp' nx' (a.put o.dst u) w' → Fr fl γ w γ w' → (∀ id' r n, id' ≠ id → γ id' = .live r n → w'.heap[r]? = w.heap[r]?) → K (a.put o.dst u) w') : wpOp P ops Q i K a w := by
  have hst : isSt o.op = true := by
    unfold stId at hid
    split at hid
    · rename_i ho; rw [ho]; rfl
    · simp at hid
  have hno : calleeE P sl o = none := by
    unfold calleeE
    cases ho : o.op <;> rw [ho] at hst <;> simp only [isSt, Bool.false_eq_true] at hst
  unfold oneE at h
  split at h
  · rename_i hg
    simp only [Option.some.injEq, Prod.mk.injEq] at h
    obtain ⟨rfl, rfl, rfl⟩ := h
    unfold wpOp
    simp only [hi]
    rw [guard_spec hr.sr hg]
    simp only [Bool.false_eq_true, if_false]
    exact hK _ _ (hr.put hd (undef_rel γ)) (Fr.refl _ _ _) fun _ _ _ _ _ => rfl
  · rename_i hg
    have hw := guard_spec hr.sr hg
    rw [hno] at h
    simp only at h
    cases hb : Nat.blt nx lim
    · rw [hb] at h; simp at h
    · rw [hb, cond_true] at h
      split at h
      · rename_i v hp2 hs
        simp only [Option.some.injEq, Prod.mk.injEq] at h
        obtain ⟨rfl, rfl, rfl⟩ := h
        obtain ⟨t, x, y, id2, off, ho, he, hfl, hrun⟩ := st_step (a := a) hst hs
        have hii : id2 = id := by
          unfold stId at hid
          rw [ho] at hid
          simp only [he, Option.some.injEq] at hid
          exact hid
        subst hii
        obtain ⟨w', hrun, hr', hv, hfr⟩ := hrun _ w0 γ w hr.hr hr.sr
        have hr2 : Rl w0 n γ sl hp2 (nx + 1) a w' := ⟨hr.sr, hr'.weak (fun j hj => by omega), hr.df, hr.sz⟩
        unfold wpOp
        simp only [hi]
        rw [if_pos hw]
        refine .inl ?_
        unfold Oper.wp
        rw [hrun, Oper.upon_skip]
        exact hK _ _ (hr2.put hd hv) (fun id' r m hlt hl => ⟨hl, hfr id' r m (by omega) hl⟩) hfr
      · simp at h
  · simp at h
/-- One behind the other. -/
def opsE (P : Program) (call : CallT) (fl : Nat) (ops : List Oper) : List Oper → Ss → Hs → Nat → Option (Ss × Hs × Nat)
  | [], sl, hp, nx => some (sl, hp, nx)
  | o :: r, sl, hp, nx => match oneE P call fl ops o sl hp nx with
    | some (sl', hp', nx') => opsE P call fl ops r sl' hp' nx'
    | none => none
theorem Aft.step {fl : Nat} {γ γ1 : Gm} {w w1 : World} {sl : Ss} {hp : Hs} {nx : Nat} {a' : Act} {w' : World} (hle : Gm.le γ γ1) (hfr : Fr fl γ w γ1 w1) (h : Aft w0 n fl γ1 w1 sl hp nx a' w') : Aft w0 n fl γ w sl hp nx a' w' := by
  obtain ⟨γ', h1, h2, h3⟩ := h
  exact ⟨γ', Gm.le_trans hle h1, h2, hfr.trans h3⟩
theorem ops_sound (hcall : CallOk P call) {fl : Nat} {ops : Array Oper} {Q : Exit → Act → World → Prop} : ∀ (l : List Nat) (r : List Oper) {sl sl' : Ss} {hp hp' : Hs} {nx nx' : Nat} {γ : Gm} {a : Act} {w : World},
    l.map (ops[·]?) = r.map some → (∀ o ∈ r, ∀ k, o.dst = some k → k < n ∧ k < lim) → opsE P call fl ops.toList r sl hp nx = some (sl', hp', nx') → Rl w0 n γ sl hp nx a w →
    (∀ a' w', Aft w0 n fl γ w sl' hp' nx' a' w' → Q .normal a' w') → nx ≤ nx' ∧ wpOps P ops Q l a w
  | [], [], sl, sl', hp, hp', nx, nx', γ, a, w, _, _, h, hr, hQ => by
    simp only [opsE, Option.some.injEq, Prod.mk.injEq] at h
    obtain ⟨rfl, rfl, rfl⟩ := h
    exact ⟨Nat.le_refl _, hQ a w ⟨γ, Gm.le_refl γ, hr, Fr.refl _ _ _⟩⟩
  | [], _ :: _, _, _, _, _, _, _, _, _, _, hl, _, _, _, _ => by simp at hl
  | _ :: _, [], _, _, _, _, _, _, _, _, _, hl, _, _, _, _ => by simp at hl
  | i :: l, o :: r, sl, sl', hp, hp', nx, nx', γ, a, w, hl, hd, h, hr, hQ => by
    simp only [List.map_cons, List.cons.injEq] at hl
    obtain ⟨hi, hl⟩ := hl
    unfold opsE at h
    split at h
    · rename_i sl1 hp1 nx1 h1
      rw [wpOps_cons]
      have hnx : nx1 ≤ nx' := opsE_le (P := P) hcall r h
      have hK : ∀ a1 w1, Aft w0 n fl γ w sl1 hp1 nx1 a1 w1 → wpOps P ops Q l a1 w1 := by
        rintro a1 w1 ⟨γ1, hle1, hr1, hfr1⟩
        exact (ops_sound hcall l r hl (fun o' ho' => hd o' (by simp [ho'])) h hr1 fun a' w' hA => hQ a' w' (hA.step hle1 hfr1)).2
      obtain ⟨h2, h3⟩ := one_op (Q := Q) hcall hi (hd o (by simp)) h1 hr fun u w' => hK _ w'
      exact ⟨Nat.le_trans h2 hnx, h3⟩
    · simp at h
where
  opsE_le {P : Program} {call : CallT} (hcall : CallOk P call) {fl : Nat} {ops : List Oper} : ∀ (r : List Oper) {sl sl' : Ss} {hp hp' : Hs} {nx nx' : Nat}, opsE P call fl ops r sl hp nx = some (sl', hp', nx') → nx ≤ nx'
    | [], _, _, _, _, _, _, h => by
      simp only [opsE, Option.some.injEq, Prod.mk.injEq] at h
      exact Nat.le_of_eq h.2.2
    | o :: r, sl, sl', hp, hp', nx, nx', h => by
      unfold opsE at h
      split at h
      · rename_i sl1 hp1 nx1 h1
        have h2 := opsE_le hcall r h
        refine Nat.le_trans ?_ h2
        unfold oneE at h1
        split at h1
        · simp only [Option.some.injEq, Prod.mk.injEq] at h1
          exact Nat.le_of_eq h1.2.2
        · split at h1
          · split at h1
            · rename_i hcl
              simp only [Option.some.injEq, Prod.mk.injEq] at h1
              have := (hcall _ _ _ _ _ _ _ _ hcl).2.1
              omega
            · simp at h1
          · cases hb : Nat.blt nx lim
            · rw [hb] at h1; simp at h1
            · rw [hb, cond_true] at h1
              split at h1
              · simp only [Option.some.injEq, Prod.mk.injEq] at h1
                omega
              · simp at h1
        · simp at h1
      · simp at h
end
end Go.Proofs.Ytclgglffbpfmhaa
