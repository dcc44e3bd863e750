/- Regions that draw their order: what turns nothing comes first; the others come one behind the other. -/
import Derived.Test.YtclgglffbpfmhaaEi
namespace Go.Proofs.Ytclgglffbpfmhaa
set_option linter.unusedSimpArgs false
set_option linter.unusedVariables false

section
variable {P : Program} {ops : Array Oper} {Q : Exit → Act → World → Prop} {S : World → Prop} {T : Array Bool → World → Prop}

/-- Whatever order is picked from here on, and T holds behind every operation. -/
def wpAnyT (P : Program) (ops : Array Oper) (Q : Exit → Act → World → Prop) (T : Array Bool → World → Prop) : Nat → Array Bool → Act → World → Prop
  | 0, listed, a, w => Region.ready .any ops listed = [] ∧ Q .normal a w
  | fuel + 1, listed, a, w =>
    (Region.ready .any ops listed = [] → Q .normal a w) ∧
    ∀ i ∈ Region.ready .any ops listed, wpOp P ops Q i (fun a' w' => T (listed.setIfInBounds i true) w' ∧ wpAnyT P ops Q T fuel (listed.setIfInBounds i true) a' w') a w
theorem wpAny_of_T : ∀ (fuel : Nat) (listed : Array Bool) (a : Act) (w : World), wpAnyT P ops Q T fuel listed a w → wpAny P .any ops Q fuel listed a w
  | 0, _, _, _, h => h
  | fuel + 1, _, _, _, h => ⟨h.1, fun i hi => wpOp_mono (fun a' w' h' => wpAny_of_T fuel _ a' w' h'.2) (h.2 i hi)⟩
/-- What is listed has all that it waits for listed. -/
def Down (ops : Array Oper) (listed : Array Bool) : Prop := ∀ j, listed.getD j false = true → ∀ oj, ops[j]? = some oj → ∀ e ∈ oj.after, Region.binds .any e = true → listed.getD e.on false = true
theorem Down.set {listed : Array Bool} (h : Down ops listed) {i : Nat} (hi : i ∈ Region.ready .any ops listed) : Down ops (listed.setIfInBounds i true) := by
  intro j hj oj hoj e he hb
  by_cases hij : i = j
  · subst hij
    obtain ⟨_, o, ho, hall⟩ := mem_ready.1 hi
    rw [ho] at hoj
    simp only [Option.some.injEq] at hoj
    subst hoj
    exact getD_set_true (hall e he hb)
  · rw [getD_set_ne false hij] at hj
    exact getD_set_true (h j hj oj hoj e he hb)
theorem unlisted_false {listed : Array Bool} {i : Nat} (h : listed.getD i true = false) : listed.getD i false = false := by
  rcases Nat.lt_or_ge i listed.size with h' | h'
  · simpa [h'] using h
  · simp [Array.getElem?_eq_none h']
theorem wpAnyT_first {i : Nat} {oi : Oper} {v : Value} (hi : ops[i]? = some oi) (hsel : ∀ (j : Nat) (o : Oper) cs b, ops[j]? = some o → o.op ≠ .select cs b)
    (hQ : ∀ c a w, Q (.panic c) (a.put oi.dst v) w → Q (.panic c) a w) (hT : ∀ (listed : Array Bool) (j : Nat) (w : World), T ((listed.setIfInBounds i true).setIfInBounds j true) w → T (listed.setIfInBounds j true) w)
    (hS : ∀ (listed : Array Bool) (j : Nat) (w : World), Down ops listed → listed.getD i true = false → j ∈ Region.ready .any ops listed → T ((listed.setIfInBounds i true).setIfInBounds j true) w → S w) :
    ∀ (fuel : Nat) (listed : Array Bool) (a : Act) (w : World), Down ops listed →
      (∀ j oj, ops[j]? = some oj → j ≠ i → listed.getD j true = false → (∀ e ∈ oj.after, Region.binds .any e = true → e.on ≠ i) → oi.apart ops oj = true) →
      i ∈ Region.ready .any ops listed → YieldsIf P ops S oi v a → S w → T (listed.setIfInBounds i true) w →
      wpAnyT P ops Q T fuel (listed.setIfInBounds i true) (a.put oi.dst v) w → wpAnyT P ops Q T (fuel + 1) listed a w := by
  intro fuel
  induction fuel with
  | zero =>
    intro listed a w _ _ hr hy hSw hTw H
    refine ⟨fun h => (by rw [h] at hr; cases hr), fun j hj => ?_⟩
    by_cases hji : j = i
    · subst hji; exact hy.wpOp hi hSw ⟨hTw, H⟩
    · have := ready_mono hj hji
      rw [H.1] at this
      cases this
  | succ fuel ih =>
    intro listed a w hd hfree hr hy hSw hTw H
    refine ⟨fun h => (by rw [h] at hr; cases hr), fun j hj => ?_⟩
    by_cases hji : j = i
    · subst hji; exact hy.wpOp hi hSw ⟨hTw, H⟩
    · have h1 := H.2 j (ready_mono hj hji)
      obtain ⟨hjun, oj, hoj, hall⟩ := mem_ready.1 hj
      have hiun := (mem_ready.1 hr).1
      have hnot : ∀ e ∈ oj.after, Region.binds .any e = true → e.on ≠ i := fun e he hb heq => by
        have h1 := hall e he hb
        rw [heq, unlisted_false hiun] at h1
        cases h1
      have h2 := wpOp_putIf hoj (hfree j oj hoj hji hjun hnot) (fun cs b => hsel i oi cs b hi) (fun cs b => hsel j oj cs b hoj) hQ hy h1
      have hfree' : ∀ k ok, ops[k]? = some ok → k ≠ i → (listed.setIfInBounds j true).getD k true = false →
          (∀ e ∈ ok.after, Region.binds .any e = true → e.on ≠ i) → oi.apart ops ok = true := fun k ok hk hki hun hno => by
        refine hfree k ok hk hki ?_ hno
        by_cases hjk : j = k
        · subst hjk; exact hjun
        · rw [getD_set_ne true hjk] at hun; exact hun
      refine wpOp_mono (fun a' w' h3 => ⟨hT _ _ _ h3.2.1, ?_⟩) h2
      refine ih (listed.setIfInBounds j true) a' w' (hd.set hj) hfree' (ready_mono hr (Ne.symm hji)) h3.1 (hS listed j w' hd hiun hj h3.2.1) ?_ ?_
      · rw [Array.setIfInBounds_comm _ _ hji]; exact h3.2.1
      · rw [Array.setIfInBounds_comm _ _ hji]; exact h3.2.2
/-- None of the late ones has come up. -/
def early (late : List Nat) (listed : Array Bool) : Bool := late.all fun j => !listed.getD j false
theorem early_set {late : List Nat} {listed : Array Bool} {i : Nat} (hi : i ∉ late) : early late (listed.setIfInBounds i true) = early late listed := by
  unfold early
  rw [Bool.eq_iff_iff]
  simp only [List.all_eq_true]
  constructor
  · intro h j hj
    have := h j hj
    rwa [getD_set_ne false (show i ≠ j from fun e => hi (e ▸ hj))] at this
  · intro h j hj
    rw [getD_set_ne false (show i ≠ j from fun e => hi (e ▸ hj))]
    exact h j hj
theorem early_mono {late : List Nat} {listed : Array Bool} {i : Nat} (h : early late (listed.setIfInBounds i true) = true) : early late listed = true := by
  unfold early at *
  simp only [List.all_eq_true, Bool.not_eq_true'] at *
  intro j hj
  have := h j hj
  cases hx : listed.getD j false with
  | false => rfl
  | true => rw [getD_set_true hx] at this; cases this
theorem lt_of_ready {i : Nat} {listed : Array Bool} (h : i ∈ Region.ready .any ops listed) : i < listed.size := by
  have := (mem_ready.1 h).1
  rcases Nat.lt_or_ge i listed.size with h' | h'
  · exact h'
  · simp [Array.getElem?_eq_none h'] at this
theorem early_late {late : List Nat} {i : Nat} {listed : Array Bool} (hi : i ∈ late) (hl : i < listed.size) : early late (listed.setIfInBounds i true) = false := by
  cases h : early late (listed.setIfInBounds i true) with
  | false => rfl
  | true =>
    unfold early at h
    simp only [List.all_eq_true, Bool.not_eq_true'] at h
    have := h i hi
    simp [hl] at this
theorem done_any {listed : Array Bool} {a : Act} {w : World} (hr : Region.ready .any ops listed = []) (h : Q .normal a w) : ∀ fuel, wpAnyT P ops Q T fuel listed a w
  | 0 => ⟨hr, h⟩
  | _ + 1 => ⟨fun _ => h, by rw [hr]; simp⟩
end

/-! Who waits for whom: numbers' bits. -/
def maskOf (ms : List Nat) : List Edge → Nat
  | [] => 0
  | e :: r => (bif Region.binds .any e then 2 ^ e.on ||| ms.getD e.on 0 else 0) ||| maskOf ms r
def masksE : List Oper → List Nat → List Nat
  | [], ms => ms
  | o :: r, ms => masksE r (ms ++ [maskOf ms o.after.toList])
/-- A row of masks is right. -/
def MsOk (ops : Array Oper) (ms : List Nat) : Prop := ∀ j i, (ms.getD j 0).testBit i = true → ∀ (listed : Array Bool), Down ops listed → (∀ oj, ops[j]? = some oj → ∀ e ∈ oj.after, Region.binds .any e = true → listed.getD e.on false = true) → listed.getD i false = true
theorem maskOf_spec {ops : Array Oper} {ms : List Nat} (hms : MsOk ops ms) (hsub : ∀ j, ms.getD j 0 ≠ 0 → ∃ oj, ops[j]? = some oj) {listed : Array Bool} (hd : Down ops listed) : ∀ (l : List Edge) {i : Nat}, (maskOf ms l).testBit i = true → (∀ e ∈ l, Region.binds .any e = true → listed.getD e.on false = true) → listed.getD i false = true
  | [], i, h, _ => by simp [maskOf] at h
  | e :: r, i, h, hall => by
    unfold maskOf at h
    rw [Nat.testBit_or, Bool.or_eq_true] at h
    rcases h with h | h
    · cases hb : Region.binds .any e
      · rw [hb] at h; simp at h
      · rw [hb, cond_true, Nat.testBit_or, Bool.or_eq_true] at h
        have hl := hall e (by simp) hb
        rcases h with h | h
        · rw [Nat.testBit_two_pow] at h
          have : e.on = i := by simpa using h
          rw [← this]; exact hl
        · refine hms e.on i h listed hd fun oj hoj e' he' hb' => hd e.on hl oj hoj e' he' hb'
    · exact maskOf_spec hms hsub hd r h fun e' he' => hall e' (by simp [he'])
theorem masksE_ok {ops : Array Oper} : ∀ (r : List Oper) (ms : List Nat), (∀ k o, r[k]? = some o → ops[ms.length + k]? = some o) → MsOk ops ms → MsOk ops (masksE r ms)
  | [], ms, _, h => h
  | o :: r, ms, hr, h => by
    unfold masksE
    refine masksE_ok r _ ?_ ?_
    · intro k o' hk
      have := hr (k + 1) o' (by simpa using hk)
      rw [List.length_append, List.length_singleton]
      rw [← this]
      congr 1
      omega
    · intro j i hb listed hd hall
      rw [List.getD_eq_getElem?_getD] at hb
      by_cases hj : j < ms.length
      · rw [List.getElem?_append_left hj, ← List.getD_eq_getElem?_getD] at hb
        exact h j i hb listed hd hall
      · by_cases hj2 : j = ms.length
        · subst hj2
          rw [List.getElem?_append_right (Nat.le_refl _), Nat.sub_self] at hb
          simp only [List.getElem?_cons_zero, Option.getD_some] at hb
          have ho := hr 0 o (by simp)
          rw [Nat.add_zero] at ho
          have hsub : ∀ (l : List Edge) {i : Nat}, (maskOf ms l).testBit i = true → (∀ e ∈ l, Region.binds .any e = true → listed.getD e.on false = true) → listed.getD i false = true := by
            intro l
            induction l with
            | nil => intro i h; simp [maskOf] at h
            | cons e r ih =>
              intro i h' hall'
              unfold maskOf at h'
              rw [Nat.testBit_or, Bool.or_eq_true] at h'
              rcases h' with h' | h'
              · cases hbb : Region.binds .any e
                · rw [hbb] at h'; simp at h'
                · rw [hbb, cond_true, Nat.testBit_or, Bool.or_eq_true] at h'
                  have hl := hall' e (by simp) hbb
                  rcases h' with h' | h'
                  · rw [Nat.testBit_two_pow] at h'
                    have : e.on = i := by simpa using h'
                    rw [← this]; exact hl
                  · exact h e.on i h' listed hd fun oj hoj e' he' hb' => hd e.on hl oj hoj e' he' hb'
              · exact ih h' fun e' he' => hall' e' (by simp [he'])
          exact hsub o.after.toList hb fun e he hbb => hall o ho e (by simpa using he) hbb
        · rw [List.getElem?_eq_none (by simp; omega)] at hb
          simp at hb
theorem masks_ok (ops : Array Oper) : MsOk ops (masksE ops.toList []) :=
  masksE_ok ops.toList [] (fun k o h => by simpa using h) (fun j i hb => by simp at hb)

/-! A plan. -/
def isQuietE : Op → Bool
  | .move _ => true
  | .assign _ => true
  | .pick _ _ _ => true
  | .load _ _ => true
  | .nilCheck _ => true
  | .fieldAddr _ _ _ => true
  | .field _ _ _ => true
  | .indexAddr _ _ _ => true
  | .index _ _ _ => true
  | .extract _ _ => true
  | .binOp _ _ _ _ _ => true
  | .unOp _ _ _ => true
  | .convert _ _ _ => true
  | .build _ _ => true
  | .slice _ _ _ _ _ => true
  | .makeFunc _ _ _ => true
  | .makeInterface _ _ => true
  | .sliceToArrayPointer _ _ => true
  | .lookup _ _ _ _ => true
  | .call c => (match c.callee with
    | .builtin .len => true
    | .builtin .cap => true
    | .builtin .min => true
    | .builtin .max => true
    | _ => false)
  | _ => false
def rdyE (ops : Array Oper) (listed : Array Bool) (i : Nat) : Bool := !listed.getD i true && (match ops[i]? with
  | some o => o.after.toList.all fun e => !Region.binds .any e || listed.getD e.on false
  | none => false)
theorem rdyE_spec {ops : Array Oper} {listed : Array Bool} {i : Nat} (h : rdyE ops listed i = true) : i ∈ Region.ready .any ops listed := by
  unfold rdyE at h
  rw [Bool.and_eq_true] at h
  obtain ⟨h1, h2⟩ := h
  split at h2
  · rename_i o ho
    rw [mem_ready]
    refine ⟨by simpa using h1, o, ho, fun e he hb => ?_⟩
    rw [List.all_eq_true] at h2
    have := h2 e (by simpa using he)
    simpa [hb] using this
  · simp at h2
/-- What comes first. -/
def planA (ops : Array Oper) : List Nat → Array Bool → List Nat
  | [], _ => []
  | i :: r, listed => bif (match ops[i]? with
      | some o => isQuietE o.op
      | none => false) && (rdyE ops listed i && Region.free .any ops listed i) then i :: planA ops r (listed.setIfInBounds i true) else planA ops r listed
def listA : Array Bool → List Nat → Array Bool
  | l, [] => l
  | l, i :: r => listA (l.setIfInBounds i true) r
def memAt (ops : Array Oper) (i : Nat) : Bool := match ops[i]? with
  | some o => memE o.op
  | none => false
def pureAt (ops : Array Oper) (i : Nat) : Bool := match ops[i]? with
  | some o => isQuietE o.op && !memE o.op
  | none => false
def lateE (ops : Array Oper) (ms : List Nat) (A : List Nat) : List Nat := (List.range ops.size).filter fun j => !A.contains j && (!pureAt ops j) && A.all fun i => !memAt ops i || (ms.getD j 0).testBit i
/-- The others, in order; is it one that turns nothing? -/
def planR (ops : Array Oper) : Nat → Array Bool → List (Nat × Bool)
  | 0, _ => []
  | f + 1, listed => match Region.ready .any ops listed with
    | [] => []
    | l => (match l.find? fun i => (match ops[i]? with
        | some o => isQuietE o.op && !memE o.op
        | none => false) && Region.free .any ops listed i with
      | some i => (i, true) :: planR ops f (listed.setIfInBounds i true)
      | none => (match l with
        | i :: _ => (i, false) :: planR ops f (listed.setIfInBounds i true)
        | [] => []))
structure Plan where
  A : List Nat
  late : List Nat
  rest : List (Nat × Bool)
def planE (ops : Array Oper) : Plan :=
  let l0 := Array.replicate ops.size false
  let A := planA ops (List.range ops.size) l0
  ⟨A, lateE ops (masksE ops.toList []) A, planR ops ops.size (listA l0 A)⟩
def okA (ops : Array Oper) (ms : List Nat) (late : List Nat) : Array Bool → List Nat → Bool
  | _, [] => true
  | listed, i :: r => rdyE ops listed i && (!late.contains i && (Region.free .any ops listed i && ((!memAt ops i || late.all fun j => (ms.getD j 0).testBit i) && okA ops ms late (listed.setIfInBounds i true) r)))
def okR (ops : Array Oper) (late : List Nat) : Array Bool → List (Nat × Bool) → Bool
  | listed, [] => (Region.ready .any ops listed).isEmpty
  | listed, (i, true) :: r => rdyE ops listed i && (!memAt ops i && (!late.contains i && (Region.free .any ops listed i && okR ops late (listed.setIfInBounds i true) r)))
  | listed, (i, false) :: r => Region.ready .any ops listed == [i] && okR ops late (listed.setIfInBounds i true) r
def okPlan (ops : Array Oper) (p : Plan) : Bool :=
  Region.noSelect ops && (okA ops (masksE ops.toList []) p.late (Array.replicate ops.size false) p.A && (okR ops p.late (listA (Array.replicate ops.size false) p.A) p.rest && Nat.ble (p.A.length + p.rest.length) ops.size))

/-- What turns nothing, behind its guard. -/
def quiE (P : Program) (ops : List Oper) (o : Oper) (sl : Ss) (hp : Hs) : Option Ss := match guardE ops sl o with
  | some false => some (setS sl o.dst (.tup []))
  | some true => (match quietE P sl hp o with
    | some v => some (setS sl o.dst v)
    | none => none)
  | none => none
def runA (P : Program) (ops : Array Oper) (hp : Hs) : List Nat → Ss → Option Ss
  | [], sl => some sl
  | i :: r, sl => match ops[i]? with
    | some o => (match quiE P ops.toList o sl hp with
      | some sl' => runA P ops hp r sl'
      | none => none)
    | none => none
def runR (P : Program) (call : CallT) (ops : Array Oper) (late : List Nat) (fl n0 : Nat) : List (Nat × Bool) → Bool → Ss → Hs → Nat → Option (Ss × Hs × Nat)
  | [], _, sl, hp, nx => some (sl, hp, nx)
  | (i, true) :: r, e, sl, hp, nx => match ops[i]? with
    | some o => (match quiE P ops.toList o sl hp with
      | some sl' => runR P call ops late fl n0 r e sl' hp nx
      | none => none)
    | none => none
  | (i, false) :: r, e, sl, hp, nx => match ops[i]? with
    | some o => (match oneE P call (bif e || late.contains i then fl else max fl n0) ops.toList o sl hp nx with
      | some (sl', hp', nx') => runR P call ops late fl n0 r (e || late.contains i) sl' hp' nx'
      | none => none)
    | none => none
def drawE (P : Program) (call : CallT) (fl : Nat) (ops : Array Oper) (sl : Ss) (hp : Hs) (nx : Nat) : Option (Ss × Hs × Nat) :=
  bif okPlan ops (planE ops) then (match runA P ops hp (planE ops).A sl with
    | some sl' => runR P call ops (planE ops).late fl nx (planE ops).rest false sl' hp nx
    | none => none) else none

section
variable {P : Program} {call : CallT} {w0 : World} {n fl n0 : Nat} {ops : Array Oper} {late : List Nat} {Qn : Exit → Act → World → Prop}

theorem qui_spec {o : Oper} {sl sl' : Ss} {hp : Hs} (h : quiE P ops.toList o sl hp = some sl') {γ : Gm} {a : Act} {w : World} (hs : SR γ sl a.tmps) (hl : HL γ hp w) (hd : ∀ k, o.dst = some k → k < a.tmps.size ∧ k < lim) (S : World → Prop) (hS : ∀ w', S w' → memE o.op = true → SameL γ hp w w') :
    ∃ u, YieldsIf P ops S o u a ∧ SR γ sl' (a.put o.dst u).tmps := by
  unfold quiE at h
  split at h
  · rename_i hg
    simp only [Option.some.injEq] at h
    subst h
    exact ⟨undef, .inr ⟨guard_spec hs hg, rfl⟩, hs.put hd (undef_rel γ)⟩
  · rename_i hg
    split at h
    · rename_i v hv
      simp only [Option.some.injEq] at h
      subst h
      obtain ⟨u, hu, hrun⟩ := quiet_q hs hl hv
      exact ⟨u, .inl ⟨guard_spec hs hg, fun w' hw' => hrun w' (hS w' hw')⟩, hs.put hd hu⟩
    · simp at h
  · simp at h

/-- What was there at the region's begin is as it was. -/
def SameAll (γ0 : Gm) (wb : World) (w : World) : Prop := ∀ id r m, γ0 id = .live r m → w.heap[r]? = wb.heap[r]?
def TT (late : List Nat) (γ0 : Gm) (wb : World) (listed : Array Bool) (w : World) : Prop := early late listed = true → SameAll γ0 wb w
theorem TT_set {γ0 : Gm} {wb : World} {i : Nat} (hi : i ∉ late) (listed : Array Bool) (j : Nat) (w : World) (h : TT late γ0 wb ((listed.setIfInBounds i true).setIfInBounds j true) w) : TT late γ0 wb (listed.setIfInBounds j true) w := by
  intro he
  apply h
  by_cases hij : i = j
  · subst hij
    rw [Array.setIfInBounds_setIfInBounds]; exact he
  · rw [Array.setIfInBounds_comm _ _ hij, early_set hi]; exact he
theorem SameAll.sameL {γ0 : Gm} {wb w w' : World} {hp : Hs} (h : SameAll γ0 wb w) (h' : SameAll γ0 wb w') : SameL γ0 hp w w' :=
  fun id b r m _ hr => by rw [h' id r m hr, h id r m hr]
theorem max_names {F : Nat → Prop} {γ : Gm} {hp : Hs} {w : World} {nx : Nat} (h : HR (fun j => nx ≤ j) w0 γ hp w) {id r m : Nat} (hl : γ id = .live r m) : id < nx := by
  rcases Nat.lt_or_ge id nx with h1 | h1
  · exact h1
  · rw [h.free id h1] at hl; cases hl

theorem runR_sound (hcall : CallOk P call) (hsel : Region.noSelect ops = true) (hdst : ∀ o ∈ ops, ∀ k, o.dst = some k → k < n ∧ k < lim) (hQp : ∀ c a w, ¬ Qn (.panic c) a w) {γ0 : Gm} {wb : World} (h0 : ∀ id r m, γ0 id = .live r m → id < n0)
    {slF : Ss} {hpF : Hs} {nxF : Nat} (hfin : ∀ a w, Aft w0 n fl γ0 wb slF hpF nxF a w → Qn .normal a w) :
    ∀ (rest : List (Nat × Bool)) (listed : Array Bool) (fuel : Nat) {sl : Ss} {hp : Hs} {nx : Nat} {γ : Gm} {a : Act} {w : World}, okR ops late listed rest = true → Down ops listed → rest.length ≤ fuel →
      runR P call ops late fl n0 rest (!early late listed) sl hp nx = some (slF, hpF, nxF) → Gm.le γ0 γ → Fr fl γ0 wb γ w → (early late listed = true → Fr n0 γ0 wb γ w) → Rl w0 n γ sl hp nx a w →
      wpAnyT P ops Qn (TT late γ0 wb) fuel listed a w
  | [], listed, fuel, sl, hp, nx, γ, a, w, hok, hd, hfu, h, hle, hfr, hea, hr => by
    simp only [okR, List.isEmpty_iff] at hok
    simp only [runR, Option.some.injEq, Prod.mk.injEq] at h
    obtain ⟨rfl, rfl, rfl⟩ := h
    exact done_any hok (hfin a w ⟨γ, hle, hr, hfr⟩) fuel
  | (i, true) :: r, listed, fuel, sl, hp, nx, γ, a, w, hok, hd, hfu, h, hle, hfr, hea, hr => by
    simp only [okR, Bool.and_eq_true, Bool.not_eq_true', List.contains_eq_mem, decide_eq_false_iff_not] at hok
    obtain ⟨hrd, hm, hl, hf, hok'⟩ := hok
    have hrd := rdyE_spec hrd
    simp only [List.length_cons] at hfu
    obtain ⟨k, rfl⟩ : ∃ k, fuel = k + 1 := ⟨fuel - 1, by omega⟩
    unfold runR at h
    split at h
    · rename_i o ho
      have hdo : ∀ j, o.dst = some j → j < a.tmps.size ∧ j < lim := fun j hj => hr.sz ▸ hdst o (Array.mem_of_getElem? ho) j hj
      have hmem : memE o.op = false := by unfold memAt at hm; rw [ho] at hm; exact hm
      split at h
      · rename_i sl' hq
        obtain ⟨u, hy, hs'⟩ := qui_spec hq hr.sr hr.hr.live hdo (fun _ => True) (fun w' _ hx => by rw [hmem] at hx; cases hx)
        have hes : early late (listed.setIfInBounds i true) = early late listed := early_set hl
        refine wpAnyT_first (S := fun _ => True) ho (Region.noSelect_spec hsel) (fun c a w h => absurd h (hQp c _ w)) (TT_set hl) (fun _ _ _ _ _ _ _ => trivial) k listed a w hd (fun j oj hj hne hun hno => Region.free_spec ho hf j oj hj hne hun hno) hrd hy trivial ?_ ?_
        · intro he
          rw [hes] at he
          exact fun id r m hl => (hea he id r m (h0 id r m hl) hl).2
        · refine runR_sound hcall hsel hdst hQp h0 hfin r (listed.setIfInBounds i true) k hok' (hd.set hrd) (by omega) (by rw [hes]; exact h) hle hfr (by rw [hes]; exact hea) ?_
          exact ⟨hs', hr.hr, by rw [put_defers]; exact hr.df, by rw [put_size]; exact hr.sz⟩
      · simp at h
    · simp at h
  | (i, false) :: r, listed, fuel, sl, hp, nx, γ, a, w, hok, hd, hfu, h, hle, hfr, hea, hr => by
    simp only [okR, Bool.and_eq_true, beq_iff_eq] at hok
    obtain ⟨hrd, hok'⟩ := hok
    have hri : i ∈ Region.ready .any ops listed := by rw [hrd]; simp
    simp only [List.length_cons] at hfu
    obtain ⟨k, rfl⟩ : ∃ k, fuel = k + 1 := ⟨fuel - 1, by omega⟩
    refine ⟨fun h => by rw [hrd] at h; simp at h, fun j hj => ?_⟩
    rw [hrd, List.mem_singleton] at hj
    subst hj
    unfold runR at h
    split at h
    · rename_i o ho
      have hdo := hdst o (Array.mem_of_getElem? ho)
      split at h
      · rename_i sl' hp' nx' h1
        have hearly : early late (listed.setIfInBounds j true) = !(!early late listed || late.contains j) := by
          by_cases hil : j ∈ late
          · rw [early_late hil (lt_of_ready hri)]; simp [hil]
          · rw [early_set hil]; simp [hil]
        refine (one_op (Q := Qn) hcall ho hdo h1 hr (K := fun a' w' => TT late γ0 wb (listed.setIfInBounds j true) w' ∧ wpAnyT P ops Qn (TT late γ0 wb) k (listed.setIfInBounds j true) a' w') ?_).2
        rintro a' w' ⟨γ', hle', hr', hfr'⟩
        have hfl' : Fr fl γ w γ' w' := hfr'.weak (by
          cases (!early late listed || late.contains j)
          · rw [cond_false]; omega
          · rw [cond_true]; omega)
        have hea' : early late (listed.setIfInBounds j true) = true → Fr n0 γ0 wb γ' w' := by
          intro he
          have he1 := early_mono he
          rw [hearly] at he
          have hb : (!early late listed || late.contains j) = false := by simpa using he
          rw [hb, cond_false] at hfr'
          exact (hea he1).trans (hfr'.weak (by omega))
        refine ⟨fun he id r m hl => (hea' he id r m (h0 id r m hl) hl).2, ?_⟩
        exact runR_sound hcall hsel hdst hQp h0 hfin r (listed.setIfInBounds j true) k hok' (hd.set hri) (by omega) (by rw [hearly, Bool.not_not]; exact h) (Gm.le_trans hle hle') (hfr.trans hfl') hea' hr'
      · simp at h
    · simp at h

theorem listA_down {ms : List Nat} : ∀ {A : List Nat} {listed : Array Bool}, okA ops ms late listed A = true → Down ops listed → Down ops (listA listed A)
  | [], _, _, h => h
  | i :: r, listed, hok, h => by
    simp only [okA, Bool.and_eq_true] at hok
    exact listA_down (A := r) hok.2.2.2.2 (h.set (rdyE_spec hok.1))
theorem runA_sound {ms : List Nat} (hms : MsOk ops ms) (hsel : Region.noSelect ops = true) (hdst : ∀ o ∈ ops, ∀ k, o.dst = some k → k < n ∧ k < lim) (hQp : ∀ c a w, ¬ Qn (.panic c) a w) {γ0 : Gm} {wb : World} {hp : Hs} {nx : Nat} {slF : Ss} {fuel : Nat} (hr0 : HR (fun j => nx ≤ j) w0 γ0 hp wb) :
    ∀ (A : List Nat) (listed : Array Bool) {sl : Ss} {a : Act}, okA ops ms late listed A = true → Down ops listed → early late listed = true → runA P ops hp A sl = some slF → SR γ0 sl a.tmps → a.defers = [] → a.tmps.size = n →
      (∀ a', SR γ0 slF a'.tmps → a'.defers = [] → a'.tmps.size = n → early late (listA listed A) = true → wpAnyT P ops Qn (TT late γ0 wb) fuel (listA listed A) a' wb) →
      wpAnyT P ops Qn (TT late γ0 wb) (A.length + fuel) listed a wb
  | [], listed, sl, a, _, _, he, h, hs, hdf, hsz, hfin => by
    simp only [runA, Option.some.injEq] at h
    subst h
    simp only [List.length_nil, Nat.zero_add]
    exact hfin a hs hdf hsz he
  | i :: r, listed, sl, a, hok, hd, he, h, hs, hdf, hsz, hfin => by
    simp only [okA, Bool.and_eq_true, Bool.not_eq_true', List.contains_eq_mem, decide_eq_false_iff_not, Bool.or_eq_true, List.all_eq_true] at hok
    obtain ⟨hrd, hl, hf, hreach, hok'⟩ := hok
    have hrd := rdyE_spec hrd
    unfold runA at h
    split at h
    · rename_i o ho
      have hdo : ∀ j, o.dst = some j → j < a.tmps.size ∧ j < lim := fun j hj => hsz ▸ hdst o (Array.mem_of_getElem? ho) j hj
      split at h
      · rename_i sl' hq
        have hes : early late (listed.setIfInBounds i true) = true := by rw [early_set hl]; exact he
        have hself : SameAll γ0 wb wb := fun _ _ _ _ => rfl
        obtain ⟨u, hy, hs'⟩ := qui_spec hq hs hr0.live hdo (fun w' => memE o.op = true → SameAll γ0 wb w') (fun w' hw' hx => hself.sameL (hw' hx))
        have hlen : (i :: r).length + fuel = (r.length + fuel) + 1 := by simp only [List.length_cons]; omega
        rw [hlen]
        refine wpAnyT_first (S := fun w' => memE o.op = true → SameAll γ0 wb w') ho (Region.noSelect_spec hsel) (fun c a w h => absurd h (hQp c _ w)) (TT_set hl) ?_ _ listed a wb hd (fun j oj hj hne hun hno => Region.free_spec ho hf j oj hj hne hun hno) hrd hy (fun _ => hself) (fun _ => hself) ?_
        · intro listed j w hd hun hj hT hm
          refine TT_set hl listed j w hT ?_
          unfold early
          simp only [List.all_eq_true, Bool.not_eq_true']
          intro k hk
          have hne : k ≠ i := fun e => hl (e ▸ hk)
          have hu := unlisted_false hun
          cases hx : (listed.setIfInBounds j true).getD k false with
          | false => rfl
          | true =>
            exfalso
            have hedges : ∀ oj, ops[k]? = some oj → ∀ e ∈ oj.after, Region.binds .any e = true → listed.getD e.on false = true := by
              intro oj hoj e he hb
              by_cases hjk : j = k
              · subst hjk
                obtain ⟨_, o2, ho2, hall⟩ := mem_ready.1 hj
                rw [ho2] at hoj
                simp only [Option.some.injEq] at hoj
                subst hoj
                exact hall e he hb
              · rw [getD_set_ne false hjk] at hx
                exact hd k hx oj hoj e he hb
            have hbit : (ms.getD k 0).testBit i = true := by
              rcases hreach with h' | h'
              · unfold memAt at h'
                rw [ho] at h'
                simp only [hm] at h'
                cases h'
              · exact h' k hk
            have := hms k i hbit listed hd hedges
            rw [hu] at this; cases this
        · exact runA_sound hms hsel hdst hQp hr0 r (listed.setIfInBounds i true) hok' (hd.set hrd) hes h hs' (by rw [put_defers]; exact hdf) (by rw [put_size]; exact hsz) hfin
      · simp at h
    · simp at h
theorem early_all {k : Nat} (late : List Nat) : early late (Array.replicate k false) = true := by
  unfold early
  simp only [List.all_eq_true, Bool.not_eq_true']
  intro j _
  rw [Array.getD_eq_getD_getElem?, Array.getElem?_replicate]
  split <;> rfl
theorem down_none {k : Nat} : Down ops (Array.replicate k false) := by
  intro j hj
  rw [Array.getD_eq_getD_getElem?, Array.getElem?_replicate] at hj
  split at hj <;> simp at hj
theorem Rl.drew {γ : Gm} {sl : Ss} {hp : Hs} {nx : Nat} {a : Act} {w : World} (h : Rl w0 n γ sl hp nx a w) (k : Nat) : Rl w0 n γ sl hp nx a { w with drawn := k } := ⟨h.sr, h.hr.drew k, h.df, h.sz⟩
theorem draw_sound (hcall : CallOk P call) (hm : P.follows .mixedOrders = true) {id : Nat} {sl sl' : Ss} {hp hp' : Hs} {nx nx' : Nat} (h : drawE P call fl ops sl hp nx = some (sl', hp', nx')) (hdst : ∀ o ∈ ops, ∀ k, o.dst = some k → k < n ∧ k < lim)
    {γ : Gm} {a : Act} {w : World} (hr : Rl w0 n γ sl hp nx a w) : (Code.region id ops true).wp P (fun e a' w' => e = .normal ∧ Aft w0 n fl γ w sl' hp' nx' a' w') a w := by
  unfold drawE at h
  cases hok : okPlan ops (planE ops)
  · rw [hok] at h; simp at h
  · rw [hok, cond_true] at h
    simp only [okPlan, Bool.and_eq_true] at hok
    obtain ⟨hsel, hA, hR, hlen⟩ := hok
    have hlen := Nat.le_of_ble_eq_true hlen
    split at h
    · rename_i sl1 h1
      have hr' := hr.drew (w.drawn + 1)
      refine wp_region_any hm (wpAny_of_T (T := TT (planE ops).late γ { w with drawn := w.drawn + 1 }) _ _ _ _ ?_)
      obtain ⟨k, hk⟩ : ∃ k, ops.size = (planE ops).A.length + k := ⟨ops.size - (planE ops).A.length, by omega⟩
      have hAA : okA ops (masksE ops.toList []) (planE ops).late (Array.replicate ops.size false) (planE ops).A = true := hA
      rw [show wpAnyT P ops _ (TT (planE ops).late γ { w with drawn := w.drawn + 1 }) ops.size = wpAnyT P ops _ (TT (planE ops).late γ { w with drawn := w.drawn + 1 }) ((planE ops).A.length + k) from by rw [hk]]
      refine runA_sound (w0 := w0) (n := n) (fuel := k) (masks_ok ops) hsel hdst (fun c a w h => by simp at h) hr'.hr (planE ops).A (Array.replicate ops.size false) hAA down_none (early_all _) h1 hr'.sr hr'.df hr'.sz ?_
      intro a' hs hdf hsz he
      refine runR_sound (w0 := w0) (n := n) (fl := fl) (n0 := nx) hcall hsel hdst (fun c a w h => by simp at h) (fun id r m hl => max_names (F := fun _ => True) hr.hr hl) (slF := sl') (hpF := hp') (nxF := nx') (fun a w hA => ⟨rfl, ?_⟩) (planE ops).rest _ k hR (listA_down hAA down_none) (by omega) (by rw [he]; exact h) (Gm.le_refl γ) (Fr.refl _ _ _) (fun _ => Fr.refl _ _ _) ⟨hs, hr'.hr, hdf, hsz⟩
      exact hA
    · simp at h
end
end Go.Proofs.Ytclgglffbpfmhaa
