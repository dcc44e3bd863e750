/- Code and whole functions, reckoned; and that the model does so on every schedule. -/
import Derived.Test.YtclgglffbpfmhaaEj
import Derived.LoopN
import Derived.ScopeJumps
namespace Go.Proofs.Ytclgglffbpfmhaa
set_option linter.unusedSimpArgs false
set_option linter.unusedVariables false

inductive EX where
  | nrm
  | exit (id : Nat)
  | goto (l : Nat)
  | ret
def EX.ex : EX → Exit
  | .nrm => .normal
  | .exit id => .exit id
  | .goto l => .goto l
  | .ret => .ret
abbrev RT := Option (EX × Ss × Hs × Nat)
/-- Floor; a label that is jumped to; code; slots; memory; next name. -/
abbrev CT := Nat → Option Nat → Code → Ss → Hs → Nat → RT

/-- Every slot that is written lies in the frame. -/
def codeFits (n : Nat) : Code → Bool
  | .region _ ops _ => ops.toList.all fun o => match o.dst with
    | some d => Nat.blt d n
    | none => true
  | .seq x y => codeFits n x && codeFits n y
  | .cond _ x y => codeFits n x && codeFits n y
  | .block _ x => codeFits n x
  | .loop x => codeFits n x
  | .scope x => codeFits n x
  | _ => true
theorem fits_label {n : Nat} : ∀ {c : Code} {l : Nat} {rest : Code}, findLabel c l = some rest → codeFits n c = true → codeFits n rest = true
  | .seq x y, l, rest, h, hf => by
    simp only [codeFits, Bool.and_eq_true] at hf
    unfold findLabel at h
    split at h
    · rename_i r hr
      simp only [Option.some.injEq] at h
      subst h
      simp only [codeFits, fits_label hr hf.1, hf.2, Bool.and_self]
    · exact fits_label h hf.2
  | .label l', l, rest, h, _ => by
    unfold findLabel at h
    split at h
    · simp only [Option.some.injEq] at h
      subst h; rfl
    · simp at h
  | .skip, _, _, h, _ => by simp [findLabel] at h
  | .region _ _ _, _, _, h, _ => by simp [findLabel] at h
  | .cond _ _ _, _, _, h, _ => by simp [findLabel] at h
  | .block _ _, _, _, h, _ => by simp [findLabel] at h
  | .loop _, _, _, h, _ => by simp [findLabel] at h
  | .rangeFunc _ _ _ _, _, _, h, _ => by simp [findLabel] at h
  | .exit _, _, _, h, _ => by simp [findLabel] at h
  | .scope _, _, _, h, _ => by simp [findLabel] at h
  | .goto _, _, _, h, _ => by simp [findLabel] at h
  | .ret, _, _, h, _ => by simp [findLabel] at h
  | .refuse _, _, _, h, _ => by simp [findLabel] at h

def slotsE : Nat → List AV → Ss → Ss
  | _, [], sl => sl
  | i, v :: r, sl => slotsE (i + 1) r (Tr.set (key i) sl v)
def resE (P : Program) (sl : Ss) (hp : Hs) : List ResultVar → Option (List AV)
  | [] => some []
  | .tmp t :: r => match resE P sl hp r with
    | some l => some (slotE sl t :: l)
    | none => none
  | .cell x t :: r => match loadE P sl hp t (.tmp x), resE P sl hp r with
    | some v, some l => some (v :: l)
    | _, _ => none
def retE : List AV → AV
  | [v] => v
  | vs => .tup vs
def funE (P : Program) (ih : CT) : CallT := fun fl nx hp g args => match P.funcs[g]? with
  | some fn => (match fn.body with
    | some c => bif codeFits fn.ntmps c && (Nat.ble fn.ntmps 1000000 && Nat.ble (lenL args 0) fn.ntmps) then (match ih fl none c (slotsE 0 args .e) hp nx with
      | some (.nrm, sl', hp', nx') => (match resE P sl' hp' fn.results.toList with
        | some vs => some (retE vs, hp', nx')
        | none => none)
      | some (.ret, sl', hp', nx') => (match resE P sl' hp' fn.results.toList with
        | some vs => some (retE vs, hp', nx')
        | none => none)
      | _ => none) else none
    | none => none)
  | none => none
def nrmE : Option (Ss × Hs × Nat) → RT
  | some (sl, hp, nx) => some (.nrm, sl, hp, nx)
  | none => none
def bodyE (P : Program) (ih : CT) : CT := fun fl lb c sl hp nx => match lb with
  | some l => (match ih fl none c sl hp nx with
    | some (.goto l', sl', hp', nx') => bif Nat.beq l' l then ih fl (some l) c sl' hp' nx' else none
    | r => r)
  | none => match c with
    | .skip => some (.nrm, sl, hp, nx)
    | .region _ ops draw => nrmE (bif draw then drawE P (funE P ih) fl ops sl hp nx else opsE P (funE P ih) fl ops.toList ops.toList sl hp nx)
    | .seq x y => (match ih fl none x sl hp nx with
      | some (.nrm, sl', hp', nx') => ih fl none y sl' hp' nx'
      | r => r)
    | .cond c x y => (match evE sl c with
      | .b true => ih fl none x sl hp nx
      | .b false => ih fl none y sl hp nx
      | _ => none)
    | .block id x => (match ih fl none x sl hp nx with
      | some (.exit i, sl', hp', nx') => bif Nat.beq i id then some (.nrm, sl', hp', nx') else some (.exit i, sl', hp', nx')
      | r => r)
    | .loop x => (match ih fl none x sl hp nx with
      | some (.nrm, sl', hp', nx') => ih fl none (.loop x) sl' hp' nx'
      | r => r)
    | .exit id => some (.exit id, sl, hp, nx)
    | .label _ => some (.nrm, sl, hp, nx)
    | .goto l => some (.goto l, sl, hp, nx)
    | .ret => some (.ret, sl, hp, nx)
    | .scope x => (match ih fl none x sl hp nx with
      | some (.goto l, sl', hp', nx') => (match findLabel x l with
        | some rest => ih fl (some l) rest sl' hp' nx'
        | none => none)
      | r => r)
    | _ => none
noncomputable def codeE (P : Program) (f : Nat) : CT := Nat.rec (motive := fun _ => CT) (fun _ _ _ _ _ _ => none) (fun _ ih => bodyE P ih) f
theorem codeE_succ (P : Program) (f : Nat) : codeE P (f + 1) = bodyE P (codeE P f) := rfl

section
variable {P : Program} {w0 : Base} {n fl : Nat}
/-- What stands behind code. -/
def QE (w0 : Base) (n fl : Nat) (γ : Gm) (w : World) (ex : EX) (sl : Ss) (hp : Hs) (nx : Nat) (e : Exit) (a' : Act) (w' : World) : Prop := e = ex.ex ∧ Aft w0 n fl γ w sl hp nx a' w'
def jrounds (P : Program) (rest : Code) (l : Nat) (Q : Exit → Act → World → Prop) : Nat → Act → World → Prop
  | 0, _, _ => False
  | n + 1, a, w => rest.wp P (Exit.jump l (jrounds P rest l Q n) Q) a w
theorem wp_scope_rounds {c rest : Code} {l m : Nat} {Q : Exit → Act → World → Prop} {a : Act} {w : World} (hf : findLabel c l = some rest) (first : c.wp P (Exit.jump l (jrounds P rest l Q m) Q) a w) : (Code.scope c).wp P Q a w := by
  intro b k cs
  have hg : gotoIn l (.inScope c :: k) = some (.code rest :: .inScope c :: k) := by simp [gotoIn, hf]
  have key : ∀ n a w, jrounds P rest l Q n a w → ∃ e a' w', Q e a' w' ∧ Arrives P (lone (b.at a (.code rest :: .inScope c :: k)) cs w) b k cs e a' w' := by
    intro n
    induction n with
    | zero => intro a w h; exact h.elim
    | succ n ih =>
      intro a w h
      obtain ⟨e, a₁, w₁, hq, harr⟩ := h b (.inScope c :: k) cs
      cases e with
      | normal => exact ⟨.normal, a₁, w₁, hq, Steps.trans harr (.one step_inScope)⟩
      | exit id => exact ⟨.exit id, a₁, w₁, hq, fun k' hk => harr k' (by simp [exitTo, hk])⟩
      | goto l' =>
        obtain ⟨rfl, hJ⟩ := hq
        obtain ⟨e₂, a₂, w₂, hq₂, harr₂⟩ := ih a₁ w₁ hJ
        exact ⟨e₂, a₂, w₂, hq₂, .of_steps (harr _ hg) harr₂⟩
      | ret => exact ⟨_, a₁, w₁, hq, harr⟩
      | panic ch => exact ⟨_, a₁, w₁, hq, harr⟩
      | outgrown => exact ⟨_, a₁, w₁, hq, harr⟩
  obtain ⟨e, a₁, w₁, hq, harr⟩ := first b (.inScope c :: k) cs
  cases e with
  | normal => exact ⟨.normal, a₁, w₁, hq, .head step_scope (Steps.trans harr (.one step_inScope))⟩
  | exit id => exact ⟨.exit id, a₁, w₁, hq, fun k' hk => .head step_scope (harr k' (by simp [exitTo, hk]))⟩
  | goto l' =>
    obtain ⟨rfl, hJ⟩ := hq
    obtain ⟨e₂, a₂, w₂, hq₂, harr₂⟩ := key m a₁ w₁ hJ
    exact ⟨e₂, a₂, w₂, hq₂, .of_steps (.head step_scope (harr _ hg)) harr₂⟩
  | ret => exact ⟨_, a₁, w₁, hq, .of_steps (.one step_scope) harr⟩
  | panic ch => exact ⟨_, a₁, w₁, hq, .of_steps (.one step_scope) harr⟩
  | outgrown => exact ⟨_, a₁, w₁, hq, .of_steps (.one step_scope) harr⟩

/-! Functions. -/
theorem slotsE_get {γ : Gm} : ∀ (args : List AV) (vs : List Value) (k : Nat) (sl : Ss), AV.relL γ args vs → k + args.length ≤ lim → ∀ t, (slotE (slotsE k args sl) t).rel γ (if k ≤ t ∧ t < k + args.length then (vs[t - k]?).getD undef else undef) ∨ (¬ (k ≤ t ∧ t < k + args.length) ∧ slotE (slotsE k args sl) t = slotE sl t)
  | [], vs, k, sl, h, _, t => .inr ⟨by simp only [List.length_nil]; omega, rfl⟩
  | v :: r, vs, k, sl, ⟨u, vs', e, h1, h2⟩, hl, t => by
    simp only [List.length_cons] at hl ⊢
    unfold slotsE
    rcases slotsE_get r vs' (k + 1) (Tr.set (key k) sl v) h2 (by omega) t with h | ⟨hn, h⟩
    · by_cases hk : k + 1 ≤ t ∧ t < k + 1 + r.length
      · rw [if_pos hk] at h
        left
        rw [if_pos (by omega), e]
        have : t - k = (t - (k + 1)) + 1 := by omega
        rw [this, List.getElem?_cons_succ]
        exact h
      · rw [if_neg hk] at h
        by_cases ht : t = k
        · subst ht
          rcases slotsE_get r vs' (t + 1) (Tr.set (key t) sl v) h2 (by omega) t with h' | ⟨_, h'⟩
          · left
            rw [if_pos (by omega), e, Nat.sub_self]
            have hh := slotsE_low r (t + 1) (Tr.set (key t) sl v) t (by omega) (by omega)
            rw [hh, slot_set (by omega), if_pos rfl]
            cases Nat.blt t lim
            · trivial
            · exact h1
          · left
            rw [if_pos (by omega), e, Nat.sub_self, h', slot_set (by omega), if_pos rfl]
            cases Nat.blt t lim
            · trivial
            · exact h1
        · left
          rw [if_neg (by omega)]
          exact h
    · by_cases ht : t = k
      · subst ht
        left
        rw [if_pos (by omega), e, Nat.sub_self, h, slot_set (by omega), if_pos rfl]
        cases Nat.blt t lim
        · trivial
        · exact h1
      · right
        refine ⟨by omega, ?_⟩
        rw [h, slot_set (by omega), if_neg (Ne.symm ht)]
where
  slotsE_low : ∀ (args : List AV) (k : Nat) (sl : Ss) (t : Nat), t < k → k + args.length ≤ lim → slotE (slotsE k args sl) t = slotE sl t
    | [], _, _, _, _, _ => rfl
    | v :: r, k, sl, t, h, hl => by
      simp only [List.length_cons] at hl
      unfold slotsE
      rw [slotsE_low r (k + 1) _ t (by omega) (by omega), slot_set (by omega), if_neg (by omega)]
def resF (ts : Array Value) : ResultVar → Sem Value
  | .tmp t => pure (ts.getD t undef)
  | .cell x t => do loadVar t (← asAddr (ts.getD x undef))
theorem asAddr_some (a : Addr) : asAddr (.pointer (some a)) = pure a := rfl
theorem resE_sound {γ : Gm} {sl : Ss} {hp : Hs} {ts : Array Value} {w : World} (hs : SR γ sl ts) (hl : HL γ hp w) : ∀ {rs : List ResultVar} {vs : List AV}, resE P sl hp rs = some vs →
    ∃ us, AV.relL γ vs us ∧ (rs.mapM (resF ts)).run P w = .ok us w
  | [], vs, h => by
    simp only [resE, Option.some.injEq] at h
    subst h
    exact ⟨[], rfl, rfl⟩
  | .tmp t :: r, vs, h => by
    unfold resE at h
    split at h
    · rename_i l hl'
      simp only [Option.some.injEq] at h
      subst h
      obtain ⟨us, hr, hrun⟩ := resE_sound hs hl hl'
      refine ⟨ts.getD t undef :: us, ⟨_, _, rfl, hs t, hr⟩, ?_⟩
      simp only [List.mapM_cons, Sem.run_bind, resF, Sem.run_pure, Result.andThen_ok, hrun]
    · simp at h
  | .cell x t :: r, vs, h => by
    unfold resE at h
    split at h
    · rename_i v l hv hl'
      simp only [Option.some.injEq] at h
      subst h
      obtain ⟨us, hr, hrun⟩ := resE_sound hs hl hl'
      unfold loadE at hv
      have hx := hs x
      split at hv
      · rename_i id off he
        have he' : slotE sl x = .p id off := he
        rw [he'] at hx
        split at hv
        · rename_i cs hc
          obtain ⟨r', n', ds, sp, bt, fr, hlive, hw, _, _, hrel⟩ := hl.read hc
          obtain ⟨ad, ex, _, hpt⟩ := hx
          have had := hpt r' n' hlive
          subst had
          obtain ⟨u, hu, hrun'⟩ := run_loadVar (r := r') (sp := sp) (bt := bt) (fr := fr) hv hrel
          have hrun'' := hrun' w hw
          refine ⟨u :: us, ⟨_, _, rfl, hu, hr⟩, ?_⟩
          simp only [List.mapM_cons, Sem.run_bind, resF, ex, asAddr_some, Sem.run_pure, Result.andThen_ok, hrun'']
          rw [hrun]; rfl
        · simp at hv
      · simp at hv
    · simp at h
theorem results_run {fn : Func} {ts : Array Value} {w : World} {us : List Value} (h : (fn.results.toList.mapM (resF ts)).run P w = .ok us w) :
    (results fn ts).run P w = .ok (if h : us.toArray.size = 1 then us.toArray[0] else .tuple us.toArray) w := by
  have e : results fn ts = (do let vs ← fn.results.mapM (resF ts); pure (if h : vs.size = 1 then vs[0] else .tuple vs)) := by
    unfold results
    congr 2
  have e2 : fn.results.mapM (resF ts) = List.toArray <$> fn.results.toList.mapM (resF ts) := by rw [← List.mapM_toArray]
  rw [e, e2]
  simp only [Sem.run_bind, Sem.run_map, h, Result.andThen_ok, Sem.run_pure]
theorem retE_rel {γ : Gm} {vs : List AV} {us : List Value} (h : AV.relL γ vs us) : (retE vs).rel γ (if h : us.toArray.size = 1 then us.toArray[0] else .tuple us.toArray) := by
  have hl := relL_length h
  unfold retE
  split
  · rename_i v
    obtain ⟨u, us', rfl, h1, h2⟩ := h
    simp only [AV.relL] at h2
    subst h2
    exact h1
  · rename_i hne
    have : ¬ us.toArray.size = 1 := by
      intro e
      simp only [List.size_toArray] at e
      rw [hl] at e
      obtain ⟨v, hv⟩ := List.length_eq_one_iff.1 e
      exact hne v hv
    rw [dif_neg this]
    exact ⟨us, rfl, h⟩
def Named (P : Program) : Prop := ∀ (g : FuncId) (fn : Func), P.funcs[g]? = some fn → fn.body.isNone = false → (fn.name == "runtime.NumGoroutine") = false
/-- What is known of code that is reckoned. -/
def CodeOk (P : Program) (ih : CT) (f : Nat) : Prop := ∀ fl lb c sl hp nx ex sl' hp' nx', ih fl lb c sl hp nx = some (ex, sl', hp', nx') → nx ≤ nx' ∧ ∀ w0 n γ a w, codeFits n c = true → n ≤ lim → Rl w0 n γ sl hp nx a w →
  match lb with
  | none => c.wp P (QE w0 n fl γ w ex sl' hp' nx') a w ∧ ∀ x, c = .loop x → Code.rounds P x (QE w0 n fl γ w ex sl' hp' nx') f a w
  | some l => jrounds P c l (QE w0 n fl γ w ex sl' hp' nx') f a w
theorem fun_ok (hN : Named P) {ih : CT} {f : Nat} (hih : CodeOk P ih f) : CallOk P (funE P ih) := by
  intro fl nx hp g args v hp' nx' h
  unfold funE at h
  split at h
  · rename_i fn hfn
    split at h
    · rename_i c hb
      cases hc : (codeFits fn.ntmps c && (Nat.ble fn.ntmps 1000000 && Nat.ble (lenL args 0) fn.ntmps))
      · rw [hc] at h; simp at h
      · rw [hc, cond_true] at h
        simp only [Bool.and_eq_true] at hc
        obtain ⟨hfit, hnt, hlen⟩ := hc
        have hnt := Nat.le_of_ble_eq_true hnt
        have hlen := Nat.le_of_ble_eq_true hlen
        rw [lenL_eq, Nat.add_zero] at hlen
        have hnone : fn.body.isNone = false := by rw [hb]; rfl
        have hlim : fn.ntmps ≤ lim := by unfold lim; omega
        have fin : ∀ {ex : EX} {sl' : Ss} {hp1 : Hs} {nx1 : Nat}, ih fl none c (slotsE 0 args .e) hp nx = some (ex, sl', hp1, nx1) → (ex = .nrm ∨ ex = .ret) → (match resE P sl' hp1 fn.results.toList with
            | some vs => some (retE vs, hp1, nx1)
            | none => none) = some (v, hp', nx') → IsFn P g ∧ nx ≤ nx' ∧
            ∀ w0 γ w vs, HR (fun j => nx ≤ j) w0 γ hp w → AV.relL γ args vs → Calls P g vs.toArray w fun e w' => ∃ u γ', e = .returned u ∧ Gm.le γ γ' ∧ HR (fun j => nx' ≤ j) w0 γ' hp' w' ∧ v.rel γ' u ∧ Fr fl γ w γ' w' := by
          intro ex sl' hp1 nx1 h1 hex h
          split at h
          · rename_i rs hres
            simp only [Option.some.injEq, Prod.mk.injEq] at h
            obtain ⟨rfl, rfl, rfl⟩ := h
            obtain ⟨hle, hcode⟩ := hih _ _ _ _ _ _ _ _ _ _ h1
            refine ⟨⟨fn, hfn, hN g fn hfn hnone, hnone⟩, hle, fun w0 γ w vs hr hv => ?_⟩
            have hvl := relL_length hv
            refine calls_of_wp hfn hb (wp_mono (hcode w0 fn.ntmps γ { tmps := vs.toArray ++ Array.replicate (fn.ntmps - vs.toArray.size) undef, defers := [] } w hfit hlim ⟨?_, hr, rfl, ?_⟩).1 ?_)
            · intro t
              have e : (vs.toArray ++ Array.replicate (fn.ntmps - vs.toArray.size) undef).getD t undef = (vs[t]?).getD undef := by
                rw [Array.getD_eq_getD_getElem?, Array.getElem?_append]
                by_cases h1 : t < vs.toArray.size
                · rw [if_pos h1]; simp
                · rw [if_neg h1, Array.getElem?_replicate]
                  have h2 : vs[t]? = none := by simp at h1 ⊢; exact h1
                  rw [h2]
                  split <;> rfl
              rw [e]
              rcases slotsE_get args vs 0 .e hv (by omega) t with h | ⟨hn, h⟩
              · simp only [Nat.zero_le, true_and, Nat.zero_add, Nat.sub_zero] at h
                by_cases ht : t < args.length
                · rw [if_pos ht] at h; exact h
                · rw [if_neg ht] at h
                  have : vs[t]? = none := by rw [List.getElem?_eq_none]; omega
                  rw [this]; exact h
              · rw [h]
                unfold slotE
                rw [Tr.get_e]
                cases Nat.blt t lim <;> trivial
            · simp only [Array.size_append, Array.size_replicate, List.size_toArray]; omega
            · rintro e a' w' ⟨rfl, γ', hle', hr', hfr⟩
              obtain ⟨us, hus, hrun⟩ := resE_sound (P := P) hr'.sr hr'.hr.live hres
              have hrun := results_run hrun
              rcases hex with rfl | rfl
              · exact ⟨hr'.df, _, hrun, _, γ', rfl, hle', hr'.hr, retE_rel hus, hfr⟩
              · exact ⟨hr'.df, _, hrun, _, γ', rfl, hle', hr'.hr, retE_rel hus, hfr⟩
          · simp at h
        split at h
        · rename_i h1; exact fin h1 (.inl rfl) h
        · rename_i h1; exact fin h1 (.inr rfl) h
        · simp at h
    · simp at h
  · simp at h

theorem range_map {α : Type} (l : Array α) : (List.range l.size).map (l[·]?) = l.toList.map some := by
  apply List.ext_getElem?
  intro i
  by_cases h : i < l.size
  · simp [h]
  · simp [h]
theorem QE.step {γ γ1 : Gm} {w w1 : World} {ex : EX} {sl : Ss} {hp : Hs} {nx : Nat} {e : Exit} {a' : Act} {w' : World} (hle : Gm.le γ γ1) (hfr : Fr fl γ w γ1 w1) (h : QE w0 n fl γ1 w1 ex sl hp nx e a' w') : QE w0 n fl γ w ex sl hp nx e a' w' :=
  ⟨h.1, h.2.step hle hfr⟩
theorem rounds_mono {x : Code} {Q Q' : Exit → Act → World → Prop} (hq : ∀ e a w, Q e a w → Q' e a w) : ∀ (m : Nat) {a : Act} {w : World}, Code.rounds P x Q m a w → Code.rounds P x Q' m a w
  | 0, _, _, h => h
  | m + 1, _, _, h => wp_mono h fun e a w he => by
    cases e <;> first | exact rounds_mono hq m he | exact hq _ _ _ he
theorem jrounds_mono {x : Code} {l : Nat} {Q Q' : Exit → Act → World → Prop} (hq : ∀ e a w, Q e a w → Q' e a w) : ∀ (m : Nat) {a : Act} {w : World}, jrounds P x l Q m a w → jrounds P x l Q' m a w
  | 0, _, _, h => h
  | m + 1, _, _, h => wp_mono h fun e a w he => by
    cases e <;> first | exact ⟨he.1, jrounds_mono hq m he.2⟩ | exact hq _ _ _ he
theorem body_ok (hN : Named P) (hmx : P.follows .mixedOrders = true) {ih : CT} {f : Nat} (hih : CodeOk P ih f) : CodeOk P (bodyE P ih) (f + 1) := by
  have hcall := fun_ok hN hih
  intro fl lb c sl hp nx ex sl' hp' nx' h
  unfold bodyE at h
  split at h
  · rename_i l
    split at h
    · rename_i l' sl1 hp1 nx1 h1
      obtain ⟨hle1, hc1⟩ := hih _ _ _ _ _ _ _ _ _ _ h1
      cases hb : Nat.beq l' l
      · rw [hb] at h; simp at h
      · rw [hb, cond_true] at h
        have := Nat.eq_of_beq_eq_true hb
        subst this
        obtain ⟨hle2, hc2⟩ := hih _ _ _ _ _ _ _ _ _ _ h
        refine ⟨Nat.le_trans hle1 hle2, fun w0 n γ a w hf hn hr => ?_⟩
        refine wp_mono (hc1 w0 n γ a w hf hn hr).1 ?_
        rintro e a1 w1 ⟨rfl, γ1, hg1, hr1, hfr1⟩
        exact ⟨rfl, jrounds_mono (fun e a w => QE.step hg1 hfr1) f (hc2 w0 n γ1 a1 w1 hf hn hr1)⟩
    · rename_i hng
      obtain ⟨hle1, hc1⟩ := hih _ _ _ _ _ _ _ _ _ _ h
      refine ⟨hle1, fun w0 n γ a w hf hn hr => ?_⟩
      refine wp_mono (hc1 w0 n γ a w hf hn hr).1 ?_
      rintro e a1 w1 ⟨rfl, hA⟩
      cases ex
      case goto l' => exact absurd h (by intro h; exact hng l' sl' hp' nx' h)
      all_goals exact ⟨rfl, hA⟩
  · have straight : (nx ≤ nx' ∧ ∀ w0 n γ a w, codeFits n c = true → n ≤ lim → Rl w0 n γ sl hp nx a w → c.wp P (QE w0 n fl γ w ex sl' hp' nx') a w) → (∀ x, c ≠ .loop x) → nx ≤ nx' ∧ ∀ w0 n γ a w, codeFits n c = true → n ≤ lim → Rl w0 n γ sl hp nx a w → c.wp P (QE w0 n fl γ w ex sl' hp' nx') a w ∧ ∀ x, c = .loop x → Code.rounds P x (QE w0 n fl γ w ex sl' hp' nx') (f + 1) a w :=
      fun h hno => ⟨h.1, fun w0 n γ a w hf hn hr => ⟨h.2 w0 n γ a w hf hn hr, fun x hx => absurd hx (hno x)⟩⟩
    have here : ∀ {w0 : Base} {n : Nat} {γ : Gm} {a : Act} {w : World} {ex : EX}, Rl w0 n γ sl hp nx a w → QE w0 n fl γ w ex sl hp nx ex.ex a w := fun hr => ⟨rfl, _, Gm.le_refl _, hr, Fr.refl _ _ _⟩
    split at h
    · simp only [Option.some.injEq, Prod.mk.injEq] at h
      obtain ⟨rfl, rfl, rfl, rfl⟩ := h
      exact straight ⟨Nat.le_refl _, fun w0 n γ a w _ _ hr => wp_skip (here (ex := .nrm) hr)⟩ (by simp)
    · rename_i id ops draw
      have hdst : ∀ {n : Nat}, codeFits n (.region id ops draw) = true → n ≤ lim → ∀ o ∈ ops, ∀ k, o.dst = some k → k < n ∧ k < lim := by
        intro n hf hn o ho k hk
        simp only [codeFits, List.all_eq_true] at hf
        have := hf o (by simpa using ho)
        rw [hk] at this
        have hk2 := lt_of_blt this
        exact ⟨hk2, Nat.lt_of_lt_of_le hk2 hn⟩
      unfold nrmE at h
      split at h
      · rename_i sl1 hp1 nx1 h1
        simp only [Option.some.injEq, Prod.mk.injEq] at h
        obtain ⟨rfl, rfl, rfl, rfl⟩ := h
        cases draw with
        | false =>
          rw [cond_false] at h1
          refine straight ⟨ops_sound.opsE_le (P := P) hcall _ h1, fun w0 n γ a w hf hn hr => wp_region ?_⟩ (by simp)
          exact (ops_sound hcall (List.range ops.size) ops.toList (range_map ops) (fun o ho => hdst hf hn o (by simpa using ho)) h1 hr fun a' w' hA => ⟨rfl, hA⟩).2
        | true =>
          rw [cond_true] at h1
          refine straight ⟨drawE_le hcall h1, fun w0 n γ a w hf hn hr => ?_⟩ (by simp)
          exact draw_sound hcall hmx h1 (hdst hf hn) hr
      · simp at h
    · rename_i x y
      split at h
      · rename_i sl1 hp1 nx1 h1
        obtain ⟨hle1, hc1⟩ := hih _ _ _ _ _ _ _ _ _ _ h1
        obtain ⟨hle2, hc2⟩ := hih _ _ _ _ _ _ _ _ _ _ h
        refine straight ⟨Nat.le_trans hle1 hle2, fun w0 n γ a w hf hn hr => ?_⟩ (by simp)
        simp only [codeFits, Bool.and_eq_true] at hf
        refine wp_seq (wp_mono (hc1 w0 n γ a w hf.1 hn hr).1 ?_)
        rintro e a1 w1 ⟨rfl, γ1, hg1, hr1, hfr1⟩
        exact wp_mono (hc2 w0 n γ1 a1 w1 hf.2 hn hr1).1 fun e a w => QE.step hg1 hfr1
      · rename_i hnn
        obtain ⟨hle1, hc1⟩ := hih _ _ _ _ _ _ _ _ _ _ h
        refine straight ⟨hle1, fun w0 n γ a w hf hn hr => ?_⟩ (by simp)
        simp only [codeFits, Bool.and_eq_true] at hf
        refine wp_seq (wp_mono (hc1 w0 n γ a w hf.1 hn hr).1 ?_)
        rintro e a1 w1 ⟨rfl, hA⟩
        cases ex
        case nrm => exact absurd h (fun h => hnn sl' hp' nx' h)
        all_goals exact ⟨rfl, hA⟩
    · rename_i cc x y
      split at h
      · rename_i he
        obtain ⟨hle1, hc1⟩ := hih _ _ _ _ _ _ _ _ _ _ h
        refine straight ⟨hle1, fun w0 n γ a w hf hn hr => ?_⟩ (by simp)
        simp only [codeFits, Bool.and_eq_true] at hf
        have hc := evE_rel hr.sr cc
        rw [he] at hc
        exact wp_cond_true hc (hc1 w0 n γ a w hf.1 hn hr).1
      · rename_i he
        obtain ⟨hle1, hc1⟩ := hih _ _ _ _ _ _ _ _ _ _ h
        refine straight ⟨hle1, fun w0 n γ a w hf hn hr => ?_⟩ (by simp)
        simp only [codeFits, Bool.and_eq_true] at hf
        have hc := evE_rel hr.sr cc
        rw [he] at hc
        exact wp_cond_false hc (hc1 w0 n γ a w hf.2 hn hr).1
      · simp at h
    · rename_i id x
      split at h
      · rename_i i sl1 hp1 nx1 h1
        obtain ⟨hle1, hc1⟩ := hih _ _ _ _ _ _ _ _ _ _ h1
        cases hb : Nat.beq i id
        · rw [hb, cond_false, Option.some.injEq, Prod.mk.injEq, Prod.mk.injEq, Prod.mk.injEq] at h
          obtain ⟨rfl, rfl, rfl, rfl⟩ := h
          refine straight ⟨hle1, fun w0 n γ a w hf hn hr => ?_⟩ (by simp)
          refine wp_block (wp_mono (hc1 w0 n γ a w hf hn hr).1 ?_)
          rintro e a1 w1 ⟨rfl, hA⟩
          show (if i = id then _ else _)
          have hne : ¬ i = id := by
            intro e
            subst e
            simp at hb
          rw [if_neg hne]
          exact ⟨rfl, hA⟩
        · rw [hb, cond_true, Option.some.injEq, Prod.mk.injEq, Prod.mk.injEq, Prod.mk.injEq] at h
          obtain ⟨rfl, rfl, rfl, rfl⟩ := h
          have := Nat.eq_of_beq_eq_true hb
          subst this
          refine straight ⟨hle1, fun w0 n γ a w hf hn hr => ?_⟩ (by simp)
          refine wp_block (wp_mono (hc1 w0 n γ a w hf hn hr).1 ?_)
          rintro e a1 w1 ⟨rfl, hA⟩
          show (if i = i then _ else _)
          rw [if_pos rfl]
          exact ⟨rfl, hA⟩
      · rename_i hne
        obtain ⟨hle1, hc1⟩ := hih _ _ _ _ _ _ _ _ _ _ h
        refine straight ⟨hle1, fun w0 n γ a w hf hn hr => ?_⟩ (by simp)
        refine wp_block (wp_mono (hc1 w0 n γ a w hf hn hr).1 ?_)
        rintro e a1 w1 ⟨rfl, hA⟩
        cases ex
        case exit i => exact absurd h (fun h => hne i sl' hp' nx' h)
        all_goals exact ⟨rfl, hA⟩
    · rename_i x
      have key : nx ≤ nx' ∧ ∀ w0 n γ a w, codeFits n x = true → n ≤ lim → Rl w0 n γ sl hp nx a w → Code.rounds P x (QE w0 n fl γ w ex sl' hp' nx') (f + 1) a w := by
        split at h
        · rename_i sl1 hp1 nx1 h1
          obtain ⟨hle1, hc1⟩ := hih _ _ _ _ _ _ _ _ _ _ h1
          obtain ⟨hle2, hc2⟩ := hih _ _ _ _ _ _ _ _ _ _ h
          refine ⟨Nat.le_trans hle1 hle2, fun w0 n γ a w hf hn hr => ?_⟩
          refine wp_mono (hc1 w0 n γ a w hf hn hr).1 ?_
          rintro e a1 w1 ⟨rfl, γ1, hg1, hr1, hfr1⟩
          exact rounds_mono (fun e a w => QE.step hg1 hfr1) f ((hc2 w0 n γ1 a1 w1 hf hn hr1).2 x rfl)
        · rename_i hnn
          obtain ⟨hle1, hc1⟩ := hih _ _ _ _ _ _ _ _ _ _ h
          refine ⟨hle1, fun w0 n γ a w hf hn hr => ?_⟩
          refine wp_mono (hc1 w0 n γ a w hf hn hr).1 ?_
          rintro e a1 w1 ⟨rfl, hA⟩
          cases ex
          case nrm => exact absurd h (fun h => hnn sl' hp' nx' h)
          all_goals exact ⟨rfl, hA⟩
      refine ⟨key.1, fun w0 n γ a w hf hn hr => ?_⟩
      have hr' := key.2 w0 n γ a w hf hn hr
      exact ⟨wp_loop_rounds (f + 1) hr', fun y hy => by cases hy; exact hr'⟩
    · rename_i id
      simp only [Option.some.injEq, Prod.mk.injEq] at h
      obtain ⟨rfl, rfl, rfl, rfl⟩ := h
      exact straight ⟨Nat.le_refl _, fun w0 n γ a w _ _ hr => wp_exit (here (ex := .exit id) hr)⟩ (by simp)
    · simp only [Option.some.injEq, Prod.mk.injEq] at h
      obtain ⟨rfl, rfl, rfl, rfl⟩ := h
      exact straight ⟨Nat.le_refl _, fun w0 n γ a w _ _ hr => wp_label (here (ex := .nrm) hr)⟩ (by simp)
    · rename_i l
      simp only [Option.some.injEq, Prod.mk.injEq] at h
      obtain ⟨rfl, rfl, rfl, rfl⟩ := h
      exact straight ⟨Nat.le_refl _, fun w0 n γ a w _ _ hr => wp_goto (here (ex := .goto l) hr)⟩ (by simp)
    · simp only [Option.some.injEq, Prod.mk.injEq] at h
      obtain ⟨rfl, rfl, rfl, rfl⟩ := h
      exact straight ⟨Nat.le_refl _, fun w0 n γ a w _ _ hr => wp_ret (here (ex := .ret) hr)⟩ (by simp)
    · rename_i x
      split at h
      · rename_i l sl1 hp1 nx1 h1
        obtain ⟨hle1, hc1⟩ := hih _ _ _ _ _ _ _ _ _ _ h1
        split at h
        · rename_i rest hl
          obtain ⟨hle2, hc2⟩ := hih _ _ _ _ _ _ _ _ _ _ h
          refine straight ⟨Nat.le_trans hle1 hle2, fun w0 n γ a w hf hn hr => ?_⟩ (by simp)
          simp only [codeFits] at hf
          refine wp_scope_rounds (m := f) hl (wp_mono (hc1 w0 n γ a w hf hn hr).1 ?_)
          rintro e a1 w1 ⟨rfl, γ1, hg1, hr1, hfr1⟩
          exact ⟨rfl, jrounds_mono (fun e a w => QE.step hg1 hfr1) f (hc2 w0 n γ1 a1 w1 (fits_label hl hf) hn hr1)⟩
        · simp at h
      · rename_i hng
        obtain ⟨hle1, hc1⟩ := hih _ _ _ _ _ _ _ _ _ _ h
        refine straight ⟨hle1, fun w0 n γ a w hf hn hr => ?_⟩ (by simp)
        simp only [codeFits] at hf
        refine wp_scope_straight (wp_mono (hc1 w0 n γ a w hf hn hr).1 ?_)
        rintro e a1 w1 ⟨rfl, hA⟩
        cases ex
        case goto l => exact absurd h (fun h => hng l sl' hp' nx' h)
        all_goals exact ⟨rfl, hA⟩
    · simp at h
where
  drawE_le {P : Program} {call : CallT} (hcall : CallOk P call) {fl : Nat} {ops : Array Oper} {sl sl' : Ss} {hp hp' : Hs} {nx nx' : Nat} (h : drawE P call fl ops sl hp nx = some (sl', hp', nx')) : nx ≤ nx' := by
    unfold drawE at h
    cases hok : okPlan ops (planE ops)
    · rw [hok] at h; simp at h
    · rw [hok, cond_true] at h
      split at h
      · exact runR_le hcall _ h
      · simp at h
  runR_le {P : Program} {call : CallT} (hcall : CallOk P call) {ops : Array Oper} {late R : List Nat} {hp0 : Hs} {fl : Nat} : ∀ (rest : List Ev) {e : Bool} {sl sl' : Ss} {hp hp' : Hs} {nx nx' : Nat}, runR P call ops late R hp0 fl rest e sl hp nx = some (sl', hp', nx') → nx ≤ nx'
    | [], _, _, _, _, _, _, _, h => by
      simp only [runR, Option.some.injEq, Prod.mk.injEq] at h
      exact Nat.le_of_eq h.2.2
    | .q i :: r, e, sl, sl', hp, hp', nx, nx', h => by
      unfold runR at h
      split at h
      · split at h
        · exact runR_le hcall r h
        · simp at h
      · simp at h
    | .p i :: r, e, sl, sl', hp, hp', nx, nx', h => by
      unfold runR at h
      split at h
      · split at h
        · exact runR_le hcall r h
        · split at h
          · exact runR_le hcall r h
          · simp at h
        · simp at h
      · simp at h
    | .n i :: r, e, sl, sl', hp, hp', nx, nx', h => by
      unfold runR at h
      split at h
      · rename_i o ho
        split at h
        · rename_i sl1 hp1 nx1 h1
          have h2 := runR_le hcall r h
          have h3 : opsE P call fl ops.toList [o] sl (hpE hp0 R e (late.contains i) hp) nx = some (sl1, hp1, nx1) := by
            unfold opsE
            rw [h1]
            rfl
          exact Nat.le_trans (ops_sound.opsE_le (P := P) hcall _ h3) h2
        · simp at h
      · simp at h
    | .f i :: r, e, sl, sl', hp, hp', nx, nx', h => by
      unfold runR at h
      split at h
      · rename_i o ho
        split at h
        · rename_i sl1 hp1 nx1 h1
          have h2 := runR_le hcall r h
          have h3 : opsE P call fl ops.toList [o] sl (hpE hp0 R e (late.contains i) hp) nx = some (sl1, hp1, nx1) := by
            unfold opsE
            rw [h1]
            rfl
          exact Nat.le_trans (ops_sound.opsE_le (P := P) hcall _ h3) h2
        · simp at h
      · simp at h
theorem code_ok (hN : Named P) (hmx : P.follows .mixedOrders = true) : ∀ f, CodeOk P (codeE P f) f
  | 0 => by
    intro fl lb c sl hp nx ex sl' hp' nx' h
    simp [codeE] at h
  | f + 1 => by
    rw [codeE_succ]
    exact body_ok hN hmx (code_ok hN hmx f)
/-- A function of no arguments. -/
noncomputable def runE (P : Program) (f : Nat) (g : FuncId) : Option AV := match funE P (codeE P f) 0 0 .e g [] with
  | some (v, _, _) => some v
  | none => none
/-- Is it true? -/
noncomputable def trueE (P : Program) (f : Nat) (g : FuncId) : Bool := match runE P f g with
  | some (.b true) => true
  | _ => false
theorem true_sound (hN : Named P) (hmx : P.follows .mixedOrders = true) {f : Nat} {g : FuncId} (h : trueE P f g = true) (w : World) :
    Calls P g #[] w fun e w' => e = .returned (.bool true) ∧ (∀ b, b < w.heap.size → w'.heap[b]? = w.heap[b]?) ∧ w'.os = w.os ∧ w'.output = w.output := by
  unfold trueE at h
  split at h
  · rename_i hr
    unfold runE at hr
    split at hr
    · rename_i v hp nx hf
      simp only [Option.some.injEq] at hr
      subst hr
      obtain ⟨_, _, hc⟩ := fun_ok hN (code_ok hN hmx f) _ _ _ _ _ _ _ _ hf
      refine (hc (Base.of w) (fun _ => .fresh) w [] ?_ rfl).mono ?_
      · refine ⟨?_, fun _ _ _ h => (by cases h), fun _ _ _ _ _ h => (by cases h), fun _ _ h => h, rfl, rfl, fun _ _ => rfl, fun _ _ _ h => (by cases h)⟩
        intro id b hb
        unfold gid at hb
        rw [Tr.get_e] at hb
        cases Nat.blt id lim <;> simp at hb
      · rintro e w' ⟨u, γ', rfl, _, hr, hv, _⟩
        have hv' : u = .bool true := hv
        subst hv'
        refine ⟨rfl, fun b hb => ?_, hr.os, hr.out⟩
        have hx : w.heap[b]? = some w.heap[b] := Array.getElem?_eq_getElem hb
        rw [hx]
        exact hr.old b _ hx
    · simp at hr
  · simp at h
end
end Go.Proofs.Ytclgglffbpfmhaa
