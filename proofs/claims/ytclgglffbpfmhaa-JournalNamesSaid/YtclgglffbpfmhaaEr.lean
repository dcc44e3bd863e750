/- Code and functions once more, cut so that the kernel copies little. -/
import Derived.Test.YtclgglffbpfmhaaEp
namespace Go.Proofs.Ytclgglffbpfmhaa
set_option linter.unusedSimpArgs false
set_option linter.unusedVariables false

/-- Behind its end. -/
noncomputable def thenF (r : RT) (k : Ss → Hs → Nat → RT) : RT :=
  Option.rec (motive := fun _ => RT) none (fun t => EX.rec (motive := fun _ => RT) (k t.2.1 t.2.2.1 t.2.2.2) (fun _ => r) (fun _ => r) r t.1) r
theorem thenF_eq (r : RT) (k : Ss → Hs → Nat → RT) : thenF r k = match r with
    | some (.nrm, sl, hp, nx) => k sl hp nx
    | r => r := by
  unfold thenF
  cases r with
  | none => rfl
  | some t => obtain ⟨ex, sl, hp, nx⟩ := t; cases ex <;> rfl
noncomputable def nrmF (r : R3) : RT := Option.rec (motive := fun _ => RT) none (fun t => some (.nrm, t)) r
theorem nrmF_eq (r : R3) : nrmF r = nrmE r := by
  cases r <;> rfl
noncomputable def slotsF (l : List AV) : Nat → Ss → Ss := List.rec (motive := fun _ => Nat → Ss → Ss) (fun _ sl => sl) (fun v _ ih i sl => ih (i + 1) (setA (key i) sl v)) l
theorem slotsF_eq : ∀ (l : List AV) (i : Nat) (sl : Ss), slotsF l i sl = slotsE i l sl
  | [], _, _ => rfl
  | v :: r, i, sl => by
    show slotsF r (i + 1) (setA (key i) sl v) = _
    rw [setA_eq, slotsF_eq r, slotsE]
noncomputable def lenF (l : List AV) : Nat → Nat := List.rec (motive := fun _ => Nat → Nat) (fun n => n) (fun _ _ ih n => ih (n + 1)) l
theorem lenF_eq : ∀ (l : List AV) (n : Nat), lenF l n = lenL l n
  | [], _ => rfl
  | _ :: r, n => lenF_eq r (n + 1)
noncomputable def resF' (l : List ResultVar) : Program → Ss → Hs → Option (List AV) := List.rec (motive := fun _ => Program → Ss → Hs → Option (List AV)) (fun _ _ _ => some [])
  (fun x _ ih P sl hp => Option.rec (motive := fun _ => Option (List AV)) none (fun l => ResultVar.rec (motive := fun _ => Option (List AV)) (fun t => some (slotF t sl :: l)) (fun a t => Option.rec (motive := fun _ => Option (List AV)) none (fun v => some (v :: l)) (loadE P sl hp t (.tmp a))) x) (ih P sl hp)) l
theorem resF'_eq : ∀ (l : List ResultVar) (P : Program) (sl : Ss) (hp : Hs), resF' l P sl hp = resE P sl hp l
  | [], _, _, _ => rfl
  | .tmp t :: r, P, sl, hp => by
    show Option.rec (motive := fun _ => Option (List AV)) none (fun l => some (slotF t sl :: l)) (resF' r P sl hp) = _
    rw [resF'_eq r, resE]
    cases resE P sl hp r with
    | none => rfl
    | some l => show some (slotF t sl :: l) = _; rw [slotF_eq]
  | .cell a t :: r, P, sl, hp => by
    show Option.rec (motive := fun _ => Option (List AV)) none (fun l => Option.rec (motive := fun _ => Option (List AV)) none (fun v => some (v :: l)) (loadE P sl hp t (.tmp a))) (resF' r P sl hp) = _
    rw [resF'_eq r, resE]
    cases resE P sl hp r with
    | none => cases loadE P sl hp t (.tmp a) <;> rfl
    | some l => cases loadE P sl hp t (.tmp a) <;> rfl
/-- What comes back. -/
noncomputable def endF (r : RT) (P : Program) (rs : List ResultVar) : Option (AV × Hs × Nat) :=
  Option.rec (motive := fun _ => Option (AV × Hs × Nat)) none (fun t => EX.rec (motive := fun _ => Option (AV × Hs × Nat) → Option (AV × Hs × Nat)) (fun x => x) (fun _ _ => none) (fun _ _ => none) (fun x => x) t.1
    (Option.rec (motive := fun _ => Option (AV × Hs × Nat)) none (fun vs => some (retE vs, t.2.2.1, t.2.2.2)) (resF' rs P t.2.1 t.2.2.1))) r
noncomputable def fitF (n : Nat) (c : Code) : Bool := codeFits n c && Nat.ble n 1000000
noncomputable def fnF (fn : Func) (P : Program) (ih : CT) (fl nx : Nat) (hp : Hs) (args : List AV) : Option (AV × Hs × Nat) :=
  Option.rec (motive := fun _ => Option (AV × Hs × Nat)) none (fun c => Bool.rec (motive := fun _ => Option (AV × Hs × Nat)) none (Bool.rec (motive := fun _ => Option (AV × Hs × Nat)) none (endF (ih fl none c (slotsF args 0 .e) hp nx) P fn.results.toList) (Nat.ble (lenF args 0) fn.ntmps)) (fitF fn.ntmps c)) fn.body
noncomputable def funF (P : Program) (ih : CT) : CallT := fun fl nx hp g args => Option.rec (motive := fun _ => Option (AV × Hs × Nat)) none (fun fn => fnF fn P ih fl nx hp args) P.funcs[g]?
theorem endF_eq (r : RT) (P : Program) (rs : List ResultVar) : endF r P rs = match r with
      | some (.nrm, sl', hp', nx') => (match resE P sl' hp' rs with
        | some vs => some (retE vs, hp', nx')
        | none => none)
      | some (.ret, sl', hp', nx') => (match resE P sl' hp' rs with
        | some vs => some (retE vs, hp', nx')
        | none => none)
      | _ => none := by
  unfold endF
  cases r with
  | none => rfl
  | some t =>
    obtain ⟨ex, sl, hp, nx⟩ := t
    cases ex
    case nrm =>
      show Option.rec (motive := fun _ => Option (AV × Hs × Nat)) none (fun vs => some (retE vs, hp, nx)) (resF' rs P sl hp) = _
      rw [resF'_eq]
      cases h : resE P sl hp rs <;> simp [h]
    case ret =>
      show Option.rec (motive := fun _ => Option (AV × Hs × Nat)) none (fun vs => some (retE vs, hp, nx)) (resF' rs P sl hp) = _
      rw [resF'_eq]
      cases h : resE P sl hp rs <;> simp [h]
    all_goals rfl
theorem funF_eq (P : Program) (ih : CT) : funF P ih = funE P ih := by
  funext fl nx hp g args
  unfold funF funE
  cases P.funcs[g]? with
  | none => rfl
  | some fn =>
    show fnF fn P ih fl nx hp args = _
    unfold fnF
    cases hb : fn.body with
    | none => simp only [hb]
    | some c =>
      simp only [hb]
      unfold fitF
      rw [lenF_eq]
      cases h1 : codeFits fn.ntmps c <;> cases h2 : Nat.ble fn.ntmps 1000000 <;> cases h3 : Nat.ble (lenL args 0) fn.ntmps <;> first | rfl | skip
      show endF _ _ _ = _
      rw [endF_eq, slotsF_eq]
      rfl
/-- Code that is begun at its head. -/
noncomputable def codF (c : Code) : Program → CT → Nat → Ss → Hs → Nat → RT :=
  Code.rec (motive := fun _ => Program → CT → Nat → Ss → Hs → Nat → RT)
    (fun _ _ _ sl hp nx => some (.nrm, sl, hp, nx))
    (fun _ ops draw P ih fl sl hp nx => nrmF (Bool.rec (motive := fun _ => R3) (opsF ops.toList P (funF P ih) fl ops.toList sl hp nx) (drawE P (funF P ih) fl ops sl hp nx) draw))
    (fun x y _ _ _ ih fl sl hp nx => thenF (ih fl none x sl hp nx) fun sl' hp' nx' => ih fl none y sl' hp' nx')
    (fun c x y _ _ P ih fl sl hp nx => condF (evF c sl) (ih fl none x sl hp nx) (ih fl none y sl hp nx))
    (fun id x _ _ ih fl sl hp nx => blkF id (ih fl none x sl hp nx))
    (fun x _ _ ih fl sl hp nx => thenF (ih fl none x sl hp nx) fun sl' hp' nx' => ih fl none (.loop x) sl' hp' nx')
    (fun _ _ _ _ _ _ _ _ _ _ _ _ => none)
    (fun id _ _ _ sl hp nx => some (.exit id, sl, hp, nx))
    (fun x _ P ih fl sl hp nx => bodyE P ih fl none (.scope x) sl hp nx)
    (fun _ _ _ _ sl hp nx => some (.nrm, sl, hp, nx))
    (fun l _ _ _ sl hp nx => some (.goto l, sl, hp, nx))
    (fun _ _ _ sl hp nx => some (.ret, sl, hp, nx))
    (fun _ _ _ _ _ _ _ => none) c
where
  condF (x : AV) (a b : RT) : RT := match x with
    | .b true => a
    | .b false => b
    | _ => none
  blkF (id : Nat) (r : RT) : RT := match r with
    | some (.exit i, sl', hp', nx') => bif Nat.beq i id then some (.nrm, sl', hp', nx') else some (.exit i, sl', hp', nx')
    | r => r
noncomputable def bdyF (P : Program) (ih : CT) : CT := fun fl lb c sl hp nx => Option.rec (motive := fun _ => RT) (codF c P ih fl sl hp nx) (fun l => bodyE P ih fl (some l) c sl hp nx) lb
theorem bdyF_eq (P : Program) (ih : CT) : bdyF P ih = bodyE P ih := by
  funext fl lb c sl hp nx
  unfold bdyF
  cases lb with
  | some l => rfl
  | none =>
    show codF c P ih fl sl hp nx = _
    cases c
    case region id ops draw =>
      show nrmF (Bool.rec (motive := fun _ => R3) (opsF ops.toList P (funF P ih) fl ops.toList sl hp nx) (drawE P (funF P ih) fl ops sl hp nx) draw) = _
      rw [nrmF_eq, opsF_eq, funF_eq]
      unfold bodyE
      cases draw <;> rfl
    case seq x y => exact thenF_eq _ _
    case cond c x y =>
      show codF.condF (evF c sl) _ _ = _
      rw [evF_eq]; rfl
    case loop x => exact thenF_eq _ _
    all_goals rfl
noncomputable def codeF (P : Program) (f : Nat) : CT := Nat.rec (motive := fun _ => CT) (fun _ _ _ _ _ _ => none) (fun _ ih => bdyF P ih) f
theorem codeF_eq (P : Program) : ∀ f : Nat, codeF P f = codeE P f
  | 0 => rfl
  | f + 1 => by
    show bdyF P (codeF P f) = bodyE P (codeE P f)
    rw [bdyF_eq, codeF_eq P f]
/-- Is it true? -/
noncomputable def trueF (P : Program) (f : Nat) (g : FuncId) : Bool := match funF P (codeF P f) 0 0 .e g [] with
  | some (.b true, _, _) => true
  | _ => false
theorem trueF_eq {P : Program} {f : Nat} {g : FuncId} (h : trueF P f g = true) : trueE P f g = true := by
  unfold trueF at h
  rw [funF_eq, codeF_eq] at h
  unfold trueE runE
  split at h
  · rename_i h1
    rw [h1]
  · simp at h
end Go.Proofs.Ytclgglffbpfmhaa
