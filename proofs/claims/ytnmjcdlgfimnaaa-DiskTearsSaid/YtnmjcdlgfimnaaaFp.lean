/- The reckoning of a symbolic state, as one set of rules. -/
import Derived.Test.YtnmjcdlgfimnaaaFt
namespace Go.Proofs.Ytnmjcdlgfimnaaa

section
variable {E : Env} {s : SymSt} {K : KC}
theorem vc_region {id : Nat} {ops : Array Oper} : vcCode E (.region id ops false) s K = vcOps E ops.toList ops.toList s fun s' => ∃ (ι : Type 1) (S : ι → SymSt), GLeI S s' ∧ ∀ i, K .normal (S i) := by simp [vcCode]
theorem vc_seq {x y : Code} : vcCode E (.seq x y) s K = vcCode E x s fun e s' => match e with
    | .normal => vcCode E y s' K
    | e => K e s' := rfl
theorem vc_cond {c : Operand} {x y : Code} : vcCode E (.cond c x y) s K = match ev s c with
    | .l (.bool b) => (b = true → vcCode E x s K) ∧ (b = false → vcCode E y s K)
    | _ => False := rfl
theorem vc_block {id : Nat} {x : Code} : vcCode E (.block id x) s K = vcCode E x s fun e s' => match e with
    | .exit i => bif i == id then K .normal s' else K (.exit i) s'
    | e => K e s' := rfl
theorem vc_exit {id : Nat} : vcCode E (.exit id) s K = K (.exit id) s := rfl
theorem vc_label {id : Nat} : vcCode E (.label id) s K = K .normal s := rfl
theorem vc_ret : vcCode E .ret s K = K .ret s := rfl

/-- The reckoning stands still here: what comes behind is not looked at. -/
inductive Tag (E : Env) (c : Code) (K : KC) : Type
  | a
  | b
def held (E : Env) (c : Code) (K : KC) (_ : Tag E c K) (s : SymSt) : Prop := vcCode E c s K
theorem hold_loop {x : Code} : vcCode E (.loop x) s K = held E (.loop x) K .a s := rfl
theorem hold_draw {id : Nat} {ops : Array Oper} : vcCode E (.region id ops true) s K = held E (.region id ops true) K .a s := rfl
/-- A region that draws its order, by a schedule. -/
theorem vc_draw {id : Nat} {ops : Array Oper} (A late Q : List Nat) (sch : Sch) (hm : E.P.follows .mixedOrders = true) (hok : okSch ops A late sch = true) (h : vcDraw E ops A late Q sch s fun s' => ∃ (ι : Type 1) (S : ι → SymSt), GLeI S s' ∧ ∀ i, K .normal (S i)) : held E (.region id ops true) K .a s :=
  ⟨fun h => by simp at h, fun _ => ⟨A, late, Q, sch, hm, hok, h⟩⟩
/-- A loop: a state for each number of a round, and a measure that falls. -/
theorem vc_loop {x : Code} {ι : Type} (ok : ι → Prop) (St : ι → SymSt) (μ : ι → Nat) (i0 : ι) (h0 : ok i0) (hle : GLe (St i0) s)
    (h : ∀ i, ok i → vcCode E x (St i) fun e s' => match e with
      | .normal => ∃ j, ok j ∧ μ j < μ i ∧ GLe (St j) s'
      | e => K e s') : held E (.loop x) K .a s := ⟨ι, ok, St, μ, ⟨i0, h0, hle⟩, fun i hi _ _ => h i hi⟩/-! One operation at a time: what comes behind is a letter, and states stay laid open. -/
theorem ops_put {ops r : List Oper} {K : SymSt → Prop} {o : Oper} {d : Nat} (hg : o.guard = none) (hd : o.dst = some d)
    (h : ∀ K' : KT, (∀ tv sl mem pins, vcOps E ops r ⟨(d, tv) :: sl, mem, pins⟩ K → K' tv ⟨sl, mem, pins⟩) → vcVal E o s K') : vcOps E ops (o :: r) s K := by
  unfold vcOps
  rw [hg]
  refine h _ fun tv sl mem pins h => ?_
  rw [hd]; exact h
theorem ops_no {ops r : List Oper} {K : SymSt → Prop} {o : Oper} (hg : o.guard = none) (hd : o.dst = none)
    (h : ∀ K' : KT, (∀ tv s', vcOps E ops r s' K → K' tv s') → vcVal E o s K') : vcOps E ops (o :: r) s K := by
  unfold vcOps
  rw [hg]
  refine h _ fun tv s' h => ?_
  rw [hd]; exact h
theorem ops_nil {ops : List Oper} {K : SymSt → Prop} (h : K s) : vcOps E ops [] s K := h
theorem A_put {ops : List Oper} {Q r : List Nat} {i d : Nat} {o : Oper} {K : SymSt → Prop} {sl : List (Nat × TV)} {mem : List (Nat × Box)} {pins : List Nat} (hi : ops[i]? = some o) (hg : o.guard = none) (hd : o.dst = some d)
    (h : ∀ K' : KT, (∀ tv s', vcA E ops Q r ⟨(d, tv) :: sl, mem, pins⟩ K → K' tv s') → vqVal E.toCtx o ⟨sl, keepM Q mem, pins⟩ K') : vcA E ops Q (i :: r) ⟨sl, mem, pins⟩ K := by
  unfold vcA vGuard
  rw [hi]
  simp only [hg]
  refine h _ fun tv s' h => ?_
  rw [hd]; exact h
theorem A_nil {ops : List Oper} {Q : List Nat} {K : SymSt → Prop} (h : K s) : vcA E ops Q [] s K := h
theorem seq_step {x y : Code} (h : ∀ K' : KC, (∀ s', vcCode E y s' K → K' .normal s') → (∀ e s', e ≠ .normal → K e s' → K' e s') → vcCode E x s K') : vcCode E (.seq x y) s K := by
  unfold vcCode
  refine h _ (fun _ h => h) fun e s' he hk => ?_
  cases e <;> first | exact hk | exact absurd rfl he
end
/-- The condition is reckoned ahead of the two ways. -/
theorem cond_match {α : Sort _} {c : Bool} {a b : α} : (bif c then a else b) = match c with
    | true => a
    | false => b := by cases c <;> rfl
theorem ct_with {E : Env} {n f : FuncId} {c : List SV → Nat → SymSt → KT → Prop} {h : ∀ args d s K, c args d s K → Wc E.P n args s K} {args : List SV} {d : Nat} {s : SymSt} {K : KT} :
    (E.with n c h).ct f args d s K = if f = n then c args d s K else E.ct f args d s K := rfl
theorem ty_with {E : Env} {n : FuncId} {c : List SV → Nat → SymSt → KT → Prop} {h : ∀ args d s K, c args d s K → Wc E.P n args s K} : (E.with n c h).toCtx = E.toCtx := rfl
theorem ty_env {C : Ctx} : C.env.toCtx = C := rfl
theorem ct_env {C : Ctx} {f : FuncId} {args : List SV} {d : Nat} {s : SymSt} {K : KT} : C.env.ct f args d s K = Wc C.P f args s K := rfl
end Go.Proofs.Ytnmjcdlgfimnaaa
