/- The reckoning of a symbolic state, as one set of rules. -/
import Derived.Test.YtnmjcdlgfimnaaaFt
import Derived.Test.YtnmjcdlgfimnaaaA4
import Derived.Laws.BitsLemmas
import Derived.IntWalk
namespace Go.Proofs.Ytnmjcdlgfimnaaa
section
variable {E : Env} {s : SymSt} {K : KC}
theorem vc_region {id : Nat} {ops : Array Oper} : vcCode E (.region id ops false) s K = vcOps E ops.toList ops.toList s fun s' => ∃ (ι : Type 1) (S : ι → SymSt), GLeI S s' ∧ ∀ i, K .normal (S i) := by simp [vcCode]
theorem vc_cond {c : Operand} {x y : Code} : vcCode E (.cond c x y) s K = match ev s c with
    | .l (.bool b) => (b = true → vcCode E x s K) ∧ (b = false → vcCode E y s K)
    | _ => False := rfl
inductive Tag (E : Env) (c : Code) (K : KC) : Type
  | a
  | b
def held (E : Env) (c : Code) (K : KC) (_ : Tag E c K) (s : SymSt) : Prop := vcCode E c s K
theorem ops_put {ops r : List Oper} {K : SymSt → Prop} {o : Oper} {d : Nat} (hg : o.guard = none) (hd : o.dst = some d)
    (h : ∀ K' : KT, (∀ tv sl mem pins, vcOps E ops r ⟨(d, tv) :: sl, mem, pins⟩ K → K' tv ⟨sl, mem, pins⟩) → vcVal E o s K') : vcOps E ops (o :: r) s K := by
  unfold vcOps
  rw [hg]
  refine h _ fun tv sl mem pins h => ?_
  rw [hd]; exact h
theorem ops_no {ops r : List Oper} {K : SymSt → Prop} {o : Oper} (hg : o.guard = none) (hd : o.dst = none)
    (h : ∀ K' : KT, (∀ tv s', vcOps E ops r s' K → K' tv s') → vcVal E o s K') : vcOps E ops (o :: r) s K := by
  unfold vcOps
  rw [hg]
  refine h _ fun tv s' h => ?_
  rw [hd]; exact h
theorem ops_nil {ops : List Oper} {K : SymSt → Prop} (h : K s) : vcOps E ops [] s K := h
theorem A_put {ops : List Oper} {Q r : List Nat} {i d : Nat} {o : Oper} {K : SymSt → Prop} {sl : List (Nat × TV)} {mem : List (Nat × Box)} {pins : List Nat} (hi : ops[i]? = some o) (hg : o.guard = none) (hd : o.dst = some d)
    (h : ∀ K' : KT, (∀ tv s', vcA E ops Q r ⟨(d, tv) :: sl, mem, pins⟩ K → K' tv s') → vqVal E.toCtx o ⟨sl, keepM Q mem, pins⟩ K') : vcA E ops Q (i :: r) ⟨sl, mem, pins⟩ K := by
  unfold vcA vGuard
  rw [hi]
  simp only [hg]
  refine h _ fun tv s' h => ?_
  rw [hd]; exact h
end
theorem ct_with {E : Env} {n f : FuncId} {c : List SV → Nat → SymSt → KT → Prop} {h : ∀ args d s K, c args d s K → Wc E.P n args s K} {args : List SV} {d : Nat} {s : SymSt} {K : KT} :
    (E.with n c h).ct f args d s K = if f = n then c args d s K else E.ct f args d s K := rfl
theorem ty_with {E : Env} {n : FuncId} {c : List SV → Nat → SymSt → KT → Prop} {h : ∀ args d s K, c args d s K → Wc E.P n args s K} : (E.with n c h).toCtx = E.toCtx := rfl
theorem ty_env {C : Ctx} : C.env.toCtx = C := rfl
theorem ct_env {C : Ctx} {f : FuncId} {args : List SV} {d : Nat} {s : SymSt} {K : KT} : C.env.ct f args d s K = Wc C.P f args s K := rfl
end Go.Proofs.Ytnmjcdlgfimnaaa
namespace Go.Proofs.Ytnmjcdlgfimnaaa
section
variable {E : Env} {s : SymSt} {K : KC}
def seqK (E : Env) (y : Code) (K : KC) : KC := fun e s => match e with
  | .normal => vcCode E y s K
  | e => K e s
def blockK (id : Nat) (K : KC) : KC := fun e s => match e with
  | .exit i => bif i == id then K .normal s else K (.exit i) s
  | e => K e s
def regK (K : KC) : SymSt → Prop := fun s => ∃ (ι : Type 1) (S : ι → SymSt), GLeI S s ∧ ∀ i, K .normal (S i)
def regKS (K : KC) : SymSt → Prop := regK K
def loopK {ι : Type} (ok : ι → Prop) (St : ι → SymSt) (μ : ι → Nat) (i : ι) (K : KC) : KC := fun e s => match e with
  | .normal => ∃ j, ok j ∧ μ j < μ i ∧ GLe (St j) s
  | e => K e s
def finK (C : Ctx) (res : List ResultVar) (Z : List SV → SymSt → Prop) : KC := fun e s => match e with
  | .normal => vRes C s res fun vs => Z vs s
  | .ret => vRes C s res fun vs => Z vs s
  | _ => False
theorem go_skip (h : regK K s) : vcCode E .skip s K := h
theorem go_seq {x y : Code} (h : vcCode E x s (seqK E y K)) : vcCode E (.seq x y) s K := h
theorem go_block {id : Nat} {x : Code} (h : vcCode E x s (blockK id K)) : vcCode E (.block id x) s K := h
theorem go_exit {id : Nat} (h : K (.exit id) s) : vcCode E (.exit id) s K := h
theorem go_label {id : Nat} (h : K .normal s) : vcCode E (.label id) s K := h
theorem go_ret (h : K .ret s) : vcCode E .ret s K := h
theorem go_goto {l : Nat} (h : K (.goto l) s) : vcCode E (.goto l) s K := h
def jumpK {ι : Type} (ok : ι → Prop) (St : ι → SymSt) (l : Nat) (K : KC) : KC := fun e s => match e with
  | .goto l' => l' = l ∧ ∃ i, ok i ∧ GLe (St i) s
  | e => K e s
def passK {ι : Type} (ok : ι → Prop) (St : ι → SymSt) (μ : ι → Nat) (l : Nat) (i : ι) (K : KC) : KC := fun e s => match e with
  | .goto l' => l' = l ∧ ∃ j, ok j ∧ μ j < μ i ∧ GLe (St j) s
  | e => K e s
def straightK (K : KC) : KC := fun e s => match e with
  | .goto _ => False
  | e => K e s
theorem go_straight {x : Code} (h : vcCode E x s (straightK K)) : vcCode E (.scope x) s K := .inl h
theorem straightK_n (h : K .normal s) : straightK K .normal s := h
theorem straightK_x {i : Nat} (h : K (.exit i) s) : straightK K (.exit i) s := h
theorem straightK_r (h : K .ret s) : straightK K .ret s := h
theorem go_region {id : Nat} {l : List Oper} (h : vcOps E l l s (regK K)) : vcCode E (.region id l.toArray false) s K := by
  rw [vc_region]; exact h
theorem go_region_stop {id : Nat} {l : List Oper} (h : vcOps E l l s (regKS K)) : vcCode E (.region id l.toArray false) s K := by
  rw [vc_region]; exact h
theorem go_cond {c : Operand} {x y : Code} {b : Bool} (hc : ev s c = .l (.bool b)) (h1 : b = true → vcCode E x s K) (h2 : b = false → vcCode E y s K) : vcCode E (.cond c x y) s K := by
  rw [vc_cond, hc]; exact ⟨h1, h2⟩
theorem go_draw {id : Nat} {l : List Oper} (A late Q : List Nat) (sch : Sch) (hm : E.P.follows .mixedOrders = true) (hok : okSch l.toArray A late sch = true)
    (h : vcA E l Q A s fun s' => vcSch E l late Q sch false s' (regK K)) : vcCode E (.region id l.toArray true) s K := by
  refine ⟨fun h => by simp at h, fun _ => ⟨A, late, Q, sch, hm, hok, ?_⟩⟩
  exact h
theorem vc_congr {c : Code} {K' : KC} (e : ∀ e s, K e s = K' e s) (h : vcCode E c s K) : vcCode E c s K' := by
  have : K = K' := funext fun a => funext fun b => e a b
  exact this ▸ h
theorem seqK_n {y : Code} (h : vcCode E y s K) : seqK E y K .normal s := h
theorem seqK_x {y : Code} {i : Nat} (h : K (.exit i) s) : seqK E y K (.exit i) s := h
theorem seqK_r {y : Code} (h : K .ret s) : seqK E y K .ret s := h
theorem seqK_j {y : Code} {l : Nat} (h : K (.goto l) s) : seqK E y K (.goto l) s := h
theorem blockK_j {id l : Nat} (h : K (.goto l) s) : blockK id K (.goto l) s := h
theorem loopK_j {ι : Type} {ok : ι → Prop} {St : ι → SymSt} {μ : ι → Nat} {i : ι} {l : Nat} (h : K (.goto l) s) : loopK ok St μ i K (.goto l) s := h
section
variable {ι : Type} {ok : ι → Prop} {St : ι → SymSt} {μ : ι → Nat} {i : ι} {l : Nat}
theorem jumpK_n (h : K .normal s) : jumpK ok St l K .normal s := h
theorem jumpK_x {e : Nat} (h : K (.exit e) s) : jumpK ok St l K (.exit e) s := h
theorem jumpK_r (h : K .ret s) : jumpK ok St l K .ret s := h
theorem passK_n (h : K .normal s) : passK ok St μ l i K .normal s := h
theorem passK_x {e : Nat} (h : K (.exit e) s) : passK ok St μ l i K (.exit e) s := h
theorem passK_r (h : K .ret s) : passK ok St μ l i K .ret s := h
end
attribute [irreducible] jumpK passK straightK
theorem blockK_n {id : Nat} (h : K .normal s) : blockK id K .normal s := h
theorem blockK_r {id : Nat} (h : K .ret s) : blockK id K .ret s := h
theorem blockK_hit {id : Nat} (h : K .normal s) : blockK id K (.exit id) s := by unfold blockK; simpa using h
theorem blockK_miss {id i : Nat} (hi : Nat.beq i id = false) (h : K (.exit i) s) : blockK id K (.exit i) s := by
  unfold blockK
  have : (i == id) = false := by
    have h1 : ¬ i = id := by
      intro e; subst e; simp at hi
    simpa using h1
  simp only [this, cond_false]; exact h
theorem regK_open {j m id : Nat} {V : Int → Value} {k : Int} {sl sl1 : List (Nat × TV)} {mem mem1 : List (Nat × Box)} {pins : List Nat} {α : Type} {A : Rep α} {M : Int → List α} (hid : j + 6000 = id) (hg : getM mem m = some (.mpr A M V none)) (hr : (pins.contains id) = false) (hne : m ≠ id)
    (h1 : killSl id sl = sl1) (h2 : (id, Box.arr A (M k)) :: setM (killMem id mem) m (.mpr A M V (some (k, some id))) = mem1)
    (h : K .normal ⟨(j, .one (.l (.view id [] 0 A.size 0 (M k).length))) :: (j, .one (.l (.mrow m V k))) :: sl1, mem1, pins⟩) : regK K ⟨(j, .one (.l (.mrow m V k))) :: sl, mem, pins⟩ := by
  subst h1 h2 hid
  refine ⟨_, _, GLe.one ?_, fun _ => h⟩
  refine ⟨rfl, fun R G γ a w hs => ⟨G, updG γ (j + 6000) (V k), Hp.le_refl G, ?_⟩⟩
  have hs1 := hs.openRow (k := k) (id := j + 6000) hg hr hne
  obtain ⟨fr, hmf⟩ := hs.mem
  obtain ⟨⟨r, es, clock, F, hvm, hmap, hFr, hf, hdis, hrow, _⟩, _, _⟩ := hmf.mpr hg
  have hx := hs.sl j
  have e0 : getS ((j, TV.one (.l (.mrow m V k))) :: sl) j = .one (.l (.mrow m V k)) := by simp [getS]
  rw [e0] at hx
  have hx1 : a.tmps.getD j undef = V k := by have := hx; simp only [TV.rel, SV.rel, LV.relV, LV.rel, List.cons.injEq, and_true] at this; exact this.1
  exact hs1.know (d := j) (tv := .one (.l (.view (j + 6000) [] 0 A.size 0 (M k).length))) (by
    show (LV.view _ _ _ _ _ _).rel G _ [a.tmps.getD j undef]
    rw [hx1]
    rcases hrow k (by simp) with ⟨b, t, es, sp, c, e, _, _, hle, hmx, _⟩ | ⟨e0, ⟨ad, e⟩, _⟩
    · refine ⟨some ⟨b, 0, none⟩, c, hle, hmx, by rw [e], fun _ => ?_, by simp⟩
      rw [updG_same, e]
      simp [blk, poff]
    · refine ⟨ad, 0, by simp [e0], Nat.zero_le _, by rw [e, e0]; rfl, fun h => absurd (by simp [e0]) h, fun _ => rfl⟩)
theorem regK_go (h : K .normal s) : regK K s := ⟨_, _, (GLe.refl s).one, fun _ => h⟩
theorem regK_g (s2 : SymSt) (hg : GLe s2 s) (h : K .normal s2) : regK K s := ⟨_, _, hg.one, fun _ => h⟩
theorem regKS_go (h : K .normal s) : regKS K s := regK_go h
theorem regKS_open (h : regK K s) : regKS K s := h
section
variable {ι : Type} {ok : ι → Prop} {St : ι → SymSt} {μ : ι → Nat} {i : ι}
theorem loopK_x {e : Nat} (h : K (.exit e) s) : loopK ok St μ i K (.exit e) s := h
theorem loopK_r (h : K .ret s) : loopK ok St μ i K .ret s := h
end
section
variable {C : Ctx} {res : List ResultVar} {Z : List SV → SymSt → Prop}
theorem vres_go {f : List SV → Prop} (h : vRes C s res f) : vRes C s res f := h
theorem finK_n (h : vRes C s res fun vs => Z vs s) : finK C res Z .normal s := h
theorem finK_r (h : vRes C s res fun vs => Z vs s) : finK C res Z .ret s := h
end
theorem ops_in {ops r : List Oper} {Q : SymSt → Prop} {d : Nat} {k : IntKind} {n : Int} {sl : List (Nat × TV)} {mem : List (Nat × Box)} {pins : List Nat} (h : k.wrap n = n)
    (hv : vcOps E ops r ⟨(d, .one (.l (.int k n))) :: sl, mem, pins⟩ Q) : vcOps E ops r ⟨(d, .one (.l (.int k (k.wrap n)))) :: sl, mem, pins⟩ Q := by rw [h]; exact hv
theorem w_i64 (n : Int) (h0 : -9223372036854775808 ≤ n) (h1 : n ≤ 9223372036854775807) : IntKind.i64.wrap n = n := IntWalk.i64_in n ⟨h0, h1⟩
theorem w_u8 (n : Int) (h0 : 0 ≤ n) (h1 : n ≤ 255) : IntKind.u8.wrap n = n := IntWalk.u8_in n ⟨h0, h1⟩
theorem w_u32 (n : Int) (h0 : 0 ≤ n) (h1 : n ≤ 4294967295) : IntKind.u32.wrap n = n := IntWalk.u32_in n ⟨h0, h1⟩
theorem w_u64 (n : Int) (h0 : 0 ≤ n) (h1 : n ≤ 18446744073709551615) : IntKind.u64.wrap n = n := IntWalk.u64_in n ⟨h0, h1⟩
section
variable {ops : List Oper} {late Q r : List Nat} {i d : Nat} {o : Oper} {x y : Sch} {e : Bool} {sl : List (Nat × TV)} {mem : List (Nat × Box)} {pins : List Nat} {Z : SymSt → Prop}
theorem goA_put (hi : ops[i]? = some o) (hg : o.guard = none) (hd : o.dst = some d)
    (h : ∀ K' : KT, (∀ tv s', vcA E ops Q r ⟨(d, tv) :: sl, mem, pins⟩ Z → K' tv s') → vqVal E.toCtx o ⟨sl, keepM Q mem, pins⟩ K') : vcA E ops Q (i :: r) ⟨sl, mem, pins⟩ Z :=
  A_put hi hg hd h
theorem goA_gb {j d' : Nat} {want b : Bool} (hi : ops[i]? = some o) (hg : o.guard = some (j, want)) (hj : (ops[j]?).bind (·.dst) = some d') (hd : o.dst = some d) (hs : getS sl d' = .one (.l (.bool b)))
    (h1 : b = want → ∀ K' : KT, (∀ tv s', vcA E ops Q r ⟨(d, tv) :: (d', .one (.l (.bool want))) :: sl, mem, pins⟩ Z → K' tv s') → vqVal E.toCtx o ⟨(d', .one (.l (.bool want))) :: sl, keepM Q mem, pins⟩ K')
    (h2 : b = !want → vcA E ops Q r ⟨(d, .tup []) :: (d', .one (.l (.bool (!want)))) :: sl, mem, pins⟩ Z) : vcA E ops Q (i :: r) ⟨sl, mem, pins⟩ Z := by
  unfold vcA vGuard
  rw [hi]
  simp only [hg, hj, hs]
  refine ⟨fun e => h1 e _ fun tv s' h => ?_, fun e => ?_⟩
  · rw [hd]; exact h
  · rw [hd]; exact h2 e
theorem goA_gt {j d' : Nat} {want : Bool} (hi : ops[i]? = some o) (hg : o.guard = some (j, want)) (hj : (ops[j]?).bind (·.dst) = some d') (hd : o.dst = some d) (hs : getS sl d' = .tup [])
    (h : vcA E ops Q r ⟨(d, .tup []) :: sl, mem, pins⟩ Z) : vcA E ops Q (i :: r) ⟨sl, mem, pins⟩ Z := by
  unfold vcA vGuard
  rw [hi]
  simp only [hg, hj, hs]
  rw [hd]; exact h
theorem goA_nil (h : Z s) : vcA E ops Q [] s Z := h
theorem goS_done (h : Z s) : vcSch E ops late Q .done e s Z := h
theorem goS_stop : vcSch E ops late Q .stop e s Z := trivial
theorem goS_free (hi : ops[i]? = some o) (hg : o.guard = none) (hd : o.dst = some d)
    (h : ∀ K' : KT, (∀ tv s', vcSch E ops late Q x e ⟨(d, tv) :: sl, mem, pins⟩ Z → K' tv s') → vqVal E.toCtx o ⟨sl, mem, pins⟩ K') : vcSch E ops late Q (.free i x) e ⟨sl, mem, pins⟩ Z := by
  unfold vcSch vGuard
  rw [hi]
  simp only [hg]
  refine h _ fun tv s' h => ?_
  rw [hd]; exact h
theorem goS_late (hi : ops[i]? = some o) (hg : o.guard = none) (hd : o.dst = some d) (he : (e || late.contains i) = true) (h2 : vcSch E ops late Q y e s Z)
    (h : ∀ K' : KT, (∀ tv sl mem pins, vcSch E ops late Q x true ⟨(d, tv) :: sl, mem, pins⟩ Z → K' tv ⟨sl, mem, pins⟩) → vcVal E o s K') : vcSch E ops late Q (.or i x y) e s Z := by
  unfold vcSch vGuard
  rw [hi]
  simp only [hg, he, cond_true]
  refine ⟨h _ fun tv sl mem pins h => ?_, h2⟩
  rw [hd]; exact h
theorem goS_late' (hi : ops[i]? = some o) (hg : o.guard = none) (hd : o.dst = none) (he : (e || late.contains i) = true) (h2 : vcSch E ops late Q y e s Z)
    (h : ∀ K' : KT, (∀ tv s', vcSch E ops late Q x true s' Z → K' tv s') → vcVal E o s K') : vcSch E ops late Q (.or i x y) e s Z := by
  unfold vcSch vGuard
  rw [hi]
  simp only [hg, he, cond_true]
  refine ⟨h _ fun tv s' h => ?_, h2⟩
  rw [hd]; exact h
theorem goS_hid (hi : ops[i]? = some o) (hg : o.guard = none) (hd : o.dst = some d) (he : (e || late.contains i) = false) (h2 : vcSch E ops late Q y e ⟨sl, mem, pins⟩ Z)
    (h : ∀ K' : KT, (∀ tv sl' mem' pins' m2, backOk Q mem' = true → mem' ++ keepM Q mem = m2 → vcSch E ops late Q x false ⟨(d, tv) :: sl', m2, pins⟩ Z → K' tv ⟨sl', mem', pins'⟩) → vcVal E o (SymSt.hide ⟨sl, mem, pins⟩ Q) K') : vcSch E ops late Q (.or i x y) e ⟨sl, mem, pins⟩ Z := by
  unfold vcSch vGuard
  rw [hi]
  simp only [hg, he, cond_false]
  refine ⟨h _ fun tv sl' mem' pins' m2 hb hm h => ?_, h2⟩
  subst hm
  rw [hd]; exact ⟨hb, h⟩
end
theorem ops_gb {ops r : List Oper} {o : Oper} {j d d' : Nat} {want b : Bool} {sl : List (Nat × TV)} {mem : List (Nat × Box)} {pins : List Nat} {Z : SymSt → Prop} (hg : o.guard = some (j, want)) (hj : (ops[j]?).bind (·.dst) = some d') (hd : o.dst = some d) (hs : getS sl d' = .one (.l (.bool b)))
    (h1 : b = want → ∀ K' : KT, (∀ tv sl mem pins, vcOps E ops r ⟨(d, tv) :: sl, mem, pins⟩ Z → K' tv ⟨sl, mem, pins⟩) → vcVal E o ⟨(d', .one (.l (.bool want))) :: sl, mem, pins⟩ K')
    (h2 : b = !want → vcOps E ops r ⟨(d, .tup []) :: (d', .one (.l (.bool (!want)))) :: sl, mem, pins⟩ Z) : vcOps E ops (o :: r) ⟨sl, mem, pins⟩ Z := by
  unfold vcOps
  simp only [hg, hj, hs]
  refine ⟨fun e => h1 e _ fun tv sl mem pins h => ?_, fun e => ?_⟩
  · rw [hd]; exact h
  · rw [hd]; exact h2 e
theorem ops_gt {ops r : List Oper} {o : Oper} {j d d' : Nat} {want : Bool} {sl : List (Nat × TV)} {mem : List (Nat × Box)} {pins : List Nat} {Z : SymSt → Prop} (hg : o.guard = some (j, want)) (hj : (ops[j]?).bind (·.dst) = some d') (hd : o.dst = some d) (hs : getS sl d' = .tup [])
    (h : vcOps E ops r ⟨(d, .tup []) :: sl, mem, pins⟩ Z) : vcOps E ops (o :: r) ⟨sl, mem, pins⟩ Z := by
  unfold vcOps
  simp only [hg, hj, hs]
  rw [hd]; exact h
end
theorem Pure.go {E : Env} {f : FuncId} {fn : Func} {args rets : List LV} {body : Code} {res : List ResultVar} (hf : E.P.funcs[f]? = some fn) (hi : IsFn E.P f) (hb : fn.body = some body) (hres : fn.results.toList = res) (hr : noIds rets = true)
    (hfit : codeFits fn.ntmps body = true) (hlen : Nat.ble args.length fn.ntmps = true)
    (h : vcCode E body ⟨parSl 0 (args.map .l), [], []⟩ (finK E.toCtx res fun vs s => RetsOk ((tvOf vs).list.map (SV.frz s.mem)) rets)) : Pure E.P f args rets := by
  refine Pure.of' hf hi hb hres hr hfit hlen ?_
  exact vc_congr (fun e s => by cases e <;> rfl) h
theorem Spec.go {ι : Type 1} {E : Env} {f : FuncId} {fn : Func} {args : List SV} {mem mem' : List (Nat × Box)} {rets : List LV} {body : Code} {res : List ResultVar} (mx : ι → List (Nat × Box)) (hop : Opens mem mx) (hf : E.P.funcs[f]? = some fn) (hi : IsFn E.P f) (hb : fn.body = some body) (hres : fn.results.toList = res)
    (hargs : ∀ i ∈ idsV args, i < 5000) (hlow : ∀ i ∈ idsM mem, i < 5000) (hfit : codeFits fn.ntmps body = true) (hlen : Nat.ble args.length fn.ntmps = true)
    (h : ∀ i, vcCode E body ⟨parSl 0 args, mx i, idsM mem⟩ (finK E.toCtx res fun vs s => Fin rets mem' (tvOf vs) s)) : Spec E.P f args mem (tvL rets) mem' := by
  refine Spec.of' mx hop hargs hlow hf hi hb hres hfit hlen fun i => ?_
  exact vc_congr (fun e s => by cases e <;> rfl) (h i)
attribute [push_cast] con1 rmsM isZeroC isNoneO vLookup vLen2 vSlice2 vAppend2 vCopy vMarkB vMakeMap vMapUpdate SymSt.openR vcDraw vcA vcSch vGuard vcVal vqVal vPick vAlloc vBox vLoad vStore vNilCheck vFieldAddr vField vExtract intBin vBin2 vBin3 eqKt vUn vIndexAddr vConvert vConvert2 vCall vRes vMM vMinMax vLen vIndex vBuild vFill vSlice arrP vSrc vMakeFunc capsOf vArrayAt vFrz vFrz2 packL vBuildSlice vMakeSlice slAs vApSrc vAppend asArgs rdP wrP wrS asR asRL datAs Rep.setElem LV.setElem ct_with ct_env RetsOk RetOk1 fieldOf isPtr getS getM setM killSl killMem LV.hasId LV.kill SV.kill TV.kill Box.kill SymSt.add SymSt.put SymSt.putO SymSt.setBox ev evT cstV TV.sv dstOf tdOf TD.agg isConst svOk SV.leaves rdS seek seekA takeN LV.size sizeL LV.isAgg LV.arrOf LV.isArr LV.elemLV LV.explode Rep.size Rep.agg Rep.scalar Rep.leaf Rep.explode Rep.arrOf Rep.elemLV Rep.slOf Rep.slPtr Rep.zero TV.list SV.frz LV.frz SV.isAgg tvOf parSl tvL ty_with ty_env Rep.slLen isBytes Rep.u8 lenLV placeOf allKnown svOf bndI Rep.slSrc Rep.arrSrc LV.arrSrc SymSt.freeze frzSl frzMem LV.frzI LV.isOwn SV.frzI TV.frzI Box.frzI LV.owns ownsL ownsO ownsV SymSt.rm rmM SymSt.room SymSt.hide SymSt.unhide hideM keepM memIds backOk Box.ids idsL LV.ids Rep.argL LeS LeM Le idsM
attribute [push_cast] if_true if_false ite_true ite_false Bool.and_true Bool.true_and Bool.and_false Bool.false_and Bool.or_true Bool.or_false Bool.true_or Bool.false_or Bool.not_true Bool.not_false decide_true decide_false true_and and_true false_and and_false true_implies forall_const implies_true eq_self heq_eq_eq exists_const cast_eq List.map_cons List.map_nil List.cons_append List.nil_append List.append_nil List.toList_toArray Option.bind_some Option.bind_none Option.getD_some Option.getD_none Option.map_some List.getElem?_cons_zero List.getElem?_cons_succ List.getElem?_nil beq_self_eq_true List.any_nil List.any_cons List.contains_nil List.contains_cons exists_prop exists_eq_left exists_eq_left' SV.l.injEq SV.agg.injEq LV.int.injEq LV.bool.injEq LV.str.injEq List.cons.injEq TV.one.injEq TV.tup.injEq Option.isSome_some Option.isSome_none List.length_cons List.length_nil List.length_replicate List.length_set List.length_append List.replicate_zero Option.some.injEq Box.segs.injEq Box.arr.injEq Box.obj.injEq LV.dat.injEq LV.ptr.injEq LV.own.injEq decide_eq_true_eq decide_eq_false_iff_not Int.ofNat_zero ne_eq not_false_eq_true not_true_eq_false Nat.add_zero Nat.zero_add List.nodup_cons List.mem_cons List.not_mem_nil or_false or_self List.nodup_nil Int.toNat_natCast List.flatMap_cons List.flatMap_nil
def LV.low (x : LV) : LV := bif x.ids.all fun i => decide (i < 5000) then x else .undef
def SV.low : SV → SV
  | .l x => .l x.low
  | .agg xs => .agg (xs.map LV.low)
def TV.low : TV → TV
  | .one x => .one x.low
  | .tup xs => .tup (xs.map SV.low)
def lowSl : List (Nat × TV) → List (Nat × TV)
  | [] => []
  | (j, v) :: r => (j, v.low) :: lowSl r
theorem LV.low_rel {G : Hp} {γ γ' : Nat → Value} (hγ : ∀ i, i < 5000 → γ' i = γ i) {x : LV} {cs : List Value} (h : x.rel G γ cs) (h1 : cs.length = 1 ∨ x.ids = []) : x.low.rel G γ' cs := by
  unfold LV.low
  cases hb : x.ids.all fun i => decide (i < 5000)
  · rcases h1 with h1 | h1
    · match cs, h1 with
      | [c], _ => exact ⟨c, rfl, LV.rel_plain h c (by simp)⟩
    · rw [h1] at hb; simp at hb
  · refine LV.rel_congr (fun i hi => hγ i ?_) h
    simp only [List.all_eq_true] at hb
    have := hb i hi
    simpa using this
theorem LV.ids_one {x : LV} (h : x.ids ≠ []) : x.size = 1 := by cases x <;> simp_all [LV.ids, LV.size]
theorem RelL.low {G : Hp} {γ γ' : Nat → Value} (hγ : ∀ i, i < 5000 → γ' i = γ i) : ∀ {l : List LV} {cs : List Value}, RelL G γ l cs → RelL G γ' (l.map LV.low) cs
  | [], _, h => h
  | x :: _, _, ⟨c, d, e, hx, hl⟩ => ⟨c, d, e, LV.low_rel hγ hx (by
      by_cases h : x.ids = []
      · exact .inr h
      · exact .inl (by rw [LV.rel_length hx, LV.ids_one h])), RelL.low hγ hl⟩
theorem LV.low_relV {G : Hp} {γ γ' : Nat → Value} (hγ : ∀ i, i < 5000 → γ' i = γ i) {x : LV} {v : Value} (h : x.relV G γ v) : x.low.relV G γ' v := by
  unfold LV.low
  cases hb : x.ids.all fun i => decide (i < 5000)
  · trivial
  · refine LV.relV_congr (fun i hi => hγ i ?_) h
    simp only [List.all_eq_true] at hb
    have := hb i hi
    simpa using this
theorem SV.low_rel {G : Hp} {γ γ' : Nat → Value} (hγ : ∀ i, i < 5000 → γ' i = γ i) {x : SV} {v : Value} (h : x.rel G γ v) : x.low.rel G γ' v := by
  cases x with
  | l x => exact LV.low_relV hγ h
  | agg xs => obtain ⟨cs, hc, e⟩ := h; exact ⟨cs, hc.low hγ, e⟩
theorem RelV.low {G : Hp} {γ γ' : Nat → Value} (hγ : ∀ i, i < 5000 → γ' i = γ i) : ∀ {xs : List SV} {vs : List Value}, RelV G γ xs vs → RelV G γ' (xs.map SV.low) vs
  | [], _, h => h
  | _ :: _, _, ⟨v, r, e, hx, hr⟩ => ⟨v, r, e, SV.low_rel hγ hx, RelV.low hγ hr⟩
theorem TV.low_rel {G : Hp} {γ γ' : Nat → Value} (hγ : ∀ i, i < 5000 → γ' i = γ i) {x : TV} {v : Value} (h : x.rel G γ v) : x.low.rel G γ' v := by
  cases x with
  | one x => exact SV.low_rel hγ h
  | tup xs => obtain ⟨vs, hv, e⟩ := h; exact ⟨vs, hv.low hγ, e⟩
theorem getS_low : ∀ (sl : List (Nat × TV)) (i : Nat), getS (lowSl sl) i = (getS sl i).low
  | [], _ => rfl
  | (j, v) :: r, i => by
    unfold lowSl getS
    cases h : (j == i)
    · exact getS_low r i
    · rfl
theorem regK_opens {K : KC} {ι : Type 1} {sl sl1 : List (Nat × TV)} {mem mem1 : List (Nat × Box)} {pins : List Nat} (mx : ι → List (Nat × Box)) (hop : Opens mem1 mx) (hcl : Closes mem mem1) (hp : ∀ i ∈ pins, i < 5000) (hs : lowSl sl = sl1) (h : ∀ i, K .normal ⟨sl1, mx i, pins⟩) : regK K ⟨sl, mem, pins⟩ := by
  subst hs
  refine ⟨ι, fun i => ⟨lowSl sl, mx i, pins⟩, ?_, h⟩
  intro R G γ a w hpin hs
  have hpin5 : ∀ j, 5000 ≤ j → R.pin j = none := fun j hj => hpin j fun h => by have := hp j h; omega
  obtain ⟨γ1, hγ1, hm1⟩ := hcl R G γ w hpin5 hs.mem
  obtain ⟨i, γ2, hγ2, hm2⟩ := hop R G γ1 w hpin5 hm1
  refine ⟨i, G, γ2, Hp.le_refl G, fun j => ?_, hm2, hs.df, hs.pn⟩
  rw [getS_low]
  exact TV.low_rel (fun j hj => (hγ2 j hj).trans (hγ1 j hj)) (hs.sl j)
attribute [push_cast] List.all_cons List.all_nil LV.low SV.low TV.low lowSl
attribute [push_cast] cond_true cond_false fitsB
attribute [irreducible] seqK blockK regK regKS loopK finK
end Go.Proofs.Ytnmjcdlgfimnaaa
namespace Go.Proofs.Ytnmjcdlgfimnaaa
theorem factsL_tv {G : Hp} {γ : Nat → Value} {l : List LV} {v : Value} (h : (tvL l).rel G γ v) : factsL l := by
  match l, h with
  | [], _ => trivial
  | [r], h => exact ⟨LV.fact_ofV h, trivial⟩
  | x :: y :: r, h =>
    obtain ⟨vs, hv, _⟩ := h
    exact factsL_ofV hv
theorem Pure.go2 {E : Env} {f : FuncId} {fn : Func} {args rets : List LV} {body : Code} {res : List ResultVar} (hf : E.P.funcs[f]? = some fn) (hi : IsFn E.P f) (hb : fn.body = some body) (hres : fn.results.toList = res) (hr : noIds rets = true)
    (hfit : codeFits fn.ntmps body = true) (hlen : Nat.ble args.length fn.ntmps = true)
    (h : factsL args → vcCode E body ⟨parSl 0 (args.map .l), [], []⟩ (finK E.toCtx res fun vs s => RetsOk ((tvOf vs).list.map (SV.frz s.mem)) rets)) : Pure E.P f args rets := by
  refine ⟨hi, fun R G w vs hok hv => ?_⟩
  exact (Pure.go hf hi hb hres hr hfit hlen (h (factsL_ofV hv))).2 R G w vs hok hv
structure Con (P : Program) (f : FuncId) {α : Type} (A : Rep α) (pre : α → Prop) (r : α → List LV) : Prop where
  fn : IsFn P f
  h : ∀ x, pre x → Pure P f (A.argL x) (r x)
theorem call_F {P : Program} {f : FuncId} {α : Type} {A : Rep α} {pre : α → Prop} {r : α → List LV} (c : Con P f A pre r) (hr : ∀ x, (r x).all LV.flat = true) {vs0 : List SV} {s : SymSt} {K : KT}
    (hc : asArgs A (vs0.map (SV.frz s.mem)) fun x => pre x ∧ (factsL (r x) → K (tvL (r x)) s)) : Wc P f vs0 s K := by
  refine ⟨c.fn, ?_⟩
  intro R G γ a w vs hs hv
  obtain ⟨fr, hm⟩ := hs.mem
  obtain ⟨hok, hback⟩ := lend hm
  obtain ⟨hok3, hle⟩ := hm.ok.freezeAll hm.nd
  obtain ⟨x, ⟨hpre, hK⟩, hx⟩ := asArgs_rel A hc (hv.frz hm.at' (unionG_le (idsM s.mem)) hle)
  have hx' : RelV (unionG G fr (idsM s.mem)) (fun _ => undef) ((A.argL x).map .l) vs := hx.congr (by rw [idsV_map (A.argL_noIds x)]; simp)
  refine ((c.h x hpre).2 R _ w vs hok hx').mono ?_
  rintro e w' ⟨v, G', rfl, hg, hrel, hok'⟩
  obtain ⟨G2, hg2, hm2⟩ := hback hg hok'
  exact ⟨v, rfl, G2, γ, _, s, hg2, hK (factsL_tv hrel), tvL_flat (hr x) hrel G2 γ, hs.grow hg2 hm2⟩
theorem call_N {P : Program} {f : FuncId} {α : Type} {A : Rep α} {pre : α → Prop} {r : α → List LV} (c : Con P f A pre r) (hr : ∀ x, noIds (r x) = true) {vs0 : List SV} {s : SymSt} {K : KT}
    (hc : vFrz2 (ownsV vs0) s vs0 fun s' as' => asArgs A as' fun x => pre x ∧ (factsL (r x) → K (tvL (r x)) s')) : Wc P f vs0 s K := by
  refine ⟨c.fn, ?_⟩
  intro R G γ a w vs hs hv
  obtain ⟨G1, s1, as1, hg1, hc, hs1, hv1⟩ := vFrz2_spec hc hs hv
  obtain ⟨x, ⟨hpre, hK⟩, hx⟩ := asArgs_rel A hc hv1
  obtain ⟨R', hok, hback⟩ := frame_call hs1.mem
  have hx' : RelV G1 (fun _ => undef) ((A.argL x).map .l) vs := hx.congr (by rw [idsV_map (A.argL_noIds x)]; simp)
  refine ((c.h x hpre).2 R' G1 w vs hok hx').mono ?_
  rintro e w' ⟨v, G', rfl, hg, hrel, hok'⟩
  exact ⟨v, rfl, G', γ, _, s1, Hp.le_trans hg1 hg, hK (factsL_tv hrel), TV.rel_congr (by rw [tvL_ids (hr x)]; simp) hrel, hs1.grow hg (hback hg hok')⟩
theorem Rep.explode_inv : {α : Type} → (R : Rep α) → {G : Hp} → (γ : Nat → Value) → {x : α} → {cs : List Value} → RelL G γ (R.explode x) cs → R.enc G x cs
  | _, .pair A B, G, γ, x, cs, h => by
    obtain ⟨c, d, e, h1, h2⟩ := h
    exact (enc_pair A B G x cs).2 ⟨c, d, e, (A.leaf_rel G γ _ _).1 h1, B.explode_inv γ h2⟩
  | _, .unit, _, _, _, _, h => h
  | _, .iso A to of h1 h2, G, γ, y, cs, h => (enc_iso A to of h1 h2 G y cs).2 (A.explode_inv γ h)
  | _, .int _, _, _, _, _, h => RelL.one_inv h
  | _, .bool, _, _, _, _, h => RelL.one_inv h
  | _, .str, _, _, _, _, h => RelL.one_inv h
  | _, .arr _ _, _, _, _, _, h => RelL.one_inv h
  | _, .slice _, _, _, _, _, h => RelL.one_inv h
theorem LV.explode_iff {G : Hp} {γ : Nat → Value} {x : LV} {cs : List Value} : RelL G γ x.explode cs ↔ x.rel G γ cs := by
  cases x
  case dat R x => exact ⟨R.explode_inv γ, R.explode_rel γ⟩
  all_goals exact ⟨RelL.one_inv, RelL.one⟩
def exL : List LV → List LV
  | [] => []
  | x :: r => x.explode ++ exL r
theorem exL_iff {G : Hp} {γ : Nat → Value} : ∀ {l : List LV} {cs : List Value}, RelL G γ (exL l) cs ↔ RelL G γ l cs
  | [], _ => Iff.rfl
  | x :: r, cs => by
    unfold exL
    constructor
    · intro h
      obtain ⟨c, d, e, h1, h2⟩ := RelL.append_inv h
      exact ⟨c, d, e, LV.explode_iff.1 h1, exL_iff.1 h2⟩
    · rintro ⟨c, d, rfl, h1, h2⟩
      exact RelL.append (LV.explode_iff.2 h1) (exL_iff.2 h2)
def Box.ex : Box → Box
  | .segs l => .segs (exL l)
  | b => b
theorem Box.ex_at {G : Hp} {γ : Nat → Value} {b : Box} {v : Value} {f : Hp} : b.ex.at G γ v f ↔ b.at G γ v f := by
  cases b with
  | segs l =>
    constructor
    · rintro ⟨b, t, cs, e, ef, hl⟩; exact ⟨b, t, cs, e, ef, exL_iff.1 hl⟩
    · rintro ⟨b, t, cs, e, ef, hl⟩; exact ⟨b, t, cs, e, ef, exL_iff.2 hl⟩
  | _ => exact Iff.rfl
def LeM2 : List (Nat × Box) → List (Nat × Box) → Prop
  | [], _ => True
  | (i, b) :: r, mem => (getM mem i).map Box.ex = some b.ex ∧ LeM2 r mem
def Le2 (s1 s : SymSt) : Prop := LeS s1.sl s.sl ∧ LeM2 s1.mem s.mem ∧ (idsM s1.mem).Nodup ∧ s1.pins = s.pins
theorem LeM2.mem : ∀ {l mem : List (Nat × Box)}, LeM2 l mem → ∀ e ∈ l, ∃ b, (e.1, b) ∈ mem ∧ b.ex = e.2.ex
  | [], _, _, _, h => by simp at h
  | (i, b) :: r, mem, h, e, he => by
    rcases List.mem_cons.1 he with rfl | he
    · obtain ⟨b', h1, h2⟩ := Option.map_eq_some_iff.1 h.1
      exact ⟨b', getM_mem h1, h2⟩
    · exact LeM2.mem h.2 e he
theorem Simm.le2 {R : Fr} {G : Hp} {γ : Nat → Value} {s s1 : SymSt} {a : Act} {w : World} (h : Simm R G γ s a w) (hl : Le2 s1 s) : Simm R G γ s1 a w := by
  refine ⟨?_, ?_, h.df, hl.2.2.2 ▸ h.pn⟩
  · intro i
    rcases hl.1.get i with e | e
    · rw [e]; exact h.sl i
    · rw [e]; trivial
  · obtain ⟨fr, _, hp, hb, hok⟩ := h.mem
    refine ⟨fr, hl.2.2.1, hp, fun e he => ?_, hok.sub fun i hi => ?_⟩
    · obtain ⟨b, h1, h2⟩ := hl.2.1.mem e he
      have := hb _ h1
      exact Box.ex_at.1 (h2 ▸ Box.ex_at.2 this)
    · obtain ⟨e, he, rfl⟩ := List.mem_map.1 hi
      obtain ⟨b, h1, _⟩ := hl.2.1.mem e he
      exact List.mem_map.2 ⟨_, h1, rfl⟩
theorem GLe.of_le2 {s1 s : SymSt} (h : Le2 s1 s) : GLe s1 s := ⟨h.2.2.2, fun _ G γ _ _ hs => ⟨G, γ, Hp.le_refl G, hs.le2 h⟩⟩
def hasN : List Nat → Nat → Bool
  | [], _ => false
  | a :: r, j => bif a == j then true else hasN r j
def dropW : List Nat → List (Nat × TV) → List (Nat × TV)
  | _, [] => []
  | W, (j, v) :: r => match hasN W j with
    | true => dropW W r
    | false => (j, v) :: dropW (j :: W) r
def dropM : List Nat → List (Nat × Box) → List (Nat × Box)
  | _, [] => []
  | W, (j, v) :: r => match hasN W j with
    | true => dropM W r
    | false => (j, v) :: dropM W r
section
variable {E : Env} {K : KC} {sl sl1 : List (Nat × TV)} {mem mem1 : List (Nat × Box)} {pins : List Nat}
def factsAt : List (Nat × TV) → List (Nat × TV) → Prop
  | [], _ => True
  | (j, _) :: r, sl => (getS sl j).fact ∧ factsAt r sl
theorem factsAt_of {sl : List (Nat × TV)} (h : ∀ j, (getS sl j).fact) : ∀ l : List (Nat × TV), factsAt l sl
  | [] => trivial
  | (j, _) :: r => ⟨h j, factsAt_of h r⟩
theorem go_loop2 {x : Code} {ι : Type} (W M : List Nat) (ok : ι → Prop) (ch : ι → List (Nat × TV)) (cm : ι → List (Nat × Box)) (μ : ι → Nat) (i0 : ι) (h0 : ok i0)
    (hsl : dropW W sl = sl1) (hmem : dropM M mem = mem1) (hle : Le2 ⟨ch i0 ++ sl1, cm i0 ++ mem1, pins⟩ ⟨sl, mem, pins⟩)
    (h : ∀ i, ok i → factsAt (ch i) (ch i ++ sl1) ∧ factsM (cm i ++ mem1) → vcCode E x ⟨ch i ++ sl1, cm i ++ mem1, pins⟩ (loopK ok (fun i => ⟨ch i ++ sl1, cm i ++ mem1, pins⟩) μ i K)) : vcCode E (.loop x) ⟨sl, mem, pins⟩ K := by
  subst hsl hmem
  exact ⟨ι, ok, fun i => ⟨ch i ++ dropW W sl, cm i ++ dropM M mem, pins⟩, μ, ⟨i0, h0, .of_le2 hle⟩, fun i hi h1 h2 => by
    have := h i hi ⟨factsAt_of h1 _, h2⟩
    unfold loopK at this
    exact this⟩
theorem go_scope2 {x rest : Code} {ι : Type} (l : Nat) (hl : findLabel x l = some rest) (W M : List Nat) (ok : ι → Prop) (ch : ι → List (Nat × TV)) (cm : ι → List (Nat × Box)) (μ : ι → Nat)
    (hsl : dropW W sl = sl1) (hmem : dropM M mem = mem1) (h1 : vcCode E x ⟨sl, mem, pins⟩ (jumpK ok (fun i => ⟨ch i ++ sl1, cm i ++ mem1, pins⟩) l K))
    (h : ∀ i, ok i → factsAt (ch i) (ch i ++ sl1) ∧ factsM (cm i ++ mem1) → vcCode E rest ⟨ch i ++ sl1, cm i ++ mem1, pins⟩ (passK ok (fun i => ⟨ch i ++ sl1, cm i ++ mem1, pins⟩) μ l i K)) : vcCode E (.scope x) ⟨sl, mem, pins⟩ K := by
  subst hsl hmem
  refine .inr ⟨ι, ok, fun i => ⟨ch i ++ dropW W sl, cm i ++ dropM M mem, pins⟩, μ, l, rest, hl, ?_, fun i hi hf1 hf2 n R G γ a w hcf hs hn => ?_⟩
  · unfold jumpK at h1
    exact h1
  · have := h i hi ⟨factsAt_of hf1 _, hf2⟩
    unfold passK at this
    exact vcCode_sound rest this hcf hs hn
theorem go_join {c y : Code} {ι : Type} (W M : List Nat) (ok : ι → Prop) (ch : ι → List (Nat × TV)) (cm : ι → List (Nat × Box)) (hsl : dropW W sl = sl1) (hmem : dropM M mem = mem1)
    (hc : ∀ K' : KC, (∀ j s', ok j → Le2 ⟨ch j ++ sl1, cm j ++ mem1, pins⟩ s' → regK K' s') → (∀ e s', e ≠ .normal → K e s' → K' e s') → vcCode E c ⟨sl, mem, pins⟩ K')
    (hy : ∀ j, ok j → vcCode E y ⟨ch j ++ sl1, cm j ++ mem1, pins⟩ K) : vcCode E (.seq c y) ⟨sl, mem, pins⟩ K := by
  subst hsl hmem
  refine go_seq (hc _ (fun j s' hj hl => regK_g _ (.of_le2 hl) (seqK_n (hy j hj))) fun e s' he hk => ?_)
  cases e with
  | normal => exact absurd rfl he
  | _ => unfold seqK; exact hk
end
theorem jumpK_m {ι : Type} {ok : ι → Prop} {St : ι → SymSt} {l : Nat} {K : KC} {s : SymSt} (j : ι) (h : ok j) (hl : Le2 (St j) s) : jumpK ok St l K (.goto l) s := by
  unfold jumpK
  exact ⟨rfl, j, h, .of_le2 hl⟩
theorem passK_m {ι : Type} {ok : ι → Prop} {St : ι → SymSt} {μ : ι → Nat} {l : Nat} {i : ι} {K : KC} {s : SymSt} (j : ι) (h : ok j) (hm : μ j < μ i) (hl : Le2 (St j) s) : passK ok St μ l i K (.goto l) s := by
  unfold passK
  exact ⟨rfl, j, h, hm, .of_le2 hl⟩
theorem loopK_m {ι : Type} {ok : ι → Prop} {St : ι → SymSt} {μ : ι → Nat} {i : ι} {K : KC} {s : SymSt} (j : ι) (h : ok j) (hm : μ j < μ i) (hl : Le2 (St j) s) : loopK ok St μ i K .normal s := by
  unfold loopK
  exact ⟨j, h, hm, .of_le2 hl⟩
def Fin2 (rets : List LV) (mem' : List (Nat × Box)) (tv : TV) (s : SymSt) : Prop :=
  ∃ mx, RetsOk (tv.list.map (SV.frz (rmsM (idsM mx) s.mem))) rets ∧ LeM2 mx s.mem ∧ (idsM mx).Nodup ∧ Closes mx mem' ∧ ∀ i ∈ (tvL rets).ids, i < 5000
theorem Fin2.fin {rets : List LV} {mem' : List (Nat × Box)} {tv : TV} {s : SymSt} (h : Fin2 rets mem' tv s) : Fin rets mem' tv s := by
  obtain ⟨mx, h1, h2, h3, h4, h5⟩ := h
  let g : Nat × Box → Nat × Box := fun e => (e.1, (getM s.mem e.1).getD e.2)
  have hids : idsM (mx.map g) = idsM mx := by simp [idsM, g, Function.comp_def]
  have key : ∀ l : List (Nat × Box), LeM2 l s.mem → LeM (l.map g) s.mem ∧ ∀ e ∈ l, (g e).2.ex = e.2.ex := by
    intro l
    induction l with
    | nil => intro _; exact ⟨trivial, by simp⟩
    | cons e r ih =>
      intro h
      obtain ⟨b, hb⟩ := e
      obtain ⟨hx, hr⟩ := h
      obtain ⟨b', hb1, hb2⟩ := Option.map_eq_some_iff.1 hx
      obtain ⟨i1, i2⟩ := ih hr
      refine ⟨⟨by simp [g, hb1], i1⟩, ?_⟩
      intro e he
      rcases List.mem_cons.1 he with rfl | he
      · simp [g, hb1, hb2]
      · exact i2 e he
  obtain ⟨k1, k2⟩ := key mx h2
  refine ⟨mx.map g, by rw [hids]; exact h1, k1, by rw [hids]; exact h3, Closes.trans ?_ h4, h5⟩
  intro R G γ w _ hm
  refine ⟨γ, fun _ _ => rfl, ?_⟩
  obtain ⟨fr, hn, hp, hb, hok⟩ := hm
  refine ⟨fr, h3, hp, fun e he => ?_, hids ▸ hok⟩
  have := hb (g e) (List.mem_map.2 ⟨e, he, rfl⟩)
  exact Box.ex_at.1 (k2 e he ▸ Box.ex_at.2 this)
def factsV : List SV → Prop
  | [] => True
  | x :: r => x.fact ∧ factsV r
theorem factsV_of {G : Hp} {γ : Nat → Value} : ∀ {l : List SV} {us : List Value}, RelV G γ l us → factsV l
  | [], _, _ => trivial
  | _ :: _, _, ⟨_, _, _, hx, hl⟩ => ⟨SV.fact_of hx, factsV_of hl⟩
theorem Spec.go2 {ι : Type 1} {E : Env} {f : FuncId} {fn : Func} {args : List SV} {mem mem' : List (Nat × Box)} {rets : List LV} {body : Code} {res : List ResultVar} (mx : ι → List (Nat × Box)) (hop : Opens mem mx) (hf : E.P.funcs[f]? = some fn) (hi : IsFn E.P f) (hb : fn.body = some body) (hres : fn.results.toList = res)
    (hargs : ∀ i ∈ idsV args, i < 5000) (hlow : ∀ i ∈ idsM mem, i < 5000) (hfit : codeFits fn.ntmps body = true) (hlen : Nat.ble args.length fn.ntmps = true)
    (h : factsV args ∧ factsM mem → ∀ i, vcCode E body ⟨parSl 0 args, mx i, idsM mem⟩ (finK E.toCtx res fun vs s => Fin rets mem' (tvOf vs) s)) : Spec E.P f args mem (tvL rets) mem' := by
  refine ⟨hi, fun R G γ w vs hpin hm hv => ?_⟩
  have hfm : factsM mem := by
    obtain ⟨fr, _, _, hat, _⟩ := hm
    have : ∀ l : List (Nat × Box), (∀ e ∈ l, e ∈ mem) → factsM l := by
      intro l
      induction l with
      | nil => intro _; trivial
      | cons e l ih => intro h; exact ⟨Box.fact_of (hat e (h e (by simp))), ih fun x hx => h x (by simp [hx])⟩
    exact this _ fun _ h => h
  have h' := h ⟨factsV_of hv, hfm⟩
  exact (Spec.go mx hop hf hi hb hres hargs hlow hfit hlen h').2 R G γ w vs hpin hm hv
structure Con1 (P : Program) (f : FuncId) {σ α : Type} (O : σ → ObjP) (A : Rep α) (pre : σ → α → Prop) (r : σ → α → List LV) (u : σ → α → σ) : Prop where
  fn : IsFn P f
  h : ∀ D x, pre D x → Spec P f (.l (.ptr 1 [] 0) :: (A.argL x).map .l) [(1, .obj O D)] (tvL (r D x)) [(1, .obj O (u D x))]
theorem call_1 {P : Program} {f : FuncId} {σ α : Type} {O : σ → ObjP} {A : Rep α} {pre : σ → α → Prop} {r : σ → α → List LV} {u : σ → α → σ} (c : Con1 P f O A pre r u) (hr : ∀ D x, (r D x).all LV.isData = true)
    {vs0 : List SV} {s : SymSt} {K : KT} (hc : con1 O A pre r u vs0 0 s K) : Wc P f vs0 s K := con1_ok c.fn c.h hr vs0 0 s K hc
attribute [push_cast] List.set_cons_zero List.set_cons_succ factsV exL Box.ex LeM2 Le2 mxL LV.fact factsL SV.fact TV.fact factsAt Box.fact factsM hasN dropW dropM inK_i64 inK_i32 inK_u64 inK_u32 inK_u16 inK_u8 Rep.ok
end Go.Proofs.Ytnmjcdlgfimnaaa
namespace Go.Proofs.Ytnmjcdlgfimnaaa
def capMem : Nat → List LV → List (Nat × Box)
  | _, [] => []
  | i, x :: r => (i, .segs [x]) :: capMem (i + 1) r
def capPtr : Nat → List LV → List SV
  | _, [] => []
  | i, _ :: r => .l (.ptr i [] 0) :: capPtr (i + 1) r
def leafAs : {α : Type} → Rep α → LV → (α → Prop) → Prop
  | _, .int k, x, f => match x with
    | .int k' n => k' = k ∧ f n
    | _ => False
  | _, .bool, x, f => match x with
    | .bool b => f b
    | _ => False
  | _, .str, x, f => match x with
    | .str s => f s
    | _ => False
  | _, .unit, x, f => datAs .unit x f
  | _, .pair A B, x, f => datAs (.pair A B) x f
  | _, .arr n A, x, f => datAs (.arr n A) x f
  | _, .slice A, x, f => datAs (.slice A) x f
  | _, .iso A to of h h', x, f => A.scalar = false ∧ datAs (.iso A to of h h') x f
theorem datAs_eq {α : Type} {R : Rep α} {x : LV} {f : α → Prop} (h : datAs R x f) : ∃ a, f a ∧ x = .dat R a := by
  unfold datAs at h
  split at h
  · obtain ⟨e, hR, hf⟩ := h
    subst e
    obtain rfl := eq_of_heq hR
    exact ⟨_, hf, rfl⟩
  · exact h.elim
theorem leafAs_eq : {α : Type} → (A : Rep α) → {x : LV} → {f : α → Prop} → leafAs A x f → ∃ a, f a ∧ x = A.leaf a
  | _, .int k, x, f, h => by
    cases x <;> simp only [leafAs] at h
    case int k' n => obtain ⟨rfl, h⟩ := h; exact ⟨_, h, rfl⟩
  | _, .bool, x, f, h => by
    cases x <;> simp only [leafAs] at h
    case bool b => exact ⟨_, h, rfl⟩
  | _, .str, x, f, h => by
    cases x <;> simp only [leafAs] at h
    case str b => exact ⟨_, h, rfl⟩
  | _, .unit, x, f, h => datAs_eq h
  | _, .pair A B, x, f, h => datAs_eq h
  | _, .arr n A, x, f, h => datAs_eq h
  | _, .slice A, x, f, h => datAs_eq h
  | _, .iso A to of h1 h2, x, f, h => by
    obtain ⟨hs, h⟩ : A.scalar = false ∧ datAs (.iso A to of h1 h2) x f := h
    obtain ⟨a, hf, e⟩ := datAs_eq h
    refine ⟨a, hf, ?_⟩
    rw [e]
    unfold Rep.leaf
    rw [hs]; rfl
def capsAs : {α : Type} → Rep α → List LV → (α → Prop) → Prop
  | _, .unit, xs, f => match xs with
    | [] => f ()
    | _ => False
  | _, .pair A B, xs, f => match xs with
    | x :: r => leafAs A x fun a => capsAs B r fun b => f (a, b)
    | [] => False
  | _, _, _, _ => False
theorem capsAs_eq : {α : Type} → (A : Rep α) → {xs : List LV} → {f : α → Prop} → capsAs A xs f → ∃ a, f a ∧ xs = A.argL a
  | _, .unit, xs, f, h => by
    cases xs <;> simp only [capsAs] at h
    exact ⟨(), h, rfl⟩
  | _, .pair A B, xs, f, h => by
    cases xs <;> simp only [capsAs] at h
    obtain ⟨a, h2, e1⟩ := leafAs_eq A h
    obtain ⟨b, h3, e2⟩ := capsAs_eq B h2
    exact ⟨(a, b), h3, by rw [e1, e2]; rfl⟩
  | _, .int _, _, _, h => by simp [capsAs] at h
  | _, .bool, _, _, h => by simp [capsAs] at h
  | _, .str, _, _, h => by simp [capsAs] at h
  | _, .arr _ _, _, _, h => by simp [capsAs] at h
  | _, .slice _, _, _, h => by simp [capsAs] at h
  | _, .iso _ _ _ _ _, _, _, h => by simp [capsAs] at h
def capsIn (mem : List (Nat × Box)) : List SV → (List Nat → List LV → Prop) → Prop
  | [], f => f [] []
  | v :: r, f => match v with
    | .l (.ptr id [] 0) => (match getM mem id with
      | some (.segs [x]) => capsIn mem r fun ids xs => f (id :: ids) (x :: xs)
      | _ => False)
    | _ => False
theorem capsIn_spec {mem : List (Nat × Box)} : ∀ {vs : List SV} {f : List Nat → List LV → Prop}, capsIn mem vs f → ∃ ids xs, f ids xs ∧ vs = ids.map (fun i => .l (.ptr i [] 0)) ∧ ids.length = xs.length ∧ ∀ k (h1 : k < ids.length) (h2 : k < xs.length), getM mem ids[k] = some (.segs [xs[k]])
  | [], f, h => ⟨[], [], h, rfl, rfl, fun k h => by simp at h⟩
  | v :: r, f, h => by
    unfold capsIn at h
    split at h
    · rename_i id
      split at h
      · rename_i x hx
        obtain ⟨ids, xs, hf, e, hl, hk⟩ := capsIn_spec h
        refine ⟨id :: ids, x :: xs, hf, by rw [e]; rfl, by simp [hl], ?_⟩
        intro k h1 h2
        cases k with
        | zero => exact hx
        | succ k => exact hk k (by simpa using h1) (by simpa using h2)
      · exact h.elim
    · exact h.elim
structure ConC (P : Program) (f : FuncId) {α β : Type} (A : Rep α) (B : Rep β) (pre : α → β → Prop) (r : α → β → List LV) : Prop where
  fn : IsFn P f
  h : ∀ x y, pre x y → Spec P f ((A.argL x).map .l ++ capPtr 1 (B.argL y)) (capMem 1 (B.argL y)) (tvL (r x y)) (capMem 1 (B.argL y))
theorem capMem_ids : ∀ (i : Nat) (l : List LV), idsM (capMem i l) = (List.range' i l.length)
  | _, [] => rfl
  | i, x :: r => by
    show i :: idsM (capMem (i + 1) r) = _
    rw [capMem_ids (i + 1) r]; rfl
theorem capMem_get : ∀ (i : Nat) (l : List LV) (e : Nat × Box), e ∈ capMem i l → ∃ k, ∃ h : k < l.length, e = (i + k, .segs [l[k]])
  | _, [], e, h => by simp [capMem] at h
  | i, x :: r, e, h => by
    rcases List.mem_cons.1 h with rfl | h
    · exact ⟨0, by simp, rfl⟩
    · obtain ⟨k, hk, rfl⟩ := capMem_get (i + 1) r e h
      exact ⟨k + 1, by simpa using hk, by simp only [List.getElem_cons_succ]; congr 1; omega⟩
theorem capPtr_map (ρ : Nat → Nat) : ∀ (i : Nat) (l : List LV) (ids : List Nat), ids.length = l.length → (∀ k (h : k < ids.length), ρ (i + k) = ids[k]) → (capPtr i l).map (SV.ren ρ) = ids.map fun j => .l (.ptr j [] 0)
  | _, [], [], _, _ => rfl
  | _, [], _ :: _, h, _ => by simp at h
  | _, _ :: _, [], h, _ => by simp at h
  | i, x :: r, j :: ids, h, hρ => by
    simp only [capPtr, List.map_cons]
    rw [capPtr_map ρ (i + 1) r ids (by simpa using h) (fun k hk => by
      have := hρ (k + 1) (by simpa using hk)
      simp only [List.getElem_cons_succ] at this
      rw [← this]; congr 1; omega)]
    have := hρ 0 (by simp)
    simp only [Nat.add_zero, List.getElem_cons_zero] at this
    simp [SV.ren, LV.ren, this]
theorem getM_append {l m : List (Nat × Box)} {i : Nat} : getM (l ++ m) i = match getM l i with
    | some b => some b
    | none => getM m i := by
  induction l with
  | nil => rfl
  | cons e r ih =>
    obtain ⟨j, b⟩ := e
    simp only [List.cons_append, getM]
    cases j == i <;> simp [ih]
theorem getM_rm {mem : List (Nat × Box)} {i j : Nat} (h : j ≠ i) : getM (rmM mem i) j = getM mem j := by
  induction mem with
  | nil => rfl
  | cons e r ih =>
    obtain ⟨k, b⟩ := e
    unfold rmM
    cases hk : k == i
    · simp only [cond_false, getM, ih]
    · have : k = i := by simpa using hk
      subst this
      have : (k == j) = false := by simpa using Ne.symm h
      simp only [cond_true, getM, this, cond_false, ih]
theorem getM_rms {mem : List (Nat × Box)} {j : Nat} : ∀ {ids : List Nat}, j ∉ ids → getM (rmsM ids mem) j = getM mem j
  | [], _ => rfl
  | i :: r, h => by
    simp only [List.mem_cons, not_or] at h
    unfold rmsM
    rw [getM_rm h.1, getM_rms h.2]
theorem getM_of_mem {mem : List (Nat × Box)} (hn : (idsM mem).Nodup) {e : Nat × Box} (h : e ∈ mem) : getM mem e.1 = some e.2 := by
  induction mem with
  | nil => simp at h
  | cons x r ih =>
    obtain ⟨k, b⟩ := x
    simp only [idsM, List.map_cons, List.nodup_cons] at hn
    rcases List.mem_cons.1 h with rfl | h
    · simp [getM]
    · have : k ≠ e.1 := fun e' => hn.1 (e' ▸ List.mem_map.2 ⟨e, h, rfl⟩)
      have hk : (k == e.1) = false := by simpa using this
      simp only [getM, hk, cond_false]
      exact ih hn.2 h
theorem RelV.take {G : Hp} {γ : Nat → Value} : ∀ (n : Nat) {l : List SV} {us : List Value}, RelV G γ l us → ∃ a b, us = a ++ b ∧ RelV G γ (l.take n) a ∧ RelV G γ (l.drop n) b
  | 0, l, us, h => ⟨[], us, rfl, rfl, by simpa using h⟩
  | n + 1, [], us, h => ⟨[], us, rfl, rfl, h⟩
  | n + 1, x :: l, us, ⟨v, r, e, hx, hr⟩ => by
    obtain ⟨a, b, rfl, h1, h2⟩ := RelV.take n hr
    exact ⟨v :: a, b, by rw [e]; rfl, ⟨v, a, rfl, hx, h1⟩, h2⟩
theorem RelV.cat {G : Hp} {γ : Nat → Value} : ∀ {l m : List SV} {a b : List Value}, RelV G γ l a → RelV G γ m b → RelV G γ (l ++ m) (a ++ b)
  | [], _, _, _, h, h' => by simp only [RelV] at h; subst h; exact h'
  | _ :: _, _, _, _, ⟨v, r, e, hx, hr⟩, h' => ⟨v, r ++ _, by rw [e]; rfl, hx, RelV.cat hr h'⟩
theorem nodup_inj : ∀ {l : List Nat}, l.Nodup → ∀ {i j : Nat} (hi : i < l.length) (hj : j < l.length), l[i] = l[j] → i = j
  | [], _, _, _, hi, _, _ => by simp at hi
  | x :: r, h, 0, 0, _, _, _ => rfl
  | x :: r, h, 0, j + 1, _, hj, e => by
    rw [List.nodup_cons] at h
    simp only [List.getElem_cons_zero, List.getElem_cons_succ] at e
    exact absurd (e ▸ List.getElem_mem (by simpa using hj)) h.1
  | x :: r, h, i + 1, 0, hi, _, e => by
    rw [List.nodup_cons] at h
    simp only [List.getElem_cons_zero, List.getElem_cons_succ] at e
    exact absurd (e ▸ List.getElem_mem (by simpa using hi)) h.1
  | x :: r, h, i + 1, j + 1, hi, hj, e => by
    rw [List.nodup_cons] at h
    simp only [List.getElem_cons_succ] at e
    have := nodup_inj h.2 (by simpa using hi) (by simpa using hj) e
    omega
theorem getM_ne_none {mem : List (Nat × Box)} {i : Nat} (h : i ∈ idsM mem) : getM mem i ≠ none := by
  induction mem with
  | nil => simp [idsM] at h
  | cons e r ih =>
    obtain ⟨k, b⟩ := e
    simp only [idsM, List.map_cons, List.mem_cons] at h
    unfold getM
    cases hk : k == i
    · simp only [cond_false]
      refine ih ?_
      rcases h with h | h
      · simp [h] at hk
      · exact h
    · simp
theorem Simm.leM {R : Fr} {G : Hp} {γ : Nat → Value} {s s1 : SymSt} {a : Act} {w : World} (h : Simm R G γ s a w) (h1 : s1.sl = s.sl) (h2 : LeM s1.mem s.mem) (h3 : (idsM s1.mem).Nodup) (h4 : s1.pins = s.pins) : Simm R G γ s1 a w :=
  ⟨fun i => by rw [h1]; exact h.sl i, h.mem.sub h3 (LeM.mem h2), h.df, h4 ▸ h.pn⟩
theorem call_C {P : Program} {f : FuncId} {α β : Type} {A : Rep α} {B : Rep β} {pre : α → β → Prop} {r : α → β → List LV} (c : ConC P f A B pre r) (n : Nat) (hr : ∀ x y, (r x y).all LV.isData = true)
    {vs0 : List SV} {s : SymSt} {K : KT} (hc : capsIn s.mem (vs0.drop n) fun ids xs => ids.Nodup ∧ capsAs B xs fun y => asArgs A (vs0.take n) fun x => pre x y ∧ (factsL (r x y) → K (tvL (r x y)) s)) : Wc P f vs0 s K := by
  obtain ⟨ids, xs, ⟨hnd, hc⟩, ev, hl, hk⟩ := capsIn_spec hc
  obtain ⟨y, hc2, rfl⟩ := capsAs_eq B hc
  refine ⟨c.fn, ?_⟩
  intro R G γ a w vs hs hv
  obtain ⟨ua, ub, rfl, hva, hvb⟩ := RelV.take n hv
  obtain ⟨x, ⟨hpre, hK⟩, hx⟩ := asArgs_rel A hc2 hva
  have hsp := c.h x y hpre
  let ρ : Nat → Nat := fun i => ids.getD (i - 1) 0
  have hρ : ∀ k (h : k < ids.length), ρ (1 + k) = ids[k] := by
    intro k h
    simp only [ρ, Nat.add_sub_cancel_left, List.getD_eq_getElem?_getD, List.getElem?_eq_getElem h]; rfl
  have hids : ∀ i ∈ idsM (capMem 1 (B.argL y)), ∃ k, ∃ h : k < ids.length, i = 1 + k ∧ ρ i = ids[k] := by
    intro i hi
    rw [capMem_ids, List.mem_range'_1] at hi
    refine ⟨i - 1, by omega, by omega, ?_⟩
    have := hρ (i - 1) (by omega)
    rw [← this]; congr 1; omega
  have hnds : (idsM s.mem).Nodup := hs.mem.choose_spec.nd
  have hdt := B.argL_data y
  have hdm : ∀ x ∈ B.argL y, x.isData = true := by simpa using hdt
  have hinj : ∀ i ∈ idsM (capMem 1 (B.argL y)), ∀ j ∈ idsM (capMem 1 (B.argL y)), ρ i = ρ j → i = j := by
    intro i hi j hj e
    obtain ⟨k, hk1, rfl, e1⟩ := hids i hi
    obtain ⟨l, hl1, rfl, e2⟩ := hids j hj
    rw [e1, e2] at e
    have := nodup_inj hnd hk1 hl1 e
    omega
  have hbox : ∀ e ∈ capMem 1 (B.argL y), getM s.mem (ρ e.1) = some (e.2.ren ρ) ∧ e.2.ids = [] ∧ e.2.ren ρ = e.2 := by
    intro e he
    obtain ⟨k, h1, rfl⟩ := capMem_get 1 _ e he
    have h2 : k < ids.length := by omega
    have hd := hdm _ (List.getElem_mem h1)
    have e2 : (Box.segs [(B.argL y)[k]]).ren ρ = .segs [(B.argL y)[k]] := by simp [Box.ren, LV.ren_data hd]
    refine ⟨?_, by simp [Box.ids, idsL, LV.ids_data hd], e2⟩
    simp only
    rw [e2, hρ k h2]
    exact hk k h2 h1
  have hw : Wc P f ((A.argL x).map .l ++ ids.map fun j => .l (.ptr j [] 0)) s (fun tv s' => tv = tvL (r x y) ∧ s' = s.back ((idsM (capMem 1 (B.argL y))).map ρ) [] (renM ρ (capMem 1 (B.argL y)))) := by
    refine Wc_spec hsp ρ [] ?_ hinj hinj (fun j h1 h2 => absurd h1 h2) (by simp) ?_ ?_ (fun e he => (hbox e he).1) ?_ ?_
    · rw [capMem_ids]; exact List.nodup_range'
    · intro i hi
      rw [tvL_ids (data_noIds (hr x y))] at hi
      simp at hi
    · intro e he i hi
      rw [(hbox e he).2.1] at hi
      simp at hi
    · intro G γ us hu
      rw [List.map_append, map_ren_data (A.argL_data x), capPtr_map ρ 1 _ ids hl fun k h => hρ k h]
      exact hu
    · rw [tvL_ren (hr x y)]
      exact ⟨rfl, rfl⟩
  refine (hw.2 R G γ a w _ hs (RelV.cat hx (ev ▸ hvb))).mono ?_
  rintro e w' ⟨v, rfl, G', γ', tv, s', hg, ⟨rfl, rfl⟩, hrel, hs'⟩
  refine ⟨v, rfl, G', γ', _, s, hg, hK (factsL_tv hrel), hrel, hs'.leM rfl ?_ hnds rfl⟩
  · have : ∀ l : List (Nat × Box), (∀ e ∈ l, e ∈ s.mem) → LeM l (s.back ((idsM (capMem 1 (B.argL y))).map ρ) [] (renM ρ (capMem 1 (B.argL y)))).mem := by
      intro l
      induction l with
      | nil => intro _; trivial
      | cons e l ih =>
        intro h
        refine ⟨?_, ih fun x hx => h x (by simp [hx])⟩
        have hm := getM_of_mem hnds (h e (by simp))
        simp only [SymSt.back, killsM, getM_append]
        cases hg : getM (renM ρ (capMem 1 (B.argL y))) e.1 with
        | none =>
          simp only
          rw [getM_rms, hm]
          intro hin
          obtain ⟨i, hi, e1⟩ := List.mem_map.1 hin
          obtain ⟨e2, he2, rfl⟩ := List.mem_map.1 hi
          exact getM_ne_none (mem := renM ρ (capMem 1 (B.argL y))) (by rw [renM_ids]; exact List.mem_map.2 ⟨_, hi, e1⟩) hg
        | some b =>
          simp only
          obtain ⟨e2, he2, e3⟩ := renM_mem (getM_mem hg)
          simp only [Prod.mk.injEq] at e3
          rw [← hm, e3.1, (hbox e2 he2).1, e3.2]
    exact this _ fun _ h => h
end Go.Proofs.Ytnmjcdlgfimnaaa
namespace Go.Proofs.Ytnmjcdlgfimnaaa
def SymSt.shut (s : SymSt) {α : Type} (A : Rep α) (m id : Nat) (M : Int → List α) (V : Int → Value) (k : Int) (l : List α) : SymSt := ⟨s.sl, rmM (setM s.mem m (.mpr A (updM M k l) V none)) id, s.pins⟩
theorem GLe.shut {s : SymSt} {α : Type} {A : Rep α} {m id : Nat} {M : Int → List α} {V : Int → Value} {k : Int} {l : List α} (hg : getM s.mem m = some (.mpr A M V (some (k, some id)))) (hgd : getM s.mem id = some (.arr A l)) : GLe (s.shut A m id M V k l) s :=
  ⟨rfl, fun _ G γ _ _ hs => ⟨G, γ, Hp.le_refl G, ⟨hs.sl, hs.mem.closeRow hg hgd, hs.df, hs.pn⟩⟩⟩
theorem loopK_row {ι : Type} {ok : ι → Prop} {St : ι → SymSt} {μ : ι → Nat} {i : ι} {K : KC} {s : SymSt} {α : Type} {A : Rep α} (m id : Nat) {M : Int → List α} {V : Int → Value} {k : Int} {l : List α} (hg : getM s.mem m = some (.mpr A M V (some (k, some id)))) (hgd : getM s.mem id = some (.arr A l))
    (j : ι) (h : ok j) (hm : μ j < μ i) (hl : Le2 (St j) (s.shut A m id M V k l)) : loopK ok St μ i K .normal s := by
  unfold loopK
  exact ⟨j, h, hm, GLe.trans (.of_le2 hl) (.shut hg hgd)⟩
attribute [push_cast] SymSt.shut
end Go.Proofs.Ytnmjcdlgfimnaaa
namespace Go.Proofs.Ytnmjcdlgfimnaaa
structure ConNew (P : Program) (f : FuncId) {σ α : Type} (n : Nat) (O : σ → ObjP) (A : Rep α) (pre : α → Prop) (u : α → σ) : Prop where
  fn : IsFn P f
  h : ∀ x, pre x → Spec P f ((A.argL x).map .l) [] (tvL [.ptr n [] 0]) [(n, .obj O (u x))]
theorem call_new {P : Program} {f : FuncId} {σ α : Type} {O : σ → ObjP} {A : Rep α} {pre : α → Prop} {u : α → σ} {n : Nat} (c : ConNew P f n O A pre u) (id : Nat)
    {vs0 : List SV} {s : SymSt} {K : KT} (hc : s.room id ∧ asArgs A vs0 fun x => pre x ∧ K (tvL [.ptr id [] 0]) (s.back [] [id] [(id, .obj O (u x))])) : Wc P f vs0 s K := by
  obtain ⟨hroom, hc⟩ := hc
  refine ⟨c.fn, ?_⟩
  intro R G γ a w vs hs hv
  obtain ⟨x, ⟨hpre, hK⟩, hx⟩ := asArgs_rel A hc hv
  have hsp := c.h x hpre
  have hw : Wc P f ((A.argL x).map .l) s K := by
    refine Wc_spec hsp (fun _ => id) [id] (by simp [idsM]) (by simp [idsM]) (by simp [idsM]) (by simp) ?_ ?_ ?_ (by simp) ?_ ?_
    · intro i hi
      simp only [List.mem_singleton] at hi
      subst hi
      simpa [SymSt.room] using hroom
    · intro i hi
      simp only [tvL, TV.ids, SV.ids, LV.ids, List.mem_singleton] at hi
      subst hi
      simp [idsM]
    · intro e he i hi
      simp only [List.mem_singleton] at he
      subst he
      simp [Box.ids] at hi
    · intro G γ us hu
      rw [map_ren_data (A.argL_data x)]
      exact hu
    · exact hK
  exact hw.2 R G γ a w _ hs hx
theorem closes_parts2 {σ : Type} {ι : Type 1} {ok : σ → ι → Prop} {mm : ι → List (Nat × Box)} {root id : Nat} {D : σ} {rest : List (Nat × Box)} (i : ι) (ρ : Nat → Nat) (hok : ok D i) (hρ : ρ root = id) (hr : root ∈ idsM (mm i)) (hn : (idsM (mm i)).Nodup)
    (hinj : ∀ a ∈ idsM (mm i), ∀ b ∈ idsM (mm i), ρ a = ρ b → a = b) : Closes (renM ρ (mm i) ++ rest) ((id, .obj (partsO ok mm root) D) :: rest) := by
  intro R G γ w _ ⟨fr, hnd, hp, hat, hok'⟩
  refine ⟨γ, fun _ _ => rfl, ?_⟩
  classical
  have hids : idsM (renM ρ (mm i) ++ rest) = (idsM (mm i)).map ρ ++ idsM rest := by
    simp only [idsM, List.map_append]
    congr 1
    exact renM_ids (mm i)
  rw [hids] at hnd hok'
  simp only [List.nodup_append] at hnd
  obtain ⟨hn1, hn2, hn3⟩ := hnd
  have hroot : id ∈ (idsM (mm i)).map ρ := List.mem_map.2 ⟨root, hr, hρ⟩
  have hin : ∀ j ∈ idsM (mm i), ρ j ∈ (idsM (mm i)).map ρ ++ idsM rest := fun j hj => List.mem_append.2 (.inl (List.mem_map.2 ⟨j, hj, rfl⟩))
  let f : Hp := fun b => if h : ∃ j ∈ idsM (mm i), fr (ρ j) b ≠ none then fr (ρ (Classical.choose h)) b else none
  have hf : ∀ b o, f b = some o ↔ ∃ j ∈ idsM (mm i), fr (ρ j) b = some o := by
    intro b o
    simp only [f]
    by_cases h : ∃ j ∈ idsM (mm i), fr (ρ j) b ≠ none
    · rw [dif_pos h]
      obtain ⟨h1, h2⟩ := Classical.choose_spec h
      constructor
      · intro h3; exact ⟨_, h1, h3⟩
      · rintro ⟨j, hj, h3⟩
        by_cases e : ρ (Classical.choose h) = ρ j
        · rw [e]; exact h3
        · have := hok'.ff _ (hin _ h1) _ (hin j hj) e b h2
          rw [h3] at this; simp at this
    · rw [dif_neg h]
      constructor
      · intro h3; simp at h3
      · rintro ⟨j, hj, h3⟩
        exact absurd ⟨j, hj, by simp [h3]⟩ h
  have hrr : id ∉ idsM rest := fun h => hn3 id hroot id h rfl
  refine ⟨updF fr id f, ?_, hp, ?_, ?_⟩
  · simp only [idsM, List.map_cons, List.nodup_cons]
    exact ⟨hrr, hn2⟩
  · intro e he
    rcases List.mem_cons.1 he with rfl | he
    · rw [updF_same]
      refine ⟨i, fun j => γ (ρ j), fun j => fr (ρ j), hok, by simp only [hρ], hn, hr, ?_, ?_, hf⟩
      · intro e he
        have hmem : (ρ e.1, e.2.ren ρ) ∈ renM ρ (mm i) ++ rest := by
          refine List.mem_append.2 (.inl ?_)
          have gen : ∀ (mem : List (Nat × Box)), e ∈ mem → (ρ e.1, e.2.ren ρ) ∈ renM ρ mem := by
            intro mem
            induction mem with
            | nil => intro h; simp at h
            | cons x r ih =>
              intro h
              rcases List.mem_cons.1 h with rfl | h
              · exact List.mem_cons.2 (.inl rfl)
              · exact List.mem_cons.2 (.inr (ih h))
          exact gen (mm i) he
        exact Box.ren_at.1 (hat _ hmem)
      · intro a ha b hb hab c hc
        exact hok'.ff _ (hin a ha) _ (hin b hb) (fun e => hab (hinj a ha b hb e)) c hc
    · have hm : e.1 ∈ idsM rest := List.mem_map.2 ⟨e, he, rfl⟩
      have : e.1 ≠ id := fun h => hrr (h ▸ hm)
      rw [updF_ne this]
      exact hat e (List.mem_append.2 (.inr he))
  · refine hok'.reshape ?_ ?_
    · intro j hj b o hb
      simp only [idsM, List.map_cons, List.mem_cons] at hj
      by_cases e : j = id
      · subst e
        rw [updF_same] at hb
        obtain ⟨l, hl, h⟩ := (hf b o).1 hb
        exact ⟨ρ l, hin l hl, h⟩
      · rw [updF_ne e] at hb
        exact ⟨j, List.mem_append.2 (.inr (hj.resolve_left e)), hb⟩
    · have cross : ∀ l ∈ idsM rest, ∀ b, f b ≠ none → fr l b = none := by
        intro l hl b hb
        obtain ⟨o, ho⟩ := Option.ne_none_iff_exists'.1 hb
        obtain ⟨j, hj, h⟩ := (hf b o).1 ho
        exact hok'.ff _ (hin j hj) l (List.mem_append.2 (.inr hl)) (hn3 _ (List.mem_map.2 ⟨j, hj, rfl⟩) l hl) b (by simp [h])
      intro j hj l hl hjl b hb
      simp only [idsM, List.map_cons, List.mem_cons] at hj hl
      by_cases e : j = id
      · subst e
        rw [updF_same] at hb
        rw [updF_ne (Ne.symm hjl)]
        exact cross l (hl.resolve_left (Ne.symm hjl)) b hb
      · rw [updF_ne e] at hb
        by_cases e' : l = id
        · subst e'
          rw [updF_same]
          cases hx : f b with
          | none => rfl
          | some x => exact absurd (cross j (hj.resolve_left e) b (by simp [hx])) hb
        · rw [updF_ne e']
          exact hok'.ff j (List.mem_append.2 (.inr (hj.resolve_left e))) l (List.mem_append.2 (.inr (hl.resolve_left e'))) hjl b hb
attribute [push_cast] SymSt.back killsSl killsM
end Go.Proofs.Ytnmjcdlgfimnaaa
namespace Go.Proofs.Ytnmjcdlgfimnaaa
theorem goS_hid' {E : Env} {ops : List Oper} {late Q : List Nat} {x y : Sch} {i : Nat} {e : Bool} {o : Oper} {sl : List (Nat × TV)} {mem : List (Nat × Box)} {pins : List Nat} {Z : SymSt → Prop}
    (hi : ops[i]? = some o) (hg : o.guard = none) (hd : o.dst = none) (he : (e || late.contains i) = false) (h2 : vcSch E ops late Q y e ⟨sl, mem, pins⟩ Z)
    (h : ∀ K' : KT, (∀ tv sl' mem' pins' m2, backOk Q mem' = true → mem' ++ keepM Q mem = m2 → vcSch E ops late Q x false ⟨sl', m2, pins⟩ Z → K' tv ⟨sl', mem', pins'⟩) → vcVal E o (SymSt.hide ⟨sl, mem, pins⟩ Q) K') : vcSch E ops late Q (.or i x y) e ⟨sl, mem, pins⟩ Z := by
  unfold vcSch vGuard
  rw [hi]
  simp only [hg, he, cond_false]
  refine ⟨h _ fun tv sl' mem' pins' m2 hb hm h => ?_, h2⟩
  subst hm
  rw [hd]; exact ⟨hb, h⟩
theorem goS_freet {E : Env} {ops : List Oper} {late Q : List Nat} {x : Sch} {i : Nat} {e : Bool} {o : Oper} {sl : List (Nat × TV)} {mem : List (Nat × Box)} {pins : List Nat} {Z : SymSt → Prop} {j d d' : Nat} {want : Bool}
    (hi : ops[i]? = some o) (hg : o.guard = some (j, want)) (hj : (ops[j]?).bind (·.dst) = some d') (hd : o.dst = some d) (hs : getS sl d' = .tup [])
    (h : vcSch E ops late Q x e ⟨(d, .tup []) :: sl, mem, pins⟩ Z) : vcSch E ops late Q (.free i x) e ⟨sl, mem, pins⟩ Z := by
  unfold vcSch vGuard
  rw [hi]
  simp only [hg, hj, hs]
  rw [hd]; exact h
theorem goS_freeb {E : Env} {ops : List Oper} {late Q : List Nat} {x : Sch} {i : Nat} {e : Bool} {o : Oper} {sl : List (Nat × TV)} {mem : List (Nat × Box)} {pins : List Nat} {Z : SymSt → Prop} {j d d' : Nat} {want b : Bool}
    (hi : ops[i]? = some o) (hg : o.guard = some (j, want)) (hj : (ops[j]?).bind (·.dst) = some d') (hd : o.dst = some d) (hs : getS sl d' = .one (.l (.bool b)))
    (h1 : b = want → ∀ K' : KT, (∀ tv s', vcSch E ops late Q x e ⟨(d, tv) :: (d', .one (.l (.bool want))) :: sl, mem, pins⟩ Z → K' tv s') → vqVal E.toCtx o ⟨(d', .one (.l (.bool want))) :: sl, mem, pins⟩ K')
    (h2 : b = !want → vcSch E ops late Q x e ⟨(d, .tup []) :: (d', .one (.l (.bool (!want)))) :: sl, mem, pins⟩ Z) : vcSch E ops late Q (.free i x) e ⟨sl, mem, pins⟩ Z := by
  unfold vcSch vGuard
  rw [hi]
  simp only [hg, hj, hs]
  refine ⟨fun hb => h1 hb _ fun tv s' h => ?_, fun hb => ?_⟩
  · rw [hd]; exact h
  · rw [hd]; exact h2 hb
theorem goS_hidt {E : Env} {ops : List Oper} {late Q : List Nat} {x y : Sch} {i : Nat} {e : Bool} {o : Oper} {sl : List (Nat × TV)} {mem : List (Nat × Box)} {pins : List Nat} {Z : SymSt → Prop} {j d d' : Nat} {want : Bool}
    (hi : ops[i]? = some o) (hg : o.guard = some (j, want)) (hj : (ops[j]?).bind (·.dst) = some d') (hd : o.dst = some d) (hs : getS sl d' = .tup [])
    (h : vcSch E ops late Q x (e || late.contains i) ⟨(d, .tup []) :: sl, mem, pins⟩ Z) (h3 : vcSch E ops late Q y e ⟨sl, mem, pins⟩ Z) : vcSch E ops late Q (.or i x y) e ⟨sl, mem, pins⟩ Z := by
  unfold vcSch vGuard
  rw [hi]
  simp only [hg, hj, hs]
  refine ⟨?_, h3⟩
  rw [hd]; exact h
theorem goS_hidb {E : Env} {ops : List Oper} {late Q : List Nat} {x y : Sch} {i : Nat} {e : Bool} {o : Oper} {sl : List (Nat × TV)} {mem : List (Nat × Box)} {pins : List Nat} {Z : SymSt → Prop} {j d d' : Nat} {want b : Bool}
    (hi : ops[i]? = some o) (hg : o.guard = some (j, want)) (hj : (ops[j]?).bind (·.dst) = some d') (hd : o.dst = some d) (he : (e || late.contains i) = false) (hs : getS sl d' = .one (.l (.bool b)))
    (h1 : b = want → ∀ K' : KT, (∀ tv sl' mem' pins' m2, backOk Q mem' = true → mem' ++ keepM Q mem = m2 → vcSch E ops late Q x false ⟨(d, tv) :: sl', m2, pins⟩ Z → K' tv ⟨sl', mem', pins'⟩) → vcVal E o (SymSt.hide ⟨(d', .one (.l (.bool want))) :: sl, mem, pins⟩ Q) K')
    (h2 : b = !want → vcSch E ops late Q x false ⟨(d, .tup []) :: (d', .one (.l (.bool (!want)))) :: sl, mem, pins⟩ Z)
    (h3 : vcSch E ops late Q y e ⟨sl, mem, pins⟩ Z) : vcSch E ops late Q (.or i x y) e ⟨sl, mem, pins⟩ Z := by
  unfold vcSch vGuard
  rw [hi]
  simp only [hg, hj, hs, he, cond_false]
  refine ⟨⟨fun hb => h1 hb _ fun tv sl' mem' pins' m2 hb' hm h => ?_, fun hb => ?_⟩, h3⟩
  · subst hm
    rw [hd]; exact ⟨hb', h⟩
  · rw [hd]; exact h2 hb
end Go.Proofs.Ytnmjcdlgfimnaaa
