/- The reckoning of a symbolic state, as one set of rules. -/
import Derived.Test.YtnmjcdlgfimnaaaFt
import Derived.Test.YtnmjcdlgfimnaaaA4
import Derived.Laws.BitsLemmas
import Derived.IntWalk
namespace Go.Proofs.Ytnmjcdlgfimnaaa
section
variable {E : Env} {s : Qan} {K : KC}
theorem Qn4 {id : Nat} {ops : Array Oper} : Qa9 E (.region id ops false) s K = Qb3 E ops.toList ops.toList s fun s' => ∃ (ι : Type 1) (S : ι → Qan), Qv5 S s' ∧ ∀ i, K .normal (S i) := by simp [Qa9]
theorem Qvi {c : Operand} {x y : Code} : Qa9 E (.cond c x y) s K = match ev s c with
    | .l (.bool b) => (b = true → Qa9 E x s K) ∧ (b = false → Qa9 E y s K)
    | _ => False := rfl
inductive Tag (E : Env) (c : Code) (K : KC) : Type
 | a
 | b
def held (E : Env) (c : Code) (K : KC) (_ : Tag E c K) (s : Qan) : Prop := Qa9 E c s K
theorem Qai {ops r : List Oper} {K : Qan → Prop} {o : Oper} {d : Nat} (hg : o.guard = none) (hd : o.dst = some d)
    (h : ∀ K' : KT, (∀ tv sl mem pins, Qb3 E ops r ⟨(d, tv) :: sl, mem, pins⟩ K → K' tv ⟨sl, mem, pins⟩) → Qfl E o s K') : Qb3 E ops (o :: r) s K := by
 unfold Qb3
 rw [hg]
 refine h _ fun tv sl mem pins h => ?_
 rw [hd]; exact h
theorem Qat {ops r : List Oper} {K : Qan → Prop} {o : Oper} (hg : o.guard = none) (hd : o.dst = none)
    (h : ∀ K' : KT, (∀ tv s', Qb3 E ops r s' K → K' tv s') → Qfl E o s K') : Qb3 E ops (o :: r) s K := by
 unfold Qb3
 rw [hg]
 refine h _ fun tv s' h => ?_
 rw [hd]; exact h
theorem Qag {ops : List Oper} {K : Qan → Prop} (h : K s) : Qb3 E ops [] s K := h
theorem Qym {ops : List Oper} {Q r : List Nat} {i d : Nat} {o : Oper} {K : Qan → Prop} {sl : List (Nat × TV)} {mem : List (Nat × Box)} {pins : List Nat} (hi : ops[i]? = some o) (hg : o.guard = none) (hd : o.dst = some d)
    (h : ∀ K' : KT, (∀ tv s', vcA E ops Q r ⟨(d, tv) :: sl, mem, pins⟩ K → K' tv s') → Qhp E.toCtx o ⟨sl, Qcy Q mem, pins⟩ K') : vcA E ops Q (i :: r) ⟨sl, mem, pins⟩ K := by
 unfold vcA Qdp
 rw [hi]
 simp only [hg]
 refine h _ fun tv s' h => ?_
 rw [hd]; exact h
end
theorem Qve {E : Env} {n f : FuncId} {c : List SV → Nat → Qan → KT → Prop} {h : ∀ args d s K, c args d s K → Wc E.P n args s K} {args : List SV} {d : Nat} {s : Qan} {K : KT} :
    (E.with n c h).ct f args d s K = if f = n then c args d s K else E.ct f args d s K := rfl
theorem Qvy {E : Env} {n : FuncId} {c : List SV → Nat → Qan → KT → Prop} {h : ∀ args d s K, c args d s K → Wc E.P n args s K} : (E.with n c h).toCtx = E.toCtx := rfl
theorem Qwn {C : Ctx} : C.env.toCtx = C := rfl
theorem Qwy {C : Ctx} {f : FuncId} {args : List SV} {d : Nat} {s : Qan} {K : KT} : C.env.ct f args d s K = Wc C.P f args s K := rfl
end Go.Proofs.Ytnmjcdlgfimnaaa
namespace Go.Proofs.Ytnmjcdlgfimnaaa
section
variable {E : Env} {s : Qan} {K : KC}
def Qs2 (E : Env) (y : Code) (K : KC) : KC := fun e s => match e with
 | .normal => Qa9 E y s K
 | e => K e s
def Qgr (id : Nat) (K : KC) : KC := fun e s => match e with
 | .exit i => bif i == id then K .normal s else K (.exit i) s
 | e => K e s
def Qpn (K : KC) : Qan → Prop := fun s => ∃ (ι : Type 1) (S : ι → Qan), Qv5 S s ∧ ∀ i, K .normal (S i)
def Qm6 (K : KC) : Qan → Prop := Qpn K
def Qkn {ι : Type} (ok : ι → Prop) (St : ι → Qan) (μ : ι → Nat) (i : ι) (K : KC) : KC := fun e s => match e with
 | .normal => ∃ j, ok j ∧ μ j < μ i ∧ GLe (St j) s
 | e => K e s
def Qvs (C : Ctx) (res : List ResultVar) (Z : List SV → Qan → Prop) : KC := fun e s => match e with
 | .normal => Qnt C s res fun vs => Z vs s
 | .ret => Qnt C s res fun vs => Z vs s
 | _ => False
theorem Qah (h : Qpn K s) : Qa9 E .skip s K := h
theorem Qar {x y : Code} (h : Qa9 E x s (Qs2 E y K)) : Qa9 E (.seq x y) s K := h
theorem Qa0 {id : Nat} {x : Code} (h : Qa9 E x s (Qgr id K)) : Qa9 E (.block id x) s K := h
theorem Qaj {id : Nat} (h : K (.exit id) s) : Qa9 E (.exit id) s K := h
theorem Qfn {id : Nat} (h : K .normal s) : Qa9 E (.label id) s K := h
theorem Qau (h : K .ret s) : Qa9 E .ret s K := h
theorem Qhq {l : Nat} (h : K (.goto l) s) : Qa9 E (.goto l) s K := h
def Qno {ι : Type} (ok : ι → Prop) (St : ι → Qan) (l : Nat) (K : KC) : KC := fun e s => match e with
 | .goto l' => l' = l ∧ ∃ i, ok i ∧ GLe (St i) s
 | e => K e s
def Qm3 {ι : Type} (ok : ι → Prop) (St : ι → Qan) (μ : ι → Nat) (l : Nat) (i : ι) (K : KC) : KC := fun e s => match e with
 | .goto l' => l' = l ∧ ∃ j, ok j ∧ μ j < μ i ∧ GLe (St j) s
 | e => K e s
def Qfk (K : KC) : KC := fun e s => match e with
 | .goto _ => False
 | e => K e s
theorem Qo9 {x : Code} (h : Qa9 E x s (Qfk K)) : Qa9 E (.scope x) s K := .inl h
theorem Qd0 (h : K .normal s) : Qfk K .normal s := h
theorem Qdz {i : Nat} (h : K (.exit i) s) : Qfk K (.exit i) s := h
theorem Qd1 (h : K .ret s) : Qfk K .ret s := h
theorem Qac {id : Nat} {l : List Oper} (h : Qb3 E l l s (Qpn K)) : Qa9 E (.region id l.toArray false) s K := by
 rw [Qn4]; exact h
theorem Qbo {id : Nat} {l : List Oper} (h : Qb3 E l l s (Qm6 K)) : Qa9 E (.region id l.toArray false) s K := by
 rw [Qn4]; exact h
theorem Qak {c : Operand} {x y : Code} {b : Bool} (hc : ev s c = .l (.bool b)) (h1 : b = true → Qa9 E x s K) (h2 : b = false → Qa9 E y s K) : Qa9 E (.cond c x y) s K := by
 rw [Qvi, hc]; exact ⟨h1, h2⟩
theorem Qbf {id : Nat} {l : List Oper} (A late Q : List Nat) (sch : Sch) (hm : E.P.follows .mixedOrders = true) (hok : Qtc l.toArray A late sch = true)
    (h : vcA E l Q A s fun s' => Qbp E l late Q sch false s' (Qpn K)) : Qa9 E (.region id l.toArray true) s K := by
 refine ⟨fun h => by simp at h, fun _ => ⟨A, late, Q, sch, hm, hok, ?_⟩⟩
 exact h
theorem Qpp {c : Code} {K' : KC} (e : ∀ e s, K e s = K' e s) (h : Qa9 E c s K) : Qa9 E c s K' := by
 have : K = K' := funext fun a => funext fun b => e a b
 exact this ▸ h
theorem Qap {y : Code} (h : Qa9 E y s K) : Qs2 E y K .normal s := h
theorem Qax {y : Code} {i : Nat} (h : K (.exit i) s) : Qs2 E y K (.exit i) s := h
theorem Qas {y : Code} (h : K .ret s) : Qs2 E y K .ret s := h
theorem Qla {y : Code} {l : Nat} (h : K (.goto l) s) : Qs2 E y K (.goto l) s := h
theorem Qmh {id l : Nat} (h : K (.goto l) s) : Qgr id K (.goto l) s := h
theorem Qol {ι : Type} {ok : ι → Prop} {St : ι → Qan} {μ : ι → Nat} {i : ι} {l : Nat} (h : K (.goto l) s) : Qkn ok St μ i K (.goto l) s := h
section
variable {ι : Type} {ok : ι → Prop} {St : ι → Qan} {μ : ι → Nat} {i : ι} {l : Nat}
theorem Qho (h : K .normal s) : Qno ok St l K .normal s := h
theorem Qhi {e : Nat} (h : K (.exit e) s) : Qno ok St l K (.exit e) s := h
theorem Qhm (h : K .ret s) : Qno ok St l K .ret s := h
theorem Qhe (h : K .normal s) : Qm3 ok St μ l i K .normal s := h
theorem Qhj {e : Nat} (h : K (.exit e) s) : Qm3 ok St μ l i K (.exit e) s := h
theorem Qhv (h : K .ret s) : Qm3 ok St μ l i K .ret s := h
end
attribute [irreducible] Qno Qm3 Qfk
theorem Qaq {id : Nat} (h : K .normal s) : Qgr id K .normal s := h
theorem Qa1 {id : Nat} (h : K .ret s) : Qgr id K .ret s := h
theorem Qal {id : Nat} (h : K .normal s) : Qgr id K (.exit id) s := by unfold Qgr; simpa using h
theorem Qae {id i : Nat} (hi : Nat.beq i id = false) (h : K (.exit i) s) : Qgr id K (.exit i) s := by
 unfold Qgr
 have : (i == id) = false := by
  have h1 : ¬ i = id := by
   intro e; subst e; simp at hi
  simpa using h1
 simp only [this, cond_false]; exact h
theorem Qjp {j m id : Nat} {V : Int → Value} {k : Int} {sl sl1 : List (Nat × TV)} {mem mem1 : List (Nat × Box)} {pins : List Nat} {α : Type} {A : Rep α} {M : Int → List α} (hid : j + 6000 = id) (hg : Qco mem m = some (.mpr A M V none)) (hr : (pins.contains id) = false) (hne : m ≠ id)
    (h1 : Qgn id sl = sl1) (h2 : (id, Box.arr A (M k)) :: Qhg (Qcq id mem) m (.mpr A M V (some (k, some id))) = mem1)
    (h : K .normal ⟨(j, .one (.l (.view id [] 0 A.size 0 (M k).length))) :: (j, .one (.l (.mrow m V k))) :: sl1, mem1, pins⟩) : Qpn K ⟨(j, .one (.l (.mrow m V k))) :: sl, mem, pins⟩ := by
 subst h1 h2 hid
 refine ⟨_, _, GLe.one ?_, fun _ => h⟩
 refine ⟨rfl, fun R G γ a w hs => ⟨G, Qis γ (j + 6000) (V k), Hp.le_refl G, ?_⟩⟩
 have hs1 := hs.openRow (k := k) (id := j + 6000) hg hr hne
 obtain ⟨fr, hmf⟩ := hs.mem
 obtain ⟨⟨r, es, clock, F, hvm, hmap, hFr, hf, hdis, hrow, _⟩, _, _⟩ := hmf.mpr hg
 have hx := hs.sl j
 have e0 : Qd7 ((j, TV.one (.l (.mrow m V k))) :: sl) j = .one (.l (.mrow m V k)) := by simp [Qd7]
 rw [e0] at hx
 have hx1 : a.tmps.getD j undef = V k := by have := hx; simp only [TV.rel, SV.rel, LV.relV, LV.rel, List.cons.injEq, and_true] at this; exact this.1
 exact hs1.know (d := j) (tv := .one (.l (.view (j + 6000) [] 0 A.size 0 (M k).length))) (by
  show (LV.view _ _ _ _ _ _).rel G _ [a.tmps.getD j undef]
  rw [hx1]
  rcases hrow k (by simp) with ⟨b, t, es, sp, c, e, _, _, hle, hmx, _⟩ | ⟨e0, ⟨ad, e⟩, _⟩
  ·refine ⟨some ⟨b, 0, none⟩, c, hle, hmx, by rw [e], fun _ => ?_, by simp⟩
   rw [Qcf, e]
   simp [blk, Qdx]
  ·refine ⟨ad, 0, by simp [e0], Nat.zero_le _, by rw [e, e0]; rfl, fun h => absurd (by simp [e0]) h, fun _ => rfl⟩)
theorem Qam (h : K .normal s) : Qpn K s := ⟨_, _, (GLe.refl s).one, fun _ => h⟩
theorem Qqa (s2 : Qan) (hg : GLe s2 s) (h : K .normal s2) : Qpn K s := ⟨_, _, hg.one, fun _ => h⟩
theorem Qc5 (h : K .normal s) : Qm6 K s := Qam h
theorem Qhc (h : Qpn K s) : Qm6 K s := h
section
variable {ι : Type} {ok : ι → Prop} {St : ι → Qan} {μ : ι → Nat} {i : ι}
theorem Qa6 {e : Nat} (h : K (.exit e) s) : Qkn ok St μ i K (.exit e) s := h
theorem Qa7 (h : K .ret s) : Qkn ok St μ i K .ret s := h
end
section
variable {C : Ctx} {res : List ResultVar} {Z : List SV → Qan → Prop}
theorem Qaf {f : List SV → Prop} (h : Qnt C s res f) : Qnt C s res f := h
theorem Qaz (h : Qnt C s res fun vs => Z vs s) : Qvs C res Z .normal s := h
theorem Qay (h : Qnt C s res fun vs => Z vs s) : Qvs C res Z .ret s := h
end
theorem Qaa {ops r : List Oper} {Q : Qan → Prop} {d : Nat} {k : IntKind} {n : Int} {sl : List (Nat × TV)} {mem : List (Nat × Box)} {pins : List Nat} (h : k.wrap n = n)
    (hv : Qb3 E ops r ⟨(d, .one (.l (.int k n))) :: sl, mem, pins⟩ Q) : Qb3 E ops r ⟨(d, .one (.l (.int k (k.wrap n)))) :: sl, mem, pins⟩ Q := by rw [h]; exact hv
theorem Qa3 (n : Int) (h0 : -9223372036854775808 ≤ n) (h1 : n ≤ 9223372036854775807) : IntKind.i64.wrap n = n := IntWalk.i64_in n ⟨h0, h1⟩
theorem Qb0 (n : Int) (h0 : 0 ≤ n) (h1 : n ≤ 255) : IntKind.u8.wrap n = n := IntWalk.u8_in n ⟨h0, h1⟩
theorem Qba (n : Int) (h0 : 0 ≤ n) (h1 : n ≤ 4294967295) : IntKind.u32.wrap n = n := IntWalk.u32_in n ⟨h0, h1⟩
theorem Qa5 (n : Int) (h0 : 0 ≤ n) (h1 : n ≤ 18446744073709551615) : IntKind.u64.wrap n = n := IntWalk.u64_in n ⟨h0, h1⟩
section
variable {ops : List Oper} {late Q r : List Nat} {i d : Nat} {o : Oper} {x y : Sch} {e : Bool} {sl : List (Nat × TV)} {mem : List (Nat × Box)} {pins : List Nat} {Z : Qan → Prop}
theorem Qbx (hi : ops[i]? = some o) (hg : o.guard = none) (hd : o.dst = some d)
    (h : ∀ K' : KT, (∀ tv s', vcA E ops Q r ⟨(d, tv) :: sl, mem, pins⟩ Z → K' tv s') → Qhp E.toCtx o ⟨sl, Qcy Q mem, pins⟩ K') : vcA E ops Q (i :: r) ⟨sl, mem, pins⟩ Z :=
 Qym hi hg hd h
theorem Qcd {j d' : Nat} {want b : Bool} (hi : ops[i]? = some o) (hg : o.guard = some (j, want)) (hj : (ops[j]?).bind (·.dst) = some d') (hd : o.dst = some d) (hs : Qd7 sl d' = .one (.l (.bool b)))
    (h1 : b = want → ∀ K' : KT, (∀ tv s', vcA E ops Q r ⟨(d, tv) :: (d', .one (.l (.bool want))) :: sl, mem, pins⟩ Z → K' tv s') → Qhp E.toCtx o ⟨(d', .one (.l (.bool want))) :: sl, Qcy Q mem, pins⟩ K')
    (h2 : b = !want → vcA E ops Q r ⟨(d, .tup []) :: (d', .one (.l (.bool (!want)))) :: sl, mem, pins⟩ Z) : vcA E ops Q (i :: r) ⟨sl, mem, pins⟩ Z := by
 unfold vcA Qdp
 rw [hi]
 simp only [hg, hj, hs]
 refine ⟨fun e => h1 e _ fun tv s' h => ?_, fun e => ?_⟩
 ·rw [hd]; exact h
 ·rw [hd]; exact h2 e
theorem Qcc {j d' : Nat} {want : Bool} (hi : ops[i]? = some o) (hg : o.guard = some (j, want)) (hj : (ops[j]?).bind (·.dst) = some d') (hd : o.dst = some d) (hs : Qd7 sl d' = .tup [])
    (h : vcA E ops Q r ⟨(d, .tup []) :: sl, mem, pins⟩ Z) : vcA E ops Q (i :: r) ⟨sl, mem, pins⟩ Z := by
 unfold vcA Qdp
 rw [hi]
 simp only [hg, hj, hs]
 rw [hd]; exact h
theorem Qby (h : Z s) : vcA E ops Q [] s Z := h
theorem Qbk (h : Z s) : Qbp E ops late Q .done e s Z := h
theorem Qbn : Qbp E ops late Q .stop e s Z := trivial
theorem Qbl (hi : ops[i]? = some o) (hg : o.guard = none) (hd : o.dst = some d)
    (h : ∀ K' : KT, (∀ tv s', Qbp E ops late Q x e ⟨(d, tv) :: sl, mem, pins⟩ Z → K' tv s') → Qhp E.toCtx o ⟨sl, mem, pins⟩ K') : Qbp E ops late Q (.free i x) e ⟨sl, mem, pins⟩ Z := by
 unfold Qbp Qdp
 rw [hi]
 simp only [hg]
 refine h _ fun tv s' h => ?_
 rw [hd]; exact h
theorem Qbm (hi : ops[i]? = some o) (hg : o.guard = none) (hd : o.dst = some d) (he : (e || late.contains i) = true) (h2 : Qbp E ops late Q y e s Z)
    (h : ∀ K' : KT, (∀ tv sl mem pins, Qbp E ops late Q x true ⟨(d, tv) :: sl, mem, pins⟩ Z → K' tv ⟨sl, mem, pins⟩) → Qfl E o s K') : Qbp E ops late Q (.or i x y) e s Z := by
 unfold Qbp Qdp
 rw [hi]
 simp only [hg, he, cond_true]
 refine ⟨h _ fun tv sl mem pins h => ?_, h2⟩
 rw [hd]; exact h
theorem Qbe (hi : ops[i]? = some o) (hg : o.guard = none) (hd : o.dst = none) (he : (e || late.contains i) = true) (h2 : Qbp E ops late Q y e s Z)
    (h : ∀ K' : KT, (∀ tv s', Qbp E ops late Q x true s' Z → K' tv s') → Qfl E o s K') : Qbp E ops late Q (.or i x y) e s Z := by
 unfold Qbp Qdp
 rw [hi]
 simp only [hg, he, cond_true]
 refine ⟨h _ fun tv s' h => ?_, h2⟩
 rw [hd]; exact h
theorem Qbz (hi : ops[i]? = some o) (hg : o.guard = none) (hd : o.dst = some d) (he : (e || late.contains i) = false) (h2 : Qbp E ops late Q y e ⟨sl, mem, pins⟩ Z)
    (h : ∀ K' : KT, (∀ tv sl' mem' pins' m2, Qgx Q mem' = true → mem' ++ Qcy Q mem = m2 → Qbp E ops late Q x false ⟨(d, tv) :: sl', m2, pins⟩ Z → K' tv ⟨sl', mem', pins'⟩) → Qfl E o (Qan.hide ⟨sl, mem, pins⟩ Q) K') : Qbp E ops late Q (.or i x y) e ⟨sl, mem, pins⟩ Z := by
 unfold Qbp Qdp
 rw [hi]
 simp only [hg, he, cond_false]
 refine ⟨h _ fun tv sl' mem' pins' m2 hb hm h => ?_, h2⟩
 subst hm
 rw [hd]; exact ⟨hb, h⟩
end
theorem Qav {ops r : List Oper} {o : Oper} {j d d' : Nat} {want b : Bool} {sl : List (Nat × TV)} {mem : List (Nat × Box)} {pins : List Nat} {Z : Qan → Prop} (hg : o.guard = some (j, want)) (hj : (ops[j]?).bind (·.dst) = some d') (hd : o.dst = some d) (hs : Qd7 sl d' = .one (.l (.bool b)))
    (h1 : b = want → ∀ K' : KT, (∀ tv sl mem pins, Qb3 E ops r ⟨(d, tv) :: sl, mem, pins⟩ Z → K' tv ⟨sl, mem, pins⟩) → Qfl E o ⟨(d', .one (.l (.bool want))) :: sl, mem, pins⟩ K')
    (h2 : b = !want → Qb3 E ops r ⟨(d, .tup []) :: (d', .one (.l (.bool (!want)))) :: sl, mem, pins⟩ Z) : Qb3 E ops (o :: r) ⟨sl, mem, pins⟩ Z := by
 unfold Qb3
 simp only [hg, hj, hs]
 refine ⟨fun e => h1 e _ fun tv sl mem pins h => ?_, fun e => ?_⟩
 ·rw [hd]; exact h
 ·rw [hd]; exact h2 e
theorem Qaw {ops r : List Oper} {o : Oper} {j d d' : Nat} {want : Bool} {sl : List (Nat × TV)} {mem : List (Nat × Box)} {pins : List Nat} {Z : Qan → Prop} (hg : o.guard = some (j, want)) (hj : (ops[j]?).bind (·.dst) = some d') (hd : o.dst = some d) (hs : Qd7 sl d' = .tup [])
    (h : Qb3 E ops r ⟨(d, .tup []) :: sl, mem, pins⟩ Z) : Qb3 E ops (o :: r) ⟨sl, mem, pins⟩ Z := by
 unfold Qb3
 simp only [hg, hj, hs]
 rw [hd]; exact h
end
theorem Qck.go {E : Env} {f : FuncId} {fn : Func} {args rets : List LV} {body : Code} {res : List ResultVar} (hf : E.P.funcs[f]? = some fn) (hi : Qcp E.P f) (hb : fn.body = some body) (hres : fn.results.toList = res) (hr : Qg6 rets = true)
    (hfit : Qch fn.ntmps body = true) (hlen : Nat.ble args.length fn.ntmps = true)
    (h : Qa9 E body ⟨Qcu 0 (args.map .l), [], []⟩ (Qvs E.toCtx res fun vs s => Qdo ((Ql7 vs).list.map (SV.frz s.mem)) rets)) : Qck E.P f args rets := by
 refine Qck.of' hf hi hb hres hr hfit hlen ?_
 exact Qpp (fun e s => by cases e <;> rfl) h
theorem Qcs.go {ι : Type 1} {E : Env} {f : FuncId} {fn : Func} {args : List SV} {mem mem' : List (Nat × Box)} {rets : List LV} {body : Code} {res : List ResultVar} (mx : ι → List (Nat × Box)) (hop : Qc2 mem mx) (hf : E.P.funcs[f]? = some fn) (hi : Qcp E.P f) (hb : fn.body = some body) (hres : fn.results.toList = res)
    (hargs : ∀ i ∈ Qb1 args, i < 5000) (hlow : ∀ i ∈ Qao mem, i < 5000) (hfit : Qch fn.ntmps body = true) (hlen : Nat.ble args.length fn.ntmps = true)
    (h : ∀ i, Qa9 E body ⟨Qcu 0 args, mx i, Qao mem⟩ (Qvs E.toCtx res fun vs s => Fin rets mem' (Ql7 vs) s)) : Qcs E.P f args mem (tvL rets) mem' := by
 refine Qcs.of' mx hop hargs hlow hf hi hb hres hfit hlen fun i => ?_
 exact Qpp (fun e s => by cases e <;> rfl) (h i)
attribute [push_cast] Qw5 Qiw Qlx Qf3 Qlh Qsy Qlu Qit Qs3 Qr6 Qi1 Qfr Qan.openR Qsn vcA Qbp Qdp Qfl Qhp Qs8 Qpv Qy9 Qor Qpt Qgk Qfw Qp9 Qix Qp6 Qsu Qsz Qq8 vUn Qfx Qg0 Qgy Qtb Qnt vMM Qjm Qyb Qpr Qp1 Qqh Qm4 Qu8 Qv1 Qg4 Qm0 Qiu Qvj Qg7 Qsb Qe7 Qfq Qv3 Qp3 Qjv Qdh rdP wrP wrS asR Qdd Qc7 Rep.setElem LV.setElem Qve Qwy Qdo Qni Qi9 Qvh Qd7 Qco Qhg Qgn Qcq LV.hasId LV.kill SV.kill TV.kill Box.kill Qan.add Qan.put Qan.putO Qan.setBox ev evT Qx5 TV.sv Qdq Qem TD.agg Qjc Qv4 SV.leaves rdS Qum Qj2 Qnm LV.size Qep LV.isAgg LV.arrOf LV.isArr LV.elemLV LV.explode Rep.size Rep.agg Rep.scalar Rep.leaf Rep.explode Rep.arrOf Rep.elemLV Rep.slOf Rep.slPtr Rep.zero TV.list SV.frz LV.frz SV.isAgg Ql7 Qcu tvL Qvy Qwn Rep.slLen Qg9 Rep.u8 Qs4 Qgf Qgm Qv7 Qq9 Rep.slSrc Rep.arrSrc LV.arrSrc Qan.freeze Qm5 Qf0 LV.frzI LV.isOwn SV.frzI TV.frzI Box.frzI LV.owns Qsv Qvk Qkl Qan.rm rmM Qan.room Qan.hide Qan.unhide Qjb Qcy Qmr Qgx Box.ids Qez LV.ids Rep.argL LeS LeM Le Qao
attribute [push_cast] if_true if_false ite_true ite_false Bool.and_true Bool.true_and Bool.and_false Bool.false_and Bool.or_true Bool.or_false Bool.true_or Bool.false_or Bool.not_true Bool.not_false decide_true decide_false true_and and_true false_and and_false true_implies forall_const implies_true eq_self heq_eq_eq exists_const cast_eq List.map_cons List.map_nil List.cons_append List.nil_append List.append_nil List.toList_toArray Option.bind_some Option.bind_none Option.getD_some Option.getD_none Option.map_some List.getElem?_cons_zero List.getElem?_cons_succ List.getElem?_nil beq_self_eq_true List.any_nil List.any_cons List.contains_nil List.contains_cons exists_prop exists_eq_left exists_eq_left' SV.l.injEq SV.agg.injEq LV.int.injEq LV.bool.injEq LV.str.injEq List.cons.injEq TV.one.injEq TV.tup.injEq Option.isSome_some Option.isSome_none List.length_cons List.length_nil List.length_replicate List.length_set List.length_append List.replicate_zero Option.some.injEq Box.segs.injEq Box.arr.injEq Box.obj.injEq LV.dat.injEq LV.ptr.injEq LV.own.injEq decide_eq_true_eq decide_eq_false_iff_not Int.ofNat_zero ne_eq not_false_eq_true not_true_eq_false Nat.add_zero Nat.zero_add List.nodup_cons List.mem_cons List.not_mem_nil or_false or_self List.nodup_nil Int.toNat_natCast List.flatMap_cons List.flatMap_nil
def LV.low (x : LV) : LV := bif x.ids.all fun i => decide (i < 5000) then x else .undef
def SV.low : SV → SV
 | .l x => .l x.low
 | .agg xs => .agg (xs.map LV.low)
def TV.low : TV → TV
 | .one x => .one x.low
 | .tup xs => .tup (xs.map SV.low)
def Qqp : List (Nat × TV) → List (Nat × TV)
 | [] => []
 | (j, v) :: r => (j, v.low) :: Qqp r
theorem LV.low_rel {G : Hp} {γ γ' : Nat → Value} (hγ : ∀ i, i < 5000 → γ' i = γ i) {x : LV} {cs : List Value} (h : x.rel G γ cs) (h1 : cs.length = 1 ∨ x.ids = []) : x.low.rel G γ' cs := by
 unfold LV.low
 cases hb : x.ids.all fun i => decide (i < 5000)
 ·rcases h1 with h1 | h1
  ·match cs, h1 with
   | [c], _ => exact ⟨c, rfl, LV.rel_plain h c (by simp)⟩
  ·rw [h1] at hb; simp at hb
 ·refine LV.rel_congr (fun i hi => hγ i ?_) h
  simp only [List.all_eq_true] at hb
  have := hb i hi
  simpa using this
theorem LV.ids_one {x : LV} (h : x.ids ≠ []) : x.size = 1 := by cases x <;> simp_all [LV.ids, LV.size]
theorem Qb5.low {G : Hp} {γ γ' : Nat → Value} (hγ : ∀ i, i < 5000 → γ' i = γ i) : ∀ {l : List LV} {cs : List Value}, Qb5 G γ l cs → Qb5 G γ' (l.map LV.low) cs
 | [], _, h => h
 | x :: _, _, ⟨c, d, e, hx, hl⟩ => ⟨c, d, e, LV.low_rel hγ hx (by
     by_cases h : x.ids = []
     ·exact .inr h
     ·exact .inl (by rw [LV.rel_length hx, LV.ids_one h])), Qb5.low hγ hl⟩
theorem LV.low_relV {G : Hp} {γ γ' : Nat → Value} (hγ : ∀ i, i < 5000 → γ' i = γ i) {x : LV} {v : Value} (h : x.relV G γ v) : x.low.relV G γ' v := by
 unfold LV.low
 cases hb : x.ids.all fun i => decide (i < 5000)
 ·trivial
 ·refine LV.relV_congr (fun i hi => hγ i ?_) h
  simp only [List.all_eq_true] at hb
  have := hb i hi
  simpa using this
theorem SV.low_rel {G : Hp} {γ γ' : Nat → Value} (hγ : ∀ i, i < 5000 → γ' i = γ i) {x : SV} {v : Value} (h : x.rel G γ v) : x.low.rel G γ' v := by
 cases x with
 | l x => exact LV.low_relV hγ h
 | agg xs => obtain ⟨cs, hc, e⟩ := h; exact ⟨cs, hc.low hγ, e⟩
theorem Qcv.low {G : Hp} {γ γ' : Nat → Value} (hγ : ∀ i, i < 5000 → γ' i = γ i) : ∀ {xs : List SV} {vs : List Value}, Qcv G γ xs vs → Qcv G γ' (xs.map SV.low) vs
 | [], _, h => h
 | _ :: _, _, ⟨v, r, e, hx, hr⟩ => ⟨v, r, e, SV.low_rel hγ hx, Qcv.low hγ hr⟩
theorem TV.low_rel {G : Hp} {γ γ' : Nat → Value} (hγ : ∀ i, i < 5000 → γ' i = γ i) {x : TV} {v : Value} (h : x.rel G γ v) : x.low.rel G γ' v := by
 cases x with
 | one x => exact SV.low_rel hγ h
 | tup xs => obtain ⟨vs, hv, e⟩ := h; exact ⟨vs, hv.low hγ, e⟩
theorem Qpo : ∀ (sl : List (Nat × TV)) (i : Nat), Qd7 (Qqp sl) i = (Qd7 sl i).low
 | [], _ => rfl
 | (j, v) :: r, i => by
  unfold Qqp Qd7
  cases h : (j == i)
  ·exact Qpo r i
  ·rfl
theorem Qhf {K : KC} {ι : Type 1} {sl sl1 : List (Nat × TV)} {mem mem1 : List (Nat × Box)} {pins : List Nat} (mx : ι → List (Nat × Box)) (hop : Qc2 mem1 mx) (hcl : Qbb mem mem1) (hp : ∀ i ∈ pins, i < 5000) (hs : Qqp sl = sl1) (h : ∀ i, K .normal ⟨sl1, mx i, pins⟩) : Qpn K ⟨sl, mem, pins⟩ := by
 subst hs
 refine ⟨ι, fun i => ⟨Qqp sl, mx i, pins⟩, ?_, h⟩
 intro R G γ a w hpin hs
 have hpin5 : ∀ j, 5000 ≤ j → R.pin j = none := fun j hj => hpin j fun h => by have := hp j h; omega
 obtain ⟨γ1, hγ1, hm1⟩ := hcl R G γ w hpin5 hs.mem
 obtain ⟨i, γ2, hγ2, hm2⟩ := hop R G γ1 w hpin5 hm1
 refine ⟨i, G, γ2, Hp.le_refl G, fun j => ?_, hm2, hs.df, hs.pn⟩
 rw [Qpo]
 exact TV.low_rel (fun j hj => (hγ2 j hj).trans (hγ1 j hj)) (hs.sl j)
attribute [push_cast] List.all_cons List.all_nil LV.low SV.low TV.low Qqp
attribute [push_cast] cond_true cond_false Qr7
attribute [irreducible] Qs2 Qgr Qpn Qm6 Qkn Qvs
end Go.Proofs.Ytnmjcdlgfimnaaa
namespace Go.Proofs.Ytnmjcdlgfimnaaa
theorem Qgz {G : Hp} {γ : Nat → Value} {l : List LV} {v : Value} (h : (tvL l).rel G γ v) : Qew l := by
 match l, h with
 | [], _ => trivial
 | [r], h => exact ⟨LV.fact_ofV h, trivial⟩
 | x :: y :: r, h =>
  obtain ⟨vs, hv, _⟩ := h
  exact Qg8 hv
theorem Qck.go2 {E : Env} {f : FuncId} {fn : Func} {args rets : List LV} {body : Code} {res : List ResultVar} (hf : E.P.funcs[f]? = some fn) (hi : Qcp E.P f) (hb : fn.body = some body) (hres : fn.results.toList = res) (hr : Qg6 rets = true)
    (hfit : Qch fn.ntmps body = true) (hlen : Nat.ble args.length fn.ntmps = true)
    (h : Qew args → Qa9 E body ⟨Qcu 0 (args.map .l), [], []⟩ (Qvs E.toCtx res fun vs s => Qdo ((Ql7 vs).list.map (SV.frz s.mem)) rets)) : Qck E.P f args rets := by
 refine ⟨hi, fun R G w vs hok hv => ?_⟩
 exact (Qck.go hf hi hb hres hr hfit hlen (h (Qg8 hv))).2 R G w vs hok hv
structure Con (P : Program) (f : FuncId) {α : Type} (A : Rep α) (pre : α → Prop) (r : α → List LV) : Prop where
 fn : Qcp P f
 h : ∀ x, pre x → Qck P f (A.argL x) (r x)
theorem Qbi {P : Program} {f : FuncId} {α : Type} {A : Rep α} {pre : α → Prop} {r : α → List LV} (c : Con P f A pre r) (hr : ∀ x, (r x).all LV.flat = true) {vs0 : List SV} {s : Qan} {K : KT}
    (hc : Qdh A (vs0.map (SV.frz s.mem)) fun x => pre x ∧ (Qew (r x) → K (tvL (r x)) s)) : Wc P f vs0 s K := by
 refine ⟨c.fn, ?_⟩
 intro R G γ a w vs hs hv
 obtain ⟨fr, hm⟩ := hs.mem
 obtain ⟨hok, hback⟩ := Q0j hm
 obtain ⟨hok3, hle⟩ := hm.ok.freezeAll hm.nd
 obtain ⟨x, ⟨hpre, hK⟩, hx⟩ := Qcx A hc (hv.frz hm.at' (Qei (Qao s.mem)) hle)
 have hx' : Qcv (Qdg G fr (Qao s.mem)) (fun _ => undef) ((A.argL x).map .l) vs := hx.congr (by rw [Qi0 (A.argL_noIds x)]; simp)
 refine ((c.h x hpre).2 R _ w vs hok hx').mono ?_
 rintro e w' ⟨v, G', rfl, hg, hrel, hok'⟩
 obtain ⟨G2, hg2, hm2⟩ := hback hg hok'
 exact ⟨v, rfl, G2, γ, _, s, hg2, hK (Qgz hrel), Qpy (hr x) hrel G2 γ, hs.grow hg2 hm2⟩
theorem Qbg {P : Program} {f : FuncId} {α : Type} {A : Rep α} {pre : α → Prop} {r : α → List LV} (c : Con P f A pre r) (hr : ∀ x, Qg6 (r x) = true) {vs0 : List SV} {s : Qan} {K : KT}
    (hc : Qg7 (Qkl vs0) s vs0 fun s' as' => Qdh A as' fun x => pre x ∧ (Qew (r x) → K (tvL (r x)) s')) : Wc P f vs0 s K := by
 refine ⟨c.fn, ?_⟩
 intro R G γ a w vs hs hv
 obtain ⟨G1, s1, as1, hg1, hc, hs1, hv1⟩ := Qdc hc hs hv
 obtain ⟨x, ⟨hpre, hK⟩, hx⟩ := Qcx A hc hv1
 obtain ⟨R', hok, hback⟩ := Qqm hs1.mem
 have hx' : Qcv G1 (fun _ => undef) ((A.argL x).map .l) vs := hx.congr (by rw [Qi0 (A.argL_noIds x)]; simp)
 refine ((c.h x hpre).2 R' G1 w vs hok hx').mono ?_
 rintro e w' ⟨v, G', rfl, hg, hrel, hok'⟩
 exact ⟨v, rfl, G', γ, _, s1, Hp.le_trans hg1 hg, hK (Qgz hrel), TV.rel_congr (by rw [Qf9 (hr x)]; simp) hrel, hs1.grow hg (hback hg hok')⟩
theorem Rep.explode_inv : {α : Type} → (R : Rep α) → {G : Hp} → (γ : Nat → Value) → {x : α} → {cs : List Value} → Qb5 G γ (R.explode x) cs → R.enc G x cs
 | _, .pair A B, G, γ, x, cs, h => by
  obtain ⟨c, d, e, h1, h2⟩ := h
  exact (enc_pair A B G x cs).2 ⟨c, d, e, (A.leaf_rel G γ _ _).1 h1, B.explode_inv γ h2⟩
 | _, .unit, _, _, _, _, h => h
 | _, .iso A to of h1 h2, G, γ, y, cs, h => (enc_iso A to of h1 h2 G y cs).2 (A.explode_inv γ h)
 | _, .int _, _, _, _, _, h => Qb5.one_inv h
 | _, .bool, _, _, _, _, h => Qb5.one_inv h
 | _, .str, _, _, _, _, h => Qb5.one_inv h
 | _, .arr _ _, _, _, _, _, h => Qb5.one_inv h
 | _, .slice _, _, _, _, _, h => Qb5.one_inv h
theorem LV.explode_iff {G : Hp} {γ : Nat → Value} {x : LV} {cs : List Value} : Qb5 G γ x.explode cs ↔ x.rel G γ cs := by
 cases x
 case dat R x => exact ⟨R.explode_inv γ, R.explode_rel γ⟩
 all_goals exact ⟨Qb5.one_inv, Qb5.one⟩
def exL : List LV → List LV
 | [] => []
 | x :: r => x.explode ++ exL r
theorem Qmj {G : Hp} {γ : Nat → Value} : ∀ {l : List LV} {cs : List Value}, Qb5 G γ (exL l) cs ↔ Qb5 G γ l cs
 | [], _ => Iff.rfl
 | x :: r, cs => by
  unfold exL
  constructor
  ·intro h
   obtain ⟨c, d, e, h1, h2⟩ := Qb5.append_inv h
   exact ⟨c, d, e, LV.explode_iff.1 h1, Qmj.1 h2⟩
  ·rintro ⟨c, d, rfl, h1, h2⟩
   exact Qb5.append (LV.explode_iff.2 h1) (Qmj.2 h2)
def Box.ex : Box → Box
 | .segs l => .segs (exL l)
 | b => b
theorem Box.ex_at {G : Hp} {γ : Nat → Value} {b : Box} {v : Value} {f : Hp} : b.ex.at G γ v f ↔ b.at G γ v f := by
 cases b with
 | segs l =>
  constructor
  ·rintro ⟨b, t, cs, e, ef, hl⟩; exact ⟨b, t, cs, e, ef, Qmj.1 hl⟩
  ·rintro ⟨b, t, cs, e, ef, hl⟩; exact ⟨b, t, cs, e, ef, Qmj.2 hl⟩
 | _ => exact Iff.rfl
def Qto : List (Nat × Box) → List (Nat × Box) → Prop
 | [], _ => True
 | (i, b) :: r, mem => (Qco mem i).map Box.ex = some b.ex ∧ Qto r mem
def Le2 (s1 s : Qan) : Prop := LeS s1.sl s.sl ∧ Qto s1.mem s.mem ∧ (Qao s1.mem).Nodup ∧ s1.pins = s.pins
theorem Qto.mem : ∀ {l mem : List (Nat × Box)}, Qto l mem → ∀ e ∈ l, ∃ b, (e.1, b) ∈ mem ∧ b.ex = e.2.ex
 | [], _, _, _, h => by simp at h
 | (i, b) :: r, mem, h, e, he => by
  rcases List.mem_cons.1 he with rfl | he
  ·obtain ⟨b', h1, h2⟩ := Option.map_eq_some_iff.1 h.1
   exact ⟨b', Qca h1, h2⟩
  ·exact Qto.mem h.2 e he
theorem Qc4.le2 {R : Fr} {G : Hp} {γ : Nat → Value} {s s1 : Qan} {a : Act} {w : World} (h : Qc4 R G γ s a w) (hl : Le2 s1 s) : Qc4 R G γ s1 a w := by
 refine ⟨?_, ?_, h.df, hl.2.2.2 ▸ h.pn⟩
 ·intro i
  rcases hl.1.get i with e | e
  ·rw [e]; exact h.sl i
  ·rw [e]; trivial
 ·obtain ⟨fr, _, hp, hb, hok⟩ := h.mem
  refine ⟨fr, hl.2.2.1, hp, fun e he => ?_, hok.sub fun i hi => ?_⟩
  ·obtain ⟨b, h1, h2⟩ := hl.2.1.mem e he
   have := hb _ h1
   exact Box.ex_at.1 (h2 ▸ Box.ex_at.2 this)
  ·obtain ⟨e, he, rfl⟩ := List.mem_map.1 hi
   obtain ⟨b, h1, _⟩ := hl.2.1.mem e he
   exact List.mem_map.2 ⟨_, h1, rfl⟩
theorem GLe.of_le2 {s1 s : Qan} (h : Le2 s1 s) : GLe s1 s := ⟨h.2.2.2, fun _ G γ _ _ hs => ⟨G, γ, Hp.le_refl G, hs.le2 h⟩⟩
def Qxj : List Nat → Nat → Bool
 | [], _ => false
 | a :: r, j => bif a == j then true else Qxj r j
def Qkj : List Nat → List (Nat × TV) → List (Nat × TV)
 | _, [] => []
 | W, (j, v) :: r => match Qxj W j with
  | true => Qkj W r
  | false => (j, v) :: Qkj (j :: W) r
def Qkg : List Nat → List (Nat × Box) → List (Nat × Box)
 | _, [] => []
 | W, (j, v) :: r => match Qxj W j with
  | true => Qkg W r
  | false => (j, v) :: Qkg W r
section
variable {E : Env} {K : KC} {sl sl1 : List (Nat × TV)} {mem mem1 : List (Nat × Box)} {pins : List Nat}
def Qi6 : List (Nat × TV) → List (Nat × TV) → Prop
 | [], _ => True
 | (j, _) :: r, sl => (Qd7 sl j).fact ∧ Qi6 r sl
theorem Qha {sl : List (Nat × TV)} (h : ∀ j, (Qd7 sl j).fact) : ∀ l : List (Nat × TV), Qi6 l sl
 | [] => trivial
 | (j, _) :: r => ⟨h j, Qha h r⟩
theorem Qbu {x : Code} {ι : Type} (W M : List Nat) (ok : ι → Prop) (ch : ι → List (Nat × TV)) (cm : ι → List (Nat × Box)) (μ : ι → Nat) (i0 : ι) (h0 : ok i0)
    (hsl : Qkj W sl = sl1) (hmem : Qkg M mem = mem1) (hle : Le2 ⟨ch i0 ++ sl1, cm i0 ++ mem1, pins⟩ ⟨sl, mem, pins⟩)
    (h : ∀ i, ok i → Qi6 (ch i) (ch i ++ sl1) ∧ Qff (cm i ++ mem1) → Qa9 E x ⟨ch i ++ sl1, cm i ++ mem1, pins⟩ (Qkn ok (fun i => ⟨ch i ++ sl1, cm i ++ mem1, pins⟩) μ i K)) : Qa9 E (.loop x) ⟨sl, mem, pins⟩ K := by
 subst hsl hmem
 exact ⟨ι, ok, fun i => ⟨ch i ++ Qkj W sl, cm i ++ Qkg M mem, pins⟩, μ, ⟨i0, h0, .of_le2 hle⟩, fun i hi h1 h2 => by
  have := h i hi ⟨Qha h1 _, h2⟩
  unfold Qkn at this
  exact this⟩
theorem Qro {x rest : Code} {ι : Type} (l : Nat) (hl : findLabel x l = some rest) (W M : List Nat) (ok : ι → Prop) (ch : ι → List (Nat × TV)) (cm : ι → List (Nat × Box)) (μ : ι → Nat)
    (hsl : Qkj W sl = sl1) (hmem : Qkg M mem = mem1) (h1 : Qa9 E x ⟨sl, mem, pins⟩ (Qno ok (fun i => ⟨ch i ++ sl1, cm i ++ mem1, pins⟩) l K))
    (h : ∀ i, ok i → Qi6 (ch i) (ch i ++ sl1) ∧ Qff (cm i ++ mem1) → Qa9 E rest ⟨ch i ++ sl1, cm i ++ mem1, pins⟩ (Qm3 ok (fun i => ⟨ch i ++ sl1, cm i ++ mem1, pins⟩) μ l i K)) : Qa9 E (.scope x) ⟨sl, mem, pins⟩ K := by
 subst hsl hmem
 refine .inr ⟨ι, ok, fun i => ⟨ch i ++ Qkj W sl, cm i ++ Qkg M mem, pins⟩, μ, l, rest, hl, ?_, fun i hi hf1 hf2 n R G γ a w hcf hs hn => ?_⟩
 ·unfold Qno at h1
  exact h1
 ·have := h i hi ⟨Qha hf1 _, hf2⟩
  unfold Qm3 at this
  exact Qcw rest this hcf hs hn
theorem Qvt {c y : Code} {ι : Type} (W M : List Nat) (ok : ι → Prop) (ch : ι → List (Nat × TV)) (cm : ι → List (Nat × Box)) (hsl : Qkj W sl = sl1) (hmem : Qkg M mem = mem1)
    (hc : ∀ K' : KC, (∀ j s', ok j → Le2 ⟨ch j ++ sl1, cm j ++ mem1, pins⟩ s' → Qpn K' s') → (∀ e s', e ≠ .normal → K e s' → K' e s') → Qa9 E c ⟨sl, mem, pins⟩ K')
    (hy : ∀ j, ok j → Qa9 E y ⟨ch j ++ sl1, cm j ++ mem1, pins⟩ K) : Qa9 E (.seq c y) ⟨sl, mem, pins⟩ K := by
 subst hsl hmem
 refine Qar (hc _ (fun j s' hj hl => Qqa _ (.of_le2 hl) (Qap (hy j hj))) fun e s' he hk => ?_)
 cases e with
 | normal => exact absurd rfl he
 | _ => unfold Qs2; exact hk
end
theorem Qvf {ι : Type} {ok : ι → Prop} {St : ι → Qan} {l : Nat} {K : KC} {s : Qan} (j : ι) (h : ok j) (hl : Le2 (St j) s) : Qno ok St l K (.goto l) s := by
 unfold Qno
 exact ⟨rfl, j, h, .of_le2 hl⟩
theorem Qr1 {ι : Type} {ok : ι → Prop} {St : ι → Qan} {μ : ι → Nat} {l : Nat} {i : ι} {K : KC} {s : Qan} (j : ι) (h : ok j) (hm : μ j < μ i) (hl : Le2 (St j) s) : Qm3 ok St μ l i K (.goto l) s := by
 unfold Qm3
 exact ⟨rfl, j, h, hm, .of_le2 hl⟩
theorem Qbv {ι : Type} {ok : ι → Prop} {St : ι → Qan} {μ : ι → Nat} {i : ι} {K : KC} {s : Qan} (j : ι) (h : ok j) (hm : μ j < μ i) (hl : Le2 (St j) s) : Qkn ok St μ i K .normal s := by
 unfold Qkn
 exact ⟨j, h, hm, .of_le2 hl⟩
def Qc9 (rets : List LV) (mem' : List (Nat × Box)) (tv : TV) (s : Qan) : Prop :=
 ∃ mx, Qdo (tv.list.map (SV.frz (Qiw (Qao mx) s.mem))) rets ∧ Qto mx s.mem ∧ (Qao mx).Nodup ∧ Qbb mx mem' ∧ ∀ i ∈ (tvL rets).ids, i < 5000
theorem Qc9.fin {rets : List LV} {mem' : List (Nat × Box)} {tv : TV} {s : Qan} (h : Qc9 rets mem' tv s) : Fin rets mem' tv s := by
 obtain ⟨mx, h1, h2, h3, h4, h5⟩ := h
 let g : Nat × Box → Nat × Box := fun e => (e.1, (Qco s.mem e.1).getD e.2)
 have hids : Qao (mx.map g) = Qao mx := by simp [Qao, g, Function.comp_def]
 have key : ∀ l : List (Nat × Box), Qto l s.mem → LeM (l.map g) s.mem ∧ ∀ e ∈ l, (g e).2.ex = e.2.ex := by
  intro l
  induction l with
  | nil => intro _; exact ⟨trivial, by simp⟩
  | cons e r ih =>
   intro h
   obtain ⟨b, hb⟩ := e
   obtain ⟨hx, hr⟩ := h
   obtain ⟨b', hb1, hb2⟩ := Option.map_eq_some_iff.1 hx
   obtain ⟨i1, i2⟩ := ih hr
   refine ⟨⟨by simp [g, hb1], i1⟩, ?_⟩
   intro e he
   rcases List.mem_cons.1 he with rfl | he
   ·simp [g, hb1, hb2]
   ·exact i2 e he
 obtain ⟨k1, k2⟩ := key mx h2
 refine ⟨mx.map g, by rw [hids]; exact h1, k1, by rw [hids]; exact h3, Qbb.trans ?_ h4, h5⟩
 intro R G γ w _ hm
 refine ⟨γ, fun _ _ => rfl, ?_⟩
 obtain ⟨fr, hn, hp, hb, hok⟩ := hm
 refine ⟨fr, h3, hp, fun e he => ?_, hids ▸ hok⟩
 have := hb (g e) (List.mem_map.2 ⟨e, he, rfl⟩)
 exact Box.ex_at.1 (k2 e he ▸ Box.ex_at.2 this)
def Qpx : List SV → Prop
 | [] => True
 | x :: r => x.fact ∧ Qpx r
theorem Qoc {G : Hp} {γ : Nat → Value} : ∀ {l : List SV} {us : List Value}, Qcv G γ l us → Qpx l
 | [], _, _ => trivial
 | _ :: _, _, ⟨_, _, _, hx, hl⟩ => ⟨SV.fact_of hx, Qoc hl⟩
theorem Qcs.go2 {ι : Type 1} {E : Env} {f : FuncId} {fn : Func} {args : List SV} {mem mem' : List (Nat × Box)} {rets : List LV} {body : Code} {res : List ResultVar} (mx : ι → List (Nat × Box)) (hop : Qc2 mem mx) (hf : E.P.funcs[f]? = some fn) (hi : Qcp E.P f) (hb : fn.body = some body) (hres : fn.results.toList = res)
    (hargs : ∀ i ∈ Qb1 args, i < 5000) (hlow : ∀ i ∈ Qao mem, i < 5000) (hfit : Qch fn.ntmps body = true) (hlen : Nat.ble args.length fn.ntmps = true)
    (h : Qpx args ∧ Qff mem → ∀ i, Qa9 E body ⟨Qcu 0 args, mx i, Qao mem⟩ (Qvs E.toCtx res fun vs s => Fin rets mem' (Ql7 vs) s)) : Qcs E.P f args mem (tvL rets) mem' := by
 refine ⟨hi, fun R G γ w vs hpin hm hv => ?_⟩
 have hfm : Qff mem := by
  obtain ⟨fr, _, _, hat, _⟩ := hm
  have : ∀ l : List (Nat × Box), (∀ e ∈ l, e ∈ mem) → Qff l := by
   intro l
   induction l with
   | nil => intro _; trivial
   | cons e l ih => intro h; exact ⟨Box.fact_of (hat e (h e (by simp))), ih fun x hx => h x (by simp [hx])⟩
  exact this _ fun _ h => h
 have h' := h ⟨Qoc hv, hfm⟩
 exact (Qcs.go mx hop hf hi hb hres hargs hlow hfit hlen h').2 R G γ w vs hpin hm hv
structure Qkc (P : Program) (f : FuncId) {σ α : Type} (O : σ → Qst) (A : Rep α) (pre : σ → α → Prop) (r : σ → α → List LV) (u : σ → α → σ) : Prop where
 fn : Qcp P f
 h : ∀ D x, pre D x → Qcs P f (.l (.ptr 1 [] 0) :: (A.argL x).map .l) [(1, .obj O D)] (tvL (r D x)) [(1, .obj O (u D x))]
theorem Qbr {P : Program} {f : FuncId} {σ α : Type} {O : σ → Qst} {A : Rep α} {pre : σ → α → Prop} {r : σ → α → List LV} {u : σ → α → σ} (c : Qkc P f O A pre r u) (hr : ∀ D x, (r D x).all LV.isData = true)
    {vs0 : List SV} {s : Qan} {K : KT} (hc : Qw5 O A pre r u vs0 0 s K) : Wc P f vs0 s K := Qvw c.fn c.h hr vs0 0 s K hc
attribute [push_cast] List.set_cons_zero List.set_cons_succ Qpx exL Box.ex Qto Le2 mxL LV.fact Qew SV.fact TV.fact Qi6 Box.fact Qff Qxj Qkj Qkg Qvg Qvv Qrm Qvc Qu9 Qm7 Rep.ok
end Go.Proofs.Ytnmjcdlgfimnaaa
namespace Go.Proofs.Ytnmjcdlgfimnaaa
def Qdw : Nat → List LV → List (Nat × Box)
 | _, [] => []
 | i, x :: r => (i, .segs [x]) :: Qdw (i + 1) r
def Qk3 : Nat → List LV → List SV
 | _, [] => []
 | i, _ :: r => .l (.ptr i [] 0) :: Qk3 (i + 1) r
def Qkx : {α : Type} → Rep α → LV → (α → Prop) → Prop
 | _, .int k, x, f => match x with
  | .int k' n => k' = k ∧ f n
  | _ => False
 | _, .bool, x, f => match x with
  | .bool b => f b
  | _ => False
 | _, .str, x, f => match x with
  | .str s => f s
  | _ => False
 | _, .unit, x, f => Qc7 .unit x f
 | _, .pair A B, x, f => Qc7 (.pair A B) x f
 | _, .arr n A, x, f => Qc7 (.arr n A) x f
 | _, .slice A, x, f => Qc7 (.slice A) x f
 | _, .iso A to of h h', x, f => A.scalar = false ∧ Qc7 (.iso A to of h h') x f
theorem Qft {α : Type} {R : Rep α} {x : LV} {f : α → Prop} (h : Qc7 R x f) : ∃ a, f a ∧ x = .dat R a := by
 unfold Qc7 at h
 split at h
 ·obtain ⟨e, hR, hf⟩ := h
  subst e
  obtain rfl := eq_of_heq hR
  exact ⟨_, hf, rfl⟩
 ·exact h.elim
theorem Qse : {α : Type} → (A : Rep α) → {x : LV} → {f : α → Prop} → Qkx A x f → ∃ a, f a ∧ x = A.leaf a
 | _, .int k, x, f, h => by
  cases x <;> simp only [Qkx] at h
  case int k' n => obtain ⟨rfl, h⟩ := h; exact ⟨_, h, rfl⟩
 | _, .bool, x, f, h => by
  cases x <;> simp only [Qkx] at h
  case bool b => exact ⟨_, h, rfl⟩
 | _, .str, x, f, h => by
  cases x <;> simp only [Qkx] at h
  case str b => exact ⟨_, h, rfl⟩
 | _, .unit, x, f, h => Qft h
 | _, .pair A B, x, f, h => Qft h
 | _, .arr n A, x, f, h => Qft h
 | _, .slice A, x, f, h => Qft h
 | _, .iso A to of h1 h2, x, f, h => by
  obtain ⟨hs, h⟩ : A.scalar = false ∧ Qc7 (.iso A to of h1 h2) x f := h
  obtain ⟨a, hf, e⟩ := Qft h
  refine ⟨a, hf, ?_⟩
  rw [e]
  unfold Rep.leaf
  rw [hs]; rfl
def Qfa : {α : Type} → Rep α → List LV → (α → Prop) → Prop
 | _, .unit, xs, f => match xs with
  | [] => f ()
  | _ => False
 | _, .pair A B, xs, f => match xs with
  | x :: r => Qkx A x fun a => Qfa B r fun b => f (a, b)
  | [] => False
 | _, _, _, _ => False
theorem Qnf : {α : Type} → (A : Rep α) → {xs : List LV} → {f : α → Prop} → Qfa A xs f → ∃ a, f a ∧ xs = A.argL a
 | _, .unit, xs, f, h => by
  cases xs <;> simp only [Qfa] at h
  exact ⟨(), h, rfl⟩
 | _, .pair A B, xs, f, h => by
  cases xs <;> simp only [Qfa] at h
  obtain ⟨a, h2, e1⟩ := Qse A h
  obtain ⟨b, h3, e2⟩ := Qnf B h2
  exact ⟨(a, b), h3, by rw [e1, e2]; rfl⟩
 | _, .int _, _, _, h => by simp [Qfa] at h
 | _, .bool, _, _, h => by simp [Qfa] at h
 | _, .str, _, _, h => by simp [Qfa] at h
 | _, .arr _ _, _, _, h => by simp [Qfa] at h
 | _, .slice _, _, _, h => by simp [Qfa] at h
 | _, .iso _ _ _ _ _, _, _, h => by simp [Qfa] at h
def Qmq (mem : List (Nat × Box)) : List SV → (List Nat → List LV → Prop) → Prop
 | [], f => f [] []
 | v :: r, f => match v with
  | .l (.ptr id [] 0) => (match Qco mem id with
   | some (.segs [x]) => Qmq mem r fun ids xs => f (id :: ids) (x :: xs)
   | _ => False)
  | _ => False
theorem Qjh {mem : List (Nat × Box)} : ∀ {vs : List SV} {f : List Nat → List LV → Prop}, Qmq mem vs f → ∃ ids xs, f ids xs ∧ vs = ids.map (fun i => .l (.ptr i [] 0)) ∧ ids.length = xs.length ∧ ∀ k (h1 : k < ids.length) (h2 : k < xs.length), Qco mem ids[k] = some (.segs [xs[k]])
 | [], f, h => ⟨[], [], h, rfl, rfl, fun k h => by simp at h⟩
 | v :: r, f, h => by
  unfold Qmq at h
  split at h
  ·rename_i id
   split at h
   ·rename_i x hx
    obtain ⟨ids, xs, hf, e, hl, hk⟩ := Qjh h
    refine ⟨id :: ids, x :: xs, hf, by rw [e]; rfl, by simp [hl], ?_⟩
    intro k h1 h2
    cases k with
    | zero => exact hx
    | succ k => exact hk k (by simpa using h1) (by simpa using h2)
   ·exact h.elim
  ·exact h.elim
structure Q0k (P : Program) (f : FuncId) {α β : Type} (A : Rep α) (B : Rep β) (pre : α → β → Prop) (r : α → β → List LV) : Prop where
 fn : Qcp P f
 h : ∀ x y, pre x y → Qcs P f ((A.argL x).map .l ++ Qk3 1 (B.argL y)) (Qdw 1 (B.argL y)) (tvL (r x y)) (Qdw 1 (B.argL y))
theorem Qhs : ∀ (i : Nat) (l : List LV), Qao (Qdw i l) = (List.range' i l.length)
 | _, [] => rfl
 | i, x :: r => by
  show i :: Qao (Qdw (i + 1) r) = _
  rw [Qhs (i + 1) r]; rfl
theorem Qky : ∀ (i : Nat) (l : List LV) (e : Nat × Box), e ∈ Qdw i l → ∃ k, ∃ h : k < l.length, e = (i + k, .segs [l[k]])
 | _, [], e, h => by simp [Qdw] at h
 | i, x :: r, e, h => by
  rcases List.mem_cons.1 h with rfl | h
  ·exact ⟨0, by simp, rfl⟩
  ·obtain ⟨k, hk, rfl⟩ := Qky (i + 1) r e h
   exact ⟨k + 1, by simpa using hk, by simp only [List.getElem_cons_succ]; congr 1; omega⟩
theorem Qk1 (ρ : Nat → Nat) : ∀ (i : Nat) (l : List LV) (ids : List Nat), ids.length = l.length → (∀ k (h : k < ids.length), ρ (i + k) = ids[k]) → (Qk3 i l).map (SV.ren ρ) = ids.map fun j => .l (.ptr j [] 0)
 | _, [], [], _, _ => rfl
 | _, [], _ :: _, h, _ => by simp at h
 | _, _ :: _, [], h, _ => by simp at h
 | i, x :: r, j :: ids, h, hρ => by
  simp only [Qk3, List.map_cons]
  rw [Qk1 ρ (i + 1) r ids (by simpa using h) (fun k hk => by
   have := hρ (k + 1) (by simpa using hk)
   simp only [List.getElem_cons_succ] at this
   rw [← this]; congr 1; omega)]
  have := hρ 0 (by simp)
  simp only [Nat.add_zero, List.getElem_cons_zero] at this
  simp [SV.ren, LV.ren, this]
theorem Qot {l m : List (Nat × Box)} {i : Nat} : Qco (l ++ m) i = match Qco l i with
    | some b => some b
    | none => Qco m i := by
 induction l with
 | nil => rfl
 | cons e r ih =>
  obtain ⟨j, b⟩ := e
  simp only [List.cons_append, Qco]
  cases j == i <;> simp [ih]
theorem Qvn {mem : List (Nat × Box)} {i j : Nat} (h : j ≠ i) : Qco (rmM mem i) j = Qco mem j := by
 induction mem with
 | nil => rfl
 | cons e r ih =>
  obtain ⟨k, b⟩ := e
  unfold rmM
  cases hk : k == i
  ·simp only [cond_false, Qco, ih]
  ·have : k = i := by simpa using hk
   subst this
   have : (k == j) = false := by simpa using Ne.symm h
   simp only [cond_true, Qco, this, cond_false, ih]
theorem Qpq {mem : List (Nat × Box)} {j : Nat} : ∀ {ids : List Nat}, j ∉ ids → Qco (Qiw ids mem) j = Qco mem j
 | [], _ => rfl
 | i :: r, h => by
  simp only [List.mem_cons, not_or] at h
  unfold Qiw
  rw [Qvn h.1, Qpq h.2]
theorem Qpm {mem : List (Nat × Box)} (hn : (Qao mem).Nodup) {e : Nat × Box} (h : e ∈ mem) : Qco mem e.1 = some e.2 := by
 induction mem with
 | nil => simp at h
 | cons x r ih =>
  obtain ⟨k, b⟩ := x
  simp only [Qao, List.map_cons, List.nodup_cons] at hn
  rcases List.mem_cons.1 h with rfl | h
  ·simp [Qco]
  ·have : k ≠ e.1 := fun e' => hn.1 (e' ▸ List.mem_map.2 ⟨e, h, rfl⟩)
   have hk : (k == e.1) = false := by simpa using this
   simp only [Qco, hk, cond_false]
   exact ih hn.2 h
theorem Qcv.take {G : Hp} {γ : Nat → Value} : ∀ (n : Nat) {l : List SV} {us : List Value}, Qcv G γ l us → ∃ a b, us = a ++ b ∧ Qcv G γ (l.take n) a ∧ Qcv G γ (l.drop n) b
 | 0, l, us, h => ⟨[], us, rfl, rfl, by simpa using h⟩
 | n + 1, [], us, h => ⟨[], us, rfl, rfl, h⟩
 | n + 1, x :: l, us, ⟨v, r, e, hx, hr⟩ => by
  obtain ⟨a, b, rfl, h1, h2⟩ := Qcv.take n hr
  exact ⟨v :: a, b, by rw [e]; rfl, ⟨v, a, rfl, hx, h1⟩, h2⟩
theorem Qcv.cat {G : Hp} {γ : Nat → Value} : ∀ {l m : List SV} {a b : List Value}, Qcv G γ l a → Qcv G γ m b → Qcv G γ (l ++ m) (a ++ b)
 | [], _, _, _, h, h' => by simp only [Qcv] at h; subst h; exact h'
 | _ :: _, _, _, _, ⟨v, r, e, hx, hr⟩, h' => ⟨v, r ++ _, by rw [e]; rfl, hx, Qcv.cat hr h'⟩
theorem Qoh : ∀ {l : List Nat}, l.Nodup → ∀ {i j : Nat} (hi : i < l.length) (hj : j < l.length), l[i] = l[j] → i = j
 | [], _, _, _, hi, _, _ => by simp at hi
 | x :: r, h, 0, 0, _, _, _ => rfl
 | x :: r, h, 0, j + 1, _, hj, e => by
  rw [List.nodup_cons] at h
  simp only [List.getElem_cons_zero, List.getElem_cons_succ] at e
  exact absurd (e ▸ List.getElem_mem (by simpa using hj)) h.1
 | x :: r, h, i + 1, 0, hi, _, e => by
  rw [List.nodup_cons] at h
  simp only [List.getElem_cons_zero, List.getElem_cons_succ] at e
  exact absurd (e ▸ List.getElem_mem (by simpa using hi)) h.1
 | x :: r, h, i + 1, j + 1, hi, hj, e => by
  rw [List.nodup_cons] at h
  simp only [List.getElem_cons_succ] at e
  have := Qoh h.2 (by simpa using hi) (by simpa using hj) e
  omega
theorem Qn7 {mem : List (Nat × Box)} {i : Nat} (h : i ∈ Qao mem) : Qco mem i ≠ none := by
 induction mem with
 | nil => simp [Qao] at h
 | cons e r ih =>
  obtain ⟨k, b⟩ := e
  simp only [Qao, List.map_cons, List.mem_cons] at h
  unfold Qco
  cases hk : k == i
  ·simp only [cond_false]
   refine ih ?_
   rcases h with h | h
   ·simp [h] at hk
   ·exact h
  ·simp
theorem Qc4.leM {R : Fr} {G : Hp} {γ : Nat → Value} {s s1 : Qan} {a : Act} {w : World} (h : Qc4 R G γ s a w) (h1 : s1.sl = s.sl) (h2 : LeM s1.mem s.mem) (h3 : (Qao s1.mem).Nodup) (h4 : s1.pins = s.pins) : Qc4 R G γ s1 a w :=
 ⟨fun i => by rw [h1]; exact h.sl i, h.mem.sub h3 (LeM.mem h2), h.df, h4 ▸ h.pn⟩
theorem Qtz {P : Program} {f : FuncId} {α β : Type} {A : Rep α} {B : Rep β} {pre : α → β → Prop} {r : α → β → List LV} (c : Q0k P f A B pre r) (n : Nat) (hr : ∀ x y, (r x y).all LV.isData = true)
    {vs0 : List SV} {s : Qan} {K : KT} (hc : Qmq s.mem (vs0.drop n) fun ids xs => ids.Nodup ∧ Qfa B xs fun y => Qdh A (vs0.take n) fun x => pre x y ∧ (Qew (r x y) → K (tvL (r x y)) s)) : Wc P f vs0 s K := by
 obtain ⟨ids, xs, ⟨hnd, hc⟩, ev, hl, hk⟩ := Qjh hc
 obtain ⟨y, hc2, rfl⟩ := Qnf B hc
 refine ⟨c.fn, ?_⟩
 intro R G γ a w vs hs hv
 obtain ⟨ua, ub, rfl, hva, hvb⟩ := Qcv.take n hv
 obtain ⟨x, ⟨hpre, hK⟩, hx⟩ := Qcx A hc2 hva
 have hsp := c.h x y hpre
 let ρ : Nat → Nat := fun i => ids.getD (i - 1) 0
 have hρ : ∀ k (h : k < ids.length), ρ (1 + k) = ids[k] := by
  intro k h
  simp only [ρ, Nat.add_sub_cancel_left, List.getD_eq_getElem?_getD, List.getElem?_eq_getElem h]; rfl
 have hids : ∀ i ∈ Qao (Qdw 1 (B.argL y)), ∃ k, ∃ h : k < ids.length, i = 1 + k ∧ ρ i = ids[k] := by
  intro i hi
  rw [Qhs, List.mem_range'_1] at hi
  refine ⟨i - 1, by omega, by omega, ?_⟩
  have := hρ (i - 1) (by omega)
  rw [← this]; congr 1; omega
 have hnds : (Qao s.mem).Nodup := hs.mem.choose_spec.nd
 have hdt := B.argL_data y
 have hdm : ∀ x ∈ B.argL y, x.isData = true := by simpa using hdt
 have hinj : ∀ i ∈ Qao (Qdw 1 (B.argL y)), ∀ j ∈ Qao (Qdw 1 (B.argL y)), ρ i = ρ j → i = j := by
  intro i hi j hj e
  obtain ⟨k, hk1, rfl, e1⟩ := hids i hi
  obtain ⟨l, hl1, rfl, e2⟩ := hids j hj
  rw [e1, e2] at e
  have := Qoh hnd hk1 hl1 e
  omega
 have hbox : ∀ e ∈ Qdw 1 (B.argL y), Qco s.mem (ρ e.1) = some (e.2.ren ρ) ∧ e.2.ids = [] ∧ e.2.ren ρ = e.2 := by
  intro e he
  obtain ⟨k, h1, rfl⟩ := Qky 1 _ e he
  have h2 : k < ids.length := by omega
  have hd := hdm _ (List.getElem_mem h1)
  have e2 : (Box.segs [(B.argL y)[k]]).ren ρ = .segs [(B.argL y)[k]] := by simp [Box.ren, LV.ren_data hd]
  refine ⟨?_, by simp [Box.ids, Qez, LV.ids_data hd], e2⟩
  simp only
  rw [e2, hρ k h2]
  exact hk k h2 h1
 have hw : Wc P f ((A.argL x).map .l ++ ids.map fun j => .l (.ptr j [] 0)) s (fun tv s' => tv = tvL (r x y) ∧ s' = s.back ((Qao (Qdw 1 (B.argL y))).map ρ) [] (Qer ρ (Qdw 1 (B.argL y)))) := by
  refine Qde hsp ρ [] ?_ hinj hinj (fun j h1 h2 => absurd h1 h2) (by simp) ?_ ?_ (fun e he => (hbox e he).1) ?_ ?_
  ·rw [Qhs]; exact List.nodup_range'
  ·intro i hi
   rw [Qf9 (Qev (hr x y))] at hi
   simp at hi
  ·intro e he i hi
   rw [(hbox e he).2.1] at hi
   simp at hi
  ·intro G γ us hu
   rw [List.map_append, Qdf (A.argL_data x), Qk1 ρ 1 _ ids hl fun k h => hρ k h]
   exact hu
  ·rw [Qjk (hr x y)]
   exact ⟨rfl, rfl⟩
 refine (hw.2 R G γ a w _ hs (Qcv.cat hx (ev ▸ hvb))).mono ?_
 rintro e w' ⟨v, rfl, G', γ', tv, s', hg, ⟨rfl, rfl⟩, hrel, hs'⟩
 refine ⟨v, rfl, G', γ', _, s, hg, hK (Qgz hrel), hrel, hs'.leM rfl ?_ hnds rfl⟩
 ·have : ∀ l : List (Nat × Box), (∀ e ∈ l, e ∈ s.mem) → LeM l (s.back ((Qao (Qdw 1 (B.argL y))).map ρ) [] (Qer ρ (Qdw 1 (B.argL y)))).mem := by
   intro l
   induction l with
   | nil => intro _; trivial
   | cons e l ih =>
    intro h
    refine ⟨?_, ih fun x hx => h x (by simp [hx])⟩
    have hm := Qpm hnds (h e (by simp))
    simp only [Qan.back, Qfe, Qot]
    cases hg : Qco (Qer ρ (Qdw 1 (B.argL y))) e.1 with
    | none =>
     simp only
     rw [Qpq, hm]
     intro hin
     obtain ⟨i, hi, e1⟩ := List.mem_map.1 hin
     obtain ⟨e2, he2, rfl⟩ := List.mem_map.1 hi
     exact Qn7 (mem := Qer ρ (Qdw 1 (B.argL y))) (by rw [Qe2]; exact List.mem_map.2 ⟨_, hi, e1⟩) hg
    | some b =>
     simp only
     obtain ⟨e2, he2, e3⟩ := Ql8 (Qca hg)
     simp only [Prod.mk.injEq] at e3
     rw [← hm, e3.1, (hbox e2 he2).1, e3.2]
  exact this _ fun _ h => h
end Go.Proofs.Ytnmjcdlgfimnaaa
namespace Go.Proofs.Ytnmjcdlgfimnaaa
def Qan.shut (s : Qan) {α : Type} (A : Rep α) (m id : Nat) (M : Int → List α) (V : Int → Value) (k : Int) (l : List α) : Qan := ⟨s.sl, rmM (Qhg s.mem m (.mpr A (Qf8 M k l) V none)) id, s.pins⟩
theorem GLe.shut {s : Qan} {α : Type} {A : Rep α} {m id : Nat} {M : Int → List α} {V : Int → Value} {k : Int} {l : List α} (hg : Qco s.mem m = some (.mpr A M V (some (k, some id)))) (hgd : Qco s.mem id = some (.arr A l)) : GLe (s.shut A m id M V k l) s :=
 ⟨rfl, fun _ G γ _ _ hs => ⟨G, γ, Hp.le_refl G, ⟨hs.sl, hs.mem.closeRow hg hgd, hs.df, hs.pn⟩⟩⟩
theorem Qm2 {ι : Type} {ok : ι → Prop} {St : ι → Qan} {μ : ι → Nat} {i : ι} {K : KC} {s : Qan} {α : Type} {A : Rep α} (m id : Nat) {M : Int → List α} {V : Int → Value} {k : Int} {l : List α} (hg : Qco s.mem m = some (.mpr A M V (some (k, some id)))) (hgd : Qco s.mem id = some (.arr A l))
    (j : ι) (h : ok j) (hm : μ j < μ i) (hl : Le2 (St j) (s.shut A m id M V k l)) : Qkn ok St μ i K .normal s := by
 unfold Qkn
 exact ⟨j, h, hm, GLe.trans (.of_le2 hl) (.shut hg hgd)⟩
attribute [push_cast] Qan.shut
end Go.Proofs.Ytnmjcdlgfimnaaa
namespace Go.Proofs.Ytnmjcdlgfimnaaa
structure Qug (P : Program) (f : FuncId) {σ α : Type} (n : Nat) (O : σ → Qst) (A : Rep α) (pre : α → Prop) (u : α → σ) : Prop where
 fn : Qcp P f
 h : ∀ x, pre x → Qcs P f ((A.argL x).map .l) [] (tvL [.ptr n [] 0]) [(n, .obj O (u x))]
theorem Qqd {P : Program} {f : FuncId} {σ α : Type} {O : σ → Qst} {A : Rep α} {pre : α → Prop} {u : α → σ} {n : Nat} (c : Qug P f n O A pre u) (id : Nat)
    {vs0 : List SV} {s : Qan} {K : KT} (hc : s.room id ∧ Qdh A vs0 fun x => pre x ∧ K (tvL [.ptr id [] 0]) (s.back [] [id] [(id, .obj O (u x))])) : Wc P f vs0 s K := by
 obtain ⟨hroom, hc⟩ := hc
 refine ⟨c.fn, ?_⟩
 intro R G γ a w vs hs hv
 obtain ⟨x, ⟨hpre, hK⟩, hx⟩ := Qcx A hc hv
 have hsp := c.h x hpre
 have hw : Wc P f ((A.argL x).map .l) s K := by
  refine Qde hsp (fun _ => id) [id] (by simp [Qao]) (by simp [Qao]) (by simp [Qao]) (by simp) ?_ ?_ ?_ (by simp) ?_ ?_
  ·intro i hi
   simp only [List.mem_singleton] at hi
   subst hi
   simpa [Qan.room] using hroom
  ·intro i hi
   simp only [tvL, TV.ids, SV.ids, LV.ids, List.mem_singleton] at hi
   subst hi
   simp [Qao]
  ·intro e he i hi
   simp only [List.mem_singleton] at he
   subst he
   simp [Box.ids] at hi
  ·intro G γ us hu
   rw [Qdf (A.argL_data x)]
   exact hu
  ·exact hK
 exact hw.2 R G γ a w _ hs hx
theorem Qlv {σ : Type} {ι : Type 1} {ok : σ → ι → Prop} {mm : ι → List (Nat × Box)} {root id : Nat} {D : σ} {rest : List (Nat × Box)} (i : ι) (ρ : Nat → Nat) (hok : ok D i) (hρ : ρ root = id) (hr : root ∈ Qao (mm i)) (hn : (Qao (mm i)).Nodup)
    (hinj : ∀ a ∈ Qao (mm i), ∀ b ∈ Qao (mm i), ρ a = ρ b → a = b) : Qbb (Qer ρ (mm i) ++ rest) ((id, .obj (Qn2 ok mm root) D) :: rest) := by
 intro R G γ w _ ⟨fr, hnd, hp, hat, hok'⟩
 refine ⟨γ, fun _ _ => rfl, ?_⟩
 classical
 have hids : Qao (Qer ρ (mm i) ++ rest) = (Qao (mm i)).map ρ ++ Qao rest := by
  simp only [Qao, List.map_append]
  congr 1
  exact Qe2 (mm i)
 rw [hids] at hnd hok'
 simp only [List.nodup_append] at hnd
 obtain ⟨hn1, hn2, hn3⟩ := hnd
 have hroot : id ∈ (Qao (mm i)).map ρ := List.mem_map.2 ⟨root, hr, hρ⟩
 have hin : ∀ j ∈ Qao (mm i), ρ j ∈ (Qao (mm i)).map ρ ++ Qao rest := fun j hj => List.mem_append.2 (.inl (List.mem_map.2 ⟨j, hj, rfl⟩))
 let f : Hp := fun b => if h : ∃ j ∈ Qao (mm i), fr (ρ j) b ≠ none then fr (ρ (Classical.choose h)) b else none
 have hf : ∀ b o, f b = some o ↔ ∃ j ∈ Qao (mm i), fr (ρ j) b = some o := by
  intro b o
  simp only [f]
  by_cases h : ∃ j ∈ Qao (mm i), fr (ρ j) b ≠ none
  ·rw [dif_pos h]
   obtain ⟨h1, h2⟩ := Classical.choose_spec h
   constructor
   ·intro h3; exact ⟨_, h1, h3⟩
   ·rintro ⟨j, hj, h3⟩
    by_cases e : ρ (Classical.choose h) = ρ j
    ·rw [e]; exact h3
    ·have := hok'.ff _ (hin _ h1) _ (hin j hj) e b h2
     rw [h3] at this; simp at this
  ·rw [dif_neg h]
   constructor
   ·intro h3; simp at h3
   ·rintro ⟨j, hj, h3⟩
    exact absurd ⟨j, hj, by simp [h3]⟩ h
 have hrr : id ∉ Qao rest := fun h => hn3 id hroot id h rfl
 refine ⟨Qfi fr id f, ?_, hp, ?_, ?_⟩
 ·simp only [Qao, List.map_cons, List.nodup_cons]
  exact ⟨hrr, hn2⟩
 ·intro e he
  rcases List.mem_cons.1 he with rfl | he
  ·rw [Qbc]
   refine ⟨i, fun j => γ (ρ j), fun j => fr (ρ j), hok, by simp only [hρ], hn, hr, ?_, ?_, hf⟩
   ·intro e he
    have hmem : (ρ e.1, e.2.ren ρ) ∈ Qer ρ (mm i) ++ rest := by
     refine List.mem_append.2 (.inl ?_)
     have gen : ∀ (mem : List (Nat × Box)), e ∈ mem → (ρ e.1, e.2.ren ρ) ∈ Qer ρ mem := by
      intro mem
      induction mem with
      | nil => intro h; simp at h
      | cons x r ih =>
       intro h
       rcases List.mem_cons.1 h with rfl | h
       ·exact List.mem_cons.2 (.inl rfl)
       ·exact List.mem_cons.2 (.inr (ih h))
     exact gen (mm i) he
    exact Box.ren_at.1 (hat _ hmem)
   ·intro a ha b hb hab c hc
    exact hok'.ff _ (hin a ha) _ (hin b hb) (fun e => hab (hinj a ha b hb e)) c hc
  ·have hm : e.1 ∈ Qao rest := List.mem_map.2 ⟨e, he, rfl⟩
   have : e.1 ≠ id := fun h => hrr (h ▸ hm)
   rw [Qbh this]
   exact hat e (List.mem_append.2 (.inr he))
 ·refine hok'.reshape ?_ ?_
  ·intro j hj b o hb
   simp only [Qao, List.map_cons, List.mem_cons] at hj
   by_cases e : j = id
   ·subst e
    rw [Qbc] at hb
    obtain ⟨l, hl, h⟩ := (hf b o).1 hb
    exact ⟨ρ l, hin l hl, h⟩
   ·rw [Qbh e] at hb
    exact ⟨j, List.mem_append.2 (.inr (hj.resolve_left e)), hb⟩
  ·have cross : ∀ l ∈ Qao rest, ∀ b, f b ≠ none → fr l b = none := by
    intro l hl b hb
    obtain ⟨o, ho⟩ := Option.ne_none_iff_exists'.1 hb
    obtain ⟨j, hj, h⟩ := (hf b o).1 ho
    exact hok'.ff _ (hin j hj) l (List.mem_append.2 (.inr hl)) (hn3 _ (List.mem_map.2 ⟨j, hj, rfl⟩) l hl) b (by simp [h])
   intro j hj l hl hjl b hb
   simp only [Qao, List.map_cons, List.mem_cons] at hj hl
   by_cases e : j = id
   ·subst e
    rw [Qbc] at hb
    rw [Qbh (Ne.symm hjl)]
    exact cross l (hl.resolve_left (Ne.symm hjl)) b hb
   ·rw [Qbh e] at hb
    by_cases e' : l = id
    ·subst e'
     rw [Qbc]
     cases hx : f b with
     | none => rfl
     | some x => exact absurd (cross j (hj.resolve_left e) b (by simp [hx])) hb
    ·rw [Qbh e']
     exact hok'.ff j (List.mem_append.2 (.inr (hj.resolve_left e))) l (List.mem_append.2 (.inr (hl.resolve_left e'))) hjl b hb
attribute [push_cast] Qan.back Qhk Qfe
end Go.Proofs.Ytnmjcdlgfimnaaa
namespace Go.Proofs.Ytnmjcdlgfimnaaa
theorem Qec {E : Env} {ops : List Oper} {late Q : List Nat} {x y : Sch} {i : Nat} {e : Bool} {o : Oper} {sl : List (Nat × TV)} {mem : List (Nat × Box)} {pins : List Nat} {Z : Qan → Prop}
    (hi : ops[i]? = some o) (hg : o.guard = none) (hd : o.dst = none) (he : (e || late.contains i) = false) (h2 : Qbp E ops late Q y e ⟨sl, mem, pins⟩ Z)
    (h : ∀ K' : KT, (∀ tv sl' mem' pins' m2, Qgx Q mem' = true → mem' ++ Qcy Q mem = m2 → Qbp E ops late Q x false ⟨sl', m2, pins⟩ Z → K' tv ⟨sl', mem', pins'⟩) → Qfl E o (Qan.hide ⟨sl, mem, pins⟩ Q) K') : Qbp E ops late Q (.or i x y) e ⟨sl, mem, pins⟩ Z := by
 unfold Qbp Qdp
 rw [hi]
 simp only [hg, he, cond_false]
 refine ⟨h _ fun tv sl' mem' pins' m2 hb hm h => ?_, h2⟩
 subst hm
 rw [hd]; exact ⟨hb, h⟩
theorem Qdv {E : Env} {ops : List Oper} {late Q : List Nat} {x : Sch} {i : Nat} {e : Bool} {o : Oper} {sl : List (Nat × TV)} {mem : List (Nat × Box)} {pins : List Nat} {Z : Qan → Prop} {j d d' : Nat} {want : Bool}
    (hi : ops[i]? = some o) (hg : o.guard = some (j, want)) (hj : (ops[j]?).bind (·.dst) = some d') (hd : o.dst = some d) (hs : Qd7 sl d' = .tup [])
    (h : Qbp E ops late Q x e ⟨(d, .tup []) :: sl, mem, pins⟩ Z) : Qbp E ops late Q (.free i x) e ⟨sl, mem, pins⟩ Z := by
 unfold Qbp Qdp
 rw [hi]
 simp only [hg, hj, hs]
 rw [hd]; exact h
theorem Qdt {E : Env} {ops : List Oper} {late Q : List Nat} {x : Sch} {i : Nat} {e : Bool} {o : Oper} {sl : List (Nat × TV)} {mem : List (Nat × Box)} {pins : List Nat} {Z : Qan → Prop} {j d d' : Nat} {want b : Bool}
    (hi : ops[i]? = some o) (hg : o.guard = some (j, want)) (hj : (ops[j]?).bind (·.dst) = some d') (hd : o.dst = some d) (hs : Qd7 sl d' = .one (.l (.bool b)))
    (h1 : b = want → ∀ K' : KT, (∀ tv s', Qbp E ops late Q x e ⟨(d, tv) :: (d', .one (.l (.bool want))) :: sl, mem, pins⟩ Z → K' tv s') → Qhp E.toCtx o ⟨(d', .one (.l (.bool want))) :: sl, mem, pins⟩ K')
    (h2 : b = !want → Qbp E ops late Q x e ⟨(d, .tup []) :: (d', .one (.l (.bool (!want)))) :: sl, mem, pins⟩ Z) : Qbp E ops late Q (.free i x) e ⟨sl, mem, pins⟩ Z := by
 unfold Qbp Qdp
 rw [hi]
 simp only [hg, hj, hs]
 refine ⟨fun hb => h1 hb _ fun tv s' h => ?_, fun hb => ?_⟩
 ·rw [hd]; exact h
 ·rw [hd]; exact h2 hb
theorem Qed {E : Env} {ops : List Oper} {late Q : List Nat} {x y : Sch} {i : Nat} {e : Bool} {o : Oper} {sl : List (Nat × TV)} {mem : List (Nat × Box)} {pins : List Nat} {Z : Qan → Prop} {j d d' : Nat} {want : Bool}
    (hi : ops[i]? = some o) (hg : o.guard = some (j, want)) (hj : (ops[j]?).bind (·.dst) = some d') (hd : o.dst = some d) (hs : Qd7 sl d' = .tup [])
    (h : Qbp E ops late Q x (e || late.contains i) ⟨(d, .tup []) :: sl, mem, pins⟩ Z) (h3 : Qbp E ops late Q y e ⟨sl, mem, pins⟩ Z) : Qbp E ops late Q (.or i x y) e ⟨sl, mem, pins⟩ Z := by
 unfold Qbp Qdp
 rw [hi]
 simp only [hg, hj, hs]
 refine ⟨?_, h3⟩
 rw [hd]; exact h
theorem Qeb {E : Env} {ops : List Oper} {late Q : List Nat} {x y : Sch} {i : Nat} {e : Bool} {o : Oper} {sl : List (Nat × TV)} {mem : List (Nat × Box)} {pins : List Nat} {Z : Qan → Prop} {j d d' : Nat} {want b : Bool}
    (hi : ops[i]? = some o) (hg : o.guard = some (j, want)) (hj : (ops[j]?).bind (·.dst) = some d') (hd : o.dst = some d) (he : (e || late.contains i) = false) (hs : Qd7 sl d' = .one (.l (.bool b)))
    (h1 : b = want → ∀ K' : KT, (∀ tv sl' mem' pins' m2, Qgx Q mem' = true → mem' ++ Qcy Q mem = m2 → Qbp E ops late Q x false ⟨(d, tv) :: sl', m2, pins⟩ Z → K' tv ⟨sl', mem', pins'⟩) → Qfl E o (Qan.hide ⟨(d', .one (.l (.bool want))) :: sl, mem, pins⟩ Q) K')
    (h2 : b = !want → Qbp E ops late Q x false ⟨(d, .tup []) :: (d', .one (.l (.bool (!want)))) :: sl, mem, pins⟩ Z)
    (h3 : Qbp E ops late Q y e ⟨sl, mem, pins⟩ Z) : Qbp E ops late Q (.or i x y) e ⟨sl, mem, pins⟩ Z := by
 unfold Qbp Qdp
 rw [hi]
 simp only [hg, hj, hs, he, cond_false]
 refine ⟨⟨fun hb => h1 hb _ fun tv sl' mem' pins' m2 hb' hm h => ?_, fun hb => ?_⟩, h3⟩
 ·subst hm
  rw [hd]; exact ⟨hb', h⟩
 ·rw [hd]; exact h2 hb
end Go.Proofs.Ytnmjcdlgfimnaaa
