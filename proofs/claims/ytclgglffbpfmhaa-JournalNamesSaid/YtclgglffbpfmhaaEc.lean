/- More operations that turn nothing: numbers, equality, conversions, literals, parts of rows, maps asked. -/
import Derived.Test.YtclgglffbpfmhaaEb
import Derived.Laws.Cells
namespace Go.Proofs.Ytclgglffbpfmhaa
set_option linter.unusedSimpArgs false
set_option linter.unusedVariables false
section
variable {γ : Gm} {sl : Ss} {a : Act} {P : Program} {o : Oper} {hp : Hs} {w : World}

def bitsE (op : BinOp) (k : IntKind) (a b : Int) : Int :=
  let x := BitVec.ofInt k.bits a
  let y := BitVec.ofInt k.bits b
  k.wrap (match op with
    | .and => (x &&& y).toNat
    | .or => (x ||| y).toNat
    | .xor => (x ^^^ y).toNat
    | _ => (x &&& ~~~y).toNat)
def shlE (k : IntKind) (a b : Int) : Int := k.wrap (a * 2 ^ min b.toNat k.bits)
def shrE (k : IntKind) (a b : Int) : Int := a.fdiv (2 ^ min b.toNat k.bits)
def intE (op : BinOp) (k : IntKind) (a b : Int) : Option AV := match op with
  | .add => some (.i k (k.wrap (a + b)))
  | .sub => some (.i k (k.wrap (a - b)))
  | .mul => some (.i k (k.wrap (a * b)))
  | .quo => bif decide (b = 0) then none else some (.i k (k.wrap (a.tdiv b)))
  | .rem => bif decide (b = 0) then none else some (.i k (a.tmod b))
  | .and => some (.i k (bitsE .and k a b))
  | .or => some (.i k (bitsE .or k a b))
  | .xor => some (.i k (bitsE .xor k a b))
  | .andNot => some (.i k (bitsE .andNot k a b))
  | .eql => some (.b (decide (a = b)))
  | .neq => some (.b (!decide (a = b)))
  | .lss => some (.b (decide (a < b)))
  | .leq => some (.b (decide (a ≤ b)))
  | .gtr => some (.b (decide (b < a)))
  | .geq => some (.b (decide (b ≤ a)))
  | _ => none
theorem intE_sound {op : BinOp} {k : IntKind} {a b : Int} {z : AV} (h : intE op k a b = some z) (t : TypeId) (x y : Operand) :
    ∃ v, (∀ w, (do eqGuard op t x y (.int k a) (.int k b); binOp op t (.int k a) (.int k b) : Sem Value).run P w = .ok v w) ∧ ∀ (γ : Gm), z.rel γ v := by
  have hg : ∀ w, (eqGuard op t x y (.int k a) (.int k b)).run P w = .ok () w := by intro w; unfold eqGuard; split <;> simp
  cases op <;> simp only [intE, Option.some.injEq, reduceCtorEq] at h
  case add => subst h; exact ⟨.int k (k.wrap (a + b)), fun w => by simp [hg, binOp, Op.intArith], fun _ => rfl⟩
  case sub => subst h; exact ⟨.int k (k.wrap (a - b)), fun w => by simp [hg, binOp, Op.intArith], fun _ => rfl⟩
  case mul => subst h; exact ⟨.int k (k.wrap (a * b)), fun w => by simp [hg, binOp, Op.intArith], fun _ => rfl⟩
  case quo =>
    by_cases hb : b = 0
    · simp [hb] at h
    · simp only [hb, decide_false, cond_false, Option.some.injEq] at h
      subst h
      exact ⟨.int k (k.wrap (a.tdiv b)), fun w => by simp [hg, binOp, Op.intDiv, hb], fun _ => rfl⟩
  case rem =>
    by_cases hb : b = 0
    · simp [hb] at h
    · simp only [hb, decide_false, cond_false, Option.some.injEq] at h
      subst h
      exact ⟨.int k (a.tmod b), fun w => by simp [hg, binOp, Op.intDiv, hb], fun _ => rfl⟩
  case and => subst h; exact ⟨.int k (bitsE .and k a b), fun w => by simp only [Sem.run_bind, hg, Result.andThen_ok, binOp, Op.intBits, ne_eq, not_true_eq_false, if_false, Sem.run_pure]; rfl, fun _ => rfl⟩
  case or => subst h; exact ⟨.int k (bitsE .or k a b), fun w => by simp only [Sem.run_bind, hg, Result.andThen_ok, binOp, Op.intBits, ne_eq, not_true_eq_false, if_false, Sem.run_pure]; rfl, fun _ => rfl⟩
  case xor => subst h; exact ⟨.int k (bitsE .xor k a b), fun w => by simp only [Sem.run_bind, hg, Result.andThen_ok, binOp, Op.intBits, ne_eq, not_true_eq_false, if_false, Sem.run_pure]; rfl, fun _ => rfl⟩
  case andNot => subst h; exact ⟨.int k (bitsE .andNot k a b), fun w => by simp only [Sem.run_bind, hg, Result.andThen_ok, binOp, Op.intBits, ne_eq, not_true_eq_false, if_false, Sem.run_pure]; rfl, fun _ => rfl⟩
  case eql => subst h; exact ⟨.bool (decide (a = b)), fun w => by simp [hg, binOp, Op.intCmp]; rfl, fun _ => rfl⟩
  case neq => subst h; exact ⟨.bool (!decide (a = b)), fun w => by simp [hg, binOp, Op.intCmp]; rfl, fun _ => rfl⟩
  case lss => subst h; exact ⟨.bool (decide (a < b)), fun w => by simp [hg, binOp, Op.intCmp], fun _ => rfl⟩
  case leq => subst h; exact ⟨.bool (decide (a ≤ b)), fun w => by simp [hg, binOp, Op.intCmp], fun _ => rfl⟩
  case gtr => subst h; exact ⟨.bool (decide (b < a)), fun w => by simp [hg, binOp, Op.intCmp], fun _ => rfl⟩
  case geq => subst h; exact ⟨.bool (decide (b ≤ a)), fun w => by simp [hg, binOp, Op.intCmp], fun _ => rfl⟩

/-! Equality. -/
def eqR (op : BinOp) (b : Bool) : Option AV := match op with
  | .eql => some (.b b)
  | .neq => some (.b (!b))
  | _ => none
theorem run_eql {t : TypeId} {x y : Value} {b : Bool} (h : (Op.equalIn 10000 t x y).run P w = .ok b w) (hx : ∀ k n, x ≠ .int k n) (hf : ∀ k n, x ≠ .float k n) (hc : ∀ k m n, x ≠ .complex k m n) (hs : ∀ k, x ≠ .string k) :
    (binOp .eql t x y).run P w = .ok (.bool b) w ∧ (binOp .neq t x y).run P w = .ok (.bool (!b)) w := by
  have h' : (Op.equal t x y).run P w = .ok b w := h
  constructor
  · unfold binOp
    split <;> first | (exfalso; simp_all; done) | simp_all
  · unfold binOp
    split <;> first | (exfalso; simp_all; done) | simp_all
theorem eqR_q {op : BinOp} {t t' : TypeId} {x y : Operand} (ho : o.op = .binOp op t x y t') {b : Bool} {v : AV} (h : eqR op b = some v)
    (hrun : ∀ w', (Op.equalIn 10000 t (a.eval x) (a.eval y)).run P w' = .ok b w') (hg : ∀ w', (eqGuard op t x y (a.eval x) (a.eval y)).run P w' = .ok () w')
    (hx : ∀ k n, a.eval x ≠ .int k n) (hf : ∀ k n, a.eval x ≠ .float k n) (hc : ∀ k m n, a.eval x ≠ .complex k m n) (hs : ∀ k, a.eval x ≠ .string k) : QS P o a γ hp w v := by
  cases op <;> simp only [eqR, Option.some.injEq, reduceCtorEq] at h
  case eql =>
    subst h
    refine ⟨.bool b, rfl, fun w' _ => ?_⟩
    simp only [execOp, ho, Sem.run_bind, hg w', Result.andThen_ok, (run_eql (hrun w') hx hf hc hs).1, Sem.run_pure]
  case neq =>
    subst h
    refine ⟨.bool (!b), rfl, fun w' _ => ?_⟩
    simp only [execOp, ho, Sem.run_bind, hg w', Result.andThen_ok, (run_eql (hrun w') hx hf hc hs).2, Sem.run_pure]
/-- Numbers of one kind. -/
def intsE (k : IntKind) : List AV → Option (List Int)
  | [] => some []
  | .i k' n :: r => bif decide (k' = k) then (match intsE k r with
    | some l => some (n :: l)
    | none => none) else none
  | _ :: _ => none
theorem intsE_rel {k : IntKind} : ∀ {l : List AV} {m : List Int} {vs : List Value}, intsE k l = some m → AV.relL γ l vs → vs = m.map (Value.int k) ∧ m.length = l.length
  | [], m, vs, h, hr => by simp only [intsE, Option.some.injEq] at h; subst h; simp only [AV.relL] at hr; simp [hr]
  | .i k' n :: r, m, vs, h, ⟨v, vs', e, h1, h2⟩ => by
    by_cases hk : k' = k
    · subst hk
      simp only [intsE, decide_true, cond_true] at h
      split at h
      · rename_i l hl
        simp only [Option.some.injEq] at h
        subst h
        obtain ⟨e1, e2⟩ := intsE_rel hl h2
        have hv : v = .int k' n := h1
        exact ⟨by rw [e, e1, hv]; rfl, by simp [e2]⟩
      · simp at h
    · simp [intsE, hk] at h
  | .b _ :: _, _, _, h, _ => by simp [intsE] at h
  | .s _ :: _, _, _, h, _ => by simp [intsE] at h
  | .p _ _ :: _, _, _, h, _ => by simp [intsE] at h
  | .pn :: _, _, _, h, _ => by simp [intsE] at h
  | .sl _ _ _ _ _ :: _, _, _, h, _ => by simp [intsE] at h
  | .se :: _, _, _, h, _ => by simp [intsE] at h
  | .sn :: _, _, _, h, _ => by simp [intsE] at h
  | .m _ :: _, _, _, h, _ => by simp [intsE] at h
  | .mn :: _, _, _, h, _ => by simp [intsE] at h
  | .f _ _ :: _, _, _, h, _ => by simp [intsE] at h
  | .fn0 :: _, _, _, h, _ => by simp [intsE] at h
  | .mv _ _ :: _, _, _, h, _ => by simp [intsE] at h
  | .ifc _ _ :: _, _, _, h, _ => by simp [intsE] at h
  | .ifn :: _, _, _, h, _ => by simp [intsE] at h
  | .agg _ :: _, _, _, h, _ => by simp [intsE] at h
  | .tup _ :: _, _, _, h, _ => by simp [intsE] at h
  | .und :: _, _, _, h, _ => by simp [intsE] at h
theorem run_eq_loop {e : TypeId} {k : IntKind} (he : P.underlying e = some (.int k)) (hag : ∀ w, (isAgg e).run P w = .ok false w) (d : Nat) :
    ∀ (l m p q : List Int) (i : Nat), p.length = i → q.length = i → l.length = m.length →
    (forIn (List.range' i l.length) ((none : Option Bool), ()) fun i __s => (do
            let __do_lift ← part e ((p ++ l).map (Value.int k)).toArray (i * 1)
            let __do_lift_1 ← part e ((q ++ m).map (Value.int k)).toArray (i * 1)
            let __do_lift ← Op.equalIn (d + 1) e __do_lift __do_lift_1
            if (!__do_lift) = true then pure (ForInStep.done (some false, ())) else pure (ForInStep.yield (none, ())) : Sem (ForInStep (Option Bool × Unit)))).run P w =
      .ok (if l = m then none else some false, ()) w
  | [], [], p, q, i, _, _, _ => by simp
  | [], _ :: _, _, _, _, _, _, h => by simp at h
  | _ :: _, [], _, _, _, _, _, h => by simp at h
  | x :: l, y :: m, p, q, i, hp, hq, h => by
    have ih := run_eq_loop he hag d l m (p ++ [x]) (q ++ [y]) (i + 1) (by simp [hp]) (by simp [hq]) (by simpa using h)
    have p1 : (part e ((p ++ x :: l).map (Value.int k)).toArray (i * 1)).run P w = .ok (.int k x) w := by
      simp [part, hag, ← hp]
    have p2 : (part e ((q ++ y :: m).map (Value.int k)).toArray (i * 1)).run P w = .ok (.int k y) w := by
      simp [part, hag, ← hq]
    have p3 : (Op.equalIn (d + 1) e (.int k x) (.int k y)).run P w = .ok (x == y) w := by simp [Op.equalIn, run_under he]
    simp only [List.length_cons, List.range'_succ, List.forIn_cons, Sem.run_bind, p1, p2, p3, Result.andThen_ok]
    by_cases hxy : x = y
    · subst hxy
      simp only [beq_self_eq_true, Bool.not_true, Bool.false_eq_true, if_false, Sem.run_pure, Result.andThen_ok]
      simp only [List.append_assoc, List.singleton_append] at ih
      simpa using ih
    · have : (x == y) = false := by simpa using hxy
      simp [this, hxy]
theorem run_eq_arr {t e : TypeId} {n : Nat} {k : IntKind} (hu : P.underlying t = some (.array n e)) (he : P.underlying e = some (.int k)) (hs : ∀ w, (sizeOf e).run P w = .ok 1 w) (d : Nat) (l m : List Int) (hl : l.length = n) (hm : m.length = n) :
    (Op.equalIn (d + 2) t (.agg (l.map (Value.int k)).toArray) (.agg (m.map (Value.int k)).toArray)).run P w = .ok (decide (l = m)) w := by
  have hag : ∀ w, (isAgg e).run P w = .ok false w := fun w => by simp [isAgg, run_under he]
  have := run_eq_loop (P := P) (w := w) he hag d l m [] [] 0 rfl rfl (by omega)
  unfold Op.equalIn
  simp only [Sem.run_bind, run_under hu, Result.andThen_ok, hs]
  rw [Std.Legacy.Range.forIn_eq_forIn_range']
  simp only [Std.Legacy.Range.size, Nat.sub_zero, Nat.add_sub_cancel, Nat.div_one]
  rw [← hl]
  simp only [List.nil_append] at this
  rw [this]
  by_cases h : l = m <;> simp [h]
def isPtrD : TypeDesc → Bool
  | .pointer _ => true
  | _ => false
def isSlD : TypeDesc → Bool
  | .slice _ => true
  | _ => false
def isFnD : TypeDesc → Bool
  | .func _ _ _ => true
  | _ => false
def isMpD : TypeDesc → Bool
  | .map _ _ => true
  | _ => false
def isIfD : TypeDesc → Bool
  | .interface _ => true
  | _ => false
/-- Against nothing: is it nothing? -/
def nilE (P : Program) (t : TypeId) (x y : AV) : Option Bool := match P.underlying t with
  | none => none
  | some d => match x, y with
    | .p _ _, .pn => bif isPtrD d then some false else none
    | .pn, .p _ _ => bif isPtrD d then some false else none
    | .pn, .pn => bif isPtrD d then some true else none
    | .sl _ _ _ _ _, .sn => bif isSlD d then some false else none
    | .se, .sn => bif isSlD d then some false else none
    | .sn, .sn => bif isSlD d then some true else none
    | .f _ _, .fn0 => bif isFnD d then some false else none
    | .fn0, .fn0 => bif isFnD d then some true else none
    | .m _, .mn => bif isMpD d then some false else none
    | .mn, .mn => bif isMpD d then some true else none
    | _, _ => none
theorem nilE_spec {t : TypeId} {x y : AV} {b : Bool} (h : nilE P t x y = some b) {u v : Value} (hu : x.rel γ u) (hv : y.rel γ v) :
    (∀ (n : Nat) (w : World), (Op.equalIn (n + 1) t u v).run P w = .ok b w) ∧ (∀ op x y (w : World), (eqGuard op t x y u v).run P w = .ok () w) ∧ (∀ k n, u ≠ .int k n) ∧ (∀ k n, u ≠ .float k n) ∧ (∀ k m n, u ≠ .complex k m n) ∧ (∀ k, u ≠ .string k) := by
  have G : ∀ {u v : Value} (_ : u ≠ .nilIface) (_ : ∀ c, u ≠ .agg c), ∀ op x y (w : World), (eqGuard op t x y u v).run P w = .ok () w := by
    intro u v h1 h2 op x y w
    cases u <;> first | exact absurd rfl h1 | exact absurd rfl (h2 _) | (cases op <;> simp [eqGuard])
  unfold nilE at h
  split at h
  · simp at h
  · rename_i d hd
    split at h
    · cases d <;> simp only [isPtrD, cond_false, cond_true, Option.some.injEq, reduceCtorEq] at h
      subst h
      obtain ⟨ad, rfl, _⟩ := hu
      have hv' : v = .pointer none := hv
      subst hv'
      exact ⟨fun n w => by simp [Op.equalIn, run_under hd], G (by simp) (by simp), by simp, by simp, by simp, by simp⟩
    · cases d <;> simp only [isPtrD, cond_false, cond_true, Option.some.injEq, reduceCtorEq] at h
      subst h
      obtain ⟨ad, rfl, _⟩ := hv
      have hu' : u = .pointer none := hu
      subst hu'
      exact ⟨fun n w => by simp [Op.equalIn, run_under hd], G (by simp) (by simp), by simp, by simp, by simp, by simp⟩
    · cases d <;> simp only [isPtrD, cond_false, cond_true, Option.some.injEq, reduceCtorEq] at h
      subst h
      have hu' : u = .pointer none := hu
      have hv' : v = .pointer none := hv
      subst hu' hv'
      exact ⟨fun n w => by simp [Op.equalIn, run_under hd], G (by simp) (by simp), by simp, by simp, by simp, by simp⟩
    · cases d <;> simp only [isSlD, cond_false, cond_true, Option.some.injEq, reduceCtorEq] at h
      subst h
      obtain ⟨ad, c, rfl, _⟩ := hu
      have hv' : v = .slice none 0 0 := hv
      subst hv'
      exact ⟨fun n w => by simp [Op.equalIn, run_under hd], G (by simp) (by simp), by simp, by simp, by simp, by simp⟩
    · cases d <;> simp only [isSlD, cond_false, cond_true, Option.some.injEq, reduceCtorEq] at h
      subst h
      obtain ⟨ad, c, rfl⟩ := hu
      have hv' : v = .slice none 0 0 := hv
      subst hv'
      exact ⟨fun n w => by simp [Op.equalIn, run_under hd], G (by simp) (by simp), by simp, by simp, by simp, by simp⟩
    · cases d <;> simp only [isSlD, cond_false, cond_true, Option.some.injEq, reduceCtorEq] at h
      subst h
      have hu' : u = .slice none 0 0 := hu
      have hv' : v = .slice none 0 0 := hv
      subst hu' hv'
      exact ⟨fun n w => by simp [Op.equalIn, run_under hd], G (by simp) (by simp), by simp, by simp, by simp, by simp⟩
    · cases d <;> simp only [isFnD, cond_false, cond_true, Option.some.injEq, reduceCtorEq] at h
      subst h
      obtain ⟨cs, rfl, _⟩ := hu
      have hv' : v = .nilFunc := hv
      subst hv'
      exact ⟨fun n w => by simp [Op.equalIn, run_under hd], G (by simp) (by simp), by simp, by simp, by simp, by simp⟩
    · cases d <;> simp only [isFnD, cond_false, cond_true, Option.some.injEq, reduceCtorEq] at h
      subst h
      have hu' : u = .nilFunc := hu
      have hv' : v = .nilFunc := hv
      subst hu' hv'
      exact ⟨fun n w => by simp [Op.equalIn, run_under hd], G (by simp) (by simp), by simp, by simp, by simp, by simp⟩
    · cases d <;> simp only [isMpD, cond_false, cond_true, Option.some.injEq, reduceCtorEq] at h
      subst h
      obtain ⟨r, rfl, _⟩ := hu
      have hv' : v = .map none := hv
      subst hv'
      exact ⟨fun n w => by simp [Op.equalIn, run_under hd], G (by simp) (by simp), by simp, by simp, by simp, by simp⟩
    · cases d <;> simp only [isMpD, cond_false, cond_true, Option.some.injEq, reduceCtorEq] at h
      subst h
      have hu' : u = .map none := hu
      have hv' : v = .map none := hv
      subst hu' hv'
      exact ⟨fun n w => by simp [Op.equalIn, run_under hd], G (by simp) (by simp), by simp, by simp, by simp, by simp⟩
    · simp at h
/-! Structs: part by part. -/
def eqfE (P : Program) (rec : TypeId → AV → AV → Option Bool) (cs ds : List AV) : List Field → Option Bool
  | [] => some true
  | f :: r => bif decide (f.name = "_") then none else (match partE P f.type cs f.offset, partE P f.type ds f.offset with
    | some x, some y => (match rec f.type x y with
      | some true => eqfE P rec cs ds r
      | some false => some false
      | none => none)
    | _, _ => none)
def eqvE (P : Program) : Nat → TypeId → AV → AV → Option Bool
  | 0, _, _, _ => none
  | d + 1, t, x, y => match P.underlying t, x, y with
    | some (.int _), .i k m, .i k' n => bif decide (k = k') then some (decide (m = n)) else none
    | some .bool, .b p, .b q => some (p == q)
    | some .string, .s p, .s q => some (p == q)
    | some (.struct fs), .agg cs, .agg ds => bif P.stoodInHeld t then none else eqfE P (eqvE P d) cs ds fs.toList
    | some (.array n e), .agg cs, .agg ds => (match d, P.underlying e, szT P e with
      | _ + 1, some (.int k), some 1 => (match intsE k cs, intsE k ds with
        | some l, some m => bif Nat.beq l.length n && Nat.beq m.length n then some (decide (l = m)) else none
        | _, _ => none)
      | _, _, _ => none)
    | _, _, _ => none
theorem eqf_run {rec : TypeId → AV → AV → Option Bool} {d : Nat} (hrec : ∀ t x y b, rec t x y = some b → ∀ u v, x.rel γ u → y.rel γ v → ∀ w, (Op.equalIn d t u v).run P w = .ok b w) {cs ds : List AV} {xs ys : List Value} (hx : AV.relL γ cs xs) (hy : AV.relL γ ds ys) (w : World) :
    ∀ (l : List Field) {b : Bool}, eqfE P rec cs ds l = some b →
    (forIn l ((none : Option Bool), ()) fun f __s =>
            (if f.name ≠ "_" then do
              let __do_lift ← part f.type xs.toArray f.offset
              let __do_lift_1 ← part f.type ys.toArray f.offset
              let __do_lift ← Op.equalIn d f.type __do_lift __do_lift_1
              if (!__do_lift) = true then pure (ForInStep.done (some false, ())) else pure (ForInStep.yield (none, ()))
            else pure (ForInStep.yield (none, ())) : Sem (ForInStep (Option Bool × Unit)))).run P w = .ok (if b = true then none else some false, ()) w
  | [], b, h => by
    simp only [eqfE, Option.some.injEq] at h
    subst h
    simp
  | f :: r, b, h => by
    unfold eqfE at h
    by_cases hn : f.name = "_"
    · simp [hn] at h
    · simp only [hn, decide_false, cond_false] at h
      split at h
      · rename_i x y h1 h2
        obtain ⟨u, hu, hru⟩ := part_spec h1 hx
        obtain ⟨v, hv, hrv⟩ := part_spec h2 hy
        simp only [List.forIn_cons, ne_eq, hn, not_false_eq_true, if_true, Sem.run_bind, hru, hrv, Result.andThen_ok]
        split at h
        · rename_i he
          rw [hrec _ _ _ _ he u v hu hv w]
          simp only [Result.andThen_ok, Bool.not_true, Bool.false_eq_true, if_false, Sem.run_pure]
          have := eqf_run hrec hx hy w r h
          simpa using this
        · rename_i he
          simp only [Option.some.injEq] at h
          subst h
          rw [hrec _ _ _ _ he u v hu hv w]
          simp
        · simp at h
      · simp at h
theorem eqv_run : ∀ (d : Nat) (t : TypeId) (x y : AV) (b : Bool), eqvE P d t x y = some b → ∀ u v, x.rel γ u → y.rel γ v → ∀ (k : Nat) (w : World), (Op.equalIn (d + k) t u v).run P w = .ok b w
  | 0, _, _, _, _, h => by simp [eqvE] at h
  | d + 1, t, x, y, b, h => by
    intro u v hu hv k w
    rw [show d + 1 + k = (d + k) + 1 from by omega]
    unfold eqvE at h
    split at h
    · rename_i k0 k1 m k2 n hut
      by_cases hk : k1 = k2
      · subst hk
        simp only [decide_true, cond_true, Option.some.injEq] at h
        subst h
        have hu' : u = .int k1 m := hu
        have hv' : v = .int k1 n := hv
        subst hu' hv'
        simp [Op.equalIn, run_under hut]
        rfl
      · simp [hk] at h
    · rename_i p q hut
      simp only [Option.some.injEq] at h
      subst h
      have hu' : u = .bool p := hu
      have hv' : v = .bool q := hv
      subst hu' hv'
      simp [Op.equalIn, run_under hut]
    · rename_i p q hut
      simp only [Option.some.injEq] at h
      subst h
      have hu' : u = .string ⟨p.toArray⟩ := hu
      have hv' : v = .string ⟨q.toArray⟩ := hv
      subst hu' hv'
      have e : ((⟨p.toArray⟩ : ByteArray) == ⟨q.toArray⟩) = (p == q) := by
        show (p.toArray == q.toArray) = (p == q)
        simp
      simp [Op.equalIn, run_under hut, e]
    · rename_i fs cs ds hut
      cases hs : P.stoodInHeld t
      · rw [hs, cond_false] at h
        obtain ⟨xs, rfl, hxs⟩ := hu
        obtain ⟨ys, rfl, hys⟩ := hv
        have := eqf_run (d := d + k) (fun t x y b hb u v hu hv w => eqv_run d t x y b hb u v hu hv k w) hxs hys w fs.toList h
        unfold Op.equalIn
        simp only [Sem.run_bind, run_under hut, Result.andThen_ok, run_program, hs, Bool.false_eq_true, if_false]
        rw [← Array.forIn_toList, this]
        cases b <;> simp
      · rw [hs] at h; simp at h
    · rename_i n e cs ds hut
      split at h
      · rename_i d' k0 hk hz
        split at h
        · rename_i l m hl hm
          cases hb : (Nat.beq l.length n && Nat.beq m.length n)
          · rw [hb] at h; simp at h
          · rw [hb, cond_true, Option.some.injEq] at h
            simp only [Bool.and_eq_true] at hb
            subst h
            obtain ⟨xs, rfl, hxs⟩ := hu
            obtain ⟨ys, rfl, hys⟩ := hv
            obtain ⟨rfl, _⟩ := intsE_rel hl hxs
            obtain ⟨rfl, _⟩ := intsE_rel hm hys
            rw [show d' + 1 + k + 1 = (d' + k) + 2 from by omega]
            exact run_eq_arr hut hk (fun w => run_size hz) (d' + k) l m (Nat.eq_of_beq_eq_true hb.1) (Nat.eq_of_beq_eq_true hb.2)
        · simp at h
      · simp at h
    · simp at h
def binE (P : Program) (op : BinOp) (t : TypeId) (x y : AV) : Option AV := match x, y with
  | .i k m, .i k' n => (match op with
    | .shl => bif decide (0 ≤ n) then some (.i k (shlE k m n)) else none
    | .shr => bif decide (0 ≤ n) then some (.i k (shrE k m n)) else none
    | op => bif decide (k = k') then intE op k m n else none)
  | .b p, .b q => (match P.underlying t with
    | some .bool => eqR op (p == q)
    | _ => none)
  | .s p, .s q => (match op with
    | .eql => some (.b (p == q))
    | .neq => some (.b (!(p == q)))
    | .add => bif Nat.ble (p.length + q.length) 1000000000 then some (.s (p ++ q)) else none
    | _ => none)
  | .agg cs, .agg ds => bif P.eqGuardType P.depth t then none else (match eqvE P 20 t (.agg cs) (.agg ds) with
    | some b => eqR op b
    | none => none)
  | x, y => (match nilE P t x y with
    | some b => eqR op b
    | none => none)
theorem bytes_toList (l : List UInt8) : (⟨l.toArray⟩ : ByteArray).toList = l := by
  rw [ByteArray.toList_eq]
theorem bin_q (hs : SR γ sl a.tmps) {op : BinOp} {t t' : TypeId} {x y : Operand} (ho : o.op = .binOp op t x y t') {v : AV} (h : binE P op t (evE sl x) (evE sl y) = some v) : QS P o a γ hp w v := by
  have hx := evE_rel hs x
  have hy := evE_rel hs y
  unfold binE at h
  split at h
  · rename_i k m k' n hex hey
    rw [hex] at hx; rw [hey] at hy
    have hx' : a.eval x = .int k m := hx
    have hy' : a.eval y = .int k' n := hy
    split at h
    · by_cases hn : 0 ≤ n
      · simp only [hn, decide_true, cond_true, Option.some.injEq] at h
        subst h
        refine ⟨.int k (shlE k m n), rfl, fun w' _ => ?_⟩
        have : ¬ n < 0 := by omega
        simp [execOp, ho, hx', hy', eqGuard, binOp, Op.shift, this, shlE]
      · simp [hn] at h
    · by_cases hn : 0 ≤ n
      · simp only [hn, decide_true, cond_true, Option.some.injEq] at h
        subst h
        refine ⟨.int k (shrE k m n), rfl, fun w' _ => ?_⟩
        have : ¬ n < 0 := by omega
        simp [execOp, ho, hx', hy', eqGuard, binOp, Op.shift, this, shrE]
      · simp [hn] at h
    · by_cases hk : k = k'
      · subst hk
        simp only [decide_true, cond_true] at h
        obtain ⟨u, hrun, hr⟩ := intE_sound (P := P) h t x y
        refine ⟨u, hr γ, fun w' _ => ?_⟩
        have hrun := hrun w'
        simp only [execOp, ho, hx', hy']
        simp only [Sem.run_bind] at hrun ⊢
        rw [hrun]; rfl
      · simp [hk] at h
  · rename_i p q hex hey
    rw [hex] at hx; rw [hey] at hy
    have hx' : a.eval x = .bool p := hx
    have hy' : a.eval y = .bool q := hy
    split at h
    · rename_i hu
      have h1 : ∀ (n : Nat) w', (Op.equalIn (n + 1) t (.bool p) (.bool q)).run P w' = .ok (p == q) w' := fun n w' => by simp [Op.equalIn, run_under hu]
      refine eqR_q ho h (fun w' => by rw [hx', hy']; exact h1 9999 w') (fun w' => by rw [hx', hy']; cases op <;> simp [eqGuard]) ?_ ?_ ?_ ?_ <;> simp [hx']
    · simp at h
  · rename_i p q hex hey
    rw [hex] at hx; rw [hey] at hy
    have hx' : a.eval x = .string ⟨p.toArray⟩ := hx
    have hy' : a.eval y = .string ⟨q.toArray⟩ := hy
    split at h
    · simp only [Option.some.injEq] at h
      subst h
      refine ⟨.bool (p == q), rfl, fun w' _ => ?_⟩
      simp [execOp, ho, hx', hy', eqGuard, binOp, Op.stringOp, bytes_toList]
    · simp only [Option.some.injEq] at h
      subst h
      refine ⟨.bool (!(p == q)), rfl, fun w' _ => ?_⟩
      simp [execOp, ho, hx', hy', eqGuard, binOp, Op.stringOp, bytes_toList]
    · cases hb : Nat.ble (p.length + q.length) 1000000000
      · rw [hb] at h; simp at h
      · rw [hb, cond_true, Option.some.injEq] at h
        subst h
        have hle := Nat.le_of_ble_eq_true hb
        refine ⟨.string ⟨(p ++ q).toArray⟩, rfl, fun w' _ => ?_⟩
        have e : (⟨p.toArray⟩ : ByteArray) ++ ⟨q.toArray⟩ = ⟨(p ++ q).toArray⟩ := by
          apply ByteArray.ext
          simp [ByteArray.data_append]
        have h1 : ¬ (((p.length + q.length : Nat) : Int) > IntKind.i64.max) := by
          have : IntKind.i64.max = 9223372036854775807 := by decide
          omega
        have s1 : (⟨p.toArray⟩ : ByteArray).size = p.length := by simp [ByteArray.size]
        have s2 : (⟨q.toArray⟩ : ByteArray).size = q.length := by simp [ByteArray.size]
        simp only [execOp, ho, hx', hy', eqGuard, binOp, Op.stringOp, s1, s2, if_neg h1, e]
        rfl
    · simp at h
  · rename_i cs ds hex hey
    rw [hex] at hx; rw [hey] at hy
    cases hgt : P.eqGuardType P.depth t
    · rw [hgt, cond_false] at h
      split at h
      · rename_i b hb
        have hrun := fun w' => eqv_run 20 t _ _ b hb _ _ hx hy 9980 w'
        obtain ⟨xs, ex, _⟩ := hx
        obtain ⟨ys, ey, _⟩ := hy
        refine eqR_q ho h (fun w' => hrun w') (fun w' => ?_) ?_ ?_ ?_ ?_
        · rw [ex, ey]; unfold eqGuard; split <;> simp [hgt]
        all_goals simp [ex]
      · simp at h
    · rw [hgt] at h; simp at h
  · split at h
    · rename_i b hb
      obtain ⟨h1, h2, h3, h4, h5, h6⟩ := nilE_spec hb hx hy
      exact eqR_q ho h (fun w' => h1 9999 w') (fun w' => h2 op x y w') h3 h4 h5 h6
    · simp at h
def unE (op : UnOp) (x : AV) : Option AV := match op, x with
  | .not, .b b => some (.b (!b))
  | .neg, .i k n => some (.i k (k.wrap (0 - n)))
  | .xor, .i k n => some (.i k (bitsE .xor k (if k.signed then -1 else k.max) n))
  | _, _ => none
theorem un_q (hs : SR γ sl a.tmps) {op : UnOp} {t : TypeId} {x : Operand} (ho : o.op = .unOp op t x) {v : AV} (h : unE op (evE sl x) = some v) : QS P o a γ hp w v := by
  have hx := evE_rel hs x
  unfold unE at h
  split at h
  · rename_i b hex
    rw [hex] at hx
    simp only [Option.some.injEq] at h
    subst h
    have hx' : a.eval x = .bool b := hx
    exact ⟨.bool (!b), rfl, fun w' _ => by simp [execOp, ho, hx', Op.unary]⟩
  · rename_i k n hex
    rw [hex] at hx
    simp only [Option.some.injEq] at h
    subst h
    have hx' : a.eval x = .int k n := hx
    exact ⟨.int k (k.wrap (0 - n)), rfl, fun w' _ => by simp [execOp, ho, hx', Op.unary, Op.intArith]⟩
  · rename_i k n hex
    rw [hex] at hx
    simp only [Option.some.injEq] at h
    subst h
    have hx' : a.eval x = .int k n := hx
    refine ⟨.int k (bitsE .xor k (if k.signed then -1 else k.max) n), rfl, fun w' _ => ?_⟩
    simp only [execOp, ho, hx', Op.unary, Op.intBits]
    rfl
  · simp at h

/-! Conversions. -/
def toBytes (l : List Int) : List UInt8 := l.map fun n => UInt8.ofNat n.toNat
theorem fold_push (l : List Int) : ∀ r : ByteArray, l.foldl (fun r n => r.push (UInt8.ofNat n.toNat)) r = ⟨(r.data.toList ++ toBytes l).toArray⟩ := by
  induction l with
  | nil => intro r; simp [toBytes]
  | cons x l ih =>
    intro r
    simp only [List.foldl_cons, ih]
    simp [toBytes]
def isBytesE (P : Program) (t : TypeId) : Bool := match P.underlying t with
  | some (.slice e) => (match P.underlying e with
    | some (.int .u8) => true
    | _ => false)
  | _ => false
theorem isBytesE_spec {t : TypeId} (h : isBytesE P t = true) : ∃ e, P.underlying t = some (.slice e) ∧ P.underlying e = some (.int .u8) := by
  unfold isBytesE at h
  split at h
  · rename_i e hu
    split at h
    · rename_i hk; exact ⟨e, hu, hk⟩
    · simp at h
  · simp at h
def convE (P : Program) (sl : Ss) (hp : Hs) (src dst : TypeId) (x : Operand) : Option AV := match evE sl x with
  | .i _ n => (match P.underlying src, P.underlying dst with
    | some _, some (.int k) => some (.i k (k.wrap n))
    | _, _ => none)
  | .s l => (match P.underlying src, P.underlying dst with
    | some _, some .string => some (.s l)
    | _, _ => none)
  | .sn => (match isBytesE P src, P.underlying dst with
    | true, some .string => some (.s [])
    | _, _ => none)
  | .se => (match isBytesE P src, P.underlying dst with
    | true, some .string => some (.s [])
    | _, _ => none)
  | .sl id off len _ _ => (match isBytesE P src, P.underlying dst, readOf hp id with
    | true, some .string, some cs => (match takeE len (dropE off cs) with
      | some l => bif Nat.ble off (lenL cs 0) then (match intsE .u8 l with
        | some m => some (.s (toBytes m))
        | none => none) else none
      | none => none)
    | _, _, _ => none)
  | _ => none
/-- The cells of a row, as they are loaded. -/
theorem row_cells {cs : List AV} {off n : Nat} {l : List AV} (ht : takeE n (dropE off cs) = some l) (hb : Nat.ble off (lenL cs 0) = true) {ds : List Value} (hr : AV.relL γ cs ds) :
    ∃ es, es.length = n ∧ AV.relL γ l es ∧ ∀ {r : Nat} {sp : List Value} {t : TypeId} {fr : Nat × Nat} (w : World), w.heap[r]? = some (.cells (ds ++ sp).toArray t fr) → ∀ (j : Nat) (u : Value), es[j]? = some u → w.cell? ((⟨r, off, none⟩ : Addr).add j) = some u := by
  obtain ⟨rfl, hle⟩ := takeE_drop ht hb
  obtain ⟨p, es, q, rfl, hp', he, _, hes, _⟩ := relL_cut hr off n hle
  refine ⟨es, he, hes, fun {r sp t fr} w hw j u hj => ?_⟩
  rw [add_off]
  refine cell_at hw ?_
  have hj' : j < es.length := by
    rcases Nat.lt_or_ge j es.length with h | h
    · exact h
    · simp [List.getElem?_eq_none h] at hj
  rw [List.getElem?_append_left (by simp; omega), ← hp', List.getElem?_append_right (by omega), Nat.add_sub_cancel_left, List.getElem?_append_left hj']
  exact hj
theorem conv_q (hs : SR γ sl a.tmps) (hl : HL γ hp w) {src dst : TypeId} {x : Operand} (ho : o.op = .convert src dst x) {v : AV} (h : convE P sl hp src dst x = some v) : QS P o a γ hp w v := by
  have hx := evE_rel hs x
  unfold convE at h
  split at h
  · rename_i k' n he
    rw [he] at hx
    have hx' : a.eval x = .int k' n := hx
    split at h
    · rename_i d k hd hu
      simp only [Option.some.injEq] at h
      subst h
      refine ⟨.int k (k.wrap n), rfl, fun w' _ => ?_⟩
      cases d <;> simp [execOp, ho, hx', convert, run_under hu, run_under hd, Conv.intToInt]
    · simp at h
  · rename_i l he
    rw [he] at hx
    have hx' : a.eval x = .string ⟨l.toArray⟩ := hx
    split at h
    · rename_i d hd hu
      simp only [Option.some.injEq] at h
      subst h
      refine ⟨.string ⟨l.toArray⟩, rfl, fun w' _ => ?_⟩
      cases d <;> simp [execOp, ho, hx', convert, run_under hu, run_under hd]
    · simp at h
  · rename_i he
    rw [he] at hx
    have hx' : a.eval x = .slice none 0 0 := hx
    split at h
    · rename_i hb hd
      obtain ⟨e, hu, hk⟩ := isBytesE_spec hb
      simp only [Option.some.injEq] at h
      subst h
      refine ⟨.string .empty, rfl, fun w' _ => ?_⟩
      simp only [execOp, ho, hx', Sem.run_bind, run_convert_bytes_string w' src dst e none 0 0 hu hk hd, Conv.bytesToString, Sem.run_pure, Result.andThen_ok]
    · simp at h
  · rename_i he
    rw [he] at hx
    obtain ⟨ad, c, hx'⟩ := hx
    split at h
    · rename_i hb hd
      obtain ⟨e, hu, hk⟩ := isBytesE_spec hb
      simp only [Option.some.injEq] at h
      subst h
      refine ⟨.string ⟨(toBytes []).toArray⟩, rfl, fun w' _ => ?_⟩
      have hload : (loadCells ad 0).run P w' = .ok (([] : List Int).map (Value.int .u8)).toArray w' := run_loadCells_list (P := P) w' ad [] (by simp)
      have hr := run_bytesToString w' ad 0 c [] hload
      rw [fold_push] at hr
      simp only [execOp, ho, hx', Sem.run_bind, run_convert_bytes_string w' src dst e (some ad) _ _ hu hk hd, hr, Result.andThen_ok, Sem.run_pure]
      rfl
    · simp at h
  · rename_i id off len cap exct he
    rw [he] at hx
    split at h
    · rename_i cs hb hd hc
      obtain ⟨e, hu, hk⟩ := isBytesE_spec hb
      split at h
      · rename_i l ht
        cases hble : Nat.ble off (lenL cs 0)
        · rw [hble] at h; simp at h
        · rw [hble, cond_true] at h
          split at h
          · rename_i m hm
            simp only [Option.some.injEq] at h
            subst h
            obtain ⟨r, n, ds, sp, bt, fr, hr, hw, _, _, hrel⟩ := hl.read hc
            obtain ⟨ad, c, hx', _, _, _, hpt⟩ := hx
            have had := (hpt r n hr).1
            subst had
            obtain ⟨es, hlen, hes, hcell⟩ := row_cells ht hble hrel
            obtain ⟨rfl, hml⟩ := intsE_rel hm hes
            refine ⟨.string ⟨(toBytes m).toArray⟩, rfl, fun w' hw' => ?_⟩
            have hsame := hw' (by rw [ho]; rfl) id _ r n (readOf_gid hc).choose_spec hr
            have hload : (loadCells ⟨r, off, none⟩ len).run P w' = .ok (m.map (Value.int .u8)).toArray w' := by
              have := run_loadCells_list (P := P) w' ⟨r, off, none⟩ (m.map (Value.int .u8)) (hcell w' (by rw [hsame]; exact hw))
              rwa [hlen] at this
            have hr' := run_bytesToString w' ⟨r, off, none⟩ len c m hload
            rw [fold_push] at hr'
            simp only [execOp, ho, hx', Sem.run_bind, run_convert_bytes_string w' src dst e (some _) _ _ hu hk hd, hr', Result.andThen_ok, Sem.run_pure]
            rfl
          · simp at h
      · simp at h
    · simp at h
  · simp at h
end
end Go.Proofs.Ytclgglffbpfmhaa
