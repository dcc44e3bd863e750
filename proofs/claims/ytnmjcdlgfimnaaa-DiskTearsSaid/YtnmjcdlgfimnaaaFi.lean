/- More operations: fields, indexes, numbers, conversions. -/
import Derived.Test.YtnmjcdlgfimnaaaFh
namespace Go.Proofs.Ytnmjcdlgfimnaaa

theorem poff_add : ∀ (p : Path) (a b : Nat), poff p (a + b) = poff p a + b
  | [], _, _ => rfl
  | (c, n, i) :: p, a, b => by simp only [poff, poff_add p a b]; omega
theorem poff_snoc : ∀ (p : Path) (o n : Nat) (i : Int) (b : Nat), poff (p ++ [(o, n, i)]) b = poff p o + i.toNat * n + b
  | [], _, _, _, _ => rfl
  | (c, m, j) :: p, o, n, i, b => by simp only [List.cons_append, poff, poff_snoc p o n i b]; omega

section
variable {C : Ctx} {s : SymSt} {K : KT} {o : Oper}

def isPtr : LV → Bool
  | .ptr _ _ _ => true
  | .eptr _ _ _ _ => true
  | .clo _ _ => true
  | _ => false
def vNilCheck (s : SymSt) (x : Operand) (K : KT) : Prop := match ev s x with
  | .l y => isPtr y = true ∧ K (.one (.l y)) s
  | _ => False
theorem nilCheck_q {x : Operand} (ho : o.op = .nilCheck x) (h : vNilCheck s x K) : QSound C.P o s K := by
  intro R G γ fr a w hs hmf
  unfold vNilCheck at h
  have hx := ev_rel hs x
  split at h
  · rename_i y he
    rw [he] at hx
    refine ⟨a.eval x, _, fun w' _ => ?_, h.2, hx⟩
    cases y <;> simp only [isPtr, Bool.false_eq_true, false_and] at h
    case ptr id path off =>
      have hx' : a.eval x = .pointer (some ⟨blk (γ id), poff path off, none⟩) := by simpa [SV.rel, LV.relV, LV.rel] using hx
      simp [execOp, ho, hx']
    case eptr A y path off =>
      obtain ⟨b, p1, es1, q1, t', fr, e, _⟩ := hx
      have hx' : a.eval x = .pointer (some ⟨b, p1.length + poff path off, none⟩) := by simpa using e
      simp [execOp, ho, hx']
    case clo f caps =>
      have hx' : a.eval x = .func (.func f) #[] (caps.map fun i => Value.pointer (some ⟨blk (γ i), 0, none⟩)).toArray := by simpa [SV.rel, LV.relV, LV.rel] using hx
      simp [execOp, ho, hx']
  · exact h.elim

/-- A field of a struct type. -/
def fieldOf (C : Ctx) (t : TypeId) (f : Nat) : Option (Nat × TypeId) := match C.ty t with
  | some i => (match i.desc with
    | .struct fs => fs[f]?
    | _ => none)
  | none => none
theorem fieldOf_spec {t : TypeId} {f off : Nat} {ft : TypeId} (h : fieldOf C t f = some (off, ft)) : ∃ a x, C.P.underlying t = some (.struct a) ∧ a[f]? = some x ∧ x.offset = off ∧ x.type = ft := by
  unfold fieldOf at h
  split at h
  · rename_i i hi
    have hd := (C.ok t i hi).desc
    split at h
    · rename_i fs hf
      rw [hf] at hd
      obtain ⟨a, hu, rfl⟩ := hd
      rw [List.getElem?_map] at h
      cases hx : a.toList[f]? with
      | none => rw [hx] at h; simp at h
      | some x =>
        rw [hx] at h
        simp only [Option.map_some, Option.some.injEq, Prod.mk.injEq] at h
        exact ⟨a, x, hu, by simpa using hx, h.1, h.2⟩
    · simp at h
  · simp at h

def vFieldAddr (C : Ctx) (s : SymSt) (t : TypeId) (x : Operand) (f : Nat) (K : KT) : Prop := match fieldOf C t f with
  | none => False
  | some (off, ft) => (match C.ty ft with | some fi => fi.size ≠ 0 | none => False) ∧ match ev s x with
    | .l (.ptr id path o) => K (.one (.l (.ptr id path (o + off)))) s
    | .l (.eptr A y path o) => K (.one (.l (.eptr A y path (o + off)))) s
    | _ => False
theorem fieldAddr_q {t : TypeId} {x : Operand} {f : Nat} (ho : o.op = .fieldAddr t x f) (h : vFieldAddr C s t x f K) : QSound C.P o s K := by
  intro R G γ fr a w hs hmf
  unfold vFieldAddr at h
  have hx := ev_rel hs x
  split at h
  · exact h.elim
  · rename_i off ft hf
    obtain ⟨fs, y, hu, hy, rfl, rfl⟩ := fieldOf_spec hf
    obtain ⟨hsz, h⟩ := h
    split at hsz
    · rename_i fi hfi
      have hrs : ∀ w, (sizeOf y.type).run C.P w = .ok fi.size w := fun w => run_size (C.ok _ _ hfi)
      have key : ∀ b n w, (Instr.fieldAt t (.pointer (some ⟨b, n, none⟩)) f).run C.P w = .ok (.pointer (some ⟨b, n + y.offset, none⟩)) w := by
        intro b n w
        simp [Instr.fieldAt, run_under hu, hy, Instr.sureAddr, fieldPlace, hrs, hsz, add_off]
      split at h
      · rename_i id path o' he
        rw [he] at hx
        have hx' : a.eval x = .pointer (some ⟨blk (γ id), poff path o', none⟩) := by simpa [SV.rel, LV.relV, LV.rel] using hx
        refine ⟨.pointer (some ⟨blk (γ id), poff path o' + y.offset, none⟩), _, fun w' _ => by simp [execOp, ho, hx', key], h, ?_⟩
        simp [TV.rel, SV.rel, LV.relV, LV.rel, poff_add]
      · rename_i α A z path o' he
        rw [he] at hx
        obtain ⟨b, p1, es1, q1, t', fr, e, hb, henc⟩ := hx
        have hx' : a.eval x = .pointer (some ⟨b, p1.length + poff path o', none⟩) := by simpa using e
        refine ⟨.pointer (some ⟨b, p1.length + poff path o' + y.offset, none⟩), _, fun w' _ => by simp [execOp, ho, hx', key], h, ?_⟩
        exact ⟨b, p1, es1, q1, t', fr, by rw [poff_add, Nat.add_assoc], hb, henc⟩
      · exact h.elim
    · exact hsz.elim

/-- A part of a value. -/
theorem run_part {t : TypeId} {i : TyI} (hi : C.ty t = some i) {p es q : List Value} {off : Nat} (hp : p.length = off) {G : Hp} {γ : Nat → Value} {v : SV} (hg : Gives G γ i.size i.desc.agg v es) :
    ∃ u, (∀ w, (part t (p ++ (es ++ q)).toArray off).run C.P w = .ok u w) ∧ v.rel G γ u := by
  have hok := C.ok t i hi
  cases hag : i.desc.agg
  · have h1 := hg.1.trans (hok.one hag)
    match es, h1 with
    | [u], _ =>
      refine ⟨u, fun w => ?_, hg.2.2 hag u rfl⟩
      subst hp
      simp [part, run_isAgg hok, hag]
  · refine ⟨.agg es.toArray, fun w => ?_, hg.2.1 hag⟩
    subst hp
    have : (p ++ (es ++ q)).toArray.extract p.length (p.length + i.size) = es.toArray := by
      rw [← hg.1]
      simp
    simp only [part, Sem.run_bind, run_isAgg hok, Result.andThen_ok, hag, if_true, run_size hok, this, Sem.run_pure]

def vField (C : Ctx) (s : SymSt) (t : TypeId) (x : Operand) (f : Nat) (K : KT) : Prop := match fieldOf C t f with
  | none => False
  | some (off, ft) => match C.ty ft with
    | none => False
    | some fi => (match ev s x with | .l y => y.isAgg = true | .agg _ => True) ∧ match rdS fi.size fi.desc.agg 9 (ev s x).leaves off with
      | some v => K (.one v) s
      | none => False
theorem field_q {t : TypeId} {x : Operand} {f : Nat} (ho : o.op = .field t x f) (h : vField C s t x f K) : QSound C.P o s K := by
  intro R G γ fr a w hs hmf
  unfold vField at h
  have hx := ev_rel hs x
  split at h
  · exact h.elim
  · rename_i off ft hf
    obtain ⟨fs, y, hu, hy, rfl, rfl⟩ := fieldOf_spec hf
    split at h
    · exact h.elim
    · rename_i fi hfi
      obtain ⟨hag, h⟩ := h
      split at h
      · rename_i v hv
        have hcs : ∃ cs, a.eval x = .agg cs.toArray ∧ RelL G γ (ev s x).leaves cs := by
          cases he : ev s x with
          | agg xs => rw [he] at hx; obtain ⟨cs, hc, e⟩ := hx; exact ⟨cs, e, hc⟩
          | l z =>
            rw [he] at hx hag
            cases z <;> simp only [LV.isAgg, Bool.false_eq_true] at hag
            case dat A z =>
              obtain ⟨cs, hc, e⟩ := hx
              exact ⟨cs, by rw [e]; simp [Rep.mk, hag], .one hc⟩
        obtain ⟨cs, e, hl⟩ := hcs
        obtain ⟨p, es, q, rfl, hp, hg⟩ := rdS_spec hv hl
        obtain ⟨u, hrun, hrel⟩ := run_part (q := q) hfi hp hg
        refine ⟨u, _, fun w' _ => ?_, h, hrel⟩
        simp only [execOp, ho, Instr.field, e, Sem.run_bind, run_under hu, Result.andThen_ok, hy, asAgg, Sem.run_pure, hrun]
      · exact h.elim

/-- extract -/
def vExtract (s : SymSt) (x : Operand) (n : Nat) (K : KT) : Prop := match evT s x with
  | .tup vs => (match vs[n]? with
    | some v => K (.one v) s
    | none => False)
  | _ => False
theorem RelV.get {G : Hp} {γ : Nat → Value} : ∀ {xs : List SV} {vs : List Value} {n : Nat} {x : SV}, RelV G γ xs vs → xs[n]? = some x → ∃ v, vs[n]? = some v ∧ x.rel G γ v
  | [], _, _, _, _, h => by simp at h
  | y :: xs, _, 0, x, ⟨v, r, e, hx, hr⟩, h => by
    simp only [List.getElem?_cons_zero, Option.some.injEq] at h
    subst h
    exact ⟨v, by rw [e]; rfl, hx⟩
  | y :: xs, _, n + 1, x, ⟨v, r, e, hx, hr⟩, h => by
    obtain ⟨u, hu, hr'⟩ := RelV.get hr (by simpa using h)
    exact ⟨u, by rw [e]; simpa using hu, hr'⟩
theorem extract_q {x : Operand} {n : Nat} (ho : o.op = .extract x n) (h : vExtract s x n K) : QSound C.P o s K := by
  intro R G γ fr a w hs hmf
  unfold vExtract at h
  have hx := evT_rel hs x
  split at h
  · rename_i vs he
    rw [he] at hx
    obtain ⟨us, hus, e⟩ := hx
    split at h
    · rename_i v hv
      obtain ⟨u, hu, hr⟩ := hus.get hv
      refine ⟨u, _, fun w' _ => ?_, h, hr⟩
      simp [execOp, ho, Instr.extract, e, hu]
    · exact h.elim
  · exact h.elim

/-- Bits of two numbers. -/
def bitsOp (op : BinOp) (k : IntKind) (a b : Int) : Int :=
  let x := BitVec.ofInt k.bits a
  let y := BitVec.ofInt k.bits b
  k.wrap (match op with
    | .and => (x &&& y).toNat
    | .or => (x ||| y).toNat
    | .xor => (x ^^^ y).toNat
    | _ => (x &&& ~~~y).toNat)
def shlOp (k : IntKind) (a b : Int) : Int := k.wrap (a * 2 ^ min b.toNat k.bits)
def shrOp (k : IntKind) (a b : Int) : Int := a.fdiv (2 ^ min b.toNat k.bits)

/-- Two numbers of one kind. -/
def intBin (op : BinOp) (k : IntKind) (a b : Int) (f : LV → Prop) : Prop := match op with
  | .add => f (.int k (k.wrap (a + b)))
  | .sub => f (.int k (k.wrap (a - b)))
  | .mul => f (.int k (k.wrap (a * b)))
  | .quo => b ≠ 0 ∧ f (.int k (k.wrap (a.tdiv b)))
  | .rem => b ≠ 0 ∧ f (.int k (a.tmod b))
  | .and => f (.int k (bitsOp .and k a b))
  | .or => f (.int k (bitsOp .or k a b))
  | .xor => f (.int k (bitsOp .xor k a b))
  | .andNot => f (.int k (bitsOp .andNot k a b))
  | .eql => f (.bool (decide (a = b)))
  | .neq => f (.bool (!decide (a = b)))
  | .lss => f (.bool (decide (a < b)))
  | .leq => f (.bool (decide (a ≤ b)))
  | .gtr => f (.bool (decide (b < a)))
  | .geq => f (.bool (decide (b ≤ a)))
  | _ => False

def vBin (s : SymSt) (op : BinOp) (x y : Operand) (K : KT) : Prop := match ev s x, ev s y with
  | .l (.int k a), .l (.int k' b) => (match op with
    | .shl => 0 ≤ b ∧ K (.one (.l (.int k (shlOp k a b)))) s
    | .shr => 0 ≤ b ∧ K (.one (.l (.int k (shrOp k a b)))) s
    | op => k = k' ∧ intBin op k a b fun v => K (.one (.l v)) s)
  | .l (.bool a), .l (.bool b) => (match op with
    | .eql => K (.one (.l (.bool (a == b)))) s
    | .neq => K (.one (.l (.bool (a != b)))) s
    | _ => False)
  | .l (.str a), .l (.str b) => (match op with
    | .eql => K (.one (.l (.bool (a == b)))) s
    | .neq => K (.one (.l (.bool (a != b)))) s
    | .add => a.length + b.length ≤ 9223372036854775807 ∧ K (.one (.l (.str (a ++ b)))) s
    | _ => False)
  | _, _ => False

theorem inK_tmod {k : IntKind} {a b : Int} (ha : inK k a) : inK k (a.tmod b) := by
  have key : (0 ≤ a → 0 ≤ a.tmod b ∧ a.tmod b ≤ a) ∧ (a ≤ 0 → a ≤ a.tmod b ∧ a.tmod b ≤ 0) := by
    constructor
    · intro h
      refine ⟨Int.tmod_nonneg b h, ?_⟩
      rw [← Int.natAbs_of_nonneg h]
      rcases Int.natAbs_eq b with e | e
      · rw [e]
        have := Nat.mod_le a.natAbs b.natAbs
        rw [← Int.ofNat_tmod]
        omega
      · rw [e, Int.tmod_neg, ← Int.ofNat_tmod]
        have := Nat.mod_le a.natAbs b.natAbs
        omega
    · intro h
      have h2 : a = -(a.natAbs : Int) := by omega
      rw [h2, Int.neg_tmod]
      rcases Int.natAbs_eq b with e | e
      · rw [e, ← Int.ofNat_tmod]
        have := Nat.mod_le a.natAbs b.natAbs
        omega
      · rw [e, Int.tmod_neg, ← Int.ofNat_tmod]
        have := Nat.mod_le a.natAbs b.natAbs
        omega
  have hz := inK_zero k
  unfold inK at *
  rcases Int.le_total 0 a with h | h
  · have := key.1 h; omega
  · have := key.2 h; omega
theorem inK_shr {k : IntKind} {a b : Int} (ha : inK k a) : inK k (shrOp k a b) := by
  unfold shrOp
  have hz := inK_zero k
  have hp : (0 : Int) < 2 ^ min b.toNat k.bits := Int.pow_pos (by decide)
  generalize (2 : Int) ^ min b.toNat k.bits = m at hp
  have e : a.fdiv m = a / m := Int.fdiv_eq_ediv_of_nonneg a (by omega)
  rw [e]
  unfold inK at *
  rcases Int.le_total 0 a with h | h
  · have h1 := Int.ediv_nonneg h (by omega : 0 ≤ m)
    have h2 := Int.ediv_le_self m h
    omega
  · have h1 : a ≤ a / m := by
      have := Int.mul_ediv_add_emod a m
      have h3 := Int.emod_nonneg a (by omega : m ≠ 0)
      have h4 := Int.emod_lt_of_pos a hp
      have h5 : a / m ≤ 0 := by
        rcases Int.lt_or_le 0 (a / m) with h6 | h6
        · have : m * 1 ≤ m * (a / m) := Int.mul_le_mul_of_nonneg_left (by omega) (by omega)
          omega
        · exact h6
      have h6 : m * (a / m) ≤ 1 * (a / m) := Int.mul_le_mul_of_nonpos_right (by omega) h5
      have h7 := Int.le_ediv_of_mul_le (c := m) (a := a) (b := a) hp (by
        have : a * m ≤ a * 1 := Int.mul_le_mul_of_nonpos_left h (by omega)
        omega)
      exact h7
    have h2 : a / m ≤ 0 := by
      rcases Int.lt_or_le 0 (a / m) with h6 | h6
      · have := Int.mul_ediv_add_emod a m
        have h3 := Int.emod_nonneg a (by omega : m ≠ 0)
        have : m * 1 ≤ m * (a / m) := Int.mul_le_mul_of_nonneg_left (by omega) (by omega)
        omega
      · exact h6
    omega
theorem bits_inK (op : BinOp) (k : IntKind) (a b : Int) : inK k (bitsOp op k a b) := wrap_inK _ _
theorem intBin_sound {op : BinOp} {k : IntKind} {a b : Int} {f : LV → Prop} (ha : inK k a) (h : intBin op k a b f) (t : TypeId) (x y : Operand) :
    ∃ v, (∀ w, (do eqGuard op t x y (.int k a) (.int k b); binOp op t (.int k a) (.int k b) : Sem Value).run C.P w = .ok v w) ∧ ∃ z, f z ∧ ∀ (G : Hp) (γ : Nat → Value), z.relV G γ v := by
  have hg : ∀ w, (eqGuard op t x y (.int k a) (.int k b)).run C.P w = .ok () w := by intro w; unfold eqGuard; split <;> simp
  cases op <;> simp only [intBin] at h
  case add => exact ⟨.int k (k.wrap (a + b)), fun w => by simp [hg, binOp, Op.intArith], _, h, fun _ _ => ⟨rfl, wrap_inK _ _⟩⟩
  case sub => exact ⟨.int k (k.wrap (a - b)), fun w => by simp [hg, binOp, Op.intArith], _, h, fun _ _ => ⟨rfl, wrap_inK _ _⟩⟩
  case mul => exact ⟨.int k (k.wrap (a * b)), fun w => by simp [hg, binOp, Op.intArith], _, h, fun _ _ => ⟨rfl, wrap_inK _ _⟩⟩
  case quo => exact ⟨.int k (k.wrap (a.tdiv b)), fun w => by simp [hg, binOp, Op.intDiv, h.1], _, h.2, fun _ _ => ⟨rfl, wrap_inK _ _⟩⟩
  case rem => exact ⟨.int k (a.tmod b), fun w => by simp [hg, binOp, Op.intDiv, h.1], _, h.2, fun _ _ => ⟨rfl, inK_tmod ha⟩⟩
  case and => exact ⟨.int k (bitsOp .and k a b), fun w => by simp only [Sem.run_bind, hg, Result.andThen_ok, binOp, Op.intBits, ne_eq, not_true_eq_false, if_false, Sem.run_pure]; rfl, _, h, fun _ _ => ⟨rfl, bits_inK _ _ _ _⟩⟩
  case or => exact ⟨.int k (bitsOp .or k a b), fun w => by simp only [Sem.run_bind, hg, Result.andThen_ok, binOp, Op.intBits, ne_eq, not_true_eq_false, if_false, Sem.run_pure]; rfl, _, h, fun _ _ => ⟨rfl, bits_inK _ _ _ _⟩⟩
  case xor => exact ⟨.int k (bitsOp .xor k a b), fun w => by simp only [Sem.run_bind, hg, Result.andThen_ok, binOp, Op.intBits, ne_eq, not_true_eq_false, if_false, Sem.run_pure]; rfl, _, h, fun _ _ => ⟨rfl, bits_inK _ _ _ _⟩⟩
  case andNot => exact ⟨.int k (bitsOp .andNot k a b), fun w => by simp only [Sem.run_bind, hg, Result.andThen_ok, binOp, Op.intBits, ne_eq, not_true_eq_false, if_false, Sem.run_pure]; rfl, _, h, fun _ _ => ⟨rfl, bits_inK _ _ _ _⟩⟩
  case eql => exact ⟨.bool (decide (a = b)), fun w => by simp [hg, binOp, Op.intCmp]; rfl, _, h, fun _ _ => rfl⟩
  case neq => exact ⟨.bool (!decide (a = b)), fun w => by simp [hg, binOp, Op.intCmp]; rfl, _, h, fun _ _ => rfl⟩
  case lss => exact ⟨.bool (decide (a < b)), fun w => by simp [hg, binOp, Op.intCmp], _, h, fun _ _ => rfl⟩
  case leq => exact ⟨.bool (decide (a ≤ b)), fun w => by simp [hg, binOp, Op.intCmp], _, h, fun _ _ => rfl⟩
  case gtr => exact ⟨.bool (decide (b < a)), fun w => by simp [hg, binOp, Op.intCmp], _, h, fun _ _ => rfl⟩
  case geq => exact ⟨.bool (decide (b ≤ a)), fun w => by simp [hg, binOp, Op.intCmp], _, h, fun _ _ => rfl⟩
end
end Go.Proofs.Ytnmjcdlgfimnaaa
