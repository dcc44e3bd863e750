/- Indexes, conversions, calls. -/
import Derived.Test.YtnmjcdlgfimnaaaFj
namespace Go.Proofs.Ytnmjcdlgfimnaaa

section
variable {C : Ctx} {s : SymSt} {K : KT} {o : Oper}

/-- A slice's length, and how many cells an element has. -/
def Rep.slOf : {α : Type} → Rep α → α → Option (Nat × Nat)
  | _, .slice A, l => some (l.length, A.size)
  | _, _, _ => none
/-- A pointer to an element of a slice that never changes. -/
def Rep.slPtr : {α : Type} → Rep α → α → Nat → LV
  | _, .slice A, l, i => .eptr A (l.getD i A.zero) [] 0
  | _, _, _, _ => .undef
theorem Rep.slOf_spec : {α : Type} → (R : Rep α) → {x : α} → {n sz : Nat} → R.slOf x = some (n, sz) → {G : Hp} → (γ : Nat → Value) → {cs : List Value} → R.enc G x cs →
    ∃ a cap, cs = [.slice a n cap] ∧ n ≤ cap ∧ cap ≤ mxL ∧ ∀ i, i < n → ∃ b off, a = some ⟨b, off, none⟩ ∧ (R.slPtr x i).rel G γ [.pointer (some ⟨b, off + i * sz, none⟩)]
  | _, .slice A, l, n, sz, h, G, γ, cs, he => by
    simp only [slOf, Option.some.injEq, Prod.mk.injEq] at h
    obtain ⟨rfl, rfl⟩ := h
    obtain ⟨a, cap, e, hc, hmx, _, h⟩ := (enc_slice A G l cs).1 he
    refine ⟨a, cap, e, hc, hmx, ?_⟩
    intro i hi
    rcases h with rfl | ⟨b, p, es, q, t, fr, ha, hb, hl⟩
    · simp at hi
    · obtain ⟨p1, c1, q1, rfl, hp1, hc1, _, _⟩ := EncL.at (fun _ _ h => A.enc_length h) hl i hi
      refine ⟨b, p.length, ha, b, p ++ p1, c1, q1 ++ q, t, fr, ?_, by rw [hb]; simp only [List.append_assoc], ?_⟩
      · simp [hp1, poff]
      · rw [List.getD_eq_getElem?_getD, List.getElem?_eq_getElem hi]; exact hc1
  | _, .int _, _, _, _, h, _, _, _, _ => by simp [slOf] at h
  | _, .bool, _, _, _, h, _, _, _, _ => by simp [slOf] at h
  | _, .str, _, _, _, h, _, _, _, _ => by simp [slOf] at h
  | _, .unit, _, _, _, h, _, _, _, _ => by simp [slOf] at h
  | _, .pair _ _, _, _, _, h, _, _, _, _ => by simp [slOf] at h
  | _, .arr _ _, _, _, _, h, _, _, _, _ => by simp [slOf] at h
  | _, .iso _ _ _ _ _, _, _, _, h, _, _, _, _ => by simp [slOf] at h

def isConst : Operand → Bool
  | .const _ => true
  | _ => false

def vIndexAddr (C : Ctx) (s : SymSt) (t : TypeId) (x ix : Operand) (K : KT) : Prop := match ev s ix with
  | .l (.int _ m) => (match tdOf C t with
    | .arr n e => (match C.ty e with
      | some ei => 0 ≤ m ∧ m < n ∧ (match ev s x with
        | .l (.ptr id path off) => K (.one (.l (bif isConst ix then .ptr id path (off + m.toNat * ei.size) else .ptr id (path ++ [(off, ei.size, m)]) 0))) s
        | .l (.eptr A y path off) => K (.one (.l (bif isConst ix then .eptr A y path (off + m.toNat * ei.size) else .eptr A y (path ++ [(off, ei.size, m)]) 0))) s
        | _ => False)
      | none => False)
    | .slice e => (match C.ty e with
      | some ei => (match ev s x with
        | .l (.own id) => (match getM s.mem id with
          | some (.arr A l) => A.size = ei.size ∧ 0 ≤ m ∧ m < l.length ∧ K (.one (.l (.ptr id [(0, ei.size, m)] 0))) s
          | _ => False)
        | .l (.dat A y) => (match A.slOf y with
          | some (n, sz) => sz = ei.size ∧ 0 ≤ m ∧ m < n ∧ K (.one (.l (A.slPtr y m.toNat))) s
          | none => False)
        | .l (.view id path off n lo len) => n = ei.size ∧ 0 ≤ m ∧ m < len ∧ K (.one (.l (.ptr id (path ++ [(off, n, lo + m)]) 0))) s
        | _ => False)
      | none => False)
    | _ => False)
  | _ => False

theorem indexAddr_q {t : TypeId} {x ix : Operand} (ho : o.op = .indexAddr t x ix) (h : vIndexAddr C s t x ix K) : QSound C.P o s K := by
  intro R G γ fr a w hs hmf
  unfold vIndexAddr at h
  have hx := ev_rel hs x
  have hix := ev_rel hs ix
  split at h
  · rename_i k m hm
    rw [hm] at hix
    have hix' : a.eval ix = .int k m := (by simpa [SV.rel, LV.relV, LV.rel] using hix : a.eval ix = .int k m ∧ inK k m).1
    split at h
    · rename_i n e ht
      have hu : C.P.underlying t = some (.array n e) := by have := tdOf_fits (C := C) (t := t) (by rw [ht]; simp); rw [ht] at this; exact this
      split at h
      · rename_i ei hei
        obtain ⟨h0, hn, h⟩ := h
        have hsz : ∀ w, (sizeOf e).run C.P w = .ok ei.size w := fun w => run_size (C.ok _ _ hei)
        have key : ∀ b off w, (Instr.indexAt t (.pointer (some ⟨b, off, none⟩)) (.int k m)).run C.P w = .ok (.pointer (some ⟨b, off + m.toNat * ei.size, none⟩)) w := by
          intro b off w
          simp [Instr.indexAt, asIntOf, run_under hu, Instr.sureAddr, h0, hn, hsz, add_off]
        split at h
        · rename_i id path off he
          rw [he] at hx
          have hx' : a.eval x = .pointer (some ⟨blk (γ id), poff path off, none⟩) := by simpa [SV.rel, LV.relV, LV.rel] using hx
          refine ⟨.pointer (some ⟨blk (γ id), poff path off + m.toNat * ei.size, none⟩), _, fun w' _ => by simp [execOp, ho, hx', hix', key], h, ?_⟩
          cases isConst ix
          · simp [TV.rel, SV.rel, LV.relV, LV.rel, poff_snoc]
          · simp [TV.rel, SV.rel, LV.relV, LV.rel, poff_add]
        · rename_i α A z path off he
          rw [he] at hx
          obtain ⟨b, p1, es1, q1, t', fr, e', hb, henc⟩ := hx
          have hx' : a.eval x = .pointer (some ⟨b, p1.length + poff path off, none⟩) := by simpa using e'
          refine ⟨.pointer (some ⟨b, p1.length + poff path off + m.toNat * ei.size, none⟩), _, fun w' _ => by simp [execOp, ho, hx', hix', key], h, ?_⟩
          cases isConst ix
          · exact ⟨b, p1, es1, q1, t', fr, by rw [poff_snoc]; simp [Nat.add_assoc], hb, henc⟩
          · exact ⟨b, p1, es1, q1, t', fr, by rw [poff_add, Nat.add_assoc], hb, henc⟩
        · exact h.elim
      · exact h.elim
    · rename_i e ht
      have hu : C.P.underlying t = some (.slice e) := by have := tdOf_fits (C := C) (t := t) (by rw [ht]; simp); rw [ht] at this; exact this
      split at h
      · rename_i ei hei
        have hsz : ∀ w, (sizeOf e).run C.P w = .ok ei.size w := fun w => run_size (C.ok _ _ hei)
        have key : ∀ (b off len cap : Nat), 0 ≤ m → m < (len : Int) → ∀ w, (Instr.indexAt t (.slice (some ⟨b, off, none⟩) len cap) (.int k m)).run C.P w = .ok (.pointer (some ⟨b, off + m.toNat * ei.size, none⟩)) w := by
          intro b off len cap h0 hn w
          simp [Instr.indexAt, asIntOf, run_under hu, h0, hn, hsz, add_off]
        split at h
        · rename_i id he
          rw [he] at hx
          have hx' : a.eval x = γ id := by have := hx; simp only [SV.rel, LV.relV, LV.rel, List.cons.injEq, and_true] at this; exact this.1
          split at h
          · rename_i α A l hm'
            obtain ⟨hA, h0, hn, h⟩ := h
            rcases hmf.arr hm' with ⟨rfl, _⟩ | ⟨b, t', es, sp, c, e', hb, hl, _, _⟩
            · simp at hn; omega
            · refine ⟨.pointer (some ⟨b, 0 + m.toNat * ei.size, none⟩), _, fun w' _ => by simp only [execOp, ho, hx', e', hix', Sem.run_bind, key _ _ _ _ h0 hn w', Result.andThen_ok, Sem.run_pure], h, ?_⟩
              simp [TV.rel, SV.rel, LV.relV, LV.rel, poff, e', blk]
          · exact h.elim
        · rename_i α A y he
          rw [he] at hx
          split at h
          · rename_i n sz hsl
            obtain ⟨rfl, h0, hn, h⟩ := h
            obtain ⟨cs, henc, e1⟩ := hx
            obtain ⟨ad, cap, rfl, _, _, hp⟩ := A.slOf_spec hsl γ henc
            obtain ⟨b, off, rfl, hr⟩ := hp m.toNat (by omega)
            have hag : A.agg = false := by cases A <;> simp_all [Rep.slOf, Rep.agg]
            have hx' : a.eval x = .slice (some ⟨b, off, none⟩) n cap := by rw [e1]; simp [Rep.mk, hag]
            refine ⟨.pointer (some ⟨b, off + m.toNat * ei.size, none⟩), _, fun w' _ => by simp only [execOp, ho, hx', hix', Sem.run_bind, key _ _ _ _ h0 hn w', Result.andThen_ok, Sem.run_pure], h, ?_⟩
            have hl := LV.relV_of (x := A.slPtr y m.toNat) (v := .pointer (some ⟨b, off + m.toNat * ei.size, none⟩)) (by cases A <;> simp_all [Rep.slOf, Rep.slPtr, LV.isAgg]) hr
            exact hl
          · exact h.elim
        · rename_i id path off n lo len he
          rw [he] at hx
          obtain ⟨rfl, h0, hn, h⟩ := h
          obtain ⟨ad, cap, hcap, _, e0, ha, _⟩ := hx
          have hne : len ≠ 0 := by omega
          have e1 := (ha hne) ▸ e0
          have hx' : a.eval x = .slice (some ⟨blk (γ id), poff path off + lo * ei.size, none⟩) len cap := by simpa using e1
          refine ⟨.pointer (some ⟨blk (γ id), poff path off + lo * ei.size + m.toNat * ei.size, none⟩), _, fun w' _ => by simp only [execOp, ho, hx', hix', Sem.run_bind, key _ _ _ _ h0 hn w', Result.andThen_ok, Sem.run_pure], h, ?_⟩
          have e2 : ((lo : Int) + m).toNat = lo + m.toNat := by omega
          have e3 : poff path off + lo * ei.size + m.toNat * ei.size = poff path off + (lo + m.toNat) * ei.size + 0 := by rw [Nat.add_mul]; omega
          rw [e3]
          simp only [TV.rel, SV.rel, LV.relV, LV.rel, poff_snoc, e2]
        · exact h.elim
      · exact h.elim
    · exact h.elim
  · exact h.elim

/-- Conversions. -/
def vConvert (C : Ctx) (s : SymSt) (src dst : TypeId) (x : Operand) (K : KT) : Prop := match ev s x with
  | .l (.int _ n) => (match tdOf C dst with
    | .int k => tdOf C src ≠ .other ∧ K (.one (.l (.int k (k.wrap n)))) s
    | _ => False)
  | .l (.str b) => (match tdOf C dst with
    | .str => tdOf C src ≠ .other ∧ K (.one (.l (.str b))) s
    | _ => False)
  | _ => False
theorem under_some {t : TypeId} (h : tdOf C t ≠ .other) : ∃ d, C.P.underlying t = some d := by
  have := tdOf_fits h
  cases hd : tdOf C t <;> rw [hd] at this <;> simp only [TD.fits] at this
  case ptr => obtain ⟨e, h⟩ := this; exact ⟨_, h⟩
  case struct => obtain ⟨e, h, _⟩ := this; exact ⟨_, h⟩
  case func => obtain ⟨_, _, _, h⟩ := this; exact ⟨_, h⟩
  case other => exact absurd hd h
  all_goals exact ⟨_, this⟩
theorem convert_q {src dst : TypeId} {x : Operand} (ho : o.op = .convert src dst x) (h : vConvert C s src dst x K) : QSound C.P o s K := by
  intro R G γ fr a w hs hmf
  unfold vConvert at h
  have hx := ev_rel hs x
  split at h
  · rename_i k' n he
    rw [he] at hx
    have hx' : a.eval x = .int k' n := (by simpa [SV.rel, LV.relV, LV.rel] using hx : a.eval x = .int k' n ∧ inK k' n).1
    split at h
    · rename_i k ht
      have hu : C.P.underlying dst = some (.int k) := by have := tdOf_fits (C := C) (t := dst) (by rw [ht]; simp); rw [ht] at this; exact this
      obtain ⟨d, hd⟩ := under_some h.1
      refine ⟨.int k (k.wrap n), _, fun w' _ => ?_, h.2, rfl, wrap_inK _ _⟩
      cases d <;> simp [execOp, ho, hx', convert, run_under hu, run_under hd, Conv.intToInt]
    · exact h.elim
  · rename_i b he
    rw [he] at hx
    have hx' : a.eval x = .string ⟨b.toArray⟩ := (by simpa [SV.rel, LV.relV, LV.rel] using hx : a.eval x = .string ⟨b.toArray⟩ ∧ b.length ≤ mxL).1
    split at h
    · rename_i ht
      have hu : C.P.underlying dst = some .string := by have := tdOf_fits (C := C) (t := dst) (by rw [ht]; simp); rw [ht] at this; exact this
      obtain ⟨d, hd⟩ := under_some h.1
      refine ⟨.string ⟨b.toArray⟩, _, fun w' _ => ?_, h.2, by rw [← hx']; exact hx⟩
      cases d <;> simp [execOp, ho, hx', convert, run_under hu, run_under hd]
    · exact h.elim
  · exact h.elim

/-- A function of the program. -/
def IsFn (P : Program) (f : FuncId) : Prop := ∃ fn, P.funcs[f]? = some fn ∧ (fn.name == "runtime.NumGoroutine") = false ∧ fn.body.isNone = false

/-- A call of a function, in symbols. -/
def Wc (P : Program) (f : FuncId) (args : List SV) (s : SymSt) (K : KT) : Prop :=
  IsFn P f ∧ ∀ R G γ a w vs, Simm R G γ s a w → RelV G γ args vs → Calls P f vs.toArray w fun e w' => ∃ v, e = .returned v ∧ After R G a K v w'

/-- What a text's walks lean on: the types, and what is known of the functions that are called. -/
structure Env : Type 1 extends Ctx where
  ct : FuncId → List SV → Nat → SymSt → KT → Prop
  ctok : ∀ f args d s K, ct f args d s K → Wc P f args s K

def Ctx.env (C : Ctx) : Env := { C with ct := fun f args _ s K => Wc C.P f args s K, ctok := fun _ _ _ _ _ h => h }
def Env.with (E : Env) (n : FuncId) (c : List SV → Nat → SymSt → KT → Prop) (h : ∀ args d s K, c args d s K → Wc E.P n args s K) : Env :=
  { E with ct := fun f args d s K => if f = n then c args d s K else E.ct f args d s K
           ctok := fun f args d s K => by
             by_cases e : f = n
             · subst e; simpa using h args d s K
             · simpa [e] using E.ctok f args d s K }

def vCall (E : Env) (d : Nat) (s : SymSt) (f : Operand) (args : List Operand) (K : KT) : Prop := match ev s f with
  | .l (.clo g caps) => E.ct g (args.map (ev s) ++ caps.map fun i => .l (.ptr i [] 0)) d s K
  | _ => False

theorem RelV.append {G : Hp} {γ : Nat → Value} : ∀ {xs ys : List SV} {us vs : List Value}, RelV G γ xs us → RelV G γ ys vs → RelV G γ (xs ++ ys) (us ++ vs)
  | [], _, _, _, h, h' => by simp only [RelV] at h; subst h; exact h'
  | _ :: _, _, _, _, ⟨v, r, e, hx, hr⟩, h' => ⟨v, r ++ _, by rw [e]; rfl, hx, hr.append h'⟩
theorem ev_map {G : Hp} {γ : Nat → Value} {a : Act} (hs : SlotsOk G γ s.sl a.tmps) : ∀ args : List Operand, RelV G γ (args.map (ev s)) (args.map a.eval)
  | [] => rfl
  | x :: r => ⟨_, _, rfl, ev_rel hs x, ev_map hs r⟩
theorem caps_rel {G : Hp} {γ : Nat → Value} : ∀ caps : List Nat, RelV G γ (caps.map fun i => SV.l (.ptr i [] 0)) (caps.map fun i => Value.pointer (some ⟨blk (γ i), 0, none⟩))
  | [] => rfl
  | _ :: r => ⟨_, _, rfl, rfl, caps_rel r⟩

theorem call_sound {E : Env} {f : Operand} {args : Array Operand} {ts : Array TypeId} (ho : o.op = .call { callee := .value f, args := args, argTypes := ts }) (h : vCall E (dstOf o) s f args.toList K) : Sound E.P o s K := by
  intro R G γ a w hs
  unfold vCall at h
  have hf := ev_rel hs.sl f
  split at h
  · rename_i g caps he
    rw [he] at hf
    have hf' : a.eval f = .func (.func g) #[] (caps.map fun i => Value.pointer (some ⟨blk (γ i), 0, none⟩)).toArray := by simpa [SV.rel, LV.relV, LV.rel] using hf
    obtain ⟨⟨fn, hfn, h1, h2⟩, hc⟩ := E.ctok _ _ _ _ _ h
    have hcall := hc R G γ a w _ hs ((ev_map hs.sl args.toList).append (caps_rel (γ := γ) caps))
    have hrun : (execOp a.eval o).run E.P w = .ok (.enter g (args.toList.map a.eval ++ caps.map fun i => Value.pointer (some ⟨blk (γ i), 0, none⟩)).toArray) w := by
      simp only [execOp, ho, resolve, hf', Deferred.ofValue, Sem.run_bind, Sem.run_pure, Result.andThen_ok, invoke, callFunc, run_program, hfn, h1, h2, Bool.false_eq_true, if_false]
      congr 2
      simp
    unfold opSem
    rw [hrun]
    exact hcall
  · exact h.elim
end
end Go.Proofs.Ytnmjcdlgfimnaaa
