/- Regions that draw their order, on symbolic states: a schedule, what it asks, and that it suffices. -/
import Derived.Test.YtnmjcdlgfimnaaaFva
namespace Go.Proofs.Ytnmjcdlgfimnaaa

/-- The operations that turn nothing. -/
def isQuiet : Op → Bool
  | .move _ => true
  | .assign _ => true
  | .pick _ _ _ => true
  | .load _ _ => true
  | .nilCheck _ => true
  | .fieldAddr _ _ _ => true
  | .field _ _ _ => true
  | .indexAddr _ _ _ => true
  | .index _ _ _ => true
  | .extract _ _ => true
  | .binOp _ _ _ _ _ => true
  | .unOp _ _ _ => true
  | .convert _ _ _ => true
  | .build _ _ => true
  | .slice _ _ _ _ _ => true
  | .makeFunc _ _ _ => true
  | .sliceToArrayPointer _ _ => true
  | .call c => (match c.callee with
    | .builtin .len => true
    | .builtin .min => true
    | .builtin .max => true
    | _ => false)
  | _ => false

/-- In which order: first what is quiet, then whatever may come up. -/
inductive Sch
  | done
  | free (i : Nat) (r : Sch)
  | or (i : Nat) (x y : Sch)
  | stop
def Sch.heads : Sch → List Nat
  | .or i _ y => i :: y.heads
  | _ => []
def Sch.depth : Sch → Nat
  | .done => 0
  | .free _ r => r.depth + 1
  | .or _ x y => max (x.depth + 1) y.depth
  | .stop => 0
def quietAt (ops : Array Oper) (mem : Bool) (i : Nat) : Bool := match ops[i]? with
  | some o => isQuiet o.op && (mem || !memOp o.op)
  | none => false
def Sch.ok (ops : Array Oper) (late : List Nat) : Bool → Array Bool → Sch → Bool
  | top, listed, .done => top && (Region.ready .any ops listed).isEmpty
  | top, listed, .free i r => top && ((Region.ready .any ops listed).contains i && quietAt ops false i && !late.contains i && Region.free .any ops listed i && r.ok ops late true (listed.setIfInBounds i true))
  | top, listed, .or i x y => (!top || Sch.heads (.or i x y) == Region.ready .any ops listed) && (x.ok ops late true (listed.setIfInBounds i true) && y.ok ops late false listed)
  | top, _, .stop => !top
/-- First of all: what looks into memory. -/
def okA (ops : Array Oper) (late : List Nat) : Array Bool → List Nat → Bool
  | _, [] => true
  | listed, i :: r => (Region.ready .any ops listed).contains i && quietAt ops true i && !late.contains i && Region.free .any ops listed i && late.all (fun j => reachB ops ops.size j i) && okA ops late (listed.setIfInBounds i true) r
def listA : Array Bool → List Nat → Array Bool
  | l, [] => l
  | l, i :: r => listA (l.setIfInBounds i true) r
def okSch (ops : Array Oper) (A late : List Nat) (sch : Sch) : Bool :=
  Region.noSelect ops && (okA ops late (Array.replicate ops.size false) A && (sch.ok ops late true (listA (Array.replicate ops.size false) A) && Nat.ble (A.length + sch.depth) ops.size))

def vGuard (ops : List Oper) (o : Oper) (s : SymSt) (F N : SymSt → Prop) : Prop := match o.guard with
  | none => F s
  | some (j, want) => match (ops[j]?).bind (·.dst) with
    | none => False
    | some d => match getS s.sl d with
      | .one (.l (.bool b)) => (b = want → F (s.put d (.one (.l (.bool want))))) ∧ (b = !want → N (s.put d (.one (.l (.bool (!want))))))
      | .tup [] => N s
      | _ => False

def vcA (E : Env) (ops : List Oper) (Q : List Nat) : List Nat → SymSt → (SymSt → Prop) → Prop
  | [], s, K => K s
  | i :: r, s, K => match ops[i]? with
    | some o => vGuard ops o s (fun s1 => vqVal E.toCtx o ⟨s1.sl, keepM Q s1.mem, s1.pins⟩ fun tv _ => vcA E ops Q r (s1.putO o.dst tv) K) (fun s1 => vcA E ops Q r (s1.putO o.dst (.tup [])) K)
    | none => False
def vcSch (E : Env) (ops : List Oper) (late Q : List Nat) : Sch → Bool → SymSt → (SymSt → Prop) → Prop
  | .done, _, s, K => K s
  | .free i r, e, s, K => match ops[i]? with
    | some o => vGuard ops o s (fun s1 => vqVal E.toCtx o s1 fun tv _ => vcSch E ops late Q r e (s1.putO o.dst tv) K) (fun s1 => vcSch E ops late Q r e (s1.putO o.dst (.tup [])) K)
    | none => False
  | .or i x y, e, s, K => (match ops[i]? with
    | some o => vGuard ops o s (fun s1 => bif e || late.contains i then vcVal E o s1 (fun tv s2 => vcSch E ops late Q x true (s2.putO o.dst tv) K)
        else vcVal E o (s1.hide Q) (fun tv s2 => backOk Q s2.mem = true ∧ vcSch E ops late Q x false ((s2.unhide s1 Q).putO o.dst tv) K))
        (fun s1 => vcSch E ops late Q x (e || late.contains i) (s1.putO o.dst (.tup [])) K)
    | none => False) ∧ vcSch E ops late Q y e s K
  | .stop, _, _, _ => True

section
variable {P : Program} {ops : Array Oper}
theorem guard_cases {o : Oper} {s : SymSt} {F N : SymSt → Prop} (h : vGuard ops.toList o s F N) {G : Hp} {γ : Nat → Value} {a : Act} (hs : SlotsOk G γ s.sl a.tmps) :
    (∃ sl', SlotsOk G γ sl' a.tmps ∧ F ⟨sl', s.mem, s.pins⟩ ∧ Region.wanted o (yielded ops a.tmps) = true) ∨ (∃ sl', SlotsOk G γ sl' a.tmps ∧ N ⟨sl', s.mem, s.pins⟩ ∧ Region.wanted o (yielded ops a.tmps) = false) := by
  have know : ∀ {d : Nat} {tv : TV}, tv.rel G γ (a.tmps.getD d undef) → SlotsOk G γ ((d, tv) :: s.sl) a.tmps := by
    intro d tv hv i
    show TV.rel G γ (getS ((d, tv) :: s.sl) i) _
    unfold getS
    by_cases e : d = i
    · subst e; simpa using hv
    · have : (d == i) = false := by simpa using e
      rw [this, cond_false]; exact hs i
  unfold vGuard at h
  split at h
  · rename_i hg
    exact .inl ⟨s.sl, hs, h, by simp [Region.wanted, hg]⟩
  · rename_i j want hg
    split at h
    · exact h.elim
    · rename_i d hdj
      have hdj' : (ops[j]?).bind (·.dst) = some d := by simpa using hdj
      have hrel := hs d
      have hy : ∀ b, a.tmps.getD d undef = .bool b → yielded ops a.tmps j = some b := by
        intro b hb
        unfold yielded
        rw [hdj']
        simp only [Option.bind_some]
        rw [Array.getD_eq_getD_getElem?] at hb
        cases hx : a.tmps[d]? with
        | none => rw [hx] at hb; simp [undef] at hb
        | some v => rw [hx] at hb; simp only [Option.getD_some] at hb; rw [hb]
      split at h
      · rename_i b hb
        rw [hb] at hrel
        have hv : a.tmps.getD d undef = .bool b := by simpa [TV.rel, SV.rel, LV.relV, LV.rel] using hrel
        by_cases e : b = want
        · exact .inl ⟨_, know (by rw [hv, e]; rfl), h.1 e, by simp [Region.wanted, hg, hy b hv, e]⟩
        · have e' : b = !want := by cases b <;> cases want <;> simp_all
          exact .inr ⟨_, know (by rw [hv, e']; rfl), h.2 e', by simp [Region.wanted, hg, hy b hv, e]⟩
      · rename_i hb
        rw [hb] at hrel
        obtain ⟨vs, hvs, hv⟩ := hrel
        simp only [RelV] at hvs
        subst hvs
        have hyn : yielded ops a.tmps j = none := by
          unfold yielded
          rw [hdj']
          simp only [Option.bind_some]
          rw [Array.getD_eq_getD_getElem?] at hv
          cases hx : a.tmps[d]? with
          | none => rfl
          | some v => rw [hx] at hv; simp only [Option.getD_some] at hv; rw [hv]
        exact .inr ⟨s.sl, hs, h, by simp [Region.wanted, hg, hyn]⟩
      · exact h.elim

theorem SlotsOk.putO {G : Hp} {γ : Nat → Value} {s : SymSt} {a : Act} (hs : SlotsOk G γ s.sl a.tmps) {d : Option Nat} (hd : ∀ n, d = some n → n < a.tmps.size) {tv : TV} {v : Value} (hv : tv.rel G γ v) : SlotsOk G γ (s.putO d tv).sl (a.put d v).tmps := by
  cases d with
  | none => exact hs
  | some d =>
    intro i
    show TV.rel G γ (getS ((d, tv) :: s.sl) i) _
    unfold getS
    have hlt := hd d rfl
    by_cases e : d = i
    · subst e
      simp [Act.put, hlt, hv]
    · have : (d == i) = false := by simpa using e
      rw [this, cond_false]
      have := hs i
      simpa [Act.put, Array.getD_eq_getD_getElem?, Array.getElem?_setIfInBounds_ne e] using this
theorem putO_mem (s : SymSt) (d : Option Nat) (tv : TV) : (s.putO d tv).mem = s.mem ∧ (s.putO d tv).pins = s.pins := by cases d <;> exact ⟨rfl, rfl⟩
theorem put_defers (a : Act) (d : Option Nat) (v : Value) : (a.put d v).defers = a.defers := by cases d <;> rfl
end
end Go.Proofs.Ytnmjcdlgfimnaaa
