/- An evaluator for the kernel: values whose addresses are names of our own; trees; when a real value, a real block, a real memory is one of these. -/
import Derived.Calls
import Derived.KernelRfl
import Derived.Laws.Sem
namespace Go.Proofs.Ytclgglffbpfmhaa

/-! Trees. -/
inductive Pos
  | h
  | o (p : Pos)
  | i (p : Pos)
def Pos.val : Pos → Nat
  | .h => 0
  | .o p => 2 * p.val + 1
  | .i p => 2 * p.val + 2
def posF : Nat → Nat → Pos
  | 0, _ => .h
  | f + 1, n => bif Nat.beq n 0 then .h else bif Nat.beq (n % 2) 1 then .o (posF f (n / 2)) else .i (posF f (n / 2 - 1))
theorem posF_val : ∀ (f n : Nat), n + 2 ≤ 2 ^ (f + 1) → (posF f n).val = n
  | 0, n, h => by simp at h; subst h; rfl
  | f + 1, n, h => by
    unfold posF
    have hp : 2 ^ (f + 1 + 1) = 2 * 2 ^ (f + 1) := by rw [Nat.pow_succ]; omega
    cases h0 : Nat.beq n 0
    · have h0' : n ≠ 0 := by intro e; subst e; simp at h0
      rw [cond_false]
      cases h1 : Nat.beq (n % 2) 1
      · have h1' : n % 2 ≠ 1 := by intro e; rw [e] at h1; simp at h1
        rw [cond_false, Pos.val, posF_val f (n / 2 - 1) (by omega)]; omega
      · have h1' : n % 2 = 1 := by simpa using h1
        rw [cond_true, Pos.val, posF_val f (n / 2) (by omega)]; omega
    · have : n = 0 := by simpa using h0
      subst this; rfl
def key (n : Nat) : Pos := posF 40 n
/-- Names are below this. -/
def lim : Nat := 1099511627776
theorem key_inj {n m : Nat} (hn : n < lim) (hm : m < lim) (h : key n = key m) : n = m := by
  unfold lim at hn hm
  have h1 := posF_val 40 n (by omega)
  have h2 := posF_val 40 m (by omega)
  unfold key at h
  rw [h] at h1
  omega

inductive Tr (α : Type) where
  | e
  | n (l : Tr α) (v : Option α) (r : Tr α)
def Tr.get {α : Type} : Tr α → Pos → Option α
  | .e, _ => none
  | .n _ v _, .h => v
  | .n l _ _, .o p => l.get p
  | .n _ _ r, .i p => r.get p
def Tr.set {α : Type} : Pos → Tr α → α → Tr α
  | .h, .e, x => .n .e (some x) .e
  | .h, .n l _ r, x => .n l (some x) r
  | .o p, .e, x => .n (Tr.set p .e x) none .e
  | .o p, .n l v r, x => .n (Tr.set p l x) v r
  | .i p, .e, x => .n .e none (Tr.set p .e x)
  | .i p, .n l v r, x => .n l v (Tr.set p r x)
theorem Tr.get_e {α : Type} (p : Pos) : (Tr.e : Tr α).get p = none := by cases p <;> rfl
theorem Tr.get_set_same {α : Type} : ∀ (p : Pos) (t : Tr α) (x : α), (Tr.set p t x).get p = some x
  | .h, .e, _ => rfl
  | .h, .n _ _ _, _ => rfl
  | .o p, .e, x => Tr.get_set_same p .e x
  | .o p, .n l _ _, x => Tr.get_set_same p l x
  | .i p, .e, x => Tr.get_set_same p .e x
  | .i p, .n _ _ r, x => Tr.get_set_same p r x
theorem Tr.get_set_ne {α : Type} : ∀ (p q : Pos) (t : Tr α) (x : α), p ≠ q → (Tr.set p t x).get q = t.get q
  | .h, .h, _, _, h => absurd rfl h
  | .h, .o q, .e, _, _ => by simp [Tr.set, Tr.get]
  | .h, .i q, .e, _, _ => by simp [Tr.set, Tr.get]
  | .h, .o q, .n _ _ _, _, _ => rfl
  | .h, .i q, .n _ _ _, _, _ => rfl
  | .o p, .h, .e, _, _ => rfl
  | .o p, .h, .n _ _ _, _, _ => rfl
  | .o p, .i q, .e, _, _ => by simp [Tr.set, Tr.get]
  | .o p, .i q, .n _ _ _, _, _ => rfl
  | .o p, .o q, .e, x, h => by
    have := Tr.get_set_ne p q .e x (fun e => h (by rw [e]))
    simpa [Tr.set, Tr.get, Tr.get_e] using this
  | .o p, .o q, .n l _ _, x, h => Tr.get_set_ne p q l x (fun e => h (by rw [e]))
  | .i p, .h, .e, _, _ => rfl
  | .i p, .h, .n _ _ _, _, _ => rfl
  | .i p, .o q, .e, _, _ => by simp [Tr.set, Tr.get]
  | .i p, .o q, .n _ _ _, _, _ => rfl
  | .i p, .i q, .e, x, h => by
    have := Tr.get_set_ne p q .e x (fun e => h (by rw [e]))
    simpa [Tr.set, Tr.get, Tr.get_e] using this
  | .i p, .i q, .n _ _ r, x, h => Tr.get_set_ne p q r x (fun e => h (by rw [e]))

/-! Values. -/
inductive AV where
  | b (x : Bool)
  | i (k : IntKind) (n : Int)
  | s (l : List UInt8)
  | p (id off : Nat)
  | pn
  | sl (id off len cap : Nat) (ex : Bool)
  | se
  | sn
  | m (id : Nat)
  | mn
  | f (fn : FuncId) (caps : List AV)
  | fn0
  | mv (name : String) (r : AV)
  | ifc (t : TypeId) (v : AV)
  | ifn
  | agg (cs : List AV)
  | tup (vs : List AV)
  | und
  deriving Inhabited

/-- What a name stands for. -/
inductive Mk where
  | fresh
  | live (r n : Nat)
  | dead
abbrev Gm := Nat → Mk
def idOk (γ : Gm) (id r : Nat) : Prop := γ id ≠ .fresh ∧ ∀ r' n, γ id = .live r' n → r = r'
def ptrOk (γ : Gm) (id off : Nat) (a : Addr) : Prop := γ id ≠ .fresh ∧ ∀ r n, γ id = .live r n → a = ⟨r, off, none⟩
/-- A row: where it begins; where its end isn't known: its room lies in the block. -/
def slOk (γ : Gm) (id off c z : Nat) (ex : Bool) (a : Addr) : Prop := γ id ≠ .fresh ∧ ∀ r n, γ id = .live r n → a = ⟨r, off, none⟩ ∧ (ex = false → off + c * z ≤ n)

mutual
def AV.rel (γ : Gm) : AV → Value → Prop
  | .b x, v => v = .bool x
  | .i k n, v => v = .int k n
  | .s l, v => v = .string ⟨l.toArray⟩
  | .p id off, v => ∃ a, v = .pointer (some a) ∧ ptrOk γ id off a
  | .pn, v => v = .pointer none
  | .sl id off len cap ex, v => ∃ a c, v = .slice (some a) len c ∧ len ≤ c ∧ (ex = true → c = cap) ∧ slOk γ id off c cap ex a
  | .se, v => ∃ a c, v = .slice (some a) 0 c
  | .sn, v => v = .slice none 0 0
  | .m id, v => ∃ r, v = .map (some r) ∧ idOk γ id r
  | .mn, v => v = .map none
  | .f fn caps, v => ∃ cs : List Value, v = .func (.func fn) #[] cs.toArray ∧ AV.relL γ caps cs
  | .fn0, v => v = .nilFunc
  | .mv name r, v => ∃ u, v = .func (.method name) #[u] #[] ∧ AV.rel γ r u
  | .ifc t x, v => ∃ u, v = .iface t u ∧ AV.rel γ x u
  | .ifn, v => v = .nilIface
  | .agg cs, v => ∃ ds : List Value, v = .agg ds.toArray ∧ AV.relL γ cs ds
  | .tup cs, v => ∃ ds : List Value, v = .tuple ds.toArray ∧ AV.relL γ cs ds
  | .und, _ => True
def AV.relL (γ : Gm) : List AV → List Value → Prop
  | [], vs => vs = []
  | x :: r, vs => ∃ v vs', vs = v :: vs' ∧ AV.rel γ x v ∧ AV.relL γ r vs'
end

/-- How names may turn. -/
def Gm.le (γ γ' : Gm) : Prop := ∀ id, γ id ≠ .fresh → γ' id = γ id ∨ γ' id = .dead
theorem Gm.le_refl (γ : Gm) : Gm.le γ γ := fun _ _ => .inl rfl
theorem Gm.le_trans {a b c : Gm} (h : Gm.le a b) (h' : Gm.le b c) : Gm.le a c := by
  intro id hf
  rcases h id hf with e | e
  · rcases h' id (by rw [e]; exact hf) with e' | e'
    · exact .inl (e'.trans e)
    · exact .inr e'
  · rcases h' id (by rw [e]; simp) with e' | e'
    · exact .inr (e'.trans e)
    · exact .inr e'
theorem ptrOk.mono {γ γ' : Gm} (hg : Gm.le γ γ') {id off : Nat} {a : Addr} (h : ptrOk γ id off a) : ptrOk γ' id off a := by
  rcases hg id h.1 with e | e
  · exact ⟨by rw [e]; exact h.1, fun r n hr => h.2 r n (by rw [← e]; exact hr)⟩
  · exact ⟨by rw [e]; simp, fun r n hr => by rw [e] at hr; simp at hr⟩
theorem slOk.mono {γ γ' : Gm} (hg : Gm.le γ γ') {id off c z : Nat} {ex : Bool} {a : Addr} (h : slOk γ id off c z ex a) : slOk γ' id off c z ex a := by
  rcases hg id h.1 with e | e
  · exact ⟨by rw [e]; exact h.1, fun r n hr => h.2 r n (by rw [← e]; exact hr)⟩
  · exact ⟨by rw [e]; simp, fun r n hr => by rw [e] at hr; simp at hr⟩
theorem slOk.ptr {γ : Gm} {id off c z : Nat} {ex : Bool} {a : Addr} (h : slOk γ id off c z ex a) : ptrOk γ id off a := ⟨h.1, fun r n hr => (h.2 r n hr).1⟩
theorem ptrOk.sl {γ : Gm} {id off c z : Nat} {a : Addr} (h : ptrOk γ id off a) : slOk γ id off c z true a := ⟨h.1, fun r n hr => ⟨h.2 r n hr, by simp⟩⟩
theorem idOk.mono {γ γ' : Gm} (hg : Gm.le γ γ') {id r : Nat} (h : idOk γ id r) : idOk γ' id r := by
  rcases hg id h.1 with e | e
  · exact ⟨by rw [e]; exact h.1, fun r n hr => h.2 r n (by rw [← e]; exact hr)⟩
  · exact ⟨by rw [e]; simp, fun r n hr => by rw [e] at hr; simp at hr⟩
mutual
theorem AV.rel_mono {γ γ' : Gm} (hg : Gm.le γ γ') : ∀ {x : AV} {v : Value}, x.rel γ v → x.rel γ' v
  | .b _, _, h => h
  | .i _ _, _, h => h
  | .s _, _, h => h
  | .p _ _, _, ⟨a, e, h⟩ => ⟨a, e, h.mono hg⟩
  | .pn, _, h => h
  | .sl _ _ _ _ _, _, ⟨a, c, e, h1, h2, h⟩ => ⟨a, c, e, h1, h2, h.mono hg⟩
  | .se, _, h => h
  | .sn, _, h => h
  | .m _, _, ⟨r, e, h⟩ => ⟨r, e, h.mono hg⟩
  | .mn, _, h => h
  | .f _ _, _, ⟨cs, e, h⟩ => ⟨cs, e, AV.relL_mono hg h⟩
  | .fn0, _, h => h
  | .mv _ r, _, ⟨u, e, h⟩ => ⟨u, e, AV.rel_mono hg h⟩
  | .ifc _ x, _, ⟨u, e, h⟩ => ⟨u, e, AV.rel_mono hg h⟩
  | .ifn, _, h => h
  | .agg _, _, ⟨ds, e, h⟩ => ⟨ds, e, AV.relL_mono hg h⟩
  | .tup _, _, ⟨ds, e, h⟩ => ⟨ds, e, AV.relL_mono hg h⟩
  | .und, _, _ => trivial
theorem AV.relL_mono {γ γ' : Gm} (hg : Gm.le γ γ') : ∀ {l : List AV} {vs : List Value}, AV.relL γ l vs → AV.relL γ' l vs
  | [], _, h => h
  | _ :: _, _, ⟨v, vs', e, h1, h2⟩ => ⟨v, vs', e, AV.rel_mono hg h1, AV.relL_mono hg h2⟩
end
section
variable {γ : Gm}
theorem relL_length : ∀ {l : List AV} {vs : List Value}, AV.relL γ l vs → vs.length = l.length
  | [], _, h => by simp only [AV.relL] at h; simp [h]
  | _ :: _, _, ⟨v, vs', e, _, h2⟩ => by rw [e, List.length_cons, List.length_cons, relL_length h2]
theorem relL_append : ∀ {l m : List AV} {vs us : List Value}, AV.relL γ l vs → AV.relL γ m us → AV.relL γ (l ++ m) (vs ++ us)
  | [], _, _, _, h, h' => by simp only [AV.relL] at h; subst h; simpa using h'
  | _ :: _, _, _, _, ⟨v, vs', e, h1, h2⟩, h' => ⟨v, vs' ++ _, by rw [e]; rfl, h1, relL_append h2 h'⟩
theorem relL_append_inv : ∀ {l m : List AV} {vs : List Value}, AV.relL γ (l ++ m) vs → ∃ a b, vs = a ++ b ∧ AV.relL γ l a ∧ AV.relL γ m b
  | [], _, vs, h => ⟨[], vs, rfl, rfl, h⟩
  | _ :: _, _, _, ⟨v, vs', e, h1, h2⟩ => by
    obtain ⟨a, b, rfl, ha, hb⟩ := relL_append_inv h2
    exact ⟨v :: a, b, e, ⟨v, a, rfl, h1, ha⟩, hb⟩
/-- A part of a row, out of three. -/
theorem relL_cut {l : List AV} {vs : List Value} (h : AV.relL γ l vs) (off n : Nat) (hn : off + n ≤ l.length) :
    ∃ p es q, vs = p ++ (es ++ q) ∧ p.length = off ∧ es.length = n ∧ AV.relL γ (l.take off) p ∧ AV.relL γ ((l.drop off).take n) es ∧ AV.relL γ (l.drop (off + n)) q := by
  have e : l = l.take off ++ ((l.drop off).take n ++ l.drop (off + n)) := by
    conv => lhs; rw [← List.take_append_drop off l]
    congr 1
    conv => lhs; rw [← List.take_append_drop n (l.drop off)]
    rw [List.drop_drop]
  rw [e] at h
  obtain ⟨p, r, rfl, hp, hr⟩ := relL_append_inv h
  obtain ⟨es, q, rfl, he, hq⟩ := relL_append_inv hr
  refine ⟨p, es, q, rfl, ?_, ?_, hp, he, hq⟩
  · rw [relL_length hp, List.length_take]; omega
  · rw [relL_length he, List.length_take, List.length_drop]; omega
theorem relL_get : ∀ {l : List AV} {vs : List Value} {i : Nat} {x : AV}, AV.relL γ l vs → l[i]? = some x → ∃ v, vs[i]? = some v ∧ x.rel γ v
  | [], _, _, _, _, h => by simp at h
  | _ :: _, _, 0, _, ⟨v, vs', e, h1, _⟩, h => by
    simp only [List.getElem?_cons_zero, Option.some.injEq] at h
    subst h
    exact ⟨v, by rw [e]; rfl, h1⟩
  | _ :: _, _, i + 1, _, ⟨v, vs', e, _, h2⟩, h => by
    obtain ⟨u, hu, hr⟩ := relL_get h2 (by simpa using h)
    exact ⟨u, by rw [e]; simpa using hu, hr⟩
theorem relL_one {x : AV} {v : Value} (h : x.rel γ v) : AV.relL γ [x] [v] := ⟨v, [], rfl, h, rfl⟩
theorem relL_map {α : Type} {f : α → AV} {g : α → Value} (h : ∀ x, (f x).rel γ (g x)) : ∀ l : List α, AV.relL γ (l.map f) (l.map g)
  | [] => rfl
  | x :: l => ⟨g x, l.map g, rfl, h x, relL_map h l⟩
theorem relL_replicate {l : List AV} {vs : List Value} (h : AV.relL γ l vs) : ∀ n, AV.relL γ (List.replicate n l).flatten (List.replicate n vs).flatten
  | 0 => rfl
  | n + 1 => by
    rw [List.replicate_succ, List.replicate_succ, List.flatten_cons, List.flatten_cons]
    exact relL_append h (relL_replicate h n)
end

/-- A value that lies in one cell. -/
def plainCell : Value → Bool
  | .agg _ => false
  | .tuple _ => false
  | _ => true
def AV.plain : AV → Bool
  | .agg _ => false
  | .tup _ => false
  | .und => false
  | _ => true
theorem AV.plain_rel {γ : Gm} {x : AV} {v : Value} (hp : x.plain = true) (h : x.rel γ v) : plainCell v = true := by
  cases x <;> simp only [AV.plain, Bool.false_eq_true] at hp <;> simp only [AV.rel] at h
  case b => subst h; rfl
  case i => subst h; rfl
  case s => subst h; rfl
  case p => obtain ⟨a, rfl, _⟩ := h; rfl
  case pn => subst h; rfl
  case sl => obtain ⟨a, c, rfl, _⟩ := h; rfl
  case se => obtain ⟨a, c, rfl⟩ := h; rfl
  case sn => subst h; rfl
  case m => obtain ⟨a, rfl, _⟩ := h; rfl
  case mn => subst h; rfl
  case f => obtain ⟨a, rfl, _⟩ := h; rfl
  case fn0 => subst h; rfl
  case mv => obtain ⟨a, rfl, _⟩ := h; rfl
  case ifc => obtain ⟨a, rfl, _⟩ := h; rfl
  case ifn => subst h; rfl
def plainL : List AV → Bool
  | [] => true
  | x :: r => x.plain && plainL r
theorem plainL_rel {γ : Gm} : ∀ {l : List AV} {vs : List Value}, plainL l = true → AV.relL γ l vs → ∀ v ∈ vs, plainCell v = true
  | [], _, _, h => by simp only [AV.relL] at h; simp [h]
  | x :: r, _, hp, ⟨v, vs', e, h1, h2⟩ => by
    simp only [plainL, Bool.and_eq_true] at hp
    intro u hu
    rw [e, List.mem_cons] at hu
    rcases hu with rfl | hu
    · exact AV.plain_rel hp.1 h1
    · exact plainL_rel hp.2 h2 u hu

/-- Cells of a value. -/
def AV.cells : AV → List AV
  | .agg cs => cs
  | x => [x]
theorem cells_of_plain {v : Value} (h : plainCell v = true) : v.cells.toList = [v] := by
  cases v <;> first | rfl | (simp [plainCell] at h)
/-- Known enough to be stored. -/
def AV.okCells (x : AV) : Bool := plainL x.cells
theorem AV.cells_rel {γ : Gm} {x : AV} {v : Value} (hp : x.okCells = true) (h : x.rel γ v) : AV.relL γ x.cells v.cells.toList := by
  cases x
  case agg cs => obtain ⟨ds, rfl, h⟩ := h; simpa [Value.cells, AV.cells] using h
  all_goals
    simp only [AV.okCells, AV.cells, plainL, Bool.and_true] at hp
    rw [cells_of_plain (AV.plain_rel hp h)]
    exact relL_one h

/-! Constants. -/
def ofV : Value → AV
  | .bool x => .b x
  | .int k n => .i k n
  | .string s => .s s.data.toList
  | .pointer none => .pn
  | .slice none 0 0 => .sn
  | .map none => .mn
  | .nilFunc => .fn0
  | .nilIface => .ifn
  | _ => .und
theorem ofV_rel (γ : Gm) (v : Value) : (ofV v).rel γ v := by
  unfold ofV
  split <;> first | rfl | trivial | skip
def ofZ : Value → AV
  | .agg cs => .agg (cs.toList.map ofV)
  | v => ofV v
theorem ofZ_rel (γ : Gm) (v : Value) : (ofZ v).rel γ v := by
  unfold ofZ
  split
  · rename_i cs
    exact ⟨cs.toList, by simp, relL_map_id γ cs.toList⟩
  · exact ofV_rel γ v
where
  relL_map_id (γ : Gm) : ∀ l : List Value, AV.relL γ (l.map ofV) l
    | [] => rfl
    | x :: l => ⟨x, l, rfl, ofV_rel γ x, relL_map_id γ l⟩

/-! Blocks, memory. -/
inductive AB where
  | cells (cs : List AV)
  | map (es : List (AV × AV))
  | ro (cs : List AV)
  | rm (es : List (AV × AV))
  | dead
  deriving Inhabited
def relE (γ : Gm) : List (AV × AV) → List MapEntry → Prop
  | [], es => es = []
  | x :: r, es => ∃ e es', es = e :: es' ∧ x.1.rel γ e.key ∧ x.2.rel γ e.val ∧ relE γ r es'
/-- Cells that may be written. -/
def frOk (fr : Nat × Nat) (n : Nat) : Prop := fr.1 = fr.2 ∨ n ≤ fr.1
theorem frOk_zero (n : Nat) : frOk (0, 0) n := .inl rfl
theorem frOk.at {fr : Nat × Nat} {n : Nat} (h : frOk fr n) (j : Nat) (hj : j < n) : (decide (fr.1 ≤ j) && decide (j < fr.2)) = false := by
  rcases h with h | h
  · by_cases h1 : fr.1 ≤ j
    · have : ¬ j < fr.2 := by omega
      simp [this]
    · simp [h1]
  · have : ¬ fr.1 ≤ j := by omega
    simp [this]
def AB.rel (γ : Gm) (n : Nat) : AB → Obj → Prop
  | .cells cs, o => ∃ ds sp t fr, o = .cells (ds ++ sp).toArray t fr ∧ frOk fr n ∧ (ds ++ sp).length = n ∧ AV.relL γ cs ds
  | .map es, o => ∃ l clock, o = .map l clock ∧ relE γ es l.toList
  | .ro cs, o => ∃ ds sp t fr, o = .cells (ds ++ sp).toArray t fr ∧ frOk fr n ∧ (ds ++ sp).length = n ∧ AV.relL γ cs ds
  | .rm es, o => ∃ l clock, o = .map l clock ∧ relE γ es l.toList
  | .dead, _ => True
theorem relE_mono {γ γ' : Gm} (hg : Gm.le γ γ') : ∀ {l : List (AV × AV)} {es : List MapEntry}, relE γ l es → relE γ' l es
  | [], _, h => h
  | _ :: _, _, ⟨e, es', e1, h1, h2, h3⟩ => ⟨e, es', e1, AV.rel_mono hg h1, AV.rel_mono hg h2, relE_mono hg h3⟩
theorem AB.rel_mono {γ γ' : Gm} (hg : Gm.le γ γ') {n : Nat} {x : AB} {o : Obj} (h : x.rel γ n o) : x.rel γ' n o := by
  cases x
  case cells cs => obtain ⟨ds, sp, t, fr, e, hf, hn, h⟩ := h; exact ⟨ds, sp, t, fr, e, hf, hn, AV.relL_mono hg h⟩
  case map es => obtain ⟨l, c, e, h⟩ := h; exact ⟨l, c, e, relE_mono hg h⟩
  case ro cs => obtain ⟨ds, sp, t, fr, e, hf, hn, h⟩ := h; exact ⟨ds, sp, t, fr, e, hf, hn, AV.relL_mono hg h⟩
  case rm es => obtain ⟨l, c, e, h⟩ := h; exact ⟨l, c, e, relE_mono hg h⟩
  case dead => trivial

/-- A block that may be looked into alone. -/
def lock : AB → AB
  | .cells cs => .ro cs
  | .map es => .rm es
  | b => b
def lockd : Option AB → Bool
  | some (.cells _) => false
  | some (.map _) => false
  | _ => true
theorem lock_rel {γ : Gm} {n : Nat} {b : AB} {o : Obj} (h : b.rel γ n o) : (lock b).rel γ n o := by
  cases b <;> exact h
theorem lock_lockd (b : AB) : lockd (some (lock b)) = true := by cases b <;> rfl
abbrev Hs := Tr AB
/-- A block that lives. -/
def gid (hp : Hs) (id : Nat) : Option AB := bif Nat.blt id lim then (match hp.get (key id) with
  | some .dead => none
  | x => x) else none
def sid (hp : Hs) (id : Nat) (b : AB) : Hs := Tr.set (key id) hp b
theorem lt_of_blt {n m : Nat} (h : Nat.blt n m = true) : n < m := by
  have := Nat.le_of_ble_eq_true h
  omega
theorem gid_lt {hp : Hs} {id : Nat} {b : AB} (h : gid hp id = some b) : id < lim := by
  unfold gid at h
  cases hb : Nat.blt id lim
  · rw [hb] at h; simp at h
  · exact lt_of_blt hb
theorem gid_sid_same {hp : Hs} {id : Nat} {b b' : AB} (h : gid (sid hp id b) id = some b') : b' = b := by
  unfold gid sid at h
  cases hb : Nat.blt id lim
  · rw [hb] at h; simp at h
  · rw [hb, cond_true, Tr.get_set_same] at h
    cases b <;> simp_all
theorem gid_sid_ne {hp : Hs} {id j : Nat} {b b' : AB} (hi : id < lim) (hne : id ≠ j) (h : gid (sid hp id b) j = some b') : gid hp j = some b' := by
  have hj := gid_lt h
  unfold gid sid at h
  unfold gid
  rw [Tr.get_set_ne _ _ _ _ (fun e => hne (key_inj hi hj e))] at h
  exact h
/-- What lives is there. -/
def HL (γ : Gm) (hp : Hs) (w : World) : Prop := ∀ id b, gid hp id = some b → ∃ r n o, γ id = .live r n ∧ w.heap[r]? = some o ∧ b.rel γ n o
/-- What lives is as it was. -/
def SameL (γ : Gm) (hp : Hs) (w w' : World) : Prop := ∀ id b r n, gid hp id = some b → γ id = .live r n → w'.heap[r]? = w.heap[r]?
theorem HL.same {γ : Gm} {hp : Hs} {w w' : World} (h : HL γ hp w) (hs : SameL γ hp w w') : HL γ hp w' := by
  intro id b hb
  obtain ⟨r, n, o, hr, ho, hrel⟩ := h id b hb
  exact ⟨r, n, o, hr, by rw [hs id b r n hb hr]; exact ho, hrel⟩
theorem SameL.refl (γ : Gm) (hp : Hs) (w : World) : SameL γ hp w w := fun _ _ _ _ _ _ => rfl

/-- What is kept: blocks, files, output. -/
structure Base where
  H : Nat → Option Obj
  Pr : Nat → Option (Nat × Nat)
  os : Os
  out : Array (Nat × ByteArray)
def Base.of (w : World) : Base := ⟨fun b => w.heap[b]?, fun _ => none, w.os, w.output⟩
/-- A real memory is one of ours; F: names that are still free; w0: the memory ahead of the call. -/
structure HR (F : Nat → Prop) (w0 : Base) (γ : Gm) (hp : Hs) (w : World) : Prop where
  live : HL γ hp w
  own : ∀ id r n, γ id = .live r n → (w0.H r = none ∨ w0.Pr id = some (r, n)) ∧ r < w.heap.size
  inj : ∀ id id' r n n', γ id = .live r n → γ id' = .live r n' → id = id'
  old : ∀ b o, w0.H b = some o → w.heap[b]? = some o
  os : w.os = w0.os
  out : w.output = w0.out
  free : ∀ id, F id → γ id = .fresh
  keep : ∀ id r n, w0.Pr id = some (r, n) → γ id = .live r n ∧ lockd (gid hp id) = true
theorem HR.weak {F F' : Nat → Prop} {w0 : Base} {γ : Gm} {hp : Hs} {w : World} (h : HR F w0 γ hp w) (hf : ∀ id, F' id → F id) : HR F' w0 γ hp w :=
  ⟨h.live, h.own, h.inj, h.old, h.os, h.out, fun id hi => h.free id (hf id hi), h.keep⟩
theorem HR.lt {F : Nat → Prop} {w0 : Base} {γ : Gm} {hp : Hs} {w : World} (h : HR F w0 γ hp w) {b : Nat} {o : Obj} (ho : w0.H b = some o) : b < w.heap.size := by
  have := h.old b o ho
  rcases Nat.lt_or_ge b w.heap.size with h' | h'
  · exact h'
  · simp [Array.getElem?_eq_none h'] at this
theorem HR.drew {F : Nat → Prop} {w0 : Base} {γ : Gm} {hp : Hs} {w : World} (h : HR F w0 γ hp w) (n : Nat) : HR F w0 γ hp { w with drawn := n } :=
  ⟨h.live, h.own, h.inj, h.old, h.os, h.out, h.free, h.keep⟩

theorem gid_sid_eq {hp : Hs} {d id : Nat} {b : AB} (hd : d < lim) (hne : d ≠ id) : gid (sid hp d b) id = gid hp id := by
  unfold gid sid
  cases hb : Nat.blt id lim
  · rfl
  · rw [Tr.get_set_ne _ _ _ _ (fun e => hne (key_inj hd (lt_of_blt hb) e))]
theorem gid_sid_none {hp : Hs} {d id : Nat} {b : AB} (hd : d < lim) (hne : d ≠ id) (h : lockd (gid hp id) = true) : lockd (gid (sid hp d b) id) = true := by
  rw [gid_sid_eq hd hne]; exact h
theorem HR.pr {F : Nat → Prop} {w0 : Base} {γ : Gm} {hp : Hs} {w : World} (h : HR F w0 γ hp w) {id : Nat} {b : AB} (hg : gid hp id = some b) (hlk : lockd (some b) = false) : w0.Pr id = none := by
  cases hx : w0.Pr id with
  | none => rfl
  | some p =>
    have := (h.keep id p.1 p.2 hx).2
    rw [hg, hlk] at this; cases this
def wpush (w : World) (o : Obj) : World := { w with heap := w.heap.push o }
def wset (w : World) (b : Nat) (o : Obj) : World := { w with heap := w.heap.setIfInBounds b o }
def setG (γ : Gm) (id : Nat) (m : Mk) : Gm := fun j => if j = id then m else γ j
theorem setG_same {γ : Gm} {id : Nat} {m : Mk} : setG γ id m id = m := by simp [setG]
theorem setG_ne {γ : Gm} {id j : Nat} {m : Mk} (h : j ≠ id) : setG γ id m j = γ j := by simp [setG, h]
theorem setG_le {γ : Gm} {id : Nat} {m : Mk} (h : γ id = .fresh) : Gm.le γ (setG γ id m) := by
  intro j hj
  have : j ≠ id := fun e => hj (e ▸ h)
  exact .inl (setG_ne this)
theorem kill_le {γ : Gm} {id : Nat} : Gm.le γ (setG γ id .dead) := by
  intro j _
  by_cases e : j = id
  · subst e; exact .inr setG_same
  · exact .inl (setG_ne e)
theorem push_get {w : World} {o : Obj} {r : Nat} (h : r < w.heap.size) : (wpush w o).heap[r]? = w.heap[r]? := by
  simp only [wpush]
  rw [Array.getElem?_push_lt h, ← Array.getElem?_eq_getElem h]
theorem push_new {w : World} {o : Obj} : (wpush w o).heap[w.heap.size]? = some o := by simp [wpush]
theorem set_ne {w : World} {o : Obj} {r j : Nat} (h : r ≠ j) : (wset w r o).heap[j]? = w.heap[j]? := by
  simp only [wset]
  rw [Array.getElem?_setIfInBounds_ne h]
theorem set_same {w : World} {o : Obj} {r : Nat} (h : r < w.heap.size) : (wset w r o).heap[r]? = some o := by simp [wset, h]

section
variable {F : Nat → Prop} {w0 : Base} {γ : Gm} {hp : Hs} {w : World}
/-- A new block. -/
theorem HR.push (h : HR F w0 γ hp w) {d n : Nat} (hd : γ d = .fresh) (hl : d < lim) {b : AB} {o : Obj} (hb : b.rel (setG γ d (.live w.heap.size n)) n o) :
    HR (fun j => F j ∧ j ≠ d) w0 (setG γ d (.live w.heap.size n)) (sid hp d b) (wpush w o) := by
  have hle := setG_le (m := .live w.heap.size n) hd
  refine ⟨?_, ?_, ?_, ?_, h.os, h.out, ?_, ?_⟩
  · intro id b' hb'
    by_cases e : id = d
    · subst e
      have := gid_sid_same hb'
      subst this
      exact ⟨w.heap.size, n, o, setG_same, push_new, hb⟩
    · obtain ⟨r, m, o', hr, ho, hrel⟩ := h.live id b' (gid_sid_ne hl (Ne.symm e) hb')
      exact ⟨r, m, o', by rw [setG_ne e]; exact hr, by rw [push_get (h.own id r m hr).2]; exact ho, AB.rel_mono hle hrel⟩
  · intro id r m hr
    by_cases e : id = d
    · subst e
      rw [setG_same] at hr
      cases hr
      refine ⟨.inl ?_, by simp [wpush]⟩
      cases hx : w0.H w.heap.size with
      | none => rfl
      | some o' => exact absurd (h.lt hx) (Nat.lt_irrefl _)
    · rw [setG_ne e] at hr
      obtain ⟨h1, h2⟩ := h.own id r m hr
      exact ⟨h1, by simp [wpush]; omega⟩
  · intro id id' r m m' hr hr'
    by_cases e : id = d <;> by_cases e' : id' = d
    · rw [e, e']
    · exfalso
      subst e
      rw [setG_same] at hr
      rw [setG_ne e'] at hr'
      cases hr
      have := (h.own id' _ _ hr').2
      omega
    · exfalso
      subst e'
      rw [setG_same] at hr'
      rw [setG_ne e] at hr
      cases hr'
      have := (h.own id _ _ hr).2
      omega
    · rw [setG_ne e] at hr
      rw [setG_ne e'] at hr'
      exact h.inj id id' r m m' hr hr'
  · intro j oj hj
    rw [← h.old j oj hj]
    exact push_get (h.lt hj)
  · rintro j ⟨hj, hne⟩
    rw [setG_ne hne]
    exact h.free j hj
  · intro id r m hp'
    obtain ⟨h1, h2⟩ := h.keep id r m hp'
    have hne : id ≠ d := fun e => by rw [e, hd] at h1; cases h1
    exact ⟨by rw [setG_ne hne]; exact h1, gid_sid_none hl (Ne.symm hne) h2⟩
/-- A block is written anew. -/
theorem HR.set (h : HR F w0 γ hp w) {d r n : Nat} (hr : γ d = .live r n) (hl : d < lim) {b0 : AB} (hg : gid hp d = some b0) (hlk : lockd (some b0) = false) {b : AB} {o : Obj} (hb : b.rel γ n o) :
    HR F w0 γ (sid hp d b) (wset w r o) := by
  obtain ⟨h1, h2⟩ := h.own d r n hr
  have hpd := h.pr hg hlk
  have h1 : w0.H r = none := h1.resolve_right (by rw [hpd]; simp)
  refine ⟨?_, ?_, h.inj, ?_, h.os, h.out, h.free, fun id r' m hp' => ?_⟩
  · intro id b' hb'
    by_cases e : id = d
    · subst e
      have := gid_sid_same hb'
      subst this
      exact ⟨r, n, o, hr, set_same h2, hb⟩
    · obtain ⟨r', m, o', hr', ho, hrel⟩ := h.live id b' (gid_sid_ne hl (Ne.symm e) hb')
      have hne : r ≠ r' := fun e' => e (h.inj id d r' m n hr' (e' ▸ hr))
      exact ⟨r', m, o', hr', by rw [set_ne hne]; exact ho, hrel⟩
  · intro id r' m hr'
    have := h.own id r' m hr'
    simpa [wset] using this
  · intro j oj hj
    rw [← h.old j oj hj]
    exact set_ne fun e => by rw [e, hj] at h1; cases h1
  · obtain ⟨h3, h4⟩ := h.keep id r' m hp'
    exact ⟨h3, gid_sid_none hl (fun e => by rw [e, hp'] at hpd; cases hpd) h4⟩
/-- A block dies. -/
theorem HR.kill (h : HR F w0 γ hp w) {d : Nat} (hl : d < lim) (hF : ¬ F d) {b0 : AB} (hg : gid hp d = some b0) (hlk : lockd (some b0) = false) : HR F w0 (setG γ d .dead) (sid hp d .dead) w := by
  have hpd := h.pr hg hlk
  refine ⟨?_, ?_, ?_, h.old, h.os, h.out, ?_, fun id r' m hp' => ?_⟩
  · intro id b' hb'
    by_cases e : id = d
    · subst e
      have := gid_sid_same hb'
      subst this
      exfalso
      unfold gid sid at hb'
      cases hx : Nat.blt id lim
      · rw [hx] at hb'; simp at hb'
      · rw [hx, cond_true, Tr.get_set_same] at hb'
        simp at hb'
    · obtain ⟨r', m, o', hr', ho, hrel⟩ := h.live id b' (gid_sid_ne hl (Ne.symm e) hb')
      exact ⟨r', m, o', by rw [setG_ne e]; exact hr', ho, AB.rel_mono kill_le hrel⟩
  · intro id r m hr
    by_cases e : id = d
    · subst e; rw [setG_same] at hr; cases hr
    · rw [setG_ne e] at hr; exact h.own id r m hr
  · intro id id' r m m' hr hr'
    by_cases e : id = d
    · subst e; rw [setG_same] at hr; cases hr
    · by_cases e' : id' = d
      · subst e'; rw [setG_same] at hr'; cases hr'
      · rw [setG_ne e] at hr
        rw [setG_ne e'] at hr'
        exact h.inj id id' r m m' hr hr'
  · intro id hi
    have : id ≠ d := fun e => hF (e ▸ hi)
    rw [setG_ne this]; exact h.free id hi
  · obtain ⟨h3, h4⟩ := h.keep id r' m hp'
    have hne : id ≠ d := fun e => by rw [e, hpd] at hp'; cases hp'
    exact ⟨by rw [setG_ne hne]; exact h3, gid_sid_none hl (Ne.symm hne) h4⟩
/-- A block that lives gets another name, and is written anew. -/
theorem HR.move (h : HR F w0 γ hp w) {d0 d r n : Nat} (hr : γ d0 = .live r n) (h0 : d0 < lim) {b0 : AB} (hg : gid hp d0 = some b0) (hlk : lockd (some b0) = false) (hd : γ d = .fresh) (hl : d < lim) {b : AB} {o : Obj}
    (hb : b.rel (setG (setG γ d0 .dead) d (.live r n)) n o) : HR (fun j => F j ∧ j ≠ d) w0 (setG (setG γ d0 .dead) d (.live r n)) (sid (sid hp d0 .dead) d b) (wset w r o) := by
  have hF0 : ¬ F d0 := fun hf => by rw [h.free d0 hf] at hr; cases hr
  have hk := h.kill h0 hF0 hg hlk
  obtain ⟨h1, h2⟩ := h.own d0 r n hr
  have h1 : w0.H r = none := h1.resolve_right (by rw [h.pr hg hlk]; simp)
  have hne : d ≠ d0 := fun e => by rw [e, hr] at hd; cases hd
  have hd' : setG γ d0 .dead d = .fresh := by rw [setG_ne hne]; exact hd
  have hno : ∀ id m, setG γ d0 .dead id ≠ .live r m := by
    intro id m hid
    by_cases e : id = d0
    · subst e; rw [setG_same] at hid; cases hid
    · rw [setG_ne e] at hid
      exact e (h.inj id d0 r m n hid hr)
  have hle := setG_le (m := .live r n) hd'
  refine ⟨?_, ?_, ?_, ?_, h.os, h.out, ?_, fun id r' m hp' => ?_⟩
  · intro id b' hb'
    by_cases e : id = d
    · subst e
      have := gid_sid_same hb'
      subst this
      exact ⟨r, n, o, setG_same, set_same h2, hb⟩
    · obtain ⟨r', m, o', hr', ho, hrel⟩ := hk.live id b' (gid_sid_ne hl (Ne.symm e) hb')
      have hner : r ≠ r' := fun e' => hno id m (e' ▸ hr')
      exact ⟨r', m, o', by rw [setG_ne e]; exact hr', by rw [set_ne hner]; exact ho, AB.rel_mono hle hrel⟩
  · intro id r' m hr'
    by_cases e : id = d
    · subst e
      rw [setG_same] at hr'
      cases hr'
      exact ⟨.inl h1, by simpa [wset] using h2⟩
    · rw [setG_ne e] at hr'
      have := hk.own id r' m hr'
      simpa [wset] using this
  · intro id id' r' m m' hr' hr''
    by_cases e : id = d <;> by_cases e' : id' = d
    · rw [e, e']
    · exfalso
      subst e
      rw [setG_same] at hr'
      rw [setG_ne e'] at hr''
      cases hr'
      exact hno id' _ hr''
    · exfalso
      subst e'
      rw [setG_same] at hr''
      rw [setG_ne e] at hr'
      cases hr''
      exact hno id _ hr'
    · rw [setG_ne e] at hr'
      rw [setG_ne e'] at hr''
      exact hk.inj id id' r' m m' hr' hr''
  · intro j oj hj
    rw [← h.old j oj hj]
    exact set_ne fun e => by rw [e, hj] at h1; cases h1
  · rintro j ⟨hj, hnej⟩
    rw [setG_ne hnej]
    exact hk.free j hj
  · obtain ⟨h3, h4⟩ := hk.keep id r' m hp'
    have hne2 : id ≠ d := fun e => by rw [e, hd'] at h3; cases h3
    exact ⟨by rw [setG_ne hne2]; exact h3, gid_sid_none hl (Ne.symm hne2) h4⟩
end
end Go.Proofs.Ytclgglffbpfmhaa
