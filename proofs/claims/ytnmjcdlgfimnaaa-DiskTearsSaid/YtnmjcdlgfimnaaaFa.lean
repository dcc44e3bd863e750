/- How plain Lean data lie in the model's memory: 'Rep' (a type's layout), 'enc' (the cells that hold a datum), monotone in the memory that never changes. -/
import Derived.Calls
import Derived.KernelRfl
namespace Go.Proofs.Ytnmjcdlgfimnaaa
universe u

/-- A part of memory: some blocks. -/
abbrev Hp := Nat → Option Obj
def Hp.le (G H : Hp) : Prop := ∀ b o, G b = some o → H b = some o
theorem Hp.le_refl (G : Hp) : Hp.le G G := fun _ _ h => h
theorem Hp.le_trans {G H K : Hp} (h : Hp.le G H) (h' : Hp.le H K) : Hp.le G K := fun b o x => h' b o (h b o x)
def hpOf (w : World) : Hp := fun b => w.heap[b]?

/-- A layout: how a Lean type lies in cells. -/
inductive Rep : Type → Type 1
  | int (k : IntKind) : Rep Int
  | bool : Rep Bool
  | str : Rep (List UInt8)
  | unit : Rep Unit
  | pair {α β : Type} (A : Rep α) (B : Rep β) : Rep (α × β)
  | arr {α : Type} (n : Nat) (A : Rep α) : Rep (List α)
  | slice {α : Type} (A : Rep α) : Rep (List α)
  | iso {α β : Type} (A : Rep α) (to : β → α) (of : α → β) (h : ∀ y, of (to y) = y) (h' : ∀ x, to (of x) = x) : Rep β

/-- The same thing so many times (not laid open). -/
def repl {α : Type} (n : Nat) (x : α) : List α := List.replicate n x
namespace Rep
def size : {α : Type} → Rep α → Nat
  | _, .int _ => 1
  | _, .bool => 1
  | _, .str => 1
  | _, .unit => 0
  | _, .pair A B => A.size + B.size
  | _, .arr n A => n * A.size
  | _, .slice _ => 1
  | _, .iso A _ _ _ _ => A.size

/-- Is a value of it an aggregate? -/
def agg : {α : Type} → Rep α → Bool
  | _, .int _ => false
  | _, .bool => false
  | _, .str => false
  | _, .unit => true
  | _, .pair _ _ => true
  | _, .arr _ _ => true
  | _, .slice _ => false
  | _, .iso A _ _ _ _ => A.agg

def scalar : {α : Type} → Rep α → Bool
  | _, .int _ => true
  | _, .bool => true
  | _, .str => true
  | _, .iso A _ _ _ _ => A.scalar
  | _, _ => false

/-- It leads to no memory. -/
def flat : {α : Type} → Rep α → Bool
  | _, .int _ => true
  | _, .bool => true
  | _, .str => true
  | _, .unit => true
  | _, .pair A B => A.flat && B.flat
  | _, .arr _ A => A.flat
  | _, .slice _ => false
  | _, .iso A _ _ _ _ => A.flat

def zero : {α : Type} → Rep α → α
  | _, .int _ => 0
  | _, .bool => false
  | _, .str => []
  | _, .unit => ()
  | _, .pair A B => (A.zero, B.zero)
  | _, .arr n A => repl n A.zero
  | _, .slice _ => []
  | _, .iso A _ of _ _ => of A.zero
end Rep

/-- A list's elements, one behind the other. -/
def EncL {α : Type u} (E : α → List Value → Prop) : List α → List Value → Prop
  | [], cs => cs = []
  | x :: l, cs => ∃ c d, cs = c ++ d ∧ E x c ∧ EncL E l d

theorem EncL.mono {α : Type u} {E F : α → List Value → Prop} (h : ∀ x c, E x c → F x c) : ∀ {l : List α} {cs : List Value}, EncL E l cs → EncL F l cs
  | [], _, he => he
  | _ :: _, _, ⟨c, d, e, hx, hl⟩ => ⟨c, d, e, h _ _ hx, EncL.mono h hl⟩

theorem EncL.append {α : Type u} {E : α → List Value → Prop} : ∀ {l m : List α} {cs ds : List Value}, EncL E l cs → EncL E m ds → EncL E (l ++ m) (cs ++ ds)
  | [], _, _, _, he, hm => by simp only [EncL] at he; subst he; simpa using hm
  | _ :: _, _, _, _, ⟨c, d, e, hx, hl⟩, hm => ⟨c, d ++ _, by rw [e, List.append_assoc], hx, EncL.append hl hm⟩

theorem EncL.append_inv {α : Type u} {E : α → List Value → Prop} : ∀ {l m : List α} {cs : List Value}, EncL E (l ++ m) cs → ∃ c d, cs = c ++ d ∧ EncL E l c ∧ EncL E m d
  | [], _, cs, h => ⟨[], cs, rfl, rfl, h⟩
  | _ :: _, _, _, ⟨c, d, e, hx, hl⟩ => by
    obtain ⟨c', d', e', h1, h2⟩ := EncL.append_inv hl
    exact ⟨c ++ c', d', by rw [e, e', List.append_assoc], ⟨c, c', rfl, hx, h1⟩, h2⟩

theorem EncL.length {α : Type u} {E : α → List Value → Prop} {n : Nat} (hE : ∀ x c, E x c → c.length = n) : ∀ {l : List α} {cs : List Value}, EncL E l cs → cs.length = l.length * n
  | [], _, h => by simp only [EncL] at h; simp [h]
  | _ :: l, _, ⟨c, d, e, hx, hl⟩ => by
    rw [e, List.length_append, hE _ _ hx, EncL.length hE hl, List.length_cons, Nat.succ_mul, Nat.add_comm]

/-- The element at a place, and what stands ahead of it and behind it. -/
theorem EncL.at {α : Type u} {E : α → List Value → Prop} {n : Nat} (hE : ∀ x c, E x c → c.length = n) {l : List α} {cs : List Value} (h : EncL E l cs) (i : Nat) (hi : i < l.length) :
    ∃ p c q, cs = p ++ c ++ q ∧ p.length = i * n ∧ E l[i] c ∧ EncL E (l.take i) p ∧ EncL E (l.drop (i + 1)) q := by
  have e : l = l.take i ++ l[i] :: l.drop (i + 1) := by simp
  rw [e] at h
  obtain ⟨p, r, e1, hp, c, q, e2, hc, hq⟩ := EncL.append_inv h
  refine ⟨p, c, q, by rw [e1, e2, List.append_assoc], ?_, ?_, hp, hq⟩
  · have := EncL.length hE hp
    rw [this, List.length_take, Nat.min_eq_left (Nat.le_of_lt hi)]
  · simpa using hc

theorem EncL.set {α : Type u} {E : α → List Value → Prop} {l : List α} {i : Nat} (hi : i < l.length) {x : α} {p c q : List Value}
    (hp : EncL E (l.take i) p) (hc : E x c) (hq : EncL E (l.drop (i + 1)) q) : EncL E (l.set i x) (p ++ c ++ q) := by
  rw [List.set_eq_take_append_cons_drop, if_pos hi, List.append_assoc]
  exact EncL.append hp ⟨c, q, rfl, hc, hq⟩

/-- A number that is one of its kind. -/
def inK (k : IntKind) (n : Int) : Prop := k.min ≤ n ∧ n ≤ k.max
theorem wrap_inK (k : IntKind) (n : Int) : inK k (k.wrap n) := by
  unfold inK IntKind.wrap IntKind.min IntKind.max
  cases k <;> simp only [IntKind.signed, IntKind.bits, Bool.true_and, Bool.false_and, if_true, Bool.false_eq_true, if_false, Nat.reduceSub, Int.reducePow] <;> (try split) <;> simp_all <;> omega
theorem inK_zero (k : IntKind) : inK k 0 := by
  unfold inK IntKind.min IntKind.max
  cases k <;> simp [IntKind.signed, IntKind.bits]
/-- No list is longer. -/
def mxL : Nat := 9223372036854775807

namespace Rep
/-- The cells that hold a datum; what a slice leads to lies in G. -/
def enc : {α : Type} → Rep α → Hp → α → List Value → Prop
  | _, .int k, _, x, cs => cs = [.int k x] ∧ inK k x
  | _, .bool, _, x, cs => cs = [.bool x]
  | _, .str, _, x, cs => cs = [.string ⟨x.toArray⟩] ∧ x.length ≤ mxL
  | _, .unit, _, _, cs => cs = []
  | _, .pair A B, G, x, cs => ∃ c d, cs = c ++ d ∧ A.enc G x.1 c ∧ B.enc G x.2 d
  | _, .arr n A, G, l, cs => l.length = n ∧ EncL (fun x c => A.enc G x c) l cs
  | _, .slice A, G, l, cs => ∃ a cap, cs = [.slice a l.length cap] ∧ l.length ≤ cap ∧ cap ≤ mxL ∧ (a = none → cap = 0) ∧
      (l = [] ∨ ∃ b p es q t fr, a = some ⟨b, p.length, none⟩ ∧ G b = some (.cells (p ++ es ++ q).toArray t fr) ∧ EncL (fun x c => A.enc G x c) l es)
  | _, .iso A to _ _ _, G, y, cs => A.enc G (to y) cs

theorem enc_pair {α β : Type} (A : Rep α) (B : Rep β) (G : Hp) (x : α × β) (cs : List Value) : (Rep.pair A B).enc G x cs ↔ ∃ c d, cs = c ++ d ∧ A.enc G x.1 c ∧ B.enc G x.2 d := Iff.rfl
theorem enc_arr {α : Type} (n : Nat) (A : Rep α) (G : Hp) (l : List α) (cs : List Value) : (Rep.arr n A).enc G l cs ↔ l.length = n ∧ EncL (fun x c => A.enc G x c) l cs := Iff.rfl
theorem enc_slice {α : Type} (A : Rep α) (G : Hp) (l : List α) (cs : List Value) : (Rep.slice A).enc G l cs ↔ ∃ a cap, cs = [.slice a l.length cap] ∧ l.length ≤ cap ∧ cap ≤ mxL ∧ (a = none → cap = 0) ∧
      (l = [] ∨ ∃ b p es q t fr, a = some ⟨b, p.length, none⟩ ∧ G b = some (.cells (p ++ es ++ q).toArray t fr) ∧ EncL (fun x c => A.enc G x c) l es) := Iff.rfl
theorem enc_iso {α β : Type} (A : Rep α) (to : β → α) (of : α → β) (h : ∀ y, of (to y) = y) (h' : ∀ x, to (of x) = x) (G : Hp) (y : β) (cs : List Value) : (Rep.iso A to of h h').enc G y cs ↔ A.enc G (to y) cs := Iff.rfl

theorem enc_length : {α : Type} → (R : Rep α) → {G : Hp} → {x : α} → {cs : List Value} → R.enc G x cs → cs.length = R.size
  | _, .int _, _, _, _, h => by simp only [enc] at h; simp [h, size]
  | _, .bool, _, _, _, h => by simp only [enc] at h; simp [h, size]
  | _, .str, _, _, _, h => by simp only [enc] at h; simp [h, size]
  | _, .unit, _, _, _, h => by simp only [enc] at h; simp [h, size]
  | _, .pair A B, G, x, cs, h => by
    obtain ⟨c, d, e, h1, h2⟩ := (enc_pair A B G x cs).1 h
    rw [e, List.length_append, A.enc_length h1, B.enc_length h2, size]
  | _, .arr n A, G, x, cs, h => by
    obtain ⟨hn, h⟩ := (enc_arr n A G x cs).1 h
    rw [EncL.length (fun _ _ h => A.enc_length h) h, hn, size]
  | _, .slice A, G, x, cs, h => by
    obtain ⟨_, _, e, _⟩ := (enc_slice A G x cs).1 h
    simp [e, size]
  | _, .iso A _ _ _ _, _, _, _, h => A.enc_length (by simpa only [enc] using h)

theorem enc_mono : {α : Type} → (R : Rep α) → {G G' : Hp} → {x : α} → {cs : List Value} → Hp.le G G' → R.enc G x cs → R.enc G' x cs
  | _, .int _, _, _, _, _, _, h => by simpa only [enc] using h
  | _, .bool, _, _, _, _, _, h => by simpa only [enc] using h
  | _, .str, _, _, _, _, _, h => by simpa only [enc] using h
  | _, .unit, _, _, _, _, _, h => by simpa only [enc] using h
  | _, .pair A B, G, G', x, cs, hg, h => by
    obtain ⟨c, d, e, h1, h2⟩ := (enc_pair A B G x cs).1 h
    exact ⟨c, d, e, A.enc_mono hg h1, B.enc_mono hg h2⟩
  | _, .arr n A, G, G', x, cs, hg, h => by
    obtain ⟨hn, h⟩ := (enc_arr n A G x cs).1 h
    exact (enc_arr n A G' x cs).2 ⟨hn, EncL.mono (fun _ _ h => A.enc_mono hg h) h⟩
  | _, .slice A, G, G', x, cs, hg, h => by
    obtain ⟨a, cap, e, hl, hm, hn, h⟩ := (enc_slice A G x cs).1 h
    exact (enc_slice A G' x cs).2 ⟨a, cap, e, hl, hm, hn, h.imp id fun ⟨b, p, es, q, t, fr, ha, hb, he⟩ =>
      ⟨b, p, es, q, t, fr, ha, hg _ _ hb, EncL.mono (fun _ _ h => A.enc_mono hg h) he⟩⟩
  | _, .iso A _ _ _ _, _, _, _, _, hg, h => A.enc_mono hg (by simpa only [enc] using h)

theorem enc_flat : {α : Type} → (R : Rep α) → R.flat = true → {G : Hp} → (G' : Hp) → {x : α} → {cs : List Value} → R.enc G x cs → R.enc G' x cs
  | _, .int _, _, _, _, _, _, h => by simpa only [enc] using h
  | _, .bool, _, _, _, _, _, h => by simpa only [enc] using h
  | _, .str, _, _, _, _, _, h => by simpa only [enc] using h
  | _, .unit, _, _, _, _, _, h => by simpa only [enc] using h
  | _, .pair A B, hf, G, _, x, cs, h => by
    obtain ⟨c, d, e, h1, h2⟩ := (enc_pair A B G x cs).1 h
    simp only [flat, Bool.and_eq_true] at hf
    exact ⟨c, d, e, A.enc_flat hf.1 _ h1, B.enc_flat hf.2 _ h2⟩
  | _, .arr n A, hf, G, G', x, cs, h => by
    obtain ⟨hn, h⟩ := (enc_arr n A G x cs).1 h
    exact (enc_arr n A G' x cs).2 ⟨hn, EncL.mono (fun _ _ h => A.enc_flat hf _ h) h⟩
  | _, .iso A _ _ _ _, hf, _, _, _, _, h => A.enc_flat hf _ (by simpa only [enc] using h)

/-- No cell is an aggregate or a tuple. -/
def plainCell : Value → Bool
  | .agg _ => false
  | .tuple _ => false
  | _ => true
theorem EncL.plain {α : Type u} {E : α → List Value → Prop} (hE : ∀ x c, E x c → ∀ v ∈ c, plainCell v = true) : ∀ {l : List α} {cs : List Value}, EncL E l cs → ∀ v ∈ cs, plainCell v = true
  | [], _, h => by simp only [EncL] at h; simp [h]
  | _ :: _, _, ⟨c, d, e, hx, hl⟩ => by
    intro v hv
    rw [e, List.mem_append] at hv
    exact hv.elim (hE _ _ hx v) (EncL.plain hE hl v)
theorem enc_plain : {α : Type} → (R : Rep α) → {G : Hp} → {x : α} → {cs : List Value} → R.enc G x cs → ∀ v ∈ cs, plainCell v = true
  | _, .int _, _, _, _, h => by simp only [enc] at h; simp [h, plainCell]
  | _, .bool, _, _, _, h => by simp only [enc] at h; simp [h, plainCell]
  | _, .str, _, _, _, h => by simp only [enc] at h; simp [h, plainCell]
  | _, .unit, _, _, _, h => by simp only [enc] at h; simp [h]
  | _, .pair A B, G, x, cs, h => by
    obtain ⟨c, d, e, h1, h2⟩ := (enc_pair A B G x cs).1 h
    intro v hv
    rw [e, List.mem_append] at hv
    exact hv.elim (A.enc_plain h1 v) (B.enc_plain h2 v)
  | _, .arr n A, G, x, cs, h => EncL.plain (fun _ _ h => A.enc_plain h) ((enc_arr n A G x cs).1 h).2
  | _, .slice A, G, x, cs, h => by
    obtain ⟨_, _, e, _⟩ := (enc_slice A G x cs).1 h
    simp [e, plainCell]
  | _, .iso A _ _ _ _, _, _, _, h => A.enc_plain (by simpa only [enc] using h)
end Rep

/-- Numbers as cells. -/
theorem encL_ints (k : IntKind) : ∀ (l : List Int) (G : Hp) (cs : List Value), EncL (fun x c => (Rep.int k).enc G x c) l cs ↔ cs = l.map (.int k) ∧ ∀ x ∈ l, inK k x
  | [], _, _ => by simp [EncL]
  | x :: l, G, cs => by
    simp only [EncL, List.map_cons]
    constructor
    · rintro ⟨c, d, rfl, hc, hd⟩
      rw [encL_ints k l G] at hd
      simp only [Rep.enc] at hc
      refine ⟨by simp [hc.1, hd.1], ?_⟩
      intro y hy
      rcases List.mem_cons.1 hy with rfl | hy
      · exact hc.2
      · exact hd.2 y hy
    · rintro ⟨rfl, h⟩
      exact ⟨[.int k x], l.map (.int k), rfl, ⟨rfl, h x (by simp)⟩, (encL_ints k l G _).2 ⟨rfl, fun y hy => h y (by simp [hy])⟩⟩

/-- What is true of a datum that lies in memory. -/
def Rep.ok : {α : Type} → Rep α → α → Prop
  | _, .int k, x => inK k x
  | _, .bool, _ => True
  | _, .str, s => s.length ≤ mxL
  | _, .unit, _ => True
  | _, .pair A B, x => A.ok x.1 ∧ B.ok x.2
  | _, .arr n A, l => l.length = n ∧ ∀ x ∈ l, A.ok x
  | _, .slice A, l => l.length ≤ mxL ∧ ∀ x ∈ l, A.ok x
  | _, .iso A to _ _ _, y => A.ok (to y)
theorem EncL.all {α : Type u} {E : α → List Value → Prop} {p : α → Prop} (h : ∀ x c, E x c → p x) : ∀ {l : List α} {cs : List Value}, EncL E l cs → ∀ x ∈ l, p x
  | [], _, _, _, hx => by simp at hx
  | _ :: _, _, ⟨c, d, _, h1, h2⟩, x, hx => by
    rcases List.mem_cons.1 hx with rfl | hx
    · exact h _ _ h1
    · exact EncL.all h h2 x hx
theorem Rep.enc_ok : {α : Type} → (R : Rep α) → {G : Hp} → {x : α} → {cs : List Value} → R.enc G x cs → R.ok x
  | _, .int _, _, _, _, h => h.2
  | _, .bool, _, _, _, _ => trivial
  | _, .str, _, _, _, h => h.2
  | _, .unit, _, _, _, _ => trivial
  | _, .pair A B, G, x, cs, h => by
    obtain ⟨c, d, _, h1, h2⟩ := (enc_pair A B G x cs).1 h
    exact ⟨A.enc_ok h1, B.enc_ok h2⟩
  | _, .arr n A, G, x, cs, h => by
    obtain ⟨hn, h⟩ := (enc_arr n A G x cs).1 h
    exact ⟨hn, EncL.all (fun _ _ h => A.enc_ok h) h⟩
  | _, .slice A, G, l, cs, h => by
    obtain ⟨a, cap, e, hl, hm, hn, h⟩ := (enc_slice A G l cs).1 h
    refine ⟨Nat.le_trans hl hm, ?_⟩
    rcases h with rfl | ⟨b, p, es, q, t, fr, ha, hb, he⟩
    · intro x hx; simp at hx
    · exact EncL.all (fun _ _ h => A.enc_ok h) he
  | _, .iso A _ _ _ _, _, _, _, h => A.enc_ok (by simpa only [enc] using h)
end Go.Proofs.Ytnmjcdlgfimnaaa
