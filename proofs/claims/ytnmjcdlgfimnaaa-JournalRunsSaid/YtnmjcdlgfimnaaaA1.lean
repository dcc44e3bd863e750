/- How plain Lean data lie in the model's memory: 'Rep' (a type's layout), 'enc' (the cells that hold a datum), monotone in the memory that never changes. -/
import Derived.Calls
import Derived.KernelRfl
import Derived.Laws.Sem
import Derived.Laws.Entries
namespace Go.Proofs.Ytnmjcdlgfimnaaa
universe u
abbrev Hp := Nat → Option Obj
def Hp.le (G H : Hp) : Prop := ∀ b o, G b = some o → H b = some o
theorem Hp.le_refl (G : Hp) : Hp.le G G := fun _ _ h => h
theorem Hp.le_trans {G H K : Hp} (h : Hp.le G H) (h' : Hp.le H K) : Hp.le G K := fun b o x => h' b o (h b o x)
def Qeh (w : World) : Hp := fun b => w.heap[b]?
inductive Rep : Type → Type 1
 | int (k : IntKind) : Rep Int
 | bool : Rep Bool
 | str : Rep (List UInt8)
 | unit : Rep Unit
 | pair {α β : Type} (A : Rep α) (B : Rep β) : Rep (α × β)
 | arr {α : Type} (n : Nat) (A : Rep α) : Rep (List α)
 | slice {α : Type} (A : Rep α) : Rep (List α)
 | iso {α β : Type} (A : Rep α) (to : β → α) (of : α → β) (h : ∀ y, of (to y) = y) (h' : ∀ x, to (of x) = x) : Rep β
def Qc1 {α : Type} (n : Nat) (x : α) : List α := List.replicate n x
namespace Rep
def size : {α : Type} → Rep α → Nat
 | _, .int _ => 1
 | _, .bool => 1
 | _, .str => 1
 | _, .unit => 0
 | _, .pair A B => A.size + B.size
 | _, .arr n A => n * A.size
 | _, .slice _ => 1
 | _, .iso A _ _ _ _ => A.size
def agg : {α : Type} → Rep α → Bool
 | _, .int _ => false
 | _, .bool => false
 | _, .str => false
 | _, .unit => true
 | _, .pair _ _ => true
 | _, .arr _ _ => true
 | _, .slice _ => false
 | _, .iso A _ _ _ _ => A.agg
def scalar : {α : Type} → Rep α → Bool
 | _, .int _ => true
 | _, .bool => true
 | _, .str => true
 | _, .iso A _ _ _ _ => A.scalar
 | _, _ => false
def flat : {α : Type} → Rep α → Bool
 | _, .int _ => true
 | _, .bool => true
 | _, .str => true
 | _, .unit => true
 | _, .pair A B => A.flat && B.flat
 | _, .arr _ A => A.flat
 | _, .slice _ => false
 | _, .iso A _ _ _ _ => A.flat
def zero : {α : Type} → Rep α → α
 | _, .int _ => 0
 | _, .bool => false
 | _, .str => []
 | _, .unit => ()
 | _, .pair A B => (A.zero, B.zero)
 | _, .arr n A => Qc1 n A.zero
 | _, .slice _ => []
 | _, .iso A _ of _ _ => of A.zero
end Rep
def EncL {α : Type u} (E : α → List Value → Prop) : List α → List Value → Prop
 | [], cs => cs = []
 | x :: l, cs => ∃ c d, cs = c ++ d ∧ E x c ∧ EncL E l d
theorem EncL.mono {α : Type u} {E F : α → List Value → Prop} (h : ∀ x c, E x c → F x c) : ∀ {l : List α} {cs : List Value}, EncL E l cs → EncL F l cs
 | [], _, he => he
 | _ :: _, _, ⟨c, d, e, hx, hl⟩ => ⟨c, d, e, h _ _ hx, EncL.mono h hl⟩
theorem EncL.append {α : Type u} {E : α → List Value → Prop} : ∀ {l m : List α} {cs ds : List Value}, EncL E l cs → EncL E m ds → EncL E (l ++ m) (cs ++ ds)
 | [], _, _, _, he, hm => by simp only [EncL] at he; subst he; simpa using hm
 | _ :: _, _, _, _, ⟨c, d, e, hx, hl⟩, hm => ⟨c, d ++ _, by rw [e, List.append_assoc], hx, EncL.append hl hm⟩
theorem EncL.append_inv {α : Type u} {E : α → List Value → Prop} : ∀ {l m : List α} {cs : List Value}, EncL E (l ++ m) cs → ∃ c d, cs = c ++ d ∧ EncL E l c ∧ EncL E m d
 | [], _, cs, h => ⟨[], cs, rfl, rfl, h⟩
 | _ :: _, _, _, ⟨c, d, e, hx, hl⟩ => by
  obtain ⟨c', d', e', h1, h2⟩ := EncL.append_inv hl
  exact ⟨c ++ c', d', by rw [e, e', List.append_assoc], ⟨c, c', rfl, hx, h1⟩, h2⟩
theorem EncL.length {α : Type u} {E : α → List Value → Prop} {n : Nat} (hE : ∀ x c, E x c → c.length = n) : ∀ {l : List α} {cs : List Value}, EncL E l cs → cs.length = l.length * n
 | [], _, h => by simp only [EncL] at h; simp [h]
 | _ :: l, _, ⟨c, d, e, hx, hl⟩ => by
  rw [e, List.length_append, hE _ _ hx, EncL.length hE hl, List.length_cons, Nat.succ_mul, Nat.add_comm]
theorem EncL.at {α : Type u} {E : α → List Value → Prop} {n : Nat} (hE : ∀ x c, E x c → c.length = n) {l : List α} {cs : List Value} (h : EncL E l cs) (i : Nat) (hi : i < l.length) :
    ∃ p c q, cs = p ++ c ++ q ∧ p.length = i * n ∧ E l[i] c ∧ EncL E (l.take i) p ∧ EncL E (l.drop (i + 1)) q := by
 have e : l = l.take i ++ l[i] :: l.drop (i + 1) := by simp
 rw [e] at h
 obtain ⟨p, r, e1, hp, c, q, e2, hc, hq⟩ := EncL.append_inv h
 refine ⟨p, c, q, by rw [e1, e2, List.append_assoc], ?_, ?_, hp, hq⟩
 ·have := EncL.length hE hp
  rw [this, List.length_take, Nat.min_eq_left (Nat.le_of_lt hi)]
 ·simpa using hc
theorem EncL.set {α : Type u} {E : α → List Value → Prop} {l : List α} {i : Nat} (hi : i < l.length) {x : α} {p c q : List Value}
    (hp : EncL E (l.take i) p) (hc : E x c) (hq : EncL E (l.drop (i + 1)) q) : EncL E (l.set i x) (p ++ c ++ q) := by
 rw [List.set_eq_take_append_cons_drop, if_pos hi, List.append_assoc]
 exact EncL.append hp ⟨c, q, rfl, hc, hq⟩
def inK (k : IntKind) (n : Int) : Prop := k.min ≤ n ∧ n ≤ k.max
theorem Qdu (k : IntKind) (n : Int) : inK k (k.wrap n) := by
 unfold inK IntKind.wrap IntKind.min IntKind.max
 cases k <;> simp only [IntKind.signed, IntKind.bits, Bool.true_and, Bool.false_and, if_true, Bool.false_eq_true, if_false, Nat.reduceSub, Int.reducePow] <;> (try split) <;> simp_all <;> omega
theorem Qmc (k : IntKind) : inK k 0 := by
 unfold inK IntKind.min IntKind.max
 cases k <;> simp [IntKind.signed, IntKind.bits]
def mxL : Nat := 9223372036854775807
namespace Rep
def enc : {α : Type} → Rep α → Hp → α → List Value → Prop
 | _, .int k, _, x, cs => cs = [.int k x] ∧ inK k x
 | _, .bool, _, x, cs => cs = [.bool x]
 | _, .str, _, x, cs => cs = [.string ⟨x.toArray⟩] ∧ x.length ≤ mxL
 | _, .unit, _, _, cs => cs = []
 | _, .pair A B, G, x, cs => ∃ c d, cs = c ++ d ∧ A.enc G x.1 c ∧ B.enc G x.2 d
 | _, .arr n A, G, l, cs => l.length = n ∧ EncL (fun x c => A.enc G x c) l cs
 | _, .slice A, G, l, cs => ∃ a cap, cs = [.slice a l.length cap] ∧ l.length ≤ cap ∧ cap ≤ mxL ∧ (a = none → cap = 0) ∧
     (l = [] ∨ ∃ b p es q t fr, a = some ⟨b, p.length, none⟩ ∧ G b = some (.cells (p ++ es ++ q).toArray t fr) ∧ EncL (fun x c => A.enc G x c) l es)
 | _, .iso A to _ _ _, G, y, cs => A.enc G (to y) cs
theorem enc_pair {α β : Type} (A : Rep α) (B : Rep β) (G : Hp) (x : α × β) (cs : List Value) : (Rep.pair A B).enc G x cs ↔ ∃ c d, cs = c ++ d ∧ A.enc G x.1 c ∧ B.enc G x.2 d := Iff.rfl
theorem enc_arr {α : Type} (n : Nat) (A : Rep α) (G : Hp) (l : List α) (cs : List Value) : (Rep.arr n A).enc G l cs ↔ l.length = n ∧ EncL (fun x c => A.enc G x c) l cs := Iff.rfl
theorem enc_slice {α : Type} (A : Rep α) (G : Hp) (l : List α) (cs : List Value) : (Rep.slice A).enc G l cs ↔ ∃ a cap, cs = [.slice a l.length cap] ∧ l.length ≤ cap ∧ cap ≤ mxL ∧ (a = none → cap = 0) ∧
      (l = [] ∨ ∃ b p es q t fr, a = some ⟨b, p.length, none⟩ ∧ G b = some (.cells (p ++ es ++ q).toArray t fr) ∧ EncL (fun x c => A.enc G x c) l es) := Iff.rfl
theorem enc_iso {α β : Type} (A : Rep α) (to : β → α) (of : α → β) (h : ∀ y, of (to y) = y) (h' : ∀ x, to (of x) = x) (G : Hp) (y : β) (cs : List Value) : (Rep.iso A to of h h').enc G y cs ↔ A.enc G (to y) cs := Iff.rfl
theorem enc_length : {α : Type} → (R : Rep α) → {G : Hp} → {x : α} → {cs : List Value} → R.enc G x cs → cs.length = R.size
 | _, .int _, _, _, _, h => by simp only [enc] at h; simp [h, size]
 | _, .bool, _, _, _, h => by simp only [enc] at h; simp [h, size]
 | _, .str, _, _, _, h => by simp only [enc] at h; simp [h, size]
 | _, .unit, _, _, _, h => by simp only [enc] at h; simp [h, size]
 | _, .pair A B, G, x, cs, h => by
  obtain ⟨c, d, e, h1, h2⟩ := (enc_pair A B G x cs).1 h
  rw [e, List.length_append, A.enc_length h1, B.enc_length h2, size]
 | _, .arr n A, G, x, cs, h => by
  obtain ⟨hn, h⟩ := (enc_arr n A G x cs).1 h
  rw [EncL.length (fun _ _ h => A.enc_length h) h, hn, size]
 | _, .slice A, G, x, cs, h => by
  obtain ⟨_, _, e, _⟩ := (enc_slice A G x cs).1 h
  simp [e, size]
 | _, .iso A _ _ _ _, _, _, _, h => A.enc_length (by simpa only [enc] using h)
theorem enc_mono : {α : Type} → (R : Rep α) → {G G' : Hp} → {x : α} → {cs : List Value} → Hp.le G G' → R.enc G x cs → R.enc G' x cs
 | _, .int _, _, _, _, _, _, h => by simpa only [enc] using h
 | _, .bool, _, _, _, _, _, h => by simpa only [enc] using h
 | _, .str, _, _, _, _, _, h => by simpa only [enc] using h
 | _, .unit, _, _, _, _, _, h => by simpa only [enc] using h
 | _, .pair A B, G, G', x, cs, hg, h => by
  obtain ⟨c, d, e, h1, h2⟩ := (enc_pair A B G x cs).1 h
  exact ⟨c, d, e, A.enc_mono hg h1, B.enc_mono hg h2⟩
 | _, .arr n A, G, G', x, cs, hg, h => by
  obtain ⟨hn, h⟩ := (enc_arr n A G x cs).1 h
  exact (enc_arr n A G' x cs).2 ⟨hn, EncL.mono (fun _ _ h => A.enc_mono hg h) h⟩
 | _, .slice A, G, G', x, cs, hg, h => by
  obtain ⟨a, cap, e, hl, hm, hn, h⟩ := (enc_slice A G x cs).1 h
  exact (enc_slice A G' x cs).2 ⟨a, cap, e, hl, hm, hn, h.imp id fun ⟨b, p, es, q, t, fr, ha, hb, he⟩ =>
   ⟨b, p, es, q, t, fr, ha, hg _ _ hb, EncL.mono (fun _ _ h => A.enc_mono hg h) he⟩⟩
 | _, .iso A _ _ _ _, _, _, _, _, hg, h => A.enc_mono hg (by simpa only [enc] using h)
theorem enc_flat : {α : Type} → (R : Rep α) → R.flat = true → {G : Hp} → (G' : Hp) → {x : α} → {cs : List Value} → R.enc G x cs → R.enc G' x cs
 | _, .int _, _, _, _, _, _, h => by simpa only [enc] using h
 | _, .bool, _, _, _, _, _, h => by simpa only [enc] using h
 | _, .str, _, _, _, _, _, h => by simpa only [enc] using h
 | _, .unit, _, _, _, _, _, h => by simpa only [enc] using h
 | _, .pair A B, hf, G, _, x, cs, h => by
  obtain ⟨c, d, e, h1, h2⟩ := (enc_pair A B G x cs).1 h
  simp only [flat, Bool.and_eq_true] at hf
  exact ⟨c, d, e, A.enc_flat hf.1 _ h1, B.enc_flat hf.2 _ h2⟩
 | _, .arr n A, hf, G, G', x, cs, h => by
  obtain ⟨hn, h⟩ := (enc_arr n A G x cs).1 h
  exact (enc_arr n A G' x cs).2 ⟨hn, EncL.mono (fun _ _ h => A.enc_flat hf _ h) h⟩
 | _, .iso A _ _ _ _, hf, _, _, _, _, h => A.enc_flat hf _ (by simpa only [enc] using h)
def plainCell : Value → Bool
 | .agg _ => false
 | .tuple _ => false
 | _ => true
theorem EncL.plain {α : Type u} {E : α → List Value → Prop} (hE : ∀ x c, E x c → ∀ v ∈ c, plainCell v = true) : ∀ {l : List α} {cs : List Value}, EncL E l cs → ∀ v ∈ cs, plainCell v = true
 | [], _, h => by simp only [EncL] at h; simp [h]
 | _ :: _, _, ⟨c, d, e, hx, hl⟩ => by
  intro v hv
  rw [e, List.mem_append] at hv
  exact hv.elim (hE _ _ hx v) (EncL.plain hE hl v)
theorem enc_plain : {α : Type} → (R : Rep α) → {G : Hp} → {x : α} → {cs : List Value} → R.enc G x cs → ∀ v ∈ cs, plainCell v = true
 | _, .int _, _, _, _, h => by simp only [enc] at h; simp [h, plainCell]
 | _, .bool, _, _, _, h => by simp only [enc] at h; simp [h, plainCell]
 | _, .str, _, _, _, h => by simp only [enc] at h; simp [h, plainCell]
 | _, .unit, _, _, _, h => by simp only [enc] at h; simp [h]
 | _, .pair A B, G, x, cs, h => by
  obtain ⟨c, d, e, h1, h2⟩ := (enc_pair A B G x cs).1 h
  intro v hv
  rw [e, List.mem_append] at hv
  exact hv.elim (A.enc_plain h1 v) (B.enc_plain h2 v)
 | _, .arr n A, G, x, cs, h => EncL.plain (fun _ _ h => A.enc_plain h) ((enc_arr n A G x cs).1 h).2
 | _, .slice A, G, x, cs, h => by
  obtain ⟨_, _, e, _⟩ := (enc_slice A G x cs).1 h
  simp [e, plainCell]
 | _, .iso A _ _ _ _, _, _, _, h => A.enc_plain (by simpa only [enc] using h)
end Rep
theorem Qeg (k : IntKind) : ∀ (l : List Int) (G : Hp) (cs : List Value), EncL (fun x c => (Rep.int k).enc G x c) l cs ↔ cs = l.map (.int k) ∧ ∀ x ∈ l, inK k x
 | [], _, _ => by simp [EncL]
 | x :: l, G, cs => by
  simp only [EncL, List.map_cons]
  constructor
  ·rintro ⟨c, d, rfl, hc, hd⟩
   rw [Qeg k l G] at hd
   simp only [Rep.enc] at hc
   refine ⟨by simp [hc.1, hd.1], ?_⟩
   intro y hy
   rcases List.mem_cons.1 hy with rfl | hy
   ·exact hc.2
   ·exact hd.2 y hy
  ·rintro ⟨rfl, h⟩
   exact ⟨[.int k x], l.map (.int k), rfl, ⟨rfl, h x (by simp)⟩, (Qeg k l G _).2 ⟨rfl, fun y hy => h y (by simp [hy])⟩⟩
def Rep.ok : {α : Type} → Rep α → α → Prop
 | _, .int k, x => inK k x
 | _, .bool, _ => True
 | _, .str, s => s.length ≤ mxL
 | _, .unit, _ => True
 | _, .pair A B, x => A.ok x.1 ∧ B.ok x.2
 | _, .arr n A, l => l.length = n ∧ ∀ x ∈ l, A.ok x
 | _, .slice A, l => l.length ≤ mxL ∧ ∀ x ∈ l, A.ok x
 | _, .iso A to _ _ _, y => A.ok (to y)
theorem EncL.all {α : Type u} {E : α → List Value → Prop} {p : α → Prop} (h : ∀ x c, E x c → p x) : ∀ {l : List α} {cs : List Value}, EncL E l cs → ∀ x ∈ l, p x
 | [], _, _, _, hx => by simp at hx
 | _ :: _, _, ⟨c, d, _, h1, h2⟩, x, hx => by
  rcases List.mem_cons.1 hx with rfl | hx
  ·exact h _ _ h1
  ·exact EncL.all h h2 x hx
theorem Rep.enc_ok : {α : Type} → (R : Rep α) → {G : Hp} → {x : α} → {cs : List Value} → R.enc G x cs → R.ok x
 | _, .int _, _, _, _, h => h.2
 | _, .bool, _, _, _, _ => trivial
 | _, .str, _, _, _, h => h.2
 | _, .unit, _, _, _, _ => trivial
 | _, .pair A B, G, x, cs, h => by
  obtain ⟨c, d, _, h1, h2⟩ := (enc_pair A B G x cs).1 h
  exact ⟨A.enc_ok h1, B.enc_ok h2⟩
 | _, .arr n A, G, x, cs, h => by
  obtain ⟨hn, h⟩ := (enc_arr n A G x cs).1 h
  exact ⟨hn, EncL.all (fun _ _ h => A.enc_ok h) h⟩
 | _, .slice A, G, l, cs, h => by
  obtain ⟨a, cap, e, hl, hm, hn, h⟩ := (enc_slice A G l cs).1 h
  refine ⟨Nat.le_trans hl hm, ?_⟩
  rcases h with rfl | ⟨b, p, es, q, t, fr, ha, hb, he⟩
  ·intro x hx; simp at hx
  ·exact EncL.all (fun _ _ h => A.enc_ok h) he
 | _, .iso A _ _ _ _, _, _, _, h => A.enc_ok (by simpa only [enc] using h)
end Go.Proofs.Ytnmjcdlgfimnaaa
namespace Go.Proofs.Ytnmjcdlgfimnaaa
abbrev Qq7 := List (Nat × Nat × Int)
def Qdx : Qq7 → Nat → Nat
 | [], off => off
 | (b, n, i) :: p, off => b + i.toNat * n + Qdx p off
inductive LV : Type 1
 | int (k : IntKind) (x : Int)
 | bool (b : Bool)
 | str (s : List UInt8)
 | dat {α : Type} (R : Rep α) (x : α)
 | nils
 | emps
 | own (id : Nat)
 | ptr (id : Nat) (path : Qq7) (off : Nat)
 | nilp
 | eptr {α : Type} (R : Rep α) (x : α) (path : Qq7) (off : Nat)
 | view (id : Nat) (path : Qq7) (off n lo len : Nat)
 | clo (f : FuncId) (caps : List Nat)
 | mp (id : Nat)
 | nilm
 | mrow (m : Nat) (V : Int → Value) (key : Int)
 | mcut (m : Nat) (V : Int → Value) (key : Int) (n : Nat)
 | ocut (id n : Nat)
 | undef
inductive SV : Type 1
 | l (x : LV)
 | agg (xs : List LV)
inductive TV : Type 1
 | one (v : SV)
 | tup (vs : List SV)
structure Qst : Type 1 where
 P : Hp → Value → Hp → Prop
 mono : ∀ {G G' : Hp} {v : Value} {f : Hp}, Hp.le G G' → P G v f → P G' v f
inductive Box : Type 1
 | segs (l : List LV)
 | arr {α : Type} (R : Rep α) (l : List α)
 | sarr (n : Nat) (l : List LV)
 | obj {σ : Type} (O : σ → Qst) (D : σ)
 | mpr {α : Type} (A : Rep α) (M : Int → List α) (V : Int → Value) (dead : Option (Int × Option Nat))
structure Qan : Type 1 where
 sl : List (Nat × TV)
 mem : List (Nat × Box)
 pins : List Nat
def blk : Value → Nat
 | .pointer (some a) => a.block
 | .slice (some a) _ _ => a.block
 | .map (some r) => r
 | _ => 0
def Rep.mk {α : Type} (R : Rep α) (cs : List Value) : Value := if R.agg then .agg cs.toArray else cs.headD (.tuple #[])
def sng (b : Nat) (o : Obj) : Hp := fun j => if j = b then some o else none
def emp : Hp := fun _ => none
def LV.rel (G : Hp) (γ : Nat → Value) : LV → List Value → Prop
 | .int k x, cs => cs = [.int k x] ∧ inK k x
 | .bool b, cs => cs = [.bool b]
 | .str s, cs => cs = [.string ⟨s.toArray⟩] ∧ s.length ≤ mxL
 | .dat R x, cs => R.enc G x cs
 | .nils, cs => cs = [.slice none 0 0]
 | .emps, cs => ∃ a, cs = [.slice a 0 0]
 | .own id, cs => cs = [γ id] ∧ Rep.plainCell (γ id) = true
 | .ptr id path off, cs => cs = [.pointer (some ⟨blk (γ id), Qdx path off, none⟩)]
 | .nilp, cs => cs = [.pointer none]
 | .eptr R x path off, cs => ∃ b p es q t fr, cs = [.pointer (some ⟨b, p.length + Qdx path off, none⟩)] ∧ G b = some (.cells (p ++ (es ++ q)).toArray t fr) ∧ R.enc G x es
 | .view id path off n lo len, cs => ∃ a cap, len ≤ cap ∧ cap ≤ mxL ∧ cs = [.slice a len cap] ∧ (len ≠ 0 → a = some ⟨blk (γ id), Qdx path off + lo * n, none⟩) ∧ (a = none → cap = 0)
 | .clo f caps, cs => cs = [.func (.func f) #[] (caps.map fun i => Value.pointer (some ⟨blk (γ i), 0, none⟩)).toArray]
 | .mp id, cs => cs = [γ id] ∧ Rep.plainCell (γ id) = true
 | .nilm, cs => cs = [.map none]
 | .mrow _ V k, cs => cs = [V k] ∧ Rep.plainCell (V k) = true
 | .ocut id n, cs => ∃ a len c, γ id = .slice a len c ∧ n ≤ len ∧ len ≤ c ∧ cs = [.slice a n c]
 | .mcut _ V k n, cs => ∃ a len c, V k = .slice a len c ∧ n ≤ len ∧ len ≤ c ∧ cs = [.slice a n c]
 | .undef, cs => ∃ v, cs = [v] ∧ Rep.plainCell v = true
def LV.ids : LV → List Nat
 | .own id => [id]
 | .ptr id _ _ => [id]
 | .view id _ _ _ _ _ => [id]
 | .clo _ caps => caps
 | .mp id => [id]
 | .ocut id _ => [id]
 | _ => []
def LV.size : LV → Nat
 | .dat R _ => R.size
 | _ => 1
theorem LV.rel_length {G : Hp} {γ : Nat → Value} {x : LV} {cs : List Value} (h : x.rel G γ cs) : cs.length = x.size := by
 cases x <;> simp only [LV.rel] at h <;> simp only [LV.size]
 case dat R x => exact R.enc_length h
 case int => simp [h.1]
 case str => simp [h.1]
 case own => simp [h.1]
 case mp => simp [h.1]
 case eptr => obtain ⟨_, _, _, _, _, _, h, _⟩ := h; simp [h]
 case emps => obtain ⟨_, h⟩ := h; simp [h]
 case view => obtain ⟨_, _, _, _, h, _⟩ := h; simp [h]
 case mrow => simp [h.1]
 case ocut => obtain ⟨_, _, _, _, _, _, h⟩ := h; simp [h]
 case mcut => obtain ⟨_, _, _, _, _, _, h⟩ := h; simp [h]
 case undef => obtain ⟨_, h, _⟩ := h; simp [h]
 all_goals simp [h]
theorem LV.rel_plain {G : Hp} {γ : Nat → Value} {x : LV} {cs : List Value} (h : x.rel G γ cs) : ∀ v ∈ cs, Rep.plainCell v = true := by
 cases x <;> simp only [LV.rel] at h
 case dat R x => exact R.enc_plain h
 case int => simp [h.1, Rep.plainCell]
 case str => simp [h.1, Rep.plainCell]
 case own => simp [h.1, h.2]
 case mp => simp [h.1, h.2]
 case eptr => obtain ⟨_, _, _, _, _, _, h, _⟩ := h; simp [h, Rep.plainCell]
 case emps => obtain ⟨_, h⟩ := h; simp [h, Rep.plainCell]
 case view => obtain ⟨_, _, _, _, h, _⟩ := h; simp [h, Rep.plainCell]
 case mrow => simp [h.1, h.2]
 case ocut => obtain ⟨_, _, _, _, _, _, h⟩ := h; simp [h, Rep.plainCell]
 case mcut => obtain ⟨_, _, _, _, _, _, h⟩ := h; simp [h, Rep.plainCell]
 case undef => obtain ⟨_, h, hp⟩ := h; simp [h, hp]
 all_goals simp [h, Rep.plainCell]
theorem LV.rel_mono {G G' : Hp} {γ : Nat → Value} {x : LV} {cs : List Value} (hg : Hp.le G G') (h : x.rel G γ cs) : x.rel G' γ cs := by
 cases x <;> simp only [LV.rel] at h ⊢
 case dat R x => exact R.enc_mono hg h
 case eptr R x path off =>
  obtain ⟨b, p, es, q, t, fr, e, hb, he⟩ := h
  exact ⟨b, p, es, q, t, fr, e, hg _ _ hb, R.enc_mono hg he⟩
 all_goals exact h
theorem LV.rel_congr {G : Hp} {γ γ' : Nat → Value} {x : LV} {cs : List Value} (hi : ∀ i ∈ x.ids, γ' i = γ i) (h : x.rel G γ cs) : x.rel G γ' cs := by
 cases x <;> simp only [LV.rel] at h ⊢
 case own id => rw [hi id (by simp [ids])]; exact h
 case ptr id _ _ => rw [hi id (by simp [ids])]; exact h
 case view id _ _ _ _ _ => rw [hi id (by simp [ids])]; exact h
 case mp id => rw [hi id (by simp [ids])]; exact h
 case ocut id n => rw [hi id (by simp [ids])]; exact h
 case clo f caps =>
  rw [h]
  have : (caps.map fun i => Value.pointer (some ⟨blk (γ i), 0, none⟩)) = caps.map fun i => Value.pointer (some ⟨blk (γ' i), 0, none⟩) :=
   List.map_congr_left fun i hm => by rw [hi i (by simpa [ids] using hm)]
  rw [this]
 all_goals exact h
abbrev Qb5 (G : Hp) (γ : Nat → Value) : List LV → List Value → Prop := EncL (LV.rel G γ)
def Qez (l : List LV) : List Nat := l.flatMap LV.ids
def Qep : List LV → Nat
 | [] => 0
 | x :: l => x.size + Qep l
theorem Qb5.length {G : Hp} {γ : Nat → Value} : ∀ {l : List LV} {cs : List Value}, Qb5 G γ l cs → cs.length = Qep l
 | [], _, h => by simp only [Qb5, EncL] at h; simp [h, Qep]
 | x :: l, _, ⟨c, d, e, hx, hl⟩ => by rw [e, List.length_append, LV.rel_length hx, Qb5.length hl, Qep]
theorem Qb5.mono {G G' : Hp} {γ : Nat → Value} (hg : Hp.le G G') {l : List LV} {cs : List Value} (h : Qb5 G γ l cs) : Qb5 G' γ l cs := EncL.mono (fun _ _ => LV.rel_mono hg) h
theorem Qb5.plain {G : Hp} {γ : Nat → Value} {l : List LV} {cs : List Value} (h : Qb5 G γ l cs) : ∀ v ∈ cs, Rep.plainCell v = true := Rep.EncL.plain (fun _ _ => LV.rel_plain) h
theorem Qb5.congr {G : Hp} {γ γ' : Nat → Value} : ∀ {l : List LV} {cs : List Value}, (∀ i ∈ Qez l, γ' i = γ i) → Qb5 G γ l cs → Qb5 G γ' l cs
 | [], _, _, h => h
 | x :: l, _, hi, ⟨c, d, e, hx, hl⟩ => ⟨c, d, e, LV.rel_congr (fun i hm => hi i (by simp [Qez]; exact .inl hm)) hx,
     Qb5.congr (fun i hm => hi i (by simp only [Qez, List.flatMap_cons, List.mem_append]; exact .inr hm)) hl⟩
def LV.isAgg : LV → Bool
 | .dat R _ => R.agg
 | _ => false
def LV.relV (G : Hp) (γ : Nat → Value) : LV → Value → Prop
 | .dat R x, v => ∃ cs, R.enc G x cs ∧ v = R.mk cs
 | .undef, _ => True
 | x, v => x.rel G γ [v]
def SV.rel (G : Hp) (γ : Nat → Value) : SV → Value → Prop
 | .l x, v => x.relV G γ v
 | .agg xs, v => ∃ cs, Qb5 G γ xs cs ∧ v = .agg cs.toArray
def SV.ids : SV → List Nat
 | .l x => x.ids
 | .agg xs => Qez xs
theorem LV.relV_mono {G G' : Hp} {γ : Nat → Value} {x : LV} {v : Value} (hg : Hp.le G G') (h : x.relV G γ v) : x.relV G' γ v := by
 cases x <;> simp only [LV.relV] at h ⊢
 case dat R x => obtain ⟨cs, hc, e⟩ := h; exact ⟨cs, R.enc_mono hg hc, e⟩
 all_goals exact LV.rel_mono hg h
theorem LV.relV_congr {G : Hp} {γ γ' : Nat → Value} {x : LV} {v : Value} (hi : ∀ i ∈ x.ids, γ' i = γ i) (h : x.relV G γ v) : x.relV G γ' v := by
 cases x <;> simp only [LV.relV] at h ⊢
 case dat R x => exact h
 all_goals exact LV.rel_congr hi h
theorem SV.rel_mono {G G' : Hp} {γ : Nat → Value} {x : SV} {v : Value} (hg : Hp.le G G') (h : x.rel G γ v) : x.rel G' γ v := by
 cases x with
 | agg xs => obtain ⟨cs, hc, e⟩ := h; exact ⟨cs, hc.mono hg, e⟩
 | l x => exact LV.relV_mono hg h
theorem SV.rel_congr {G : Hp} {γ γ' : Nat → Value} {x : SV} {v : Value} (hi : ∀ i ∈ x.ids, γ' i = γ i) (h : x.rel G γ v) : x.rel G γ' v := by
 cases x with
 | agg xs => obtain ⟨cs, hc, e⟩ := h; exact ⟨cs, hc.congr hi, e⟩
 | l x => exact LV.relV_congr hi h
theorem LV.relV_of {G : Hp} {γ : Nat → Value} {x : LV} {v : Value} (ha : x.isAgg = false) (h : x.rel G γ [v]) : x.relV G γ v := by
 cases x <;> simp only [LV.relV]
 case dat R y => exact ⟨[v], h, by simp only [LV.isAgg] at ha; simp [Rep.mk, ha]⟩
 all_goals exact h
theorem Rep.size_of_not_agg : {α : Type} → (R : Rep α) → R.agg = false → R.size = 1
 | _, .int _, _ => rfl
 | _, .bool, _ => rfl
 | _, .str, _ => rfl
 | _, .slice _, _ => rfl
 | _, .iso A _ _ _ _, h => A.size_of_not_agg (by simpa only [Rep.agg] using h)
theorem Qd5 {v : Value} (h : Rep.plainCell v = true) : v.cells.toList = [v] := by
 cases v <;> first | rfl | (simp [Rep.plainCell] at h)
theorem Rep.mk_cells {α : Type} (R : Rep α) {G : Hp} {x : α} {cs : List Value} (h : R.enc G x cs) : (R.mk cs).cells.toList = cs := by
 unfold Rep.mk
 cases ha : R.agg
 ·have hl := R.enc_length h
  rw [R.size_of_not_agg ha] at hl
  match cs, hl with
  | [c], _ => exact Qd5 (R.enc_plain h c (by simp))
 ·rfl
theorem LV.rel_cells {G : Hp} {γ : Nat → Value} {x : LV} {v : Value} (hu : x ≠ .undef) (h : x.relV G γ v) : x.rel G γ v.cells.toList := by
 have key : ∀ y : LV, y.rel G γ [v] → y.rel G γ v.cells.toList := fun y hy => by
  rw [Qd5 (LV.rel_plain hy v (by simp))]; exact hy
 cases x <;> simp only [LV.relV] at h
 case dat R y =>
  obtain ⟨cs, hc, rfl⟩ := h
  rw [R.mk_cells hc]; exact hc
 case undef => exact absurd rfl hu
 all_goals exact key _ h
def Qcv (G : Hp) (γ : Nat → Value) : List SV → List Value → Prop
 | [], vs => vs = []
 | x :: xs, vs => ∃ v r, vs = v :: r ∧ x.rel G γ v ∧ Qcv G γ xs r
def TV.rel (G : Hp) (γ : Nat → Value) : TV → Value → Prop
 | .one x, v => x.rel G γ v
 | .tup xs, v => ∃ vs, Qcv G γ xs vs ∧ v = .tuple vs.toArray
def Qb1 (xs : List SV) : List Nat := xs.flatMap SV.ids
def TV.ids : TV → List Nat
 | .one x => x.ids
 | .tup xs => Qb1 xs
theorem Qcv.mono {G G' : Hp} {γ : Nat → Value} (hg : Hp.le G G') : ∀ {xs : List SV} {vs : List Value}, Qcv G γ xs vs → Qcv G' γ xs vs
 | [], _, h => h
 | _ :: _, _, ⟨v, r, e, hx, hr⟩ => ⟨v, r, e, SV.rel_mono hg hx, Qcv.mono hg hr⟩
theorem Qcv.congr {G : Hp} {γ γ' : Nat → Value} : ∀ {xs : List SV} {vs : List Value}, (∀ i ∈ Qb1 xs, γ' i = γ i) → Qcv G γ xs vs → Qcv G γ' xs vs
 | [], _, _, h => h
 | x :: xs, _, hi, ⟨v, r, e, hx, hr⟩ => ⟨v, r, e, SV.rel_congr (fun i hm => hi i (by simp only [Qb1, List.flatMap_cons, List.mem_append]; exact .inl hm)) hx,
     Qcv.congr (fun i hm => hi i (by simp only [Qb1, List.flatMap_cons, List.mem_append]; exact .inr hm)) hr⟩
theorem TV.rel_mono {G G' : Hp} {γ : Nat → Value} {x : TV} {v : Value} (hg : Hp.le G G') (h : x.rel G γ v) : x.rel G' γ v := by
 cases x with
 | one x => exact SV.rel_mono hg h
 | tup xs => obtain ⟨vs, hv, e⟩ := h; exact ⟨vs, hv.mono hg, e⟩
theorem TV.rel_congr {G : Hp} {γ γ' : Nat → Value} {x : TV} {v : Value} (hi : ∀ i ∈ x.ids, γ' i = γ i) (h : x.rel G γ v) : x.rel G γ' v := by
 cases x with
 | one x => exact SV.rel_congr hi h
 | tup xs => obtain ⟨vs, hv, e⟩ := h; exact ⟨vs, hv.congr hi, e⟩
end Go.Proofs.Ytnmjcdlgfimnaaa
namespace Go.Proofs.Ytnmjcdlgfimnaaa
structure Fr where
 hp : Hp
 os : Os
 out : Array (Nat × ByteArray)
 pin : Nat → Option Value
structure Ok (w : World) (G : Hp) (R : Fr) (ids : List Nat) (fr : Nat → Hp) : Prop where
 g : Hp.le G (Qeh w)
 r : Hp.le R.hp (Qeh w)
 gr : ∀ b, G b ≠ none → R.hp b = none
 f : ∀ i ∈ ids, Hp.le (fr i) (Qeh w)
 gf : ∀ i ∈ ids, ∀ b, fr i b ≠ none → G b = none
 rf : ∀ i ∈ ids, ∀ b, fr i b ≠ none → R.hp b = none
 ff : ∀ i ∈ ids, ∀ j ∈ ids, i ≠ j → ∀ b, fr i b ≠ none → fr j b = none
 os : w.os = R.os
 out : w.output = R.out
def Qe3 (k : Int) (e : MapEntry) : Bool := match e.key with
 | .int _ n => k == n
 | _ => false
def Qqr (es : Array MapEntry) (V : Int → Value) : Prop :=
 (∀ e ∈ es.toList, ∃ k, e.key = .int .i64 k) ∧ ∀ k, V k = ((es.toList.find? (Qe3 k)).map (·.val)).getD (.slice none 0 0)
def Qfc {α : Type} (R : Rep α) (G : Hp) (l : List α) (v : Value) (f : Hp) : Prop :=
 (∃ b t es sp c, v = .slice (some ⟨b, 0, none⟩) l.length c ∧ f = sng b (.cells (es ++ sp).toArray t (0, 0)) ∧ EncL (fun x c => R.enc G x c) l es ∧
     l.length ≤ c ∧ c ≤ mxL ∧ sp.length = (c - l.length) * R.size) ∨ (l = [] ∧ (∃ a, v = .slice a 0 0) ∧ f = emp)
theorem Qfc.mono {α : Type} {R : Rep α} {G G' : Hp} (hg : Hp.le G G') {l : List α} {v : Value} {f : Hp} (h : Qfc R G l v f) : Qfc R G' l v f := by
 rcases h with ⟨b, t, es, sp, c, e, ef, hl, hn, hs⟩ | h
 ·exact .inl ⟨b, t, es, sp, c, e, ef, EncL.mono (fun _ _ h => R.enc_mono hg h) hl, hn, hs⟩
 ·exact .inr h
def Qrr {α : Type} (A : Rep α) (M : Int → List α) (V : Int → Value) (dk : Option Int) (G : Hp) (v : Value) (f : Hp) : Prop :=
 ∃ r es clock, ∃ F : Int → Hp, v = .map (some r) ∧ Qqr es V ∧ (∀ k, F k r = none) ∧ (∀ b o, f b = some o ↔ (b = r ∧ o = .map es clock) ∨ ∃ k, F k b = some o) ∧
  (∀ k k' b, k ≠ k' → F k b ≠ none → F k' b = none) ∧ (∀ k, dk ≠ some k → Qfc A G (M k) (V k) (F k)) ∧ (∀ k, dk = some k → F k = emp)
theorem Qrr.mono {α : Type} {A : Rep α} {M : Int → List α} {V : Int → Value} {dk : Option Int} {G G' : Hp} (hg : Hp.le G G') {v : Value} {f : Hp} (h : Qrr A M V dk G v f) : Qrr A M V dk G' v f := by
 obtain ⟨r, es, clock, F, h1, h2, h3, h4, h5, h6, h7⟩ := h
 exact ⟨r, es, clock, F, h1, h2, h3, h4, h5, fun k hk => (h6 k hk).mono hg, h7⟩
def Box.at (G : Hp) (γ : Nat → Value) : Box → Value → Hp → Prop
 | .segs l, v, f => ∃ b t cs, v = .pointer (some ⟨b, 0, none⟩) ∧ f = sng b (.cells cs.toArray t (0, 0)) ∧ Qb5 G γ l cs
 | .arr R l, v, f => (∃ b t es sp c, v = .slice (some ⟨b, 0, none⟩) l.length c ∧ f = sng b (.cells (es ++ sp).toArray t (0, 0)) ∧ EncL (fun x c => R.enc G x c) l es ∧
     l.length ≤ c ∧ c ≤ mxL ∧ sp.length = (c - l.length) * R.size) ∨ (l = [] ∧ (∃ a, v = .slice a 0 0) ∧ f = emp)
 | .sarr n l, v, f => ∃ b t es sp c, v = .slice (some ⟨b, 0, none⟩) n c ∧ f = sng b (.cells (es ++ sp).toArray t (0, 0)) ∧ Qb5 G γ l es ∧ n ≤ c ∧ c ≤ mxL
 | .obj O D, v, f => (O D).P G v f
 | .mpr A M V dead, v, f => Qrr A M V (dead.map (·.1)) G v f ∧ ∀ k i, dead = some (k, some i) → γ i = V k
def Box.ids : Box → List Nat
 | .segs l => Qez l
 | .sarr _ l => Qez l
 | .mpr _ _ _ (some (_, some i)) => [i]
 | _ => []
theorem Box.at_mono {G G' : Hp} {γ : Nat → Value} (hg : Hp.le G G') {x : Box} {v : Value} {f : Hp} (h : x.at G γ v f) : x.at G' γ v f := by
 cases x with
 | segs l => obtain ⟨b, t, cs, e, ef, hl⟩ := h; exact ⟨b, t, cs, e, ef, hl.mono hg⟩
 | arr R l =>
  rcases h with ⟨b, t, es, sp, c, e, ef, hl, hn, hs⟩ | h
  ·exact .inl ⟨b, t, es, sp, c, e, ef, EncL.mono (fun _ _ h => R.enc_mono hg h) hl, hn, hs⟩
  ·exact .inr h
 | sarr n l => obtain ⟨b, t, es, sp, c, e, ef, hl, hn⟩ := h; exact ⟨b, t, es, sp, c, e, ef, hl.mono hg, hn⟩
 | obj O D => exact (O D).mono hg h
 | mpr A M V dead => exact ⟨h.1.mono hg, h.2⟩
theorem Box.at_congr {G : Hp} {γ γ' : Nat → Value} {x : Box} {v : Value} {f : Hp} (hi : ∀ i ∈ x.ids, γ' i = γ i) (h : x.at G γ v f) : x.at G γ' v f := by
 cases x with
 | segs l => obtain ⟨b, t, cs, e, ef, hl⟩ := h; exact ⟨b, t, cs, e, ef, hl.congr hi⟩
 | arr R l => exact h
 | sarr n l => obtain ⟨b, t, es, sp, c, e, ef, hl, hn⟩ := h; exact ⟨b, t, es, sp, c, e, ef, hl.congr hi, hn⟩
 | obj O D => exact h
 | mpr A M V dead => exact ⟨h.1, fun k i hd => by subst hd; rw [hi i (by simp [ids])]; exact h.2 k i rfl⟩
def Qao (mem : List (Nat × Box)) : List Nat := mem.map (·.1)
structure Qf4 (R : Fr) (G : Hp) (γ : Nat → Value) (fr : Nat → Hp) (mem : List (Nat × Box)) (w : World) : Prop where
 nd : (Qao mem).Nodup
 pin : ∀ i v, R.pin i = some v → γ i = v
 at' : ∀ e ∈ mem, e.2.at G γ (γ e.1) (fr e.1)
 ok : Ok w G R (Qao mem) fr
def Qdi (R : Fr) (G : Hp) (γ : Nat → Value) (mem : List (Nat × Box)) (w : World) : Prop := ∃ fr, Qf4 R G γ fr mem w
theorem Ok.sub {w : World} {G : Hp} {R : Fr} {ids ids' : List Nat} {fr : Nat → Hp} (h : Ok w G R ids fr) (hs : ∀ i ∈ ids', i ∈ ids) : Ok w G R ids' fr :=
 ⟨h.g, h.r, h.gr, fun i hi => h.f i (hs i hi), fun i hi => h.gf i (hs i hi), fun i hi => h.rf i (hs i hi), fun i hi j hj => h.ff i (hs i hi) j (hs j hj), h.os, h.out⟩
theorem Qdi.sub {R : Fr} {G : Hp} {γ : Nat → Value} {mem mem' : List (Nat × Box)} {w : World} (h : Qdi R G γ mem w) (hn : (Qao mem').Nodup) (hs : ∀ e ∈ mem', e ∈ mem) : Qdi R G γ mem' w := by
 obtain ⟨fr, _, hp, hb, hok⟩ := h
 refine ⟨fr, hn, hp, fun e he => hb e (hs e he), hok.sub ?_⟩
 intro i hi
 obtain ⟨e, he, rfl⟩ := List.mem_map.1 hi
 exact List.mem_map.2 ⟨e, hs e he, rfl⟩
theorem Qee {w : World} {b : Nat} {o : Obj} (h : w.heap[b]? = some o) : b < w.heap.size := by
 rcases Nat.lt_or_ge b w.heap.size with h' | h'
 ·exact h'
 ·simp [Array.getElem?_eq_none h'] at h
def Qfb (w : World) (o : Obj) : World := { w with heap := w.heap.push o }
theorem Qjt {w : World} {o : Obj} : Hp.le (Qeh w) (Qeh (Qfb w o)) := by
 intro b x h
 have := Qee h
 simp only [Qeh, Qfb] at h ⊢
 rw [Array.getElem?_push_lt this]
 rw [Array.getElem?_eq_getElem this] at h
 exact h
theorem Qle {w : World} {o : Obj} : Qeh (Qfb w o) w.heap.size = some o := by simp only [Qeh, Qfb]; exact Array.getElem?_push_size
def Qfp (w : World) (b : Nat) (o : Obj) : World := { w with heap := w.heap.setIfInBounds b o }
theorem Qf6 {w : World} {b j : Nat} {o : Obj} (h : j ≠ b) : Qeh (Qfp w b o) j = Qeh w j := by
 simp only [Qeh, Qfp]
 rw [Array.getElem?_setIfInBounds_ne (Ne.symm h)]
theorem Qe1 {w : World} {b : Nat} {o o' : Obj} (h : Qeh w b = some o') : Qeh (Qfp w b o) b = some o := by
 have := Qee h
 simp [Qeh, Qfp, this]
theorem Ok.fresh {w : World} {G : Hp} {R : Fr} {ids : List Nat} {fr : Nat → Hp} (h : Ok w G R ids fr) :
    G w.heap.size = none ∧ R.hp w.heap.size = none ∧ ∀ i ∈ ids, fr i w.heap.size = none := by
 have key : ∀ H : Hp, Hp.le H (Qeh w) → H w.heap.size = none := by
  intro H hH
  cases hx : H w.heap.size with
  | none => rfl
  | some o => exact absurd (Qee (hH _ _ hx)) (Nat.lt_irrefl _)
 exact ⟨key _ h.g, key _ h.r, fun i hi => key _ (h.f i hi)⟩
def Qis (γ : Nat → Value) (id : Nat) (v : Value) : Nat → Value := fun i => if i = id then v else γ i
def Qfi (fr : Nat → Hp) (id : Nat) (f : Hp) : Nat → Hp := fun i => if i = id then f else fr i
theorem Qcf {γ : Nat → Value} {id : Nat} {v : Value} : Qis γ id v id = v := by simp [Qis]
theorem Qds {γ : Nat → Value} {id i : Nat} {v : Value} (h : i ≠ id) : Qis γ id v i = γ i := by simp [Qis, h]
theorem Qbc {fr : Nat → Hp} {id : Nat} {f : Hp} : Qfi fr id f id = f := by simp [Qfi]
theorem Qbh {fr : Nat → Hp} {id i : Nat} {f : Hp} (h : i ≠ id) : Qfi fr id f i = fr i := by simp [Qfi, h]
theorem Qfu {b j : Nat} {o : Obj} (h : sng b o j ≠ none) : j = b := by
 unfold sng at h
 by_cases e : j = b
 ·exact e
 ·simp [e] at h
theorem Qn5 {b j : Nat} {o x : Obj} (h : sng b o j = some x) : j = b ∧ x = o := by
 unfold sng at h
 by_cases e : j = b
 ·simp [e] at h; exact ⟨e, h.symm⟩
 ·simp [e] at h
theorem Ok.push {w : World} {G : Hp} {R : Fr} {ids : List Nat} {fr : Nat → Hp} (h : Ok w G R ids fr) {id : Nat} (hid : id ∉ ids) (o : Obj) :
    Ok (Qfb w o) G R (id :: ids) (Qfi fr id (sng w.heap.size o)) := by
 obtain ⟨fg, frr, ff⟩ := h.fresh
 have ne : ∀ i ∈ ids, i ≠ id := fun i hi e => hid (e ▸ hi)
 refine ⟨Hp.le_trans h.g Qjt, Hp.le_trans h.r Qjt, h.gr, ?_, ?_, ?_, ?_, h.os, h.out⟩
 ·intro i hi
  rcases List.mem_cons.1 hi with rfl | hi
  ·intro b x hx
   rw [Qbc] at hx
   obtain ⟨rfl, rfl⟩ := Qn5 hx
   exact Qle
  ·rw [Qbh (ne i hi)]; exact Hp.le_trans (h.f i hi) Qjt
 ·intro i hi b hb
  rcases List.mem_cons.1 hi with rfl | hi
  ·rw [Qbc] at hb; rw [Qfu hb]; exact fg
  ·rw [Qbh (ne i hi)] at hb; exact h.gf i hi b hb
 ·intro i hi b hb
  rcases List.mem_cons.1 hi with rfl | hi
  ·rw [Qbc] at hb; rw [Qfu hb]; exact frr
  ·rw [Qbh (ne i hi)] at hb; exact h.rf i hi b hb
 ·intro i hi j hj hij b hb
  rcases List.mem_cons.1 hi with ei | hi' <;> rcases List.mem_cons.1 hj with ej | hj'
  ·exact absurd (ei.trans ej.symm) hij
  ·rw [ei, Qbc] at hb; rw [Qbh (ne j hj'), Qfu hb]; exact ff j hj'
  ·rw [Qbh (ne i hi')] at hb
   rw [ej, Qbc]
   cases hx : sng w.heap.size o b with
   | none => rfl
   | some x =>
    obtain ⟨rfl, _⟩ := Qn5 hx
    exact absurd (ff i hi') hb
  ·rw [Qbh (ne i hi')] at hb; rw [Qbh (ne j hj')]; exact h.ff i hi' j hj' hij b hb
theorem Ok.set {w : World} {G : Hp} {R : Fr} {ids : List Nat} {fr : Nat → Hp} (h : Ok w G R ids fr) {id : Nat} (hid : id ∈ ids) {b : Nat} {o : Obj} (hf : fr id = sng b o) (o' : Obj) :
    Ok (Qfp w b o') G R ids (Qfi fr id (sng b o')) := by
 have hb : fr id b ≠ none := by rw [hf]; simp [sng]
 have hw : Qeh w b = some o := h.f id hid b o (by rw [hf]; simp [sng])
 have keep : ∀ H : Hp, Hp.le H (Qeh w) → H b = none → Hp.le H (Qeh (Qfp w b o')) := by
  intro H hH hn j x hx
  have : j ≠ b := fun e => by rw [e, hn] at hx; exact absurd hx (by simp)
  rw [Qf6 this]; exact hH j x hx
 have nb : ∀ i ∈ ids, i ≠ id → fr i b = none := fun i hi hne => h.ff id hid i hi (Ne.symm hne) b hb
 refine ⟨keep _ h.g (h.gf id hid b hb), keep _ h.r (h.rf id hid b hb), h.gr, ?_, ?_, ?_, ?_, h.os, h.out⟩
 ·intro i hi
  by_cases e : i = id
  ·subst e
   intro j x hx
   rw [Qbc] at hx
   obtain ⟨rfl, rfl⟩ := Qn5 hx
   exact Qe1 hw
  ·rw [Qbh e]; exact keep _ (h.f i hi) (nb i hi e)
 ·intro i hi j hj
  by_cases e : i = id
  ·subst e; rw [Qbc] at hj; rw [Qfu hj]; exact h.gf i hi b hb
  ·rw [Qbh e] at hj; exact h.gf i hi j hj
 ·intro i hi j hj
  by_cases e : i = id
  ·subst e; rw [Qbc] at hj; rw [Qfu hj]; exact h.rf i hi b hb
  ·rw [Qbh e] at hj; exact h.rf i hi j hj
 ·intro i hi j hj hij x hx
  by_cases e : i = id
  ·subst e
   rw [Qbc] at hx
   rw [Qbh (Ne.symm hij), Qfu hx]
   exact nb j hj (Ne.symm hij)
  ·rw [Qbh e] at hx
   by_cases e' : j = id
   ·subst e'
    rw [Qbc]
    cases hs : sng b o' x with
    | none => rfl
    | some y =>
     obtain ⟨rfl, _⟩ := Qn5 hs
     exact absurd (nb i hi e) hx
   ·rw [Qbh e']; exact h.ff i hi j hj hij x hx
theorem Ok.drew {w : World} {G : Hp} {R : Fr} {ids : List Nat} {fr : Nat → Hp} (h : Ok w G R ids fr) (n : Nat) : Ok { w with drawn := n } G R ids fr :=
 ⟨h.g, h.r, h.gr, h.f, h.gf, h.rf, h.ff, h.os, h.out⟩
theorem Ok.freeze {w : World} {G : Hp} {R : Fr} {ids : List Nat} {fr : Nat → Hp} (h : Ok w G R ids fr) {id : Nat} (hid : id ∈ ids) :
    Ok w (fun b => (G b).or (fr id b)) R (ids.filter (· ≠ id)) fr := by
 have sub : ∀ i ∈ ids.filter (· ≠ id), i ∈ ids ∧ i ≠ id := fun i hi => by simpa using hi
 refine ⟨?_, h.r, ?_, fun i hi => h.f i (sub i hi).1, ?_, fun i hi => h.rf i (sub i hi).1, fun i hi j hj => h.ff i (sub i hi).1 j (sub j hj).1, h.os, h.out⟩
 ·intro b o hb
  cases hg : G b with
  | some x => simp [hg] at hb; subst hb; exact h.g b _ hg
  | none => simp [hg] at hb; exact h.f id hid b o hb
 ·intro b hb
  cases hg : G b with
  | some x => exact h.gr b (by simp [hg])
  | none => simp only [hg, Option.none_or, ne_eq] at hb; exact h.rf id hid b hb
 ·intro i hi b hb
  have h1 := h.gf i (sub i hi).1 b hb
  have h2 := h.ff i (sub i hi).1 id hid (sub i hi).2 b hb
  simp [h1, h2]
end Go.Proofs.Ytnmjcdlgfimnaaa
namespace Go.Proofs.Ytnmjcdlgfimnaaa
inductive TD where
 | int (k : IntKind)
 | bool
 | str
 | ptr
 | slice (e : TypeId)
 | arr (n : Nat) (e : TypeId)
 | struct (fs : List (Nat × TypeId))
 | map (k e : TypeId)
 | func
 | other
def TD.agg : TD → Bool
 | .arr _ _ => true
 | .struct _ => true
 | _ => false
structure Q0o : Type 1 where
 α : Type
 A : Rep α
structure TyI : Type 1 where
 desc : TD
 size : Nat
 bytes : Nat
 zero : List LV
 rep : Option Q0o
def TD.fits (P : Program) (t : TypeId) : TD → Prop
 | .int k => P.underlying t = some (.int k)
 | .bool => P.underlying t = some .bool
 | .str => P.underlying t = some .string
 | .ptr => ∃ e, P.underlying t = some (.pointer e)
 | .slice e => P.underlying t = some (.slice e)
 | .arr n e => P.underlying t = some (.array n e)
 | .struct fs => ∃ a, P.underlying t = some (.struct a) ∧ (a.toList.map fun f => (f.offset, f.type)) = fs
 | .map k e => P.underlying t = some (.map k e)
 | .func => ∃ a b c, P.underlying t = some (.func a b c)
 | .other => ∃ a, P.underlying t = some a ∧ (a matches .struct _) = false ∧ (a matches .array _ _) = false
structure Qb8 (P : Program) (t : TypeId) (i : TyI) : Prop where
 inf : ∃ x z, P.info? t = some x ∧ x.size = i.size ∧ x.bytes = i.bytes ∧ x.zero = some z ∧ ∀ (G : Hp) (γ : Nat → Value), Qb5 G γ i.zero z.cells.toList
 one : i.desc.agg = false → i.size = 1
 desc : i.desc.fits P t
 rep : ∀ r, i.rep = some r → ∀ (G : Hp) (z : Value) x, P.info? t = some x → x.zero = some z → r.A.enc G r.A.zero z.cells.toList
 repAgg : ∀ r, i.rep = some r → r.A.agg = i.desc.agg
 grd : ∀ n e, i.desc = .arr n e → P.eqGuardType P.depth t = false
structure Ctx : Type 1 where
 P : Program
 ty : TypeId → Option TyI
 ok : ∀ t i, ty t = some i → Qb8 P t i
section
variable {P : Program} {w : World}
theorem Qgj {t : TypeId} {x : TypeInfo} (h : P.info? t = some x) : (typeInfo t).run P w = .ok x w := by simp [typeInfo, h]
theorem Qbd {t : TypeId} {d : TypeDesc} (h : P.underlying t = some d) : (underlying t).run P w = .ok d w := by simp [underlying, h]
theorem Qc3 {t : TypeId} {i : TyI} (h : Qb8 P t i) : (sizeOf t).run P w = .ok i.size w := by
 obtain ⟨x, z, hx, hs, _⟩ := h.inf
 simp [sizeOf, Qgj hx, hs]
theorem Qsx {t : TypeId} {i : TyI} (h : Qb8 P t i) : ∃ z, (zeroValue t).run P w = .ok z w ∧ ∀ (G : Hp) (γ : Nat → Value), Qb5 G γ i.zero z.cells.toList := by
 obtain ⟨x, z, hx, _, _, hz, hr⟩ := h.inf
 exact ⟨z, by simp [zeroValue, Qgj hx, hz], hr⟩
theorem Qgv {t : TypeId} {i : TyI} (h : Qb8 P t i) : (isAgg t).run P w = .ok i.desc.agg w := by
 have hd := h.desc
 cases hi : i.desc <;> rw [hi] at hd <;> simp only [TD.fits] at hd
 case ptr => obtain ⟨e, hd⟩ := hd; simp [isAgg, Qbd hd, TD.agg]
 case struct fs => obtain ⟨e, hd, _⟩ := hd; simp [isAgg, Qbd hd, TD.agg]
 case func => obtain ⟨_, _, _, hd⟩ := hd; simp [isAgg, Qbd hd, TD.agg]
 case other =>
  obtain ⟨a, hd, h1, h2⟩ := hd
  cases a <;> simp_all [isAgg, Qbd hd, TD.agg]
 all_goals simp [isAgg, Qbd hd, TD.agg]
theorem Qmd {b off : Nat} {p q : List Value} {v : Value} {t : TypeId} {fr : Nat × Nat} (h : w.heap[b]? = some (.cells (p ++ v :: q).toArray t fr)) (hp : p.length = off) :
    w.cell? ⟨b, off, none⟩ = some v := by
 subst hp
 simp [World.cell?, h]
theorem Qea (b off n : Nat) : (⟨b, off, none⟩ : Addr).add n = ⟨b, off + n, none⟩ := by
 unfold Addr.add
 by_cases h : n = 0 <;> simp [h]
theorem Qes {b off : Nat} : ∀ (es : List Value) (p q : List Value) (i : Nat) (acc : Array Value) {t : TypeId} {fr : Nat × Nat},
    w.heap[b]? = some (.cells (p ++ (es ++ q)).toArray t fr) → p.length = off + i → (loadCellsFrom ⟨b, off, none⟩ i es.length acc).run P w = .ok (acc ++ es.toArray) w
 | [], _, _, _, acc, _, _, _, _ => by simp [loadCellsFrom]
 | e :: es, p, q, i, acc, t, fr, h, hp => by
  have hc : w.cell? ((⟨b, off, none⟩ : Addr).add i) = some e := by
   rw [Qea]; exact Qmd (by simpa using h) hp
  have ih := Qes (off := off) es (p ++ [e]) q (i + 1) (acc.push e) (t := t) (fr := fr) (by simpa using h) (by simp; omega)
  simp [loadCellsFrom, hc, ih]
theorem Qog {t : TypeId} {i : TyI} (h : Qb8 P t i) (ha : i.desc.agg = false) {a : Addr} {v : Value} (hc : w.cell? a = some v) : (loadVar t a).run P w = .ok v w := by
 simp [loadVar, Qgv h, ha, hc]
theorem Qmt {t : TypeId} {i : TyI} (h : Qb8 P t i) (ha : i.desc.agg = true) {b off : Nat} {p es q : List Value} {t' : TypeId} {fr : Nat × Nat}
    (hb : w.heap[b]? = some (.cells (p ++ (es ++ q)).toArray t' fr)) (hp : p.length = off) (he : es.length = i.size) :
    (loadVar t ⟨b, off, none⟩).run P w = .ok (.agg es.toArray) w := by
 have := Qes (P := P) es p q 0 #[] hb (by omega)
 simp [loadVar, Qgv h, ha, Qc3 h, loadCells, ← he, this]
theorem Qr9 {v : Value} (h : Rep.plainCell v = true) : v.oneCell' = true := by cases v <;> first | rfl | (simp [Rep.plainCell] at h)
theorem Qq4 {b off : Nat} {p q : List Value} {v v' : Value} {t : TypeId} (h : w.heap[b]? = some (.cells (p ++ v :: q).toArray t (0, 0))) (hp : p.length = off) :
    w.setCell ⟨b, off, none⟩ v' = Qfp w b (.cells (p ++ v' :: q).toArray t (0, 0)) := by
 subst hp
 have hlt := Qee h
 have he : w.heap[b] = .cells (p ++ v :: q).toArray t (0, 0) := by
  rw [Array.getElem?_eq_getElem hlt] at h; exact Option.some.inj h
 unfold World.setCell Qfp
 dsimp only
 congr 1
 apply Array.ext
 ·simp
 ·intro j h1 h2
  rw [Array.getElem_modify]
  by_cases hj : b = j
  ·subst hj
   rw [if_pos rfl, he]
   simp
  ·rw [if_neg hj, Array.getElem_setIfInBounds_ne (by simpa using h1) hj]
theorem Qrz {b : Nat} {o o' : Obj} : Qfp (Qfp w b o) b o' = Qfp w b o' := by
 unfold Qfp
 dsimp only
 congr 1
 exact Array.setIfInBounds_setIfInBounds o
theorem Qd4 {b off : Nat} {t : TypeId} : ∀ (new old p q : List Value) (i : Nat) (w : World),
    w.heap[b]? = some (.cells (p ++ (old ++ q)).toArray t (0, 0)) → p.length = off + i → new.length = old.length → (∀ v ∈ new, Rep.plainCell v = true) → new ≠ [] →
    (storeCells ⟨b, off, none⟩ new i).run P w = .ok () (Qfp w b (.cells (p ++ (new ++ q)).toArray t (0, 0)))
 | [], _, _, _, _, _, _, _, _, _, hne => absurd rfl hne
 | v :: new, [], _, _, _, _, _, _, hl, _, _ => by simp at hl
 | v :: new, o :: old, p, q, i, w, h, hp, hl, hpl, _ => by
  have h' : w.heap[b]? = some (.cells (p ++ o :: (old ++ q)).toArray t (0, 0)) := by simpa using h
  have hc : w.cell? ⟨b, off + i, none⟩ = some o := Qmd h' hp
  have hf : w.frozen? ⟨b, off + i, none⟩ = false := by simp [World.frozen?, h']
  have hs := Qq4 (v' := v) h' hp
  have h1 := run_store P w ⟨b, off + i, none⟩ v .plain (Qr9 (hpl v (by simp)))
  rw [hc] at h1
  simp only [hf, hs] at h1
  have hw : (Qfp w b (.cells (p ++ v :: (old ++ q)).toArray t (0, 0))).heap[b]? = some (.cells ((p ++ [v]) ++ (old ++ q)).toArray t (0, 0)) := by
   have := Qe1 (w := w) (o := .cells (p ++ v :: (old ++ q)).toArray t (0, 0)) h'
   simpa [Qeh] using this
  by_cases hn : new = []
  ·subst hn
   have : old = [] := by simpa using hl
   subst this
   simp [storeCells, Qea, h1]
  ·have ih := Qd4 (off := off) new old (p ++ [v]) q (i + 1) _ hw (by simp; omega) (by simpa using hl) (fun u hu => hpl u (by simp [hu])) hn
   rw [Qrz] at ih
   simp [storeCells, Qea, h1, ih]
theorem Qh1 {t : TypeId} {i : TyI} (h : Qb8 P t i) {b off : Nat} {p old q : List Value} {t' : TypeId} {v : Value}
    (hb : w.heap[b]? = some (.cells (p ++ (old ++ q)).toArray t' (0, 0))) (hp : p.length = off) (ho : old.length = i.size) (hv : v.cells.toList.length = i.size) (hpl : ∀ u ∈ v.cells.toList, Rep.plainCell u = true) (hz : i.size ≠ 0) :
    (Instr.storeAt t (.pointer (some ⟨b, off, none⟩)) v).run P w = .ok () (Qfp w b (.cells (p ++ (v.cells.toList ++ q)).toArray t' (0, 0))) := by
 have h1 := Qd4 (P := P) (off := off) v.cells.toList old p q 0 w hb (by omega) (by omega) hpl (by intro e; rw [e] at hv; simp at hv; omega)
 have h2 : v.cells.size = i.size := by simpa using hv
 simp [Instr.storeAt, Instr.sureAddr, storeVar, Qc3 h, h2, h1]
theorem Qrb {t : TypeId} {i : TyI} (h : Qb8 P t i) : ∃ z : Value, (∀ (G : Hp) (γ : Nat → Value), Qb5 G γ i.zero z.cells.toList) ∧
    (Instr.alloc t true (.tuple #[])).run P w = .ok (.pointer (some ⟨w.heap.size, 0, none⟩)) (Qfb w (.cells (Value.cells z) t)) := by
 obtain ⟨z, hz, hr⟩ := Qsx (w := w) h
 exact ⟨z, hr, by simp [Instr.alloc, hz, newVar, newRow, Qfb]⟩
theorem Qu5 (t : TypeId) (v : Value) : (Instr.box t v).run P w = .ok (.pointer (some ⟨w.heap.size, 0, none⟩)) (Qfb w (.cells v.cells t)) := by
 simp [Instr.box, newVar, newRow, Qfb]
end
end Go.Proofs.Ytnmjcdlgfimnaaa
namespace Go.Proofs.Ytnmjcdlgfimnaaa
def Rep.leaf : {α : Type} → Rep α → α → LV
 | _, .int k, x => .int k x
 | _, .bool, b => .bool b
 | _, .str, s => .str s
 | _, .iso A to of h h', y => bif A.scalar then A.leaf (to y) else .dat (.iso A to of h h') y
 | _, .unit, x => .dat .unit x
 | _, .pair A B, x => .dat (.pair A B) x
 | _, .arr n A, x => .dat (.arr n A) x
 | _, .slice A, x => .dat (.slice A) x
def Rep.explode : {α : Type} → Rep α → α → List LV
 | _, .pair A B, x => A.leaf x.1 :: B.explode x.2
 | _, .unit, _ => []
 | _, .iso A to _ _ _, y => A.explode (to y)
 | _, .int k, x => [.int k x]
 | _, .bool, b => [.bool b]
 | _, .str, s => [.str s]
 | _, .arr n A, x => [.dat (.arr n A) x]
 | _, .slice A, x => [.dat (.slice A) x]
theorem Rep.leaf_rel : {α : Type} → (R : Rep α) → (G : Hp) → (γ : Nat → Value) → (x : α) → (cs : List Value) → ((R.leaf x).rel G γ cs ↔ R.enc G x cs)
 | _, .int _, _, _, _, _ => Iff.rfl
 | _, .bool, _, _, _, _ => Iff.rfl
 | _, .str, _, _, _, _ => Iff.rfl
 | _, .iso A to of h h', G, γ, y, cs => by
  unfold Rep.leaf
  cases hs : A.scalar
  ·exact Iff.rfl
  ·exact A.leaf_rel G γ (to y) cs
 | _, .unit, _, _, _, _ => Iff.rfl
 | _, .pair _ _, _, _, _, _ => Iff.rfl
 | _, .arr _ _, _, _, _, _ => Iff.rfl
 | _, .slice _, _, _, _, _ => Iff.rfl
theorem Qb5.one {G : Hp} {γ : Nat → Value} {x : LV} {cs : List Value} (h : x.rel G γ cs) : Qb5 G γ [x] cs := ⟨cs, [], by simp, h, rfl⟩
theorem Qb5.one_inv {G : Hp} {γ : Nat → Value} {x : LV} {cs : List Value} (h : Qb5 G γ [x] cs) : x.rel G γ cs := by
 obtain ⟨c, d, e, hx, hd⟩ := h
 simp only [EncL] at hd
 rw [e, hd, List.append_nil]; exact hx
theorem Qb5.cons {G : Hp} {γ : Nat → Value} {x : LV} {l : List LV} {c d : List Value} (h : x.rel G γ c) (hl : Qb5 G γ l d) : Qb5 G γ (x :: l) (c ++ d) := ⟨c, d, rfl, h, hl⟩
theorem Rep.explode_rel : {α : Type} → (R : Rep α) → {G : Hp} → (γ : Nat → Value) → {x : α} → {cs : List Value} → R.enc G x cs → Qb5 G γ (R.explode x) cs
 | _, .pair A B, G, γ, x, cs, h => by
  obtain ⟨c, d, e, h1, h2⟩ := (enc_pair A B G x cs).1 h
  rw [e]
  exact .cons ((A.leaf_rel G γ _ _).2 h1) (B.explode_rel γ h2)
 | _, .unit, _, _, _, _, h => h
 | _, .iso A to _ _ _, _, γ, _, _, h => A.explode_rel γ (by simpa only [enc] using h)
 | _, .int _, _, _, _, _, h => .one h
 | _, .bool, _, _, _, _, h => .one h
 | _, .str, _, _, _, _, h => .one h
 | _, .arr _ _, _, _, _, _, h => .one h
 | _, .slice _, _, _, _, _, h => .one h
def Qc7 {α : Type} (R : Rep α) (x : LV) (f : α → Prop) : Prop :=
 match x with
 | @LV.dat β R' y => ∃ h : β = α, HEq R' R ∧ f (cast h y)
 | _ => False
def Qdd : {α : Type} → Rep α → List LV → (α → List LV → Prop) → Prop
 | _, .int k, xs, f => match xs with
  | .int k' x :: r => k' = k ∧ f x r
  | _ => False
 | _, .bool, xs, f => match xs with
  | .bool b :: r => f b r
  | _ => False
 | _, .str, xs, f => match xs with
  | .str s :: r => f s r
  | _ => False
 | _, .unit, xs, f => f () xs
 | _, .pair A B, xs, f => Qdd A xs fun a r => Qdd B r fun b r' => f (a, b) r'
 | _, .arr n A, xs, f => match xs with
  | x :: r => Qc7 (.arr n A) x fun a => f a r
  | [] => False
 | _, .slice A, xs, f => match xs with
  | .nils :: r => f [] r
  | x :: r => Qc7 (.slice A) x fun a => f a r
  | [] => False
 | _, .iso A to of h h', xs, f => match xs with
  | .dat R' y :: r => bif R'.size == A.size && !A.scalar then Qc7 (.iso A to of h h') (.dat R' y) (fun a => f a r) else Qdd A (.dat R' y :: r) fun a r => f (of a) r
  | xs => Qdd A xs fun a r => f (of a) r
def SV.leaves : SV → List LV
 | .l x => [x]
 | .agg xs => xs
def asR {α : Type} (R : Rep α) (v : SV) (f : α → Prop) : Prop := Qdd R v.leaves fun a r => r = [] ∧ f a
theorem Qgd {α : Type} {R : Rep α} {x : LV} {f : α → Prop} (h : Qc7 R x f) {G : Hp} {γ : Nat → Value} {cs : List Value} (hr : x.rel G γ cs) : ∃ a, f a ∧ R.enc G a cs := by
 unfold Qc7 at h
 split at h
 ·obtain ⟨e, hR, hf⟩ := h
  subst e
  obtain rfl := eq_of_heq hR
  exact ⟨_, hf, hr⟩
 ·exact h.elim
theorem Qfs : {α : Type} → (R : Rep α) → {xs : List LV} → {f : α → List LV → Prop} → {G : Hp} → {γ : Nat → Value} → {cs : List Value} → Qdd R xs f → Qb5 G γ xs cs →
    ∃ a r c d, f a r ∧ cs = c ++ d ∧ R.enc G a c ∧ Qb5 G γ r d
 | _, .int k, xs, f, G, γ, cs, h, hr => by
  unfold Qdd at h
  split at h
  ·obtain ⟨rfl, hf⟩ := h
   obtain ⟨c, d, e, hx, hd⟩ := hr
   exact ⟨_, _, c, d, hf, e, hx, hd⟩
  ·exact h.elim
 | _, .bool, xs, f, G, γ, cs, h, hr => by
  unfold Qdd at h
  split at h
  ·obtain ⟨c, d, e, hx, hd⟩ := hr
   exact ⟨_, _, c, d, h, e, hx, hd⟩
  ·exact h.elim
 | _, .str, xs, f, G, γ, cs, h, hr => by
  unfold Qdd at h
  split at h
  ·obtain ⟨c, d, e, hx, hd⟩ := hr
   exact ⟨_, _, c, d, h, e, hx, hd⟩
  ·exact h.elim
 | _, .unit, xs, f, G, γ, cs, h, hr => ⟨(), xs, [], cs, h, rfl, rfl, hr⟩
 | _, .pair A B, xs, f, G, γ, cs, h, hr => by
  unfold Qdd at h
  obtain ⟨a, r, c, d, h1, e, he, hd⟩ := Qfs A h hr
  obtain ⟨b, r', c', d', h2, e', he', hd'⟩ := Qfs B h1 hd
  exact ⟨(a, b), r', c ++ c', d', h2, by rw [e, e', List.append_assoc], (Rep.enc_pair A B G (a, b) _).2 ⟨c, c', rfl, he, he'⟩, hd'⟩
 | _, .arr n A, xs, f, G, γ, cs, h, hr => by
  unfold Qdd at h
  split at h
  ·obtain ⟨c, d, e, hx, hd⟩ := hr
   obtain ⟨a, hf, he⟩ := Qgd h hx
   exact ⟨a, _, c, d, hf, e, he, hd⟩
  ·exact h.elim
 | _, .slice A, xs, f, G, γ, cs, h, hr => by
  unfold Qdd at h
  split at h
  ·obtain ⟨c, d, e, hx, hd⟩ := hr
   refine ⟨[], _, c, d, h, e, ?_, hd⟩
   exact (Rep.enc_slice A G [] c).2 ⟨none, 0, hx, Nat.le_refl _, Nat.zero_le _, fun _ => rfl, .inl rfl⟩
  ·obtain ⟨c, d, e, hx, hd⟩ := hr
   obtain ⟨a, hf, he⟩ := Qgd h hx
   exact ⟨a, _, c, d, hf, e, he, hd⟩
  ·exact h.elim
 | _, .iso A to of h1 h2, xs, f, G, γ, cs, h, hr => by
  have key : Qdd A xs (fun a r => f (of a) r) → ∃ a r c d, f a r ∧ cs = c ++ d ∧ (Rep.iso A to of h1 h2).enc G a c ∧ Qb5 G γ r d := by
   intro h
   obtain ⟨a, r, c, d, hf, e, he, hd⟩ := Qfs A h hr
   exact ⟨of a, r, c, d, hf, e, (Rep.enc_iso A to of h1 h2 G (of a) c).2 (by rw [h2]; exact he), hd⟩
  unfold Qdd at h
  split at h
  ·rename_i R' y r
   cases hb : (R'.size == A.size && !A.scalar)
   ·rw [hb] at h; exact key h
   ·rw [hb, cond_true] at h
    obtain ⟨c, d, e, hx, hd⟩ := hr
    obtain ⟨a, hf, he⟩ := Qgd h hx
    exact ⟨a, _, c, d, hf, e, he, hd⟩
  ·exact key h
theorem SV.rel_leaves {G : Hp} {γ : Nat → Value} {x : SV} {v : Value} (hu : x.leaves ≠ [.undef]) (h : x.rel G γ v) : Qb5 G γ x.leaves v.cells.toList := by
 cases x with
 | l x => exact .one (LV.rel_cells (fun e => hu (by rw [e]; rfl)) h)
 | agg xs => obtain ⟨cs, hc, rfl⟩ := h; exact hc
theorem Qef : {α : Type} → (R : Rep α) → {f : α → List LV → Prop} → Qdd R [.undef] f → ∃ a, f a [.undef]
 | _, .int k, f, h => by unfold Qdd at h; exact h.elim
 | _, .bool, f, h => by unfold Qdd at h; exact h.elim
 | _, .str, f, h => by unfold Qdd at h; exact h.elim
 | _, .unit, f, h => ⟨_, h⟩
 | _, .pair A B, f, h => by
  unfold Qdd at h
  obtain ⟨a, h⟩ := Qef A h
  obtain ⟨b, h⟩ := Qef B h
  exact ⟨_, h⟩
 | _, .arr n A, f, h => by unfold Qdd Qc7 at h; exact h.elim
 | _, .slice A, f, h => by unfold Qdd Qc7 at h; exact h.elim
 | _, .iso A to of h1 h2, f, h => by
  unfold Qdd at h
  obtain ⟨a, h⟩ := Qef A h
  exact ⟨_, h⟩
theorem Qek {α : Type} {R : Rep α} {v : SV} {f : α → Prop} (h : asR R v f) {G : Hp} {γ : Nat → Value} {x : Value} (hr : v.rel G γ x) : ∃ a, f a ∧ R.enc G a x.cells.toList := by
 unfold asR at h
 by_cases hu : v.leaves = [.undef]
 ·rw [hu] at h
  obtain ⟨a, h, _⟩ := Qef R h
  exact absurd h (by simp)
 ·obtain ⟨a, r, c, d, ⟨hr0, hf⟩, e, he, hd⟩ := Qfs R h (SV.rel_leaves hu hr)
  subst hr0
  simp only [EncL] at hd
  rw [hd, List.append_nil] at e
  exact ⟨a, hf, e ▸ he⟩
def Qum : List LV → Nat → Option (List LV × LV × List LV × Nat)
 | [], _ => none
 | x :: r, off => bif decide (off < x.size) then some ([], x, r, off) else match Qum r (off - x.size) with
  | some (p, y, q, o) => some (x :: p, y, q, o)
  | none => none
theorem Qgp : ∀ {l : List LV} {off : Nat} {p : List LV} {x : LV} {q : List LV} {o : Nat}, Qum l off = some (p, x, q, o) → l = p ++ x :: q ∧ off = Qep p + o ∧ o < x.size
 | [], _, _, _, _, _, h => by simp [Qum] at h
 | y :: r, off, p, x, q, o, h => by
  unfold Qum at h
  cases hb : decide (off < y.size)
  ·rw [hb] at h
   simp only [cond_false] at h
   split at h
   ·rename_i p' y' q' o' hs
    simp only [Option.some.injEq, Prod.mk.injEq] at h
    obtain ⟨rfl, rfl, rfl, rfl⟩ := h
    obtain ⟨e1, e2, e3⟩ := Qgp hs
    have hb' : ¬ off < y.size := by simpa using hb
    exact ⟨by rw [e1]; rfl, by simp only [Qep]; omega, e3⟩
   ·exact absurd h (by simp)
  ·rw [hb] at h
   simp only [cond_true, Option.some.injEq, Prod.mk.injEq] at h
   obtain ⟨rfl, rfl, rfl, rfl⟩ := h
   exact ⟨rfl, by simp [Qep], of_decide_eq_true hb⟩
def Qnm : List LV → Nat → Option (List LV × List LV)
 | l, 0 => some ([], l)
 | [], _ + 1 => none
 | x :: r, n + 1 => bif decide (x.size ≤ n + 1) && !(x.size == 0) then match Qnm r (n + 1 - x.size) with
  | some (m, q) => some (x :: m, q)
  | none => none else none
theorem Qhl : ∀ {l : List LV} {n : Nat} {m q : List LV}, Qnm l n = some (m, q) → l = m ++ q ∧ Qep m = n
 | l, 0, m, q, h => by
  unfold Qnm at h
  simp only [Option.some.injEq, Prod.mk.injEq] at h
  obtain ⟨rfl, rfl⟩ := h
  exact ⟨rfl, rfl⟩
 | [], n + 1, m, q, h => by simp [Qnm] at h
 | x :: r, n + 1, m, q, h => by
  unfold Qnm at h
  cases hb : decide (x.size ≤ n + 1) && !(x.size == 0)
  ·rw [hb] at h; simp at h
  ·rw [hb] at h
   simp only [cond_true] at h
   split at h
   ·rename_i m' q' hs
    simp only [Option.some.injEq, Prod.mk.injEq] at h
    obtain ⟨rfl, rfl⟩ := h
    obtain ⟨e1, e2⟩ := Qhl hs
    simp only [Bool.and_eq_true] at hb
    have := of_decide_eq_true hb.1
    exact ⟨by rw [e1]; rfl, by simp only [Qep]; omega⟩
   ·exact absurd h (by simp)
theorem Qb5.append_inv {G : Hp} {γ : Nat → Value} {l m : List LV} {cs : List Value} (h : Qb5 G γ (l ++ m) cs) : ∃ c d, cs = c ++ d ∧ Qb5 G γ l c ∧ Qb5 G γ m d := EncL.append_inv h
theorem Qb5.append {G : Hp} {γ : Nat → Value} {l m : List LV} {c d : List Value} (h : Qb5 G γ l c) (h' : Qb5 G γ m d) : Qb5 G γ (l ++ m) (c ++ d) := EncL.append h h'
theorem Qmy (l m : List LV) : Qep (l ++ m) = Qep l + Qep m := by
 induction l with
 | nil => simp [Qep]
 | cons x l ih => simp only [List.cons_append, Qep, ih]; omega
def Rep.arrOf : {α : Type} → Rep α → Option (Nat × Nat)
 | _, .arr n A => some (n, A.size)
 | _, .iso A _ _ _ _ => A.arrOf
 | _, _ => none
def Rep.elemLV : {α : Type} → Rep α → α → Nat → LV
 | _, .arr _ A, l, i => A.leaf (l.getD i A.zero)
 | _, .iso A to _ _ _, y, i => A.elemLV (to y) i
 | _, _, _, _ => .undef
def Rep.setElem : {α : Type} → Rep α → α → Nat → SV → (α → Prop) → Prop
 | _, .arr _ A, l, i, v, f => asR A v fun x => f (l.set i x)
 | _, .iso A to of _ _, y, i, v, f => A.setElem (to y) i v fun a => f (of a)
 | _, _, _, _, _, _ => False
theorem Rep.elem_spec : {α : Type} → (R : Rep α) → {n sz : Nat} → R.arrOf = some (n, sz) → {G : Hp} → (γ : Nat → Value) → {x : α} → {cs : List Value} → R.enc G x cs → {i : Nat} → i < n →
    ∃ p c q, cs = p ++ (c ++ q) ∧ p.length = i * sz ∧ c.length = sz ∧ (R.elemLV x i).rel G γ c ∧
     ∀ {v : SV} {f : α → Prop} {val : Value}, R.setElem x i v f → v.rel G γ val → ∃ y, f y ∧ R.enc G y (p ++ (val.cells.toList ++ q))
 | _, .arr n A, n', sz, ha, G, γ, x, cs, h, i, hi => by
  simp only [arrOf, Option.some.injEq, Prod.mk.injEq] at ha
  obtain ⟨rfl, rfl⟩ := ha
  obtain ⟨hn, hl⟩ := (enc_arr n A G x cs).1 h
  obtain ⟨p, c, q, e, hp, hc, h1, h2⟩ := EncL.at (fun _ _ h => A.enc_length h) hl i (by omega)
  refine ⟨p, c, q, by rw [e, List.append_assoc], hp, A.enc_length hc, ?_, ?_⟩
  ·show (A.leaf (x.getD i A.zero)).rel G γ c
   rw [A.leaf_rel, List.getD_eq_getElem?_getD, List.getElem?_eq_getElem (by omega)]
   exact hc
  ·intro v f val hs hv
   obtain ⟨y, hf, hy⟩ := Qek hs hv
   refine ⟨x.set i y, hf, (enc_arr n A G _ _).2 ⟨by simpa using hn, ?_⟩⟩
   rw [← List.append_assoc]
   exact EncL.set (by omega) h1 hy h2
 | _, .iso A to of h1 h2, n, sz, ha, G, γ, y, cs, h, i, hi => by
  obtain ⟨p, c, q, e, hp, hc, hl, hs⟩ := A.elem_spec (by simpa only [arrOf] using ha) γ (by simpa only [enc] using h) hi
  refine ⟨p, c, q, e, hp, hc, hl, ?_⟩
  intro v f val hs' hv
  obtain ⟨a, hf, ha'⟩ := hs hs' hv
  exact ⟨of a, hf, (enc_iso A to of h1 h2 G (of a) _).2 (by rw [h2]; exact ha')⟩
 | _, .int _, _, _, ha, _, _, _, _, _, _, _ => by simp [arrOf] at ha
 | _, .bool, _, _, ha, _, _, _, _, _, _, _ => by simp [arrOf] at ha
 | _, .str, _, _, ha, _, _, _, _, _, _, _ => by simp [arrOf] at ha
 | _, .unit, _, _, ha, _, _, _, _, _, _, _ => by simp [arrOf] at ha
 | _, .pair _ _, _, _, ha, _, _, _, _, _, _, _ => by simp [arrOf] at ha
 | _, .slice _, _, _, ha, _, _, _, _, _, _, _ => by simp [arrOf] at ha
end Go.Proofs.Ytnmjcdlgfimnaaa
namespace Go.Proofs.Ytnmjcdlgfimnaaa
def LV.arrOf : LV → Option (Nat × Nat)
 | .dat R _ => R.arrOf
 | _ => none
def LV.elemLV : LV → Nat → LV
 | .dat R x, i => R.elemLV x i
 | _, _ => .undef
def LV.setElem : LV → Nat → SV → (LV → Prop) → Prop
 | .dat R x, i, v, f => R.setElem x i v fun y => f (.dat R y)
 | _, _, _, _ => False
def LV.explode : LV → List LV
 | .dat R x => R.explode x
 | x => [x]
theorem LV.explode_rel {G : Hp} {γ : Nat → Value} {x : LV} {cs : List Value} (h : x.rel G γ cs) : Qb5 G γ x.explode cs := by
 cases x
 case dat R y => exact R.explode_rel γ h
 all_goals exact .one h
theorem LV.elem_spec {x : LV} {n sz : Nat} (ha : x.arrOf = some (n, sz)) {G : Hp} {γ : Nat → Value} {cs : List Value} (h : x.rel G γ cs) {i : Nat} (hi : i < n) :
    ∃ p c q, cs = p ++ (c ++ q) ∧ p.length = i * sz ∧ c.length = sz ∧ (x.elemLV i).rel G γ c ∧
     ∀ {v : SV} {f : LV → Prop} {val : Value}, x.setElem i v f → v.rel G γ val → ∃ y, f y ∧ y.rel G γ (p ++ (val.cells.toList ++ q)) := by
 cases x <;> simp only [LV.arrOf] at ha
 case dat R y =>
  obtain ⟨p, c, q, e, hp, hc, hl, hs⟩ := R.elem_spec ha γ h hi
  refine ⟨p, c, q, e, hp, hc, hl, ?_⟩
  intro v f val h1 h2
  obtain ⟨z, hf, hz⟩ := hs h1 h2
  exact ⟨_, hf, hz⟩
 all_goals simp at ha
def rdS (n : Nat) (ag : Bool) : Nat → List LV → Nat → Option SV
 | 0, _, _ => none
 | k + 1, l, off => match Qum l off with
  | none => none
  | some (_, x, q, o) =>
   bif o == 0 && (x.size == n && (x.isAgg == ag)) then some (.l x)
   else bif o == 0 && (ag && (decide (x.size ≤ n) && !x.isAgg || decide (x.size < n))) then (match Qnm (x :: q) n with | some (m, _) => some (.agg m) | none => none)
   else match x.arrOf with
    | some (len, sz) => bif decide (o / sz < len) then rdS n ag k [x.elemLV (o / sz)] (o % sz) else none
    | none => rdS n ag k x.explode o
def Qom (G : Hp) (γ : Nat → Value) (n : Nat) (ag : Bool) (v : SV) (es : List Value) : Prop :=
 es.length = n ∧ (ag = true → v.rel G γ (.agg es.toArray)) ∧ (ag = false → ∀ u, es = [u] → v.rel G γ u)
theorem Qom.leaf {G : Hp} {γ : Nat → Value} {x : LV} {es : List Value} (h : x.rel G γ es) : Qom G γ x.size x.isAgg (.l x) es := by
 refine ⟨LV.rel_length h, ?_, ?_⟩
 ·intro ha
  cases x <;> simp only [LV.isAgg] at ha
  case dat R y => exact ⟨es, h, by simp [Rep.mk, ha]⟩
  all_goals simp at ha
 ·intro ha u e
  subst e
  exact LV.relV_of ha h
theorem Qgo {G : Hp} {γ : Nat → Value} {n : Nat} {ag : Bool} : ∀ {k : Nat} {l : List LV} {off : Nat} {v : SV} {cs : List Value}, rdS n ag k l off = some v → Qb5 G γ l cs →
    ∃ p es q, cs = p ++ (es ++ q) ∧ p.length = off ∧ Qom G γ n ag v es
 | 0, _, _, _, _, h, _ => by simp [rdS] at h
 | k + 1, l, off, v, cs, h, hr => by
  unfold rdS at h
  split at h
  ·simp at h
  ·rename_i p x q o hs
   obtain ⟨rfl, rfl, ho⟩ := Qgp hs
   obtain ⟨c1, d, rfl, h1, c2, c3, rfl, h2, h3⟩ := Qb5.append_inv hr
   have hl1 := Qb5.length h1
   have hl2 := LV.rel_length h2
   cases hb1 : o == 0 && (x.size == n && (x.isAgg == ag))
   ·rw [hb1, cond_false] at h
    cases hb2 : o == 0 && (ag && (decide (x.size ≤ n) && !x.isAgg || decide (x.size < n)))
    ·rw [hb2, cond_false] at h
     split at h
     ·rename_i len sz ha
      cases hb3 : decide (o / sz < len)
      ·rw [hb3] at h; simp at h
      ·rw [hb3, cond_true] at h
       have hi : o / sz < len := of_decide_eq_true hb3
       obtain ⟨p', c, q', e, hp', hc, hl, _⟩ := LV.elem_spec ha h2 hi
       obtain ⟨p2, es, q2, e2, hp2, hg⟩ := Qgo h (Qb5.one hl)
       refine ⟨c1 ++ (p' ++ p2), es, q2 ++ (q' ++ c3), by rw [e, e2]; simp only [List.append_assoc], ?_, hg⟩
       have := Nat.div_add_mod' o sz
       simp only [List.length_append]; omega
     ·obtain ⟨p2, es, q2, e2, hp2, hg⟩ := Qgo h (LV.explode_rel h2)
      exact ⟨c1 ++ p2, es, q2 ++ c3, by rw [e2]; simp only [List.append_assoc], by simp only [List.length_append]; omega, hg⟩
    ·rw [hb2, cond_true] at h
     simp only [Bool.and_eq_true] at hb2
     have ho0 : o = 0 := eq_of_beq hb2.1
     split at h
     ·rename_i m q' hm
      simp only [Option.some.injEq] at h
      subst h
      obtain ⟨em, sm⟩ := Qhl hm
      have hx : Qb5 G γ (m ++ q') (c2 ++ c3) := em ▸ Qb5.cons h2 h3
      obtain ⟨es, d', e, hm', hq'⟩ := Qb5.append_inv hx
      refine ⟨c1, es, d', by rw [e], by omega, ?_, ?_, ?_⟩
      ·rw [Qb5.length hm', sm]
      ·intro _; exact ⟨es, hm', rfl⟩
      ·intro ha; rw [ha] at hb2; simp at hb2
     ·simp at h
   ·rw [hb1, cond_true] at h
    simp only [Option.some.injEq] at h
    subst h
    simp only [Bool.and_eq_true, beq_iff_eq] at hb1
    have ho0 : o = 0 := hb1.1
    have hn : x.size = n := hb1.2.1
    refine ⟨c1, c2, c3, rfl, by omega, ?_⟩
    rw [← hn, ← hb1.2.2]
    exact Qom.leaf h2
def wrS (n : Nat) (v : SV) : Nat → List LV → Nat → (List LV → Prop) → Prop
 | 0, _, _, _ => False
 | k + 1, l, off, f => match Qum l off with
  | none => False
  | some (p, x, q, o) =>
   bif o == 0 && x.size == n then f (p ++ (v.leaves ++ q))
   else bif o == 0 && decide (x.size < n) then (match Qnm (x :: q) n with | some (_, q') => f (p ++ (v.leaves ++ q')) | none => False)
   else match x.arrOf with
    | some (len, sz) => bif decide (o / sz < len) then wrS n v k [x.elemLV (o / sz)] (o % sz) fun l' => x.setElem (o / sz) (.agg l') fun y => f (p ++ y :: q) else False
    | none => wrS n v k x.explode o fun l' => f (p ++ (l' ++ q))
theorem Qpf {G : Hp} {γ : Nat → Value} {l : List LV} {cs : List Value} (h : Qb5 G γ l cs) : (SV.agg l).rel G γ (.agg cs.toArray) := ⟨cs, h, rfl⟩
theorem Qi3 {G : Hp} {γ : Nat → Value} {n : Nat} {v : SV} {val : Value} (hvl : Qb5 G γ v.leaves val.cells.toList) (hn : Qep v.leaves = n) :
    ∀ {k : Nat} {l : List LV} {off : Nat} {f : List LV → Prop} {cs : List Value}, wrS n v k l off f → Qb5 G γ l cs →
    ∃ l' p old q, f l' ∧ cs = p ++ (old ++ q) ∧ p.length = off ∧ old.length = n ∧ Qb5 G γ l' (p ++ (val.cells.toList ++ q))
 | 0, _, _, _, _, h, _ => by simp [wrS] at h
 | k + 1, l, off, f, cs, h, hr => by
  unfold wrS at h
  split at h
  ·exact h.elim
  ·rename_i p x q o hs
   obtain ⟨rfl, rfl, ho⟩ := Qgp hs
   obtain ⟨c1, d, rfl, h1, c2, c3, rfl, h2, h3⟩ := Qb5.append_inv hr
   have hl1 := Qb5.length h1
   have hl2 := LV.rel_length h2
   cases hb1 : o == 0 && x.size == n
   ·rw [hb1, cond_false] at h
    cases hb2 : o == 0 && decide (x.size < n)
    ·rw [hb2, cond_false] at h
     split at h
     ·rename_i len sz ha
      cases hb3 : decide (o / sz < len)
      ·rw [hb3] at h; exact h.elim
      ·rw [hb3, cond_true] at h
       have hi : o / sz < len := of_decide_eq_true hb3
       obtain ⟨p', c, q', e, hp', hc, hl, hset⟩ := LV.elem_spec ha h2 hi
       obtain ⟨l', p2, old, q2, hf, e2, hp2, ho2, hr2⟩ := Qi3 hvl hn h (Qb5.one hl)
       obtain ⟨y, hy, hry⟩ := hset hf (Qpf hr2)
       refine ⟨_, c1 ++ (p' ++ p2), old, q2 ++ (q' ++ c3), hy, by rw [e, e2]; simp only [List.append_assoc], ?_, ho2, ?_⟩
       ·have := Nat.div_add_mod' o sz
        simp only [List.length_append]; omega
       ·have := Qb5.append h1 (Qb5.cons hry h3)
        simpa only [List.append_assoc, Value.cells, List.toList_toArray] using this
     ·obtain ⟨l', p2, old, q2, hf, e2, hp2, ho2, hr2⟩ := Qi3 hvl hn h (LV.explode_rel h2)
      refine ⟨_, c1 ++ p2, old, q2 ++ c3, hf, by rw [e2]; simp only [List.append_assoc], by simp only [List.length_append]; omega, ho2, ?_⟩
      have := Qb5.append h1 (Qb5.append hr2 h3)
      simpa only [List.append_assoc] using this
    ·rw [hb2, cond_true] at h
     simp only [Bool.and_eq_true] at hb2
     have ho0 : o = 0 := eq_of_beq hb2.1
     split at h
     ·rename_i m q' hm
      obtain ⟨em, sm⟩ := Qhl hm
      have hx : Qb5 G γ (m ++ q') (c2 ++ c3) := em ▸ Qb5.cons h2 h3
      obtain ⟨es, d', e, hm', hq'⟩ := Qb5.append_inv hx
      exact ⟨_, c1, es, d', h, by rw [e], by omega, by rw [Qb5.length hm', sm], Qb5.append h1 (Qb5.append hvl hq')⟩
     ·exact h.elim
   ·rw [hb1, cond_true] at h
    simp only [Bool.and_eq_true] at hb1
    have ho0 : o = 0 := eq_of_beq hb1.1
    have hxn : x.size = n := eq_of_beq hb1.2
    exact ⟨_, c1, c2, c3, h, rfl, by omega, by omega, Qb5.append h1 (Qb5.append hvl h3)⟩
def LV.isArr (x : LV) (sz : Nat) : Bool := match x.arrOf with
 | some (_, n) => n == sz
 | none => false
def Qj2 (sz : Nat) : Nat → List LV → Nat → Option (List LV × LV × List LV)
 | 0, _, _ => none
 | k + 1, l, b => match Qum l b with
  | none => none
  | some (p, x, q, o) => bif o == 0 && x.isArr sz then some (p, x, q)
   else match Qj2 sz k x.explode o with
    | some (p', y, q') => some (p ++ p', y, q' ++ q)
    | none => none
theorem Qd2 {sz : Nat} {G : Hp} {γ : Nat → Value} : ∀ {k : Nat} {l : List LV} {b : Nat} {p : List LV} {x : LV} {q : List LV} {cs : List Value}, Qj2 sz k l b = some (p, x, q) → Qb5 G γ l cs →
    Qb5 G γ (p ++ x :: q) cs ∧ Qep p = b
 | 0, _, _, _, _, _, _, h, _ => by simp [Qj2] at h
 | k + 1, l, b, p, x, q, cs, h, hr => by
  unfold Qj2 at h
  split at h
  ·simp at h
  ·rename_i p1 x1 q1 o hs
   obtain ⟨rfl, rfl, ho⟩ := Qgp hs
   rw [cond_eq_ite] at h
   split at h
   ·rename_i hb
    simp only [Option.some.injEq, Prod.mk.injEq] at h
    obtain ⟨rfl, rfl, rfl⟩ := h
    simp only [Bool.and_eq_true] at hb
    have ho0 : o = 0 := eq_of_beq hb.1
    exact ⟨hr, by omega⟩
   ·split at h
    ·rename_i p' y q' hs'
     simp only [Option.some.injEq, Prod.mk.injEq] at h
     obtain ⟨rfl, rfl, rfl⟩ := h
     obtain ⟨c1, d, rfl, h1, c2, c3, rfl, h2, h3⟩ := Qb5.append_inv hr
     obtain ⟨h4, h5⟩ := Qd2 hs' (LV.explode_rel h2)
     refine ⟨?_, by rw [Qmy, h5]⟩
     have := Qb5.append h1 (Qb5.append h4 h3)
     simpa only [List.append_assoc, List.cons_append] using this
    ·simp at h
def rdP (n : Nat) (ag : Bool) : Qq7 → List LV → Nat → (SV → Prop) → Prop
 | [], l, off, f => match rdS n ag 9 l off with
  | some v => f v
  | none => False
 | (b, sz, i) :: p, l, off, f => match Qj2 sz 9 l b with
  | some (_, x, _) => (match x.arrOf with
   | some (len, sz') => sz' = sz ∧ i.toNat < len ∧ rdP n ag p [x.elemLV i.toNat] off f
   | none => False)
  | none => False
def wrP (n : Nat) (v : SV) : Qq7 → List LV → Nat → (List LV → Prop) → Prop
 | [], l, off, f => wrS n v 9 l off f
 | (b, sz, i) :: p, l, off, f => match Qj2 sz 9 l b with
  | some (p1, x, q1) => (match x.arrOf with
   | some (len, sz') => sz' = sz ∧ i.toNat < len ∧ wrP n v p [x.elemLV i.toNat] off fun l' => x.setElem i.toNat (.agg l') fun y => f (p1 ++ y :: q1)
   | none => False)
  | none => False
theorem Qiv {G : Hp} {γ : Nat → Value} {n : Nat} {ag : Bool} : ∀ {path : Qq7} {l : List LV} {off : Nat} {f : SV → Prop} {cs : List Value}, rdP n ag path l off f → Qb5 G γ l cs →
    ∃ v p es q, f v ∧ cs = p ++ (es ++ q) ∧ p.length = Qdx path off ∧ Qom G γ n ag v es
 | [], l, off, f, cs, h, hr => by
  unfold rdP at h
  split at h
  ·rename_i v hv
   obtain ⟨p, es, q, e, hp, hg⟩ := Qgo hv hr
   exact ⟨v, p, es, q, h, e, hp, hg⟩
  ·exact h.elim
 | (b, sz, i) :: path, l, off, f, cs, h, hr => by
  unfold rdP at h
  split at h
  ·rename_i p1 x q1 hs
   obtain ⟨hr, hb⟩ := Qd2 hs hr
   obtain ⟨c1, d, rfl, h1, c2, c3, rfl, h2, h3⟩ := Qb5.append_inv hr
   split at h
   ·rename_i len sz' ha
    obtain ⟨rfl, hi, h⟩ := h
    obtain ⟨p', c, q', e, hp', hc, hl, _⟩ := LV.elem_spec ha h2 hi
    obtain ⟨v, p2, es, q2, hf, e2, hp2, hg⟩ := Qiv h (Qb5.one hl)
    refine ⟨v, c1 ++ (p' ++ p2), es, q2 ++ (q' ++ c3), hf, by rw [e, e2]; simp only [List.append_assoc], ?_, hg⟩
    have := Qb5.length h1
    simp only [List.length_append, Qdx]; omega
   ·exact h.elim
  ·exact h.elim
theorem Qmp {G : Hp} {γ : Nat → Value} {n : Nat} {v : SV} {val : Value} (hvl : Qb5 G γ v.leaves val.cells.toList) (hn : Qep v.leaves = n) :
    ∀ {path : Qq7} {l : List LV} {off : Nat} {f : List LV → Prop} {cs : List Value}, wrP n v path l off f → Qb5 G γ l cs →
    ∃ l' p old q, f l' ∧ cs = p ++ (old ++ q) ∧ p.length = Qdx path off ∧ old.length = n ∧ Qb5 G γ l' (p ++ (val.cells.toList ++ q))
 | [], l, off, f, cs, h, hr => by
  unfold wrP at h
  exact Qi3 hvl hn h hr
 | (b, sz, i) :: path, l, off, f, cs, h, hr => by
  unfold wrP at h
  split at h
  ·rename_i p1 x q1 hs
   obtain ⟨hr, hb⟩ := Qd2 hs hr
   obtain ⟨c1, d, rfl, h1, c2, c3, rfl, h2, h3⟩ := Qb5.append_inv hr
   split at h
   ·rename_i len sz' ha
    obtain ⟨rfl, hi, h⟩ := h
    obtain ⟨p', c, q', e, hp', hc, hl, hset⟩ := LV.elem_spec ha h2 hi
    obtain ⟨l', p2, old, q2, hf, e2, hp2, ho2, hr2⟩ := Qmp hvl hn h (Qb5.one hl)
    obtain ⟨y, hy, hry⟩ := hset hf (Qpf hr2)
    refine ⟨_, c1 ++ (p' ++ p2), old, q2 ++ (q' ++ c3), hy, by rw [e, e2]; simp only [List.append_assoc], ?_, ho2, ?_⟩
    ·have := Qb5.length h1
     simp only [List.length_append, Qdx]; omega
    ·have := Qb5.append h1 (Qb5.cons hry h3)
     simpa only [List.append_assoc, Value.cells, List.toList_toArray] using this
   ·exact h.elim
  ·exact h.elim
end Go.Proofs.Ytnmjcdlgfimnaaa
namespace Go.Proofs.Ytnmjcdlgfimnaaa
def Qd7 : List (Nat × TV) → Nat → TV
 | [], _ => .one (.l .undef)
 | (j, v) :: r, i => bif j == i then v else Qd7 r i
def LV.hasId (id : Nat) : LV → Bool
 | .own i => i == id
 | .ptr i _ _ => i == id
 | .view i _ _ _ _ _ => i == id
 | .clo _ caps => caps.contains id
 | .mp i => i == id
 | .ocut i _ => i == id
 | _ => false
def LV.kill (id : Nat) (x : LV) : LV := bif x.hasId id then .undef else x
def SV.kill (id : Nat) : SV → SV
 | .l x => .l (x.kill id)
 | .agg xs => .agg (xs.map (LV.kill id))
def TV.kill (id : Nat) : TV → TV
 | .one x => .one (x.kill id)
 | .tup xs => .tup (xs.map (SV.kill id))
def Box.kill (id : Nat) : Box → Box
 | .segs l => .segs (l.map (LV.kill id))
 | .sarr n l => .sarr n (l.map (LV.kill id))
 | .mpr A M V (some (k, some i)) => .mpr A M V (some (k, bif i == id then none else some i))
 | b => b
def Qgn (id : Nat) : List (Nat × TV) → List (Nat × TV)
 | [] => []
 | (j, v) :: r => (j, v.kill id) :: Qgn id r
def Qcq (id : Nat) : List (Nat × Box) → List (Nat × Box)
 | [] => []
 | (j, b) :: r => bif j == id then Qcq id r else (j, b.kill id) :: Qcq id r
def Qco : List (Nat × Box) → Nat → Option Box
 | [], _ => none
 | (j, b) :: r, i => bif j == i then some b else Qco r i
def Qhg : List (Nat × Box) → Nat → Box → List (Nat × Box)
 | [], _, _ => []
 | (j, b) :: r, i, x => bif j == i then (j, x) :: r else (j, b) :: Qhg r i x
def Qan.add (s : Qan) (id : Nat) (b : Box) : Qan := ⟨Qgn id s.sl, (id, b.kill id) :: Qcq id s.mem, s.pins⟩
def Qan.put (s : Qan) (d : Nat) (v : TV) : Qan := ⟨(d, v) :: s.sl, s.mem, s.pins⟩
def Qan.setBox (s : Qan) (id : Nat) (b : Box) : Qan := ⟨s.sl, Qhg s.mem id b, s.pins⟩
def Qb7 (G : Hp) (γ : Nat → Value) (sl : List (Nat × TV)) (ts : Array Value) : Prop := ∀ i, (Qd7 sl i).rel G γ (ts.getD i undef)
structure Qc4 (R : Fr) (G : Hp) (γ : Nat → Value) (s : Qan) (a : Act) (w : World) : Prop where
 sl : Qb7 G γ s.sl a.tmps
 mem : Qdi R G γ s.mem w
 df : a.defers = []
 pn : ∀ i, R.pin i ≠ none → i ∈ s.pins
theorem LV.kill_rel {G : Hp} {γ γ' : Nat → Value} {id : Nat} (hγ : ∀ i, i ≠ id → γ' i = γ i) {x : LV} {cs : List Value} (h : x.rel G γ cs) : (x.kill id).rel G γ' cs := by
 unfold LV.kill
 cases hh : x.hasId id
 ·refine LV.rel_congr (fun i hi => hγ i ?_) h
  rintro rfl
  cases x <;> simp_all [LV.ids, LV.hasId]
 ·have hl := LV.rel_length h
  have hp := LV.rel_plain h
  have h1 : x.size = 1 := by cases x <;> simp_all [LV.hasId, LV.size]
  rw [h1] at hl
  match cs, hl with
  | [c], _ => exact ⟨c, rfl, hp c (by simp)⟩
theorem Qb5.kill {G : Hp} {γ γ' : Nat → Value} {id : Nat} (hγ : ∀ i, i ≠ id → γ' i = γ i) : ∀ {l : List LV} {cs : List Value}, Qb5 G γ l cs → Qb5 G γ' (l.map (LV.kill id)) cs
 | [], _, h => h
 | _ :: _, _, ⟨c, d, e, hx, hl⟩ => ⟨c, d, e, LV.kill_rel hγ hx, Qb5.kill hγ hl⟩
theorem LV.kill_relV {G : Hp} {γ γ' : Nat → Value} {id : Nat} (hγ : ∀ i, i ≠ id → γ' i = γ i) {x : LV} {v : Value} (h : x.relV G γ v) : (x.kill id).relV G γ' v := by
 unfold LV.kill
 cases hh : x.hasId id
 ·refine LV.relV_congr (fun i hi => hγ i ?_) h
  rintro rfl
  cases x <;> simp_all [LV.ids, LV.hasId]
 ·trivial
theorem SV.kill_rel {G : Hp} {γ γ' : Nat → Value} {id : Nat} (hγ : ∀ i, i ≠ id → γ' i = γ i) {x : SV} {v : Value} (h : x.rel G γ v) : (x.kill id).rel G γ' v := by
 cases x with
 | l x => exact LV.kill_relV hγ h
 | agg xs => obtain ⟨cs, hc, e⟩ := h; exact ⟨cs, hc.kill hγ, e⟩
theorem Qcv.kill {G : Hp} {γ γ' : Nat → Value} {id : Nat} (hγ : ∀ i, i ≠ id → γ' i = γ i) : ∀ {xs : List SV} {vs : List Value}, Qcv G γ xs vs → Qcv G γ' (xs.map (SV.kill id)) vs
 | [], _, h => h
 | _ :: _, _, ⟨v, r, e, hx, hr⟩ => ⟨v, r, e, SV.kill_rel hγ hx, Qcv.kill hγ hr⟩
theorem TV.kill_rel {G : Hp} {γ γ' : Nat → Value} {id : Nat} (hγ : ∀ i, i ≠ id → γ' i = γ i) {x : TV} {v : Value} (h : x.rel G γ v) : (x.kill id).rel G γ' v := by
 cases x with
 | one x => exact SV.kill_rel hγ h
 | tup xs => obtain ⟨vs, hv, e⟩ := h; exact ⟨vs, hv.kill hγ, e⟩
theorem Box.kill_at {G : Hp} {γ γ' : Nat → Value} {id : Nat} (hγ : ∀ i, i ≠ id → γ' i = γ i) {x : Box} {v : Value} {f : Hp} (h : x.at G γ v f) : (x.kill id).at G γ' v f := by
 cases x with
 | segs l => obtain ⟨b, t, cs, e, ef, hl⟩ := h; exact ⟨b, t, cs, e, ef, hl.kill hγ⟩
 | arr R l => exact h
 | sarr n l => obtain ⟨b, t, es, sp, c, e, ef, hl, hn⟩ := h; exact ⟨b, t, es, sp, c, e, ef, hl.kill hγ, hn⟩
 | obj O D => exact h
 | mpr A M V dead =>
  rcases dead with _ | ⟨k, _ | i⟩
  ·exact ⟨h.1, fun k i hd => by simp at hd⟩
  ·exact ⟨h.1, fun k i hd => by simp at hd⟩
  ·show Box.at G γ' (.mpr A M V (some (k, bif i == id then none else some i))) v f
   refine ⟨h.1, fun k' i' hd => ?_⟩
   cases e : (i == id)
   ·rw [e] at hd
    simp only [cond_false, Option.some.injEq, Prod.mk.injEq] at hd
    obtain ⟨rfl, rfl⟩ := hd
    have : i ≠ id := by simpa using e
    rw [hγ i this]; exact h.2 k i rfl
   ·rw [e] at hd; simp at hd
theorem Qny (id : Nat) : ∀ (sl : List (Nat × TV)) (i : Nat), Qd7 (Qgn id sl) i = (Qd7 sl i).kill id
 | [], _ => rfl
 | (j, v) :: r, i => by
  unfold Qgn Qd7
  cases h : (j == i)
  ·exact Qny id r i
  ·rfl
theorem Qc0 {id : Nat} : ∀ {mem : List (Nat × Box)} {e : Nat × Box}, e ∈ Qcq id mem → e.1 ≠ id ∧ ∃ b, (e.1, b) ∈ mem ∧ e.2 = b.kill id
 | [], _, h => by simp [Qcq] at h
 | (j, b) :: r, e, h => by
  unfold Qcq at h
  cases hj : (j == id)
  ·rw [hj, cond_false, List.mem_cons] at h
   rcases h with rfl | h
   ·exact ⟨by simpa using hj, b, by simp, rfl⟩
   ·obtain ⟨h1, b', h2, h3⟩ := Qc0 h
    exact ⟨h1, b', by simp [h2], h3⟩
  ·rw [hj, cond_true] at h
   obtain ⟨h1, b', h2, h3⟩ := Qc0 h
   exact ⟨h1, b', by simp [h2], h3⟩
theorem Qd3 {id : Nat} : ∀ {mem : List (Nat × Box)}, (Qao mem).Nodup → (Qao (Qcq id mem)).Nodup
 | [], _ => by simp [Qcq, Qao]
 | (j, b) :: r, h => by
  simp only [Qao, List.map_cons, List.nodup_cons] at h
  unfold Qcq
  cases hj : (j == id)
  ·simp only [cond_false, Qao, List.map_cons, List.nodup_cons]
   refine ⟨fun hm => h.1 ?_, Qd3 h.2⟩
   obtain ⟨e, he, rfl⟩ := List.mem_map.1 hm
   obtain ⟨_, b', h2, _⟩ := Qc0 he
   exact List.mem_map.2 ⟨_, h2, rfl⟩
  ·exact Qd3 h.2
theorem Qdi.push {R : Fr} {G : Hp} {γ : Nat → Value} {mem : List (Nat × Box)} {w : World} (h : Qdi R G γ mem w) (id : Nat) (hpin : R.pin id = none) {b : Box} {v : Value} {o : Obj}
    (hb : b.at G γ v (sng w.heap.size o)) : Qdi R G (Qis γ id v) ((id, b.kill id) :: Qcq id mem) (Qfb w o) := by
 obtain ⟨fr, hn, hp, hat, hok⟩ := h
 have hγ : ∀ i, i ≠ id → Qis γ id v i = γ i := fun i hi => Qds hi
 have hsub : ∀ i ∈ Qao (Qcq id mem), i ∈ Qao mem := by
  intro i hi
  obtain ⟨e, he, rfl⟩ := List.mem_map.1 hi
  obtain ⟨_, b', h2, _⟩ := Qc0 he
  exact List.mem_map.2 ⟨_, h2, rfl⟩
 have hid : id ∉ Qao (Qcq id mem) := by
  intro hi
  obtain ⟨e, he, rfl⟩ := List.mem_map.1 hi
  exact (Qc0 he).1 rfl
 refine ⟨Qfi fr id (sng w.heap.size o), ?_, ?_, ?_, ?_⟩
 ·simp only [Qao, List.map_cons, List.nodup_cons]
  exact ⟨hid, Qd3 hn⟩
 ·intro i v hi
  have : i ≠ id := by rintro rfl; rw [hpin] at hi; exact absurd hi (by simp)
  rw [Qds this]; exact hp i v hi
 ·intro e he
  rcases List.mem_cons.1 he with rfl | he
  ·simp only [Qcf, Qbc]
   exact Box.kill_at hγ hb
  ·obtain ⟨hne, b', h2, h3⟩ := Qc0 he
   rw [Qds hne, Qbh hne, h3]
   exact Box.kill_at hγ (hat _ h2)
 ·exact (hok.sub hsub).push hid o
theorem Qb7.kill {G : Hp} {γ γ' : Nat → Value} {id : Nat} (hγ : ∀ i, i ≠ id → γ' i = γ i) {sl : List (Nat × TV)} {ts : Array Value} (h : Qb7 G γ sl ts) : Qb7 G γ' (Qgn id sl) ts := by
 intro i
 rw [Qny]
 exact TV.kill_rel hγ (h i)
def Qan.room (s : Qan) (d : Nat) : Prop := s.pins.contains d = false
theorem Qc4.unpinned {R : Fr} {G : Hp} {γ : Nat → Value} {s : Qan} {a : Act} {w : World} (h : Qc4 R G γ s a w) {id : Nat} (hr : s.room id) : R.pin id = none := by
 cases hp : R.pin id with
 | none => rfl
 | some v =>
  have := h.pn id (by simp [hp])
  simp only [Qan.room, List.contains_eq_mem, decide_eq_false_iff_not] at hr
  exact absurd this hr
theorem Qc4.push {R : Fr} {G : Hp} {γ : Nat → Value} {s : Qan} {a : Act} {w : World} (h : Qc4 R G γ s a w) (id : Nat) (hr : s.room id) {b : Box} {v : Value} {o : Obj}
    (hb : b.at G γ v (sng w.heap.size o)) : Qc4 R G (Qis γ id v) (s.add id b) a (Qfb w o) :=
 ⟨h.sl.kill fun _ hi => Qds hi, h.mem.push id (h.unpinned hr) hb, h.df, h.pn⟩
theorem Qca : ∀ {mem : List (Nat × Box)} {id : Nat} {b : Box}, Qco mem id = some b → (id, b) ∈ mem
 | [], _, _, h => by simp [Qco] at h
 | (j, x) :: r, id, b, h => by
  unfold Qco at h
  cases hj : (j == id)
  ·rw [hj, cond_false] at h
   exact List.mem_cons.2 (.inr (Qca h))
  ·rw [hj, cond_true] at h
   simp only [Option.some.injEq] at h
   subst h
   have : j = id := by simpa using hj
   subst this
   exact List.mem_cons.2 (.inl rfl)
theorem Qdn : ∀ (mem : List (Nat × Box)) (id : Nat) (b : Box), Qao (Qhg mem id b) = Qao mem
 | [], _, _ => rfl
 | (j, x) :: r, id, b => by
  unfold Qhg
  cases hj : (j == id)
  ·simp only [cond_false, Qao, List.map_cons]
   exact congrArg _ (Qdn r id b)
  ·rfl
theorem Qe0 : ∀ {mem : List (Nat × Box)} {id : Nat} {b : Box} {e : Nat × Box}, (Qao mem).Nodup → e ∈ Qhg mem id b → e = (id, b) ∨ (e ∈ mem ∧ e.1 ≠ id)
 | [], _, _, _, _, h => by simp [Qhg] at h
 | (j, x) :: r, id, b, e, hn, h => by
  simp only [Qao, List.map_cons, List.nodup_cons] at hn
  unfold Qhg at h
  cases hj : (j == id)
  ·rw [hj, cond_false, List.mem_cons] at h
   rcases h with rfl | h
   ·exact .inr ⟨by simp, by simpa using hj⟩
   ·exact (Qe0 hn.2 h).imp (fun h => h) fun h => ⟨by simp [h.1], h.2⟩
  ·rw [hj, cond_true, List.mem_cons] at h
   have e1 : j = id := by simpa using hj
   rcases h with rfl | h
   ·exact .inl (by rw [e1])
   ·refine .inr ⟨by simp [h], ?_⟩
    intro e2
    exact hn.1 (List.mem_map.2 ⟨e, h, by rw [e2, e1]⟩)
theorem Qdi.get {R : Fr} {G : Hp} {γ : Nat → Value} {mem : List (Nat × Box)} {w : World} (h : Qdi R G γ mem w) {id : Nat} {b : Box} (hm : Qco mem id = some b) :
    ∃ f, b.at G γ (γ id) f ∧ Hp.le f (Qeh w) := by
 obtain ⟨fr, _, _, hat, hok⟩ := h
 have := Qca hm
 exact ⟨fr id, hat _ this, hok.f id (List.mem_map.2 ⟨_, this, rfl⟩)⟩
theorem Qdi.put {R : Fr} {G : Hp} {γ : Nat → Value} {mem : List (Nat × Box)} {w : World} (h : Qdi R G γ mem w) {id : Nat} {b : Box} (hm : Qco mem id = some b) :
    ∃ f, b.at G γ (γ id) f ∧ Hp.le f (Qeh w) ∧ ∀ {n : Nat} {o o' : Obj} {b' : Box}, f = sng n o → b'.at G γ (γ id) (sng n o') → Qdi R G γ (Qhg mem id b') (Qfp w n o') := by
 obtain ⟨fr, hn, hp, hat, hok⟩ := h
 have hmem := Qca hm
 have hid : id ∈ Qao mem := List.mem_map.2 ⟨_, hmem, rfl⟩
 refine ⟨fr id, hat _ hmem, hok.f id hid, ?_⟩
 intro n o o' b' hf hb'
 refine ⟨Qfi fr id (sng n o'), by rw [Qdn]; exact hn, hp, ?_, by rw [Qdn]; exact hok.set hid hf o'⟩
 intro e he
 rcases Qe0 hn he with rfl | ⟨he, hne⟩
 ·simp only [Qbc]; exact hb'
 ·rw [Qbh hne]; exact hat e he
end Go.Proofs.Ytnmjcdlgfimnaaa
