/- Data laid open, and put together; parts of a block read and written. -/
import Derived.Test.YtnmjcdlgfimnaaaFd
namespace Go.Proofs.Ytnmjcdlgfimnaaa

/-- A datum as a leaf: numbers, bools and texts stand by themselves. -/
def Rep.leaf : {α : Type} → Rep α → α → LV
  | _, .int k, x => .int k x
  | _, .bool, b => .bool b
  | _, .str, s => .str s
  | _, .iso A to of h h', y => bif A.scalar then A.leaf (to y) else .dat (.iso A to of h h') y
  | _, .unit, x => .dat .unit x
  | _, .pair A B, x => .dat (.pair A B) x
  | _, .arr n A, x => .dat (.arr n A) x
  | _, .slice A, x => .dat (.slice A) x

/-- A struct's fields as leaves. -/
def Rep.explode : {α : Type} → Rep α → α → List LV
  | _, .pair A B, x => A.leaf x.1 :: B.explode x.2
  | _, .unit, _ => []
  | _, .iso A to _ _ _, y => A.explode (to y)
  | _, .int k, x => [.int k x]
  | _, .bool, b => [.bool b]
  | _, .str, s => [.str s]
  | _, .arr n A, x => [.dat (.arr n A) x]
  | _, .slice A, x => [.dat (.slice A) x]

theorem Rep.leaf_rel : {α : Type} → (R : Rep α) → (G : Hp) → (γ : Nat → Value) → (x : α) → (cs : List Value) → ((R.leaf x).rel G γ cs ↔ R.enc G x cs)
  | _, .int _, _, _, _, _ => Iff.rfl
  | _, .bool, _, _, _, _ => Iff.rfl
  | _, .str, _, _, _, _ => Iff.rfl
  | _, .iso A to of h h', G, γ, y, cs => by
    unfold Rep.leaf
    cases hs : A.scalar
    · exact Iff.rfl
    · exact A.leaf_rel G γ (to y) cs
  | _, .unit, _, _, _, _ => Iff.rfl
  | _, .pair _ _, _, _, _, _ => Iff.rfl
  | _, .arr _ _, _, _, _, _ => Iff.rfl
  | _, .slice _, _, _, _, _ => Iff.rfl

theorem RelL.one {G : Hp} {γ : Nat → Value} {x : LV} {cs : List Value} (h : x.rel G γ cs) : RelL G γ [x] cs := ⟨cs, [], by simp, h, rfl⟩
theorem RelL.one_inv {G : Hp} {γ : Nat → Value} {x : LV} {cs : List Value} (h : RelL G γ [x] cs) : x.rel G γ cs := by
  obtain ⟨c, d, e, hx, hd⟩ := h
  simp only [EncL] at hd
  rw [e, hd, List.append_nil]; exact hx
theorem RelL.cons {G : Hp} {γ : Nat → Value} {x : LV} {l : List LV} {c d : List Value} (h : x.rel G γ c) (hl : RelL G γ l d) : RelL G γ (x :: l) (c ++ d) := ⟨c, d, rfl, h, hl⟩

theorem Rep.explode_rel : {α : Type} → (R : Rep α) → {G : Hp} → (γ : Nat → Value) → {x : α} → {cs : List Value} → R.enc G x cs → RelL G γ (R.explode x) cs
  | _, .pair A B, G, γ, x, cs, h => by
    obtain ⟨c, d, e, h1, h2⟩ := (enc_pair A B G x cs).1 h
    rw [e]
    exact .cons ((A.leaf_rel G γ _ _).2 h1) (B.explode_rel γ h2)
  | _, .unit, _, _, _, _, h => h
  | _, .iso A to _ _ _, _, γ, _, _, h => A.explode_rel γ (by simpa only [enc] using h)
  | _, .int _, _, _, _, _, h => .one h
  | _, .bool, _, _, _, _, h => .one h
  | _, .str, _, _, _, _, h => .one h
  | _, .arr _ _, _, _, _, _, h => .one h
  | _, .slice _, _, _, _, _, h => .one h

/-- A leaf that holds a datum of this very layout. -/
def datAs {α : Type} (R : Rep α) (x : LV) (f : α → Prop) : Prop :=
  match x with
  | @LV.dat β R' y => ∃ h : β = α, HEq R' R ∧ f (cast h y)
  | _ => False

/-- Leaves put together to a datum; what is left. -/
def asRL : {α : Type} → Rep α → List LV → (α → List LV → Prop) → Prop
  | _, .int k, xs, f => match xs with
    | .int k' x :: r => k' = k ∧ f x r
    | _ => False
  | _, .bool, xs, f => match xs with
    | .bool b :: r => f b r
    | _ => False
  | _, .str, xs, f => match xs with
    | .str s :: r => f s r
    | _ => False
  | _, .unit, xs, f => f () xs
  | _, .pair A B, xs, f => asRL A xs fun a r => asRL B r fun b r' => f (a, b) r'
  | _, .arr n A, xs, f => match xs with
    | x :: r => datAs (.arr n A) x fun a => f a r
    | [] => False
  | _, .slice A, xs, f => match xs with
    | .nils :: r => f [] r
    | x :: r => datAs (.slice A) x fun a => f a r
    | [] => False
  | _, .iso A to of h h', xs, f => match xs with
    | .dat R' y :: r => bif R'.size == A.size && !A.scalar then datAs (.iso A to of h h') (.dat R' y) (fun a => f a r) else asRL A (.dat R' y :: r) fun a r => f (of a) r
    | xs => asRL A xs fun a r => f (of a) r

def SV.leaves : SV → List LV
  | .l x => [x]
  | .agg xs => xs

/-- A value as a datum of a layout. -/
def asR {α : Type} (R : Rep α) (v : SV) (f : α → Prop) : Prop := asRL R v.leaves fun a r => r = [] ∧ f a

theorem datAs_sound {α : Type} {R : Rep α} {x : LV} {f : α → Prop} (h : datAs R x f) {G : Hp} {γ : Nat → Value} {cs : List Value} (hr : x.rel G γ cs) : ∃ a, f a ∧ R.enc G a cs := by
  unfold datAs at h
  split at h
  · obtain ⟨e, hR, hf⟩ := h
    subst e
    obtain rfl := eq_of_heq hR
    exact ⟨_, hf, hr⟩
  · exact h.elim

theorem asRL_sound : {α : Type} → (R : Rep α) → {xs : List LV} → {f : α → List LV → Prop} → {G : Hp} → {γ : Nat → Value} → {cs : List Value} → asRL R xs f → RelL G γ xs cs →
    ∃ a r c d, f a r ∧ cs = c ++ d ∧ R.enc G a c ∧ RelL G γ r d
  | _, .int k, xs, f, G, γ, cs, h, hr => by
    unfold asRL at h
    split at h
    · obtain ⟨rfl, hf⟩ := h
      obtain ⟨c, d, e, hx, hd⟩ := hr
      exact ⟨_, _, c, d, hf, e, hx, hd⟩
    · exact h.elim
  | _, .bool, xs, f, G, γ, cs, h, hr => by
    unfold asRL at h
    split at h
    · obtain ⟨c, d, e, hx, hd⟩ := hr
      exact ⟨_, _, c, d, h, e, hx, hd⟩
    · exact h.elim
  | _, .str, xs, f, G, γ, cs, h, hr => by
    unfold asRL at h
    split at h
    · obtain ⟨c, d, e, hx, hd⟩ := hr
      exact ⟨_, _, c, d, h, e, hx, hd⟩
    · exact h.elim
  | _, .unit, xs, f, G, γ, cs, h, hr => ⟨(), xs, [], cs, h, rfl, rfl, hr⟩
  | _, .pair A B, xs, f, G, γ, cs, h, hr => by
    unfold asRL at h
    obtain ⟨a, r, c, d, h1, e, he, hd⟩ := asRL_sound A h hr
    obtain ⟨b, r', c', d', h2, e', he', hd'⟩ := asRL_sound B h1 hd
    exact ⟨(a, b), r', c ++ c', d', h2, by rw [e, e', List.append_assoc], (Rep.enc_pair A B G (a, b) _).2 ⟨c, c', rfl, he, he'⟩, hd'⟩
  | _, .arr n A, xs, f, G, γ, cs, h, hr => by
    unfold asRL at h
    split at h
    · obtain ⟨c, d, e, hx, hd⟩ := hr
      obtain ⟨a, hf, he⟩ := datAs_sound h hx
      exact ⟨a, _, c, d, hf, e, he, hd⟩
    · exact h.elim
  | _, .slice A, xs, f, G, γ, cs, h, hr => by
    unfold asRL at h
    split at h
    · obtain ⟨c, d, e, hx, hd⟩ := hr
      refine ⟨[], _, c, d, h, e, ?_, hd⟩
      exact (Rep.enc_slice A G [] c).2 ⟨none, 0, hx, Nat.le_refl _, Nat.zero_le _, fun _ => rfl, .inl rfl⟩
    · obtain ⟨c, d, e, hx, hd⟩ := hr
      obtain ⟨a, hf, he⟩ := datAs_sound h hx
      exact ⟨a, _, c, d, hf, e, he, hd⟩
    · exact h.elim
  | _, .iso A to of h1 h2, xs, f, G, γ, cs, h, hr => by
    have key : asRL A xs (fun a r => f (of a) r) → ∃ a r c d, f a r ∧ cs = c ++ d ∧ (Rep.iso A to of h1 h2).enc G a c ∧ RelL G γ r d := by
      intro h
      obtain ⟨a, r, c, d, hf, e, he, hd⟩ := asRL_sound A h hr
      exact ⟨of a, r, c, d, hf, e, (Rep.enc_iso A to of h1 h2 G (of a) c).2 (by rw [h2]; exact he), hd⟩
    unfold asRL at h
    split at h
    · rename_i R' y r
      cases hb : (R'.size == A.size && !A.scalar)
      · rw [hb] at h; exact key h
      · rw [hb, cond_true] at h
        obtain ⟨c, d, e, hx, hd⟩ := hr
        obtain ⟨a, hf, he⟩ := datAs_sound h hx
        exact ⟨a, _, c, d, hf, e, he, hd⟩
    · exact key h

theorem SV.rel_leaves {G : Hp} {γ : Nat → Value} {x : SV} {v : Value} (hu : x.leaves ≠ [.undef]) (h : x.rel G γ v) : RelL G γ x.leaves v.cells.toList := by
  cases x with
  | l x => exact .one (LV.rel_cells (fun e => hu (by rw [e]; rfl)) h)
  | agg xs => obtain ⟨cs, hc, rfl⟩ := h; exact hc

theorem asRL_undef : {α : Type} → (R : Rep α) → {f : α → List LV → Prop} → asRL R [.undef] f → ∃ a, f a [.undef]
  | _, .int k, f, h => by unfold asRL at h; exact h.elim
  | _, .bool, f, h => by unfold asRL at h; exact h.elim
  | _, .str, f, h => by unfold asRL at h; exact h.elim
  | _, .unit, f, h => ⟨_, h⟩
  | _, .pair A B, f, h => by
    unfold asRL at h
    obtain ⟨a, h⟩ := asRL_undef A h
    obtain ⟨b, h⟩ := asRL_undef B h
    exact ⟨_, h⟩
  | _, .arr n A, f, h => by unfold asRL datAs at h; exact h.elim
  | _, .slice A, f, h => by unfold asRL datAs at h; exact h.elim
  | _, .iso A to of h1 h2, f, h => by
    unfold asRL at h
    obtain ⟨a, h⟩ := asRL_undef A h
    exact ⟨_, h⟩

theorem asR_sound {α : Type} {R : Rep α} {v : SV} {f : α → Prop} (h : asR R v f) {G : Hp} {γ : Nat → Value} {x : Value} (hr : v.rel G γ x) : ∃ a, f a ∧ R.enc G a x.cells.toList := by
  unfold asR at h
  by_cases hu : v.leaves = [.undef]
  · rw [hu] at h
    obtain ⟨a, h, _⟩ := asRL_undef R h
    exact absurd h (by simp)
  · obtain ⟨a, r, c, d, ⟨hr0, hf⟩, e, he, hd⟩ := asRL_sound R h (SV.rel_leaves hu hr)
    subst hr0
    simp only [EncL] at hd
    rw [hd, List.append_nil] at e
    exact ⟨a, hf, e ▸ he⟩

/-- The leaf in which a cell lies. -/
def seek : List LV → Nat → Option (List LV × LV × List LV × Nat)
  | [], _ => none
  | x :: r, off => bif decide (off < x.size) then some ([], x, r, off) else match seek r (off - x.size) with
    | some (p, y, q, o) => some (x :: p, y, q, o)
    | none => none

theorem seek_spec : ∀ {l : List LV} {off : Nat} {p : List LV} {x : LV} {q : List LV} {o : Nat}, seek l off = some (p, x, q, o) → l = p ++ x :: q ∧ off = sizeL p + o ∧ o < x.size
  | [], _, _, _, _, _, h => by simp [seek] at h
  | y :: r, off, p, x, q, o, h => by
    unfold seek at h
    cases hb : decide (off < y.size)
    · rw [hb] at h
      simp only [cond_false] at h
      split at h
      · rename_i p' y' q' o' hs
        simp only [Option.some.injEq, Prod.mk.injEq] at h
        obtain ⟨rfl, rfl, rfl, rfl⟩ := h
        obtain ⟨e1, e2, e3⟩ := seek_spec hs
        have hb' : ¬ off < y.size := by simpa using hb
        exact ⟨by rw [e1]; rfl, by simp only [sizeL]; omega, e3⟩
      · exact absurd h (by simp)
    · rw [hb] at h
      simp only [cond_true, Option.some.injEq, Prod.mk.injEq] at h
      obtain ⟨rfl, rfl, rfl, rfl⟩ := h
      exact ⟨rfl, by simp [sizeL], of_decide_eq_true hb⟩

/-- Leaves that have just so many cells. -/
def takeN : List LV → Nat → Option (List LV × List LV)
  | l, 0 => some ([], l)
  | [], _ + 1 => none
  | x :: r, n + 1 => bif decide (x.size ≤ n + 1) && !(x.size == 0) then match takeN r (n + 1 - x.size) with
    | some (m, q) => some (x :: m, q)
    | none => none else none

theorem takeN_spec : ∀ {l : List LV} {n : Nat} {m q : List LV}, takeN l n = some (m, q) → l = m ++ q ∧ sizeL m = n
  | l, 0, m, q, h => by
    unfold takeN at h
    simp only [Option.some.injEq, Prod.mk.injEq] at h
    obtain ⟨rfl, rfl⟩ := h
    exact ⟨rfl, rfl⟩
  | [], n + 1, m, q, h => by simp [takeN] at h
  | x :: r, n + 1, m, q, h => by
    unfold takeN at h
    cases hb : decide (x.size ≤ n + 1) && !(x.size == 0)
    · rw [hb] at h; simp at h
    · rw [hb] at h
      simp only [cond_true] at h
      split at h
      · rename_i m' q' hs
        simp only [Option.some.injEq, Prod.mk.injEq] at h
        obtain ⟨rfl, rfl⟩ := h
        obtain ⟨e1, e2⟩ := takeN_spec hs
        simp only [Bool.and_eq_true] at hb
        have := of_decide_eq_true hb.1
        exact ⟨by rw [e1]; rfl, by simp only [sizeL]; omega⟩
      · exact absurd h (by simp)

theorem RelL.append_inv {G : Hp} {γ : Nat → Value} {l m : List LV} {cs : List Value} (h : RelL G γ (l ++ m) cs) : ∃ c d, cs = c ++ d ∧ RelL G γ l c ∧ RelL G γ m d := EncL.append_inv h
theorem RelL.append {G : Hp} {γ : Nat → Value} {l m : List LV} {c d : List Value} (h : RelL G γ l c) (h' : RelL G γ m d) : RelL G γ (l ++ m) (c ++ d) := EncL.append h h'
theorem sizeL_append (l m : List LV) : sizeL (l ++ m) = sizeL l + sizeL m := by
  induction l with
  | nil => simp [sizeL]
  | cons x l ih => simp only [List.cons_append, sizeL, ih]; omega

/-- An array's length, and how many cells an element has. -/
def Rep.arrOf : {α : Type} → Rep α → Option (Nat × Nat)
  | _, .arr n A => some (n, A.size)
  | _, .iso A _ _ _ _ => A.arrOf
  | _, _ => none
/-- An array's element as a leaf. -/
def Rep.elemLV : {α : Type} → Rep α → α → Nat → LV
  | _, .arr _ A, l, i => A.leaf (l.getD i A.zero)
  | _, .iso A to _ _ _, y, i => A.elemLV (to y) i
  | _, _, _, _ => .undef
/-- An array with another element. -/
def Rep.setElem : {α : Type} → Rep α → α → Nat → SV → (α → Prop) → Prop
  | _, .arr _ A, l, i, v, f => asR A v fun x => f (l.set i x)
  | _, .iso A to of _ _, y, i, v, f => A.setElem (to y) i v fun a => f (of a)
  | _, _, _, _, _, _ => False

theorem Rep.elem_spec : {α : Type} → (R : Rep α) → {n sz : Nat} → R.arrOf = some (n, sz) → {G : Hp} → (γ : Nat → Value) → {x : α} → {cs : List Value} → R.enc G x cs → {i : Nat} → i < n →
    ∃ p c q, cs = p ++ (c ++ q) ∧ p.length = i * sz ∧ c.length = sz ∧ (R.elemLV x i).rel G γ c ∧
      ∀ {v : SV} {f : α → Prop} {val : Value}, R.setElem x i v f → v.rel G γ val → ∃ y, f y ∧ R.enc G y (p ++ (val.cells.toList ++ q))
  | _, .arr n A, n', sz, ha, G, γ, x, cs, h, i, hi => by
    simp only [arrOf, Option.some.injEq, Prod.mk.injEq] at ha
    obtain ⟨rfl, rfl⟩ := ha
    obtain ⟨hn, hl⟩ := (enc_arr n A G x cs).1 h
    obtain ⟨p, c, q, e, hp, hc, h1, h2⟩ := EncL.at (fun _ _ h => A.enc_length h) hl i (by omega)
    refine ⟨p, c, q, by rw [e, List.append_assoc], hp, A.enc_length hc, ?_, ?_⟩
    · show (A.leaf (x.getD i A.zero)).rel G γ c
      rw [A.leaf_rel, List.getD_eq_getElem?_getD, List.getElem?_eq_getElem (by omega)]
      exact hc
    · intro v f val hs hv
      obtain ⟨y, hf, hy⟩ := asR_sound hs hv
      refine ⟨x.set i y, hf, (enc_arr n A G _ _).2 ⟨by simpa using hn, ?_⟩⟩
      rw [← List.append_assoc]
      exact EncL.set (by omega) h1 hy h2
  | _, .iso A to of h1 h2, n, sz, ha, G, γ, y, cs, h, i, hi => by
    obtain ⟨p, c, q, e, hp, hc, hl, hs⟩ := A.elem_spec (by simpa only [arrOf] using ha) γ (by simpa only [enc] using h) hi
    refine ⟨p, c, q, e, hp, hc, hl, ?_⟩
    intro v f val hs' hv
    obtain ⟨a, hf, ha'⟩ := hs hs' hv
    exact ⟨of a, hf, (enc_iso A to of h1 h2 G (of a) _).2 (by rw [h2]; exact ha')⟩
  | _, .int _, _, _, ha, _, _, _, _, _, _, _ => by simp [arrOf] at ha
  | _, .bool, _, _, ha, _, _, _, _, _, _, _ => by simp [arrOf] at ha
  | _, .str, _, _, ha, _, _, _, _, _, _, _ => by simp [arrOf] at ha
  | _, .unit, _, _, ha, _, _, _, _, _, _, _ => by simp [arrOf] at ha
  | _, .pair _ _, _, _, ha, _, _, _, _, _, _, _ => by simp [arrOf] at ha
  | _, .slice _, _, _, ha, _, _, _, _, _, _, _ => by simp [arrOf] at ha
end Go.Proofs.Ytnmjcdlgfimnaaa
