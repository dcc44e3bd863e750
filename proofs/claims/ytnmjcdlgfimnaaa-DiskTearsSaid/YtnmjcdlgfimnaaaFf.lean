/- Reading and writing a part of a block. -/
import Derived.Test.YtnmjcdlgfimnaaaFe
namespace Go.Proofs.Ytnmjcdlgfimnaaa

def LV.arrOf : LV → Option (Nat × Nat)
  | .dat R _ => R.arrOf
  | _ => none
def LV.elemLV : LV → Nat → LV
  | .dat R x, i => R.elemLV x i
  | _, _ => .undef
def LV.setElem : LV → Nat → SV → (LV → Prop) → Prop
  | .dat R x, i, v, f => R.setElem x i v fun y => f (.dat R y)
  | _, _, _, _ => False
def LV.explode : LV → List LV
  | .dat R x => R.explode x
  | x => [x]

theorem LV.explode_rel {G : Hp} {γ : Nat → Value} {x : LV} {cs : List Value} (h : x.rel G γ cs) : RelL G γ x.explode cs := by
  cases x
  case dat R y => exact R.explode_rel γ h
  all_goals exact .one h

theorem LV.elem_spec {x : LV} {n sz : Nat} (ha : x.arrOf = some (n, sz)) {G : Hp} {γ : Nat → Value} {cs : List Value} (h : x.rel G γ cs) {i : Nat} (hi : i < n) :
    ∃ p c q, cs = p ++ (c ++ q) ∧ p.length = i * sz ∧ c.length = sz ∧ (x.elemLV i).rel G γ c ∧
      ∀ {v : SV} {f : LV → Prop} {val : Value}, x.setElem i v f → v.rel G γ val → ∃ y, f y ∧ y.rel G γ (p ++ (val.cells.toList ++ q)) := by
  cases x <;> simp only [LV.arrOf] at ha
  case dat R y =>
    obtain ⟨p, c, q, e, hp, hc, hl, hs⟩ := R.elem_spec ha γ h hi
    refine ⟨p, c, q, e, hp, hc, hl, ?_⟩
    intro v f val h1 h2
    obtain ⟨z, hf, hz⟩ := hs h1 h2
    exact ⟨_, hf, hz⟩
  all_goals simp at ha

/-- A part of leaves, read. -/
def rdS (n : Nat) (ag : Bool) : Nat → List LV → Nat → Option SV
  | 0, _, _ => none
  | k + 1, l, off => match seek l off with
    | none => none
    | some (_, x, q, o) =>
      bif o == 0 && (x.size == n && (x.isAgg == ag)) then some (.l x)
      else bif o == 0 && (ag && (decide (x.size ≤ n) && !x.isAgg || decide (x.size < n))) then (match takeN (x :: q) n with | some (m, _) => some (.agg m) | none => none)
      else match x.arrOf with
        | some (len, sz) => bif decide (o / sz < len) then rdS n ag k [x.elemLV (o / sz)] (o % sz) else none
        | none => rdS n ag k x.explode o

/-- What a read gives. -/
def Gives (G : Hp) (γ : Nat → Value) (n : Nat) (ag : Bool) (v : SV) (es : List Value) : Prop :=
  es.length = n ∧ (ag = true → v.rel G γ (.agg es.toArray)) ∧ (ag = false → ∀ u, es = [u] → v.rel G γ u)

theorem Gives.leaf {G : Hp} {γ : Nat → Value} {x : LV} {es : List Value} (h : x.rel G γ es) : Gives G γ x.size x.isAgg (.l x) es := by
  refine ⟨LV.rel_length h, ?_, ?_⟩
  · intro ha
    cases x <;> simp only [LV.isAgg] at ha
    case dat R y => exact ⟨es, h, by simp [Rep.mk, ha]⟩
    all_goals simp at ha
  · intro ha u e
    subst e
    exact LV.relV_of ha h

theorem rdS_spec {G : Hp} {γ : Nat → Value} {n : Nat} {ag : Bool} : ∀ {k : Nat} {l : List LV} {off : Nat} {v : SV} {cs : List Value}, rdS n ag k l off = some v → RelL G γ l cs →
    ∃ p es q, cs = p ++ (es ++ q) ∧ p.length = off ∧ Gives G γ n ag v es
  | 0, _, _, _, _, h, _ => by simp [rdS] at h
  | k + 1, l, off, v, cs, h, hr => by
    unfold rdS at h
    split at h
    · simp at h
    · rename_i p x q o hs
      obtain ⟨rfl, rfl, ho⟩ := seek_spec hs
      obtain ⟨c1, d, rfl, h1, c2, c3, rfl, h2, h3⟩ := RelL.append_inv hr
      have hl1 := RelL.length h1
      have hl2 := LV.rel_length h2
      cases hb1 : o == 0 && (x.size == n && (x.isAgg == ag))
      · rw [hb1, cond_false] at h
        cases hb2 : o == 0 && (ag && (decide (x.size ≤ n) && !x.isAgg || decide (x.size < n)))
        · rw [hb2, cond_false] at h
          split at h
          · rename_i len sz ha
            cases hb3 : decide (o / sz < len)
            · rw [hb3] at h; simp at h
            · rw [hb3, cond_true] at h
              have hi : o / sz < len := of_decide_eq_true hb3
              obtain ⟨p', c, q', e, hp', hc, hl, _⟩ := LV.elem_spec ha h2 hi
              obtain ⟨p2, es, q2, e2, hp2, hg⟩ := rdS_spec h (RelL.one hl)
              refine ⟨c1 ++ (p' ++ p2), es, q2 ++ (q' ++ c3), by rw [e, e2]; simp only [List.append_assoc], ?_, hg⟩
              have := Nat.div_add_mod' o sz
              simp only [List.length_append]; omega
          · obtain ⟨p2, es, q2, e2, hp2, hg⟩ := rdS_spec h (LV.explode_rel h2)
            exact ⟨c1 ++ p2, es, q2 ++ c3, by rw [e2]; simp only [List.append_assoc], by simp only [List.length_append]; omega, hg⟩
        · rw [hb2, cond_true] at h
          simp only [Bool.and_eq_true] at hb2
          have ho0 : o = 0 := eq_of_beq hb2.1
          split at h
          · rename_i m q' hm
            simp only [Option.some.injEq] at h
            subst h
            obtain ⟨em, sm⟩ := takeN_spec hm
            have hx : RelL G γ (m ++ q') (c2 ++ c3) := em ▸ RelL.cons h2 h3
            obtain ⟨es, d', e, hm', hq'⟩ := RelL.append_inv hx
            refine ⟨c1, es, d', by rw [e], by omega, ?_, ?_, ?_⟩
            · rw [RelL.length hm', sm]
            · intro _; exact ⟨es, hm', rfl⟩
            · intro ha; rw [ha] at hb2; simp at hb2
          · simp at h
      · rw [hb1, cond_true] at h
        simp only [Option.some.injEq] at h
        subst h
        simp only [Bool.and_eq_true, beq_iff_eq] at hb1
        have ho0 : o = 0 := hb1.1
        have hn : x.size = n := hb1.2.1
        refine ⟨c1, c2, c3, rfl, by omega, ?_⟩
        rw [← hn, ← hb1.2.2]
        exact Gives.leaf h2

/-- A part of leaves, written. -/
def wrS (n : Nat) (v : SV) : Nat → List LV → Nat → (List LV → Prop) → Prop
  | 0, _, _, _ => False
  | k + 1, l, off, f => match seek l off with
    | none => False
    | some (p, x, q, o) =>
      bif o == 0 && x.size == n then f (p ++ (v.leaves ++ q))
      else bif o == 0 && decide (x.size < n) then (match takeN (x :: q) n with | some (_, q') => f (p ++ (v.leaves ++ q')) | none => False)
      else match x.arrOf with
        | some (len, sz) => bif decide (o / sz < len) then wrS n v k [x.elemLV (o / sz)] (o % sz) fun l' => x.setElem (o / sz) (.agg l') fun y => f (p ++ y :: q) else False
        | none => wrS n v k x.explode o fun l' => f (p ++ (l' ++ q))

theorem rel_agg {G : Hp} {γ : Nat → Value} {l : List LV} {cs : List Value} (h : RelL G γ l cs) : (SV.agg l).rel G γ (.agg cs.toArray) := ⟨cs, h, rfl⟩

theorem wrS_spec {G : Hp} {γ : Nat → Value} {n : Nat} {v : SV} {val : Value} (hvl : RelL G γ v.leaves val.cells.toList) (hn : sizeL v.leaves = n) :
    ∀ {k : Nat} {l : List LV} {off : Nat} {f : List LV → Prop} {cs : List Value}, wrS n v k l off f → RelL G γ l cs →
    ∃ l' p old q, f l' ∧ cs = p ++ (old ++ q) ∧ p.length = off ∧ old.length = n ∧ RelL G γ l' (p ++ (val.cells.toList ++ q))
  | 0, _, _, _, _, h, _ => by simp [wrS] at h
  | k + 1, l, off, f, cs, h, hr => by
    unfold wrS at h
    split at h
    · exact h.elim
    · rename_i p x q o hs
      obtain ⟨rfl, rfl, ho⟩ := seek_spec hs
      obtain ⟨c1, d, rfl, h1, c2, c3, rfl, h2, h3⟩ := RelL.append_inv hr
      have hl1 := RelL.length h1
      have hl2 := LV.rel_length h2
      cases hb1 : o == 0 && x.size == n
      · rw [hb1, cond_false] at h
        cases hb2 : o == 0 && decide (x.size < n)
        · rw [hb2, cond_false] at h
          split at h
          · rename_i len sz ha
            cases hb3 : decide (o / sz < len)
            · rw [hb3] at h; exact h.elim
            · rw [hb3, cond_true] at h
              have hi : o / sz < len := of_decide_eq_true hb3
              obtain ⟨p', c, q', e, hp', hc, hl, hset⟩ := LV.elem_spec ha h2 hi
              obtain ⟨l', p2, old, q2, hf, e2, hp2, ho2, hr2⟩ := wrS_spec hvl hn h (RelL.one hl)
              obtain ⟨y, hy, hry⟩ := hset hf (rel_agg hr2)
              refine ⟨_, c1 ++ (p' ++ p2), old, q2 ++ (q' ++ c3), hy, by rw [e, e2]; simp only [List.append_assoc], ?_, ho2, ?_⟩
              · have := Nat.div_add_mod' o sz
                simp only [List.length_append]; omega
              · have := RelL.append h1 (RelL.cons hry h3)
                simpa only [List.append_assoc, Value.cells, List.toList_toArray] using this
          · obtain ⟨l', p2, old, q2, hf, e2, hp2, ho2, hr2⟩ := wrS_spec hvl hn h (LV.explode_rel h2)
            refine ⟨_, c1 ++ p2, old, q2 ++ c3, hf, by rw [e2]; simp only [List.append_assoc], by simp only [List.length_append]; omega, ho2, ?_⟩
            have := RelL.append h1 (RelL.append hr2 h3)
            simpa only [List.append_assoc] using this
        · rw [hb2, cond_true] at h
          simp only [Bool.and_eq_true] at hb2
          have ho0 : o = 0 := eq_of_beq hb2.1
          split at h
          · rename_i m q' hm
            obtain ⟨em, sm⟩ := takeN_spec hm
            have hx : RelL G γ (m ++ q') (c2 ++ c3) := em ▸ RelL.cons h2 h3
            obtain ⟨es, d', e, hm', hq'⟩ := RelL.append_inv hx
            exact ⟨_, c1, es, d', h, by rw [e], by omega, by rw [RelL.length hm', sm], RelL.append h1 (RelL.append hvl hq')⟩
          · exact h.elim
      · rw [hb1, cond_true] at h
        simp only [Bool.and_eq_true] at hb1
        have ho0 : o = 0 := eq_of_beq hb1.1
        have hxn : x.size = n := eq_of_beq hb1.2
        exact ⟨_, c1, c2, c3, h, rfl, by omega, by omega, RelL.append h1 (RelL.append hvl h3)⟩

def LV.isArr (x : LV) (sz : Nat) : Bool := match x.arrOf with
  | some (_, n) => n == sz
  | none => false
/-- The array that begins at a place. -/
def seekA (sz : Nat) : Nat → List LV → Nat → Option (List LV × LV × List LV)
  | 0, _, _ => none
  | k + 1, l, b => match seek l b with
    | none => none
    | some (p, x, q, o) => bif o == 0 && x.isArr sz then some (p, x, q)
      else match seekA sz k x.explode o with
        | some (p', y, q') => some (p ++ p', y, q' ++ q)
        | none => none

theorem seekA_spec {sz : Nat} {G : Hp} {γ : Nat → Value} : ∀ {k : Nat} {l : List LV} {b : Nat} {p : List LV} {x : LV} {q : List LV} {cs : List Value}, seekA sz k l b = some (p, x, q) → RelL G γ l cs →
    RelL G γ (p ++ x :: q) cs ∧ sizeL p = b
  | 0, _, _, _, _, _, _, h, _ => by simp [seekA] at h
  | k + 1, l, b, p, x, q, cs, h, hr => by
    unfold seekA at h
    split at h
    · simp at h
    · rename_i p1 x1 q1 o hs
      obtain ⟨rfl, rfl, ho⟩ := seek_spec hs
      rw [cond_eq_ite] at h
      split at h
      · rename_i hb
        simp only [Option.some.injEq, Prod.mk.injEq] at h
        obtain ⟨rfl, rfl, rfl⟩ := h
        simp only [Bool.and_eq_true] at hb
        have ho0 : o = 0 := eq_of_beq hb.1
        exact ⟨hr, by omega⟩
      · split at h
        · rename_i p' y q' hs'
          simp only [Option.some.injEq, Prod.mk.injEq] at h
          obtain ⟨rfl, rfl, rfl⟩ := h
          obtain ⟨c1, d, rfl, h1, c2, c3, rfl, h2, h3⟩ := RelL.append_inv hr
          obtain ⟨h4, h5⟩ := seekA_spec hs' (LV.explode_rel h2)
          refine ⟨?_, by rw [sizeL_append, h5]⟩
          have := RelL.append h1 (RelL.append h4 h3)
          simpa only [List.append_assoc, List.cons_append] using this
        · simp at h

/-- What stands at the end of a way, read. -/
def rdP (n : Nat) (ag : Bool) : Path → List LV → Nat → (SV → Prop) → Prop
  | [], l, off, f => match rdS n ag 9 l off with
    | some v => f v
    | none => False
  | (b, sz, i) :: p, l, off, f => match seekA sz 9 l b with
    | some (_, x, _) => (match x.arrOf with
      | some (len, sz') => sz' = sz ∧ i.toNat < len ∧ rdP n ag p [x.elemLV i.toNat] off f
      | none => False)
    | none => False
/-- What stands at the end of a way, written. -/
def wrP (n : Nat) (v : SV) : Path → List LV → Nat → (List LV → Prop) → Prop
  | [], l, off, f => wrS n v 9 l off f
  | (b, sz, i) :: p, l, off, f => match seekA sz 9 l b with
    | some (p1, x, q1) => (match x.arrOf with
      | some (len, sz') => sz' = sz ∧ i.toNat < len ∧ wrP n v p [x.elemLV i.toNat] off fun l' => x.setElem i.toNat (.agg l') fun y => f (p1 ++ y :: q1)
      | none => False)
    | none => False

theorem rdP_spec {G : Hp} {γ : Nat → Value} {n : Nat} {ag : Bool} : ∀ {path : Path} {l : List LV} {off : Nat} {f : SV → Prop} {cs : List Value}, rdP n ag path l off f → RelL G γ l cs →
    ∃ v p es q, f v ∧ cs = p ++ (es ++ q) ∧ p.length = poff path off ∧ Gives G γ n ag v es
  | [], l, off, f, cs, h, hr => by
    unfold rdP at h
    split at h
    · rename_i v hv
      obtain ⟨p, es, q, e, hp, hg⟩ := rdS_spec hv hr
      exact ⟨v, p, es, q, h, e, hp, hg⟩
    · exact h.elim
  | (b, sz, i) :: path, l, off, f, cs, h, hr => by
    unfold rdP at h
    split at h
    · rename_i p1 x q1 hs
      obtain ⟨hr, hb⟩ := seekA_spec hs hr
      obtain ⟨c1, d, rfl, h1, c2, c3, rfl, h2, h3⟩ := RelL.append_inv hr
      split at h
      · rename_i len sz' ha
        obtain ⟨rfl, hi, h⟩ := h
        obtain ⟨p', c, q', e, hp', hc, hl, _⟩ := LV.elem_spec ha h2 hi
        obtain ⟨v, p2, es, q2, hf, e2, hp2, hg⟩ := rdP_spec h (RelL.one hl)
        refine ⟨v, c1 ++ (p' ++ p2), es, q2 ++ (q' ++ c3), hf, by rw [e, e2]; simp only [List.append_assoc], ?_, hg⟩
        have := RelL.length h1
        simp only [List.length_append, poff]; omega
      · exact h.elim
    · exact h.elim

theorem wrP_spec {G : Hp} {γ : Nat → Value} {n : Nat} {v : SV} {val : Value} (hvl : RelL G γ v.leaves val.cells.toList) (hn : sizeL v.leaves = n) :
    ∀ {path : Path} {l : List LV} {off : Nat} {f : List LV → Prop} {cs : List Value}, wrP n v path l off f → RelL G γ l cs →
    ∃ l' p old q, f l' ∧ cs = p ++ (old ++ q) ∧ p.length = poff path off ∧ old.length = n ∧ RelL G γ l' (p ++ (val.cells.toList ++ q))
  | [], l, off, f, cs, h, hr => by
    unfold wrP at h
    exact wrS_spec hvl hn h hr
  | (b, sz, i) :: path, l, off, f, cs, h, hr => by
    unfold wrP at h
    split at h
    · rename_i p1 x q1 hs
      obtain ⟨hr, hb⟩ := seekA_spec hs hr
      obtain ⟨c1, d, rfl, h1, c2, c3, rfl, h2, h3⟩ := RelL.append_inv hr
      split at h
      · rename_i len sz' ha
        obtain ⟨rfl, hi, h⟩ := h
        obtain ⟨p', c, q', e, hp', hc, hl, hset⟩ := LV.elem_spec ha h2 hi
        obtain ⟨l', p2, old, q2, hf, e2, hp2, ho2, hr2⟩ := wrP_spec hvl hn h (RelL.one hl)
        obtain ⟨y, hy, hry⟩ := hset hf (rel_agg hr2)
        refine ⟨_, c1 ++ (p' ++ p2), old, q2 ++ (q' ++ c3), hy, by rw [e, e2]; simp only [List.append_assoc], ?_, ho2, ?_⟩
        · have := RelL.length h1
          simp only [List.length_append, poff]; omega
        · have := RelL.append h1 (RelL.cons hry h3)
          simpa only [List.append_assoc, Value.cells, List.toList_toArray] using this
      · exact h.elim
    · exact h.elim
end Go.Proofs.Ytnmjcdlgfimnaaa
