/- A hidden store in a region that draws. -/
import Derived.Test.YtnmjcdlgfimnaaaFzd
namespace Go.Proofs.Ytnmjcdlgfimnaaa
theorem goS_hid' {E : Env} {ops : List Oper} {late Q : List Nat} {x y : Sch} {i : Nat} {e : Bool} {o : Oper} {sl : List (Nat × TV)} {mem : List (Nat × Box)} {pins : List Nat} {Z : SymSt → Prop}
    (hi : ops[i]? = some o) (hg : o.guard = none) (hd : o.dst = none) (he : (e || late.contains i) = false) (h2 : vcSch E ops late Q y e ⟨sl, mem, pins⟩ Z)
    (h : ∀ K' : KT, (∀ tv sl' mem' pins' m2, backOk Q mem' = true → mem' ++ keepM Q mem = m2 → vcSch E ops late Q x false ⟨sl', m2, pins⟩ Z → K' tv ⟨sl', mem', pins'⟩) → vcVal E o (SymSt.hide ⟨sl, mem, pins⟩ Q) K') : vcSch E ops late Q (.or i x y) e ⟨sl, mem, pins⟩ Z := by
  unfold vcSch vGuard
  rw [hi]
  simp only [hg, he, cond_false]
  refine ⟨h _ fun tv sl' mem' pins' m2 hb hm h => ?_, h2⟩
  subst hm
  rw [hd]; exact ⟨hb, h⟩
theorem goS_freet {E : Env} {ops : List Oper} {late Q : List Nat} {x : Sch} {i : Nat} {e : Bool} {o : Oper} {sl : List (Nat × TV)} {mem : List (Nat × Box)} {pins : List Nat} {Z : SymSt → Prop} {j d d' : Nat} {want : Bool}
    (hi : ops[i]? = some o) (hg : o.guard = some (j, want)) (hj : (ops[j]?).bind (·.dst) = some d') (hd : o.dst = some d) (hs : getS sl d' = .tup [])
    (h : vcSch E ops late Q x e ⟨(d, .tup []) :: sl, mem, pins⟩ Z) : vcSch E ops late Q (.free i x) e ⟨sl, mem, pins⟩ Z := by
  unfold vcSch vGuard
  rw [hi]
  simp only [hg, hj, hs]
  rw [hd]; exact h
theorem goS_freeb {E : Env} {ops : List Oper} {late Q : List Nat} {x : Sch} {i : Nat} {e : Bool} {o : Oper} {sl : List (Nat × TV)} {mem : List (Nat × Box)} {pins : List Nat} {Z : SymSt → Prop} {j d d' : Nat} {want b : Bool}
    (hi : ops[i]? = some o) (hg : o.guard = some (j, want)) (hj : (ops[j]?).bind (·.dst) = some d') (hd : o.dst = some d) (hs : getS sl d' = .one (.l (.bool b)))
    (h1 : b = want → ∀ K' : KT, (∀ tv s', vcSch E ops late Q x e ⟨(d, tv) :: (d', .one (.l (.bool want))) :: sl, mem, pins⟩ Z → K' tv s') → vqVal E.toCtx o ⟨(d', .one (.l (.bool want))) :: sl, mem, pins⟩ K')
    (h2 : b = !want → vcSch E ops late Q x e ⟨(d, .tup []) :: (d', .one (.l (.bool (!want)))) :: sl, mem, pins⟩ Z) : vcSch E ops late Q (.free i x) e ⟨sl, mem, pins⟩ Z := by
  unfold vcSch vGuard
  rw [hi]
  simp only [hg, hj, hs]
  refine ⟨fun hb => h1 hb _ fun tv s' h => ?_, fun hb => ?_⟩
  · rw [hd]; exact h
  · rw [hd]; exact h2 hb
theorem goS_hidt {E : Env} {ops : List Oper} {late Q : List Nat} {x y : Sch} {i : Nat} {e : Bool} {o : Oper} {sl : List (Nat × TV)} {mem : List (Nat × Box)} {pins : List Nat} {Z : SymSt → Prop} {j d d' : Nat} {want : Bool}
    (hi : ops[i]? = some o) (hg : o.guard = some (j, want)) (hj : (ops[j]?).bind (·.dst) = some d') (hd : o.dst = some d) (hs : getS sl d' = .tup [])
    (h : vcSch E ops late Q x (e || late.contains i) ⟨(d, .tup []) :: sl, mem, pins⟩ Z) (h3 : vcSch E ops late Q y e ⟨sl, mem, pins⟩ Z) : vcSch E ops late Q (.or i x y) e ⟨sl, mem, pins⟩ Z := by
  unfold vcSch vGuard
  rw [hi]
  simp only [hg, hj, hs]
  refine ⟨?_, h3⟩
  rw [hd]; exact h
theorem goS_hidb {E : Env} {ops : List Oper} {late Q : List Nat} {x y : Sch} {i : Nat} {e : Bool} {o : Oper} {sl : List (Nat × TV)} {mem : List (Nat × Box)} {pins : List Nat} {Z : SymSt → Prop} {j d d' : Nat} {want b : Bool}
    (hi : ops[i]? = some o) (hg : o.guard = some (j, want)) (hj : (ops[j]?).bind (·.dst) = some d') (hd : o.dst = some d) (he : (e || late.contains i) = false) (hs : getS sl d' = .one (.l (.bool b)))
    (h1 : b = want → ∀ K' : KT, (∀ tv sl' mem' pins' m2, backOk Q mem' = true → mem' ++ keepM Q mem = m2 → vcSch E ops late Q x false ⟨(d, tv) :: sl', m2, pins⟩ Z → K' tv ⟨sl', mem', pins'⟩) → vcVal E o (SymSt.hide ⟨(d', .one (.l (.bool want))) :: sl, mem, pins⟩ Q) K')
    (h2 : b = !want → vcSch E ops late Q x false ⟨(d, .tup []) :: (d', .one (.l (.bool (!want)))) :: sl, mem, pins⟩ Z)
    (h3 : vcSch E ops late Q y e ⟨sl, mem, pins⟩ Z) : vcSch E ops late Q (.or i x y) e ⟨sl, mem, pins⟩ Z := by
  unfold vcSch vGuard
  rw [hi]
  simp only [hg, hj, hs, he, cond_false]
  refine ⟨⟨fun hb => h1 hb _ fun tv sl' mem' pins' m2 hb' hm h => ?_, fun hb => ?_⟩, h3⟩
  · subst hm
    rw [hd]; exact ⟨hb', h⟩
  · rw [hd]; exact h2 hb
end Go.Proofs.Ytnmjcdlgfimnaaa
