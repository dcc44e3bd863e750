/- When a real state is a symbolic one; the ways in which a world turns. -/
import Derived.Test.YtnmjcdlgfimnaaaFb
namespace Go.Proofs.Ytnmjcdlgfimnaaa

/-- What is not the call's: memory that it leaves alone, and the outside. -/
structure Fr where
  hp : Hp
  os : Os
  out : Array (Nat × ByteArray)
  pin : Nat → Option Value

structure Ok (w : World) (G : Hp) (R : Fr) (ids : List Nat) (fr : Nat → Hp) : Prop where
  g : Hp.le G (hpOf w)
  r : Hp.le R.hp (hpOf w)
  gr : ∀ b, G b ≠ none → R.hp b = none
  f : ∀ i ∈ ids, Hp.le (fr i) (hpOf w)
  gf : ∀ i ∈ ids, ∀ b, fr i b ≠ none → G b = none
  rf : ∀ i ∈ ids, ∀ b, fr i b ≠ none → R.hp b = none
  ff : ∀ i ∈ ids, ∀ j ∈ ids, i ≠ j → ∀ b, fr i b ≠ none → fr j b = none
  os : w.os = R.os
  out : w.output = R.out

/-- The entry of a key. -/
def isKey (k : Int) (e : MapEntry) : Bool := match e.key with
  | .int _ n => k == n
  | _ => false
/-- A map from numbers to rows: what each key leads to. -/
def MapIs (es : Array MapEntry) (V : Int → Value) : Prop :=
  (∀ e ∈ es.toList, ∃ k, e.key = .int .i64 k) ∧ ∀ k, V k = ((es.toList.find? (isKey k)).map (·.val)).getD (.slice none 0 0)
/-- A row that lies in memory of its own. -/
def RowAt {α : Type} (R : Rep α) (G : Hp) (l : List α) (v : Value) (f : Hp) : Prop :=
  (∃ b t es sp c, v = .slice (some ⟨b, 0, none⟩) l.length c ∧ f = sng b (.cells (es ++ sp).toArray t (0, 0)) ∧ EncL (fun x c => R.enc G x c) l es ∧
      l.length ≤ c ∧ c ≤ mxL ∧ sp.length = (c - l.length) * R.size) ∨ (l = [] ∧ (∃ a, v = .slice a 0 0) ∧ f = emp)
theorem RowAt.mono {α : Type} {R : Rep α} {G G' : Hp} (hg : Hp.le G G') {l : List α} {v : Value} {f : Hp} (h : RowAt R G l v f) : RowAt R G' l v f := by
  rcases h with ⟨b, t, es, sp, c, e, ef, hl, hn, hs⟩ | h
  · exact .inl ⟨b, t, es, sp, c, e, ef, EncL.mono (fun _ _ h => R.enc_mono hg h) hl, hn, hs⟩
  · exact .inr h
def MprAt {α : Type} (A : Rep α) (M : Int → List α) (V : Int → Value) (dk : Option Int) (G : Hp) (v : Value) (f : Hp) : Prop :=
  ∃ r es clock, ∃ F : Int → Hp, v = .map (some r) ∧ MapIs es V ∧ (∀ k, F k r = none) ∧ (∀ b o, f b = some o ↔ (b = r ∧ o = .map es clock) ∨ ∃ k, F k b = some o) ∧
    (∀ k k' b, k ≠ k' → F k b ≠ none → F k' b = none) ∧ (∀ k, dk ≠ some k → RowAt A G (M k) (V k) (F k)) ∧ (∀ k, dk = some k → F k = emp)
theorem MprAt.mono {α : Type} {A : Rep α} {M : Int → List α} {V : Int → Value} {dk : Option Int} {G G' : Hp} (hg : Hp.le G G') {v : Value} {f : Hp} (h : MprAt A M V dk G v f) : MprAt A M V dk G' v f := by
  obtain ⟨r, es, clock, F, h1, h2, h3, h4, h5, h6, h7⟩ := h
  exact ⟨r, es, clock, F, h1, h2, h3, h4, h5, fun k hk => (h6 k hk).mono hg, h7⟩
def Box.at (G : Hp) (γ : Nat → Value) : Box → Value → Hp → Prop
  | .segs l, v, f => ∃ b t cs, v = .pointer (some ⟨b, 0, none⟩) ∧ f = sng b (.cells cs.toArray t (0, 0)) ∧ RelL G γ l cs
  | .arr R l, v, f => (∃ b t es sp c, v = .slice (some ⟨b, 0, none⟩) l.length c ∧ f = sng b (.cells (es ++ sp).toArray t (0, 0)) ∧ EncL (fun x c => R.enc G x c) l es ∧
      l.length ≤ c ∧ c ≤ mxL ∧ sp.length = (c - l.length) * R.size) ∨ (l = [] ∧ (∃ a, v = .slice a 0 0) ∧ f = emp)
  | .sarr n l, v, f => ∃ b t es sp c, v = .slice (some ⟨b, 0, none⟩) n c ∧ f = sng b (.cells (es ++ sp).toArray t (0, 0)) ∧ RelL G γ l es ∧ n ≤ c ∧ c ≤ mxL
  | .obj O D, v, f => (O D).P G v f
  | .mpr A M V dead, v, f => MprAt A M V (dead.map (·.1)) G v f ∧ ∀ k i, dead = some (k, some i) → γ i = V k

def Box.ids : Box → List Nat
  | .segs l => idsL l
  | .sarr _ l => idsL l
  | .mpr _ _ _ (some (_, some i)) => [i]
  | _ => []

theorem Box.at_mono {G G' : Hp} {γ : Nat → Value} (hg : Hp.le G G') {x : Box} {v : Value} {f : Hp} (h : x.at G γ v f) : x.at G' γ v f := by
  cases x with
  | segs l => obtain ⟨b, t, cs, e, ef, hl⟩ := h; exact ⟨b, t, cs, e, ef, hl.mono hg⟩
  | arr R l =>
    rcases h with ⟨b, t, es, sp, c, e, ef, hl, hn, hs⟩ | h
    · exact .inl ⟨b, t, es, sp, c, e, ef, EncL.mono (fun _ _ h => R.enc_mono hg h) hl, hn, hs⟩
    · exact .inr h
  | sarr n l => obtain ⟨b, t, es, sp, c, e, ef, hl, hn⟩ := h; exact ⟨b, t, es, sp, c, e, ef, hl.mono hg, hn⟩
  | obj O D => exact (O D).mono hg h
  | mpr A M V dead => exact ⟨h.1.mono hg, h.2⟩
theorem Box.at_congr {G : Hp} {γ γ' : Nat → Value} {x : Box} {v : Value} {f : Hp} (hi : ∀ i ∈ x.ids, γ' i = γ i) (h : x.at G γ v f) : x.at G γ' v f := by
  cases x with
  | segs l => obtain ⟨b, t, cs, e, ef, hl⟩ := h; exact ⟨b, t, cs, e, ef, hl.congr hi⟩
  | arr R l => exact h
  | sarr n l => obtain ⟨b, t, es, sp, c, e, ef, hl, hn⟩ := h; exact ⟨b, t, es, sp, c, e, ef, hl.congr hi, hn⟩
  | obj O D => exact h
  | mpr A M V dead => exact ⟨h.1, fun k i hd => by subst hd; rw [hi i (by simp [ids])]; exact h.2 k i rfl⟩

def idsM (mem : List (Nat × Box)) : List Nat := mem.map (·.1)

structure MemF (R : Fr) (G : Hp) (γ : Nat → Value) (fr : Nat → Hp) (mem : List (Nat × Box)) (w : World) : Prop where
  nd : (idsM mem).Nodup
  pin : ∀ i v, R.pin i = some v → γ i = v
  at' : ∀ e ∈ mem, e.2.at G γ (γ e.1) (fr e.1)
  ok : Ok w G R (idsM mem) fr
def MemAt (R : Fr) (G : Hp) (γ : Nat → Value) (mem : List (Nat × Box)) (w : World) : Prop := ∃ fr, MemF R G γ fr mem w

/-- Less is told of the same memory. -/
theorem Ok.sub {w : World} {G : Hp} {R : Fr} {ids ids' : List Nat} {fr : Nat → Hp} (h : Ok w G R ids fr) (hs : ∀ i ∈ ids', i ∈ ids) : Ok w G R ids' fr :=
  ⟨h.g, h.r, h.gr, fun i hi => h.f i (hs i hi), fun i hi => h.gf i (hs i hi), fun i hi => h.rf i (hs i hi), fun i hi j hj => h.ff i (hs i hi) j (hs j hj), h.os, h.out⟩

theorem MemAt.sub {R : Fr} {G : Hp} {γ : Nat → Value} {mem mem' : List (Nat × Box)} {w : World} (h : MemAt R G γ mem w) (hn : (idsM mem').Nodup) (hs : ∀ e ∈ mem', e ∈ mem) : MemAt R G γ mem' w := by
  obtain ⟨fr, _, hp, hb, hok⟩ := h
  refine ⟨fr, hn, hp, fun e he => hb e (hs e he), hok.sub ?_⟩
  intro i hi
  obtain ⟨e, he, rfl⟩ := List.mem_map.1 hi
  exact List.mem_map.2 ⟨e, hs e he, rfl⟩

theorem size_of_hp {w : World} {b : Nat} {o : Obj} (h : w.heap[b]? = some o) : b < w.heap.size := by
  rcases Nat.lt_or_ge b w.heap.size with h' | h'
  · exact h'
  · simp [Array.getElem?_eq_none h'] at h

/-- A world with one block more. -/
def wpush (w : World) (o : Obj) : World := { w with heap := w.heap.push o }
theorem hpOf_push {w : World} {o : Obj} : Hp.le (hpOf w) (hpOf (wpush w o)) := by
  intro b x h
  have := size_of_hp h
  simp only [hpOf, wpush] at h ⊢
  rw [Array.getElem?_push_lt this]
  rw [Array.getElem?_eq_getElem this] at h
  exact h
theorem hpOf_push_new {w : World} {o : Obj} : hpOf (wpush w o) w.heap.size = some o := by simp [hpOf, wpush]

/-- A world with a block written anew. -/
def wset (w : World) (b : Nat) (o : Obj) : World := { w with heap := w.heap.setIfInBounds b o }
theorem hpOf_set_ne {w : World} {b j : Nat} {o : Obj} (h : j ≠ b) : hpOf (wset w b o) j = hpOf w j := by
  simp only [hpOf, wset]
  rw [Array.getElem?_setIfInBounds_ne (Ne.symm h)]
theorem hpOf_set_same {w : World} {b : Nat} {o o' : Obj} (h : hpOf w b = some o') : hpOf (wset w b o) b = some o := by
  have := size_of_hp h
  simp [hpOf, wset, this]

theorem Ok.fresh {w : World} {G : Hp} {R : Fr} {ids : List Nat} {fr : Nat → Hp} (h : Ok w G R ids fr) :
    G w.heap.size = none ∧ R.hp w.heap.size = none ∧ ∀ i ∈ ids, fr i w.heap.size = none := by
  have key : ∀ H : Hp, Hp.le H (hpOf w) → H w.heap.size = none := by
    intro H hH
    cases hx : H w.heap.size with
    | none => rfl
    | some o => exact absurd (size_of_hp (hH _ _ hx)) (Nat.lt_irrefl _)
  exact ⟨key _ h.g, key _ h.r, fun i hi => key _ (h.f i hi)⟩

def updG (γ : Nat → Value) (id : Nat) (v : Value) : Nat → Value := fun i => if i = id then v else γ i
def updF (fr : Nat → Hp) (id : Nat) (f : Hp) : Nat → Hp := fun i => if i = id then f else fr i
theorem updG_same {γ : Nat → Value} {id : Nat} {v : Value} : updG γ id v id = v := by simp [updG]
theorem updG_ne {γ : Nat → Value} {id i : Nat} {v : Value} (h : i ≠ id) : updG γ id v i = γ i := by simp [updG, h]
theorem updF_same {fr : Nat → Hp} {id : Nat} {f : Hp} : updF fr id f id = f := by simp [updF]
theorem updF_ne {fr : Nat → Hp} {id i : Nat} {f : Hp} (h : i ≠ id) : updF fr id f i = fr i := by simp [updF, h]
theorem sng_some {b j : Nat} {o : Obj} (h : sng b o j ≠ none) : j = b := by
  unfold sng at h
  by_cases e : j = b
  · exact e
  · simp [e] at h
theorem sng_eq {b j : Nat} {o x : Obj} (h : sng b o j = some x) : j = b ∧ x = o := by
  unfold sng at h
  by_cases e : j = b
  · simp [e] at h; exact ⟨e, h.symm⟩
  · simp [e] at h

/-- A new block, that is the call's. -/
theorem Ok.push {w : World} {G : Hp} {R : Fr} {ids : List Nat} {fr : Nat → Hp} (h : Ok w G R ids fr) {id : Nat} (hid : id ∉ ids) (o : Obj) :
    Ok (wpush w o) G R (id :: ids) (updF fr id (sng w.heap.size o)) := by
  obtain ⟨fg, frr, ff⟩ := h.fresh
  have ne : ∀ i ∈ ids, i ≠ id := fun i hi e => hid (e ▸ hi)
  refine ⟨Hp.le_trans h.g hpOf_push, Hp.le_trans h.r hpOf_push, h.gr, ?_, ?_, ?_, ?_, h.os, h.out⟩
  · intro i hi
    rcases List.mem_cons.1 hi with rfl | hi
    · intro b x hx
      rw [updF_same] at hx
      obtain ⟨rfl, rfl⟩ := sng_eq hx
      exact hpOf_push_new
    · rw [updF_ne (ne i hi)]; exact Hp.le_trans (h.f i hi) hpOf_push
  · intro i hi b hb
    rcases List.mem_cons.1 hi with rfl | hi
    · rw [updF_same] at hb; rw [sng_some hb]; exact fg
    · rw [updF_ne (ne i hi)] at hb; exact h.gf i hi b hb
  · intro i hi b hb
    rcases List.mem_cons.1 hi with rfl | hi
    · rw [updF_same] at hb; rw [sng_some hb]; exact frr
    · rw [updF_ne (ne i hi)] at hb; exact h.rf i hi b hb
  · intro i hi j hj hij b hb
    rcases List.mem_cons.1 hi with ei | hi' <;> rcases List.mem_cons.1 hj with ej | hj'
    · exact absurd (ei.trans ej.symm) hij
    · rw [ei, updF_same] at hb; rw [updF_ne (ne j hj'), sng_some hb]; exact ff j hj'
    · rw [updF_ne (ne i hi')] at hb
      rw [ej, updF_same]
      cases hx : sng w.heap.size o b with
      | none => rfl
      | some x =>
        obtain ⟨rfl, _⟩ := sng_eq hx
        exact absurd (ff i hi') hb
    · rw [updF_ne (ne i hi')] at hb; rw [updF_ne (ne j hj')]; exact h.ff i hi' j hj' hij b hb

/-- A block of the call's is written anew. -/
theorem Ok.set {w : World} {G : Hp} {R : Fr} {ids : List Nat} {fr : Nat → Hp} (h : Ok w G R ids fr) {id : Nat} (hid : id ∈ ids) {b : Nat} {o : Obj} (hf : fr id = sng b o) (o' : Obj) :
    Ok (wset w b o') G R ids (updF fr id (sng b o')) := by
  have hb : fr id b ≠ none := by rw [hf]; simp [sng]
  have hw : hpOf w b = some o := h.f id hid b o (by rw [hf]; simp [sng])
  have keep : ∀ H : Hp, Hp.le H (hpOf w) → H b = none → Hp.le H (hpOf (wset w b o')) := by
    intro H hH hn j x hx
    have : j ≠ b := fun e => by rw [e, hn] at hx; exact absurd hx (by simp)
    rw [hpOf_set_ne this]; exact hH j x hx
  have nb : ∀ i ∈ ids, i ≠ id → fr i b = none := fun i hi hne => h.ff id hid i hi (Ne.symm hne) b hb
  refine ⟨keep _ h.g (h.gf id hid b hb), keep _ h.r (h.rf id hid b hb), h.gr, ?_, ?_, ?_, ?_, h.os, h.out⟩
  · intro i hi
    by_cases e : i = id
    · subst e
      intro j x hx
      rw [updF_same] at hx
      obtain ⟨rfl, rfl⟩ := sng_eq hx
      exact hpOf_set_same hw
    · rw [updF_ne e]; exact keep _ (h.f i hi) (nb i hi e)
  · intro i hi j hj
    by_cases e : i = id
    · subst e; rw [updF_same] at hj; rw [sng_some hj]; exact h.gf i hi b hb
    · rw [updF_ne e] at hj; exact h.gf i hi j hj
  · intro i hi j hj
    by_cases e : i = id
    · subst e; rw [updF_same] at hj; rw [sng_some hj]; exact h.rf i hi b hb
    · rw [updF_ne e] at hj; exact h.rf i hi j hj
  · intro i hi j hj hij x hx
    by_cases e : i = id
    · subst e
      rw [updF_same] at hx
      rw [updF_ne (Ne.symm hij), sng_some hx]
      exact nb j hj (Ne.symm hij)
    · rw [updF_ne e] at hx
      by_cases e' : j = id
      · subst e'
        rw [updF_same]
        cases hs : sng b o' x with
        | none => rfl
        | some y =>
          obtain ⟨rfl, _⟩ := sng_eq hs
          exact absurd (nb i hi e) hx
      · rw [updF_ne e']; exact h.ff i hi j hj hij x hx

/-- A drawn answer turns nothing. -/
theorem Ok.drew {w : World} {G : Hp} {R : Fr} {ids : List Nat} {fr : Nat → Hp} (h : Ok w G R ids fr) (n : Nat) : Ok { w with drawn := n } G R ids fr :=
  ⟨h.g, h.r, h.gr, h.f, h.gf, h.rf, h.ff, h.os, h.out⟩

/-- What is the call's own never changes any more from here on. -/
theorem Ok.freeze {w : World} {G : Hp} {R : Fr} {ids : List Nat} {fr : Nat → Hp} (h : Ok w G R ids fr) {id : Nat} (hid : id ∈ ids) :
    Ok w (fun b => (G b).or (fr id b)) R (ids.filter (· ≠ id)) fr := by
  have sub : ∀ i ∈ ids.filter (· ≠ id), i ∈ ids ∧ i ≠ id := fun i hi => by simpa using hi
  refine ⟨?_, h.r, ?_, fun i hi => h.f i (sub i hi).1, ?_, fun i hi => h.rf i (sub i hi).1, fun i hi j hj => h.ff i (sub i hi).1 j (sub j hj).1, h.os, h.out⟩
  · intro b o hb
    cases hg : G b with
    | some x => simp [hg] at hb; subst hb; exact h.g b _ hg
    | none => simp [hg] at hb; exact h.f id hid b o hb
  · intro b hb
    cases hg : G b with
    | some x => exact h.gr b (by simp [hg])
    | none => simp only [hg, Option.none_or, ne_eq] at hb; exact h.rf id hid b hb
  · intro i hi b hb
    have h1 := h.gf i (sub i hi).1 b hb
    have h2 := h.ff i (sub i hi).1 id hid (sub i hi).2 b hb
    simp [h1, h2]
end Go.Proofs.Ytnmjcdlgfimnaaa
