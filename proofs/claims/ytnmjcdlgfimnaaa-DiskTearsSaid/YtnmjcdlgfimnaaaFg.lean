/- One operation of the program on a symbolic state: what must hold for it to run, and what it gives. -/
import Derived.Test.YtnmjcdlgfimnaaaFf
namespace Go.Proofs.Ytnmjcdlgfimnaaa

def getS : List (Nat × TV) → Nat → TV
  | [], _ => .one (.l .undef)
  | (j, v) :: r, i => bif j == i then v else getS r i

def LV.hasId (id : Nat) : LV → Bool
  | .own i => i == id
  | .ptr i _ _ => i == id
  | .view i _ _ _ _ _ => i == id
  | .clo _ caps => caps.contains id
  | .mp i => i == id
  | .ocut i _ => i == id
  | _ => false
def LV.kill (id : Nat) (x : LV) : LV := bif x.hasId id then .undef else x
def SV.kill (id : Nat) : SV → SV
  | .l x => .l (x.kill id)
  | .agg xs => .agg (xs.map (LV.kill id))
def TV.kill (id : Nat) : TV → TV
  | .one x => .one (x.kill id)
  | .tup xs => .tup (xs.map (SV.kill id))
def Box.kill (id : Nat) : Box → Box
  | .segs l => .segs (l.map (LV.kill id))
  | .sarr n l => .sarr n (l.map (LV.kill id))
  | .mpr A M V (some (k, some i)) => .mpr A M V (some (k, bif i == id then none else some i))
  | b => b
def killSl (id : Nat) : List (Nat × TV) → List (Nat × TV)
  | [] => []
  | (j, v) :: r => (j, v.kill id) :: killSl id r
def killMem (id : Nat) : List (Nat × Box) → List (Nat × Box)
  | [] => []
  | (j, b) :: r => bif j == id then killMem id r else (j, b.kill id) :: killMem id r
def getM : List (Nat × Box) → Nat → Option Box
  | [], _ => none
  | (j, b) :: r, i => bif j == i then some b else getM r i
def setM : List (Nat × Box) → Nat → Box → List (Nat × Box)
  | [], _, _ => []
  | (j, b) :: r, i, x => bif j == i then (j, x) :: r else (j, b) :: setM r i x

/-- A state with something new in it. -/
def SymSt.add (s : SymSt) (id : Nat) (b : Box) : SymSt := ⟨killSl id s.sl, (id, b.kill id) :: killMem id s.mem, s.pins⟩
def SymSt.put (s : SymSt) (d : Nat) (v : TV) : SymSt := ⟨(d, v) :: s.sl, s.mem, s.pins⟩
def SymSt.setBox (s : SymSt) (id : Nat) (b : Box) : SymSt := ⟨s.sl, setM s.mem id b, s.pins⟩

/-- What the slots hold. -/
def SlotsOk (G : Hp) (γ : Nat → Value) (sl : List (Nat × TV)) (ts : Array Value) : Prop := ∀ i, (getS sl i).rel G γ (ts.getD i undef)

structure Simm (R : Fr) (G : Hp) (γ : Nat → Value) (s : SymSt) (a : Act) (w : World) : Prop where
  sl : SlotsOk G γ s.sl a.tmps
  mem : MemAt R G γ s.mem w
  df : a.defers = []
  pn : ∀ i, R.pin i ≠ none → i ∈ s.pins

theorem LV.kill_rel {G : Hp} {γ γ' : Nat → Value} {id : Nat} (hγ : ∀ i, i ≠ id → γ' i = γ i) {x : LV} {cs : List Value} (h : x.rel G γ cs) : (x.kill id).rel G γ' cs := by
  unfold LV.kill
  cases hh : x.hasId id
  · refine LV.rel_congr (fun i hi => hγ i ?_) h
    rintro rfl
    cases x <;> simp_all [LV.ids, LV.hasId]
  · have hl := LV.rel_length h
    have hp := LV.rel_plain h
    have h1 : x.size = 1 := by cases x <;> simp_all [LV.hasId, LV.size]
    rw [h1] at hl
    match cs, hl with
    | [c], _ => exact ⟨c, rfl, hp c (by simp)⟩
theorem RelL.kill {G : Hp} {γ γ' : Nat → Value} {id : Nat} (hγ : ∀ i, i ≠ id → γ' i = γ i) : ∀ {l : List LV} {cs : List Value}, RelL G γ l cs → RelL G γ' (l.map (LV.kill id)) cs
  | [], _, h => h
  | _ :: _, _, ⟨c, d, e, hx, hl⟩ => ⟨c, d, e, LV.kill_rel hγ hx, RelL.kill hγ hl⟩
theorem LV.kill_relV {G : Hp} {γ γ' : Nat → Value} {id : Nat} (hγ : ∀ i, i ≠ id → γ' i = γ i) {x : LV} {v : Value} (h : x.relV G γ v) : (x.kill id).relV G γ' v := by
  unfold LV.kill
  cases hh : x.hasId id
  · refine LV.relV_congr (fun i hi => hγ i ?_) h
    rintro rfl
    cases x <;> simp_all [LV.ids, LV.hasId]
  · trivial
theorem SV.kill_rel {G : Hp} {γ γ' : Nat → Value} {id : Nat} (hγ : ∀ i, i ≠ id → γ' i = γ i) {x : SV} {v : Value} (h : x.rel G γ v) : (x.kill id).rel G γ' v := by
  cases x with
  | l x => exact LV.kill_relV hγ h
  | agg xs => obtain ⟨cs, hc, e⟩ := h; exact ⟨cs, hc.kill hγ, e⟩
theorem RelV.kill {G : Hp} {γ γ' : Nat → Value} {id : Nat} (hγ : ∀ i, i ≠ id → γ' i = γ i) : ∀ {xs : List SV} {vs : List Value}, RelV G γ xs vs → RelV G γ' (xs.map (SV.kill id)) vs
  | [], _, h => h
  | _ :: _, _, ⟨v, r, e, hx, hr⟩ => ⟨v, r, e, SV.kill_rel hγ hx, RelV.kill hγ hr⟩
theorem TV.kill_rel {G : Hp} {γ γ' : Nat → Value} {id : Nat} (hγ : ∀ i, i ≠ id → γ' i = γ i) {x : TV} {v : Value} (h : x.rel G γ v) : (x.kill id).rel G γ' v := by
  cases x with
  | one x => exact SV.kill_rel hγ h
  | tup xs => obtain ⟨vs, hv, e⟩ := h; exact ⟨vs, hv.kill hγ, e⟩
theorem Box.kill_at {G : Hp} {γ γ' : Nat → Value} {id : Nat} (hγ : ∀ i, i ≠ id → γ' i = γ i) {x : Box} {v : Value} {f : Hp} (h : x.at G γ v f) : (x.kill id).at G γ' v f := by
  cases x with
  | segs l => obtain ⟨b, t, cs, e, ef, hl⟩ := h; exact ⟨b, t, cs, e, ef, hl.kill hγ⟩
  | arr R l => exact h
  | sarr n l => obtain ⟨b, t, es, sp, c, e, ef, hl, hn⟩ := h; exact ⟨b, t, es, sp, c, e, ef, hl.kill hγ, hn⟩
  | obj O D => exact h
  | mpr A M V dead =>
    rcases dead with _ | ⟨k, _ | i⟩
    · exact ⟨h.1, fun k i hd => by simp at hd⟩
    · exact ⟨h.1, fun k i hd => by simp at hd⟩
    · show Box.at G γ' (.mpr A M V (some (k, bif i == id then none else some i))) v f
      refine ⟨h.1, fun k' i' hd => ?_⟩
      cases e : (i == id)
      · rw [e] at hd
        simp only [cond_false, Option.some.injEq, Prod.mk.injEq] at hd
        obtain ⟨rfl, rfl⟩ := hd
        have : i ≠ id := by simpa using e
        rw [hγ i this]; exact h.2 k i rfl
      · rw [e] at hd; simp at hd

theorem getS_kill (id : Nat) : ∀ (sl : List (Nat × TV)) (i : Nat), getS (killSl id sl) i = (getS sl i).kill id
  | [], _ => rfl
  | (j, v) :: r, i => by
    unfold killSl getS
    cases h : (j == i)
    · exact getS_kill id r i
    · rfl
theorem killMem_mem {id : Nat} : ∀ {mem : List (Nat × Box)} {e : Nat × Box}, e ∈ killMem id mem → e.1 ≠ id ∧ ∃ b, (e.1, b) ∈ mem ∧ e.2 = b.kill id
  | [], _, h => by simp [killMem] at h
  | (j, b) :: r, e, h => by
    unfold killMem at h
    cases hj : (j == id)
    · rw [hj, cond_false, List.mem_cons] at h
      rcases h with rfl | h
      · exact ⟨by simpa using hj, b, by simp, rfl⟩
      · obtain ⟨h1, b', h2, h3⟩ := killMem_mem h
        exact ⟨h1, b', by simp [h2], h3⟩
    · rw [hj, cond_true] at h
      obtain ⟨h1, b', h2, h3⟩ := killMem_mem h
      exact ⟨h1, b', by simp [h2], h3⟩
theorem killMem_ids {id : Nat} : ∀ {mem : List (Nat × Box)}, (idsM mem).Nodup → (idsM (killMem id mem)).Nodup
  | [], _ => by simp [killMem, idsM]
  | (j, b) :: r, h => by
    simp only [idsM, List.map_cons, List.nodup_cons] at h
    unfold killMem
    cases hj : (j == id)
    · simp only [cond_false, idsM, List.map_cons, List.nodup_cons]
      refine ⟨fun hm => h.1 ?_, killMem_ids h.2⟩
      obtain ⟨e, he, rfl⟩ := List.mem_map.1 hm
      obtain ⟨_, b', h2, _⟩ := killMem_mem he
      exact List.mem_map.2 ⟨_, h2, rfl⟩
    · exact killMem_ids h.2

/-- Something new: one block more. -/
theorem MemAt.push {R : Fr} {G : Hp} {γ : Nat → Value} {mem : List (Nat × Box)} {w : World} (h : MemAt R G γ mem w) (id : Nat) (hpin : R.pin id = none) {b : Box} {v : Value} {o : Obj}
    (hb : b.at G γ v (sng w.heap.size o)) : MemAt R G (updG γ id v) ((id, b.kill id) :: killMem id mem) (wpush w o) := by
  obtain ⟨fr, hn, hp, hat, hok⟩ := h
  have hγ : ∀ i, i ≠ id → updG γ id v i = γ i := fun i hi => updG_ne hi
  have hsub : ∀ i ∈ idsM (killMem id mem), i ∈ idsM mem := by
    intro i hi
    obtain ⟨e, he, rfl⟩ := List.mem_map.1 hi
    obtain ⟨_, b', h2, _⟩ := killMem_mem he
    exact List.mem_map.2 ⟨_, h2, rfl⟩
  have hid : id ∉ idsM (killMem id mem) := by
    intro hi
    obtain ⟨e, he, rfl⟩ := List.mem_map.1 hi
    exact (killMem_mem he).1 rfl
  refine ⟨updF fr id (sng w.heap.size o), ?_, ?_, ?_, ?_⟩
  · simp only [idsM, List.map_cons, List.nodup_cons]
    exact ⟨hid, killMem_ids hn⟩
  · intro i v hi
    have : i ≠ id := by rintro rfl; rw [hpin] at hi; exact absurd hi (by simp)
    rw [updG_ne this]; exact hp i v hi
  · intro e he
    rcases List.mem_cons.1 he with rfl | he
    · simp only [updG_same, updF_same]
      exact Box.kill_at hγ hb
    · obtain ⟨hne, b', h2, h3⟩ := killMem_mem he
      rw [updG_ne hne, updF_ne hne, h3]
      exact Box.kill_at hγ (hat _ h2)
  · exact (hok.sub hsub).push hid o

theorem SlotsOk.kill {G : Hp} {γ γ' : Nat → Value} {id : Nat} (hγ : ∀ i, i ≠ id → γ' i = γ i) {sl : List (Nat × TV)} {ts : Array Value} (h : SlotsOk G γ sl ts) : SlotsOk G γ' (killSl id sl) ts := by
  intro i
  rw [getS_kill]
  exact TV.kill_rel hγ (h i)

def SymSt.room (s : SymSt) (d : Nat) : Prop := s.pins.contains d = false
theorem Simm.unpinned {R : Fr} {G : Hp} {γ : Nat → Value} {s : SymSt} {a : Act} {w : World} (h : Simm R G γ s a w) {id : Nat} (hr : s.room id) : R.pin id = none := by
  cases hp : R.pin id with
  | none => rfl
  | some v =>
    have := h.pn id (by simp [hp])
    simp only [SymSt.room, List.contains_eq_mem, decide_eq_false_iff_not] at hr
    exact absurd this hr
theorem Simm.push {R : Fr} {G : Hp} {γ : Nat → Value} {s : SymSt} {a : Act} {w : World} (h : Simm R G γ s a w) (id : Nat) (hr : s.room id) {b : Box} {v : Value} {o : Obj}
    (hb : b.at G γ v (sng w.heap.size o)) : Simm R G (updG γ id v) (s.add id b) a (wpush w o) :=
  ⟨h.sl.kill fun _ hi => updG_ne hi, h.mem.push id (h.unpinned hr) hb, h.df, h.pn⟩

theorem getM_mem : ∀ {mem : List (Nat × Box)} {id : Nat} {b : Box}, getM mem id = some b → (id, b) ∈ mem
  | [], _, _, h => by simp [getM] at h
  | (j, x) :: r, id, b, h => by
    unfold getM at h
    cases hj : (j == id)
    · rw [hj, cond_false] at h
      exact List.mem_cons.2 (.inr (getM_mem h))
    · rw [hj, cond_true] at h
      simp only [Option.some.injEq] at h
      subst h
      have : j = id := by simpa using hj
      subst this
      exact List.mem_cons.2 (.inl rfl)
theorem setM_ids : ∀ (mem : List (Nat × Box)) (id : Nat) (b : Box), idsM (setM mem id b) = idsM mem
  | [], _, _ => rfl
  | (j, x) :: r, id, b => by
    unfold setM
    cases hj : (j == id)
    · simp only [cond_false, idsM, List.map_cons]
      exact congrArg _ (setM_ids r id b)
    · rfl
theorem setM_mem : ∀ {mem : List (Nat × Box)} {id : Nat} {b : Box} {e : Nat × Box}, (idsM mem).Nodup → e ∈ setM mem id b → e = (id, b) ∨ (e ∈ mem ∧ e.1 ≠ id)
  | [], _, _, _, _, h => by simp [setM] at h
  | (j, x) :: r, id, b, e, hn, h => by
    simp only [idsM, List.map_cons, List.nodup_cons] at hn
    unfold setM at h
    cases hj : (j == id)
    · rw [hj, cond_false, List.mem_cons] at h
      rcases h with rfl | h
      · exact .inr ⟨by simp, by simpa using hj⟩
      · exact (setM_mem hn.2 h).imp (fun h => h) fun h => ⟨by simp [h.1], h.2⟩
    · rw [hj, cond_true, List.mem_cons] at h
      have e1 : j = id := by simpa using hj
      rcases h with rfl | h
      · exact .inl (by rw [e1])
      · refine .inr ⟨by simp [h], ?_⟩
        intro e2
        exact hn.1 (List.mem_map.2 ⟨e, h, by rw [e2, e1]⟩)

theorem MemAt.get {R : Fr} {G : Hp} {γ : Nat → Value} {mem : List (Nat × Box)} {w : World} (h : MemAt R G γ mem w) {id : Nat} {b : Box} (hm : getM mem id = some b) :
    ∃ f, b.at G γ (γ id) f ∧ Hp.le f (hpOf w) := by
  obtain ⟨fr, _, _, hat, hok⟩ := h
  have := getM_mem hm
  exact ⟨fr id, hat _ this, hok.f id (List.mem_map.2 ⟨_, this, rfl⟩)⟩

/-- A block of the call's is written anew. -/
theorem MemAt.put {R : Fr} {G : Hp} {γ : Nat → Value} {mem : List (Nat × Box)} {w : World} (h : MemAt R G γ mem w) {id : Nat} {b : Box} (hm : getM mem id = some b) :
    ∃ f, b.at G γ (γ id) f ∧ Hp.le f (hpOf w) ∧ ∀ {n : Nat} {o o' : Obj} {b' : Box}, f = sng n o → b'.at G γ (γ id) (sng n o') → MemAt R G γ (setM mem id b') (wset w n o') := by
  obtain ⟨fr, hn, hp, hat, hok⟩ := h
  have hmem := getM_mem hm
  have hid : id ∈ idsM mem := List.mem_map.2 ⟨_, hmem, rfl⟩
  refine ⟨fr id, hat _ hmem, hok.f id hid, ?_⟩
  intro n o o' b' hf hb'
  refine ⟨updF fr id (sng n o'), by rw [setM_ids]; exact hn, hp, ?_, by rw [setM_ids]; exact hok.set hid hf o'⟩
  intro e he
  rcases setM_mem hn he with rfl | ⟨he, hne⟩
  · simp only [updF_same]; exact hb'
  · rw [updF_ne hne]; exact hat e he
end Go.Proofs.Ytnmjcdlgfimnaaa
