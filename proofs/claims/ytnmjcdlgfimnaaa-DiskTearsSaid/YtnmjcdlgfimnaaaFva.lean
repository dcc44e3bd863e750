/- Regions that draw their order, on symbolic states: some memory is laid aside while an operation runs. -/
import Derived.Test.YtnmjcdlgfimnaaaFv
namespace Go.Proofs.Ytnmjcdlgfimnaaa

def hideM (Q : List Nat) : List (Nat × Box) → List (Nat × Box)
  | [] => []
  | (i, b) :: r => bif Q.contains i then hideM Q r else (i, b) :: hideM Q r
def keepM (Q : List Nat) : List (Nat × Box) → List (Nat × Box)
  | [] => []
  | (i, b) :: r => bif Q.contains i then (i, b) :: keepM Q r else keepM Q r
def memIds : List (Nat × Box) → List Nat
  | [] => []
  | (_, b) :: r => b.ids ++ memIds r
def SymSt.hide (s : SymSt) (Q : List Nat) : SymSt := ⟨s.sl, hideM Q s.mem, s.pins ++ (Q ++ memIds (keepM Q s.mem))⟩
def backOk (Q : List Nat) : List (Nat × Box) → Bool
  | [] => true
  | (i, _) :: r => !Q.contains i && backOk Q r
def SymSt.unhide (s' s : SymSt) (Q : List Nat) : SymSt := ⟨s'.sl, s'.mem ++ keepM Q s.mem, s.pins⟩

theorem hideM_mem {Q : List Nat} : ∀ {mem : List (Nat × Box)} {e : Nat × Box}, e ∈ hideM Q mem → e ∈ mem ∧ e.1 ∉ Q
  | [], _, h => by simp [hideM] at h
  | (i, b) :: r, e, h => by
    unfold hideM at h
    cases hc : Q.contains i
    · rw [hc, cond_false, List.mem_cons] at h
      rcases h with rfl | h
      · exact ⟨by simp, by simpa using hc⟩
      · exact ⟨by simp [(hideM_mem h).1], (hideM_mem h).2⟩
    · rw [hc, cond_true] at h
      exact ⟨by simp [(hideM_mem h).1], (hideM_mem h).2⟩
theorem keepM_mem {Q : List Nat} : ∀ {mem : List (Nat × Box)} {e : Nat × Box}, e ∈ keepM Q mem → e ∈ mem ∧ e.1 ∈ Q
  | [], _, h => by simp [keepM] at h
  | (i, b) :: r, e, h => by
    unfold keepM at h
    cases hc : Q.contains i
    · rw [hc, cond_false] at h
      exact ⟨by simp [(keepM_mem h).1], (keepM_mem h).2⟩
    · rw [hc, cond_true, List.mem_cons] at h
      rcases h with rfl | h
      · exact ⟨by simp, by simpa using hc⟩
      · exact ⟨by simp [(keepM_mem h).1], (keepM_mem h).2⟩
theorem hideM_nodup {Q : List Nat} : ∀ {mem : List (Nat × Box)}, (idsM mem).Nodup → (idsM (hideM Q mem)).Nodup
  | [], h => h
  | (i, b) :: r, h => by
    simp only [idsM, List.map_cons, List.nodup_cons] at h
    unfold hideM
    cases hc : Q.contains i
    · simp only [cond_false, idsM, List.map_cons, List.nodup_cons]
      refine ⟨fun hm => h.1 ?_, hideM_nodup h.2⟩
      obtain ⟨e, he, rfl⟩ := List.mem_map.1 hm
      exact List.mem_map.2 ⟨_, (hideM_mem he).1, rfl⟩
    · exact hideM_nodup h.2
theorem keepM_nodup {Q : List Nat} : ∀ {mem : List (Nat × Box)}, (idsM mem).Nodup → (idsM (keepM Q mem)).Nodup
  | [], h => h
  | (i, b) :: r, h => by
    simp only [idsM, List.map_cons, List.nodup_cons] at h
    unfold keepM
    cases hc : Q.contains i
    · exact keepM_nodup h.2
    · simp only [cond_true, idsM, List.map_cons, List.nodup_cons]
      refine ⟨fun hm => h.1 ?_, keepM_nodup h.2⟩
      obtain ⟨e, he, rfl⟩ := List.mem_map.1 hm
      exact List.mem_map.2 ⟨_, (keepM_mem he).1, rfl⟩
theorem backOk_spec {Q : List Nat} : ∀ {mem : List (Nat × Box)}, backOk Q mem = true → ∀ i ∈ idsM mem, i ∉ Q
  | [], _, _, h => by simp [idsM] at h
  | (j, b) :: r, h, i, hi => by
    simp only [backOk, Bool.and_eq_true, Bool.not_eq_true', List.contains_eq_mem, decide_eq_false_iff_not] at h
    simp only [idsM, List.map_cons, List.mem_cons] at hi
    rcases hi with rfl | hi
    · exact h.1
    · exact backOk_spec h.2 i hi
theorem memIds_mem : ∀ {mem : List (Nat × Box)} {e : Nat × Box}, e ∈ mem → ∀ i ∈ e.2.ids, i ∈ memIds mem
  | [], _, h, _, _ => by simp at h
  | (j, b) :: r, e, h, i, hi => by
    rcases List.mem_cons.1 h with rfl | h
    · exact List.mem_append.2 (.inl hi)
    · exact List.mem_append.2 (.inr (memIds_mem h i hi))

/-- Behind an operation, with what was laid aside as it was. -/
def AfterQ (R : Fr) (G : Hp) (fr : Nat → Hp) (keep : List Nat) (pins : List Nat) (a : Act) (K : KT) (v : Value) (w' : World) : Prop :=
  ∃ G' γ' tv s2 fr', Hp.le G G' ∧ K tv s2 ∧ tv.rel G' γ' v ∧ SlotsOk G' γ' s2.sl a.tmps ∧ MemF R G' γ' fr' s2.mem w' ∧ (∀ i ∈ keep, fr' i = fr i ∧ i ∈ idsM s2.mem) ∧ s2.pins = pins

theorem opSem_mono {P : Program} {ρ : Operand → Value} {o : Oper} {w : World} {K K' : Value → World → Prop} (h : opSem P ρ o w K) (hk : ∀ v w', K v w' → K' v w') : opSem P ρ o w K' := by
  unfold opSem at *
  generalize (execOp ρ o).run P w = r at *
  cases r with
  | ok n w' =>
    cases n
    case value v => exact hk _ _ h
    case skip => exact hk _ _ h
    case enter f args => exact Calls.mono h fun e w'' ⟨v, e1, h⟩ => ⟨v, e1, hk _ _ h⟩
    all_goals exact h.elim
  | halt x w' => exact h.elim

theorem hide_frame {P : Program} {o : Oper} {s : SymSt} {Q : List Nat} {K : KT} (h : Sound P o (s.hide Q) fun tv s' => backOk Q s'.mem = true ∧ K tv (s'.unhide s Q))
    {R : Fr} {G : Hp} {γ : Nat → Value} {fr : Nat → Hp} {a : Act} {w : World} (hs : SlotsOk G γ s.sl a.tmps) (hm : MemF R G γ fr s.mem w) (hdf : a.defers = []) (hpn : ∀ i, R.pin i ≠ none → i ∈ s.pins) :
    opSem P a.eval o w (AfterQ R G fr (idsM (keepM Q s.mem)) s.pins a K) := by
  classical
  let pn : List Nat := Q ++ memIds (keepM Q s.mem)
  let Rh : Hp := fun b => (R.hp b).or (if ∃ i ∈ idsM (keepM Q s.mem), fr i b ≠ none then hpOf w b else none)
  let R' : Fr := ⟨Rh, R.os, R.out, fun i => if i ∈ pn then some (γ i) else R.pin i⟩
  have hkin : ∀ i ∈ idsM (keepM Q s.mem), i ∈ idsM s.mem ∧ i ∈ Q := by
    intro i hi
    obtain ⟨e, he, rfl⟩ := List.mem_map.1 hi
    exact ⟨List.mem_map.2 ⟨_, (keepM_mem he).1, rfl⟩, (keepM_mem he).2⟩
  have hhin : ∀ i ∈ idsM (hideM Q s.mem), i ∈ idsM s.mem ∧ i ∉ Q := by
    intro i hi
    obtain ⟨e, he, rfl⟩ := List.mem_map.1 hi
    exact ⟨List.mem_map.2 ⟨_, (hideM_mem he).1, rfl⟩, (hideM_mem he).2⟩
  have hRR : Hp.le R.hp Rh := fun b o hb => by simp [Rh, hb]
  have hRQ : ∀ i ∈ idsM (keepM Q s.mem), Hp.le (fr i) Rh := by
    intro i hi b o hb
    have h1 : R.hp b = none := hm.ok.rf i (hkin i hi).1 b (by simp [hb])
    have h2 : ∃ i ∈ idsM (keepM Q s.mem), fr i b ≠ none := ⟨i, hi, by simp [hb]⟩
    simp only [Rh, h1, Option.none_or, if_pos h2]
    exact hm.ok.f i (hkin i hi).1 b o hb
  have hRcase : ∀ b, Rh b ≠ none → R.hp b ≠ none ∨ ∃ i ∈ idsM (keepM Q s.mem), fr i b ≠ none := by
    intro b hb
    by_cases h1 : R.hp b = none
    · right
      simp only [Rh, h1, Option.none_or] at hb
      split at hb
      · assumption
      · simp at hb
    · exact .inl h1
  have hnone : ∀ b, R.hp b = none → (∀ i ∈ idsM (keepM Q s.mem), fr i b = none) → Rh b = none := by
    intro b h1 h2
    cases hr : Rh b with
    | none => rfl
    | some o =>
      rcases hRcase b (by simp [hr]) with h | ⟨i, hi, h⟩
      · exact absurd h1 h
      · exact absurd (h2 i hi) h
  have hmem : MemF R' G γ fr (hideM Q s.mem) w := by
    refine ⟨hideM_nodup hm.nd, fun i v hi => ?_, fun e he => hm.at' e (hideM_mem he).1, ⟨hm.ok.g, fun b o hb => ?_, fun b hb => ?_, fun i hi => hm.ok.f i (hhin i hi).1, fun i hi => hm.ok.gf i (hhin i hi).1, fun i hi b hb => ?_, fun i hi j hj => hm.ok.ff i (hhin i hi).1 j (hhin j hj).1, hm.ok.os, hm.ok.out⟩⟩
    · simp only [R'] at hi
      split at hi
      · simpa using hi
      · exact hm.pin i v hi
    · by_cases h1 : R.hp b = none
      · have hb' : Rh b = some o := hb
        simp only [Rh, h1, Option.none_or] at hb'
        split at hb'
        · exact hb'
        · simp at hb'
      · obtain ⟨x, hx⟩ := Option.ne_none_iff_exists'.1 h1
        have hb' : Rh b = some o := hb
        simp only [Rh, hx, Option.some_or, Option.some.injEq] at hb'
        subst hb'
        exact hm.ok.r b _ hx
    · refine hnone b (hm.ok.gr b hb) fun i hi => ?_
      cases hf : fr i b with
      | none => rfl
      | some o => exact absurd (hm.ok.gf i (hkin i hi).1 b (by simp [hf])) hb
    · exact hnone b (hm.ok.rf i (hhin i hi).1 b hb) fun j hj => hm.ok.ff i (hhin i hi).1 j (hkin j hj).1 (fun e => (hhin i hi).2 (e ▸ (hkin j hj).2)) b hb
  have hpn' : ∀ i, R'.pin i ≠ none → i ∈ (s.hide Q).pins := by
    intro i hi
    simp only [R'] at hi
    split at hi
    · rename_i hin
      exact List.mem_append.2 (.inr hin)
    · exact List.mem_append.2 (.inl (hpn i hi))
  refine opSem_mono (h R' G γ a w ⟨hs, ⟨fr, hmem⟩, hdf, hpn'⟩) ?_
  rintro v w' ⟨G', γ', tv, s', hg, ⟨hback, hK⟩, hrel, hs'⟩
  obtain ⟨fr1, hm1⟩ := hs'.mem
  have hdis : ∀ i ∈ idsM (keepM Q s.mem), i ∉ idsM s'.mem := fun i hi hin => backOk_spec hback i hin (hkin i hi).2
  have hγ : ∀ i ∈ pn, γ' i = γ i := fun i hi => hm1.pin i _ (by simp only [R', if_pos hi])
  let fr' : Nat → Hp := fun i => if i ∈ idsM s'.mem then fr1 i else fr i
  have fr1' : ∀ i ∈ idsM s'.mem, fr' i = fr1 i := fun i hi => by simp only [fr', if_pos hi]
  have fr2' : ∀ i ∈ idsM (keepM Q s.mem), fr' i = fr i := fun i hi => by simp only [fr', if_neg (hdis i hi)]
  have hin : ∀ {k : Nat}, k ∈ idsM (s'.mem ++ keepM Q s.mem) → k ∈ idsM s'.mem ∨ k ∈ idsM (keepM Q s.mem) := by
    intro k hk
    simpa only [idsM, List.map_append, List.mem_append] using hk
  refine ⟨G', γ', tv, _, fr', hg, hK, hrel, hs'.sl, ⟨?_, ?_, ?_, ⟨hm1.ok.g, fun b o hb => hm1.ok.r b o (hRR b o hb), ?_, ?_, ?_, ?_, ?_, hm1.ok.os, hm1.ok.out⟩⟩, fun i hi => ⟨fr2' i hi, ?_⟩, rfl⟩
  · show (idsM (s'.mem ++ keepM Q s.mem)).Nodup
    simp only [idsM, List.map_append]
    rw [List.nodup_append]
    refine ⟨hm1.nd, keepM_nodup hm.nd, ?_⟩
    intro x hx y hy e
    subst e
    exact hdis x hy hx
  · intro i u hi
    by_cases hp : i ∈ pn
    · rw [hγ i hp]; exact hm.pin i u hi
    · exact hm1.pin i u (by simp only [R', if_neg hp]; exact hi)
  · intro e he
    rcases List.mem_append.1 he with he | he
    · rw [fr1' _ (List.mem_map.2 ⟨_, he, rfl⟩)]; exact hm1.at' e he
    · have h1 : e.1 ∈ idsM (keepM Q s.mem) := List.mem_map.2 ⟨_, he, rfl⟩
      rw [fr2' _ h1, hγ e.1 (List.mem_append.2 (.inl (hkin _ h1).2))]
      exact Box.at_congr (fun i hi => hγ i (List.mem_append.2 (.inr (memIds_mem he i hi)))) (Box.at_mono hg (hm.at' e (keepM_mem he).1))
  · intro b hb
    have := hm1.ok.gr b hb
    cases hr : R.hp b with
    | none => rfl
    | some o => rw [show R'.hp b = some o from hRR b o hr] at this; simp at this
  · intro i hi
    rcases hin hi with h1 | h1
    · rw [fr1' i h1]; exact hm1.ok.f i h1
    · rw [fr2' i h1]; exact fun b o hb => hm1.ok.r b o (hRQ i h1 b o hb)
  · intro i hi b hb
    rcases hin hi with h1 | h1
    · rw [fr1' i h1] at hb; exact hm1.ok.gf i h1 b hb
    · rw [fr2' i h1] at hb
      obtain ⟨o, ho⟩ := Option.ne_none_iff_exists'.1 hb
      cases hg' : G' b with
      | none => rfl
      | some x =>
        have := hm1.ok.gr b (by simp [hg'])
        rw [show R'.hp b = some o from hRQ i h1 b o ho] at this; simp at this
  · intro i hi b hb
    rcases hin hi with h1 | h1
    · rw [fr1' i h1] at hb
      have := hm1.ok.rf i h1 b hb
      cases hr : R.hp b with
      | none => rfl
      | some o => rw [show R'.hp b = some o from hRR b o hr] at this; simp at this
    · rw [fr2' i h1] at hb; exact hm.ok.rf i (hkin i h1).1 b hb
  · intro i hi j hj hij b hb
    rcases hin hi with h1 | h1 <;> rcases hin hj with h2 | h2
    · rw [fr1' i h1] at hb; rw [fr1' j h2]; exact hm1.ok.ff i h1 j h2 hij b hb
    · rw [fr1' i h1] at hb; rw [fr2' j h2]
      have := hm1.ok.rf i h1 b hb
      cases hf : fr j b with
      | none => rfl
      | some o => rw [show R'.hp b = some o from hRQ j h2 b o hf] at this; simp at this
    · rw [fr2' i h1] at hb; rw [fr1' j h2]
      obtain ⟨o, ho⟩ := Option.ne_none_iff_exists'.1 hb
      cases hf : fr1 j b with
      | none => rfl
      | some x =>
        have := hm1.ok.rf j h2 b (by simp [hf])
        rw [show R'.hp b = some o from hRQ i h1 b o ho] at this; simp at this
    · rw [fr2' i h1] at hb; rw [fr2' j h2]; exact hm.ok.ff i (hkin i h1).1 j (hkin j h2).1 hij b hb
  · show i ∈ idsM (s'.mem ++ keepM Q s.mem)
    simp only [idsM, List.map_append, List.mem_append]
    exact .inr hi
end Go.Proofs.Ytnmjcdlgfimnaaa
