/- Calls that make a thing. -/
import Derived.Test.YtnmjcdlgfimnaaaFzb
namespace Go.Proofs.Ytnmjcdlgfimnaaa
/-- A contract: data in, a new thing out, as a pointer. -/
structure ConNew (P : Program) (f : FuncId) {σ α : Type} (n : Nat) (O : σ → ObjP) (A : Rep α) (pre : α → Prop) (u : α → σ) : Prop where
  fn : IsFn P f
  h : ∀ x, pre x → Spec P f ((A.argL x).map .l) [] (tvL [.ptr n [] 0]) [(n, .obj O (u x))]
theorem call_new {P : Program} {f : FuncId} {σ α : Type} {O : σ → ObjP} {A : Rep α} {pre : α → Prop} {u : α → σ} {n : Nat} (c : ConNew P f n O A pre u) (id : Nat)
    {vs0 : List SV} {s : SymSt} {K : KT} (hc : s.room id ∧ asArgs A vs0 fun x => pre x ∧ K (tvL [.ptr id [] 0]) (s.back [] [id] [(id, .obj O (u x))])) : Wc P f vs0 s K := by
  obtain ⟨hroom, hc⟩ := hc
  refine ⟨c.fn, ?_⟩
  intro R G γ a w vs hs hv
  obtain ⟨x, ⟨hpre, hK⟩, hx⟩ := asArgs_rel A hc hv
  have hsp := c.h x hpre
  have hw : Wc P f ((A.argL x).map .l) s K := by
    refine Wc_spec hsp (fun _ => id) [id] (by simp [idsM]) (by simp [idsM]) (by simp [idsM]) (by simp) ?_ ?_ ?_ (by simp) ?_ ?_
    · intro i hi
      simp only [List.mem_singleton] at hi
      subst hi
      simpa [SymSt.room] using hroom
    · intro i hi
      simp only [tvL, TV.ids, SV.ids, LV.ids, List.mem_singleton] at hi
      subst hi
      simp [idsM]
    · intro e he i hi
      simp only [List.mem_singleton] at he
      subst he
      simp [Box.ids] at hi
    · intro G γ us hu
      rw [map_ren_data (A.argL_data x)]
      exact hu
    · exact hK
  exact hw.2 R G γ a w _ hs hx
theorem closes_parts2 {σ : Type} {ι : Type 1} {ok : σ → ι → Prop} {mm : ι → List (Nat × Box)} {root id : Nat} {D : σ} {rest : List (Nat × Box)} (i : ι) (ρ : Nat → Nat) (hok : ok D i) (hρ : ρ root = id) (hr : root ∈ idsM (mm i)) (hn : (idsM (mm i)).Nodup)
    (hinj : ∀ a ∈ idsM (mm i), ∀ b ∈ idsM (mm i), ρ a = ρ b → a = b) : Closes (renM ρ (mm i) ++ rest) ((id, .obj (partsO ok mm root) D) :: rest) := by
  intro R G γ w _ ⟨fr, hnd, hp, hat, hok'⟩
  refine ⟨γ, fun _ _ => rfl, ?_⟩
  classical
  have hids : idsM (renM ρ (mm i) ++ rest) = (idsM (mm i)).map ρ ++ idsM rest := by
    simp only [idsM, List.map_append]
    congr 1
    exact renM_ids (mm i)
  rw [hids] at hnd hok'
  simp only [List.nodup_append] at hnd
  obtain ⟨hn1, hn2, hn3⟩ := hnd
  have hroot : id ∈ (idsM (mm i)).map ρ := List.mem_map.2 ⟨root, hr, hρ⟩
  have hin : ∀ j ∈ idsM (mm i), ρ j ∈ (idsM (mm i)).map ρ ++ idsM rest := fun j hj => List.mem_append.2 (.inl (List.mem_map.2 ⟨j, hj, rfl⟩))
  let f : Hp := fun b => if h : ∃ j ∈ idsM (mm i), fr (ρ j) b ≠ none then fr (ρ (Classical.choose h)) b else none
  have hf : ∀ b o, f b = some o ↔ ∃ j ∈ idsM (mm i), fr (ρ j) b = some o := by
    intro b o
    simp only [f]
    by_cases h : ∃ j ∈ idsM (mm i), fr (ρ j) b ≠ none
    · rw [dif_pos h]
      obtain ⟨h1, h2⟩ := Classical.choose_spec h
      constructor
      · intro h3; exact ⟨_, h1, h3⟩
      · rintro ⟨j, hj, h3⟩
        by_cases e : ρ (Classical.choose h) = ρ j
        · rw [e]; exact h3
        · have := hok'.ff _ (hin _ h1) _ (hin j hj) e b h2
          rw [h3] at this; simp at this
    · rw [dif_neg h]
      constructor
      · intro h3; simp at h3
      · rintro ⟨j, hj, h3⟩
        exact absurd ⟨j, hj, by simp [h3]⟩ h
  have hrr : id ∉ idsM rest := fun h => hn3 id hroot id h rfl
  refine ⟨updF fr id f, ?_, hp, ?_, ?_⟩
  · simp only [idsM, List.map_cons, List.nodup_cons]
    exact ⟨hrr, hn2⟩
  · intro e he
    rcases List.mem_cons.1 he with rfl | he
    · rw [updF_same]
      refine ⟨i, fun j => γ (ρ j), fun j => fr (ρ j), hok, by simp only [hρ], hn, hr, ?_, ?_, hf⟩
      · intro e he
        have hmem : (ρ e.1, e.2.ren ρ) ∈ renM ρ (mm i) ++ rest := by
          refine List.mem_append.2 (.inl ?_)
          have gen : ∀ (mem : List (Nat × Box)), e ∈ mem → (ρ e.1, e.2.ren ρ) ∈ renM ρ mem := by
            intro mem
            induction mem with
            | nil => intro h; simp at h
            | cons x r ih =>
              intro h
              rcases List.mem_cons.1 h with rfl | h
              · exact List.mem_cons.2 (.inl rfl)
              · exact List.mem_cons.2 (.inr (ih h))
          exact gen (mm i) he
        exact Box.ren_at.1 (hat _ hmem)
      · intro a ha b hb hab c hc
        exact hok'.ff _ (hin a ha) _ (hin b hb) (fun e => hab (hinj a ha b hb e)) c hc
    · have hm : e.1 ∈ idsM rest := List.mem_map.2 ⟨e, he, rfl⟩
      have : e.1 ≠ id := fun h => hrr (h ▸ hm)
      rw [updF_ne this]
      exact hat e (List.mem_append.2 (.inr he))
  · refine hok'.reshape ?_ ?_
    · intro j hj b o hb
      simp only [idsM, List.map_cons, List.mem_cons] at hj
      by_cases e : j = id
      · subst e
        rw [updF_same] at hb
        obtain ⟨l, hl, h⟩ := (hf b o).1 hb
        exact ⟨ρ l, hin l hl, h⟩
      · rw [updF_ne e] at hb
        exact ⟨j, List.mem_append.2 (.inr (hj.resolve_left e)), hb⟩
    · have cross : ∀ l ∈ idsM rest, ∀ b, f b ≠ none → fr l b = none := by
        intro l hl b hb
        obtain ⟨o, ho⟩ := Option.ne_none_iff_exists'.1 hb
        obtain ⟨j, hj, h⟩ := (hf b o).1 ho
        exact hok'.ff _ (hin j hj) l (List.mem_append.2 (.inr hl)) (hn3 _ (List.mem_map.2 ⟨j, hj, rfl⟩) l hl) b (by simp [h])
      intro j hj l hl hjl b hb
      simp only [idsM, List.map_cons, List.mem_cons] at hj hl
      by_cases e : j = id
      · subst e
        rw [updF_same] at hb
        rw [updF_ne (Ne.symm hjl)]
        exact cross l (hl.resolve_left (Ne.symm hjl)) b hb
      · rw [updF_ne e] at hb
        by_cases e' : l = id
        · subst e'
          rw [updF_same]
          cases hx : f b with
          | none => rfl
          | some x => exact absurd (cross j (hj.resolve_left e) b (by simp [hx])) hb
        · rw [updF_ne e']
          exact hok'.ff j (List.mem_append.2 (.inr (hj.resolve_left e))) l (List.mem_append.2 (.inr (hl.resolve_left e'))) hjl b hb
attribute [push_cast] SymSt.back killsSl killsM
end Go.Proofs.Ytnmjcdlgfimnaaa
