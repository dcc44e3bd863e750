/- Contracts for calls: functions that are handed one thing, as a pointer, ahead of data. -/
import Derived.Test.YtnmjcdlgfimnaaaFq
namespace Go.Proofs.Ytnmjcdlgfimnaaa

def LV.isData : LV → Bool
  | .int _ _ => true
  | .bool _ => true
  | .str _ => true
  | .dat _ _ => true
  | .nils => true
  | .emps => true
  | .nilp => true
  | _ => false
theorem LV.ren_data {x : LV} (h : x.isData = true) (ρ : Nat → Nat) : x.ren ρ = x := by
  cases x <;> first | rfl | (simp [LV.isData] at h)
theorem LV.ids_data {x : LV} (h : x.isData = true) : x.ids = [] := by
  cases x <;> first | rfl | (simp [LV.isData] at h)
theorem data_noIds {l : List LV} (h : l.all LV.isData = true) : noIds l = true := by
  simp only [noIds, List.all_eq_true, List.isEmpty_iff] at h ⊢
  intro x hx
  exact LV.ids_data (h x hx)
theorem map_ren_data {l : List LV} (h : l.all LV.isData = true) (ρ : Nat → Nat) : (l.map SV.l).map (SV.ren ρ) = l.map SV.l := by
  simp only [List.all_eq_true] at h
  rw [List.map_map]
  apply List.map_congr_left
  intro x hx
  show SV.l (x.ren ρ) = SV.l x
  rw [LV.ren_data (h x hx)]
theorem tvL_ren {l : List LV} (h : l.all LV.isData = true) (ρ : Nat → Nat) : (tvL l).ren ρ = tvL l := by
  unfold tvL
  split
  · rename_i r
    simp only [List.all_cons, List.all_nil, Bool.and_true] at h
    show TV.one (SV.l (r.ren ρ)) = _
    rw [LV.ren_data h]
  · show TV.tup _ = _
    rw [map_ren_data h]
theorem Rep.leaf_data : {α : Type} → (A : Rep α) → (x : α) → (A.leaf x).isData = true
  | _, .int _, _ => rfl
  | _, .bool, _ => rfl
  | _, .str, _ => rfl
  | _, .unit, _ => rfl
  | _, .pair _ _, _ => rfl
  | _, .arr _ _, _ => rfl
  | _, .slice _, _ => rfl
  | _, .iso A to of h h', y => by
    unfold Rep.leaf
    cases A.scalar
    · rfl
    · exact A.leaf_data (to y)
theorem Rep.argL_data : {α : Type} → (A : Rep α) → (x : α) → (A.argL x).all LV.isData = true
  | _, .pair A B, x => by
    have := B.argL_data x.2
    simp only [argL, List.all_cons, Bool.and_eq_true, A.leaf_data, this, true_and]
  | _, .int _, _ => rfl
  | _, .bool, _ => rfl
  | _, .str, _ => rfl
  | _, .unit, _ => rfl
  | _, .arr _ _, _ => rfl
  | _, .slice _, _ => rfl
  | _, .iso _ _ _ _ _, _ => rfl

/-- A call that is handed one thing and data, and hands back data. -/
def con1 {σ α : Type} (O : σ → ObjP) (A : Rep α) (pre : σ → α → Prop) (r : σ → α → List LV) (u : σ → α → σ) (as : List SV) (_ : Nat) (s : SymSt) (K : KT) : Prop := match as with
  | .l (.ptr id [] 0) :: rest => vFrz2 (ownsV rest) s rest fun s' rest' => (match getM s'.mem id with
    | some (@Box.obj τ O' D) => ∃ h : τ = σ, HEq O' O ∧ asArgs A rest' fun x => pre (cast h D) x ∧ K (tvL (r (cast h D) x)) ⟨s'.sl, (id, .obj O (u (cast h D) x)) :: rmM s'.mem id, s'.pins⟩
    | _ => False)
  | _ => False

theorem con1_ok {P : Program} {f : FuncId} {σ α : Type} {O : σ → ObjP} {A : Rep α} {pre : σ → α → Prop} {r : σ → α → List LV} {u : σ → α → σ} (hi : IsFn P f)
    (h : ∀ D x, pre D x → Spec P f (.l (.ptr 1 [] 0) :: (A.argL x).map .l) [(1, .obj O D)] (tvL (r D x)) [(1, .obj O (u D x))]) (hr : ∀ D x, (r D x).all LV.isData = true)
    (as : List SV) (d : Nat) (s : SymSt) (K : KT) (hc : con1 O A pre r u as d s K) : Wc P f as s K := by
  refine ⟨hi, ?_⟩
  intro R G γ a w vs hs hv
  unfold con1 at hc
  split at hc
  · rename_i id rest
    obtain ⟨v0, vs0, rfl, hv0, hvr⟩ := hv
    obtain ⟨G1, s1, as1, hg1, hc, hs1, hv1⟩ := vFrz2_spec hc hs hvr
    split at hc
    · rename_i τ O' D hg
      obtain ⟨e, hO, hc⟩ := hc
      subst e
      have hO := eq_of_heq hO
      subst hO
      simp only [cast_eq] at hc
      obtain ⟨x, ⟨hpre, hK⟩, hx⟩ := asArgs_rel A hc hv1
      have hsp := h D x hpre
      have hv0' : (SV.l (.ptr id [] 0)).rel G1 γ v0 := SV.rel_mono hg1 hv0
      have hw : Wc P f (.l (.ptr id [] 0) :: (A.argL x).map .l) s1 K := by
        refine Wc_spec hsp (fun _ => id) [] (by simp [idsM]) (by simp [idsM]) (by simp [idsM]) (by simp [idsM]) (by simp) ?_ ?_ ?_ ?_ ?_
        · intro i hi
          rw [tvL_ids (data_noIds (hr D x))] at hi
          simp at hi
        · intro e he i hi
          simp only [List.mem_singleton] at he
          subst he
          simp [Box.ids] at hi
        · intro e he
          simp only [List.mem_singleton] at he
          subst he
          exact hg
        · intro G γ us hu
          simp only [List.map_cons]
          rw [map_ren_data (A.argL_data x)]
          exact hu
        · rw [tvL_ren (hr D x)]
          exact hK
      refine (hw.2 R G1 γ a w _ hs1 ⟨v0, vs0, rfl, hv0', hx⟩).mono ?_
      rintro e w' ⟨v, rfl, G2, γ2, tv, s2, hg2, hK2, hrel, hs2⟩
      exact ⟨v, rfl, G2, γ2, tv, s2, Hp.le_trans hg1 hg2, hK2, hrel, hs2⟩
    · exact hc.elim
  · exact hc.elim
end Go.Proofs.Ytnmjcdlgfimnaaa
