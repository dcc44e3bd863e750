/- Regions that draw their order, on symbolic states: what looks into memory comes first; whole regions. -/
import Derived.Test.YtnmjcdlgfimnaaaFvc
namespace Go.Proofs.Ytnmjcdlgfimnaaa

section
variable {E : Env} {ops : Array Oper} {late Q : List Nat} {Qn : Exit → Act → World → Prop} {R : Fr} {n : Nat}

theorem keepM_sub {Q : List Nat} {mem : List (Nat × Box)} : ∀ i ∈ idsM (keepM Q mem), i ∈ idsM mem ∧ i ∈ Q := by
  intro i hi
  obtain ⟨e, he, rfl⟩ := List.mem_map.1 hi
  exact ⟨List.mem_map.2 ⟨_, (keepM_mem he).1, rfl⟩, (keepM_mem he).2⟩
theorem MemF.keep {G : Hp} {γ : Nat → Value} {fr : Nat → Hp} {mem : List (Nat × Box)} {w : World} (h : MemF R G γ fr mem w) (Q : List Nat) : MemF R G γ fr (keepM Q mem) w :=
  ⟨keepM_nodup h.nd, h.pin, fun e he => h.at' e (keepM_mem he).1, h.ok.sub fun i hi => (keepM_sub i hi).1⟩

theorem listA_down : ∀ {A : List Nat} {listed : Array Bool}, okA ops late listed A = true → Down ops listed → Down ops (listA listed A)
  | [], _, _, h => h
  | i :: r, listed, hok, h => by
    simp only [okA, Bool.and_eq_true, List.contains_eq_mem, decide_eq_true_eq] at hok
    show Down ops (listA (listed.setIfInBounds i true) r)
    exact listA_down hok.2 (h.set hok.1.1.1.1.1)

theorem vcA_sound (hsel : Region.noSelect ops = true) (hdst : ∀ o ∈ ops, ∀ d, o.dst = some d → d < n) (hQp : ∀ c a w, ¬ Qn (.panic c) a w) {K : SymSt → Prop} {G : Hp} {γ : Nat → Value} {fr : Nat → Hp} {mem : List (Nat × Box)} {pins : List Nat} {w : World} {fuel : Nat}
    (hm : MemF R G γ fr mem w) (hpn : ∀ i, R.pin i ≠ none → i ∈ pins) :
    ∀ (A : List Nat) (listed : Array Bool) {sl : List (Nat × TV)} {a : Act}, okA ops late listed A = true → Down ops listed → early late listed = true → vcA E ops.toList Q A ⟨sl, mem, pins⟩ K → SlotsOk G γ sl a.tmps → a.defers = [] → a.tmps.size = n →
      (∀ sl' a', K ⟨sl', mem, pins⟩ → SlotsOk G γ sl' a'.tmps → a'.defers = [] → a'.tmps.size = n → early late (listA listed A) = true → wpAnyT E.P ops Qn (TT late G fr (idsM (keepM Q mem))) fuel (listA listed A) a' w) →
      wpAnyT E.P ops Qn (TT late G fr (idsM (keepM Q mem))) (A.length + fuel) listed a w
  | [], listed, sl, a, _, _, he, hv, hsl, hdf, hsz, hfin => by
    simp only [List.length_nil, Nat.zero_add]
    exact hfin sl a hv hsl hdf hsz he
  | i :: r, listed, sl, a, hok, hd, he, hv, hsl, hdf, hsz, hfin => by
    simp only [okA, Bool.and_eq_true, List.contains_eq_mem, decide_eq_true_eq, Bool.not_eq_true', decide_eq_false_iff_not, List.all_eq_true] at hok
    obtain ⟨⟨⟨⟨⟨hr, hq⟩, hl⟩, hf⟩, hreach⟩, hok'⟩ := hok
    unfold vcA at hv
    split at hv
    · rename_i o ho
      have ho' : ops[i]? = some o := by simpa using ho
      have hdo : ∀ d, o.dst = some d → d < a.tmps.size := fun d h => hsz ▸ hdst o (Array.mem_of_getElem? ho') d h
      have hes : early late (listed.setIfInBounds i true) = true := by rw [early_set hl]; exact he
      have hagr : Agr G fr (idsM (keepM Q mem)) w := (hm.keep Q).agr
      have hS : ∀ (listed : Array Bool) (j : Nat) (w : World), Down ops listed → listed.getD i true = false → j ∈ Region.ready .any ops listed → TT late G fr (idsM (keepM Q mem)) ((listed.setIfInBounds i true).setIfInBounds j true) w → Agr G fr (idsM (keepM Q mem)) w := by
        intro listed j w hd hun hj hT
        refine TT_set hl listed j w hT ?_
        unfold early
        simp only [List.all_eq_true, Bool.not_eq_true']
        intro k hk
        have hne : k ≠ i := fun e => hl (e ▸ hk)
        have hu := unlisted_false hun
        cases hx : (listed.setIfInBounds j true).getD k false with
        | false => rfl
        | true =>
          exfalso
          have hedges : ∀ oj, ops[k]? = some oj → ∀ e ∈ oj.after, Region.binds .any e = true → listed.getD e.on false = true := by
            intro oj hoj e he hb
            by_cases hjk : j = k
            · subst hjk
              obtain ⟨_, o2, ho2, hall⟩ := mem_ready.1 hj
              rw [ho2] at hoj
              simp only [Option.some.injEq] at hoj
              subst hoj
              exact hall e he hb
            · rw [getD_set_ne false hjk] at hx
              exact hd k hx oj hoj e he hb
          have := reachB_listed hd (hreach k hk) hedges
          rw [hu] at this; simp at this
      have go : ∀ {v : Value} {tv : TV} {sl' : List (Nat × TV)}, SlotsOk G γ sl' a.tmps → YieldsIf E.P ops (Agr G fr (idsM (keepM Q mem))) o v a → tv.rel G γ v → vcA E ops.toList Q r ((⟨sl', mem, pins⟩ : SymSt).putO o.dst tv) K →
          wpAnyT E.P ops Qn (TT late G fr (idsM (keepM Q mem))) ((i :: r).length + fuel) listed a w := by
        intro v tv sl' hsl' hy hrel hv'
        have hlen : (i :: r).length + fuel = (r.length + fuel) + 1 := by simp only [List.length_cons]; omega
        rw [hlen]
        have e1 : (⟨sl', mem, pins⟩ : SymSt).putO o.dst tv = ⟨((⟨sl', mem, pins⟩ : SymSt).putO o.dst tv).sl, mem, pins⟩ := by cases o.dst <;> rfl
        rw [e1] at hv'
        refine wpAnyT_first (S := Agr G fr (idsM (keepM Q mem))) ho' (Region.noSelect_spec hsel) (fun c a w h => absurd h (hQp c _ w)) (TT_set hl) hS _ listed a w hd (free_of ho' hf) hr hy hagr (fun _ => hagr) ?_
        refine vcA_sound hsel hdst hQp hm hpn r (listed.setIfInBounds i true) hok' (hd.set hr) hes hv' (SlotsOk.putO (s := ⟨sl', mem, pins⟩) hsl' hdo hrel) (by rw [put_defers]; exact hdf) (by rw [put_size]; exact hsz) hfin
      rcases guard_cases hv hsl with ⟨sl', h1, h2, h3⟩ | ⟨sl', h1, h2, h3⟩
      · obtain ⟨v, tv, hrun, hK, hrel⟩ := vqVal_sound h2 R G γ fr a w h1 (hm.keep Q)
        exact go h1 (.inl ⟨h3, fun w' hw => hrun w' fun _ => hw⟩) hrel hK
      · exact go h1 (.inr ⟨h3, rfl⟩) undef_rel h2
    · exact hv.elim

/-- A region that draws its order. -/
def vcDraw (E : Env) (ops : Array Oper) (A late Q : List Nat) (sch : Sch) (s : SymSt) (K : SymSt → Prop) : Prop :=
  vcA E ops.toList Q A s fun s' => vcSch E ops.toList late Q sch false s' K
theorem early_all {k : Nat} (late : List Nat) : early late (Array.replicate k false) = true := by
  unfold early
  simp only [List.all_eq_true, Bool.not_eq_true']
  intro j _
  rw [Array.getD_eq_getD_getElem?, Array.getElem?_replicate]
  split <;> rfl
theorem down_none {k : Nat} : Down ops (Array.replicate k false) := by
  intro j hj
  rw [Array.getD_eq_getD_getElem?, Array.getElem?_replicate] at hj
  split at hj <;> simp at hj

theorem draw_sound {id : Nat} {A : List Nat} {sch : Sch} {s : SymSt} {K : SymSt → Prop} (hm : E.P.follows .mixedOrders = true) (hok : okSch ops A late sch = true) (h : vcDraw E ops A late Q sch s K) (hdst : ∀ o ∈ ops, ∀ d, o.dst = some d → d < n)
    {G : Hp} {γ : Nat → Value} {a : Act} {w : World} (hs : Simm R G γ s a w) (hn : a.tmps.size = n) :
    (Code.region id ops true).wp E.P (fun e a' w' => e = .normal ∧ ∃ G' γ' s', Hp.le G G' ∧ K s' ∧ Simm R G' γ' s' a' w' ∧ a'.tmps.size = n) a w := by
  simp only [okSch, Bool.and_eq_true] at hok
  obtain ⟨hsel, hA, hsch, hlen⟩ := hok
  have hs' := hs.drew (w.drawn + 1)
  obtain ⟨fr, hmf⟩ := hs'.mem
  obtain ⟨sl, mem, pins⟩ := s
  have hlen' := Nat.le_of_ble_eq_true hlen
  refine wp_region_any hm (wpAny_of_T (T := TT late G fr (idsM (keepM Q mem))) _ _ _ _ ?_)
  obtain ⟨k, hk⟩ : ∃ k, ops.size = A.length + k := ⟨ops.size - A.length, by omega⟩
  rw [hk]
  refine vcA_sound (R := R) (n := n) (Q := Q) hsel hdst (fun c a w h => by simp at h) hmf hs.pn A _ (by rw [← hk]; exact hA) down_none (early_all late) h hs'.sl hs'.df hn ?_
  intro sl' a' hv hsl hdf hsz he
  have hnode : Node R n G fr Q (idsM (keepM Q mem)) (early late (listA (Array.replicate (A.length + k) false) A)) G γ fr ⟨sl', mem, pins⟩ a' { w with drawn := w.drawn + 1 } :=
    ⟨hsl, hmf, hdf, hs.pn, hsz, Hp.le_refl G, fun _ i hi => ⟨(keepM_sub i hi).1, (keepM_sub i hi).2, rfl⟩⟩
  refine (sch_sound hsel hdst (fun c a w h => by simp at h) (K := K) (fun hg hK hsm hz => ⟨rfl, _, _, _, hg, hK, hsm, hz⟩) sch true _ k (by rw [← hk]; exact hsch) (listA_down (by rw [← hk]; exact hA) down_none) (by omega) ?_ hnode).1 rfl
  rw [he]
  exact hv
end
end Go.Proofs.Ytnmjcdlgfimnaaa
