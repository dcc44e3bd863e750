/- Code, loops, whole functions. -/
import Derived.Test.YtnmjcdlgfimnaaaFma
namespace Go.Proofs.Ytnmjcdlgfimnaaa

/-- Less is told. -/
def LeS : List (Nat × TV) → List (Nat × TV) → Prop
  | [], _ => True
  | (i, v) :: r, sl => getS sl i = v ∧ LeS r sl
def LeM : List (Nat × Box) → List (Nat × Box) → Prop
  | [], _ => True
  | (i, b) :: r, mem => getM mem i = some b ∧ LeM r mem
def Le (s1 s : SymSt) : Prop := LeS s1.sl s.sl ∧ LeM s1.mem s.mem ∧ (idsM s1.mem).Nodup ∧ s1.pins = s.pins

theorem LeS.get : ∀ {l sl : List (Nat × TV)}, LeS l sl → ∀ i, getS l i = getS sl i ∨ getS l i = .one (.l .undef)
  | [], _, _, _ => .inr rfl
  | (j, v) :: r, sl, h, i => by
    have e0 : getS ((j, v) :: r) i = bif j == i then v else getS r i := rfl
    rw [e0]
    cases e : (j == i)
    · exact LeS.get h.2 i
    · have : j = i := by simpa using e
      subst this
      exact .inl h.1.symm
theorem LeM.mem : ∀ {l mem : List (Nat × Box)}, LeM l mem → ∀ e ∈ l, e ∈ mem
  | [], _, _, _, h => by simp at h
  | (i, b) :: r, mem, h, e, he => by
    rcases List.mem_cons.1 he with rfl | he
    · exact getM_mem h.1
    · exact LeM.mem h.2 e he
theorem Simm.le {R : Fr} {G : Hp} {γ : Nat → Value} {s s1 : SymSt} {a : Act} {w : World} (h : Simm R G γ s a w) (hl : Le s1 s) : Simm R G γ s1 a w := by
  refine ⟨?_, h.mem.sub hl.2.2.1 (LeM.mem hl.2.1), h.df, hl.2.2.2 ▸ h.pn⟩
  intro i
  rcases hl.1.get i with e | e
  · rw [e]; exact h.sl i
  · rw [e]; trivial

/-- Of a state another one may be told: rows taken out and put back, less known. -/
def GLe (s1 s : SymSt) : Prop := s1.pins = s.pins ∧ ∀ R G γ a w, Simm R G γ s a w → ∃ G' γ', Hp.le G G' ∧ Simm R G' γ' s1 a w
theorem GLe.refl (s : SymSt) : GLe s s := ⟨rfl, fun _ G γ _ _ h => ⟨G, γ, Hp.le_refl G, h⟩⟩
theorem GLe.of_le {s1 s : SymSt} (h : Le s1 s) : GLe s1 s := ⟨h.2.2.2, fun _ G γ _ _ hs => ⟨G, γ, Hp.le_refl G, hs.le h⟩⟩
theorem GLe.trans {s1 s2 s3 : SymSt} (h : GLe s1 s2) (h' : GLe s2 s3) : GLe s1 s3 := ⟨h.1.trans h'.1, fun R G γ a w hs => by
  obtain ⟨G1, γ1, hg1, hs1⟩ := h'.2 R G γ a w hs
  obtain ⟨G2, γ2, hg2, hs2⟩ := h.2 R G1 γ1 a w hs1
  exact ⟨G2, γ2, Hp.le_trans hg1 hg2, hs2⟩⟩

/-- Of a state one of some others may be told. -/
def GLeI {ι : Type 1} (S : ι → SymSt) (s : SymSt) : Prop := ∀ R G γ a w, (∀ i, i ∉ s.pins → R.pin i = none) → Simm R G γ s a w → ∃ i G' γ', Hp.le G G' ∧ Simm R G' γ' (S i) a w
theorem GLe.one {s1 s : SymSt} (h : GLe s1 s) : GLeI (fun _ : PUnit => s1) s := fun R G γ a w _ hs => by
  obtain ⟨G', γ', hg, hs'⟩ := h.2 R G γ a w hs
  exact ⟨⟨⟩, G', γ', hg, hs'⟩

theorem least_of {p : Nat → Prop} : ∀ n, p n → ∃ n, p n ∧ ∀ m, p m → n ≤ m := by
  intro n
  induction n using Nat.strongRecOn with
  | _ n ih =>
    intro hn
    by_cases h : ∃ m, m < n ∧ p m
    · obtain ⟨m, hm, hp⟩ := h
      exact ih m hm hp
    · exact ⟨n, hn, fun m hm => Nat.le_of_not_lt fun hlt => h ⟨m, hlt, hm⟩⟩

/-- A loop, by a number that falls. -/
theorem wp_loop_ghost {P : Program} {c : Code} {Q : Exit → Act → World → Prop} (I : Nat → Act → World → Prop) {n : Nat} {a : Act} {w : World} (h0 : I n a w)
    (round : ∀ n a w, I n a w → c.wp P (Exit.then (fun a' w' => ∃ m, m < n ∧ I m a' w') Q) a w) : (Code.loop c).wp P Q a w := by
  classical
  have least : ∀ a w, (∃ n, I n a w) → ∃ n, I n a w ∧ ∀ m, I m a w → n ≤ m := fun a w ⟨n, h⟩ => least_of n h
  let μ : Act → World → Nat := fun a w => if h : ∃ n, I n a w then Classical.choose (least a w h) else 0
  refine wp_loop (fun a w => ∃ n, I n a w) μ ⟨n, h0⟩ ?_
  intro a w hI
  have hm : I (μ a w) a w := by
    simp only [μ, dif_pos hI]
    exact (Classical.choose_spec (least a w hI)).1
  refine wp_mono (round _ a w hm) ?_
  intro e a' w' h
  cases e with
  | normal =>
    obtain ⟨m, hlt, hI'⟩ := h
    refine ⟨⟨m, hI'⟩, ?_⟩
    have : μ a' w' ≤ m := by
      simp only [μ, dif_pos (⟨m, hI'⟩ : ∃ n, I n a' w')]
      exact (Classical.choose_spec (least a' w' ⟨m, hI'⟩)).2 m hI'
    omega
  | _ => exact h

abbrev KC := Exit → SymSt → Prop

def vcCode (E : Env) : Code → SymSt → KC → Prop
  | .skip, s, K => ∃ (ι : Type 1) (S : ι → SymSt), GLeI S s ∧ ∀ i, K .normal (S i)
  | .region _ ops draw, s, K => (draw = false → vcOps E ops.toList ops.toList s fun s' => ∃ (ι : Type 1) (S : ι → SymSt), GLeI S s' ∧ ∀ i, K .normal (S i)) ∧
      (draw = true → ∃ A late Q sch, E.P.follows .mixedOrders = true ∧ okSch ops A late sch = true ∧ vcDraw E ops A late Q sch s fun s' => ∃ (ι : Type 1) (S : ι → SymSt), GLeI S s' ∧ ∀ i, K .normal (S i))
  | .seq x y, s, K => vcCode E x s fun e s' => match e with
    | .normal => vcCode E y s' K
    | e => K e s'
  | .cond c x y, s, K => match ev s c with
    | .l (.bool b) => (b = true → vcCode E x s K) ∧ (b = false → vcCode E y s K)
    | _ => False
  | .block id x, s, K => vcCode E x s fun e s' => match e with
    | .exit i => bif i == id then K .normal s' else K (.exit i) s'
    | e => K e s'
  | .loop x, s, K => ∃ (ι : Type) (ok : ι → Prop) (St : ι → SymSt) (μ : ι → Nat), (∃ i, ok i ∧ GLe (St i) s) ∧ ∀ i, ok i → (∀ j, (getS (St i).sl j).fact) → factsM (St i).mem → vcCode E x (St i) fun e s' => match e with
    | .normal => ∃ j, ok j ∧ μ j < μ i ∧ GLe (St j) s'
    | e => K e s'
  | .exit id, s, K => K (.exit id) s
  | .label _, s, K => K .normal s
  | .ret, s, K => K .ret s
  | _, _, _ => False

/-- Every slot that is written lies in the frame. -/
def codeFits (n : Nat) : Code → Bool
  | .region _ ops _ => ops.toList.all fun o => match o.dst with
    | some d => decide (d < n)
    | none => true
  | .seq x y => codeFits n x && codeFits n y
  | .cond _ x y => codeFits n x && codeFits n y
  | .block _ x => codeFits n x
  | .loop x => codeFits n x
  | .scope x => codeFits n x
  | _ => true

def QK (R : Fr) (G : Hp) (n : Nat) (K : KC) (e : Exit) (a : Act) (w : World) : Prop := ∃ G' γ' s', Hp.le G G' ∧ K e s' ∧ Simm R G' γ' s' a w ∧ a.tmps.size = n

theorem QK.of {R : Fr} {G : Hp} {γ : Nat → Value} {n : Nat} {K : KC} {e : Exit} {s : SymSt} {a : Act} {w : World} (h : K e s) (hs : Simm R G γ s a w) (hn : a.tmps.size = n) : QK R G n K e a w :=
  ⟨G, γ, s, Hp.le_refl G, h, hs, hn⟩
theorem QK.up {R : Fr} {G G' : Hp} {n : Nat} {K : KC} {e : Exit} {a : Act} {w : World} (hg : Hp.le G G') (h : QK R G' n K e a w) : QK R G n K e a w := by
  obtain ⟨G2, γ2, s2, h1, h2, h3, h4⟩ := h
  exact ⟨G2, γ2, s2, Hp.le_trans hg h1, h2, h3, h4⟩

theorem range_map {α : Type} (l : Array α) : (List.range l.size).map (l[·]?) = l.toList.map some := by
  apply List.ext_getElem?
  intro i
  by_cases h : i < l.size
  · simp [h]
  · simp [h]

theorem vcCode_sound {E : Env} {n : Nat} {R : Fr} : ∀ (c : Code) {s : SymSt} {K : KC} {G : Hp} {γ : Nat → Value} {a : Act} {w : World}, vcCode E c s K → codeFits n c = true → Simm R G γ s a w → a.tmps.size = n →
    c.wp E.P (QK R G n K) a w
  | .skip, s, K, G, γ, a, w, h, _, hs, hn => by
    obtain ⟨ι, S, hgl, hK⟩ := h
    obtain ⟨i, G2, γ2, hg2, hs2⟩ := hgl _ _ _ _ _ (fun i hi => Classical.byContradiction fun h => hi (hs.pn i h)) hs
    exact wp_skip ⟨G2, γ2, S i, hg2, hK i, hs2, hn⟩
  | .region id ops draw, s, K, G, γ, a, w, h, hf, hs, hn => by
    unfold vcCode at h
    have hdst : ∀ o ∈ ops, ∀ d, o.dst = some d → d < n := by
      intro o ho d hd
      simp only [codeFits, List.all_eq_true] at hf
      have := hf o (by simpa using ho)
      rw [hd] at this
      simpa using this
    cases draw with
    | false =>
      refine wp_region ?_
      refine wpOps_sound (n := n) (R := R) _ ops.toList (range_map ops) (fun o ho => hdst o (by simpa using ho)) (h.1 rfl) hs hn ?_
      rintro a' w' ⟨G', γ', s', hg, ⟨ι, S, hgl, hK⟩, hs', hn'⟩
      obtain ⟨i, G2, γ2, hg2, hs2⟩ := hgl _ _ _ _ _ (fun i hi => Classical.byContradiction fun h => hi (hs'.pn i h)) hs'
      exact ⟨G2, γ2, S i, Hp.le_trans hg hg2, hK i, hs2, hn'⟩
    | true =>
      obtain ⟨A, late, Q, sch, hm, hok, hv⟩ := h.2 rfl
      refine wp_mono (draw_sound (id := id) hm hok hv hdst hs hn) ?_
      rintro e a' w' ⟨rfl, G', γ', s', hg, ⟨ι, S, hgl, hK⟩, hs', hn'⟩
      obtain ⟨i, G2, γ2, hg2, hs2⟩ := hgl _ _ _ _ _ (fun i hi => Classical.byContradiction fun h => hi (hs'.pn i h)) hs'
      exact ⟨G2, γ2, S i, Hp.le_trans hg hg2, hK i, hs2, hn'⟩
  | .seq x y, s, K, G, γ, a, w, h, hf, hs, hn => by
    unfold vcCode at h
    simp only [codeFits, Bool.and_eq_true] at hf
    refine wp_seq (wp_mono (vcCode_sound x h hf.1 hs hn) ?_)
    rintro e a' w' ⟨G', γ', s', hg, hK, hs', hn'⟩
    cases e with
    | normal => exact wp_mono (vcCode_sound y hK hf.2 hs' hn') fun e a w h => h.up hg
    | _ => exact ⟨G', γ', s', hg, hK, hs', hn'⟩
  | .cond c x y, s, K, G, γ, a, w, h, hf, hs, hn => by
    unfold vcCode at h
    simp only [codeFits, Bool.and_eq_true] at hf
    have hc := ev_rel hs.sl c
    split at h
    · rename_i b he
      rw [he] at hc
      have hc' : a.eval c = .bool b := by simpa [SV.rel, LV.relV, LV.rel] using hc
      exact wp_cond_split hc' (fun e => vcCode_sound x (h.1 e) hf.1 hs hn) (fun e => vcCode_sound y (h.2 e) hf.2 hs hn)
    · exact h.elim
  | .block id x, s, K, G, γ, a, w, h, hf, hs, hn => by
    unfold vcCode at h
    simp only [codeFits] at hf
    refine wp_block (wp_mono (vcCode_sound x h hf hs hn) ?_)
    rintro e a' w' ⟨G', γ', s', hg, hK, hs', hn'⟩
    cases e with
    | exit i =>
      simp only [Exit.inBlock]
      have hK : bif i == id then K Exit.normal s' else K (Exit.exit i) s' := hK
      cases hi : (i == id)
      · rw [hi] at hK
        have : ¬ i = id := by simpa using hi
        rw [if_neg this]
        exact ⟨G', γ', s', hg, hK, hs', hn'⟩
      · rw [hi] at hK
        have : i = id := by simpa using hi
        rw [if_pos this]
        exact ⟨G', γ', s', hg, hK, hs', hn'⟩
    | _ => exact ⟨G', γ', s', hg, hK, hs', hn'⟩
  | .loop x, s, K, G, γ, a, w, h, hf, hs, hn => by
    unfold vcCode at h
    simp only [codeFits] at hf
    obtain ⟨ι, ok, St, μ, ⟨i0, hi0, hle⟩, hround⟩ := h
    obtain ⟨G0, γ0, hg0, hs0⟩ := hle.2 _ _ _ _ _ hs
    refine wp_loop_ghost (fun m a w => ∃ G' γ' i, Hp.le G G' ∧ ok i ∧ m = μ i ∧ Simm R G' γ' (St i) a w ∧ a.tmps.size = n) ⟨G0, γ0, i0, hg0, hi0, rfl, hs0, hn⟩ ?_
    rintro m a w ⟨G1, γ1, i1, hg1, hI1, rfl, hs1, hn1⟩
    refine wp_mono (vcCode_sound x (hround i1 hI1 (vc_facts hs1).1 (vc_facts hs1).2) hf hs1 hn1) ?_
    rintro e a' w' ⟨G', γ', s', hg, hK, hs', hn'⟩
    cases e with
    | normal =>
      obtain ⟨j, hj, hlt, hle⟩ := hK
      obtain ⟨G2, γ2, hg2, hs2⟩ := hle.2 _ _ _ _ _ hs'
      exact ⟨μ j, hlt, G2, γ2, j, Hp.le_trans hg1 (Hp.le_trans hg hg2), hj, rfl, hs2, hn'⟩
    | _ => exact ⟨G', γ', s', Hp.le_trans hg1 hg, hK, hs', hn'⟩
  | .exit id, s, K, G, γ, a, w, h, _, hs, hn => wp_exit (.of h hs hn)
  | .label _, s, K, G, γ, a, w, h, _, hs, hn => wp_label (.of h hs hn)
  | .ret, s, K, G, γ, a, w, h, _, hs, hn => wp_ret (.of h hs hn)
  | .rangeFunc _ _ _ _, s, K, G, γ, a, w, h, _, hs, hn => by unfold vcCode at h; exact h.elim
  | .scope _, s, K, G, γ, a, w, h, _, hs, hn => by unfold vcCode at h; exact h.elim
  | .goto _, s, K, G, γ, a, w, h, _, hs, hn => by unfold vcCode at h; exact h.elim
  | .refuse _, s, K, G, γ, a, w, h, _, hs, hn => by unfold vcCode at h; exact h.elim

/-- A function's results. -/
def vRes (C : Ctx) (s : SymSt) : List ResultVar → (List SV → Prop) → Prop
  | [], f => f []
  | .tmp t :: r, f => vRes C s r fun vs => f (ev s (.tmp t) :: vs)
  | .cell x ty :: r, f => vLoad C s ty (.tmp x) fun tv _ => vRes C s r fun vs => f (tv.sv :: vs)
def tvOf : List SV → TV
  | [v] => .one v
  | vs => .tup vs

def parSl : Nat → List SV → List (Nat × TV)
  | _, [] => []
  | i, v :: r => (i, .one v) :: parSl (i + 1) r

/-- A whole function. -/
def vFn (E : Env) (fn : Func) (args : List SV) (mem : List (Nat × Box)) (pins : List Nat) (K : KT) : Prop := match fn.body with
  | some c => codeFits fn.ntmps c = true ∧ args.length ≤ fn.ntmps ∧ vcCode E c ⟨parSl 0 args, mem, pins⟩ fun e s => match e with
    | .normal => vRes E.toCtx s fn.results.toList fun vs => K (tvOf vs) s
    | .ret => vRes E.toCtx s fn.results.toList fun vs => K (tvOf vs) s
    | _ => False
  | none => False
end Go.Proofs.Ytnmjcdlgfimnaaa
