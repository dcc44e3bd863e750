/- Calls of closures: what is captured is looked into alone. -/
import Derived.Test.YtnmjcdlgfimnaaaFz
namespace Go.Proofs.Ytnmjcdlgfimnaaa

def capMem : Nat → List LV → List (Nat × Box)
  | _, [] => []
  | i, x :: r => (i, .segs [x]) :: capMem (i + 1) r
def capPtr : Nat → List LV → List SV
  | _, [] => []
  | i, _ :: r => .l (.ptr i [] 0) :: capPtr (i + 1) r
/-- A leaf as a datum. -/
def leafAs : {α : Type} → Rep α → LV → (α → Prop) → Prop
  | _, .int k, x, f => match x with
    | .int k' n => k' = k ∧ f n
    | _ => False
  | _, .bool, x, f => match x with
    | .bool b => f b
    | _ => False
  | _, .str, x, f => match x with
    | .str s => f s
    | _ => False
  | _, .unit, x, f => datAs .unit x f
  | _, .pair A B, x, f => datAs (.pair A B) x f
  | _, .arr n A, x, f => datAs (.arr n A) x f
  | _, .slice A, x, f => datAs (.slice A) x f
  | _, .iso A to of h h', x, f => A.scalar = false ∧ datAs (.iso A to of h h') x f
theorem datAs_eq {α : Type} {R : Rep α} {x : LV} {f : α → Prop} (h : datAs R x f) : ∃ a, f a ∧ x = .dat R a := by
  unfold datAs at h
  split at h
  · obtain ⟨e, hR, hf⟩ := h
    subst e
    obtain rfl := eq_of_heq hR
    exact ⟨_, hf, rfl⟩
  · exact h.elim
theorem leafAs_eq : {α : Type} → (A : Rep α) → {x : LV} → {f : α → Prop} → leafAs A x f → ∃ a, f a ∧ x = A.leaf a
  | _, .int k, x, f, h => by
    cases x <;> simp only [leafAs] at h
    case int k' n => obtain ⟨rfl, h⟩ := h; exact ⟨_, h, rfl⟩
  | _, .bool, x, f, h => by
    cases x <;> simp only [leafAs] at h
    case bool b => exact ⟨_, h, rfl⟩
  | _, .str, x, f, h => by
    cases x <;> simp only [leafAs] at h
    case str b => exact ⟨_, h, rfl⟩
  | _, .unit, x, f, h => datAs_eq h
  | _, .pair A B, x, f, h => datAs_eq h
  | _, .arr n A, x, f, h => datAs_eq h
  | _, .slice A, x, f, h => datAs_eq h
  | _, .iso A to of h1 h2, x, f, h => by
    obtain ⟨hs, h⟩ : A.scalar = false ∧ datAs (.iso A to of h1 h2) x f := h
    obtain ⟨a, hf, e⟩ := datAs_eq h
    refine ⟨a, hf, ?_⟩
    rw [e]
    unfold Rep.leaf
    rw [hs]; rfl
def capsAs : {α : Type} → Rep α → List LV → (α → Prop) → Prop
  | _, .unit, xs, f => match xs with
    | [] => f ()
    | _ => False
  | _, .pair A B, xs, f => match xs with
    | x :: r => leafAs A x fun a => capsAs B r fun b => f (a, b)
    | [] => False
  | _, _, _, _ => False
theorem capsAs_eq : {α : Type} → (A : Rep α) → {xs : List LV} → {f : α → Prop} → capsAs A xs f → ∃ a, f a ∧ xs = A.argL a
  | _, .unit, xs, f, h => by
    cases xs <;> simp only [capsAs] at h
    exact ⟨(), h, rfl⟩
  | _, .pair A B, xs, f, h => by
    cases xs <;> simp only [capsAs] at h
    obtain ⟨a, h2, e1⟩ := leafAs_eq A h
    obtain ⟨b, h3, e2⟩ := capsAs_eq B h2
    exact ⟨(a, b), h3, by rw [e1, e2]; rfl⟩
  | _, .int _, _, _, h => by simp [capsAs] at h
  | _, .bool, _, _, h => by simp [capsAs] at h
  | _, .str, _, _, h => by simp [capsAs] at h
  | _, .arr _ _, _, _, h => by simp [capsAs] at h
  | _, .slice _, _, _, h => by simp [capsAs] at h
  | _, .iso _ _ _ _ _, _, _, h => by simp [capsAs] at h
/-- What pointers lead to: blocks of one leaf. -/
def capsIn (mem : List (Nat × Box)) : List SV → (List Nat → List LV → Prop) → Prop
  | [], f => f [] []
  | v :: r, f => match v with
    | .l (.ptr id [] 0) => (match getM mem id with
      | some (.segs [x]) => capsIn mem r fun ids xs => f (id :: ids) (x :: xs)
      | _ => False)
    | _ => False
theorem capsIn_spec {mem : List (Nat × Box)} : ∀ {vs : List SV} {f : List Nat → List LV → Prop}, capsIn mem vs f → ∃ ids xs, f ids xs ∧ vs = ids.map (fun i => .l (.ptr i [] 0)) ∧ ids.length = xs.length ∧ ∀ k (h1 : k < ids.length) (h2 : k < xs.length), getM mem ids[k] = some (.segs [xs[k]])
  | [], f, h => ⟨[], [], h, rfl, rfl, fun k h => by simp at h⟩
  | v :: r, f, h => by
    unfold capsIn at h
    split at h
    · rename_i id
      split at h
      · rename_i x hx
        obtain ⟨ids, xs, hf, e, hl, hk⟩ := capsIn_spec h
        refine ⟨id :: ids, x :: xs, hf, by rw [e]; rfl, by simp [hl], ?_⟩
        intro k h1 h2
        cases k with
        | zero => exact hx
        | succ k => exact hk k (by simpa using h1) (by simpa using h2)
      · exact h.elim
    · exact h.elim

/-- A contract of a closure. -/
structure ConC (P : Program) (f : FuncId) {α β : Type} (A : Rep α) (B : Rep β) (pre : α → β → Prop) (r : α → β → List LV) : Prop where
  fn : IsFn P f
  h : ∀ x y, pre x y → Spec P f ((A.argL x).map .l ++ capPtr 1 (B.argL y)) (capMem 1 (B.argL y)) (tvL (r x y)) (capMem 1 (B.argL y))

theorem capMem_ids : ∀ (i : Nat) (l : List LV), idsM (capMem i l) = (List.range' i l.length)
  | _, [] => rfl
  | i, x :: r => by
    show i :: idsM (capMem (i + 1) r) = _
    rw [capMem_ids (i + 1) r]; rfl
theorem capMem_get : ∀ (i : Nat) (l : List LV) (e : Nat × Box), e ∈ capMem i l → ∃ k, ∃ h : k < l.length, e = (i + k, .segs [l[k]])
  | _, [], e, h => by simp [capMem] at h
  | i, x :: r, e, h => by
    rcases List.mem_cons.1 h with rfl | h
    · exact ⟨0, by simp, rfl⟩
    · obtain ⟨k, hk, rfl⟩ := capMem_get (i + 1) r e h
      exact ⟨k + 1, by simpa using hk, by simp only [List.getElem_cons_succ]; congr 1; omega⟩
theorem capPtr_map (ρ : Nat → Nat) : ∀ (i : Nat) (l : List LV) (ids : List Nat), ids.length = l.length → (∀ k (h : k < ids.length), ρ (i + k) = ids[k]) → (capPtr i l).map (SV.ren ρ) = ids.map fun j => .l (.ptr j [] 0)
  | _, [], [], _, _ => rfl
  | _, [], _ :: _, h, _ => by simp at h
  | _, _ :: _, [], h, _ => by simp at h
  | i, x :: r, j :: ids, h, hρ => by
    simp only [capPtr, List.map_cons]
    rw [capPtr_map ρ (i + 1) r ids (by simpa using h) (fun k hk => by
      have := hρ (k + 1) (by simpa using hk)
      simp only [List.getElem_cons_succ] at this
      rw [← this]; congr 1; omega)]
    have := hρ 0 (by simp)
    simp only [Nat.add_zero, List.getElem_cons_zero] at this
    simp [SV.ren, LV.ren, this]
theorem getM_append {l m : List (Nat × Box)} {i : Nat} : getM (l ++ m) i = match getM l i with
    | some b => some b
    | none => getM m i := by
  induction l with
  | nil => rfl
  | cons e r ih =>
    obtain ⟨j, b⟩ := e
    simp only [List.cons_append, getM]
    cases j == i <;> simp [ih]
theorem getM_rm {mem : List (Nat × Box)} {i j : Nat} (h : j ≠ i) : getM (rmM mem i) j = getM mem j := by
  induction mem with
  | nil => rfl
  | cons e r ih =>
    obtain ⟨k, b⟩ := e
    unfold rmM
    cases hk : k == i
    · simp only [cond_false, getM, ih]
    · have : k = i := by simpa using hk
      subst this
      have : (k == j) = false := by simpa using Ne.symm h
      simp only [cond_true, getM, this, cond_false, ih]
theorem getM_rms {mem : List (Nat × Box)} {j : Nat} : ∀ {ids : List Nat}, j ∉ ids → getM (rmsM ids mem) j = getM mem j
  | [], _ => rfl
  | i :: r, h => by
    simp only [List.mem_cons, not_or] at h
    unfold rmsM
    rw [getM_rm h.1, getM_rms h.2]
theorem getM_of_mem {mem : List (Nat × Box)} (hn : (idsM mem).Nodup) {e : Nat × Box} (h : e ∈ mem) : getM mem e.1 = some e.2 := by
  induction mem with
  | nil => simp at h
  | cons x r ih =>
    obtain ⟨k, b⟩ := x
    simp only [idsM, List.map_cons, List.nodup_cons] at hn
    rcases List.mem_cons.1 h with rfl | h
    · simp [getM]
    · have : k ≠ e.1 := fun e' => hn.1 (e' ▸ List.mem_map.2 ⟨e, h, rfl⟩)
      have hk : (k == e.1) = false := by simpa using this
      simp only [getM, hk, cond_false]
      exact ih hn.2 h
theorem RelV.take {G : Hp} {γ : Nat → Value} : ∀ (n : Nat) {l : List SV} {us : List Value}, RelV G γ l us → ∃ a b, us = a ++ b ∧ RelV G γ (l.take n) a ∧ RelV G γ (l.drop n) b
  | 0, l, us, h => ⟨[], us, rfl, rfl, by simpa using h⟩
  | n + 1, [], us, h => ⟨[], us, rfl, rfl, h⟩
  | n + 1, x :: l, us, ⟨v, r, e, hx, hr⟩ => by
    obtain ⟨a, b, rfl, h1, h2⟩ := RelV.take n hr
    exact ⟨v :: a, b, by rw [e]; rfl, ⟨v, a, rfl, hx, h1⟩, h2⟩
theorem RelV.cat {G : Hp} {γ : Nat → Value} : ∀ {l m : List SV} {a b : List Value}, RelV G γ l a → RelV G γ m b → RelV G γ (l ++ m) (a ++ b)
  | [], _, _, _, h, h' => by simp only [RelV] at h; subst h; exact h'
  | _ :: _, _, _, _, ⟨v, r, e, hx, hr⟩, h' => ⟨v, r ++ _, by rw [e]; rfl, hx, RelV.cat hr h'⟩
theorem nodup_inj : ∀ {l : List Nat}, l.Nodup → ∀ {i j : Nat} (hi : i < l.length) (hj : j < l.length), l[i] = l[j] → i = j
  | [], _, _, _, hi, _, _ => by simp at hi
  | x :: r, h, 0, 0, _, _, _ => rfl
  | x :: r, h, 0, j + 1, _, hj, e => by
    rw [List.nodup_cons] at h
    simp only [List.getElem_cons_zero, List.getElem_cons_succ] at e
    exact absurd (e ▸ List.getElem_mem (by simpa using hj)) h.1
  | x :: r, h, i + 1, 0, hi, _, e => by
    rw [List.nodup_cons] at h
    simp only [List.getElem_cons_zero, List.getElem_cons_succ] at e
    exact absurd (e ▸ List.getElem_mem (by simpa using hi)) h.1
  | x :: r, h, i + 1, j + 1, hi, hj, e => by
    rw [List.nodup_cons] at h
    simp only [List.getElem_cons_succ] at e
    have := nodup_inj h.2 (by simpa using hi) (by simpa using hj) e
    omega
theorem getM_ne_none {mem : List (Nat × Box)} {i : Nat} (h : i ∈ idsM mem) : getM mem i ≠ none := by
  induction mem with
  | nil => simp [idsM] at h
  | cons e r ih =>
    obtain ⟨k, b⟩ := e
    simp only [idsM, List.map_cons, List.mem_cons] at h
    unfold getM
    cases hk : k == i
    · simp only [cond_false]
      refine ih ?_
      rcases h with h | h
      · simp [h] at hk
      · exact h
    · simp
theorem Simm.leM {R : Fr} {G : Hp} {γ : Nat → Value} {s s1 : SymSt} {a : Act} {w : World} (h : Simm R G γ s a w) (h1 : s1.sl = s.sl) (h2 : LeM s1.mem s.mem) (h3 : (idsM s1.mem).Nodup) (h4 : s1.pins = s.pins) : Simm R G γ s1 a w :=
  ⟨fun i => by rw [h1]; exact h.sl i, h.mem.sub h3 (LeM.mem h2), h.df, h4 ▸ h.pn⟩
/-- A closure is called: n data, then what it captured. -/
theorem call_C {P : Program} {f : FuncId} {α β : Type} {A : Rep α} {B : Rep β} {pre : α → β → Prop} {r : α → β → List LV} (c : ConC P f A B pre r) (n : Nat) (hr : ∀ x y, (r x y).all LV.isData = true)
    {vs0 : List SV} {s : SymSt} {K : KT} (hc : capsIn s.mem (vs0.drop n) fun ids xs => ids.Nodup ∧ capsAs B xs fun y => asArgs A (vs0.take n) fun x => pre x y ∧ (factsL (r x y) → K (tvL (r x y)) s)) : Wc P f vs0 s K := by
  obtain ⟨ids, xs, ⟨hnd, hc⟩, ev, hl, hk⟩ := capsIn_spec hc
  obtain ⟨y, hc2, rfl⟩ := capsAs_eq B hc
  refine ⟨c.fn, ?_⟩
  intro R G γ a w vs hs hv
  obtain ⟨ua, ub, rfl, hva, hvb⟩ := RelV.take n hv
  obtain ⟨x, ⟨hpre, hK⟩, hx⟩ := asArgs_rel A hc2 hva
  have hsp := c.h x y hpre
  let ρ : Nat → Nat := fun i => ids.getD (i - 1) 0
  have hρ : ∀ k (h : k < ids.length), ρ (1 + k) = ids[k] := by
    intro k h
    simp only [ρ, Nat.add_sub_cancel_left, List.getD_eq_getElem?_getD, List.getElem?_eq_getElem h]; rfl
  have hids : ∀ i ∈ idsM (capMem 1 (B.argL y)), ∃ k, ∃ h : k < ids.length, i = 1 + k ∧ ρ i = ids[k] := by
    intro i hi
    rw [capMem_ids, List.mem_range'_1] at hi
    refine ⟨i - 1, by omega, by omega, ?_⟩
    have := hρ (i - 1) (by omega)
    rw [← this]; congr 1; omega
  have hnds : (idsM s.mem).Nodup := hs.mem.choose_spec.nd
  have hdt := B.argL_data y
  have hdm : ∀ x ∈ B.argL y, x.isData = true := by simpa using hdt
  have hinj : ∀ i ∈ idsM (capMem 1 (B.argL y)), ∀ j ∈ idsM (capMem 1 (B.argL y)), ρ i = ρ j → i = j := by
    intro i hi j hj e
    obtain ⟨k, hk1, rfl, e1⟩ := hids i hi
    obtain ⟨l, hl1, rfl, e2⟩ := hids j hj
    rw [e1, e2] at e
    have := nodup_inj hnd hk1 hl1 e
    omega
  have hbox : ∀ e ∈ capMem 1 (B.argL y), getM s.mem (ρ e.1) = some (e.2.ren ρ) ∧ e.2.ids = [] ∧ e.2.ren ρ = e.2 := by
    intro e he
    obtain ⟨k, h1, rfl⟩ := capMem_get 1 _ e he
    have h2 : k < ids.length := by omega
    have hd := hdm _ (List.getElem_mem h1)
    have e2 : (Box.segs [(B.argL y)[k]]).ren ρ = .segs [(B.argL y)[k]] := by simp [Box.ren, LV.ren_data hd]
    refine ⟨?_, by simp [Box.ids, idsL, LV.ids_data hd], e2⟩
    simp only
    rw [e2, hρ k h2]
    exact hk k h2 h1
  have hw : Wc P f ((A.argL x).map .l ++ ids.map fun j => .l (.ptr j [] 0)) s (fun tv s' => tv = tvL (r x y) ∧ s' = s.back ((idsM (capMem 1 (B.argL y))).map ρ) [] (renM ρ (capMem 1 (B.argL y)))) := by
    refine Wc_spec hsp ρ [] ?_ hinj hinj (fun j h1 h2 => absurd h1 h2) (by simp) ?_ ?_ (fun e he => (hbox e he).1) ?_ ?_
    · rw [capMem_ids]; exact List.nodup_range'
    · intro i hi
      rw [tvL_ids (data_noIds (hr x y))] at hi
      simp at hi
    · intro e he i hi
      rw [(hbox e he).2.1] at hi
      simp at hi
    · intro G γ us hu
      rw [List.map_append, map_ren_data (A.argL_data x), capPtr_map ρ 1 _ ids hl fun k h => hρ k h]
      exact hu
    · rw [tvL_ren (hr x y)]
      exact ⟨rfl, rfl⟩
  refine (hw.2 R G γ a w _ hs (RelV.cat hx (ev ▸ hvb))).mono ?_
  rintro e w' ⟨v, rfl, G', γ', tv, s', hg, ⟨rfl, rfl⟩, hrel, hs'⟩
  refine ⟨v, rfl, G', γ', _, s, hg, hK (factsL_tv hrel), hrel, hs'.leM rfl ?_ hnds rfl⟩
  · have : ∀ l : List (Nat × Box), (∀ e ∈ l, e ∈ s.mem) → LeM l (s.back ((idsM (capMem 1 (B.argL y))).map ρ) [] (renM ρ (capMem 1 (B.argL y)))).mem := by
      intro l
      induction l with
      | nil => intro _; trivial
      | cons e l ih =>
        intro h
        refine ⟨?_, ih fun x hx => h x (by simp [hx])⟩
        have hm := getM_of_mem hnds (h e (by simp))
        simp only [SymSt.back, killsM, getM_append]
        cases hg : getM (renM ρ (capMem 1 (B.argL y))) e.1 with
        | none =>
          simp only
          rw [getM_rms, hm]
          intro hin
          obtain ⟨i, hi, e1⟩ := List.mem_map.1 hin
          obtain ⟨e2, he2, rfl⟩ := List.mem_map.1 hi
          exact getM_ne_none (mem := renM ρ (capMem 1 (B.argL y))) (by rw [renM_ids]; exact List.mem_map.2 ⟨_, hi, e1⟩) hg
        | some b =>
          simp only
          obtain ⟨e2, he2, e3⟩ := renM_mem (getM_mem hg)
          simp only [Prod.mk.injEq] at e3
          rw [← hm, e3.1, (hbox e2 he2).1, e3.2]
    exact this _ fun _ h => h
end Go.Proofs.Ytnmjcdlgfimnaaa
