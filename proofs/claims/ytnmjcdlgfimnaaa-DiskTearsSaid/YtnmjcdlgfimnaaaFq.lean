/- Contracts of functions with memory: what is handed over, what comes back; the caller's own names. -/
import Derived.Test.YtnmjcdlgfimnaaaFo
namespace Go.Proofs.Ytnmjcdlgfimnaaa

def LV.ren (ρ : Nat → Nat) : LV → LV
  | .own i => .own (ρ i)
  | .ptr i p o => .ptr (ρ i) p o
  | .view i p o n lo len => .view (ρ i) p o n lo len
  | .clo f caps => .clo f (caps.map ρ)
  | .mp i => .mp (ρ i)
  | .ocut i n => .ocut (ρ i) n
  | .mrow m V k => .mrow (ρ m) V k
  | .mcut m V k n => .mcut (ρ m) V k n
  | x => x
def SV.ren (ρ : Nat → Nat) : SV → SV
  | .l x => .l (x.ren ρ)
  | .agg xs => .agg (xs.map (LV.ren ρ))
def TV.ren (ρ : Nat → Nat) : TV → TV
  | .one x => .one (x.ren ρ)
  | .tup xs => .tup (xs.map (SV.ren ρ))
def Box.ren (ρ : Nat → Nat) : Box → Box
  | .segs l => .segs (l.map (LV.ren ρ))
  | .sarr k l => .sarr k (l.map (LV.ren ρ))
  | .mpr A M V (some (k, some i)) => .mpr A M V (some (k, some (ρ i)))
  | b => b
def renM (ρ : Nat → Nat) : List (Nat × Box) → List (Nat × Box)
  | [] => []
  | (i, b) :: r => (ρ i, b.ren ρ) :: renM ρ r

section
variable {G : Hp} {γ : Nat → Value} {ρ : Nat → Nat}
theorem LV.ren_rel {x : LV} {cs : List Value} : (x.ren ρ).rel G γ cs ↔ x.rel G (fun i => γ (ρ i)) cs := by
  cases x <;> simp [LV.ren, LV.rel, Function.comp_def]
theorem LV.ren_relV {x : LV} {v : Value} : (x.ren ρ).relV G γ v ↔ x.relV G (fun i => γ (ρ i)) v := by
  cases x <;> simp [LV.ren, LV.relV, LV.rel, Function.comp_def]
theorem RelL.ren : ∀ {l : List LV} {cs : List Value}, RelL G γ (l.map (LV.ren ρ)) cs ↔ RelL G (fun i => γ (ρ i)) l cs
  | [], _ => Iff.rfl
  | x :: l, cs => by
    constructor
    · rintro ⟨c, d, e, hx, hl⟩; exact ⟨c, d, e, LV.ren_rel.1 hx, RelL.ren.1 hl⟩
    · rintro ⟨c, d, e, hx, hl⟩; exact ⟨c, d, e, LV.ren_rel.2 hx, RelL.ren.2 hl⟩
theorem SV.ren_rel {x : SV} {v : Value} : (x.ren ρ).rel G γ v ↔ x.rel G (fun i => γ (ρ i)) v := by
  cases x with
  | l x => exact LV.ren_relV
  | agg xs =>
    constructor
    · rintro ⟨cs, hc, e⟩; exact ⟨cs, RelL.ren.1 hc, e⟩
    · rintro ⟨cs, hc, e⟩; exact ⟨cs, RelL.ren.2 hc, e⟩
theorem RelV.ren : ∀ {l : List SV} {us : List Value}, RelV G γ (l.map (SV.ren ρ)) us ↔ RelV G (fun i => γ (ρ i)) l us
  | [], _ => Iff.rfl
  | x :: l, us => by
    constructor
    · rintro ⟨v, r, e, hx, hl⟩; exact ⟨v, r, e, SV.ren_rel.1 hx, RelV.ren.1 hl⟩
    · rintro ⟨v, r, e, hx, hl⟩; exact ⟨v, r, e, SV.ren_rel.2 hx, RelV.ren.2 hl⟩
theorem TV.ren_rel {x : TV} {v : Value} : (x.ren ρ).rel G γ v ↔ x.rel G (fun i => γ (ρ i)) v := by
  cases x with
  | one x => exact SV.ren_rel
  | tup xs =>
    constructor
    · rintro ⟨vs, hv, e⟩; exact ⟨vs, RelV.ren.1 hv, e⟩
    · rintro ⟨vs, hv, e⟩; exact ⟨vs, RelV.ren.2 hv, e⟩
theorem Box.ren_at {x : Box} {v : Value} {f : Hp} : (x.ren ρ).at G γ v f ↔ x.at G (fun i => γ (ρ i)) v f := by
  cases x with
  | segs l =>
    constructor
    · rintro ⟨b, t, cs, e, ef, hl⟩; exact ⟨b, t, cs, e, ef, RelL.ren.1 hl⟩
    · rintro ⟨b, t, cs, e, ef, hl⟩; exact ⟨b, t, cs, e, ef, RelL.ren.2 hl⟩
  | arr R l => exact Iff.rfl
  | sarr k l =>
    constructor
    · rintro ⟨b, t, es, sp, c, e, ef, hl, hn⟩; exact ⟨b, t, es, sp, c, e, ef, RelL.ren.1 hl, hn⟩
    · rintro ⟨b, t, es, sp, c, e, ef, hl, hn⟩; exact ⟨b, t, es, sp, c, e, ef, RelL.ren.2 hl, hn⟩
  | obj O D => exact Iff.rfl
  | mpr A M V dead =>
    rcases dead with _ | ⟨k, _ | i⟩
    · exact ⟨fun h => ⟨h.1, fun k i hd => by simp at hd⟩, fun h => ⟨h.1, fun k i hd => by simp at hd⟩⟩
    · exact ⟨fun h => ⟨h.1, fun k i hd => by simp at hd⟩, fun h => ⟨h.1, fun k i hd => by simp at hd⟩⟩
    · constructor
      · intro h
        refine ⟨h.1, fun k' i' hd => ?_⟩
        simp only [Option.some.injEq, Prod.mk.injEq] at hd
        obtain ⟨rfl, rfl⟩ := hd
        exact h.2 k (ρ i) rfl
      · intro h
        refine ⟨h.1, fun k' i' hd => ?_⟩
        simp only [Option.some.injEq, Prod.mk.injEq] at hd
        obtain ⟨rfl, rfl⟩ := hd
        exact h.2 k i rfl
end
theorem renM_mem {ρ : Nat → Nat} : ∀ {mem : List (Nat × Box)} {e : Nat × Box}, e ∈ renM ρ mem → ∃ e' ∈ mem, e = (ρ e'.1, e'.2.ren ρ)
  | [], _, h => by simp [renM] at h
  | (i, b) :: r, e, h => by
    rcases List.mem_cons.1 h with rfl | h
    · exact ⟨(i, b), by simp, rfl⟩
    · obtain ⟨e', h1, h2⟩ := renM_mem h
      exact ⟨e', by simp [h1], h2⟩
theorem renM_ids {ρ : Nat → Nat} : ∀ mem : List (Nat × Box), idsM (renM ρ mem) = (idsM mem).map ρ
  | [] => rfl
  | (i, b) :: r => by
    show ρ i :: idsM (renM ρ r) = ρ i :: (idsM r).map ρ
    rw [renM_ids r]

/-- A contract: what is handed over, and what comes back. -/
def Spec (P : Program) (f : FuncId) (args : List SV) (mem : List (Nat × Box)) (tv : TV) (mem' : List (Nat × Box)) : Prop :=
  IsFn P f ∧ ∀ (R : Fr) (G : Hp) (γ : Nat → Value) (w : World) (vs : List Value), (∀ i, R.pin i = if i ∈ idsM mem then some (γ i) else none) → MemAt R G γ mem w → RelV G γ args vs →
    Calls P f vs.toArray w fun e w' => ∃ v G' γ', e = .returned v ∧ Hp.le G G' ∧ tv.rel G' γ' v ∧ MemAt R G' γ' mem' w'

def killsSl : List Nat → List (Nat × TV) → List (Nat × TV)
  | [], sl => sl
  | i :: r, sl => killSl i (killsSl r sl)
def killsM : List Nat → List (Nat × Box) → List (Nat × Box)
  | [], m => m
  | i :: r, m => killMem i (killsM r m)
def rmsM : List Nat → List (Nat × Box) → List (Nat × Box)
  | [], m => m
  | i :: r, m => rmM (rmsM r m) i
/-- The caller's state behind a call. -/
def SymSt.back (s : SymSt) (olds news : List Nat) (mem : List (Nat × Box)) : SymSt := ⟨killsSl news s.sl, mem ++ killsM news (rmsM olds s.mem), s.pins⟩

theorem killsSl_ok {G : Hp} {γ γ' : Nat → Value} : ∀ {ids : List Nat} {sl : List (Nat × TV)} {ts : Array Value}, (∀ i, i ∉ ids → γ' i = γ i) → SlotsOk G γ sl ts → SlotsOk G γ' (killsSl ids sl) ts
  | [], sl, ts, h, hs => fun i => TV.rel_congr (fun j _ => h j (by simp)) (hs i)
  | k :: r, sl, ts, h, hs => by
    classical
    have h1 : SlotsOk G (fun i => if i = k then γ k else γ' i) (killsSl r sl) ts := killsSl_ok (fun i hi => by
      by_cases e : i = k
      · simp [e]
      · simp only [if_neg e]; exact h i (by simp [e, hi])) hs
    exact h1.kill fun i hi => by simp [hi]
theorem killsM_mem {G : Hp} {γ γ' : Nat → Value} : ∀ {ids : List Nat} {mem : List (Nat × Box)} {e : Nat × Box}, (∀ i, i ∉ ids → γ' i = γ i) → e ∈ killsM ids mem → e.1 ∉ ids ∧ ∃ b, (e.1, b) ∈ mem ∧ ∀ v f, b.at G γ v f → e.2.at G γ' v f
  | [], mem, e, h, he => ⟨by simp, e.2, he, fun v f hb => Box.at_congr (fun j _ => h j (by simp)) hb⟩
  | k :: r, mem, e, h, he => by
    classical
    obtain ⟨h1, b, h2, h3⟩ := killMem_mem he
    obtain ⟨h4, b', h5, h6⟩ := killsM_mem (G := G) (γ := γ) (γ' := fun i => if i = k then γ k else γ' i) (fun i hi => by
      by_cases e : i = k
      · simp [e]
      · simp only [if_neg e]; exact h i (by simp [e, hi])) h2
    refine ⟨by simp [h1, h4], b', h5, fun v f hb => ?_⟩
    rw [h3]
    exact Box.kill_at (fun i hi => by simp [hi]) (h6 v f hb)
theorem killsM_nodup : ∀ {ids : List Nat} {mem : List (Nat × Box)}, (idsM mem).Nodup → (idsM (killsM ids mem)).Nodup
  | [], _, h => h
  | _ :: _, _, h => killMem_ids (killsM_nodup h)
theorem killsM_ids : ∀ {ids : List Nat} {mem : List (Nat × Box)} {i : Nat}, i ∈ idsM (killsM ids mem) → i ∈ idsM mem ∧ i ∉ ids
  | [], _, _, h => ⟨h, by simp⟩
  | k :: r, mem, i, h => by
    obtain ⟨h1, h2⟩ := killMem_sub i h
    obtain ⟨h3, h4⟩ := killsM_ids h1
    exact ⟨h3, by simp [h2, h4]⟩
theorem rmsM_mem : ∀ {ids : List Nat} {mem : List (Nat × Box)} {e : Nat × Box}, e ∈ rmsM ids mem → e ∈ mem ∧ e.1 ∉ ids
  | [], _, _, h => ⟨h, by simp⟩
  | k :: r, mem, e, h => by
    obtain ⟨h1, h2⟩ := rmM_mem h
    obtain ⟨h3, h4⟩ := rmsM_mem h1
    exact ⟨h3, by simp [h2, h4]⟩
theorem rmsM_nodup : ∀ {ids : List Nat} {mem : List (Nat × Box)}, (idsM mem).Nodup → (idsM (rmsM ids mem)).Nodup
  | [], _, h => h
  | _ :: _, _, h => rmM_ids (rmsM_nodup h)

theorem Wc_spec {P : Program} {f : FuncId} {args as : List SV} {mem mem' : List (Nat × Box)} {tv : TV} {s : SymSt} {K : KT} (h : Spec P f args mem tv mem') (ρ : Nat → Nat) (news : List Nat) (hnd : (idsM mem).Nodup)
    (inj : ∀ i ∈ idsM mem, ∀ j ∈ idsM mem, ρ i = ρ j → i = j) (inj' : ∀ i ∈ idsM mem', ∀ j ∈ idsM mem', ρ i = ρ j → i = j)
    (hn : ∀ j ∈ idsM mem', j ∉ idsM mem → ρ j ∈ news) (hpin : ∀ i ∈ news, i ∉ s.pins)
    (cl : ∀ i ∈ tv.ids, i ∈ idsM mem') (clb : ∀ e ∈ mem', ∀ i ∈ e.2.ids, i ∈ idsM mem')
    (hm : ∀ e ∈ mem, getM s.mem (ρ e.1) = some (e.2.ren ρ)) (ha : ∀ G γ us, RelV G γ as us → RelV G γ (args.map (SV.ren ρ)) us)
    (hK : K (tv.ren ρ) (s.back ((idsM mem).map ρ) news (renM ρ mem'))) : Wc P f as s K := by
  classical
  refine ⟨h.1, ?_⟩
  intro R G γ a w vs hs hv
  obtain ⟨fr, hmf⟩ := hs.mem
  have hid : ∀ i ∈ idsM mem, ρ i ∈ idsM s.mem := by
    intro i hi
    obtain ⟨e, he, rfl⟩ := List.mem_map.1 hi
    exact List.mem_map.2 ⟨_, getM_mem (hm e he), rfl⟩
  let γ0 : Nat → Value := fun i => γ (ρ i)
  let Rh : Hp := fun b => if G b = none ∧ ∀ i ∈ idsM mem, fr (ρ i) b = none then hpOf w b else none
  let R' : Fr := ⟨Rh, R.os, R.out, fun i => if i ∈ idsM mem then some (γ0 i) else none⟩
  have hRh : ∀ b, Rh b ≠ none → G b = none ∧ ∀ i ∈ idsM mem, fr (ρ i) b = none := by
    intro b hb
    simp only [Rh] at hb
    split at hb
    · assumption
    · simp at hb
  have hRle : ∀ b o, Rh b = some o → hpOf w b = some o := by
    intro b o hb
    simp only [Rh] at hb
    split at hb
    · exact hb
    · simp at hb
  have hRin : ∀ b o, hpOf w b = some o → G b = none → (∀ i ∈ idsM mem, fr (ρ i) b = none) → Rh b = some o := by
    intro b o hb h1 h2
    simp only [Rh, if_pos (⟨h1, h2⟩ : G b = none ∧ ∀ i ∈ idsM mem, fr (ρ i) b = none)]
    exact hb
  have hcall : MemF R' G γ0 (fun i => fr (ρ i)) mem w := by
    refine ⟨hnd, fun i v hi => ?_, fun e he => ?_, ⟨hmf.ok.g, hRle, fun b hb => ?_, fun i hi => hmf.ok.f _ (hid i hi), fun i hi => hmf.ok.gf _ (hid i hi), fun i hi b hb => ?_, fun i hi j hj hij => hmf.ok.ff _ (hid i hi) _ (hid j hj) fun e => hij (inj i hi j hj e), hmf.ok.os, hmf.ok.out⟩⟩
    · simp only [R'] at hi
      split at hi
      · simpa using hi
      · simp at hi
    · have := hmf.at' _ (getM_mem (hm e he))
      exact Box.ren_at.1 this
    · cases hr : Rh b with
      | none => exact hr
      | some o => exact absurd (hRh b (by simp [hr])).1 hb
    · cases hr : Rh b with
      | none => exact hr
      | some o => exact absurd ((hRh b (by simp [hr])).2 i hi) hb
  have hargs : RelV G γ0 args vs := RelV.ren.1 (ha G γ vs hv)
  refine (h.2 R' G γ0 w vs (fun i => rfl) ⟨_, hcall⟩ hargs).mono ?_
  rintro e w' ⟨v, G', γ1, rfl, hg, hrel, fr1, hmf1⟩
  have hpin1 : ∀ i ∈ idsM mem, γ1 i = γ0 i := fun i hi => hmf1.pin i _ (by simp only [R', if_pos hi])
  let γ2 : Nat → Value := fun k => if hk : ∃ j ∈ idsM mem', ρ j = k then γ1 (Classical.choose hk) else γ k
  let fr2 : Nat → Hp := fun k => if hk : ∃ j ∈ idsM mem', ρ j = k then fr1 (Classical.choose hk) else fr k
  have ch : ∀ j ∈ idsM mem', ∀ hk : ∃ i ∈ idsM mem', ρ i = ρ j, Classical.choose hk = j := fun j hj hk =>
    inj' _ (Classical.choose_spec hk).1 j hj (Classical.choose_spec hk).2
  have g2 : ∀ j ∈ idsM mem', γ2 (ρ j) = γ1 j := by
    intro j hj
    have hk : ∃ i ∈ idsM mem', ρ i = ρ j := ⟨j, hj, rfl⟩
    simp only [γ2, dif_pos hk, ch j hj hk]
  have f2 : ∀ j ∈ idsM mem', fr2 (ρ j) = fr1 j := by
    intro j hj
    have hk : ∃ i ∈ idsM mem', ρ i = ρ j := ⟨j, hj, rfl⟩
    simp only [fr2, dif_pos hk, ch j hj hk]
  have g2' : ∀ k, k ∉ news → γ2 k = γ k := by
    intro k hk
    simp only [γ2]
    split
    · rename_i hx
      obtain ⟨h1, h2⟩ := Classical.choose_spec hx
      by_cases hin : Classical.choose hx ∈ idsM mem
      · rw [hpin1 _ hin]
        show γ (ρ _) = γ k
        rw [h2]
      · exact absurd (h2 ▸ hn _ h1 hin) hk
    · rfl
  have hcongr : ∀ {x : TV}, (∀ i ∈ x.ids, i ∈ idsM mem') → x.rel G' γ1 v → (x.ren ρ).rel G' γ2 v := fun hx hr =>
    TV.ren_rel.2 (TV.rel_congr (fun i hi => g2 i (hx i hi)) hr)
  -- the other boxes
  have hoth : ∀ {e : Nat × Box}, e ∈ killsM news (rmsM ((idsM mem).map ρ) s.mem) → e.1 ∈ idsM s.mem ∧ (∀ i ∈ idsM mem, e.1 ≠ ρ i) ∧ (∀ j ∈ idsM mem', e.1 ≠ ρ j) ∧ e.2.at G' γ2 (γ e.1) (fr e.1) := by
    intro e he
    obtain ⟨h1, b, h2, h3⟩ := killsM_mem (G := G) (γ := γ) (γ' := γ2) g2' he
    obtain ⟨h4, h5⟩ := rmsM_mem h2
    have hne : ∀ i ∈ idsM mem, e.1 ≠ ρ i := fun i hi e1 => h5 (List.mem_map.2 ⟨i, hi, e1.symm⟩)
    refine ⟨List.mem_map.2 ⟨_, h4, rfl⟩, hne, fun j hj e1 => ?_, Box.at_mono hg (h3 _ _ (hmf.at' _ h4))⟩
    by_cases hin : j ∈ idsM mem
    · exact hne j hin e1
    · exact h1 (e1 ▸ hn j hj hin)
  have hothid : ∀ {k : Nat}, k ∈ idsM (killsM news (rmsM ((idsM mem).map ρ) s.mem)) → k ∈ idsM s.mem ∧ (∀ i ∈ idsM mem, k ≠ ρ i) ∧ (∀ j ∈ idsM mem', k ≠ ρ j) := by
    intro k hk
    obtain ⟨e, he, rfl⟩ := List.mem_map.1 hk
    obtain ⟨h1, h2, h3, _⟩ := hoth he
    exact ⟨h1, h2, h3⟩
  have hfo : ∀ {k : Nat}, (∀ j ∈ idsM mem', k ≠ ρ j) → fr2 k = fr k := by
    intro k hk
    have : ¬ ∃ j ∈ idsM mem', ρ j = k := fun ⟨j, hj, e⟩ => hk j hj e.symm
    simp only [fr2, dif_neg this]
  have hgo : ∀ {k : Nat}, (∀ j ∈ idsM mem', k ≠ ρ j) → γ2 k = γ k := by
    intro k hk
    have : ¬ ∃ j ∈ idsM mem', ρ j = k := fun ⟨j, hj, e⟩ => hk j hj e.symm
    simp only [γ2, dif_neg this]
  have hkept : ∀ {k : Nat}, k ∈ idsM s.mem → (∀ i ∈ idsM mem, k ≠ ρ i) → ∀ b o, fr k b = some o → Rh b = some o := by
    intro k hk hne b o hb
    exact hRin b o (hmf.ok.f k hk b o hb) (hmf.ok.gf k hk b (by simp [hb])) fun i hi => hmf.ok.ff k hk _ (hid i hi) (hne i hi) b (by simp [hb])
  have hRkept : ∀ b o, R.hp b = some o → Rh b = some o := by
    intro b o hb
    refine hRin b o (hmf.ok.r b o hb) ?_ fun i hi => ?_
    · cases hgb : G b with
      | none => rfl
      | some x => exact absurd (hmf.ok.gr b (by simp [hgb])) (by simp [hb])
    · cases hfb : fr (ρ i) b with
      | none => rfl
      | some x => exact absurd (hmf.ok.rf _ (hid i hi) b (by simp [hfb])) (by simp [hb])
  have hgr' : ∀ b, Rh b ≠ none → G' b = none := by
    intro b hb
    cases hgb : G' b with
    | none => rfl
    | some x => exact absurd (hmf1.ok.gr b (by simp [hgb])) hb
  have hfr' : ∀ j ∈ idsM mem', ∀ b, fr1 j b ≠ none → Rh b = none := fun j hj b hb => hmf1.ok.rf j hj b hb
  refine ⟨v, rfl, G', γ2, _, _, hg, hK, hcongr cl hrel, ⟨?_, ⟨fr2, ?_, ?_, ?_, ?_⟩, hs.df, hs.pn⟩⟩
  · exact killsSl_ok g2' fun i => TV.rel_mono hg (hs.sl i)
  · show (idsM (renM ρ mem' ++ killsM news (rmsM ((idsM mem).map ρ) s.mem))).Nodup
    simp only [idsM, List.map_append]
    rw [List.nodup_append]
    refine ⟨?_, killsM_nodup (rmsM_nodup hmf.nd), ?_⟩
    · show (idsM (renM ρ mem')).Nodup
      rw [renM_ids]
      unfold List.Nodup
      rw [List.pairwise_map]
      exact List.Pairwise.imp_of_mem (fun hi hj hne e => hne (inj' _ hi _ hj e)) hmf1.nd
    · intro x hx y hy e
      subst e
      have hx' : x ∈ idsM (renM ρ mem') := hx
      rw [renM_ids] at hx'
      obtain ⟨j, hj, rfl⟩ := List.mem_map.1 hx'
      exact (hothid hy).2.2 j hj rfl
  · intro i u hi
    have h1 := hmf.pin i u hi
    have h2 : i ∈ s.pins := hs.pn i (by simp [hi])
    rw [g2' i (fun hin => hpin i hin h2)]
    exact h1
  · intro e he
    rcases List.mem_append.1 he with he | he
    · obtain ⟨e', h1, rfl⟩ := renM_mem he
      have hj : e'.1 ∈ idsM mem' := List.mem_map.2 ⟨_, h1, rfl⟩
      simp only [g2 _ hj, f2 _ hj]
      exact Box.ren_at.2 (Box.at_congr (fun i hi => g2 i (clb e' h1 i hi)) (hmf1.at' e' h1))
    · obtain ⟨h1, h2, h3, h4⟩ := hoth he
      rw [hgo h3, hfo h3]
      exact h4
  · have hin : ∀ {k : Nat}, k ∈ idsM (renM ρ mem' ++ killsM news (rmsM ((idsM mem).map ρ) s.mem)) → (∃ j ∈ idsM mem', k = ρ j) ∨ (k ∈ idsM s.mem ∧ (∀ i ∈ idsM mem, k ≠ ρ i) ∧ (∀ j ∈ idsM mem', k ≠ ρ j)) := by
      intro k hk
      simp only [idsM, List.map_append, List.mem_append] at hk
      rcases hk with hk | hk
      · have hk' : k ∈ idsM (renM ρ mem') := hk
        rw [renM_ids] at hk'
        obtain ⟨j, hj, rfl⟩ := List.mem_map.1 hk'
        exact .inl ⟨j, hj, rfl⟩
      · exact .inr (hothid hk)
    refine ⟨hmf1.ok.g, fun b o hb => hmf1.ok.r b o (hRkept b o hb), fun b hb => ?_, ?_, ?_, ?_, ?_, hmf1.ok.os, hmf1.ok.out⟩
    · cases hr : R.hp b with
      | none => rfl
      | some o => exact absurd (hgr' b (by simp [hRkept b o hr])) hb
    · intro k hk
      rcases hin hk with ⟨j, hj, rfl⟩ | ⟨h1, h2, h3⟩
      · rw [f2 j hj]; exact hmf1.ok.f j hj
      · rw [hfo h3]; exact fun b o hb => hmf1.ok.r b o (hkept h1 h2 b o hb)
    · intro k hk b hb
      rcases hin hk with ⟨j, hj, rfl⟩ | ⟨h1, h2, h3⟩
      · rw [f2 j hj] at hb; exact hmf1.ok.gf j hj b hb
      · rw [hfo h3] at hb
        obtain ⟨o, ho⟩ := Option.ne_none_iff_exists'.1 hb
        exact hgr' b (by simp [hkept h1 h2 b o ho])
    · intro k hk b hb
      rcases hin hk with ⟨j, hj, rfl⟩ | ⟨h1, h2, h3⟩
      · rw [f2 j hj] at hb
        have := hfr' j hj b hb
        cases hr : R.hp b with
        | none => rfl
        | some o => rw [hRkept b o hr] at this; simp at this
      · rw [hfo h3] at hb; exact hmf.ok.rf k h1 b hb
    · intro k hk l hl hkl b hb
      rcases hin hk with ⟨j, hj, rfl⟩ | ⟨h1, h2, h3⟩ <;> rcases hin hl with ⟨j', hj', rfl⟩ | ⟨h1', h2', h3'⟩
      · rw [f2 j hj] at hb; rw [f2 j' hj']; exact hmf1.ok.ff j hj j' hj' (fun e => hkl (by rw [e])) b hb
      · rw [f2 j hj] at hb; rw [hfo h3']
        have := hfr' j hj b hb
        cases hf : fr l b with
        | none => rfl
        | some o => rw [hkept h1' h2' b o hf] at this; simp at this
      · rw [hfo h3] at hb; rw [f2 j' hj']
        obtain ⟨o, ho⟩ := Option.ne_none_iff_exists'.1 hb
        have := hkept h1 h2 b o ho
        cases hf : fr1 j' b with
        | none => rfl
        | some x => rw [hfr' j' hj' b (by simp [hf])] at this; simp at this
      · rw [hfo h3] at hb; rw [hfo h3']; exact hmf.ok.ff k h1 l h1' hkl b hb

/-! A contract, out of the code. -/
theorem Ok.freezeSome {w : World} {R : Fr} {fr : Nat → Hp} : ∀ {ids1 ids : List Nat} {G : Hp}, ids1.Nodup → (∀ i ∈ ids1, i ∈ ids) → Ok w G R ids fr →
    Ok w (unionG G fr ids1) R (ids.filter fun i => !ids1.contains i) fr ∧ ∀ i ∈ ids1, Hp.le (fr i) (unionG G fr ids1)
  | [], ids, G, _, _, h => ⟨h.sub fun i hi => (List.mem_filter.1 hi).1, by simp⟩
  | k :: r, ids, G, hn, hs, h => by
    simp only [List.nodup_cons] at hn
    obtain ⟨h1, h2⟩ := Ok.freezeSome hn.2 (fun i hi => hs i (by simp [hi])) h
    have hk : k ∈ ids.filter fun i => !r.contains i := List.mem_filter.2 ⟨hs k (by simp), by simp [hn.1]⟩
    have h3 := h1.freeze hk
    refine ⟨h3.sub fun i hi => ?_, fun i hi b o hb => ?_⟩
    · simp only [List.mem_filter, List.contains_cons, Bool.not_or, Bool.and_eq_true, Bool.not_eq_true', beq_eq_false_iff_ne, ne_eq, decide_not, decide_eq_false_iff_not] at hi ⊢
      exact ⟨⟨hi.1, hi.2.2⟩, hi.2.1⟩
    · show ((unionG G fr r b).or (fr k b)) = some o
      rcases List.mem_cons.1 hi with rfl | hi
      · have := h1.gf i hk b (by simp [hb])
        simp [this, hb]
      · have := h2 i hi b o hb
        simp [this]

theorem LeM.ids {l mem : List (Nat × Box)} (h : LeM l mem) : ∀ i ∈ idsM l, i ∈ idsM mem := by
  intro i hi
  obtain ⟨e, he, rfl⟩ := List.mem_map.1 hi
  exact List.mem_map.2 ⟨e, LeM.mem h e he, rfl⟩

/-- Of a memory another one is told: parts put together. Names from 5000 on are free. -/
def Closes (mx mem : List (Nat × Box)) : Prop := ∀ R G γ w, (∀ j, 5000 ≤ j → R.pin j = none) → MemAt R G γ mx w → ∃ γ', (∀ j, j < 5000 → γ' j = γ j) ∧ MemAt R G γ' mem w
theorem Closes.refl (mem : List (Nat × Box)) : Closes mem mem := fun _ _ γ _ _ h => ⟨γ, fun _ _ => rfl, h⟩
theorem Closes.trans {a b c : List (Nat × Box)} (h : Closes a b) (h' : Closes b c) : Closes a c := fun R G γ w hp x => by
  obtain ⟨γ1, h1, x1⟩ := h R G γ w hp x
  obtain ⟨γ2, h2, x2⟩ := h' R G γ1 w hp x1
  exact ⟨γ2, fun j hj => (h2 j hj).trans (h1 j hj), x2⟩
theorem Closes.row {mem : List (Nat × Box)} {m id : Nat} {α : Type} {A : Rep α} {M : Int → List α} {V : Int → Value} {k : Int} {l : List α} (hg : getM mem m = some (.mpr A M V (some (k, some id)))) (hgd : getM mem id = some (.arr A l)) :
    Closes mem (rmM (setM mem m (.mpr A (updM M k l) V none)) id) := fun _ _ γ _ _ h => ⟨γ, fun _ _ => rfl, h.closeRow hg hgd⟩
theorem Closes.sub {mem mem' : List (Nat × Box)} (hn : (idsM mem').Nodup) (hs : ∀ e ∈ mem', e ∈ mem) : Closes mem mem' := fun _ _ γ _ _ h => ⟨γ, fun _ _ => rfl, h.sub hn hs⟩
/-- Things laid open, each in one of some ways. -/
def Opens {ι : Type 1} (mem : List (Nat × Box)) (mx : ι → List (Nat × Box)) : Prop :=
  ∀ R G γ w, (∀ j, 5000 ≤ j → R.pin j = none) → MemAt R G γ mem w → ∃ i γ', (∀ j, j < 5000 → γ' j = γ j) ∧ MemAt R G γ' (mx i) w
theorem Opens.refl (mem : List (Nat × Box)) : Opens mem (fun _ : PUnit => mem) := fun _ _ γ _ _ h => ⟨⟨⟩, γ, fun _ _ => rfl, h⟩

/-- Nothing at all as a row of its own. -/
theorem Closes.nils {id n : Nat} {p q : List LV} {rest : List (Nat × Box)} {α : Type} (A : Rep α) (hn : 5000 ≤ n) (hid : n ≠ id) (h1 : n ∉ idsL p) (h2 : n ∉ idsL q) (h3 : n ∉ idsM rest) (h4 : ∀ e ∈ rest, n ∉ e.2.ids) :
    Closes ((id, .segs (p ++ .nils :: q)) :: rest) ((id, .segs (p ++ .own n :: q)) :: (n, .arr A []) :: rest) := by
  intro R G γ w hp ⟨fr, hnd, hpin, hat, hok⟩
  simp only [idsM, List.map_cons, List.nodup_cons] at hnd
  have hγ : ∀ i, i ≠ n → updG γ n (.slice none 0 0) i = γ i := fun i hi => updG_ne hi
  refine ⟨updG γ n (.slice none 0 0), fun j hj => hγ j (by omega), updF fr n emp, ?_, ?_, ?_, ?_⟩
  · simp only [idsM, List.map_cons, List.nodup_cons, List.mem_cons, not_or]
    exact ⟨⟨Ne.symm hid, hnd.1⟩, h3, hnd.2⟩
  · intro i v hi
    have : i ≠ n := by rintro rfl; rw [hp i hn] at hi; simp at hi
    rw [hγ i this]; exact hpin i v hi
  · intro e he
    rcases List.mem_cons.1 he with rfl | he
    · simp only
      rw [hγ id (Ne.symm hid), updF_ne (Ne.symm hid)]
      obtain ⟨b, t, cs, e1, e2, hl⟩ := hat (id, .segs (p ++ .nils :: q)) (by simp)
      refine ⟨b, t, cs, e1, e2, ?_⟩
      obtain ⟨c, d, rfl, hc, c2, d2, rfl, hx, hd⟩ := EncL.append_inv hl
      refine EncL.append (RelL.congr (fun i hi => hγ i (fun e => h1 (e ▸ hi))) hc) ⟨c2, d2, rfl, ?_, RelL.congr (fun i hi => hγ i (fun e => h2 (e ▸ hi))) hd⟩
      have hx' : c2 = [.slice none 0 0] := hx
      exact ⟨by rw [updG_same, hx'], by rw [updG_same]; rfl⟩
    · rcases List.mem_cons.1 he with rfl | he
      · simp only [updG_same, updF_same]
        exact .inr ⟨rfl, ⟨none, rfl⟩, rfl⟩
      · have hne : e.1 ≠ n := fun h => h3 (h ▸ List.mem_map.2 ⟨e, he, rfl⟩)
        rw [hγ _ hne, updF_ne hne]
        exact Box.at_congr (fun j hj => hγ j (fun h => h4 e he (h ▸ hj))) (hat e (by simp [he]))
  · refine ((hok.nothing (d := n) ?_).sub ?_)
    · simp only [idsM, List.map_cons, List.mem_cons, not_or]
      exact ⟨hid, h3⟩
    · intro i hi
      simp only [idsM, List.map_cons, List.mem_cons] at hi ⊢
      rcases hi with h | h | h
      · exact .inr (.inl h)
      · exact .inl h
      · exact .inr (.inr h)

/-- A row cut off at an end as a row of its own. -/
theorem Closes.ocut {id r n k : Nat} {p q : List LV} {rest : List (Nat × Box)} {α : Type} {A : Rep α} {l : List α} (hn : 5000 ≤ n) (hid : n ≠ id) (h1 : n ∉ idsL p) (h2 : n ∉ idsL q) (h3 : n ∉ idsM rest) (h4 : ∀ e ∈ rest, n ∉ e.2.ids) (hnr : n ≠ r) :
    Closes ((id, .segs (p ++ .ocut r k :: q)) :: (r, .arr A l) :: rest) ((id, .segs (p ++ .own n :: q)) :: (n, .arr A (l.take k)) :: rest) := by
  intro R G γ w hp ⟨fr, hnd, hpin, hat, hok⟩
  simp only [idsM, List.map_cons, List.nodup_cons, List.mem_cons, not_or] at hnd
  obtain ⟨⟨hidr, hidn⟩, hrn, hnd⟩ := hnd
  obtain ⟨b, t, cs, e1, e2, hl⟩ := hat (id, .segs (p ++ .ocut r k :: q)) (by simp)
  have hrow : RowAt A G l (γ r) (fr r) := hat (r, .arr A l) (by simp)
  obtain ⟨c, d, rfl, hc, c2, d2, rfl, hx, hd⟩ := EncL.append_inv hl
  obtain ⟨ad, len, cp, hV, hkl, hlc, hx'⟩ := hx
  rw [hV] at hrow
  have hcut := hrow.cut hkl hlc
  have hγ : ∀ i, i ≠ n → updG γ n (.slice ad k cp) i = γ i := fun i hi => updG_ne hi
  refine ⟨updG γ n (.slice ad k cp), fun j hj => hγ j (by omega), updF fr n (fr r), ?_, ?_, ?_, ?_⟩
  · simp only [idsM, List.map_cons, List.nodup_cons, List.mem_cons, not_or]
    exact ⟨⟨Ne.symm hid, hidn⟩, h3, hnd⟩
  · intro i v hi
    have : i ≠ n := by rintro rfl; rw [hp i hn] at hi; simp at hi
    rw [hγ i this]; exact hpin i v hi
  · intro e he
    rcases List.mem_cons.1 he with rfl | he
    · simp only
      rw [hγ id (Ne.symm hid), updF_ne (Ne.symm hid)]
      refine ⟨b, t, _, e1, e2, ?_⟩
      refine EncL.append (RelL.congr (fun i hi => hγ i (fun e => h1 (e ▸ hi))) hc) ⟨c2, d2, rfl, ?_, RelL.congr (fun i hi => hγ i (fun e => h2 (e ▸ hi))) hd⟩
      exact ⟨by rw [updG_same, hx'], by rw [updG_same]; rfl⟩
    · rcases List.mem_cons.1 he with rfl | he
      · simp only [updG_same, updF_same]
        exact hcut
      · have hne : e.1 ≠ n := fun h => h3 (h ▸ List.mem_map.2 ⟨e, he, rfl⟩)
        rw [hγ _ hne, updF_ne hne]
        exact Box.at_congr (fun j hj => hγ j (fun h => h4 e he (h ▸ hj))) (hat e (by simp [he]))
  · have hr : r ∈ idsM ((id, Box.segs (p ++ LV.ocut r k :: q)) :: (r, Box.arr A l) :: rest) := by simp [idsM]
    have h2 : Ok w G R (n :: id :: idsM rest) (updF fr n (fr r)) := by
      refine hok.rename (d := n) hr (ids' := id :: idsM rest) (fun i hi => ?_) (by simp only [List.mem_cons, not_or]; exact ⟨hid, h3⟩)
      rcases List.mem_cons.1 hi with rfl | hi
      · exact ⟨by simp [idsM], hidr⟩
      · refine ⟨by simp only [idsM, List.map_cons, List.mem_cons]; exact .inr (.inr hi), ?_⟩
        rintro rfl; exact hrn hi
    refine h2.sub fun i hi => ?_
    simp only [idsM, List.map_cons, List.mem_cons] at hi ⊢
    rcases hi with h | h | h
    · exact .inr (.inl h)
    · exact .inl h
    · exact .inr (.inr h)

/-- What stands behind a function: its results, and what is left of its memory. -/
def Fin (rets : List LV) (mem' : List (Nat × Box)) (tv : TV) (s : SymSt) : Prop :=
  ∃ mx, RetsOk (tv.list.map (SV.frz (rmsM (idsM mx) s.mem))) rets ∧ LeM mx s.mem ∧ (idsM mx).Nodup ∧ Closes mx mem' ∧ ∀ i ∈ (tvL rets).ids, i < 5000

theorem Spec.of' {ι : Type 1} {E : Env} {f : FuncId} {fn : Func} {args : List SV} {mem mem' : List (Nat × Box)} {rets : List LV} {body : Code} {res : List ResultVar} (mx : ι → List (Nat × Box)) (hop : Opens mem mx) (hargs : ∀ i ∈ idsV args, i < 5000) (hlow : ∀ i ∈ idsM mem, i < 5000)
    (hf : E.P.funcs[f]? = some fn) (hi : IsFn E.P f) (hb : fn.body = some body) (hres : fn.results.toList = res)
    (hfit : codeFits fn.ntmps body = true) (hlen : Nat.ble args.length fn.ntmps = true)
    (h : ∀ i, vcCode E body ⟨parSl 0 args, mx i, idsM mem⟩ fun e s => match e with
      | .normal => vRes E.toCtx s res fun vs => Fin rets mem' (tvOf vs) s
      | .ret => vRes E.toCtx s res fun vs => Fin rets mem' (tvOf vs) s
      | _ => False) : Spec E.P f args mem (tvL rets) mem' := by
  refine ⟨hi, ?_⟩
  intro R G γ w vs hpin hm hv
  have hpin5 : ∀ j, 5000 ≤ j → R.pin j = none := fun j hj => by
    rw [hpin, if_neg]
    intro h
    have := hlow j h
    omega
  obtain ⟨i, γ0, hγ0, hm0⟩ := hop R G γ w hpin5 hm
  have hvf : vFn E fn args (mx i) (idsM mem) (Fin rets mem') := by
    subst hres
    unfold vFn
    rw [hb]
    exact ⟨hfit, Nat.le_of_ble_eq_true hlen, h i⟩
  have hv0 : RelV G γ0 args vs := hv.congr fun j hj => hγ0 j (hargs j hj)
  refine (vFn_sound hf hvf hm0 hv0 ?_).mono ?_
  · intro i hi
    rw [hpin] at hi
    split at hi
    · assumption
    · simp at hi
  rintro e w' ⟨v, G', γ', tv, s', rfl, hg, ⟨mxf, hret, hle, hnd, hcl, hlt⟩, hrel, ⟨fr, hn, hp, hat, hok'⟩, hone⟩
  have hids : ∀ i ∈ idsM (rmsM (idsM mxf) s'.mem), i ∈ idsM s'.mem := by
    intro i hi
    obtain ⟨e, he, rfl⟩ := List.mem_map.1 hi
    exact List.mem_map.2 ⟨e, (rmsM_mem he).1, rfl⟩
  obtain ⟨hok2, hfz⟩ := Ok.freezeSome (rmsM_nodup hn) hids hok'
  have hg2 : Hp.le G' (unionG G' fr (idsM (rmsM (idsM mxf) s'.mem))) := unionG_le _
  have hmx : MemAt R (unionG G' fr (idsM (rmsM (idsM mxf) s'.mem))) γ' mxf w' := by
    refine ⟨fr, hnd, hp, fun e he => Box.at_mono hg2 (hat e (LeM.mem hle e he)), hok2.sub fun i hi => ?_⟩
    refine List.mem_filter.2 ⟨LeM.ids hle i hi, ?_⟩
    simp only [Bool.not_eq_true', List.contains_eq_mem, decide_eq_false_iff_not]
    intro hin
    obtain ⟨e, he, e1⟩ := List.mem_map.1 hin
    exact (rmsM_mem he).2 (e1 ▸ hi)
  obtain ⟨γ3, h3, hm3⟩ := hcl _ _ _ _ hpin5 hmx
  refine ⟨v, _, γ3, rfl, Hp.le_trans hg hg2, TV.rel_congr (fun i hi => h3 i (hlt i hi)) ?_, hm3⟩
  exact tvL_rel (mem := rmsM (idsM mxf) s'.mem) (fun e he => hat e (rmsM_mem he).1) hg2 hfz hrel hret hone

/-! Things of several parts. -/
/-- Told by its parts: their memory, one of some ways. -/
def PartsP {ι : Type 1} (ok : ι → Prop) (mm : ι → List (Nat × Box)) (root : Nat) (G : Hp) (v : Value) (f : Hp) : Prop :=
  ∃ i, ∃ γ : Nat → Value, ∃ fr : Nat → Hp, ok i ∧ γ root = v ∧ (idsM (mm i)).Nodup ∧ root ∈ idsM (mm i) ∧ (∀ e ∈ mm i, e.2.at G γ (γ e.1) (fr e.1)) ∧
    (∀ i' ∈ idsM (mm i), ∀ j ∈ idsM (mm i), i' ≠ j → ∀ b, fr i' b ≠ none → fr j b = none) ∧ ∀ b o, f b = some o ↔ ∃ j ∈ idsM (mm i), fr j b = some o
def partsO {σ : Type} {ι : Type 1} (ok : σ → ι → Prop) (mm : ι → List (Nat × Box)) (root : Nat) (D : σ) : ObjP :=
  ⟨PartsP (ok D) mm root, fun hg ⟨i, γ, fr, h1, h2, h3, h4, h5, h6⟩ => ⟨i, γ, fr, h1, h2, h3, h4, fun e he => Box.at_mono hg (h5 e he), h6⟩⟩

theorem opens_parts {σ : Type} {ι : Type 1} {ok : σ → ι → Prop} {mm : ι → List (Nat × Box)} {root : Nat} {D : σ} {rest : List (Nat × Box)}
    (hsep : ∀ i, ∀ j ∈ idsM (mm i), j ≠ root → j ∉ idsM rest ∧ ∀ e ∈ rest, j ∉ e.2.ids) (hcl : ∀ i, ∀ e ∈ mm i, ∀ j ∈ e.2.ids, j ∈ idsM (mm i)) (hbig : ∀ i, ∀ j ∈ idsM (mm i), j ≠ root → 5000 ≤ j) : Opens ((root, .obj (partsO ok mm root) D) :: rest) (fun i : {i : ι // ok D i} => mm i.1 ++ rest) := by
  intro R G γ w hpin ⟨fr, hnd, hp, hat, hok⟩
  obtain ⟨i, γ1, fr1, hoki, hroot, hn1, hr1, hat1, hdis1, hf1⟩ := hat (root, .obj (partsO ok mm root) D) (by simp)
  classical
  have hroot : γ1 root = γ root := hroot
  have hf1 : ∀ b o, fr root b = some o ↔ ∃ j ∈ idsM (mm i), fr1 j b = some o := hf1
  let γ2 : Nat → Value := fun j => if j ∈ idsM (mm i) then γ1 j else γ j
  let fr2 : Nat → Hp := fun j => if j ∈ idsM (mm i) then fr1 j else fr j
  simp only [idsM, List.map_cons, List.nodup_cons] at hnd
  have hrest : ∀ j ∈ idsM rest, j ∉ idsM (mm i) := by
    intro j hj hj2
    by_cases e : j = root
    · subst e; exact hnd.1 hj
    · exact (hsep i j hj2 e).1 hj
  have e2 : ∀ j, j ∉ idsM (mm i) → γ2 j = γ j ∧ fr2 j = fr j := fun j hj => by simp [γ2, fr2, hj]
  have e1 : ∀ j, j ∈ idsM (mm i) → γ2 j = γ1 j ∧ fr2 j = fr1 j := fun j hj => by simp [γ2, fr2, hj]
  have hr0 : γ2 root = γ root := by rw [(e1 root hr1).1, hroot]
  have keep : ∀ j, (j = root ∨ j ∉ idsM (mm i)) → γ2 j = γ j := by
    rintro j (rfl | hj)
    · exact hr0
    · exact (e2 j hj).1
  refine ⟨⟨i, hoki⟩, γ2, ?_, fr2, ?_, ?_, ?_, ?_⟩
  · intro j hj
    refine keep j ?_
    by_cases e : j = root
    · exact .inl e
    · refine .inr fun h => ?_
      have := hbig i j h e
      omega
  · simp only [idsM, List.map_append, List.nodup_append]
    exact ⟨hn1, hnd.2, fun a ha b hb e => hrest b hb (e ▸ ha)⟩
  · intro j v hj
    rw [keep j]
    · exact hp j v hj
    · by_cases hm : j ∈ idsM (mm i)
      · by_cases e : j = root
        · exact .inl e
        · have := hpin j (hbig i j hm e)
          rw [this] at hj; simp at hj
      · exact .inr hm
  · intro e he
    rcases List.mem_append.1 he with he | he
    · have hm : e.1 ∈ idsM (mm i) := List.mem_map.2 ⟨e, he, rfl⟩
      rw [(e1 _ hm).1, (e1 _ hm).2]
      exact Box.at_congr (fun j hj => (e1 j (hcl i e he j hj)).1) (hat1 e he)
    · have hm : e.1 ∈ idsM rest := List.mem_map.2 ⟨e, he, rfl⟩
      rw [(e2 _ (hrest _ hm)).1, (e2 _ (hrest _ hm)).2]
      refine Box.at_congr (fun j hj => keep j ?_) (hat e (by simp [he]))
      by_cases hj2 : j ∈ idsM (mm i)
      · by_cases ej : j = root
        · exact .inl ej
        · exact absurd hj ((hsep i j hj2 ej).2 e he)
      · exact .inr hj2
  · have hfr : ∀ j ∈ idsM (mm i), ∀ b o, fr1 j b = some o → fr root b = some o := fun j hj b o h => (hf1 b o).2 ⟨j, hj, h⟩
    have hin : ∀ j ∈ idsM (mm i ++ rest), j ∈ idsM (mm i) ∨ j ∈ idsM rest := fun j hj => by
      simp only [idsM, List.map_append, List.mem_append] at hj; exact hj
    refine hok.reshape ?_ ?_
    · intro j hj b o hb
      rcases hin j hj with h | h
      · rw [(e1 j h).2] at hb
        exact ⟨root, by simp [idsM], hfr j h b o hb⟩
      · rw [(e2 j (hrest j h)).2] at hb
        exact ⟨j, by simp only [idsM, List.map_cons, List.mem_cons]; exact .inr h, hb⟩
    · have cross : ∀ j ∈ idsM (mm i), ∀ l ∈ idsM rest, ∀ b, fr1 j b ≠ none → fr l b = none := by
        intro j hj l hl b hb
        obtain ⟨o, ho⟩ := Option.ne_none_iff_exists'.1 hb
        have hne : root ≠ l := by rintro rfl; exact hnd.1 hl
        exact hok.ff root (by simp [idsM]) l (by simp only [idsM, List.map_cons, List.mem_cons]; exact .inr hl) hne b (by simp [hfr j hj b o ho])
      intro j hj l hl hjl b hb
      rcases hin j hj with h | h <;> rcases hin l hl with h' | h'
      · rw [(e1 j h).2] at hb; rw [(e1 l h').2]; exact hdis1 j h l h' hjl b hb
      · rw [(e1 j h).2] at hb; rw [(e2 l (hrest l h')).2]; exact cross j h l h' b hb
      · rw [(e2 j (hrest j h)).2] at hb; rw [(e1 l h').2]
        cases hx : fr1 l b with
        | none => rfl
        | some x => exact absurd (cross l h' j h b (by simp [hx])) hb
      · rw [(e2 j (hrest j h)).2] at hb; rw [(e2 l (hrest l h')).2]
        exact hok.ff j (by simp only [idsM, List.map_cons, List.mem_cons]; exact .inr h) l (by simp only [idsM, List.map_cons, List.mem_cons]; exact .inr h') hjl b hb

/-- Parts, under whatever names, put together. -/
theorem closes_parts {σ : Type} {ι : Type 1} {ok : σ → ι → Prop} {mm : ι → List (Nat × Box)} {root : Nat} {D : σ} {rest : List (Nat × Box)} (i : ι) (ρ : Nat → Nat) (hok : ok D i) (hρ : ρ root = root) (hr : root ∈ idsM (mm i)) (hn : (idsM (mm i)).Nodup)
    (hinj : ∀ a ∈ idsM (mm i), ∀ b ∈ idsM (mm i), ρ a = ρ b → a = b) : Closes (renM ρ (mm i) ++ rest) ((root, .obj (partsO ok mm root) D) :: rest) := by
  intro R G γ w _ ⟨fr, hnd, hp, hat, hok'⟩
  refine ⟨γ, fun _ _ => rfl, ?_⟩
  classical
  have hids : idsM (renM ρ (mm i) ++ rest) = (idsM (mm i)).map ρ ++ idsM rest := by
    simp only [idsM, List.map_append]
    congr 1
    exact renM_ids (mm i)
  rw [hids] at hnd hok'
  simp only [List.nodup_append] at hnd
  obtain ⟨hn1, hn2, hn3⟩ := hnd
  have hroot : root ∈ (idsM (mm i)).map ρ := List.mem_map.2 ⟨root, hr, hρ⟩
  have hin : ∀ j ∈ idsM (mm i), ρ j ∈ (idsM (mm i)).map ρ ++ idsM rest := fun j hj => List.mem_append.2 (.inl (List.mem_map.2 ⟨j, hj, rfl⟩))
  let f : Hp := fun b => if h : ∃ j ∈ idsM (mm i), fr (ρ j) b ≠ none then fr (ρ (Classical.choose h)) b else none
  have hf : ∀ b o, f b = some o ↔ ∃ j ∈ idsM (mm i), fr (ρ j) b = some o := by
    intro b o
    simp only [f]
    by_cases h : ∃ j ∈ idsM (mm i), fr (ρ j) b ≠ none
    · rw [dif_pos h]
      obtain ⟨h1, h2⟩ := Classical.choose_spec h
      constructor
      · intro h3; exact ⟨_, h1, h3⟩
      · rintro ⟨j, hj, h3⟩
        by_cases e : ρ (Classical.choose h) = ρ j
        · rw [e]; exact h3
        · have := hok'.ff _ (hin _ h1) _ (hin j hj) e b h2
          rw [h3] at this; simp at this
    · rw [dif_neg h]
      constructor
      · intro h3; simp at h3
      · rintro ⟨j, hj, h3⟩
        exact absurd ⟨j, hj, by simp [h3]⟩ h
  have hrr : root ∉ idsM rest := fun h => hn3 root hroot root h rfl
  refine ⟨updF fr root f, ?_, hp, ?_, ?_⟩
  · simp only [idsM, List.map_cons, List.nodup_cons]
    exact ⟨hrr, hn2⟩
  · intro e he
    rcases List.mem_cons.1 he with rfl | he
    · rw [updF_same]
      refine ⟨i, fun j => γ (ρ j), fun j => fr (ρ j), hok, by simp only [hρ], hn, hr, ?_, ?_, hf⟩
      · intro e he
        have hmem : (ρ e.1, e.2.ren ρ) ∈ renM ρ (mm i) ++ rest := by
          refine List.mem_append.2 (.inl ?_)
          have gen : ∀ (mem : List (Nat × Box)), e ∈ mem → (ρ e.1, e.2.ren ρ) ∈ renM ρ mem := by
            intro mem
            induction mem with
            | nil => intro h; simp at h
            | cons x r ih =>
              intro h
              rcases List.mem_cons.1 h with rfl | h
              · exact List.mem_cons.2 (.inl rfl)
              · exact List.mem_cons.2 (.inr (ih h))
          exact gen (mm i) he
        exact Box.ren_at.1 (hat _ hmem)
      · intro a ha b hb hab c hc
        exact hok'.ff _ (hin a ha) _ (hin b hb) (fun e => hab (hinj a ha b hb e)) c hc
    · have hm : e.1 ∈ idsM rest := List.mem_map.2 ⟨e, he, rfl⟩
      have : e.1 ≠ root := fun h => hrr (h ▸ hm)
      rw [updF_ne this]
      exact hat e (List.mem_append.2 (.inr he))
  · refine hok'.reshape ?_ ?_
    · intro j hj b o hb
      simp only [idsM, List.map_cons, List.mem_cons] at hj
      by_cases e : j = root
      · subst e
        rw [updF_same] at hb
        obtain ⟨l, hl, h⟩ := (hf b o).1 hb
        exact ⟨ρ l, hin l hl, h⟩
      · rw [updF_ne e] at hb
        exact ⟨j, List.mem_append.2 (.inr (hj.resolve_left e)), hb⟩
    · have cross : ∀ l ∈ idsM rest, ∀ b, f b ≠ none → fr l b = none := by
        intro l hl b hb
        obtain ⟨o, ho⟩ := Option.ne_none_iff_exists'.1 hb
        obtain ⟨j, hj, h⟩ := (hf b o).1 ho
        exact hok'.ff _ (hin j hj) l (List.mem_append.2 (.inr hl)) (hn3 _ (List.mem_map.2 ⟨j, hj, rfl⟩) l hl) b (by simp [h])
      intro j hj l hl hjl b hb
      simp only [idsM, List.map_cons, List.mem_cons] at hj hl
      by_cases e : j = root
      · subst e
        rw [updF_same] at hb
        rw [updF_ne (Ne.symm hjl)]
        exact cross l (hl.resolve_left (Ne.symm hjl)) b hb
      · rw [updF_ne e] at hb
        by_cases e' : l = root
        · subst e'
          rw [updF_same]
          cases hx : f b with
          | none => rfl
          | some x => exact absurd (cross j (hj.resolve_left e) b (by simp [hx])) hb
        · rw [updF_ne e']
          exact hok'.ff j (List.mem_append.2 (.inr (hj.resolve_left e))) l (List.mem_append.2 (.inr (hl.resolve_left e'))) hjl b hb
end Go.Proofs.Ytnmjcdlgfimnaaa
