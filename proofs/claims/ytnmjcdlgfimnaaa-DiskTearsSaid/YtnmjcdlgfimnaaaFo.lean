/- Functions of data: what they hand back hangs on their arguments alone. -/
import Derived.Test.YtnmjcdlgfimnaaaFn
namespace Go.Proofs.Ytnmjcdlgfimnaaa

/-- A function of data. -/
def Pure (P : Program) (f : FuncId) (args rets : List LV) : Prop :=
  IsFn P f ∧ ∀ (R : Fr) (G : Hp) (w : World) (vs : List Value), Ok w G R [] (fun _ => emp) → RelV G (fun _ => undef) (args.map .l) vs →
    Calls P f vs.toArray w fun e w' => ∃ v G', e = .returned v ∧ Hp.le G G' ∧ (tvL rets).rel G' (fun _ => undef) v ∧ Ok w' G' R [] (fun _ => emp)

theorem idsL_nil_of {l : List LV} (h : l.all (fun x => x.ids.isEmpty) = true) : idsL l = [] := by
  simp only [List.all_eq_true, List.isEmpty_iff] at h
  simp only [idsL, List.flatMap_eq_nil_iff]
  exact h
def noIds (l : List LV) : Bool := l.all fun x => x.ids.isEmpty

theorem idsV_map {l : List LV} (h : noIds l = true) : idsV (l.map .l) = [] := by
  simp only [noIds, List.all_eq_true, List.isEmpty_iff] at h
  simp only [idsV, List.flatMap_eq_nil_iff, List.mem_map]
  rintro x ⟨y, hy, rfl⟩
  exact h y hy
theorem tvL_ids {l : List LV} (h : noIds l = true) : (tvL l).ids = [] := by
  unfold tvL
  split
  · rename_i r
    simp only [noIds, List.all_cons, List.all_nil, Bool.and_true, List.isEmpty_iff] at h
    exact h
  · exact idsV_map h

/-- Frames: a call leaves what is not told to it alone. -/
theorem frame_call {R : Fr} {G : Hp} {γ : Nat → Value} {mem : List (Nat × Box)} {w : World} (h : MemAt R G γ mem w) :
    ∃ R' : Fr, Ok w G R' [] (fun _ => emp) ∧ ∀ {w' : World} {G' : Hp}, Hp.le G G' → Ok w' G' R' [] (fun _ => emp) → MemAt R G' γ mem w' := by
  obtain ⟨fr, hn, hpin, hat, hok⟩ := h
  classical
  refine ⟨⟨fun b => if G b = none then hpOf w b else none, R.os, R.out, fun _ => none⟩, ⟨hok.g, ?_, ?_, by simp, by simp, by simp, by simp, hok.os, hok.out⟩, ?_⟩
  · intro b o hb
    by_cases e : G b = none <;> simp_all
  · intro b hb
    simp [hb]
  · intro w' G' hg hok'
    have keep : ∀ H : Hp, Hp.le H (hpOf w) → (∀ b, H b ≠ none → G b = none) → Hp.le H (hpOf w') ∧ ∀ b, H b ≠ none → G' b = none := by
      intro H hH hd
      have hr : ∀ b o, H b = some o → (fun b => if G b = none then hpOf w b else none) b = some o := by
        intro b o hb
        have := hd b (by simp [hb])
        simp only [this, if_true]
        exact hH b o hb
      refine ⟨fun b o hb => hok'.r b o (hr b o hb), fun b hb => ?_⟩
      cases hg' : G' b with
      | none => rfl
      | some x =>
        obtain ⟨o, ho⟩ := Option.ne_none_iff_exists'.1 hb
        have := hok'.gr b (by simp [hg'])
        have h2 := hr b o ho
        exact absurd (this.symm.trans h2) (by simp)
    have hRd : ∀ b, R.hp b ≠ none → G b = none := by
      intro b hb
      cases hg : G b with
      | none => rfl
      | some x => exact absurd (hok.gr b (by simp [hg])) hb
    obtain ⟨hR1, hR2⟩ := keep R.hp hok.r hRd
    refine ⟨fr, hn, hpin, fun e he => Box.at_mono hg (hat e he), ⟨hok'.g, hR1, ?_, ?_, ?_, hok.rf, hok.ff, hok'.os, hok'.out⟩⟩
    · intro b hb
      cases hr : R.hp b with
      | none => rfl
      | some x => exact absurd (hR2 b (by simp [hr])) hb
    · intro i hi
      exact (keep (fr i) (hok.f i hi) (hok.gf i hi)).1
    · intro i hi
      exact (keep (fr i) (hok.f i hi) (hok.gf i hi)).2

theorem Simm.grow {R : Fr} {G G' : Hp} {γ : Nat → Value} {s : SymSt} {a : Act} {w w' : World} (hs : Simm R G γ s a w) (hg : Hp.le G G') (hm : MemAt R G' γ s.mem w') : Simm R G' γ s a w' :=
  ⟨fun i => TV.rel_mono hg (hs.sl i), hm, hs.df, hs.pn⟩

/-- What is handed back: the call's own rows as data. -/
def RetAs (rets : List LV) (tv : TV) (s : SymSt) : Prop := RetsOk (tv.list.map (SV.frz s.mem)) rets

theorem LV.frz_rel {G : Hp} {γ : Nat → Value} {mem : List (Nat × Box)} {fr : Nat → Hp} (hat : ∀ e ∈ mem, e.2.at G γ (γ e.1) (fr e.1)) {G' : Hp} (hg : Hp.le G G') (hf : ∀ i ∈ idsM mem, Hp.le (fr i) G')
    {x : LV} {cs : List Value} (h : x.rel G γ cs) : (x.frz mem).rel G' γ cs := by
  cases x
  case own id =>
    have e0 : (LV.own id).frz mem = match getM mem id with
      | some (.arr A l) => .dat (.slice A) l
      | _ => .own id := rfl
    rw [e0]
    split
    · rename_i α A l hm
      have hmem := getM_mem hm
      obtain ⟨e, _⟩ := h
      have hat' := hat _ hmem
      have hle := hf id (List.mem_map.2 ⟨_, hmem, rfl⟩)
      refine (Rep.enc_slice A G' l cs).2 ?_
      rcases hat' with ⟨b, t, es, sp, c, e1, ef, hl, hn, hmx, hsp⟩ | ⟨rfl, e1, _⟩
      · refine ⟨some ⟨b, 0, none⟩, c, by rw [e, e1], hn, hmx, by simp, .inr ⟨b, [], es, sp, t, (0, 0), rfl, ?_, EncL.mono (fun _ _ h => A.enc_mono hg h) hl⟩⟩
        refine hle b _ ?_
        simp only at ef
        rw [ef]; simp [sng]
      · obtain ⟨ad, e1⟩ := e1
        exact ⟨ad, 0, by rw [e, e1]; rfl, by simp, Nat.zero_le _, fun _ => rfl, .inl rfl⟩
    · exact LV.rel_mono hg h
  all_goals exact LV.rel_mono hg h
theorem LV.frz_relV {G : Hp} {γ : Nat → Value} {mem : List (Nat × Box)} {fr : Nat → Hp} (hat : ∀ e ∈ mem, e.2.at G γ (γ e.1) (fr e.1)) {G' : Hp} (hg : Hp.le G G') (hf : ∀ i ∈ idsM mem, Hp.le (fr i) G')
    {x : LV} {v : Value} (h : x.relV G γ v) : (x.frz mem).relV G' γ v := by
  cases x
  case own id =>
    refine LV.relV_of ?_ (LV.frz_rel hat hg hf (x := .own id) h)
    have e0 : (LV.own id).frz mem = match getM mem id with
      | some (.arr A l) => .dat (.slice A) l
      | _ => .own id := rfl
    rw [e0]
    split <;> rfl
  all_goals exact LV.relV_mono hg h
theorem RelL.frz {G : Hp} {γ : Nat → Value} {mem : List (Nat × Box)} {fr : Nat → Hp} (hat : ∀ e ∈ mem, e.2.at G γ (γ e.1) (fr e.1)) {G' : Hp} (hg : Hp.le G G') (hf : ∀ i ∈ idsM mem, Hp.le (fr i) G') :
    ∀ {l : List LV} {cs : List Value}, RelL G γ l cs → RelL G' γ (l.map (LV.frz mem)) cs
  | [], _, h => h
  | _ :: _, _, ⟨c, d, e, hx, hl⟩ => ⟨c, d, e, LV.frz_rel hat hg hf hx, RelL.frz hat hg hf hl⟩
theorem SV.frz_rel {G : Hp} {γ : Nat → Value} {mem : List (Nat × Box)} {fr : Nat → Hp} (hat : ∀ e ∈ mem, e.2.at G γ (γ e.1) (fr e.1)) {G' : Hp} (hg : Hp.le G G') (hf : ∀ i ∈ idsM mem, Hp.le (fr i) G')
    {x : SV} {v : Value} (h : x.rel G γ v) : (x.frz mem).rel G' γ v := by
  cases x with
  | l x => exact LV.frz_relV hat hg hf h
  | agg xs => obtain ⟨cs, hc, e⟩ := h; exact ⟨cs, hc.frz hat hg hf, e⟩
theorem RelV.frz {G : Hp} {γ : Nat → Value} {mem : List (Nat × Box)} {fr : Nat → Hp} (hat : ∀ e ∈ mem, e.2.at G γ (γ e.1) (fr e.1)) {G' : Hp} (hg : Hp.le G G') (hf : ∀ i ∈ idsM mem, Hp.le (fr i) G') :
    ∀ {xs : List SV} {vs : List Value}, RelV G γ xs vs → RelV G' γ (xs.map (SV.frz mem)) vs
  | [], _, h => h
  | _ :: _, _, ⟨v, r, e, hx, hr⟩ => ⟨v, r, e, SV.frz_rel hat hg hf hx, RelV.frz hat hg hf hr⟩

theorem tvL_rel {G : Hp} {γ : Nat → Value} {tv : TV} {mem : List (Nat × Box)} {rets : List LV} {v : Value} {G' : Hp} {fr : Nat → Hp} (hat : ∀ e ∈ mem, e.2.at G γ (γ e.1) (fr e.1)) (hg : Hp.le G G') (hf : ∀ i ∈ idsM mem, Hp.le (fr i) G')
    (h : tv.rel G γ v) (hr : RetsOk (tv.list.map (SV.frz mem)) rets) (hone : (tv.list.length = 1) = (∃ x, tv = .one x)) : (tvL rets).rel G' γ v := by
  cases tv with
  | one x =>
    have h1 : RelV G' γ [x.frz mem] [v] := ⟨v, [], rfl, SV.frz_rel hat hg hf h, rfl⟩
    have h2 := RetsOk.rel hr h1
    match rets, hr, h2 with
    | [r], _, h2 =>
      obtain ⟨u, us, e, hx, _⟩ := h2
      simp only [List.cons.injEq] at e
      rw [e.1]; exact hx
    | r :: r' :: q, hr, _ => exact hr.2.elim
    | [], hr, _ => exact hr.elim
  | tup xs =>
    obtain ⟨vs, hv, rfl⟩ := h
    have h2 := RetsOk.rel hr (hv.frz hat hg hf)
    have hlen : rets.length = xs.length := by
      have a := h2.len
      have b := hv.len
      simp only [List.length_map] at a
      omega
    unfold tvL
    split
    · rename_i r
      exfalso
      have : ∃ x, TV.tup xs = .one x := by rw [← hone]; simp only [TV.list]; simpa using hlen.symm
      obtain ⟨x, hx⟩ := this
      cases hx
    · exact ⟨vs, h2, rfl⟩

/-- A contract of a function of data, out of its code. -/
theorem Pure.of {E : Env} {f : FuncId} {fn : Func} {args rets : List LV} (hf : E.P.funcs[f]? = some fn) (hi : IsFn E.P f) (hr : noIds rets = true)
    (h : vFn E fn (args.map .l) [] [] fun tv s => RetsOk (tv.list.map (SV.frz s.mem)) rets) : Pure E.P f args rets := by
  refine ⟨hi, ?_⟩
  intro R G w vs hok hv
  have hm : MemAt { R with pin := fun _ => none } G (fun _ => undef) [] w := ⟨fun _ => emp, by simp [idsM], by simp, by simp, ⟨hok.g, hok.r, hok.gr, by simp [idsM], by simp [idsM], by simp [idsM], by simp [idsM], hok.os, hok.out⟩⟩
  refine (vFn_sound hf h hm hv (by simp)).mono ?_
  rintro e w' ⟨v, G', γ', tv, s', rfl, hg, hret, hrel, ⟨fr, hn, _, hat, hok'⟩, hone⟩
  obtain ⟨hok2, hle⟩ := hok'.freezeAll hn
  have := tvL_rel hat (unionG_le (idsM s'.mem)) hle hrel hret hone
  refine ⟨v, _, rfl, Hp.le_trans hg (unionG_le (idsM s'.mem)), TV.rel_congr (by rw [tvL_ids hr]; simp) this, ?_⟩
  exact ⟨hok2.g, hok2.r, hok2.gr, by simp, by simp, by simp, by simp, hok2.os, hok2.out⟩

theorem Pure.of' {E : Env} {f : FuncId} {fn : Func} {args rets : List LV} {body : Code} {res : List ResultVar} (hf : E.P.funcs[f]? = some fn) (hi : IsFn E.P f) (hb : fn.body = some body) (hres : fn.results.toList = res) (hr : noIds rets = true)
    (hfit : codeFits fn.ntmps body = true) (hlen : Nat.ble args.length fn.ntmps = true)
    (h : vcCode E body ⟨parSl 0 (args.map .l), [], []⟩ fun e s => match e with
      | .normal => vRes E.toCtx s res fun vs => RetsOk ((tvOf vs).list.map (SV.frz s.mem)) rets
      | .ret => vRes E.toCtx s res fun vs => RetsOk ((tvOf vs).list.map (SV.frz s.mem)) rets
      | _ => False) : Pure E.P f args rets := by
  refine Pure.of hf hi hr ?_
  subst hres
  unfold vFn
  rw [hb]
  exact ⟨hfit, by simpa using Nat.le_of_ble_eq_true hlen, h⟩

/-! Calls. -/
def Rep.argL : {α : Type} → Rep α → α → List LV
  | _, .pair A B, x => A.leaf x.1 :: B.argL x.2
  | _, _, _ => []
/-- Values as the arguments of a function of data. -/
def asArgs : {α : Type} → Rep α → List SV → (α → Prop) → Prop
  | _, .unit, vs, f => match vs with
    | [] => f ()
    | _ => False
  | _, .pair A B, vs, f => match vs with
    | v :: r => v.isAgg = A.agg ∧ asR A v fun a => asArgs B r fun b => f (a, b)
    | [] => False
  | _, _, _, _ => False

theorem Rep.leaf_noIds : {α : Type} → (A : Rep α) → (x : α) → (A.leaf x).ids = []
  | _, .int _, _ => rfl
  | _, .bool, _ => rfl
  | _, .str, _ => rfl
  | _, .unit, _ => rfl
  | _, .pair _ _, _ => rfl
  | _, .arr _ _, _ => rfl
  | _, .slice _, _ => rfl
  | _, .iso A to of h h', y => by
    unfold Rep.leaf
    cases A.scalar
    · rfl
    · exact A.leaf_noIds (to y)
theorem Rep.argL_noIds : {α : Type} → (A : Rep α) → (x : α) → noIds (A.argL x) = true
  | _, .pair A B, x => by
    have := B.argL_noIds x.2
    simp only [noIds, argL, List.all_cons, Bool.and_eq_true, A.leaf_noIds, List.isEmpty_nil, true_and] at this ⊢
    exact this
  | _, .int _, _ => rfl
  | _, .bool, _ => rfl
  | _, .str, _ => rfl
  | _, .unit, _ => rfl
  | _, .arr _ _, _ => rfl
  | _, .slice _, _ => rfl
  | _, .iso _ _ _ _ _, _ => rfl

theorem Rep.leaf_isAgg : {α : Type} → (A : Rep α) → (x : α) → (A.leaf x).isAgg = A.agg
  | _, .int _, _ => rfl
  | _, .bool, _ => rfl
  | _, .str, _ => rfl
  | _, .unit, _ => rfl
  | _, .pair _ _, _ => rfl
  | _, .arr _ _, _ => rfl
  | _, .slice _, _ => rfl
  | _, .iso A to of h h', y => by
    unfold Rep.leaf
    cases hs : A.scalar
    · rfl
    · exact A.leaf_isAgg (to y)

theorem asR_rel {α : Type} {A : Rep α} {v : SV} {f : α → Prop} (h : asR A v f) (ha : v.isAgg = A.agg) {G : Hp} {γ : Nat → Value} {u : Value} (hv : v.rel G γ u) : ∃ x, f x ∧ (SV.l (A.leaf x)).rel G γ u := by
  have hu : v ≠ .l .undef := by
    rintro rfl
    unfold asR at h
    obtain ⟨a, h, _⟩ := asRL_undef A h
    exact absurd h (by simp)
  obtain ⟨y, hf, hy⟩ := asR_sound h hv
  obtain ⟨h1, h2⟩ := SV.agg_shape hv hu
  refine ⟨y, hf, ?_⟩
  have hl := (A.leaf_rel G γ y _).2 hy
  cases hA : A.agg
  · have hp := h2 (ha.trans hA)
    rw [cells_of_plain hp] at hl
    exact LV.relV_of ((A.leaf_isAgg y).trans hA) hl
  · obtain ⟨cs, rfl⟩ := h1 (ha.trans hA)
    have hag := (A.leaf_isAgg y).trans hA
    show (A.leaf y).relV G γ _
    revert hl hag
    cases A.leaf y <;> intro hl hag <;> simp only [LV.isAgg, Bool.false_eq_true] at hag
    case dat B z => exact ⟨cs, hl, by simp [Rep.mk, hag]⟩
theorem asArgs_rel : {α : Type} → (A : Rep α) → {vs : List SV} → {f : α → Prop} → asArgs A vs f → {G : Hp} → {γ : Nat → Value} → {us : List Value} → RelV G γ vs us → ∃ x, f x ∧ RelV G γ ((A.argL x).map .l) us
  | _, .unit, vs, f, h, G, γ, us, hv => by
    unfold asArgs at h
    split at h
    · exact ⟨(), h, hv⟩
    · exact h.elim
  | _, .pair A B, vs, f, h, G, γ, us, hv => by
    unfold asArgs at h
    split at h
    · rename_i v r
      obtain ⟨ha, h⟩ := h
      obtain ⟨u, us', rfl, hx, hr⟩ := hv
      obtain ⟨x, h, hx'⟩ := asR_rel h ha hx
      obtain ⟨y, h, hy⟩ := asArgs_rel B h hr
      exact ⟨(x, y), h, u, us', rfl, hx', hy⟩
    · exact h.elim
  | _, .int _, _, _, h, _, _, _, _ => by simp [asArgs] at h
  | _, .bool, _, _, h, _, _, _, _ => by simp [asArgs] at h
  | _, .str, _, _, h, _, _, _, _ => by simp [asArgs] at h
  | _, .arr _ _, _, _, h, _, _, _, _ => by simp [asArgs] at h
  | _, .slice _, _, _, h, _, _, _, _ => by simp [asArgs] at h
  | _, .iso _ _ _ _ _, _, _, h, _, _, _, _ => by simp [asArgs] at h

/-- A result that leads to no memory. -/
def LV.flat : LV → Bool
  | .int _ _ => true
  | .bool _ => true
  | .str _ => true
  | .nils => true
  | .nilp => true
  | .dat R _ => R.flat
  | _ => false
theorem LV.flat_relV {x : LV} (h : x.flat = true) {G : Hp} {γ : Nat → Value} {v : Value} (hv : x.relV G γ v) (G' : Hp) (γ' : Nat → Value) : x.relV G' γ' v := by
  cases x <;> simp only [LV.flat, Bool.false_eq_true] at h
  case dat R y => obtain ⟨cs, hc, e⟩ := hv; exact ⟨cs, R.enc_flat h G' hc, e⟩
  all_goals exact hv
theorem RelV.flat {G : Hp} {γ : Nat → Value} : ∀ {l : List LV} {us : List Value}, l.all LV.flat = true → RelV G γ (l.map .l) us → ∀ (G' : Hp) (γ' : Nat → Value), RelV G' γ' (l.map .l) us
  | [], _, _, h, _, _ => h
  | x :: l, _, hf, ⟨v, r, e, hx, hr⟩, G', γ' => by
    simp only [List.all_cons, Bool.and_eq_true] at hf
    exact ⟨v, r, e, LV.flat_relV hf.1 hx G' γ', RelV.flat hf.2 hr G' γ'⟩
theorem tvL_flat {l : List LV} (hf : l.all LV.flat = true) {G : Hp} {γ : Nat → Value} {v : Value} (h : (tvL l).rel G γ v) (G' : Hp) (γ' : Nat → Value) : (tvL l).rel G' γ' v := by
  match l, hf, h with
  | [], _, h => exact h
  | [r], hf, h =>
    simp only [List.all_cons, List.all_nil, Bool.and_true] at hf
    exact LV.flat_relV hf h G' γ'
  | x :: y :: r, hf, h =>
    obtain ⟨vs, hv, e⟩ := h
    exact ⟨vs, RelV.flat hf hv G' γ', e⟩
theorem flat_noIds {l : List LV} (h : l.all LV.flat = true) : noIds l = true := by
  simp only [noIds, List.all_eq_true, List.isEmpty_iff] at h ⊢
  intro x hx
  have := h x hx
  cases x <;> simp_all [LV.flat, LV.ids]

/-- What is the call's own is lent for the time of a call. -/
theorem lend {R : Fr} {G : Hp} {γ : Nat → Value} {fr : Nat → Hp} {mem : List (Nat × Box)} {w : World} (h : MemF R G γ fr mem w) :
    Ok w (unionG G fr (idsM mem)) R [] (fun _ => emp) ∧ ∀ {w' : World} {G' : Hp}, Hp.le (unionG G fr (idsM mem)) G' → Ok w' G' R [] (fun _ => emp) → ∃ G2, Hp.le G G2 ∧ MemAt R G2 γ mem w' := by
  obtain ⟨hnd, hpin, hat, hok⟩ := h
  obtain ⟨hok2, hle⟩ := hok.freezeAll hnd
  refine ⟨⟨hok2.g, hok2.r, hok2.gr, by simp, by simp, by simp, by simp, hok2.os, hok2.out⟩, ?_⟩
  intro w' G' hg hok'
  classical
  let G2 : Hp := fun b => if ∃ i ∈ idsM mem, fr i b ≠ none then none else G' b
  have hG2 : Hp.le G G2 := by
    intro b o hb
    have hno : ¬ ∃ i ∈ idsM mem, fr i b ≠ none := by
      rintro ⟨i, hi, hne⟩
      rw [hok.gf i hi b hne] at hb; simp at hb
    simp only [G2, if_neg hno]
    exact hg b o (unionG_le _ b o hb)
  have hG2' : ∀ b, G2 b ≠ none → G' b ≠ none := by
    intro b hb
    simp only [G2] at hb
    split at hb
    · simp at hb
    · exact hb
  refine ⟨G2, hG2, fr, hnd, hpin, fun e he => Box.at_mono hG2 (hat e he), ⟨?_, hok'.r, fun b hb => hok'.gr b (hG2' b hb), ?_, ?_, hok.rf, hok.ff, hok'.os, hok'.out⟩⟩
  · intro b o hb
    simp only [G2] at hb
    split at hb
    · simp at hb
    · exact hok'.g b o hb
  · intro i hi b o hb
    exact hok'.g b o (hg b o (hle i hi b o hb))
  · intro i hi b hb
    simp only [G2, if_pos (⟨i, hi, hb⟩ : ∃ i ∈ idsM mem, fr i b ≠ none)]

/-- A contract for calls: a function of data whose results lead to no memory. -/
def conF {α : Type} (A : Rep α) (pre : α → Prop) (r : α → List LV) (as : List SV) (_ : Nat) (s : SymSt) (K : KT) : Prop := asArgs A (as.map (SV.frz s.mem)) fun x => pre x ∧ K (tvL (r x)) s
theorem conF_ok {P : Program} {f : FuncId} {α : Type} {A : Rep α} {pre : α → Prop} {r : α → List LV} (hi : IsFn P f) (h : ∀ x, pre x → Pure P f (A.argL x) (r x)) (hr : ∀ x, (r x).all LV.flat = true) (as : List SV) (d : Nat) (s : SymSt) (K : KT) (hc : conF A pre r as d s K) : Wc P f as s K := by
  refine ⟨hi, ?_⟩
  intro R G γ a w vs hs hv
  obtain ⟨fr, hm⟩ := hs.mem
  obtain ⟨hok, hback⟩ := lend hm
  obtain ⟨hok3, hle⟩ := hm.ok.freezeAll hm.nd
  obtain ⟨x, ⟨hpre, hK⟩, hx⟩ := asArgs_rel A hc (hv.frz hm.at' (unionG_le (idsM s.mem)) hle)
  have hx' : RelV (unionG G fr (idsM s.mem)) (fun _ => undef) ((A.argL x).map .l) vs := hx.congr (by rw [idsV_map (A.argL_noIds x)]; simp)
  refine ((h x hpre).2 R _ w vs hok hx').mono ?_
  rintro e w' ⟨v, G', rfl, hg, hrel, hok'⟩
  obtain ⟨G2, hg2, hm2⟩ := hback hg hok'
  exact ⟨v, rfl, G2, γ, _, s, hg2, hK, tvL_flat (hr x) hrel G2 γ, hs.grow hg2 hm2⟩

def ownsV : List SV → List Nat
  | [] => []
  | v :: r => ownsL v.leaves ++ ownsV r
def SV.fz (id : Nat) (n : LV) (v : SV) : SV := v.frzI id n
/-- The same freeze, of values beside the state. -/
def vFrz2 : List Nat → SymSt → List SV → (SymSt → List SV → Prop) → Prop
  | [], s, vs, K => K s vs
  | id :: r, s, vs, K => match getM s.mem id with
    | some (.arr A l) => vFrz2 r (s.freeze id (.dat (.slice A) l)) (vs.map (SV.frzI id (.dat (.slice A) l))) K
    | _ => vFrz2 r s vs K
theorem vFrz2_spec {R : Fr} {γ : Nat → Value} {a : Act} {w : World} {us : List Value} {K : SymSt → List SV → Prop} : ∀ {ids : List Nat} {s : SymSt} {vs : List SV} {G : Hp}, vFrz2 ids s vs K → Simm R G γ s a w → RelV G γ vs us →
    ∃ G' s' vs', Hp.le G G' ∧ K s' vs' ∧ Simm R G' γ s' a w ∧ RelV G' γ vs' us
  | [], s, vs, G, h, hs, hv => ⟨G, s, vs, Hp.le_refl G, h, hs, hv⟩
  | id :: r, s, vs, G, h, hs, hv => by
    unfold vFrz2 at h
    split at h
    · rename_i α A l hm
      obtain ⟨G1, hg1, hs1, hn⟩ := hs.freeze hm
      obtain ⟨G2, s2, vs2, hg2, hK, hs2, hv2⟩ := vFrz2_spec h hs1 (RelV.frzI hg1 hn rfl hv)
      exact ⟨G2, s2, vs2, Hp.le_trans hg1 hg2, hK, hs2, hv2⟩
    · exact vFrz2_spec h hs hv
/-- A contract for calls: a function of data. -/
def conN {α : Type} (A : Rep α) (pre : α → Prop) (r : α → List LV) (as : List SV) (_ : Nat) (s : SymSt) (K : KT) : Prop := vFrz2 (ownsV as) s as fun s' as' => asArgs A as' fun x => pre x ∧ K (tvL (r x)) s'
theorem conN_ok {P : Program} {f : FuncId} {α : Type} {A : Rep α} {pre : α → Prop} {r : α → List LV} (hi : IsFn P f) (h : ∀ x, pre x → Pure P f (A.argL x) (r x)) (hr : ∀ x, noIds (r x) = true) (as : List SV) (d : Nat) (s : SymSt) (K : KT) (hc : conN A pre r as d s K) : Wc P f as s K := by
  refine ⟨hi, ?_⟩
  intro R G γ a w vs hs hv
  obtain ⟨G1, s1, as1, hg1, hc, hs1, hv1⟩ := vFrz2_spec hc hs hv
  obtain ⟨x, ⟨hpre, hK⟩, hx⟩ := asArgs_rel A hc hv1
  obtain ⟨R', hok, hback⟩ := frame_call hs1.mem
  have hx' : RelV G1 (fun _ => undef) ((A.argL x).map .l) vs := hx.congr (by rw [idsV_map (A.argL_noIds x)]; simp)
  refine ((h x hpre).2 R' G1 w vs hok hx').mono ?_
  rintro e w' ⟨v, G', rfl, hg, hrel, hok'⟩
  exact ⟨v, rfl, G', γ, _, s1, Hp.le_trans hg1 hg, hK, TV.rel_congr (by rw [tvL_ids (hr x)]; simp) hrel, hs1.grow hg (hback hg hok')⟩
end Go.Proofs.Ytnmjcdlgfimnaaa
