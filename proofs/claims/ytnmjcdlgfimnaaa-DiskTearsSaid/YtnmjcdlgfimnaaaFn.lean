/- A whole function's contract. -/
import Derived.Test.YtnmjcdlgfimnaaaFm
namespace Go.Proofs.Ytnmjcdlgfimnaaa

theorem parSl_get {G : Hp} {γ : Nat → Value} : ∀ (args : List SV) (vs : List Value) (k i : Nat), RelV G γ args vs → (getS (parSl k args) i).rel G γ (if k ≤ i then (vs[i - k]?).getD undef else undef)
  | [], _, _, _, _ => trivial
  | x :: r, vs, k, i, ⟨v, us, e, hx, hr⟩ => by
    subst e
    have e0 : getS (parSl k (x :: r)) i = bif k == i then TV.one x else getS (parSl (k + 1) r) i := rfl
    rw [e0]
    by_cases h : k = i
    · subst h; simpa [TV.rel] using hx
    · have h1 : (k == i) = false := by simpa using h
      rw [h1, cond_false]
      have := parSl_get r us (k + 1) i hr
      by_cases h2 : k + 1 ≤ i
      · have h3 : k ≤ i := by omega
        have h4 : i - k = (i - (k + 1)) + 1 := by omega
        simp only [h2, if_true] at this
        simp only [h3, if_true, h4, List.getElem?_cons_succ]
        exact this
      · have h3 : ¬ k ≤ i := by omega
        simp only [h2, if_false] at this
        simp only [h3, if_false]
        exact this

theorem RelV.len {G : Hp} {γ : Nat → Value} : ∀ {xs : List SV} {vs : List Value}, RelV G γ xs vs → vs.length = xs.length
  | [], _, h => by simp only [RelV] at h; simp [h]
  | _ :: _, _, ⟨_, _, e, _, hr⟩ => by rw [e, List.length_cons, List.length_cons, RelV.len hr]

def resF (ts : Array Value) : ResultVar → Sem Value
  | .tmp t => pure (ts.getD t undef)
  | .cell x t => do loadVar t (← asAddr (ts.getD x undef))
theorem asAddr_some (a : Addr) : asAddr (.pointer (some a)) = pure a := rfl

theorem vRes_sound {C : Ctx} {s : SymSt} {R : Fr} {G : Hp} {γ : Nat → Value} {a : Act} {w : World} (hs : Simm R G γ s a w) : ∀ {rs : List ResultVar} {f : List SV → Prop}, vRes C s rs f →
    ∃ xs us, f xs ∧ RelV G γ xs us ∧ (rs.mapM (resF a.tmps)).run C.P w = .ok us w
  | [], f, h => ⟨[], [], h, rfl, rfl⟩
  | .tmp t :: r, f, h => by
    obtain ⟨xs, us, hf, hr, hrun⟩ := vRes_sound hs (rs := r) h
    refine ⟨_, a.tmps.getD t undef :: us, hf, ⟨_, _, rfl, ev_rel hs.sl (.tmp t), hr⟩, ?_⟩
    simp only [List.mapM_cons, Sem.run_bind, resF, Sem.run_pure, Result.andThen_ok, hrun]
  | .cell x t :: r, f, h => by
    obtain ⟨fr, hmf⟩ := hs.mem
    obtain ⟨ad, u, tv, hx, hl, h', hrel⟩ := vLoad_run (show vLoad C s t (.tmp x) _ from h) hs.sl hmf
    have hl := hl w hmf.agr
    obtain ⟨xs, us, hf, hr, hrun⟩ := vRes_sound hs (rs := r) h'
    have hx' : a.tmps.getD x undef = .pointer (some ad) := hx
    refine ⟨_, u :: us, hf, ⟨_, _, rfl, ?_, hr⟩, ?_⟩
    · cases tv with
      | one v => exact hrel
      | tup _ => trivial
    · simp only [List.mapM_cons, Sem.run_bind, resF, hx', asAddr_some, Sem.run_pure, Result.andThen_ok, hl]
      rw [hrun]; rfl

theorem tvOf_rel {G : Hp} {γ : Nat → Value} {xs : List SV} {us : List Value} (h : RelV G γ xs us) : (tvOf xs).rel G γ (if h : us.toArray.size = 1 then us.toArray[0] else .tuple us.toArray) := by
  match xs, us, h with
  | [], us, h => simp only [RelV] at h; subst h; exact ⟨[], rfl, rfl⟩
  | [x], _, ⟨v, r, e, hx, hr⟩ => simp only [RelV] at hr; subst hr; subst e; simpa [tvOf, TV.rel] using hx
  | x :: y :: r, us, h =>
    have hl := h.len
    have : ¬ us.toArray.size = 1 := by simp only [List.size_toArray, hl, List.length_cons]; omega
    rw [dif_neg this]
    exact ⟨us, h, rfl⟩

theorem results_run {P : Program} {fn : Func} {ts : Array Value} {w : World} {us : List Value} (h : (fn.results.toList.mapM (resF ts)).run P w = .ok us w) :
    (results fn ts).run P w = .ok (if h : us.toArray.size = 1 then us.toArray[0] else .tuple us.toArray) w := by
  have e : results fn ts = (do let vs ← fn.results.mapM (resF ts); pure (if h : vs.size = 1 then vs[0] else .tuple vs)) := by
    unfold results
    congr 2
  have e2 : fn.results.mapM (resF ts) = List.toArray <$> fn.results.toList.mapM (resF ts) := by rw [← List.mapM_toArray]
  rw [e, e2]
  simp only [Sem.run_bind, Sem.run_map, h, Result.andThen_ok, Sem.run_pure]

def TV.list : TV → List SV
  | .one v => [v]
  | .tup vs => vs
theorem tvOf_one (xs : List SV) : ((tvOf xs).list.length = 1) = (∃ x, tvOf xs = .one x) := by
  match xs with
  | [] => simp [tvOf, TV.list]
  | [x] => simp [tvOf, TV.list]
  | x :: y :: r => simp [tvOf, TV.list]

/-- What a call leaves, in symbols. -/
def Left (R : Fr) (G : Hp) (K : KT) (e : Ending) (w' : World) : Prop := ∃ v G' γ' tv s', e = .returned v ∧ Hp.le G G' ∧ K tv s' ∧ tv.rel G' γ' v ∧ MemAt R G' γ' s'.mem w' ∧ (tv.list.length = 1) = (∃ x, tv = .one x)

theorem vFn_sound {E : Env} {f : FuncId} {fn : Func} {args : List SV} {mem : List (Nat × Box)} {pins : List Nat} {K : KT} (hf : E.P.funcs[f]? = some fn) (h : vFn E fn args mem pins K) {R : Fr} {G : Hp} {γ : Nat → Value} {w : World} {vs : List Value}
    (hm : MemAt R G γ mem w) (hv : RelV G γ args vs) (hpn : ∀ i, R.pin i ≠ none → i ∈ pins) : Calls E.P f vs.toArray w (Left R G K) := by
  unfold vFn at h
  split at h
  · rename_i c hb
    obtain ⟨hfit, hlen, h⟩ := h
    have hvl := hv.len
    refine calls_of_wp hf hb (wp_mono (vcCode_sound (R := R) (G := G) (γ := γ) c h hfit ?_ ?_) ?_)
    · refine ⟨?_, hm, rfl, hpn⟩
      intro i
      have := parSl_get args vs 0 i hv
      simp only [Nat.zero_le, if_true, Nat.sub_zero] at this
      have e : (vs.toArray ++ Array.replicate (fn.ntmps - vs.toArray.size) undef).getD i undef = (vs[i]?).getD undef := by
        rw [Array.getD_eq_getD_getElem?, Array.getElem?_append]
        by_cases h1 : i < vs.toArray.size
        · rw [if_pos h1]; simp
        · rw [if_neg h1, Array.getElem?_replicate]
          have h2 : vs[i]? = none := by simp at h1 ⊢; exact h1
          rw [h2]
          split <;> rfl
      rw [e]; exact this
    · simp only [Array.size_append, Array.size_replicate, List.size_toArray]; omega
    · rintro e a' w' ⟨G', γ', s', hg, hK, hs', _⟩
      have fin : vRes E.toCtx s' fn.results.toList (fun vs => K (tvOf vs) s') → a'.defers = [] ∧ ∃ v, (results fn a'.tmps).run E.P w' = .ok v w' ∧ Left R G K (.returned v) w' := by
        intro hr
        obtain ⟨xs, us, hf, hrel, hrun⟩ := vRes_sound hs' hr
        exact ⟨hs'.df, _, results_run hrun, _, G', γ', _, s', rfl, hg, hf, tvOf_rel hrel, hs'.mem, tvOf_one xs⟩
      cases e <;> first | exact fin hK | exact hK.elim
  · exact h.elim

/-- Data, as a call takes them and hands them back. -/
def RetOk1 (v : SV) : LV → Prop
  | .dat R x => v.isAgg = R.agg ∧ asR R v fun y => y = x
  | r => v = .l r
def RetsOk : List SV → List LV → Prop
  | [], [] => True
  | v :: vs, r :: rs => RetOk1 v r ∧ RetsOk vs rs
  | _, _ => False
def tvL : List LV → TV
  | [r] => .one (.l r)
  | rs => .tup (rs.map .l)

theorem LV.plain_of {x : LV} {G : Hp} {γ : Nat → Value} {u : Value} (h : x.rel G γ [u]) : Rep.plainCell u = true := LV.rel_plain h u (by simp)
theorem SV.agg_shape {v : SV} {G : Hp} {γ : Nat → Value} {u : Value} (hv : v.rel G γ u) (hu : v ≠ .l .undef) : (v.isAgg = true → ∃ cs : List Value, u = .agg cs.toArray) ∧ (v.isAgg = false → Rep.plainCell u = true) := by
  cases v with
  | agg xs => obtain ⟨cs, _, e⟩ := hv; exact ⟨fun _ => ⟨cs, e⟩, fun h => by simp [SV.isAgg] at h⟩
  | l x =>
    cases x
    case dat R y =>
      obtain ⟨cs, hc, e⟩ := hv
      refine ⟨fun h => ⟨cs, ?_⟩, fun h => ?_⟩
      · have : R.agg = true := h
        rw [e]; simp [Rep.mk, this]
      · have h' : R.agg = false := h
        have hl := R.enc_length hc
        rw [R.size_of_not_agg h'] at hl
        match cs, hl with
        | [c], _ => rw [e]; simp only [Rep.mk, h', Bool.false_eq_true, if_false, List.headD_cons]; exact R.enc_plain hc c (by simp)
    case undef => exact absurd rfl hu
    case int k n => exact ⟨fun h => by simp [SV.isAgg, LV.isAgg] at h, fun _ => LV.plain_of (x := .int k n) (γ := γ) (G := G) hv⟩
    case bool b => exact ⟨fun h => by simp [SV.isAgg, LV.isAgg] at h, fun _ => LV.plain_of (x := .bool b) (γ := γ) (G := G) hv⟩
    case str b => exact ⟨fun h => by simp [SV.isAgg, LV.isAgg] at h, fun _ => LV.plain_of (x := .str b) (γ := γ) (G := G) hv⟩
    case nils => exact ⟨fun h => by simp [SV.isAgg, LV.isAgg] at h, fun _ => LV.plain_of (x := .nils) (γ := γ) (G := G) hv⟩
    case emps => exact ⟨fun h => by simp [SV.isAgg, LV.isAgg] at h, fun _ => LV.plain_of (x := .emps) (γ := γ) (G := G) hv⟩
    case own i => exact ⟨fun h => by simp [SV.isAgg, LV.isAgg] at h, fun _ => LV.plain_of (x := .own i) (γ := γ) (G := G) hv⟩
    case ptr i p q => exact ⟨fun h => by simp [SV.isAgg, LV.isAgg] at h, fun _ => LV.plain_of (x := .ptr i p q) (γ := γ) (G := G) hv⟩
    case nilp => exact ⟨fun h => by simp [SV.isAgg, LV.isAgg] at h, fun _ => LV.plain_of (x := .nilp) (γ := γ) (G := G) hv⟩
    case eptr A y p q => exact ⟨fun h => by simp [SV.isAgg, LV.isAgg] at h, fun _ => LV.plain_of (x := .eptr A y p q) (γ := γ) (G := G) hv⟩
    case view i p q n lo len => exact ⟨fun h => by simp [SV.isAgg, LV.isAgg] at h, fun _ => LV.plain_of (x := .view i p q n lo len) (γ := γ) (G := G) hv⟩
    case ocut i n => exact ⟨fun h => by simp [SV.isAgg, LV.isAgg] at h, fun _ => LV.plain_of (x := .ocut i n) (γ := γ) (G := G) hv⟩
    case nilm => exact ⟨fun h => by simp [SV.isAgg, LV.isAgg] at h, fun _ => LV.plain_of (x := .nilm) (γ := γ) (G := G) hv⟩
    case mrow m V k => exact ⟨fun h => by simp [SV.isAgg, LV.isAgg] at h, fun _ => LV.plain_of (x := .mrow m V k) (γ := γ) (G := G) hv⟩
    case mcut m V k n => exact ⟨fun h => by simp [SV.isAgg, LV.isAgg] at h, fun _ => LV.plain_of (x := .mcut m V k n) (γ := γ) (G := G) hv⟩
    case clo f c => exact ⟨fun h => by simp [SV.isAgg, LV.isAgg] at h, fun _ => LV.plain_of (x := .clo f c) (γ := γ) (G := G) hv⟩
    case mp i => exact ⟨fun h => by simp [SV.isAgg, LV.isAgg] at h, fun _ => LV.plain_of (x := .mp i) (γ := γ) (G := G) hv⟩

theorem RetOk1.rel {v : SV} {r : LV} (h : RetOk1 v r) {G : Hp} {γ : Nat → Value} {u : Value} (hv : v.rel G γ u) : (SV.l r).rel G γ u := by
  cases r <;> simp only [RetOk1] at h
  case dat R x =>
    obtain ⟨hag, h⟩ := h
    by_cases hu : v = .l .undef
    · subst hu
      unfold asR at h
      obtain ⟨a, h, _⟩ := asRL_undef R h
      exact absurd h (by simp)
    · obtain ⟨y, rfl, hy⟩ := asR_sound h hv
      obtain ⟨h1, h2⟩ := SV.agg_shape hv hu
      cases hR : R.agg
      · have hp := h2 (hag.trans hR)
        rw [cells_of_plain hp] at hy
        exact ⟨[u], hy, by simp [Rep.mk, hR]⟩
      · obtain ⟨cs, rfl⟩ := h1 (hag.trans hR)
        exact ⟨cs, hy, by simp [Rep.mk, hR]⟩
  all_goals (subst h; exact hv)
theorem RetsOk.rel : ∀ {vs : List SV} {rs : List LV} {G : Hp} {γ : Nat → Value} {us : List Value}, RetsOk vs rs → RelV G γ vs us → RelV G γ (rs.map .l) us
  | [], [], G, γ, us, h, hv => hv
  | [], _ :: _, _, _, _, h, _ => h.elim
  | _ :: _, [], _, _, _, h, _ => h.elim
  | v :: vs, r :: rs, G, γ, us, ⟨h1, h2⟩, ⟨u, us', e', hx, hr⟩ => ⟨u, us', e', h1.rel hx, h2.rel hr⟩

/-- What is the call's own, as data. -/
def LV.frz (mem : List (Nat × Box)) : LV → LV
  | .own id => match getM mem id with
    | some (.arr A l) => .dat (.slice A) l
    | _ => .own id
  | x => x
def SV.frz (mem : List (Nat × Box)) : SV → SV
  | .l x => .l (x.frz mem)
  | .agg xs => .agg (xs.map (LV.frz mem))

/-- Memory with all that the call owns. -/
def unionG (G : Hp) (fr : Nat → Hp) : List Nat → Hp
  | [] => G
  | i :: r => fun b => (unionG G fr r b).or (fr i b)
theorem unionG_le {G : Hp} {fr : Nat → Hp} : ∀ (ids : List Nat), Hp.le G (unionG G fr ids)
  | [] => Hp.le_refl G
  | i :: r => fun b o h => by simp only [unionG, unionG_le r b o h, Option.some_or]

theorem Ok.freezeAll {w : World} {G : Hp} {R : Fr} {fr : Nat → Hp} : ∀ {ids : List Nat}, ids.Nodup → Ok w G R ids fr → Ok w (unionG G fr ids) R [] fr ∧ ∀ i ∈ ids, Hp.le (fr i) (unionG G fr ids)
  | [], _, h => ⟨h, by simp⟩
  | i :: r, hn, h => by
    simp only [List.nodup_cons] at hn
    have hr := Ok.freezeAll hn.2 (h.sub (ids' := r) (by intro j hj; simp [hj]))
    have disj : ∀ b, fr i b ≠ none → unionG G fr r b = none := by
      intro b hb
      have key : ∀ q : List Nat, (∀ j ∈ q, j ∈ r) → unionG G fr q b = none := by
        intro q
        induction q with
        | nil => intro _; exact h.gf i (by simp) b hb
        | cons j q ih =>
          intro hq
          have hj : j ∈ r := hq j (by simp)
          have e : fr j b = none := h.ff i (by simp) j (by simp [hj]) (fun e => hn.1 (e ▸ hj)) b hb
          simp only [unionG, ih (fun k hk => hq k (by simp [hk])), e, Option.or_none]
      exact key r (fun _ h => h)
    refine ⟨⟨?_, h.r, ?_, by simp, by simp, by simp, by simp, h.os, h.out⟩, ?_⟩
    · intro b o hb
      simp only [unionG] at hb
      cases hu : unionG G fr r b with
      | some x => rw [hu] at hb; simp only [Option.some_or, Option.some.injEq] at hb; subst hb; exact hr.1.g b _ hu
      | none => rw [hu] at hb; simp only [Option.none_or] at hb; exact h.f i (by simp) b o hb
    · intro b hb
      simp only [unionG] at hb
      cases hu : unionG G fr r b with
      | some x => exact hr.1.gr b (by simp [hu])
      | none => rw [hu] at hb; simp only [Option.none_or] at hb; exact h.rf i (by simp) b hb
    · intro j hj b o hb
      rcases List.mem_cons.1 hj with rfl | hj
      · simp only [unionG, disj b (by simp [hb]), Option.none_or, hb]
      · simp only [unionG, hr.2 j hj b o hb, Option.some_or]
end Go.Proofs.Ytnmjcdlgfimnaaa
