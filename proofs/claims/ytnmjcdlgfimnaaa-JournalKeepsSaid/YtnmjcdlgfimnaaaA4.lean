/- Regions, code and whole functions on symbolic states. -/
import Derived.Test.YtnmjcdlgfimnaaaA3
import Derived.OrdersHeld
import Derived.ScopeJumps
namespace Go.Proofs.Ytnmjcdlgfimnaaa
def vqVal (C : Ctx) (o : Oper) (s : SymSt) (K : KT) : Prop := match o.op with
  | .move x => K (evT s x) s
  | .assign x => K (evT s x) s
  | .pick c a b => vPick s c a b K
  | .load t x => vLoad C s t x K
  | .nilCheck x => vNilCheck s x K
  | .fieldAddr t x f => vFieldAddr C s t x f K
  | .field t x f => vField C s t x f K
  | .indexAddr t x i => vIndexAddr C s t x i K
  | .index t x i => vIndex C s t x i K
  | .extract x n => vExtract s x n K
  | .binOp op t x y _ => vBin3 C s op t x y K
  | .unOp op _ x => vUn s op x K
  | .convert a b x => vConvert2 C s a b x K
  | .build t parts => vBuild C s t parts.toList K
  | .slice t x lo hi mx => vSlice2 C s t x lo hi mx K
  | .makeFunc f first cap => vMakeFunc s f first.toList cap.toList K
  | .sliceToArrayPointer t x => vArrayAt C s t x K
  | .call c => (match c.callee, c.args.toList, c.argTypes.toList with
    | .builtin .len, [x], [t] => vLen2 C s t x K
    | .builtin .min, xs, _ => vMinMax s false xs K
    | .builtin .max, xs, _ => vMinMax s true xs K
    | _, _, _ => False)
  | _ => False
theorem vqVal_sound {C : Ctx} {o : Oper} {s : SymSt} {K : KT} (h : vqVal C o s K) : QSound C.P o s K := by
  unfold vqVal at h
  split at h
  case h_1 ho => exact move_q (.inl ho) h
  case h_2 ho => exact move_q (.inr ho) h
  case h_3 ho => exact pick_q ho h
  case h_4 ho => exact load_q ho h
  case h_5 ho => exact nilCheck_q ho h
  case h_6 ho => exact fieldAddr_q ho h
  case h_7 ho => exact field_q ho h
  case h_8 ho => exact indexAddr_q ho h
  case h_9 ho => exact index_q ho h
  case h_10 ho => exact extract_q ho h
  case h_11 ho => exact bin3_q ho h
  case h_12 ho => exact un_q ho h
  case h_13 ho => exact convert2_q ho h
  case h_14 ho => exact build_q ho h
  case h_15 ho => exact slice2_q ho h
  case h_16 ho => exact makeFunc_q ho h
  case h_17 ho => exact arrayAt_q ho h
  case h_18 c ho =>
    split at h
    · rename_i x t h1 h2 h3; exact len2_q ho h1 h2 h3 h
    · rename_i xs ts h1; exact minmax_q (mx := false) ho h1 h
    · rename_i xs ts h1; exact minmax_q (mx := true) ho h1 h
    · exact h.elim
  case h_19 => exact h.elim
def vcVal (E : Env) (o : Oper) (s : SymSt) (K : KT) : Prop := match o.op with
  | .alloc t => vAlloc E.toCtx (dstOf o) s t K
  | .box _ x => vBox (dstOf o) s x K
  | .store t x y => vStore E.toCtx s t x y K
  | .buildSlice t n parts => vBuildSlice E.toCtx (dstOf o) s t n parts.toList K
  | .makeSlice t l c => vMakeSlice E.toCtx (dstOf o) s t l c K
  | .lookup t x i false => vLookup E.toCtx s t x i K
  | .mapUpdate t m k v => vMapUpdate E.toCtx s t m k v K
  | .makeMap t none => vMakeMap E.toCtx (dstOf o) s t K
  | .convert a b x => (match ev s x, tdOf E.toCtx b with
    | .l (.own id), .slice _ => vMarkB E.toCtx s a b id K
    | _, _ => vqVal E.toCtx o s K)
  | .call c => (match c.callee, c.args.toList, c.argTypes.toList with
    | .value f, xs, _ => vCall E (dstOf o) s f xs K
    | .builtin .append, [x, y], [t, xt] => vAppend2 E.toCtx (dstOf o) s t xt x y K
    | .builtin .copy, [x, y], [t, _] => vCopy E.toCtx s t x y K
    | _, _, _ => vqVal E.toCtx o s K)
  | _ => vqVal E.toCtx o s K
theorem vcVal_sound {E : Env} {o : Oper} {s : SymSt} {K : KT} (h : vcVal E o s K) : Sound E.P o s K := by
  unfold vcVal at h
  split at h
  case h_1 ho => exact alloc_sound ho h
  case h_2 ho => exact box_sound ho h
  case h_3 ho => exact store_sound ho h
  case h_4 ho => exact buildSlice_sound ho h
  case h_5 ho => exact makeSlice_sound ho h
  case h_6 ho => exact lookup_sound ho h
  case h_7 ho => exact mapUpdate_sound ho h
  case h_8 ho => exact makeMap_sound ho h
  case h_9 a b x ho =>
    split at h
    · rename_i id e he hd; exact markB_sound ho he h
    · exact (vqVal_sound h).sound
  case h_10 c ho =>
    obtain ⟨callee, args, ts⟩ := c
    split at h
    · rename_i f xs us h1
      simp only at h1
      subst h1
      exact call_sound ho h
    · rename_i x y t xt h1 h2 h3; exact append2_sound ho h1 h2 h3 h
    · rename_i x y t xt h1 h2 h3; exact copy_sound ho h1 h2 h3 h
    · exact (vqVal_sound h).sound
  case h_11 => exact (vqVal_sound h).sound
def SymSt.putO (s : SymSt) (d : Option Nat) (v : TV) : SymSt := match d with
  | some d => s.put d v
  | none => s
def vcOps (E : Env) (ops : List Oper) : List Oper → SymSt → (SymSt → Prop) → Prop
  | [], s, K => K s
  | o :: r, s, K => match o.guard with
    | none => vcVal E o s fun tv s' => vcOps E ops r (s'.putO o.dst tv) K
    | some (j, want) => match (ops[j]?).bind (·.dst) with
      | none => False
      | some d => match getS s.sl d with
        | .one (.l (.bool b)) => (b = want → vcVal E o (s.put d (.one (.l (.bool want)))) fun tv s' => vcOps E ops r (s'.putO o.dst tv) K) ∧
            (b = !want → vcOps E ops r ((s.put d (.one (.l (.bool (!want))))).putO o.dst (.tup [])) K)
        | .tup [] => vcOps E ops r (s.putO o.dst (.tup [])) K
        | _ => False
theorem Simm.put {R : Fr} {G : Hp} {γ : Nat → Value} {s : SymSt} {a : Act} {w : World} (h : Simm R G γ s a w) {d : Nat} (hd : d < a.tmps.size) {tv : TV} {v : Value} (hv : tv.rel G γ v) :
    Simm R G γ (s.put d tv) { a with tmps := a.tmps.setIfInBounds d v } w := by
  refine ⟨?_, h.mem, h.df, h.pn⟩
  intro i
  rw [getS_put]
  by_cases e : d = i
  · subst e
    simp [hd, hv]
  · simp only [if_neg e]
    have := h.sl i
    simpa [Array.getD_eq_getD_getElem?, Array.getElem?_setIfInBounds_ne e] using this
theorem Simm.putO {R : Fr} {G : Hp} {γ : Nat → Value} {s : SymSt} {a : Act} {w : World} (h : Simm R G γ s a w) {d : Option Nat} (hd : ∀ n, d = some n → n < a.tmps.size) {tv : TV} {v : Value} (hv : tv.rel G γ v) :
    Simm R G γ (s.putO d tv) (a.put d v) w := by
  cases d with
  | none => exact h
  | some d => exact h.put (hd d rfl) hv
theorem put_size (a : Act) (d : Option Nat) (v : Value) : (a.put d v).tmps.size = a.tmps.size := by cases d <;> simp [Act.put]
def After' (R : Fr) (G : Hp) (n : Nat) (K : SymSt → Prop) (a : Act) (w : World) : Prop := ∃ G' γ' s', Hp.le G G' ∧ K s' ∧ Simm R G' γ' s' a w ∧ a.tmps.size = n
theorem opSem_upon {P : Program} {o : Oper} {a : Act} {w : World} {K : Value → World → Prop} {next : Act → World → Prop} {Q : Exit → Act → World → Prop} (h : opSem P a.eval o w K)
    (hk : ∀ v w', K v w' → next (a.put o.dst v) w') : o.wp P a w next Q := by
  unfold opSem at h
  unfold Oper.wp
  split at h
  · rename_i v w' hr
    rw [hr]; exact hk _ _ h
  · rename_i w' hr
    rw [hr]; exact hk _ _ h
  · rename_i f args w' hr
    rw [hr]
    refine h.mono ?_
    rintro e w'' ⟨v, rfl, hv⟩
    exact hk _ _ hv
  · exact h.elim
theorem undef_rel {G : Hp} {γ : Nat → Value} : (TV.tup []).rel G γ undef := ⟨[], rfl, rfl⟩
theorem wpOps_sound {E : Env} {n : Nat} {ops : Array Oper} {Q : Exit → Act → World → Prop} {R : Fr} : ∀ (l : List Nat) (r : List Oper) {s : SymSt} {K : SymSt → Prop} {G : Hp} {γ : Nat → Value} {a : Act} {w : World},
    l.map (ops[·]?) = r.map some → (∀ o ∈ r, ∀ d, o.dst = some d → d < n) → vcOps E ops.toList r s K → Simm R G γ s a w → a.tmps.size = n →
    (∀ a' w', After' R G n K a' w' → Q .normal a' w') → wpOps E.P ops Q l a w
  | [], [], s, K, G, γ, a, w, _, _, h, hs, hn, hQ => hQ a w ⟨G, γ, s, Hp.le_refl G, h, hs, hn⟩
  | [], _ :: _, _, _, _, _, _, _, hl, _, _, _, _, _ => by simp at hl
  | _ :: _, [], _, _, _, _, _, _, hl, _, _, _, _, _ => by simp at hl
  | i :: l, o :: r, s, K, G, γ, a, w, hl, hd, h, hs, hn, hQ => by
    simp only [List.map_cons, List.cons.injEq] at hl
    obtain ⟨hi, hl⟩ := hl
    have hd' : ∀ o ∈ r, ∀ d, o.dst = some d → d < n := fun o' ho' => hd o' (by simp [ho'])
    have hdo : ∀ d, o.dst = some d → d < a.tmps.size := fun d h => hn ▸ hd o (by simp) d h
    have go : ∀ {s' : SymSt} {K' : SymSt → Prop}, Simm R G γ s' a w → vcVal E o s' (fun tv s' => vcOps E ops.toList r (s'.putO o.dst tv) K) → o.wp E.P a w (wpOps E.P ops Q l) Q := by
      intro s' K' hs' hv
      refine opSem_upon (vcVal_sound hv R G γ a w hs') ?_
      rintro v w' ⟨G', γ', tv, s'', hg, hK, hrel, hs''⟩
      refine wpOps_sound l r hl hd' hK (hs''.putO hdo hrel) (by rw [put_size]; exact hn) ?_
      rintro a' w'' ⟨G2, γ2, s2, hg2, h2, h3, h4⟩
      exact hQ a' w'' ⟨G2, γ2, s2, Hp.le_trans hg hg2, h2, h3, h4⟩
    simp only [wpOps, hi]
    unfold vcOps at h
    split at h
    · rename_i hg
      have hw : Region.wanted o (yielded ops a.tmps) = true := by simp [Region.wanted, hg]
      rw [if_pos hw]
      exact .inl (go (K' := K) hs h)
    · rename_i j want hg
      split at h
      · exact h.elim
      · rename_i d hdj
        have hdj' : (ops[j]?).bind (·.dst) = some d := by simpa using hdj
        have hy : ∀ b, a.tmps.getD d undef = .bool b → yielded ops a.tmps j = some b := by
          intro b hb
          unfold yielded
          rw [hdj']
          simp only [Option.bind_some]
          rw [Array.getD_eq_getD_getElem?] at hb
          cases hx : a.tmps[d]? with
          | none => rw [hx] at hb; simp [undef] at hb
          | some v => rw [hx] at hb; simp only [Option.getD_some] at hb; rw [hb]
        have hrel := hs.sl d
        split at h
        · rename_i b hb
          rw [hb] at hrel
          have hv : a.tmps.getD d undef = .bool b := by simpa [TV.rel, SV.rel, LV.relV, LV.rel] using hrel
          by_cases e : b = want
          · have hw : Region.wanted o (yielded ops a.tmps) = true := by simp [Region.wanted, hg, hy b hv, e]
            rw [if_pos hw]
            refine .inl (go (K' := K) (hs.know (d := d) (tv := .one (.l (.bool want))) ?_) (h.1 e))
            rw [hv, e]; rfl
          · have hw : Region.wanted o (yielded ops a.tmps) = false := by simp [Region.wanted, hg, hy b hv, e]
            rw [hw]
            simp only [Bool.false_eq_true, if_false]
            have e' : b = !want := by cases b <;> cases want <;> simp_all
            refine wpOps_sound l r hl hd' (h.2 e') ((hs.know (d := d) (tv := .one (.l (.bool (!want)))) (by rw [hv, e']; rfl)).putO hdo undef_rel) (by rw [put_size]; exact hn) hQ
        · rename_i hb
          rw [hb] at hrel
          obtain ⟨vs, hvs, hv⟩ := hrel
          simp only [RelV] at hvs
          subst hvs
          have hyn : yielded ops a.tmps j = none := by
            unfold yielded
            rw [hdj']
            simp only [Option.bind_some]
            rw [Array.getD_eq_getD_getElem?] at hv
            cases hx : a.tmps[d]? with
            | none => rfl
            | some v => rw [hx] at hv; simp only [Option.getD_some] at hv; rw [hv]
          have hw : Region.wanted o (yielded ops a.tmps) = false := by simp [Region.wanted, hg, hyn]
          rw [hw]
          simp only [Bool.false_eq_true, if_false]
          exact wpOps_sound l r hl hd' h (hs.putO hdo undef_rel) (by rw [put_size]; exact hn) hQ
        · exact h.elim
end Go.Proofs.Ytnmjcdlgfimnaaa
namespace Go.Proofs.Ytnmjcdlgfimnaaa
section
variable {P : Program} {ops : Array Oper} {Q : Exit → Act → World → Prop} {S : World → Prop} {T : Array Bool → World → Prop}
def wpAnyT (P : Program) (ops : Array Oper) (Q : Exit → Act → World → Prop) (T : Array Bool → World → Prop) : Nat → Array Bool → Act → World → Prop
  | 0, listed, a, w => Region.ready .any ops listed = [] ∧ Q .normal a w
  | fuel + 1, listed, a, w =>
    (Region.ready .any ops listed = [] → Q .normal a w) ∧
    ∀ i ∈ Region.ready .any ops listed, wpOp P ops Q i (fun a' w' => T (listed.setIfInBounds i true) w' ∧ wpAnyT P ops Q T fuel (listed.setIfInBounds i true) a' w') a w
theorem wpAny_of_T : ∀ (fuel : Nat) (listed : Array Bool) (a : Act) (w : World), wpAnyT P ops Q T fuel listed a w → wpAny P .any ops Q fuel listed a w
  | 0, _, _, _, h => h
  | fuel + 1, _, _, _, h => ⟨h.1, fun i hi => wpOp_mono (fun a' w' h' => wpAny_of_T fuel _ a' w' h'.2) (h.2 i hi)⟩
def Down (ops : Array Oper) (listed : Array Bool) : Prop := ∀ j, listed.getD j false = true → ∀ oj, ops[j]? = some oj → ∀ e ∈ oj.after, Region.binds .any e = true → listed.getD e.on false = true
theorem Down.set {listed : Array Bool} (h : Down ops listed) {i : Nat} (hi : i ∈ Region.ready .any ops listed) : Down ops (listed.setIfInBounds i true) := by
  intro j hj oj hoj e he hb
  by_cases hij : i = j
  · subst hij
    obtain ⟨_, o, ho, hall⟩ := mem_ready.1 hi
    rw [ho] at hoj
    simp only [Option.some.injEq] at hoj
    subst hoj
    exact getD_set_true (hall e he hb)
  · rw [getD_set_ne false hij] at hj
    exact getD_set_true (h j hj oj hoj e he hb)
theorem unlisted_false {listed : Array Bool} {i : Nat} (h : listed.getD i true = false) : listed.getD i false = false := by
  rcases Nat.lt_or_ge i listed.size with h' | h'
  · simpa [h'] using h
  · simp [Array.getElem?_eq_none h']
theorem wpAnyT_first {i : Nat} {oi : Oper} {v : Value} (hi : ops[i]? = some oi) (hsel : ∀ (j : Nat) (o : Oper) cs b, ops[j]? = some o → o.op ≠ .select cs b)
    (hQ : ∀ c a w, Q (.panic c) (a.put oi.dst v) w → Q (.panic c) a w) (hT : ∀ (listed : Array Bool) (j : Nat) (w : World), T ((listed.setIfInBounds i true).setIfInBounds j true) w → T (listed.setIfInBounds j true) w)
    (hS : ∀ (listed : Array Bool) (j : Nat) (w : World), Down ops listed → listed.getD i true = false → j ∈ Region.ready .any ops listed → T ((listed.setIfInBounds i true).setIfInBounds j true) w → S w) :
    ∀ (fuel : Nat) (listed : Array Bool) (a : Act) (w : World), Down ops listed →
      (∀ j oj, ops[j]? = some oj → j ≠ i → listed.getD j true = false → (∀ e ∈ oj.after, Region.binds .any e = true → e.on ≠ i) → oi.apart ops oj = true) →
      i ∈ Region.ready .any ops listed → YieldsIf P ops S oi v a → S w → T (listed.setIfInBounds i true) w →
      wpAnyT P ops Q T fuel (listed.setIfInBounds i true) (a.put oi.dst v) w → wpAnyT P ops Q T (fuel + 1) listed a w := by
  intro fuel
  induction fuel with
  | zero =>
    intro listed a w _ _ hr hy hSw hTw H
    refine ⟨fun h => (by rw [h] at hr; cases hr), fun j hj => ?_⟩
    by_cases hji : j = i
    · subst hji; exact hy.wpOp hi hSw ⟨hTw, H⟩
    · have := ready_mono hj hji
      rw [H.1] at this
      cases this
  | succ fuel ih =>
    intro listed a w hd hfree hr hy hSw hTw H
    refine ⟨fun h => (by rw [h] at hr; cases hr), fun j hj => ?_⟩
    by_cases hji : j = i
    · subst hji; exact hy.wpOp hi hSw ⟨hTw, H⟩
    · have h1 := H.2 j (ready_mono hj hji)
      obtain ⟨hjun, oj, hoj, hall⟩ := mem_ready.1 hj
      have hiun := (mem_ready.1 hr).1
      have hnot : ∀ e ∈ oj.after, Region.binds .any e = true → e.on ≠ i := fun e he hb heq => by
        have h1 := hall e he hb
        rw [heq, unlisted_false hiun] at h1
        cases h1
      have h2 := wpOp_putIf hoj (hfree j oj hoj hji hjun hnot) (fun cs b => hsel i oi cs b hi) (fun cs b => hsel j oj cs b hoj) hQ hy h1
      have hfree' : ∀ k ok, ops[k]? = some ok → k ≠ i → (listed.setIfInBounds j true).getD k true = false →
          (∀ e ∈ ok.after, Region.binds .any e = true → e.on ≠ i) → oi.apart ops ok = true := fun k ok hk hki hun hno => by
        refine hfree k ok hk hki ?_ hno
        by_cases hjk : j = k
        · subst hjk; exact hjun
        · rw [getD_set_ne true hjk] at hun; exact hun
      refine wpOp_mono (fun a' w' h3 => ⟨hT _ _ _ h3.2.1, ?_⟩) h2
      refine ih (listed.setIfInBounds j true) a' w' (hd.set hj) hfree' (ready_mono hr (Ne.symm hji)) h3.1 (hS listed j w' hd hiun hj h3.2.1) ?_ ?_
      · rw [Array.setIfInBounds_comm _ _ hji]; exact h3.2.1
      · rw [Array.setIfInBounds_comm _ _ hji]; exact h3.2.2
def reachB (ops : Array Oper) : Nat → Nat → Nat → Bool
  | 0, _, _ => false
  | n + 1, j, i => match ops[j]? with
    | some o => o.after.toList.any fun e => Region.binds .any e && (e.on == i || reachB ops n e.on i)
    | none => false
theorem reachB_listed {listed : Array Bool} (hd : Down ops listed) {i : Nat} : ∀ {n j : Nat}, reachB ops n j i = true → (∀ oj, ops[j]? = some oj → ∀ e ∈ oj.after, Region.binds .any e = true → listed.getD e.on false = true) → listed.getD i false = true
  | 0, _, h, _ => by simp [reachB] at h
  | n + 1, j, h, hall => by
    unfold reachB at h
    cases ho : ops[j]? with
    | none => rw [ho] at h; simp at h
    | some o =>
      rw [ho] at h
      simp only [List.any_eq_true, Bool.and_eq_true, Bool.or_eq_true, beq_iff_eq] at h
      obtain ⟨e, he, hb, hor⟩ := h
      have hl := hall o ho e (by simpa using he) hb
      rcases hor with rfl | hor
      · exact hl
      · exact reachB_listed hd hor fun oj hoj e' he' hb' => hd _ hl oj hoj e' he' hb'
def early (late : List Nat) (listed : Array Bool) : Bool := late.all fun j => !listed.getD j false
theorem early_set {late : List Nat} {listed : Array Bool} {i : Nat} (hi : i ∉ late) : early late (listed.setIfInBounds i true) = early late listed := by
  unfold early
  rw [Bool.eq_iff_iff]
  simp only [List.all_eq_true]
  constructor
  · intro h j hj
    have := h j hj
    rwa [getD_set_ne false (show i ≠ j from fun e => hi (e ▸ hj))] at this
  · intro h j hj
    rw [getD_set_ne false (show i ≠ j from fun e => hi (e ▸ hj))]
    exact h j hj
theorem early_mono {late : List Nat} {listed : Array Bool} {i : Nat} (h : early late (listed.setIfInBounds i true) = true) : early late listed = true := by
  unfold early at *
  simp only [List.all_eq_true, Bool.not_eq_true'] at *
  intro j hj
  have := h j hj
  cases hx : listed.getD j false with
  | false => rfl
  | true => rw [getD_set_true hx] at this; cases this
end
end Go.Proofs.Ytnmjcdlgfimnaaa
namespace Go.Proofs.Ytnmjcdlgfimnaaa
def hideM (Q : List Nat) : List (Nat × Box) → List (Nat × Box)
  | [] => []
  | (i, b) :: r => bif Q.contains i then hideM Q r else (i, b) :: hideM Q r
def keepM (Q : List Nat) : List (Nat × Box) → List (Nat × Box)
  | [] => []
  | (i, b) :: r => bif Q.contains i then (i, b) :: keepM Q r else keepM Q r
def memIds : List (Nat × Box) → List Nat
  | [] => []
  | (_, b) :: r => b.ids ++ memIds r
def SymSt.hide (s : SymSt) (Q : List Nat) : SymSt := ⟨s.sl, hideM Q s.mem, s.pins ++ (Q ++ memIds (keepM Q s.mem))⟩
def backOk (Q : List Nat) : List (Nat × Box) → Bool
  | [] => true
  | (i, _) :: r => !Q.contains i && backOk Q r
def SymSt.unhide (s' s : SymSt) (Q : List Nat) : SymSt := ⟨s'.sl, s'.mem ++ keepM Q s.mem, s.pins⟩
theorem hideM_mem {Q : List Nat} : ∀ {mem : List (Nat × Box)} {e : Nat × Box}, e ∈ hideM Q mem → e ∈ mem ∧ e.1 ∉ Q
  | [], _, h => by simp [hideM] at h
  | (i, b) :: r, e, h => by
    unfold hideM at h
    cases hc : Q.contains i
    · rw [hc, cond_false, List.mem_cons] at h
      rcases h with rfl | h
      · exact ⟨by simp, by simpa using hc⟩
      · exact ⟨by simp [(hideM_mem h).1], (hideM_mem h).2⟩
    · rw [hc, cond_true] at h
      exact ⟨by simp [(hideM_mem h).1], (hideM_mem h).2⟩
theorem keepM_mem {Q : List Nat} : ∀ {mem : List (Nat × Box)} {e : Nat × Box}, e ∈ keepM Q mem → e ∈ mem ∧ e.1 ∈ Q
  | [], _, h => by simp [keepM] at h
  | (i, b) :: r, e, h => by
    unfold keepM at h
    cases hc : Q.contains i
    · rw [hc, cond_false] at h
      exact ⟨by simp [(keepM_mem h).1], (keepM_mem h).2⟩
    · rw [hc, cond_true, List.mem_cons] at h
      rcases h with rfl | h
      · exact ⟨by simp, by simpa using hc⟩
      · exact ⟨by simp [(keepM_mem h).1], (keepM_mem h).2⟩
theorem hideM_nodup {Q : List Nat} : ∀ {mem : List (Nat × Box)}, (idsM mem).Nodup → (idsM (hideM Q mem)).Nodup
  | [], h => h
  | (i, b) :: r, h => by
    simp only [idsM, List.map_cons, List.nodup_cons] at h
    unfold hideM
    cases hc : Q.contains i
    · simp only [cond_false, idsM, List.map_cons, List.nodup_cons]
      refine ⟨fun hm => h.1 ?_, hideM_nodup h.2⟩
      obtain ⟨e, he, rfl⟩ := List.mem_map.1 hm
      exact List.mem_map.2 ⟨_, (hideM_mem he).1, rfl⟩
    · exact hideM_nodup h.2
theorem keepM_nodup {Q : List Nat} : ∀ {mem : List (Nat × Box)}, (idsM mem).Nodup → (idsM (keepM Q mem)).Nodup
  | [], h => h
  | (i, b) :: r, h => by
    simp only [idsM, List.map_cons, List.nodup_cons] at h
    unfold keepM
    cases hc : Q.contains i
    · exact keepM_nodup h.2
    · simp only [cond_true, idsM, List.map_cons, List.nodup_cons]
      refine ⟨fun hm => h.1 ?_, keepM_nodup h.2⟩
      obtain ⟨e, he, rfl⟩ := List.mem_map.1 hm
      exact List.mem_map.2 ⟨_, (keepM_mem he).1, rfl⟩
theorem backOk_spec {Q : List Nat} : ∀ {mem : List (Nat × Box)}, backOk Q mem = true → ∀ i ∈ idsM mem, i ∉ Q
  | [], _, _, h => by simp [idsM] at h
  | (j, b) :: r, h, i, hi => by
    simp only [backOk, Bool.and_eq_true, Bool.not_eq_true', List.contains_eq_mem, decide_eq_false_iff_not] at h
    simp only [idsM, List.map_cons, List.mem_cons] at hi
    rcases hi with rfl | hi
    · exact h.1
    · exact backOk_spec h.2 i hi
theorem memIds_mem : ∀ {mem : List (Nat × Box)} {e : Nat × Box}, e ∈ mem → ∀ i ∈ e.2.ids, i ∈ memIds mem
  | [], _, h, _, _ => by simp at h
  | (j, b) :: r, e, h, i, hi => by
    rcases List.mem_cons.1 h with rfl | h
    · exact List.mem_append.2 (.inl hi)
    · exact List.mem_append.2 (.inr (memIds_mem h i hi))
def AfterQ (R : Fr) (G : Hp) (fr : Nat → Hp) (keep : List Nat) (pins : List Nat) (a : Act) (K : KT) (v : Value) (w' : World) : Prop :=
  ∃ G' γ' tv s2 fr', Hp.le G G' ∧ K tv s2 ∧ tv.rel G' γ' v ∧ SlotsOk G' γ' s2.sl a.tmps ∧ MemF R G' γ' fr' s2.mem w' ∧ (∀ i ∈ keep, fr' i = fr i ∧ i ∈ idsM s2.mem) ∧ s2.pins = pins
theorem opSem_mono {P : Program} {ρ : Operand → Value} {o : Oper} {w : World} {K K' : Value → World → Prop} (h : opSem P ρ o w K) (hk : ∀ v w', K v w' → K' v w') : opSem P ρ o w K' := by
  unfold opSem at *
  generalize (execOp ρ o).run P w = r at *
  cases r with
  | ok n w' =>
    cases n
    case value v => exact hk _ _ h
    case skip => exact hk _ _ h
    case enter f args => exact Calls.mono h fun e w'' ⟨v, e1, h⟩ => ⟨v, e1, hk _ _ h⟩
    all_goals exact h.elim
  | halt x w' => exact h.elim
theorem hide_frame {P : Program} {o : Oper} {s : SymSt} {Q : List Nat} {K : KT} (h : Sound P o (s.hide Q) fun tv s' => backOk Q s'.mem = true ∧ K tv (s'.unhide s Q))
    {R : Fr} {G : Hp} {γ : Nat → Value} {fr : Nat → Hp} {a : Act} {w : World} (hs : SlotsOk G γ s.sl a.tmps) (hm : MemF R G γ fr s.mem w) (hdf : a.defers = []) (hpn : ∀ i, R.pin i ≠ none → i ∈ s.pins) :
    opSem P a.eval o w (AfterQ R G fr (idsM (keepM Q s.mem)) s.pins a K) := by
  classical
  let pn : List Nat := Q ++ memIds (keepM Q s.mem)
  let Rh : Hp := fun b => (R.hp b).or (if ∃ i ∈ idsM (keepM Q s.mem), fr i b ≠ none then hpOf w b else none)
  let R' : Fr := ⟨Rh, R.os, R.out, fun i => if i ∈ pn then some (γ i) else R.pin i⟩
  have hkin : ∀ i ∈ idsM (keepM Q s.mem), i ∈ idsM s.mem ∧ i ∈ Q := by
    intro i hi
    obtain ⟨e, he, rfl⟩ := List.mem_map.1 hi
    exact ⟨List.mem_map.2 ⟨_, (keepM_mem he).1, rfl⟩, (keepM_mem he).2⟩
  have hhin : ∀ i ∈ idsM (hideM Q s.mem), i ∈ idsM s.mem ∧ i ∉ Q := by
    intro i hi
    obtain ⟨e, he, rfl⟩ := List.mem_map.1 hi
    exact ⟨List.mem_map.2 ⟨_, (hideM_mem he).1, rfl⟩, (hideM_mem he).2⟩
  have hRR : Hp.le R.hp Rh := fun b o hb => by simp [Rh, hb]
  have hRQ : ∀ i ∈ idsM (keepM Q s.mem), Hp.le (fr i) Rh := by
    intro i hi b o hb
    have h1 : R.hp b = none := hm.ok.rf i (hkin i hi).1 b (by simp [hb])
    have h2 : ∃ i ∈ idsM (keepM Q s.mem), fr i b ≠ none := ⟨i, hi, by simp [hb]⟩
    simp only [Rh, h1, Option.none_or, if_pos h2]
    exact hm.ok.f i (hkin i hi).1 b o hb
  have hRcase : ∀ b, Rh b ≠ none → R.hp b ≠ none ∨ ∃ i ∈ idsM (keepM Q s.mem), fr i b ≠ none := by
    intro b hb
    by_cases h1 : R.hp b = none
    · right
      simp only [Rh, h1, Option.none_or] at hb
      split at hb
      · assumption
      · simp at hb
    · exact .inl h1
  have hnone : ∀ b, R.hp b = none → (∀ i ∈ idsM (keepM Q s.mem), fr i b = none) → Rh b = none := by
    intro b h1 h2
    cases hr : Rh b with
    | none => rfl
    | some o =>
      rcases hRcase b (by simp [hr]) with h | ⟨i, hi, h⟩
      · exact absurd h1 h
      · exact absurd (h2 i hi) h
  have hmem : MemF R' G γ fr (hideM Q s.mem) w := by
    refine ⟨hideM_nodup hm.nd, fun i v hi => ?_, fun e he => hm.at' e (hideM_mem he).1, ⟨hm.ok.g, fun b o hb => ?_, fun b hb => ?_, fun i hi => hm.ok.f i (hhin i hi).1, fun i hi => hm.ok.gf i (hhin i hi).1, fun i hi b hb => ?_, fun i hi j hj => hm.ok.ff i (hhin i hi).1 j (hhin j hj).1, hm.ok.os, hm.ok.out⟩⟩
    · simp only [R'] at hi
      split at hi
      · simpa using hi
      · exact hm.pin i v hi
    · by_cases h1 : R.hp b = none
      · have hb' : Rh b = some o := hb
        simp only [Rh, h1, Option.none_or] at hb'
        split at hb'
        · exact hb'
        · simp at hb'
      · obtain ⟨x, hx⟩ := Option.ne_none_iff_exists'.1 h1
        have hb' : Rh b = some o := hb
        simp only [Rh, hx, Option.some_or, Option.some.injEq] at hb'
        subst hb'
        exact hm.ok.r b _ hx
    · refine hnone b (hm.ok.gr b hb) fun i hi => ?_
      cases hf : fr i b with
      | none => rfl
      | some o => exact absurd (hm.ok.gf i (hkin i hi).1 b (by simp [hf])) hb
    · exact hnone b (hm.ok.rf i (hhin i hi).1 b hb) fun j hj => hm.ok.ff i (hhin i hi).1 j (hkin j hj).1 (fun e => (hhin i hi).2 (e ▸ (hkin j hj).2)) b hb
  have hpn' : ∀ i, R'.pin i ≠ none → i ∈ (s.hide Q).pins := by
    intro i hi
    simp only [R'] at hi
    split at hi
    · rename_i hin
      exact List.mem_append.2 (.inr hin)
    · exact List.mem_append.2 (.inl (hpn i hi))
  refine opSem_mono (h R' G γ a w ⟨hs, ⟨fr, hmem⟩, hdf, hpn'⟩) ?_
  rintro v w' ⟨G', γ', tv, s', hg, ⟨hback, hK⟩, hrel, hs'⟩
  obtain ⟨fr1, hm1⟩ := hs'.mem
  have hdis : ∀ i ∈ idsM (keepM Q s.mem), i ∉ idsM s'.mem := fun i hi hin => backOk_spec hback i hin (hkin i hi).2
  have hγ : ∀ i ∈ pn, γ' i = γ i := fun i hi => hm1.pin i _ (by simp only [R', if_pos hi])
  let fr' : Nat → Hp := fun i => if i ∈ idsM s'.mem then fr1 i else fr i
  have fr1' : ∀ i ∈ idsM s'.mem, fr' i = fr1 i := fun i hi => by simp only [fr', if_pos hi]
  have fr2' : ∀ i ∈ idsM (keepM Q s.mem), fr' i = fr i := fun i hi => by simp only [fr', if_neg (hdis i hi)]
  have hin : ∀ {k : Nat}, k ∈ idsM (s'.mem ++ keepM Q s.mem) → k ∈ idsM s'.mem ∨ k ∈ idsM (keepM Q s.mem) := by
    intro k hk
    simpa only [idsM, List.map_append, List.mem_append] using hk
  refine ⟨G', γ', tv, _, fr', hg, hK, hrel, hs'.sl, ⟨?_, ?_, ?_, ⟨hm1.ok.g, fun b o hb => hm1.ok.r b o (hRR b o hb), ?_, ?_, ?_, ?_, ?_, hm1.ok.os, hm1.ok.out⟩⟩, fun i hi => ⟨fr2' i hi, ?_⟩, rfl⟩
  · show (idsM (s'.mem ++ keepM Q s.mem)).Nodup
    simp only [idsM, List.map_append]
    rw [List.nodup_append]
    refine ⟨hm1.nd, keepM_nodup hm.nd, ?_⟩
    intro x hx y hy e
    subst e
    exact hdis x hy hx
  · intro i u hi
    by_cases hp : i ∈ pn
    · rw [hγ i hp]; exact hm.pin i u hi
    · exact hm1.pin i u (by simp only [R', if_neg hp]; exact hi)
  · intro e he
    rcases List.mem_append.1 he with he | he
    · rw [fr1' _ (List.mem_map.2 ⟨_, he, rfl⟩)]; exact hm1.at' e he
    · have h1 : e.1 ∈ idsM (keepM Q s.mem) := List.mem_map.2 ⟨_, he, rfl⟩
      rw [fr2' _ h1, hγ e.1 (List.mem_append.2 (.inl (hkin _ h1).2))]
      exact Box.at_congr (fun i hi => hγ i (List.mem_append.2 (.inr (memIds_mem he i hi)))) (Box.at_mono hg (hm.at' e (keepM_mem he).1))
  · intro b hb
    have := hm1.ok.gr b hb
    cases hr : R.hp b with
    | none => rfl
    | some o => rw [show R'.hp b = some o from hRR b o hr] at this; simp at this
  · intro i hi
    rcases hin hi with h1 | h1
    · rw [fr1' i h1]; exact hm1.ok.f i h1
    · rw [fr2' i h1]; exact fun b o hb => hm1.ok.r b o (hRQ i h1 b o hb)
  · intro i hi b hb
    rcases hin hi with h1 | h1
    · rw [fr1' i h1] at hb; exact hm1.ok.gf i h1 b hb
    · rw [fr2' i h1] at hb
      obtain ⟨o, ho⟩ := Option.ne_none_iff_exists'.1 hb
      cases hg' : G' b with
      | none => rfl
      | some x =>
        have := hm1.ok.gr b (by simp [hg'])
        rw [show R'.hp b = some o from hRQ i h1 b o ho] at this; simp at this
  · intro i hi b hb
    rcases hin hi with h1 | h1
    · rw [fr1' i h1] at hb
      have := hm1.ok.rf i h1 b hb
      cases hr : R.hp b with
      | none => rfl
      | some o => rw [show R'.hp b = some o from hRR b o hr] at this; simp at this
    · rw [fr2' i h1] at hb; exact hm.ok.rf i (hkin i h1).1 b hb
  · intro i hi j hj hij b hb
    rcases hin hi with h1 | h1 <;> rcases hin hj with h2 | h2
    · rw [fr1' i h1] at hb; rw [fr1' j h2]; exact hm1.ok.ff i h1 j h2 hij b hb
    · rw [fr1' i h1] at hb; rw [fr2' j h2]
      have := hm1.ok.rf i h1 b hb
      cases hf : fr j b with
      | none => rfl
      | some o => rw [show R'.hp b = some o from hRQ j h2 b o hf] at this; simp at this
    · rw [fr2' i h1] at hb; rw [fr1' j h2]
      obtain ⟨o, ho⟩ := Option.ne_none_iff_exists'.1 hb
      cases hf : fr1 j b with
      | none => rfl
      | some x =>
        have := hm1.ok.rf j h2 b (by simp [hf])
        rw [show R'.hp b = some o from hRQ i h1 b o ho] at this; simp at this
    · rw [fr2' i h1] at hb; rw [fr2' j h2]; exact hm.ok.ff i (hkin i h1).1 j (hkin j h2).1 hij b hb
  · show i ∈ idsM (s'.mem ++ keepM Q s.mem)
    simp only [idsM, List.map_append, List.mem_append]
    exact .inr hi
end Go.Proofs.Ytnmjcdlgfimnaaa
namespace Go.Proofs.Ytnmjcdlgfimnaaa
def isQuiet : Op → Bool
  | .move _ => true
  | .assign _ => true
  | .pick _ _ _ => true
  | .load _ _ => true
  | .nilCheck _ => true
  | .fieldAddr _ _ _ => true
  | .field _ _ _ => true
  | .indexAddr _ _ _ => true
  | .index _ _ _ => true
  | .extract _ _ => true
  | .binOp _ _ _ _ _ => true
  | .unOp _ _ _ => true
  | .convert _ _ _ => true
  | .build _ _ => true
  | .slice _ _ _ _ _ => true
  | .makeFunc _ _ _ => true
  | .sliceToArrayPointer _ _ => true
  | .call c => (match c.callee with
    | .builtin .len => true
    | .builtin .min => true
    | .builtin .max => true
    | _ => false)
  | _ => false
inductive Sch
  | done
  | free (i : Nat) (r : Sch)
  | or (i : Nat) (x y : Sch)
  | stop
def Sch.heads : Sch → List Nat
  | .or i _ y => i :: y.heads
  | _ => []
def Sch.depth : Sch → Nat
  | .done => 0
  | .free _ r => r.depth + 1
  | .or _ x y => max (x.depth + 1) y.depth
  | .stop => 0
def quietAt (ops : Array Oper) (mem : Bool) (i : Nat) : Bool := match ops[i]? with
  | some o => isQuiet o.op && (mem || !memOp o.op)
  | none => false
def Sch.ok (ops : Array Oper) (late : List Nat) : Bool → Array Bool → Sch → Bool
  | top, listed, .done => top && (Region.ready .any ops listed).isEmpty
  | top, listed, .free i r => top && ((Region.ready .any ops listed).contains i && quietAt ops false i && !late.contains i && Region.free .any ops listed i && r.ok ops late true (listed.setIfInBounds i true))
  | top, listed, .or i x y => (!top || Sch.heads (.or i x y) == Region.ready .any ops listed) && (x.ok ops late true (listed.setIfInBounds i true) && y.ok ops late false listed)
  | top, _, .stop => !top
def okA (ops : Array Oper) (late : List Nat) : Array Bool → List Nat → Bool
  | _, [] => true
  | listed, i :: r => (Region.ready .any ops listed).contains i && quietAt ops true i && !late.contains i && Region.free .any ops listed i && late.all (fun j => reachB ops ops.size j i) && okA ops late (listed.setIfInBounds i true) r
def listA : Array Bool → List Nat → Array Bool
  | l, [] => l
  | l, i :: r => listA (l.setIfInBounds i true) r
def okSch (ops : Array Oper) (A late : List Nat) (sch : Sch) : Bool :=
  Region.noSelect ops && (okA ops late (Array.replicate ops.size false) A && (sch.ok ops late true (listA (Array.replicate ops.size false) A) && Nat.ble (A.length + sch.depth) ops.size))
def vGuard (ops : List Oper) (o : Oper) (s : SymSt) (F N : SymSt → Prop) : Prop := match o.guard with
  | none => F s
  | some (j, want) => match (ops[j]?).bind (·.dst) with
    | none => False
    | some d => match getS s.sl d with
      | .one (.l (.bool b)) => (b = want → F (s.put d (.one (.l (.bool want))))) ∧ (b = !want → N (s.put d (.one (.l (.bool (!want))))))
      | .tup [] => N s
      | _ => False
def vcA (E : Env) (ops : List Oper) (Q : List Nat) : List Nat → SymSt → (SymSt → Prop) → Prop
  | [], s, K => K s
  | i :: r, s, K => match ops[i]? with
    | some o => vGuard ops o s (fun s1 => vqVal E.toCtx o ⟨s1.sl, keepM Q s1.mem, s1.pins⟩ fun tv _ => vcA E ops Q r (s1.putO o.dst tv) K) (fun s1 => vcA E ops Q r (s1.putO o.dst (.tup [])) K)
    | none => False
def vcSch (E : Env) (ops : List Oper) (late Q : List Nat) : Sch → Bool → SymSt → (SymSt → Prop) → Prop
  | .done, _, s, K => K s
  | .free i r, e, s, K => match ops[i]? with
    | some o => vGuard ops o s (fun s1 => vqVal E.toCtx o s1 fun tv _ => vcSch E ops late Q r e (s1.putO o.dst tv) K) (fun s1 => vcSch E ops late Q r e (s1.putO o.dst (.tup [])) K)
    | none => False
  | .or i x y, e, s, K => (match ops[i]? with
    | some o => vGuard ops o s (fun s1 => bif e || late.contains i then vcVal E o s1 (fun tv s2 => vcSch E ops late Q x true (s2.putO o.dst tv) K)
        else vcVal E o (s1.hide Q) (fun tv s2 => backOk Q s2.mem = true ∧ vcSch E ops late Q x false ((s2.unhide s1 Q).putO o.dst tv) K))
        (fun s1 => vcSch E ops late Q x (e || late.contains i) (s1.putO o.dst (.tup [])) K)
    | none => False) ∧ vcSch E ops late Q y e s K
  | .stop, _, _, _ => True
section
variable {P : Program} {ops : Array Oper}
theorem guard_cases {o : Oper} {s : SymSt} {F N : SymSt → Prop} (h : vGuard ops.toList o s F N) {G : Hp} {γ : Nat → Value} {a : Act} (hs : SlotsOk G γ s.sl a.tmps) :
    (∃ sl', SlotsOk G γ sl' a.tmps ∧ F ⟨sl', s.mem, s.pins⟩ ∧ Region.wanted o (yielded ops a.tmps) = true) ∨ (∃ sl', SlotsOk G γ sl' a.tmps ∧ N ⟨sl', s.mem, s.pins⟩ ∧ Region.wanted o (yielded ops a.tmps) = false) := by
  have know : ∀ {d : Nat} {tv : TV}, tv.rel G γ (a.tmps.getD d undef) → SlotsOk G γ ((d, tv) :: s.sl) a.tmps := by
    intro d tv hv i
    show TV.rel G γ (getS ((d, tv) :: s.sl) i) _
    unfold getS
    by_cases e : d = i
    · subst e; simpa using hv
    · have : (d == i) = false := by simpa using e
      rw [this, cond_false]; exact hs i
  unfold vGuard at h
  split at h
  · rename_i hg
    exact .inl ⟨s.sl, hs, h, by simp [Region.wanted, hg]⟩
  · rename_i j want hg
    split at h
    · exact h.elim
    · rename_i d hdj
      have hdj' : (ops[j]?).bind (·.dst) = some d := by simpa using hdj
      have hrel := hs d
      have hy : ∀ b, a.tmps.getD d undef = .bool b → yielded ops a.tmps j = some b := by
        intro b hb
        unfold yielded
        rw [hdj']
        simp only [Option.bind_some]
        rw [Array.getD_eq_getD_getElem?] at hb
        cases hx : a.tmps[d]? with
        | none => rw [hx] at hb; simp [undef] at hb
        | some v => rw [hx] at hb; simp only [Option.getD_some] at hb; rw [hb]
      split at h
      · rename_i b hb
        rw [hb] at hrel
        have hv : a.tmps.getD d undef = .bool b := by simpa [TV.rel, SV.rel, LV.relV, LV.rel] using hrel
        by_cases e : b = want
        · exact .inl ⟨_, know (by rw [hv, e]; rfl), h.1 e, by simp [Region.wanted, hg, hy b hv, e]⟩
        · have e' : b = !want := by cases b <;> cases want <;> simp_all
          exact .inr ⟨_, know (by rw [hv, e']; rfl), h.2 e', by simp [Region.wanted, hg, hy b hv, e]⟩
      · rename_i hb
        rw [hb] at hrel
        obtain ⟨vs, hvs, hv⟩ := hrel
        simp only [RelV] at hvs
        subst hvs
        have hyn : yielded ops a.tmps j = none := by
          unfold yielded
          rw [hdj']
          simp only [Option.bind_some]
          rw [Array.getD_eq_getD_getElem?] at hv
          cases hx : a.tmps[d]? with
          | none => rfl
          | some v => rw [hx] at hv; simp only [Option.getD_some] at hv; rw [hv]
        exact .inr ⟨s.sl, hs, h, by simp [Region.wanted, hg, hyn]⟩
      · exact h.elim
theorem SlotsOk.putO {G : Hp} {γ : Nat → Value} {s : SymSt} {a : Act} (hs : SlotsOk G γ s.sl a.tmps) {d : Option Nat} (hd : ∀ n, d = some n → n < a.tmps.size) {tv : TV} {v : Value} (hv : tv.rel G γ v) : SlotsOk G γ (s.putO d tv).sl (a.put d v).tmps := by
  cases d with
  | none => exact hs
  | some d =>
    intro i
    show TV.rel G γ (getS ((d, tv) :: s.sl) i) _
    unfold getS
    have hlt := hd d rfl
    by_cases e : d = i
    · subst e
      simp [Act.put, hlt, hv]
    · have : (d == i) = false := by simpa using e
      rw [this, cond_false]
      have := hs i
      simpa [Act.put, Array.getD_eq_getD_getElem?, Array.getElem?_setIfInBounds_ne e] using this
theorem putO_mem (s : SymSt) (d : Option Nat) (tv : TV) : (s.putO d tv).mem = s.mem ∧ (s.putO d tv).pins = s.pins := by cases d <;> exact ⟨rfl, rfl⟩
theorem put_defers (a : Act) (d : Option Nat) (v : Value) : (a.put d v).defers = a.defers := by cases d <;> rfl
end
end Go.Proofs.Ytnmjcdlgfimnaaa
namespace Go.Proofs.Ytnmjcdlgfimnaaa
structure Node (R : Fr) (n : Nat) (G0 : Hp) (fr0 : Nat → Hp) (Q Q0 : List Nat) (erl : Bool) (G : Hp) (γ : Nat → Value) (fr : Nat → Hp) (s : SymSt) (a : Act) (w : World) : Prop where
  sl : SlotsOk G γ s.sl a.tmps
  mem : MemF R G γ fr s.mem w
  df : a.defers = []
  pn : ∀ i, R.pin i ≠ none → i ∈ s.pins
  sz : a.tmps.size = n
  g0 : Hp.le G0 G
  q : erl = true → ∀ i ∈ Q0, i ∈ idsM s.mem ∧ i ∈ Q ∧ fr i = fr0 i
def TT (late : List Nat) (G0 : Hp) (fr0 : Nat → Hp) (Q0 : List Nat) (listed : Array Bool) (w : World) : Prop := early late listed = true → Agr G0 fr0 Q0 w
section
variable {E : Env} {ops : Array Oper} {late Q Q0 : List Nat} {G0 : Hp} {fr0 : Nat → Hp} {Qn : Exit → Act → World → Prop} {R : Fr} {n : Nat}
theorem Node.agr {erl : Bool} {G : Hp} {γ : Nat → Value} {fr : Nat → Hp} {s : SymSt} {a : Act} {w : World} (h : Node R n G0 fr0 Q Q0 erl G γ fr s a w) (he : erl = true) : Agr G0 fr0 Q0 w :=
  ⟨Hp.le_trans h.g0 h.mem.ok.g, fun i hi => by
    obtain ⟨h1, _, h3⟩ := h.q he i hi
    rw [← h3]; exact h.mem.ok.f i h1⟩
theorem lt_of_ready {i : Nat} {listed : Array Bool} (h : i ∈ Region.ready .any ops listed) : i < listed.size := by
  have := (mem_ready.1 h).1
  rcases Nat.lt_or_ge i listed.size with h' | h'
  · exact h'
  · simp [Array.getElem?_eq_none h'] at this
theorem early_late {i : Nat} {listed : Array Bool} (hi : i ∈ late) (hl : i < listed.size) : early late (listed.setIfInBounds i true) = false := by
  cases h : early late (listed.setIfInBounds i true) with
  | false => rfl
  | true =>
    unfold early at h
    simp only [List.all_eq_true, Bool.not_eq_true'] at h
    have := h i hi
    simp [hl] at this
theorem wpOp_of {i : Nat} {o : Oper} (hi : ops[i]? = some o) {s : SymSt} {F N : SymSt → Prop} (h : vGuard ops.toList o s F N) {G : Hp} {γ : Nat → Value} {a : Act} {w : World} {Kn : Act → World → Prop} (hs : SlotsOk G γ s.sl a.tmps)
    (hF : ∀ sl', SlotsOk G γ sl' a.tmps → F ⟨sl', s.mem, s.pins⟩ → o.wp E.P a w Kn Qn) (hN : ∀ sl', SlotsOk G γ sl' a.tmps → N ⟨sl', s.mem, s.pins⟩ → Kn (a.put o.dst undef) w) : wpOp E.P ops Qn i Kn a w := by
  unfold wpOp
  simp only [hi]
  rcases guard_cases h hs with ⟨sl', h1, h2, h3⟩ | ⟨sl', h1, h2, h3⟩
  · rw [if_pos h3]; exact .inl (hF sl' h1 h2)
  · rw [h3]; simp only [Bool.false_eq_true, if_false]; exact hN sl' h1 h2
theorem done_any {listed : Array Bool} {a : Act} {w : World} {T : Array Bool → World → Prop} (hr : Region.ready .any ops listed = []) (h : Qn .normal a w) : ∀ fuel, wpAnyT E.P ops Qn T fuel listed a w
  | 0 => ⟨hr, h⟩
  | _ + 1 => ⟨fun _ => h, by rw [hr]; simp⟩
theorem free_of {i : Nat} {oi : Oper} {listed : Array Bool} (hi : ops[i]? = some oi) (h : Region.free .any ops listed i = true) : ∀ j oj, ops[j]? = some oj → j ≠ i → listed.getD j true = false → (∀ e ∈ oj.after, Region.binds .any e = true → e.on ≠ i) → oi.apart ops oj = true :=
  fun j oj hj hne hun hno => Region.free_spec hi h j oj hj hne hun hno
theorem TT_set {i : Nat} (hi : i ∉ late) (listed : Array Bool) (j : Nat) (w : World) (h : TT late G0 fr0 Q0 ((listed.setIfInBounds i true).setIfInBounds j true) w) : TT late G0 fr0 Q0 (listed.setIfInBounds j true) w := by
  intro he
  apply h
  by_cases hij : i = j
  · subst hij
    rw [Array.setIfInBounds_setIfInBounds]; exact he
  · rw [Array.setIfInBounds_comm _ _ hij, early_set hi]; exact he
theorem sch_sound (hsel : Region.noSelect ops = true) (hdst : ∀ o ∈ ops, ∀ d, o.dst = some d → d < n) (hQp : ∀ c a w, ¬ Qn (.panic c) a w) {K : SymSt → Prop}
    (hfin : ∀ {G : Hp} {γ : Nat → Value} {s : SymSt} {a : Act} {w : World}, Hp.le G0 G → K s → Simm R G γ s a w → a.tmps.size = n → Qn .normal a w) :
    ∀ (sch : Sch) (top : Bool) (listed : Array Bool) (fuel : Nat) {s : SymSt} {G : Hp} {γ : Nat → Value} {fr : Nat → Hp} {a : Act} {w : World}, sch.ok ops late top listed = true → Down ops listed → sch.depth ≤ fuel →
      vcSch E ops.toList late Q sch (!early late listed) s K → Node R n G0 fr0 Q Q0 (early late listed) G γ fr s a w →
      (top = true → wpAnyT E.P ops Qn (TT late G0 fr0 Q0) fuel listed a w) ∧
      (top = false → (∀ i ∈ sch.heads, i ∈ Region.ready .any ops listed) → ∀ i ∈ sch.heads, wpOp E.P ops Qn i (fun a' w' => TT late G0 fr0 Q0 (listed.setIfInBounds i true) w' ∧ wpAnyT E.P ops Qn (TT late G0 fr0 Q0) (fuel - 1) (listed.setIfInBounds i true) a' w') a w)
  | .done, top, listed, fuel, s, G, γ, fr, a, w, hok, hd, hfu, hv, hn => by
    simp only [Sch.ok, Bool.and_eq_true, List.isEmpty_iff] at hok
    refine ⟨fun _ => done_any hok.2 (hfin hn.g0 hv ⟨hn.sl, ⟨fr, hn.mem⟩, hn.df, hn.pn⟩ hn.sz) fuel, fun ht => ?_⟩
    rw [ht] at hok; simp at hok
  | .stop, top, listed, fuel, s, G, γ, fr, a, w, hok, hd, hfu, hv, hn => by
    refine ⟨fun ht => ?_, fun _ _ i hi => by simp [Sch.heads] at hi⟩
    simp only [Sch.ok] at hok
    rw [ht] at hok; simp at hok
  | .free i r, top, listed, fuel, s, G, γ, fr, a, w, hok, hd, hfu, hv, hn => by
    simp only [Sch.ok, Bool.and_eq_true, List.contains_eq_mem, decide_eq_true_eq, Bool.not_eq_true', decide_eq_false_iff_not] at hok
    obtain ⟨htop, ⟨⟨⟨⟨hr, hq⟩, hl⟩, hf⟩, hok'⟩⟩ := hok
    refine ⟨fun _ => ?_, fun ht => by rw [ht] at htop; simp at htop⟩
    simp only [Sch.depth] at hfu
    obtain ⟨k, rfl⟩ : ∃ k, fuel = k + 1 := ⟨fuel - 1, by omega⟩
    unfold vcSch at hv
    split at hv
    · rename_i o ho
      have ho' : ops[i]? = some o := by simpa using ho
      have hdo : ∀ d, o.dst = some d → d < a.tmps.size := fun d h => hn.sz ▸ hdst o (Array.mem_of_getElem? ho') d h
      unfold quietAt at hq
      rw [ho'] at hq
      simp only [Bool.false_or, Bool.and_eq_true, Bool.not_eq_true'] at hq
      have hes : early late (listed.setIfInBounds i true) = early late listed := early_set hl
      have go : ∀ {v : Value} {tv : TV} {sl' : List (Nat × TV)}, SlotsOk G γ sl' a.tmps → YieldsIf E.P ops (fun _ => True) o v a → tv.rel G γ v → vcSch E ops.toList late Q r (!early late listed) ((⟨sl', s.mem, s.pins⟩ : SymSt).putO o.dst tv) K →
          wpAnyT E.P ops Qn (TT late G0 fr0 Q0) (k + 1) listed a w := by
        intro v tv sl' hsl hy hrel hv'
        refine wpAnyT_first (S := fun _ => True) ho' (Region.noSelect_spec hsel) (fun c a w h => absurd h (hQp c _ w)) (TT_set hl) (fun _ _ _ _ _ _ _ => trivial) k listed a w hd (free_of ho' hf) hr hy trivial ?_ ?_
        · intro he
          rw [hes] at he
          exact hn.agr he
        · obtain ⟨pm, pp⟩ := putO_mem (⟨sl', s.mem, s.pins⟩ : SymSt) o.dst tv
          have hn' : Node R n G0 fr0 Q Q0 (early late (listed.setIfInBounds i true)) G γ fr ((⟨sl', s.mem, s.pins⟩ : SymSt).putO o.dst tv) (a.put o.dst v) w := ⟨SlotsOk.putO (s := ⟨sl', s.mem, s.pins⟩) hsl hdo hrel, by rw [pm]; exact hn.mem, by rw [put_defers]; exact hn.df, by rw [pp]; exact hn.pn, by rw [put_size]; exact hn.sz, hn.g0, by rw [hes, pm]; exact hn.q⟩
          exact (sch_sound hsel hdst hQp hfin r true (listed.setIfInBounds i true) k hok' (hd.set hr) (by omega) (by rw [hes]; exact hv') hn').1 rfl
      rcases guard_cases hv hn.sl with ⟨sl', h1, h2, h3⟩ | ⟨sl', h1, h2, h3⟩
      · obtain ⟨v, tv, hrun, hK, hrel⟩ := vqVal_sound h2 R G γ fr a w h1 hn.mem
        exact go h1 (.inl ⟨h3, fun w' _ => hrun w' (by rw [hq.2]; simp)⟩) hrel hK
      · exact go h1 (.inr ⟨h3, rfl⟩) undef_rel h2
    · exact hv.elim
  | .or i x y, top, listed, fuel, s, G, γ, fr, a, w, hok, hd, hfu, hv, hn => by
    simp only [Sch.ok, Bool.and_eq_true] at hok
    obtain ⟨htop, hokx, hoky⟩ := hok
    simp only [Sch.depth] at hfu
    obtain ⟨k, rfl⟩ : ∃ k, fuel = k + 1 := ⟨fuel - 1, by omega⟩
    unfold vcSch at hv
    obtain ⟨hvx, hvy⟩ := hv
    have hhead : i ∈ Region.ready .any ops listed → wpOp E.P ops Qn i (fun a' w' => TT late G0 fr0 Q0 (listed.setIfInBounds i true) w' ∧ wpAnyT E.P ops Qn (TT late G0 fr0 Q0) k (listed.setIfInBounds i true) a' w') a w := by
      intro hr
      have hlt := lt_of_ready hr
      split at hvx
      · rename_i o ho
        have ho' : ops[i]? = some o := by simpa using ho
        have hdo : ∀ d, o.dst = some d → d < a.tmps.size := fun d h => hn.sz ▸ hdst o (Array.mem_of_getElem? ho') d h
        have hearly : early late (listed.setIfInBounds i true) = !(!early late listed || late.contains i) := by
          by_cases hil : i ∈ late
          · rw [early_late hil hlt]; simp [hil]
          · rw [early_set hil]; simp [hil]
        have go2 : ∀ {s' : SymSt} {G' : Hp} {γ' : Nat → Value} {fr' : Nat → Hp} {a' : Act} {w' : World}, vcSch E ops.toList late Q x (!early late listed || late.contains i) s' K → Node R n G0 fr0 Q Q0 (early late (listed.setIfInBounds i true)) G' γ' fr' s' a' w' →
            TT late G0 fr0 Q0 (listed.setIfInBounds i true) w' ∧ wpAnyT E.P ops Qn (TT late G0 fr0 Q0) k (listed.setIfInBounds i true) a' w' := by
          intro s' G' γ' fr' a' w' hv' hn'
          exact ⟨fun he => hn'.agr he, (sch_sound hsel hdst hQp hfin x true (listed.setIfInBounds i true) k hokx (hd.set hr) (by omega) (by rw [hearly, Bool.not_not]; exact hv') hn').1 rfl⟩
        refine wpOp_of ho' hvx hn.sl (fun sl' hsl h2 => ?_) (fun sl' hsl h2 => ?_)
        · cases hb : (!early late listed || late.contains i)
          · rw [hb, cond_false] at h2
            rw [hb] at hearly go2
            have hel : early late listed = true := by
              cases h : early late listed with
              | true => rfl
              | false => rw [h] at hb; simp at hb
            have hfr := hide_frame (Q := Q) (K := fun tv s2 => vcSch E ops.toList late Q x false (s2.putO o.dst tv) K) (vcVal_sound h2) (s := ⟨sl', s.mem, s.pins⟩) hsl hn.mem hn.df hn.pn
            refine opSem_upon hfr ?_
            rintro v w' ⟨G', γ', tv, s2, fr', hg, hK, hrel, hsl2, hm2, hkeep, hpin2⟩
            obtain ⟨pm, pp⟩ := putO_mem s2 o.dst tv
            refine go2 hK ⟨SlotsOk.putO hsl2 hdo hrel, by rw [pm]; exact hm2, by rw [put_defers]; exact hn.df, by rw [pp, hpin2]; exact hn.pn, by rw [put_size]; exact hn.sz, Hp.le_trans hn.g0 hg, fun _ j hj => ?_⟩
            obtain ⟨q1, q2, q3⟩ := hn.q hel j hj
            have hk : j ∈ idsM (keepM Q s.mem) := by
              obtain ⟨e, he, rfl⟩ := List.mem_map.1 q1
              have : ∀ {mem : List (Nat × Box)}, e ∈ mem → e.1 ∈ Q → e ∈ keepM Q mem := by
                intro mem
                induction mem with
                | nil => intro h; simp at h
                | cons z r ih =>
                  intro h hq
                  obtain ⟨zi, zb⟩ := z
                  unfold keepM
                  rcases List.mem_cons.1 h with rfl | h
                  · simp [hq]
                  · cases hc : Q.contains zi
                    · exact ih h hq
                    · exact List.mem_cons.2 (.inr (ih h hq))
              exact List.mem_map.2 ⟨e, this he q2, rfl⟩
            obtain ⟨k1, k2⟩ := hkeep j hk
            rw [pm]
            exact ⟨k2, q2, k1.trans q3⟩
          · rw [hb, cond_true] at h2
            rw [hb] at hearly go2
            refine opSem_upon (vcVal_sound h2 R G γ a w ⟨hsl, ⟨fr, hn.mem⟩, hn.df, hn.pn⟩) ?_
            rintro v w' ⟨G', γ', tv, s2, hg, hK, hrel, hs2⟩
            obtain ⟨fr', hm2⟩ := hs2.mem
            obtain ⟨pm, pp⟩ := putO_mem s2 o.dst tv
            refine go2 hK ⟨SlotsOk.putO hs2.sl hdo hrel, by rw [pm]; exact hm2, by rw [put_defers]; exact hn.df, by rw [pp]; exact hs2.pn, by rw [put_size]; exact hn.sz, Hp.le_trans hn.g0 hg, fun he => ?_⟩
            rw [hearly] at he; simp at he
        · obtain ⟨pm, pp⟩ := putO_mem (⟨sl', s.mem, s.pins⟩ : SymSt) o.dst (.tup [])
          refine go2 h2 ⟨SlotsOk.putO (s := ⟨sl', s.mem, s.pins⟩) hsl hdo undef_rel, by rw [pm]; exact hn.mem, by rw [put_defers]; exact hn.df, by rw [pp]; exact hn.pn, by rw [put_size]; exact hn.sz, hn.g0, fun he => ?_⟩
          rw [pm]
          refine hn.q ?_
          exact early_mono he
      · exact hvx.elim
    have hrest := (sch_sound hsel hdst hQp hfin y false listed (k + 1) hoky hd (by omega) hvy hn).2 rfl
    constructor
    · intro ht
      rw [ht] at htop
      simp only [Bool.not_true, Bool.false_or, beq_iff_eq] at htop
      have hin : ∀ j ∈ Sch.heads (.or i x y), j ∈ Region.ready .any ops listed := fun j hj => htop ▸ hj
      refine ⟨fun h0 => ?_, fun j hj => ?_⟩
      · rw [← htop] at h0; simp [Sch.heads] at h0
      · rw [← htop] at hj
        rcases List.mem_cons.1 hj with rfl | hj'
        · exact hhead (hin j hj)
        · exact hrest (fun l hl => hin l (List.mem_cons.2 (.inr hl))) j hj'
    · intro _ hin j hj
      rcases List.mem_cons.1 hj with rfl | hj'
      · exact hhead (hin j hj)
      · exact hrest (fun l hl => hin l (List.mem_cons.2 (.inr hl))) j hj'
end
end Go.Proofs.Ytnmjcdlgfimnaaa
namespace Go.Proofs.Ytnmjcdlgfimnaaa
section
variable {E : Env} {ops : Array Oper} {late Q : List Nat} {Qn : Exit → Act → World → Prop} {R : Fr} {n : Nat}
theorem keepM_sub {Q : List Nat} {mem : List (Nat × Box)} : ∀ i ∈ idsM (keepM Q mem), i ∈ idsM mem ∧ i ∈ Q := by
  intro i hi
  obtain ⟨e, he, rfl⟩ := List.mem_map.1 hi
  exact ⟨List.mem_map.2 ⟨_, (keepM_mem he).1, rfl⟩, (keepM_mem he).2⟩
theorem MemF.keep {G : Hp} {γ : Nat → Value} {fr : Nat → Hp} {mem : List (Nat × Box)} {w : World} (h : MemF R G γ fr mem w) (Q : List Nat) : MemF R G γ fr (keepM Q mem) w :=
  ⟨keepM_nodup h.nd, h.pin, fun e he => h.at' e (keepM_mem he).1, h.ok.sub fun i hi => (keepM_sub i hi).1⟩
theorem listA_down : ∀ {A : List Nat} {listed : Array Bool}, okA ops late listed A = true → Down ops listed → Down ops (listA listed A)
  | [], _, _, h => h
  | i :: r, listed, hok, h => by
    simp only [okA, Bool.and_eq_true, List.contains_eq_mem, decide_eq_true_eq] at hok
    show Down ops (listA (listed.setIfInBounds i true) r)
    exact listA_down hok.2 (h.set hok.1.1.1.1.1)
theorem vcA_sound (hsel : Region.noSelect ops = true) (hdst : ∀ o ∈ ops, ∀ d, o.dst = some d → d < n) (hQp : ∀ c a w, ¬ Qn (.panic c) a w) {K : SymSt → Prop} {G : Hp} {γ : Nat → Value} {fr : Nat → Hp} {mem : List (Nat × Box)} {pins : List Nat} {w : World} {fuel : Nat}
    (hm : MemF R G γ fr mem w) (hpn : ∀ i, R.pin i ≠ none → i ∈ pins) :
    ∀ (A : List Nat) (listed : Array Bool) {sl : List (Nat × TV)} {a : Act}, okA ops late listed A = true → Down ops listed → early late listed = true → vcA E ops.toList Q A ⟨sl, mem, pins⟩ K → SlotsOk G γ sl a.tmps → a.defers = [] → a.tmps.size = n →
      (∀ sl' a', K ⟨sl', mem, pins⟩ → SlotsOk G γ sl' a'.tmps → a'.defers = [] → a'.tmps.size = n → early late (listA listed A) = true → wpAnyT E.P ops Qn (TT late G fr (idsM (keepM Q mem))) fuel (listA listed A) a' w) →
      wpAnyT E.P ops Qn (TT late G fr (idsM (keepM Q mem))) (A.length + fuel) listed a w
  | [], listed, sl, a, _, _, he, hv, hsl, hdf, hsz, hfin => by
    simp only [List.length_nil, Nat.zero_add]
    exact hfin sl a hv hsl hdf hsz he
  | i :: r, listed, sl, a, hok, hd, he, hv, hsl, hdf, hsz, hfin => by
    simp only [okA, Bool.and_eq_true, List.contains_eq_mem, decide_eq_true_eq, Bool.not_eq_true', decide_eq_false_iff_not, List.all_eq_true] at hok
    obtain ⟨⟨⟨⟨⟨hr, hq⟩, hl⟩, hf⟩, hreach⟩, hok'⟩ := hok
    unfold vcA at hv
    split at hv
    · rename_i o ho
      have ho' : ops[i]? = some o := by simpa using ho
      have hdo : ∀ d, o.dst = some d → d < a.tmps.size := fun d h => hsz ▸ hdst o (Array.mem_of_getElem? ho') d h
      have hes : early late (listed.setIfInBounds i true) = true := by rw [early_set hl]; exact he
      have hagr : Agr G fr (idsM (keepM Q mem)) w := (hm.keep Q).agr
      have hS : ∀ (listed : Array Bool) (j : Nat) (w : World), Down ops listed → listed.getD i true = false → j ∈ Region.ready .any ops listed → TT late G fr (idsM (keepM Q mem)) ((listed.setIfInBounds i true).setIfInBounds j true) w → Agr G fr (idsM (keepM Q mem)) w := by
        intro listed j w hd hun hj hT
        refine TT_set hl listed j w hT ?_
        unfold early
        simp only [List.all_eq_true, Bool.not_eq_true']
        intro k hk
        have hne : k ≠ i := fun e => hl (e ▸ hk)
        have hu := unlisted_false hun
        cases hx : (listed.setIfInBounds j true).getD k false with
        | false => rfl
        | true =>
          exfalso
          have hedges : ∀ oj, ops[k]? = some oj → ∀ e ∈ oj.after, Region.binds .any e = true → listed.getD e.on false = true := by
            intro oj hoj e he hb
            by_cases hjk : j = k
            · subst hjk
              obtain ⟨_, o2, ho2, hall⟩ := mem_ready.1 hj
              rw [ho2] at hoj
              simp only [Option.some.injEq] at hoj
              subst hoj
              exact hall e he hb
            · rw [getD_set_ne false hjk] at hx
              exact hd k hx oj hoj e he hb
          have := reachB_listed hd (hreach k hk) hedges
          rw [hu] at this; simp at this
      have go : ∀ {v : Value} {tv : TV} {sl' : List (Nat × TV)}, SlotsOk G γ sl' a.tmps → YieldsIf E.P ops (Agr G fr (idsM (keepM Q mem))) o v a → tv.rel G γ v → vcA E ops.toList Q r ((⟨sl', mem, pins⟩ : SymSt).putO o.dst tv) K →
          wpAnyT E.P ops Qn (TT late G fr (idsM (keepM Q mem))) ((i :: r).length + fuel) listed a w := by
        intro v tv sl' hsl' hy hrel hv'
        have hlen : (i :: r).length + fuel = (r.length + fuel) + 1 := by simp only [List.length_cons]; omega
        rw [hlen]
        have e1 : (⟨sl', mem, pins⟩ : SymSt).putO o.dst tv = ⟨((⟨sl', mem, pins⟩ : SymSt).putO o.dst tv).sl, mem, pins⟩ := by cases o.dst <;> rfl
        rw [e1] at hv'
        refine wpAnyT_first (S := Agr G fr (idsM (keepM Q mem))) ho' (Region.noSelect_spec hsel) (fun c a w h => absurd h (hQp c _ w)) (TT_set hl) hS _ listed a w hd (free_of ho' hf) hr hy hagr (fun _ => hagr) ?_
        refine vcA_sound hsel hdst hQp hm hpn r (listed.setIfInBounds i true) hok' (hd.set hr) hes hv' (SlotsOk.putO (s := ⟨sl', mem, pins⟩) hsl' hdo hrel) (by rw [put_defers]; exact hdf) (by rw [put_size]; exact hsz) hfin
      rcases guard_cases hv hsl with ⟨sl', h1, h2, h3⟩ | ⟨sl', h1, h2, h3⟩
      · obtain ⟨v, tv, hrun, hK, hrel⟩ := vqVal_sound h2 R G γ fr a w h1 (hm.keep Q)
        exact go h1 (.inl ⟨h3, fun w' hw => hrun w' fun _ => hw⟩) hrel hK
      · exact go h1 (.inr ⟨h3, rfl⟩) undef_rel h2
    · exact hv.elim
def vcDraw (E : Env) (ops : Array Oper) (A late Q : List Nat) (sch : Sch) (s : SymSt) (K : SymSt → Prop) : Prop :=
  vcA E ops.toList Q A s fun s' => vcSch E ops.toList late Q sch false s' K
theorem early_all {k : Nat} (late : List Nat) : early late (Array.replicate k false) = true := by
  unfold early
  simp only [List.all_eq_true, Bool.not_eq_true']
  intro j _
  rw [Array.getD_eq_getD_getElem?, Array.getElem?_replicate]
  split <;> rfl
theorem down_none {k : Nat} : Down ops (Array.replicate k false) := by
  intro j hj
  rw [Array.getD_eq_getD_getElem?, Array.getElem?_replicate] at hj
  split at hj <;> simp at hj
theorem draw_sound {id : Nat} {A : List Nat} {sch : Sch} {s : SymSt} {K : SymSt → Prop} (hm : E.P.follows .mixedOrders = true) (hok : okSch ops A late sch = true) (h : vcDraw E ops A late Q sch s K) (hdst : ∀ o ∈ ops, ∀ d, o.dst = some d → d < n)
    {G : Hp} {γ : Nat → Value} {a : Act} {w : World} (hs : Simm R G γ s a w) (hn : a.tmps.size = n) :
    (Code.region id ops true).wp E.P (fun e a' w' => e = .normal ∧ ∃ G' γ' s', Hp.le G G' ∧ K s' ∧ Simm R G' γ' s' a' w' ∧ a'.tmps.size = n) a w := by
  simp only [okSch, Bool.and_eq_true] at hok
  obtain ⟨hsel, hA, hsch, hlen⟩ := hok
  have hs' := hs.drew (w.drawn + 1)
  obtain ⟨fr, hmf⟩ := hs'.mem
  obtain ⟨sl, mem, pins⟩ := s
  have hlen' := Nat.le_of_ble_eq_true hlen
  refine wp_region_any hm (wpAny_of_T (T := TT late G fr (idsM (keepM Q mem))) _ _ _ _ ?_)
  obtain ⟨k, hk⟩ : ∃ k, ops.size = A.length + k := ⟨ops.size - A.length, by omega⟩
  rw [hk]
  refine vcA_sound (R := R) (n := n) (Q := Q) hsel hdst (fun c a w h => by simp at h) hmf hs.pn A _ (by rw [← hk]; exact hA) down_none (early_all late) h hs'.sl hs'.df hn ?_
  intro sl' a' hv hsl hdf hsz he
  have hnode : Node R n G fr Q (idsM (keepM Q mem)) (early late (listA (Array.replicate (A.length + k) false) A)) G γ fr ⟨sl', mem, pins⟩ a' { w with drawn := w.drawn + 1 } :=
    ⟨hsl, hmf, hdf, hs.pn, hsz, Hp.le_refl G, fun _ i hi => ⟨(keepM_sub i hi).1, (keepM_sub i hi).2, rfl⟩⟩
  refine (sch_sound hsel hdst (fun c a w h => by simp at h) (K := K) (fun hg hK hsm hz => ⟨rfl, _, _, _, hg, hK, hsm, hz⟩) sch true _ k (by rw [← hk]; exact hsch) (listA_down (by rw [← hk]; exact hA) down_none) (by omega) ?_ hnode).1 rfl
  rw [he]
  exact hv
end
end Go.Proofs.Ytnmjcdlgfimnaaa
namespace Go.Proofs.Ytnmjcdlgfimnaaa
theorem inK_i64 (n : Int) : inK .i64 n ↔ -9223372036854775808 ≤ n ∧ n ≤ 9223372036854775807 := by simp [inK, IntKind.min, IntKind.max, IntKind.signed, IntKind.bits]
theorem inK_i32 (n : Int) : inK .i32 n ↔ -2147483648 ≤ n ∧ n ≤ 2147483647 := by simp [inK, IntKind.min, IntKind.max, IntKind.signed, IntKind.bits]
theorem inK_u64 (n : Int) : inK .u64 n ↔ 0 ≤ n ∧ n ≤ 18446744073709551615 := by simp [inK, IntKind.min, IntKind.max, IntKind.signed, IntKind.bits]
theorem inK_u32 (n : Int) : inK .u32 n ↔ 0 ≤ n ∧ n ≤ 4294967295 := by simp [inK, IntKind.min, IntKind.max, IntKind.signed, IntKind.bits]
theorem inK_u16 (n : Int) : inK .u16 n ↔ 0 ≤ n ∧ n ≤ 65535 := by simp [inK, IntKind.min, IntKind.max, IntKind.signed, IntKind.bits]
theorem inK_u8 (n : Int) : inK .u8 n ↔ 0 ≤ n ∧ n ≤ 255 := by simp [inK, IntKind.min, IntKind.max, IntKind.signed, IntKind.bits]
def LV.fact : LV → Prop
  | .int k x => inK k x
  | .str s => s.length ≤ 9223372036854775807
  | .dat R x => R.ok x
  | .view _ _ _ _ _ n => n ≤ 9223372036854775807
  | _ => True
def factsL : List LV → Prop
  | [] => True
  | x :: r => x.fact ∧ factsL r
def SV.fact : SV → Prop
  | .l x => x.fact
  | .agg xs => factsL xs
def TV.fact : TV → Prop
  | .one x => x.fact
  | .tup _ => True
def Box.fact : Box → Prop
  | .segs l => factsL l
  | .arr R l => l.length ≤ 9223372036854775807 ∧ ∀ x ∈ l, R.ok x
  | .sarr n l => n ≤ 9223372036854775807 ∧ factsL l
  | _ => True
def factsM : List (Nat × Box) → Prop
  | [] => True
  | (_, b) :: r => b.fact ∧ factsM r
theorem LV.fact_of {G : Hp} {γ : Nat → Value} {x : LV} {cs : List Value} (h : x.rel G γ cs) : x.fact := by
  cases x <;> simp only [LV.fact]
  case int => exact h.2
  case str => exact h.2
  case dat R x => exact R.enc_ok h
  case view => obtain ⟨_, _, h1, h2, _⟩ := h; exact Nat.le_trans h1 h2
theorem LV.fact_ofV {G : Hp} {γ : Nat → Value} {x : LV} {v : Value} (h : x.relV G γ v) : x.fact := by
  cases x
  case dat R x => obtain ⟨cs, hc, _⟩ := h; exact R.enc_ok hc
  case undef => trivial
  all_goals exact LV.fact_of (G := G) (γ := γ) h
theorem factsL_of {G : Hp} {γ : Nat → Value} : ∀ {l : List LV} {cs : List Value}, RelL G γ l cs → factsL l
  | [], _, _ => trivial
  | _ :: _, _, ⟨_, _, _, hx, hl⟩ => ⟨LV.fact_of hx, factsL_of hl⟩
theorem SV.fact_of {G : Hp} {γ : Nat → Value} {x : SV} {v : Value} (h : x.rel G γ v) : x.fact := by
  cases x with
  | l x => exact LV.fact_ofV h
  | agg xs => obtain ⟨cs, hc, _⟩ := h; exact factsL_of hc
theorem TV.fact_of {G : Hp} {γ : Nat → Value} {x : TV} {v : Value} (h : x.rel G γ v) : x.fact := by
  cases x with
  | one x => exact SV.fact_of h
  | tup xs => trivial
theorem factsL_ofV {G : Hp} {γ : Nat → Value} : ∀ {l : List LV} {us : List Value}, RelV G γ (l.map .l) us → factsL l
  | [], _, _ => trivial
  | x :: l, _, ⟨_, _, _, hx, hl⟩ => ⟨LV.fact_ofV hx, factsL_ofV hl⟩
theorem Box.fact_of {G : Hp} {γ : Nat → Value} {b : Box} {v : Value} {f : Hp} (h : b.at G γ v f) : b.fact := by
  cases b with
  | segs => obtain ⟨_, _, _, _, _, hl⟩ := h; exact factsL_of hl
  | arr R =>
    rcases h with ⟨b, t, es, sp, c, e, ef, hl, hn, hm, hs⟩ | ⟨rfl, _⟩
    · exact ⟨Nat.le_trans hn hm, EncL.all (fun _ _ h => R.enc_ok h) hl⟩
    · exact ⟨by simp, by simp⟩
  | sarr n l => obtain ⟨b, t, es, sp, c, _, _, hl, hn, hm⟩ := h; exact ⟨Nat.le_trans hn hm, factsL_of hl⟩
  | obj O D => trivial
  | mpr A M V d => trivial
section
variable {s : SymSt}
theorem vc_facts {R : Fr} {G : Hp} {γ : Nat → Value} {a : Act} {w : World} (hs : Simm R G γ s a w) : (∀ i, (getS s.sl i).fact) ∧ factsM s.mem := by
  refine ⟨fun i => TV.fact_of (hs.sl i), ?_⟩
  obtain ⟨fr, _, _, hat, _⟩ := hs.mem
  have : ∀ l : List (Nat × Box), (∀ e ∈ l, e ∈ s.mem) → factsM l := by
    intro l
    induction l with
    | nil => intro _; trivial
    | cons e l ih => intro h; exact ⟨Box.fact_of (hat e (h e (by simp))), ih fun x hx => h x (by simp [hx])⟩
  exact this _ fun _ h => h
end
end Go.Proofs.Ytnmjcdlgfimnaaa
namespace Go.Proofs.Ytnmjcdlgfimnaaa
def LeS : List (Nat × TV) → List (Nat × TV) → Prop
  | [], _ => True
  | (i, v) :: r, sl => getS sl i = v ∧ LeS r sl
def LeM : List (Nat × Box) → List (Nat × Box) → Prop
  | [], _ => True
  | (i, b) :: r, mem => getM mem i = some b ∧ LeM r mem
def Le (s1 s : SymSt) : Prop := LeS s1.sl s.sl ∧ LeM s1.mem s.mem ∧ (idsM s1.mem).Nodup ∧ s1.pins = s.pins
theorem LeS.get : ∀ {l sl : List (Nat × TV)}, LeS l sl → ∀ i, getS l i = getS sl i ∨ getS l i = .one (.l .undef)
  | [], _, _, _ => .inr rfl
  | (j, v) :: r, sl, h, i => by
    have e0 : getS ((j, v) :: r) i = bif j == i then v else getS r i := rfl
    rw [e0]
    cases e : (j == i)
    · exact LeS.get h.2 i
    · have : j = i := by simpa using e
      subst this
      exact .inl h.1.symm
theorem LeM.mem : ∀ {l mem : List (Nat × Box)}, LeM l mem → ∀ e ∈ l, e ∈ mem
  | [], _, _, _, h => by simp at h
  | (i, b) :: r, mem, h, e, he => by
    rcases List.mem_cons.1 he with rfl | he
    · exact getM_mem h.1
    · exact LeM.mem h.2 e he
theorem Simm.le {R : Fr} {G : Hp} {γ : Nat → Value} {s s1 : SymSt} {a : Act} {w : World} (h : Simm R G γ s a w) (hl : Le s1 s) : Simm R G γ s1 a w := by
  refine ⟨?_, h.mem.sub hl.2.2.1 (LeM.mem hl.2.1), h.df, hl.2.2.2 ▸ h.pn⟩
  intro i
  rcases hl.1.get i with e | e
  · rw [e]; exact h.sl i
  · rw [e]; trivial
def GLe (s1 s : SymSt) : Prop := s1.pins = s.pins ∧ ∀ R G γ a w, Simm R G γ s a w → ∃ G' γ', Hp.le G G' ∧ Simm R G' γ' s1 a w
theorem GLe.refl (s : SymSt) : GLe s s := ⟨rfl, fun _ G γ _ _ h => ⟨G, γ, Hp.le_refl G, h⟩⟩
theorem GLe.trans {s1 s2 s3 : SymSt} (h : GLe s1 s2) (h' : GLe s2 s3) : GLe s1 s3 := ⟨h.1.trans h'.1, fun R G γ a w hs => by
  obtain ⟨G1, γ1, hg1, hs1⟩ := h'.2 R G γ a w hs
  obtain ⟨G2, γ2, hg2, hs2⟩ := h.2 R G1 γ1 a w hs1
  exact ⟨G2, γ2, Hp.le_trans hg1 hg2, hs2⟩⟩
def GLeI {ι : Type 1} (S : ι → SymSt) (s : SymSt) : Prop := ∀ R G γ a w, (∀ i, i ∉ s.pins → R.pin i = none) → Simm R G γ s a w → ∃ i G' γ', Hp.le G G' ∧ Simm R G' γ' (S i) a w
theorem GLe.one {s1 s : SymSt} (h : GLe s1 s) : GLeI (fun _ : PUnit => s1) s := fun R G γ a w _ hs => by
  obtain ⟨G', γ', hg, hs'⟩ := h.2 R G γ a w hs
  exact ⟨⟨⟩, G', γ', hg, hs'⟩
theorem least_of {p : Nat → Prop} : ∀ n, p n → ∃ n, p n ∧ ∀ m, p m → n ≤ m := by
  intro n
  induction n using Nat.strongRecOn with
  | _ n ih =>
    intro hn
    by_cases h : ∃ m, m < n ∧ p m
    · obtain ⟨m, hm, hp⟩ := h
      exact ih m hm hp
    · exact ⟨n, hn, fun m hm => Nat.le_of_not_lt fun hlt => h ⟨m, hlt, hm⟩⟩
theorem wp_loop_ghost {P : Program} {c : Code} {Q : Exit → Act → World → Prop} (I : Nat → Act → World → Prop) {n : Nat} {a : Act} {w : World} (h0 : I n a w)
    (round : ∀ n a w, I n a w → c.wp P (Exit.then (fun a' w' => ∃ m, m < n ∧ I m a' w') Q) a w) : (Code.loop c).wp P Q a w := by
  classical
  have least : ∀ a w, (∃ n, I n a w) → ∃ n, I n a w ∧ ∀ m, I m a w → n ≤ m := fun a w ⟨n, h⟩ => least_of n h
  let μ : Act → World → Nat := fun a w => if h : ∃ n, I n a w then Classical.choose (least a w h) else 0
  refine wp_loop (fun a w => ∃ n, I n a w) μ ⟨n, h0⟩ ?_
  intro a w hI
  have hm : I (μ a w) a w := by
    simp only [μ, dif_pos hI]
    exact (Classical.choose_spec (least a w hI)).1
  refine wp_mono (round _ a w hm) ?_
  intro e a' w' h
  cases e with
  | normal =>
    obtain ⟨m, hlt, hI'⟩ := h
    refine ⟨⟨m, hI'⟩, ?_⟩
    have : μ a' w' ≤ m := by
      simp only [μ, dif_pos (⟨m, hI'⟩ : ∃ n, I n a' w')]
      exact (Classical.choose_spec (least a' w' ⟨m, hI'⟩)).2 m hI'
    omega
  | _ => exact h
abbrev KC := Exit → SymSt → Prop
def codeFits (n : Nat) : Code → Bool
  | .region _ ops _ => ops.toList.all fun o => match o.dst with
    | some d => decide (d < n)
    | none => true
  | .seq x y => codeFits n x && codeFits n y
  | .cond _ x y => codeFits n x && codeFits n y
  | .block _ x => codeFits n x
  | .loop x => codeFits n x
  | .scope x => codeFits n x
  | _ => true
def QK (R : Fr) (G : Hp) (n : Nat) (K : KC) (e : Exit) (a : Act) (w : World) : Prop := ∃ G' γ' s', Hp.le G G' ∧ K e s' ∧ Simm R G' γ' s' a w ∧ a.tmps.size = n
theorem QK.of {R : Fr} {G : Hp} {γ : Nat → Value} {n : Nat} {K : KC} {e : Exit} {s : SymSt} {a : Act} {w : World} (h : K e s) (hs : Simm R G γ s a w) (hn : a.tmps.size = n) : QK R G n K e a w :=
  ⟨G, γ, s, Hp.le_refl G, h, hs, hn⟩
theorem QK.up {R : Fr} {G G' : Hp} {n : Nat} {K : KC} {e : Exit} {a : Act} {w : World} (hg : Hp.le G G') (h : QK R G' n K e a w) : QK R G n K e a w := by
  obtain ⟨G2, γ2, s2, h1, h2, h3, h4⟩ := h
  exact ⟨G2, γ2, s2, Hp.le_trans hg h1, h2, h3, h4⟩
theorem findLabel_fits {n l : Nat} : ∀ {c rest : Code}, findLabel c l = some rest → codeFits n c = true → codeFits n rest = true
  | .seq x y, rest, h, hf => by
    unfold findLabel at h
    simp only [codeFits, Bool.and_eq_true] at hf
    split at h
    · rename_i r hr
      obtain rfl := Option.some.inj h
      simp only [codeFits, Bool.and_eq_true]
      exact ⟨findLabel_fits hr hf.1, hf.2⟩
    · exact findLabel_fits h hf.2
  | .label l', rest, h, _ => by
    unfold findLabel at h
    split at h
    · obtain rfl := Option.some.inj h; rfl
    · simp at h
  | .skip, _, h, _ | .region .., _, h, _ | .cond .., _, h, _ | .block .., _, h, _ | .loop _, _, h, _ | .exit _, _, h, _ | .ret, _, h, _ | .rangeFunc .., _, h, _ | .scope _, _, h, _ | .goto _, _, h, _ | .refuse _, _, h, _ => by simp [findLabel] at h
def WpC (P : Program) (c : Code) (s : SymSt) (K : KC) : Prop := ∀ (n : Nat) (R : Fr) (G : Hp) (γ : Nat → Value) (a : Act) (w : World), codeFits n c = true → Simm R G γ s a w → a.tmps.size = n → c.wp P (QK R G n K) a w
theorem wp_scope_ghost {P : Program} {c rest : Code} {Q : Exit → Act → World → Prop} (l : Nat) (I : Nat → Act → World → Prop) (hf : findLabel c l = some rest) {a : Act} {w : World}
    (first : c.wp P (Exit.jump l (fun a w => ∃ m, I m a w) Q) a w)
    (pass : ∀ n a w, I n a w → rest.wp P (Exit.jump l (fun a' w' => ∃ m, m < n ∧ I m a' w') Q) a w) : (Code.scope c).wp P Q a w := by
  classical
  have least : ∀ a w, (∃ n, I n a w) → ∃ n, I n a w ∧ ∀ m, I m a w → n ≤ m := fun a w ⟨n, h⟩ => least_of n h
  let μ : Act → World → Nat := fun a w => if h : ∃ n, I n a w then Classical.choose (least a w h) else 0
  refine wp_scope_jumps l (fun a w => ∃ n, I n a w) μ hf first ?_
  intro a w hI
  have hm : I (μ a w) a w := by
    simp only [μ, dif_pos hI]
    exact (Classical.choose_spec (least a w hI)).1
  refine wp_mono (pass _ a w hm) ?_
  intro e a' w' h
  cases e with
  | goto l' =>
    obtain ⟨rfl, m, hlt, hI'⟩ := h
    refine ⟨rfl, ⟨m, hI'⟩, ?_⟩
    have : μ a' w' ≤ m := by
      simp only [μ, dif_pos (⟨m, hI'⟩ : ∃ n, I n a' w')]
      exact (Classical.choose_spec (least a' w' ⟨m, hI'⟩)).2 m hI'
    omega
  | _ => exact h
def vcCode (E : Env) : Code → SymSt → KC → Prop
  | .skip, s, K => ∃ (ι : Type 1) (S : ι → SymSt), GLeI S s ∧ ∀ i, K .normal (S i)
  | .region _ ops draw, s, K => (draw = false → vcOps E ops.toList ops.toList s fun s' => ∃ (ι : Type 1) (S : ι → SymSt), GLeI S s' ∧ ∀ i, K .normal (S i)) ∧
      (draw = true → ∃ A late Q sch, E.P.follows .mixedOrders = true ∧ okSch ops A late sch = true ∧ vcDraw E ops A late Q sch s fun s' => ∃ (ι : Type 1) (S : ι → SymSt), GLeI S s' ∧ ∀ i, K .normal (S i))
  | .seq x y, s, K => vcCode E x s fun e s' => match e with
    | .normal => vcCode E y s' K
    | e => K e s'
  | .cond c x y, s, K => match ev s c with
    | .l (.bool b) => (b = true → vcCode E x s K) ∧ (b = false → vcCode E y s K)
    | _ => False
  | .block id x, s, K => vcCode E x s fun e s' => match e with
    | .exit i => bif i == id then K .normal s' else K (.exit i) s'
    | e => K e s'
  | .loop x, s, K => ∃ (ι : Type) (ok : ι → Prop) (St : ι → SymSt) (μ : ι → Nat), (∃ i, ok i ∧ GLe (St i) s) ∧ ∀ i, ok i → (∀ j, (getS (St i).sl j).fact) → factsM (St i).mem → vcCode E x (St i) fun e s' => match e with
    | .normal => ∃ j, ok j ∧ μ j < μ i ∧ GLe (St j) s'
    | e => K e s'
  | .exit id, s, K => K (.exit id) s
  | .label _, s, K => K .normal s
  | .ret, s, K => K .ret s
  | .goto l, s, K => K (.goto l) s
  | .scope x, s, K => (vcCode E x s fun e s' => match e with
      | .goto _ => False
      | e => K e s') ∨ ∃ (ι : Type) (ok : ι → Prop) (St : ι → SymSt) (μ : ι → Nat) (l : Nat) (rest : Code), findLabel x l = some rest ∧
      (vcCode E x s fun e s' => match e with
        | .goto l' => l' = l ∧ ∃ i, ok i ∧ GLe (St i) s'
        | e => K e s') ∧
      ∀ i, ok i → (∀ j, (getS (St i).sl j).fact) → factsM (St i).mem → WpC E.P rest (St i) fun e s' => match e with
        | .goto l' => l' = l ∧ ∃ j, ok j ∧ μ j < μ i ∧ GLe (St j) s'
        | e => K e s'
  | _, _, _ => False
theorem range_map {α : Type} (l : Array α) : (List.range l.size).map (l[·]?) = l.toList.map some := by
  apply List.ext_getElem?
  intro i
  by_cases h : i < l.size
  · simp [h]
  · simp [h]
theorem vcCode_sound {E : Env} {n : Nat} {R : Fr} : ∀ (c : Code) {s : SymSt} {K : KC} {G : Hp} {γ : Nat → Value} {a : Act} {w : World}, vcCode E c s K → codeFits n c = true → Simm R G γ s a w → a.tmps.size = n →
    c.wp E.P (QK R G n K) a w
  | .skip, s, K, G, γ, a, w, h, _, hs, hn => by
    obtain ⟨ι, S, hgl, hK⟩ := h
    obtain ⟨i, G2, γ2, hg2, hs2⟩ := hgl _ _ _ _ _ (fun i hi => Classical.byContradiction fun h => hi (hs.pn i h)) hs
    exact wp_skip ⟨G2, γ2, S i, hg2, hK i, hs2, hn⟩
  | .region id ops draw, s, K, G, γ, a, w, h, hf, hs, hn => by
    unfold vcCode at h
    have hdst : ∀ o ∈ ops, ∀ d, o.dst = some d → d < n := by
      intro o ho d hd
      simp only [codeFits, List.all_eq_true] at hf
      have := hf o (by simpa using ho)
      rw [hd] at this
      simpa using this
    cases draw with
    | false =>
      refine wp_region ?_
      refine wpOps_sound (n := n) (R := R) _ ops.toList (range_map ops) (fun o ho => hdst o (by simpa using ho)) (h.1 rfl) hs hn ?_
      rintro a' w' ⟨G', γ', s', hg, ⟨ι, S, hgl, hK⟩, hs', hn'⟩
      obtain ⟨i, G2, γ2, hg2, hs2⟩ := hgl _ _ _ _ _ (fun i hi => Classical.byContradiction fun h => hi (hs'.pn i h)) hs'
      exact ⟨G2, γ2, S i, Hp.le_trans hg hg2, hK i, hs2, hn'⟩
    | true =>
      obtain ⟨A, late, Q, sch, hm, hok, hv⟩ := h.2 rfl
      refine wp_mono (draw_sound (id := id) hm hok hv hdst hs hn) ?_
      rintro e a' w' ⟨rfl, G', γ', s', hg, ⟨ι, S, hgl, hK⟩, hs', hn'⟩
      obtain ⟨i, G2, γ2, hg2, hs2⟩ := hgl _ _ _ _ _ (fun i hi => Classical.byContradiction fun h => hi (hs'.pn i h)) hs'
      exact ⟨G2, γ2, S i, Hp.le_trans hg hg2, hK i, hs2, hn'⟩
  | .seq x y, s, K, G, γ, a, w, h, hf, hs, hn => by
    unfold vcCode at h
    simp only [codeFits, Bool.and_eq_true] at hf
    refine wp_seq (wp_mono (vcCode_sound x h hf.1 hs hn) ?_)
    rintro e a' w' ⟨G', γ', s', hg, hK, hs', hn'⟩
    cases e with
    | normal => exact wp_mono (vcCode_sound y hK hf.2 hs' hn') fun e a w h => h.up hg
    | _ => exact ⟨G', γ', s', hg, hK, hs', hn'⟩
  | .cond c x y, s, K, G, γ, a, w, h, hf, hs, hn => by
    unfold vcCode at h
    simp only [codeFits, Bool.and_eq_true] at hf
    have hc := ev_rel hs.sl c
    split at h
    · rename_i b he
      rw [he] at hc
      have hc' : a.eval c = .bool b := by simpa [SV.rel, LV.relV, LV.rel] using hc
      exact wp_cond_split hc' (fun e => vcCode_sound x (h.1 e) hf.1 hs hn) (fun e => vcCode_sound y (h.2 e) hf.2 hs hn)
    · exact h.elim
  | .block id x, s, K, G, γ, a, w, h, hf, hs, hn => by
    unfold vcCode at h
    simp only [codeFits] at hf
    refine wp_block (wp_mono (vcCode_sound x h hf hs hn) ?_)
    rintro e a' w' ⟨G', γ', s', hg, hK, hs', hn'⟩
    cases e with
    | exit i =>
      simp only [Exit.inBlock]
      have hK : bif i == id then K Exit.normal s' else K (Exit.exit i) s' := hK
      cases hi : (i == id)
      · rw [hi] at hK
        have : ¬ i = id := by simpa using hi
        rw [if_neg this]
        exact ⟨G', γ', s', hg, hK, hs', hn'⟩
      · rw [hi] at hK
        have : i = id := by simpa using hi
        rw [if_pos this]
        exact ⟨G', γ', s', hg, hK, hs', hn'⟩
    | _ => exact ⟨G', γ', s', hg, hK, hs', hn'⟩
  | .loop x, s, K, G, γ, a, w, h, hf, hs, hn => by
    unfold vcCode at h
    simp only [codeFits] at hf
    obtain ⟨ι, ok, St, μ, ⟨i0, hi0, hle⟩, hround⟩ := h
    obtain ⟨G0, γ0, hg0, hs0⟩ := hle.2 _ _ _ _ _ hs
    refine wp_loop_ghost (fun m a w => ∃ G' γ' i, Hp.le G G' ∧ ok i ∧ m = μ i ∧ Simm R G' γ' (St i) a w ∧ a.tmps.size = n) ⟨G0, γ0, i0, hg0, hi0, rfl, hs0, hn⟩ ?_
    rintro m a w ⟨G1, γ1, i1, hg1, hI1, rfl, hs1, hn1⟩
    refine wp_mono (vcCode_sound x (hround i1 hI1 (vc_facts hs1).1 (vc_facts hs1).2) hf hs1 hn1) ?_
    rintro e a' w' ⟨G', γ', s', hg, hK, hs', hn'⟩
    cases e with
    | normal =>
      obtain ⟨j, hj, hlt, hle⟩ := hK
      obtain ⟨G2, γ2, hg2, hs2⟩ := hle.2 _ _ _ _ _ hs'
      exact ⟨μ j, hlt, G2, γ2, j, Hp.le_trans hg1 (Hp.le_trans hg hg2), hj, rfl, hs2, hn'⟩
    | _ => exact ⟨G', γ', s', Hp.le_trans hg1 hg, hK, hs', hn'⟩
  | .exit id, s, K, G, γ, a, w, h, _, hs, hn => wp_exit (.of h hs hn)
  | .label _, s, K, G, γ, a, w, h, _, hs, hn => wp_label (.of h hs hn)
  | .ret, s, K, G, γ, a, w, h, _, hs, hn => wp_ret (.of h hs hn)
  | .rangeFunc _ _ _ _, s, K, G, γ, a, w, h, _, hs, hn => by unfold vcCode at h; exact h.elim
  | .scope x, s, K, G, γ, a, w, h, hf, hs, hn => by
    unfold vcCode at h
    simp only [codeFits] at hf
    rcases h with h | ⟨ι, ok, St, μ, l, rest, hl, h1, h2⟩
    · refine wp_scope_straight (wp_mono (vcCode_sound x h hf hs hn) ?_)
      rintro e a' w' ⟨G', γ', s', hg, hK, hs', hn'⟩
      cases e with
      | goto l => exact hK.elim
      | _ => exact ⟨G', γ', s', hg, hK, hs', hn'⟩
    · refine wp_scope_ghost l (fun m a w => ∃ G' γ' i, Hp.le G G' ∧ ok i ∧ m = μ i ∧ Simm R G' γ' (St i) a w ∧ a.tmps.size = n) hl ?_ ?_
      · refine wp_mono (vcCode_sound x h1 hf hs hn) ?_
        rintro e a' w' ⟨G', γ', s', hg, hK, hs', hn'⟩
        cases e with
        | goto l' =>
          obtain ⟨rfl, i, hi, hle⟩ := hK
          obtain ⟨G2, γ2, hg2, hs2⟩ := hle.2 _ _ _ _ _ hs'
          exact ⟨rfl, μ i, G2, γ2, i, Hp.le_trans hg hg2, hi, rfl, hs2, hn'⟩
        | _ => exact ⟨G', γ', s', hg, hK, hs', hn'⟩
      · rintro m a w ⟨G1, γ1, i1, hg1, hI1, rfl, hs1, hn1⟩
        refine wp_mono (h2 i1 hI1 (vc_facts hs1).1 (vc_facts hs1).2 n R G1 γ1 a w (findLabel_fits hl hf) hs1 hn1) ?_
        rintro e a' w' ⟨G', γ', s', hg, hK, hs', hn'⟩
        cases e with
        | goto l' =>
          obtain ⟨rfl, j, hj, hlt, hle⟩ := hK
          obtain ⟨G2, γ2, hg2, hs2⟩ := hle.2 _ _ _ _ _ hs'
          exact ⟨rfl, μ j, hlt, G2, γ2, j, Hp.le_trans hg1 (Hp.le_trans hg hg2), hj, rfl, hs2, hn'⟩
        | _ => exact ⟨G', γ', s', Hp.le_trans hg1 hg, hK, hs', hn'⟩
  | .goto _, s, K, G, γ, a, w, h, _, hs, hn => wp_goto (.of h hs hn)
  | .refuse _, s, K, G, γ, a, w, h, _, hs, hn => by unfold vcCode at h; exact h.elim
def vRes (C : Ctx) (s : SymSt) : List ResultVar → (List SV → Prop) → Prop
  | [], f => f []
  | .tmp t :: r, f => vRes C s r fun vs => f (ev s (.tmp t) :: vs)
  | .cell x ty :: r, f => vLoad C s ty (.tmp x) fun tv _ => vRes C s r fun vs => f (tv.sv :: vs)
def tvOf : List SV → TV
  | [v] => .one v
  | vs => .tup vs
def parSl : Nat → List SV → List (Nat × TV)
  | _, [] => []
  | i, v :: r => (i, .one v) :: parSl (i + 1) r
def vFn (E : Env) (fn : Func) (args : List SV) (mem : List (Nat × Box)) (pins : List Nat) (K : KT) : Prop := match fn.body with
  | some c => codeFits fn.ntmps c = true ∧ args.length ≤ fn.ntmps ∧ vcCode E c ⟨parSl 0 args, mem, pins⟩ fun e s => match e with
    | .normal => vRes E.toCtx s fn.results.toList fun vs => K (tvOf vs) s
    | .ret => vRes E.toCtx s fn.results.toList fun vs => K (tvOf vs) s
    | _ => False
  | none => False
end Go.Proofs.Ytnmjcdlgfimnaaa
namespace Go.Proofs.Ytnmjcdlgfimnaaa
theorem parSl_get {G : Hp} {γ : Nat → Value} : ∀ (args : List SV) (vs : List Value) (k i : Nat), RelV G γ args vs → (getS (parSl k args) i).rel G γ (if k ≤ i then (vs[i - k]?).getD undef else undef)
  | [], _, _, _, _ => trivial
  | x :: r, vs, k, i, ⟨v, us, e, hx, hr⟩ => by
    subst e
    have e0 : getS (parSl k (x :: r)) i = bif k == i then TV.one x else getS (parSl (k + 1) r) i := rfl
    rw [e0]
    by_cases h : k = i
    · subst h; simpa [TV.rel] using hx
    · have h1 : (k == i) = false := by simpa using h
      rw [h1, cond_false]
      have := parSl_get r us (k + 1) i hr
      by_cases h2 : k + 1 ≤ i
      · have h3 : k ≤ i := by omega
        have h4 : i - k = (i - (k + 1)) + 1 := by omega
        simp only [h2, if_true] at this
        simp only [h3, if_true, h4, List.getElem?_cons_succ]
        exact this
      · have h3 : ¬ k ≤ i := by omega
        simp only [h2, if_false] at this
        simp only [h3, if_false]
        exact this
theorem RelV.len {G : Hp} {γ : Nat → Value} : ∀ {xs : List SV} {vs : List Value}, RelV G γ xs vs → vs.length = xs.length
  | [], _, h => by simp only [RelV] at h; simp [h]
  | _ :: _, _, ⟨_, _, e, _, hr⟩ => by rw [e, List.length_cons, List.length_cons, RelV.len hr]
def resF (ts : Array Value) : ResultVar → Sem Value
  | .tmp t => pure (ts.getD t undef)
  | .cell x t => do loadVar t (← asAddr (ts.getD x undef))
theorem asAddr_some (a : Addr) : asAddr (.pointer (some a)) = pure a := rfl
theorem vRes_sound {C : Ctx} {s : SymSt} {R : Fr} {G : Hp} {γ : Nat → Value} {a : Act} {w : World} (hs : Simm R G γ s a w) : ∀ {rs : List ResultVar} {f : List SV → Prop}, vRes C s rs f →
    ∃ xs us, f xs ∧ RelV G γ xs us ∧ (rs.mapM (resF a.tmps)).run C.P w = .ok us w
  | [], f, h => ⟨[], [], h, rfl, rfl⟩
  | .tmp t :: r, f, h => by
    obtain ⟨xs, us, hf, hr, hrun⟩ := vRes_sound hs (rs := r) h
    refine ⟨_, a.tmps.getD t undef :: us, hf, ⟨_, _, rfl, ev_rel hs.sl (.tmp t), hr⟩, ?_⟩
    simp only [List.mapM_cons, Sem.run_bind, resF, Sem.run_pure, Result.andThen_ok, hrun]
  | .cell x t :: r, f, h => by
    obtain ⟨fr, hmf⟩ := hs.mem
    obtain ⟨ad, u, tv, hx, hl, h', hrel⟩ := vLoad_run (show vLoad C s t (.tmp x) _ from h) hs.sl hmf
    have hl := hl w hmf.agr
    obtain ⟨xs, us, hf, hr, hrun⟩ := vRes_sound hs (rs := r) h'
    have hx' : a.tmps.getD x undef = .pointer (some ad) := hx
    refine ⟨_, u :: us, hf, ⟨_, _, rfl, ?_, hr⟩, ?_⟩
    · cases tv with
      | one v => exact hrel
      | tup _ => trivial
    · simp only [List.mapM_cons, Sem.run_bind, resF, hx', asAddr_some, Sem.run_pure, Result.andThen_ok, hl]
      rw [hrun]; rfl
theorem tvOf_rel {G : Hp} {γ : Nat → Value} {xs : List SV} {us : List Value} (h : RelV G γ xs us) : (tvOf xs).rel G γ (if h : us.toArray.size = 1 then us.toArray[0] else .tuple us.toArray) := by
  match xs, us, h with
  | [], us, h => simp only [RelV] at h; subst h; exact ⟨[], rfl, rfl⟩
  | [x], _, ⟨v, r, e, hx, hr⟩ => simp only [RelV] at hr; subst hr; subst e; simpa [tvOf, TV.rel] using hx
  | x :: y :: r, us, h =>
    have hl := h.len
    have : ¬ us.toArray.size = 1 := by simp only [List.size_toArray, hl, List.length_cons]; omega
    rw [dif_neg this]
    exact ⟨us, h, rfl⟩
theorem results_run {P : Program} {fn : Func} {ts : Array Value} {w : World} {us : List Value} (h : (fn.results.toList.mapM (resF ts)).run P w = .ok us w) :
    (results fn ts).run P w = .ok (if h : us.toArray.size = 1 then us.toArray[0] else .tuple us.toArray) w := by
  have e : results fn ts = (do let vs ← fn.results.mapM (resF ts); pure (if h : vs.size = 1 then vs[0] else .tuple vs)) := by
    unfold results
    congr 2
  have e2 : fn.results.mapM (resF ts) = List.toArray <$> fn.results.toList.mapM (resF ts) := by rw [← List.mapM_toArray]
  rw [e, e2]
  simp only [Sem.run_bind, Sem.run_map, h, Result.andThen_ok, Sem.run_pure]
def TV.list : TV → List SV
  | .one v => [v]
  | .tup vs => vs
theorem tvOf_one (xs : List SV) : ((tvOf xs).list.length = 1) = (∃ x, tvOf xs = .one x) := by
  match xs with
  | [] => simp [tvOf, TV.list]
  | [x] => simp [tvOf, TV.list]
  | x :: y :: r => simp [tvOf, TV.list]
def Left (R : Fr) (G : Hp) (K : KT) (e : Ending) (w' : World) : Prop := ∃ v G' γ' tv s', e = .returned v ∧ Hp.le G G' ∧ K tv s' ∧ tv.rel G' γ' v ∧ MemAt R G' γ' s'.mem w' ∧ (tv.list.length = 1) = (∃ x, tv = .one x)
theorem vFn_sound {E : Env} {f : FuncId} {fn : Func} {args : List SV} {mem : List (Nat × Box)} {pins : List Nat} {K : KT} (hf : E.P.funcs[f]? = some fn) (h : vFn E fn args mem pins K) {R : Fr} {G : Hp} {γ : Nat → Value} {w : World} {vs : List Value}
    (hm : MemAt R G γ mem w) (hv : RelV G γ args vs) (hpn : ∀ i, R.pin i ≠ none → i ∈ pins) : Calls E.P f vs.toArray w (Left R G K) := by
  unfold vFn at h
  split at h
  · rename_i c hb
    obtain ⟨hfit, hlen, h⟩ := h
    have hvl := hv.len
    refine calls_of_wp hf hb (wp_mono (vcCode_sound (R := R) (G := G) (γ := γ) c h hfit ?_ ?_) ?_)
    · refine ⟨?_, hm, rfl, hpn⟩
      intro i
      have := parSl_get args vs 0 i hv
      simp only [Nat.zero_le, if_true, Nat.sub_zero] at this
      have e : (vs.toArray ++ Array.replicate (fn.ntmps - vs.toArray.size) undef).getD i undef = (vs[i]?).getD undef := by
        rw [Array.getD_eq_getD_getElem?, Array.getElem?_append]
        by_cases h1 : i < vs.toArray.size
        · rw [if_pos h1]; simp
        · rw [if_neg h1, Array.getElem?_replicate]
          have h2 : vs[i]? = none := by simp at h1 ⊢; exact h1
          rw [h2]
          split <;> rfl
      rw [e]; exact this
    · simp only [Array.size_append, Array.size_replicate, List.size_toArray]; omega
    · rintro e a' w' ⟨G', γ', s', hg, hK, hs', _⟩
      have fin : vRes E.toCtx s' fn.results.toList (fun vs => K (tvOf vs) s') → a'.defers = [] ∧ ∃ v, (results fn a'.tmps).run E.P w' = .ok v w' ∧ Left R G K (.returned v) w' := by
        intro hr
        obtain ⟨xs, us, hf, hrel, hrun⟩ := vRes_sound hs' hr
        exact ⟨hs'.df, _, results_run hrun, _, G', γ', _, s', rfl, hg, hf, tvOf_rel hrel, hs'.mem, tvOf_one xs⟩
      cases e <;> first | exact fin hK | exact hK.elim
  · exact h.elim
def RetOk1 (v : SV) : LV → Prop
  | .dat R x => v.isAgg = R.agg ∧ asR R v fun y => y = x
  | r => v = .l r
def RetsOk : List SV → List LV → Prop
  | [], [] => True
  | v :: vs, r :: rs => RetOk1 v r ∧ RetsOk vs rs
  | _, _ => False
def tvL : List LV → TV
  | [r] => .one (.l r)
  | rs => .tup (rs.map .l)
theorem LV.plain_of {x : LV} {G : Hp} {γ : Nat → Value} {u : Value} (h : x.rel G γ [u]) : Rep.plainCell u = true := LV.rel_plain h u (by simp)
theorem SV.agg_shape {v : SV} {G : Hp} {γ : Nat → Value} {u : Value} (hv : v.rel G γ u) (hu : v ≠ .l .undef) : (v.isAgg = true → ∃ cs : List Value, u = .agg cs.toArray) ∧ (v.isAgg = false → Rep.plainCell u = true) := by
  cases v with
  | agg xs => obtain ⟨cs, _, e⟩ := hv; exact ⟨fun _ => ⟨cs, e⟩, fun h => by simp [SV.isAgg] at h⟩
  | l x =>
    cases x
    case dat R y =>
      obtain ⟨cs, hc, e⟩ := hv
      refine ⟨fun h => ⟨cs, ?_⟩, fun h => ?_⟩
      · have : R.agg = true := h
        rw [e]; simp [Rep.mk, this]
      · have h' : R.agg = false := h
        have hl := R.enc_length hc
        rw [R.size_of_not_agg h'] at hl
        match cs, hl with
        | [c], _ => rw [e]; simp only [Rep.mk, h', Bool.false_eq_true, if_false, List.headD_cons]; exact R.enc_plain hc c (by simp)
    case undef => exact absurd rfl hu
    case int k n => exact ⟨fun h => by simp [SV.isAgg, LV.isAgg] at h, fun _ => LV.plain_of (x := .int k n) (γ := γ) (G := G) hv⟩
    case bool b => exact ⟨fun h => by simp [SV.isAgg, LV.isAgg] at h, fun _ => LV.plain_of (x := .bool b) (γ := γ) (G := G) hv⟩
    case str b => exact ⟨fun h => by simp [SV.isAgg, LV.isAgg] at h, fun _ => LV.plain_of (x := .str b) (γ := γ) (G := G) hv⟩
    case nils => exact ⟨fun h => by simp [SV.isAgg, LV.isAgg] at h, fun _ => LV.plain_of (x := .nils) (γ := γ) (G := G) hv⟩
    case emps => exact ⟨fun h => by simp [SV.isAgg, LV.isAgg] at h, fun _ => LV.plain_of (x := .emps) (γ := γ) (G := G) hv⟩
    case own i => exact ⟨fun h => by simp [SV.isAgg, LV.isAgg] at h, fun _ => LV.plain_of (x := .own i) (γ := γ) (G := G) hv⟩
    case ptr i p q => exact ⟨fun h => by simp [SV.isAgg, LV.isAgg] at h, fun _ => LV.plain_of (x := .ptr i p q) (γ := γ) (G := G) hv⟩
    case nilp => exact ⟨fun h => by simp [SV.isAgg, LV.isAgg] at h, fun _ => LV.plain_of (x := .nilp) (γ := γ) (G := G) hv⟩
    case eptr A y p q => exact ⟨fun h => by simp [SV.isAgg, LV.isAgg] at h, fun _ => LV.plain_of (x := .eptr A y p q) (γ := γ) (G := G) hv⟩
    case view i p q n lo len => exact ⟨fun h => by simp [SV.isAgg, LV.isAgg] at h, fun _ => LV.plain_of (x := .view i p q n lo len) (γ := γ) (G := G) hv⟩
    case ocut i n => exact ⟨fun h => by simp [SV.isAgg, LV.isAgg] at h, fun _ => LV.plain_of (x := .ocut i n) (γ := γ) (G := G) hv⟩
    case nilm => exact ⟨fun h => by simp [SV.isAgg, LV.isAgg] at h, fun _ => LV.plain_of (x := .nilm) (γ := γ) (G := G) hv⟩
    case mrow m V k => exact ⟨fun h => by simp [SV.isAgg, LV.isAgg] at h, fun _ => LV.plain_of (x := .mrow m V k) (γ := γ) (G := G) hv⟩
    case mcut m V k n => exact ⟨fun h => by simp [SV.isAgg, LV.isAgg] at h, fun _ => LV.plain_of (x := .mcut m V k n) (γ := γ) (G := G) hv⟩
    case clo f c => exact ⟨fun h => by simp [SV.isAgg, LV.isAgg] at h, fun _ => LV.plain_of (x := .clo f c) (γ := γ) (G := G) hv⟩
    case mp i => exact ⟨fun h => by simp [SV.isAgg, LV.isAgg] at h, fun _ => LV.plain_of (x := .mp i) (γ := γ) (G := G) hv⟩
theorem RetOk1.rel {v : SV} {r : LV} (h : RetOk1 v r) {G : Hp} {γ : Nat → Value} {u : Value} (hv : v.rel G γ u) : (SV.l r).rel G γ u := by
  cases r <;> simp only [RetOk1] at h
  case dat R x =>
    obtain ⟨hag, h⟩ := h
    by_cases hu : v = .l .undef
    · subst hu
      unfold asR at h
      obtain ⟨a, h, _⟩ := asRL_undef R h
      exact absurd h (by simp)
    · obtain ⟨y, rfl, hy⟩ := asR_sound h hv
      obtain ⟨h1, h2⟩ := SV.agg_shape hv hu
      cases hR : R.agg
      · have hp := h2 (hag.trans hR)
        rw [cells_of_plain hp] at hy
        exact ⟨[u], hy, by simp [Rep.mk, hR]⟩
      · obtain ⟨cs, rfl⟩ := h1 (hag.trans hR)
        exact ⟨cs, hy, by simp [Rep.mk, hR]⟩
  all_goals (subst h; exact hv)
theorem RetsOk.rel : ∀ {vs : List SV} {rs : List LV} {G : Hp} {γ : Nat → Value} {us : List Value}, RetsOk vs rs → RelV G γ vs us → RelV G γ (rs.map .l) us
  | [], [], G, γ, us, h, hv => hv
  | [], _ :: _, _, _, _, h, _ => h.elim
  | _ :: _, [], _, _, _, h, _ => h.elim
  | v :: vs, r :: rs, G, γ, us, ⟨h1, h2⟩, ⟨u, us', e', hx, hr⟩ => ⟨u, us', e', h1.rel hx, h2.rel hr⟩
def LV.frz (mem : List (Nat × Box)) : LV → LV
  | .own id => match getM mem id with
    | some (.arr A l) => .dat (.slice A) l
    | _ => .own id
  | x => x
def SV.frz (mem : List (Nat × Box)) : SV → SV
  | .l x => .l (x.frz mem)
  | .agg xs => .agg (xs.map (LV.frz mem))
def unionG (G : Hp) (fr : Nat → Hp) : List Nat → Hp
  | [] => G
  | i :: r => fun b => (unionG G fr r b).or (fr i b)
theorem unionG_le {G : Hp} {fr : Nat → Hp} : ∀ (ids : List Nat), Hp.le G (unionG G fr ids)
  | [] => Hp.le_refl G
  | i :: r => fun b o h => by simp only [unionG, unionG_le r b o h, Option.some_or]
theorem Ok.freezeAll {w : World} {G : Hp} {R : Fr} {fr : Nat → Hp} : ∀ {ids : List Nat}, ids.Nodup → Ok w G R ids fr → Ok w (unionG G fr ids) R [] fr ∧ ∀ i ∈ ids, Hp.le (fr i) (unionG G fr ids)
  | [], _, h => ⟨h, by simp⟩
  | i :: r, hn, h => by
    simp only [List.nodup_cons] at hn
    have hr := Ok.freezeAll hn.2 (h.sub (ids' := r) (by intro j hj; simp [hj]))
    have disj : ∀ b, fr i b ≠ none → unionG G fr r b = none := by
      intro b hb
      have key : ∀ q : List Nat, (∀ j ∈ q, j ∈ r) → unionG G fr q b = none := by
        intro q
        induction q with
        | nil => intro _; exact h.gf i (by simp) b hb
        | cons j q ih =>
          intro hq
          have hj : j ∈ r := hq j (by simp)
          have e : fr j b = none := h.ff i (by simp) j (by simp [hj]) (fun e => hn.1 (e ▸ hj)) b hb
          simp only [unionG, ih (fun k hk => hq k (by simp [hk])), e, Option.or_none]
      exact key r (fun _ h => h)
    refine ⟨⟨?_, h.r, ?_, by simp, by simp, by simp, by simp, h.os, h.out⟩, ?_⟩
    · intro b o hb
      simp only [unionG] at hb
      cases hu : unionG G fr r b with
      | some x => rw [hu] at hb; simp only [Option.some_or, Option.some.injEq] at hb; subst hb; exact hr.1.g b _ hu
      | none => rw [hu] at hb; simp only [Option.none_or] at hb; exact h.f i (by simp) b o hb
    · intro b hb
      simp only [unionG] at hb
      cases hu : unionG G fr r b with
      | some x => exact hr.1.gr b (by simp [hu])
      | none => rw [hu] at hb; simp only [Option.none_or] at hb; exact h.rf i (by simp) b hb
    · intro j hj b o hb
      rcases List.mem_cons.1 hj with rfl | hj
      · simp only [unionG, disj b (by simp [hb]), Option.none_or, hb]
      · simp only [unionG, hr.2 j hj b o hb, Option.some_or]
end Go.Proofs.Ytnmjcdlgfimnaaa
namespace Go.Proofs.Ytnmjcdlgfimnaaa
def Pure (P : Program) (f : FuncId) (args rets : List LV) : Prop :=
  IsFn P f ∧ ∀ (R : Fr) (G : Hp) (w : World) (vs : List Value), Ok w G R [] (fun _ => emp) → RelV G (fun _ => undef) (args.map .l) vs →
    Calls P f vs.toArray w fun e w' => ∃ v G', e = .returned v ∧ Hp.le G G' ∧ (tvL rets).rel G' (fun _ => undef) v ∧ Ok w' G' R [] (fun _ => emp)
def noIds (l : List LV) : Bool := l.all fun x => x.ids.isEmpty
theorem idsV_map {l : List LV} (h : noIds l = true) : idsV (l.map .l) = [] := by
  simp only [noIds, List.all_eq_true, List.isEmpty_iff] at h
  simp only [idsV, List.flatMap_eq_nil_iff, List.mem_map]
  rintro x ⟨y, hy, rfl⟩
  exact h y hy
theorem tvL_ids {l : List LV} (h : noIds l = true) : (tvL l).ids = [] := by
  unfold tvL
  split
  · rename_i r
    simp only [noIds, List.all_cons, List.all_nil, Bool.and_true, List.isEmpty_iff] at h
    exact h
  · exact idsV_map h
theorem frame_call {R : Fr} {G : Hp} {γ : Nat → Value} {mem : List (Nat × Box)} {w : World} (h : MemAt R G γ mem w) :
    ∃ R' : Fr, Ok w G R' [] (fun _ => emp) ∧ ∀ {w' : World} {G' : Hp}, Hp.le G G' → Ok w' G' R' [] (fun _ => emp) → MemAt R G' γ mem w' := by
  obtain ⟨fr, hn, hpin, hat, hok⟩ := h
  classical
  refine ⟨⟨fun b => if G b = none then hpOf w b else none, R.os, R.out, fun _ => none⟩, ⟨hok.g, ?_, ?_, by simp, by simp, by simp, by simp, hok.os, hok.out⟩, ?_⟩
  · intro b o hb
    by_cases e : G b = none <;> simp_all
  · intro b hb
    simp [hb]
  · intro w' G' hg hok'
    have keep : ∀ H : Hp, Hp.le H (hpOf w) → (∀ b, H b ≠ none → G b = none) → Hp.le H (hpOf w') ∧ ∀ b, H b ≠ none → G' b = none := by
      intro H hH hd
      have hr : ∀ b o, H b = some o → (fun b => if G b = none then hpOf w b else none) b = some o := by
        intro b o hb
        have := hd b (by simp [hb])
        simp only [this, if_true]
        exact hH b o hb
      refine ⟨fun b o hb => hok'.r b o (hr b o hb), fun b hb => ?_⟩
      cases hg' : G' b with
      | none => rfl
      | some x =>
        obtain ⟨o, ho⟩ := Option.ne_none_iff_exists'.1 hb
        have := hok'.gr b (by simp [hg'])
        have h2 := hr b o ho
        exact absurd (this.symm.trans h2) (by simp)
    have hRd : ∀ b, R.hp b ≠ none → G b = none := by
      intro b hb
      cases hg : G b with
      | none => rfl
      | some x => exact absurd (hok.gr b (by simp [hg])) hb
    obtain ⟨hR1, hR2⟩ := keep R.hp hok.r hRd
    refine ⟨fr, hn, hpin, fun e he => Box.at_mono hg (hat e he), ⟨hok'.g, hR1, ?_, ?_, ?_, hok.rf, hok.ff, hok'.os, hok'.out⟩⟩
    · intro b hb
      cases hr : R.hp b with
      | none => rfl
      | some x => exact absurd (hR2 b (by simp [hr])) hb
    · intro i hi
      exact (keep (fr i) (hok.f i hi) (hok.gf i hi)).1
    · intro i hi
      exact (keep (fr i) (hok.f i hi) (hok.gf i hi)).2
theorem Simm.grow {R : Fr} {G G' : Hp} {γ : Nat → Value} {s : SymSt} {a : Act} {w w' : World} (hs : Simm R G γ s a w) (hg : Hp.le G G') (hm : MemAt R G' γ s.mem w') : Simm R G' γ s a w' :=
  ⟨fun i => TV.rel_mono hg (hs.sl i), hm, hs.df, hs.pn⟩
theorem LV.frz_rel {G : Hp} {γ : Nat → Value} {mem : List (Nat × Box)} {fr : Nat → Hp} (hat : ∀ e ∈ mem, e.2.at G γ (γ e.1) (fr e.1)) {G' : Hp} (hg : Hp.le G G') (hf : ∀ i ∈ idsM mem, Hp.le (fr i) G')
    {x : LV} {cs : List Value} (h : x.rel G γ cs) : (x.frz mem).rel G' γ cs := by
  cases x
  case own id =>
    have e0 : (LV.own id).frz mem = match getM mem id with
      | some (.arr A l) => .dat (.slice A) l
      | _ => .own id := rfl
    rw [e0]
    split
    · rename_i α A l hm
      have hmem := getM_mem hm
      obtain ⟨e, _⟩ := h
      have hat' := hat _ hmem
      have hle := hf id (List.mem_map.2 ⟨_, hmem, rfl⟩)
      refine (Rep.enc_slice A G' l cs).2 ?_
      rcases hat' with ⟨b, t, es, sp, c, e1, ef, hl, hn, hmx, hsp⟩ | ⟨rfl, e1, _⟩
      · refine ⟨some ⟨b, 0, none⟩, c, by rw [e, e1], hn, hmx, by simp, .inr ⟨b, [], es, sp, t, (0, 0), rfl, ?_, EncL.mono (fun _ _ h => A.enc_mono hg h) hl⟩⟩
        refine hle b _ ?_
        simp only at ef
        rw [ef]; simp [sng]
      · obtain ⟨ad, e1⟩ := e1
        exact ⟨ad, 0, by rw [e, e1]; rfl, by simp, Nat.zero_le _, fun _ => rfl, .inl rfl⟩
    · exact LV.rel_mono hg h
  all_goals exact LV.rel_mono hg h
theorem LV.frz_relV {G : Hp} {γ : Nat → Value} {mem : List (Nat × Box)} {fr : Nat → Hp} (hat : ∀ e ∈ mem, e.2.at G γ (γ e.1) (fr e.1)) {G' : Hp} (hg : Hp.le G G') (hf : ∀ i ∈ idsM mem, Hp.le (fr i) G')
    {x : LV} {v : Value} (h : x.relV G γ v) : (x.frz mem).relV G' γ v := by
  cases x
  case own id =>
    refine LV.relV_of ?_ (LV.frz_rel hat hg hf (x := .own id) h)
    have e0 : (LV.own id).frz mem = match getM mem id with
      | some (.arr A l) => .dat (.slice A) l
      | _ => .own id := rfl
    rw [e0]
    split <;> rfl
  all_goals exact LV.relV_mono hg h
theorem RelL.frz {G : Hp} {γ : Nat → Value} {mem : List (Nat × Box)} {fr : Nat → Hp} (hat : ∀ e ∈ mem, e.2.at G γ (γ e.1) (fr e.1)) {G' : Hp} (hg : Hp.le G G') (hf : ∀ i ∈ idsM mem, Hp.le (fr i) G') :
    ∀ {l : List LV} {cs : List Value}, RelL G γ l cs → RelL G' γ (l.map (LV.frz mem)) cs
  | [], _, h => h
  | _ :: _, _, ⟨c, d, e, hx, hl⟩ => ⟨c, d, e, LV.frz_rel hat hg hf hx, RelL.frz hat hg hf hl⟩
theorem SV.frz_rel {G : Hp} {γ : Nat → Value} {mem : List (Nat × Box)} {fr : Nat → Hp} (hat : ∀ e ∈ mem, e.2.at G γ (γ e.1) (fr e.1)) {G' : Hp} (hg : Hp.le G G') (hf : ∀ i ∈ idsM mem, Hp.le (fr i) G')
    {x : SV} {v : Value} (h : x.rel G γ v) : (x.frz mem).rel G' γ v := by
  cases x with
  | l x => exact LV.frz_relV hat hg hf h
  | agg xs => obtain ⟨cs, hc, e⟩ := h; exact ⟨cs, hc.frz hat hg hf, e⟩
theorem RelV.frz {G : Hp} {γ : Nat → Value} {mem : List (Nat × Box)} {fr : Nat → Hp} (hat : ∀ e ∈ mem, e.2.at G γ (γ e.1) (fr e.1)) {G' : Hp} (hg : Hp.le G G') (hf : ∀ i ∈ idsM mem, Hp.le (fr i) G') :
    ∀ {xs : List SV} {vs : List Value}, RelV G γ xs vs → RelV G' γ (xs.map (SV.frz mem)) vs
  | [], _, h => h
  | _ :: _, _, ⟨v, r, e, hx, hr⟩ => ⟨v, r, e, SV.frz_rel hat hg hf hx, RelV.frz hat hg hf hr⟩
theorem tvL_rel {G : Hp} {γ : Nat → Value} {tv : TV} {mem : List (Nat × Box)} {rets : List LV} {v : Value} {G' : Hp} {fr : Nat → Hp} (hat : ∀ e ∈ mem, e.2.at G γ (γ e.1) (fr e.1)) (hg : Hp.le G G') (hf : ∀ i ∈ idsM mem, Hp.le (fr i) G')
    (h : tv.rel G γ v) (hr : RetsOk (tv.list.map (SV.frz mem)) rets) (hone : (tv.list.length = 1) = (∃ x, tv = .one x)) : (tvL rets).rel G' γ v := by
  cases tv with
  | one x =>
    have h1 : RelV G' γ [x.frz mem] [v] := ⟨v, [], rfl, SV.frz_rel hat hg hf h, rfl⟩
    have h2 := RetsOk.rel hr h1
    match rets, hr, h2 with
    | [r], _, h2 =>
      obtain ⟨u, us, e, hx, _⟩ := h2
      simp only [List.cons.injEq] at e
      rw [e.1]; exact hx
    | r :: r' :: q, hr, _ => exact hr.2.elim
    | [], hr, _ => exact hr.elim
  | tup xs =>
    obtain ⟨vs, hv, rfl⟩ := h
    have h2 := RetsOk.rel hr (hv.frz hat hg hf)
    have hlen : rets.length = xs.length := by
      have a := h2.len
      have b := hv.len
      simp only [List.length_map] at a
      omega
    unfold tvL
    split
    · rename_i r
      exfalso
      have : ∃ x, TV.tup xs = .one x := by rw [← hone]; simp only [TV.list]; simpa using hlen.symm
      obtain ⟨x, hx⟩ := this
      cases hx
    · exact ⟨vs, h2, rfl⟩
theorem Pure.of {E : Env} {f : FuncId} {fn : Func} {args rets : List LV} (hf : E.P.funcs[f]? = some fn) (hi : IsFn E.P f) (hr : noIds rets = true)
    (h : vFn E fn (args.map .l) [] [] fun tv s => RetsOk (tv.list.map (SV.frz s.mem)) rets) : Pure E.P f args rets := by
  refine ⟨hi, ?_⟩
  intro R G w vs hok hv
  have hm : MemAt { R with pin := fun _ => none } G (fun _ => undef) [] w := ⟨fun _ => emp, by simp [idsM], by simp, by simp, ⟨hok.g, hok.r, hok.gr, by simp [idsM], by simp [idsM], by simp [idsM], by simp [idsM], hok.os, hok.out⟩⟩
  refine (vFn_sound hf h hm hv (by simp)).mono ?_
  rintro e w' ⟨v, G', γ', tv, s', rfl, hg, hret, hrel, ⟨fr, hn, _, hat, hok'⟩, hone⟩
  obtain ⟨hok2, hle⟩ := hok'.freezeAll hn
  have := tvL_rel hat (unionG_le (idsM s'.mem)) hle hrel hret hone
  refine ⟨v, _, rfl, Hp.le_trans hg (unionG_le (idsM s'.mem)), TV.rel_congr (by rw [tvL_ids hr]; simp) this, ?_⟩
  exact ⟨hok2.g, hok2.r, hok2.gr, by simp, by simp, by simp, by simp, hok2.os, hok2.out⟩
theorem Pure.of' {E : Env} {f : FuncId} {fn : Func} {args rets : List LV} {body : Code} {res : List ResultVar} (hf : E.P.funcs[f]? = some fn) (hi : IsFn E.P f) (hb : fn.body = some body) (hres : fn.results.toList = res) (hr : noIds rets = true)
    (hfit : codeFits fn.ntmps body = true) (hlen : Nat.ble args.length fn.ntmps = true)
    (h : vcCode E body ⟨parSl 0 (args.map .l), [], []⟩ fun e s => match e with
      | .normal => vRes E.toCtx s res fun vs => RetsOk ((tvOf vs).list.map (SV.frz s.mem)) rets
      | .ret => vRes E.toCtx s res fun vs => RetsOk ((tvOf vs).list.map (SV.frz s.mem)) rets
      | _ => False) : Pure E.P f args rets := by
  refine Pure.of hf hi hr ?_
  subst hres
  unfold vFn
  rw [hb]
  exact ⟨hfit, by simpa using Nat.le_of_ble_eq_true hlen, h⟩
def Rep.argL : {α : Type} → Rep α → α → List LV
  | _, .pair A B, x => A.leaf x.1 :: B.argL x.2
  | _, _, _ => []
def asArgs : {α : Type} → Rep α → List SV → (α → Prop) → Prop
  | _, .unit, vs, f => match vs with
    | [] => f ()
    | _ => False
  | _, .pair A B, vs, f => match vs with
    | v :: r => v.isAgg = A.agg ∧ asR A v fun a => asArgs B r fun b => f (a, b)
    | [] => False
  | _, _, _, _ => False
theorem Rep.leaf_noIds : {α : Type} → (A : Rep α) → (x : α) → (A.leaf x).ids = []
  | _, .int _, _ => rfl
  | _, .bool, _ => rfl
  | _, .str, _ => rfl
  | _, .unit, _ => rfl
  | _, .pair _ _, _ => rfl
  | _, .arr _ _, _ => rfl
  | _, .slice _, _ => rfl
  | _, .iso A to of h h', y => by
    unfold Rep.leaf
    cases A.scalar
    · rfl
    · exact A.leaf_noIds (to y)
theorem Rep.argL_noIds : {α : Type} → (A : Rep α) → (x : α) → noIds (A.argL x) = true
  | _, .pair A B, x => by
    have := B.argL_noIds x.2
    simp only [noIds, argL, List.all_cons, Bool.and_eq_true, A.leaf_noIds, List.isEmpty_nil, true_and] at this ⊢
    exact this
  | _, .int _, _ => rfl
  | _, .bool, _ => rfl
  | _, .str, _ => rfl
  | _, .unit, _ => rfl
  | _, .arr _ _, _ => rfl
  | _, .slice _, _ => rfl
  | _, .iso _ _ _ _ _, _ => rfl
theorem Rep.leaf_isAgg : {α : Type} → (A : Rep α) → (x : α) → (A.leaf x).isAgg = A.agg
  | _, .int _, _ => rfl
  | _, .bool, _ => rfl
  | _, .str, _ => rfl
  | _, .unit, _ => rfl
  | _, .pair _ _, _ => rfl
  | _, .arr _ _, _ => rfl
  | _, .slice _, _ => rfl
  | _, .iso A to of h h', y => by
    unfold Rep.leaf
    cases hs : A.scalar
    · rfl
    · exact A.leaf_isAgg (to y)
theorem asR_rel {α : Type} {A : Rep α} {v : SV} {f : α → Prop} (h : asR A v f) (ha : v.isAgg = A.agg) {G : Hp} {γ : Nat → Value} {u : Value} (hv : v.rel G γ u) : ∃ x, f x ∧ (SV.l (A.leaf x)).rel G γ u := by
  have hu : v ≠ .l .undef := by
    rintro rfl
    unfold asR at h
    obtain ⟨a, h, _⟩ := asRL_undef A h
    exact absurd h (by simp)
  obtain ⟨y, hf, hy⟩ := asR_sound h hv
  obtain ⟨h1, h2⟩ := SV.agg_shape hv hu
  refine ⟨y, hf, ?_⟩
  have hl := (A.leaf_rel G γ y _).2 hy
  cases hA : A.agg
  · have hp := h2 (ha.trans hA)
    rw [cells_of_plain hp] at hl
    exact LV.relV_of ((A.leaf_isAgg y).trans hA) hl
  · obtain ⟨cs, rfl⟩ := h1 (ha.trans hA)
    have hag := (A.leaf_isAgg y).trans hA
    show (A.leaf y).relV G γ _
    revert hl hag
    cases A.leaf y <;> intro hl hag <;> simp only [LV.isAgg, Bool.false_eq_true] at hag
    case dat B z => exact ⟨cs, hl, by simp [Rep.mk, hag]⟩
theorem asArgs_rel : {α : Type} → (A : Rep α) → {vs : List SV} → {f : α → Prop} → asArgs A vs f → {G : Hp} → {γ : Nat → Value} → {us : List Value} → RelV G γ vs us → ∃ x, f x ∧ RelV G γ ((A.argL x).map .l) us
  | _, .unit, vs, f, h, G, γ, us, hv => by
    unfold asArgs at h
    split at h
    · exact ⟨(), h, hv⟩
    · exact h.elim
  | _, .pair A B, vs, f, h, G, γ, us, hv => by
    unfold asArgs at h
    split at h
    · rename_i v r
      obtain ⟨ha, h⟩ := h
      obtain ⟨u, us', rfl, hx, hr⟩ := hv
      obtain ⟨x, h, hx'⟩ := asR_rel h ha hx
      obtain ⟨y, h, hy⟩ := asArgs_rel B h hr
      exact ⟨(x, y), h, u, us', rfl, hx', hy⟩
    · exact h.elim
  | _, .int _, _, _, h, _, _, _, _ => by simp [asArgs] at h
  | _, .bool, _, _, h, _, _, _, _ => by simp [asArgs] at h
  | _, .str, _, _, h, _, _, _, _ => by simp [asArgs] at h
  | _, .arr _ _, _, _, h, _, _, _, _ => by simp [asArgs] at h
  | _, .slice _, _, _, h, _, _, _, _ => by simp [asArgs] at h
  | _, .iso _ _ _ _ _, _, _, h, _, _, _, _ => by simp [asArgs] at h
def LV.flat : LV → Bool
  | .int _ _ => true
  | .bool _ => true
  | .str _ => true
  | .nils => true
  | .nilp => true
  | .dat R _ => R.flat
  | _ => false
theorem LV.flat_relV {x : LV} (h : x.flat = true) {G : Hp} {γ : Nat → Value} {v : Value} (hv : x.relV G γ v) (G' : Hp) (γ' : Nat → Value) : x.relV G' γ' v := by
  cases x <;> simp only [LV.flat, Bool.false_eq_true] at h
  case dat R y => obtain ⟨cs, hc, e⟩ := hv; exact ⟨cs, R.enc_flat h G' hc, e⟩
  all_goals exact hv
theorem RelV.flat {G : Hp} {γ : Nat → Value} : ∀ {l : List LV} {us : List Value}, l.all LV.flat = true → RelV G γ (l.map .l) us → ∀ (G' : Hp) (γ' : Nat → Value), RelV G' γ' (l.map .l) us
  | [], _, _, h, _, _ => h
  | x :: l, _, hf, ⟨v, r, e, hx, hr⟩, G', γ' => by
    simp only [List.all_cons, Bool.and_eq_true] at hf
    exact ⟨v, r, e, LV.flat_relV hf.1 hx G' γ', RelV.flat hf.2 hr G' γ'⟩
theorem tvL_flat {l : List LV} (hf : l.all LV.flat = true) {G : Hp} {γ : Nat → Value} {v : Value} (h : (tvL l).rel G γ v) (G' : Hp) (γ' : Nat → Value) : (tvL l).rel G' γ' v := by
  match l, hf, h with
  | [], _, h => exact h
  | [r], hf, h =>
    simp only [List.all_cons, List.all_nil, Bool.and_true] at hf
    exact LV.flat_relV hf h G' γ'
  | x :: y :: r, hf, h =>
    obtain ⟨vs, hv, e⟩ := h
    exact ⟨vs, RelV.flat hf hv G' γ', e⟩
theorem lend {R : Fr} {G : Hp} {γ : Nat → Value} {fr : Nat → Hp} {mem : List (Nat × Box)} {w : World} (h : MemF R G γ fr mem w) :
    Ok w (unionG G fr (idsM mem)) R [] (fun _ => emp) ∧ ∀ {w' : World} {G' : Hp}, Hp.le (unionG G fr (idsM mem)) G' → Ok w' G' R [] (fun _ => emp) → ∃ G2, Hp.le G G2 ∧ MemAt R G2 γ mem w' := by
  obtain ⟨hnd, hpin, hat, hok⟩ := h
  obtain ⟨hok2, hle⟩ := hok.freezeAll hnd
  refine ⟨⟨hok2.g, hok2.r, hok2.gr, by simp, by simp, by simp, by simp, hok2.os, hok2.out⟩, ?_⟩
  intro w' G' hg hok'
  classical
  let G2 : Hp := fun b => if ∃ i ∈ idsM mem, fr i b ≠ none then none else G' b
  have hG2 : Hp.le G G2 := by
    intro b o hb
    have hno : ¬ ∃ i ∈ idsM mem, fr i b ≠ none := by
      rintro ⟨i, hi, hne⟩
      rw [hok.gf i hi b hne] at hb; simp at hb
    simp only [G2, if_neg hno]
    exact hg b o (unionG_le _ b o hb)
  have hG2' : ∀ b, G2 b ≠ none → G' b ≠ none := by
    intro b hb
    simp only [G2] at hb
    split at hb
    · simp at hb
    · exact hb
  refine ⟨G2, hG2, fr, hnd, hpin, fun e he => Box.at_mono hG2 (hat e he), ⟨?_, hok'.r, fun b hb => hok'.gr b (hG2' b hb), ?_, ?_, hok.rf, hok.ff, hok'.os, hok'.out⟩⟩
  · intro b o hb
    simp only [G2] at hb
    split at hb
    · simp at hb
    · exact hok'.g b o hb
  · intro i hi b o hb
    exact hok'.g b o (hg b o (hle i hi b o hb))
  · intro i hi b hb
    simp only [G2, if_pos (⟨i, hi, hb⟩ : ∃ i ∈ idsM mem, fr i b ≠ none)]
def ownsV : List SV → List Nat
  | [] => []
  | v :: r => ownsL v.leaves ++ ownsV r
def vFrz2 : List Nat → SymSt → List SV → (SymSt → List SV → Prop) → Prop
  | [], s, vs, K => K s vs
  | id :: r, s, vs, K => match getM s.mem id with
    | some (.arr A l) => vFrz2 r (s.freeze id (.dat (.slice A) l)) (vs.map (SV.frzI id (.dat (.slice A) l))) K
    | _ => vFrz2 r s vs K
theorem vFrz2_spec {R : Fr} {γ : Nat → Value} {a : Act} {w : World} {us : List Value} {K : SymSt → List SV → Prop} : ∀ {ids : List Nat} {s : SymSt} {vs : List SV} {G : Hp}, vFrz2 ids s vs K → Simm R G γ s a w → RelV G γ vs us →
    ∃ G' s' vs', Hp.le G G' ∧ K s' vs' ∧ Simm R G' γ s' a w ∧ RelV G' γ vs' us
  | [], s, vs, G, h, hs, hv => ⟨G, s, vs, Hp.le_refl G, h, hs, hv⟩
  | id :: r, s, vs, G, h, hs, hv => by
    unfold vFrz2 at h
    split at h
    · rename_i α A l hm
      obtain ⟨G1, hg1, hs1, hn⟩ := hs.freeze hm
      obtain ⟨G2, s2, vs2, hg2, hK, hs2, hv2⟩ := vFrz2_spec h hs1 (RelV.frzI hg1 hn rfl hv)
      exact ⟨G2, s2, vs2, Hp.le_trans hg1 hg2, hK, hs2, hv2⟩
    · exact vFrz2_spec h hs hv
end Go.Proofs.Ytnmjcdlgfimnaaa
namespace Go.Proofs.Ytnmjcdlgfimnaaa
def LV.ren (ρ : Nat → Nat) : LV → LV
  | .own i => .own (ρ i)
  | .ptr i p o => .ptr (ρ i) p o
  | .view i p o n lo len => .view (ρ i) p o n lo len
  | .clo f caps => .clo f (caps.map ρ)
  | .mp i => .mp (ρ i)
  | .ocut i n => .ocut (ρ i) n
  | .mrow m V k => .mrow (ρ m) V k
  | .mcut m V k n => .mcut (ρ m) V k n
  | x => x
def SV.ren (ρ : Nat → Nat) : SV → SV
  | .l x => .l (x.ren ρ)
  | .agg xs => .agg (xs.map (LV.ren ρ))
def TV.ren (ρ : Nat → Nat) : TV → TV
  | .one x => .one (x.ren ρ)
  | .tup xs => .tup (xs.map (SV.ren ρ))
def Box.ren (ρ : Nat → Nat) : Box → Box
  | .segs l => .segs (l.map (LV.ren ρ))
  | .sarr k l => .sarr k (l.map (LV.ren ρ))
  | .mpr A M V (some (k, some i)) => .mpr A M V (some (k, some (ρ i)))
  | b => b
def renM (ρ : Nat → Nat) : List (Nat × Box) → List (Nat × Box)
  | [] => []
  | (i, b) :: r => (ρ i, b.ren ρ) :: renM ρ r
section
variable {G : Hp} {γ : Nat → Value} {ρ : Nat → Nat}
theorem LV.ren_rel {x : LV} {cs : List Value} : (x.ren ρ).rel G γ cs ↔ x.rel G (fun i => γ (ρ i)) cs := by
  cases x <;> simp [LV.ren, LV.rel, Function.comp_def]
theorem LV.ren_relV {x : LV} {v : Value} : (x.ren ρ).relV G γ v ↔ x.relV G (fun i => γ (ρ i)) v := by
  cases x <;> simp [LV.ren, LV.relV, LV.rel, Function.comp_def]
theorem RelL.ren : ∀ {l : List LV} {cs : List Value}, RelL G γ (l.map (LV.ren ρ)) cs ↔ RelL G (fun i => γ (ρ i)) l cs
  | [], _ => Iff.rfl
  | x :: l, cs => by
    constructor
    · rintro ⟨c, d, e, hx, hl⟩; exact ⟨c, d, e, LV.ren_rel.1 hx, RelL.ren.1 hl⟩
    · rintro ⟨c, d, e, hx, hl⟩; exact ⟨c, d, e, LV.ren_rel.2 hx, RelL.ren.2 hl⟩
theorem SV.ren_rel {x : SV} {v : Value} : (x.ren ρ).rel G γ v ↔ x.rel G (fun i => γ (ρ i)) v := by
  cases x with
  | l x => exact LV.ren_relV
  | agg xs =>
    constructor
    · rintro ⟨cs, hc, e⟩; exact ⟨cs, RelL.ren.1 hc, e⟩
    · rintro ⟨cs, hc, e⟩; exact ⟨cs, RelL.ren.2 hc, e⟩
theorem RelV.ren : ∀ {l : List SV} {us : List Value}, RelV G γ (l.map (SV.ren ρ)) us ↔ RelV G (fun i => γ (ρ i)) l us
  | [], _ => Iff.rfl
  | x :: l, us => by
    constructor
    · rintro ⟨v, r, e, hx, hl⟩; exact ⟨v, r, e, SV.ren_rel.1 hx, RelV.ren.1 hl⟩
    · rintro ⟨v, r, e, hx, hl⟩; exact ⟨v, r, e, SV.ren_rel.2 hx, RelV.ren.2 hl⟩
theorem TV.ren_rel {x : TV} {v : Value} : (x.ren ρ).rel G γ v ↔ x.rel G (fun i => γ (ρ i)) v := by
  cases x with
  | one x => exact SV.ren_rel
  | tup xs =>
    constructor
    · rintro ⟨vs, hv, e⟩; exact ⟨vs, RelV.ren.1 hv, e⟩
    · rintro ⟨vs, hv, e⟩; exact ⟨vs, RelV.ren.2 hv, e⟩
theorem Box.ren_at {x : Box} {v : Value} {f : Hp} : (x.ren ρ).at G γ v f ↔ x.at G (fun i => γ (ρ i)) v f := by
  cases x with
  | segs l =>
    constructor
    · rintro ⟨b, t, cs, e, ef, hl⟩; exact ⟨b, t, cs, e, ef, RelL.ren.1 hl⟩
    · rintro ⟨b, t, cs, e, ef, hl⟩; exact ⟨b, t, cs, e, ef, RelL.ren.2 hl⟩
  | arr R l => exact Iff.rfl
  | sarr k l =>
    constructor
    · rintro ⟨b, t, es, sp, c, e, ef, hl, hn⟩; exact ⟨b, t, es, sp, c, e, ef, RelL.ren.1 hl, hn⟩
    · rintro ⟨b, t, es, sp, c, e, ef, hl, hn⟩; exact ⟨b, t, es, sp, c, e, ef, RelL.ren.2 hl, hn⟩
  | obj O D => exact Iff.rfl
  | mpr A M V dead =>
    rcases dead with _ | ⟨k, _ | i⟩
    · exact ⟨fun h => ⟨h.1, fun k i hd => by simp at hd⟩, fun h => ⟨h.1, fun k i hd => by simp at hd⟩⟩
    · exact ⟨fun h => ⟨h.1, fun k i hd => by simp at hd⟩, fun h => ⟨h.1, fun k i hd => by simp at hd⟩⟩
    · constructor
      · intro h
        refine ⟨h.1, fun k' i' hd => ?_⟩
        simp only [Option.some.injEq, Prod.mk.injEq] at hd
        obtain ⟨rfl, rfl⟩ := hd
        exact h.2 k (ρ i) rfl
      · intro h
        refine ⟨h.1, fun k' i' hd => ?_⟩
        simp only [Option.some.injEq, Prod.mk.injEq] at hd
        obtain ⟨rfl, rfl⟩ := hd
        exact h.2 k i rfl
end
theorem renM_mem {ρ : Nat → Nat} : ∀ {mem : List (Nat × Box)} {e : Nat × Box}, e ∈ renM ρ mem → ∃ e' ∈ mem, e = (ρ e'.1, e'.2.ren ρ)
  | [], _, h => by simp [renM] at h
  | (i, b) :: r, e, h => by
    rcases List.mem_cons.1 h with rfl | h
    · exact ⟨(i, b), by simp, rfl⟩
    · obtain ⟨e', h1, h2⟩ := renM_mem h
      exact ⟨e', by simp [h1], h2⟩
theorem renM_ids {ρ : Nat → Nat} : ∀ mem : List (Nat × Box), idsM (renM ρ mem) = (idsM mem).map ρ
  | [] => rfl
  | (i, b) :: r => by
    show ρ i :: idsM (renM ρ r) = ρ i :: (idsM r).map ρ
    rw [renM_ids r]
def Spec (P : Program) (f : FuncId) (args : List SV) (mem : List (Nat × Box)) (tv : TV) (mem' : List (Nat × Box)) : Prop :=
  IsFn P f ∧ ∀ (R : Fr) (G : Hp) (γ : Nat → Value) (w : World) (vs : List Value), (∀ i, R.pin i = if i ∈ idsM mem then some (γ i) else none) → MemAt R G γ mem w → RelV G γ args vs →
    Calls P f vs.toArray w fun e w' => ∃ v G' γ', e = .returned v ∧ Hp.le G G' ∧ tv.rel G' γ' v ∧ MemAt R G' γ' mem' w'
def killsSl : List Nat → List (Nat × TV) → List (Nat × TV)
  | [], sl => sl
  | i :: r, sl => killSl i (killsSl r sl)
def killsM : List Nat → List (Nat × Box) → List (Nat × Box)
  | [], m => m
  | i :: r, m => killMem i (killsM r m)
def rmsM : List Nat → List (Nat × Box) → List (Nat × Box)
  | [], m => m
  | i :: r, m => rmM (rmsM r m) i
def SymSt.back (s : SymSt) (olds news : List Nat) (mem : List (Nat × Box)) : SymSt := ⟨killsSl news s.sl, mem ++ killsM news (rmsM olds s.mem), s.pins⟩
theorem killsSl_ok {G : Hp} {γ γ' : Nat → Value} : ∀ {ids : List Nat} {sl : List (Nat × TV)} {ts : Array Value}, (∀ i, i ∉ ids → γ' i = γ i) → SlotsOk G γ sl ts → SlotsOk G γ' (killsSl ids sl) ts
  | [], sl, ts, h, hs => fun i => TV.rel_congr (fun j _ => h j (by simp)) (hs i)
  | k :: r, sl, ts, h, hs => by
    classical
    have h1 : SlotsOk G (fun i => if i = k then γ k else γ' i) (killsSl r sl) ts := killsSl_ok (fun i hi => by
      by_cases e : i = k
      · simp [e]
      · simp only [if_neg e]; exact h i (by simp [e, hi])) hs
    exact h1.kill fun i hi => by simp [hi]
theorem killsM_mem {G : Hp} {γ γ' : Nat → Value} : ∀ {ids : List Nat} {mem : List (Nat × Box)} {e : Nat × Box}, (∀ i, i ∉ ids → γ' i = γ i) → e ∈ killsM ids mem → e.1 ∉ ids ∧ ∃ b, (e.1, b) ∈ mem ∧ ∀ v f, b.at G γ v f → e.2.at G γ' v f
  | [], mem, e, h, he => ⟨by simp, e.2, he, fun v f hb => Box.at_congr (fun j _ => h j (by simp)) hb⟩
  | k :: r, mem, e, h, he => by
    classical
    obtain ⟨h1, b, h2, h3⟩ := killMem_mem he
    obtain ⟨h4, b', h5, h6⟩ := killsM_mem (G := G) (γ := γ) (γ' := fun i => if i = k then γ k else γ' i) (fun i hi => by
      by_cases e : i = k
      · simp [e]
      · simp only [if_neg e]; exact h i (by simp [e, hi])) h2
    refine ⟨by simp [h1, h4], b', h5, fun v f hb => ?_⟩
    rw [h3]
    exact Box.kill_at (fun i hi => by simp [hi]) (h6 v f hb)
theorem killsM_nodup : ∀ {ids : List Nat} {mem : List (Nat × Box)}, (idsM mem).Nodup → (idsM (killsM ids mem)).Nodup
  | [], _, h => h
  | _ :: _, _, h => killMem_ids (killsM_nodup h)
theorem rmsM_mem : ∀ {ids : List Nat} {mem : List (Nat × Box)} {e : Nat × Box}, e ∈ rmsM ids mem → e ∈ mem ∧ e.1 ∉ ids
  | [], _, _, h => ⟨h, by simp⟩
  | k :: r, mem, e, h => by
    obtain ⟨h1, h2⟩ := rmM_mem h
    obtain ⟨h3, h4⟩ := rmsM_mem h1
    exact ⟨h3, by simp [h2, h4]⟩
theorem rmsM_nodup : ∀ {ids : List Nat} {mem : List (Nat × Box)}, (idsM mem).Nodup → (idsM (rmsM ids mem)).Nodup
  | [], _, h => h
  | _ :: _, _, h => rmM_ids (rmsM_nodup h)
theorem Wc_spec {P : Program} {f : FuncId} {args as : List SV} {mem mem' : List (Nat × Box)} {tv : TV} {s : SymSt} {K : KT} (h : Spec P f args mem tv mem') (ρ : Nat → Nat) (news : List Nat) (hnd : (idsM mem).Nodup)
    (inj : ∀ i ∈ idsM mem, ∀ j ∈ idsM mem, ρ i = ρ j → i = j) (inj' : ∀ i ∈ idsM mem', ∀ j ∈ idsM mem', ρ i = ρ j → i = j)
    (hn : ∀ j ∈ idsM mem', j ∉ idsM mem → ρ j ∈ news) (hpin : ∀ i ∈ news, i ∉ s.pins)
    (cl : ∀ i ∈ tv.ids, i ∈ idsM mem') (clb : ∀ e ∈ mem', ∀ i ∈ e.2.ids, i ∈ idsM mem')
    (hm : ∀ e ∈ mem, getM s.mem (ρ e.1) = some (e.2.ren ρ)) (ha : ∀ G γ us, RelV G γ as us → RelV G γ (args.map (SV.ren ρ)) us)
    (hK : K (tv.ren ρ) (s.back ((idsM mem).map ρ) news (renM ρ mem'))) : Wc P f as s K := by
  classical
  refine ⟨h.1, ?_⟩
  intro R G γ a w vs hs hv
  obtain ⟨fr, hmf⟩ := hs.mem
  have hid : ∀ i ∈ idsM mem, ρ i ∈ idsM s.mem := by
    intro i hi
    obtain ⟨e, he, rfl⟩ := List.mem_map.1 hi
    exact List.mem_map.2 ⟨_, getM_mem (hm e he), rfl⟩
  let γ0 : Nat → Value := fun i => γ (ρ i)
  let Rh : Hp := fun b => if G b = none ∧ ∀ i ∈ idsM mem, fr (ρ i) b = none then hpOf w b else none
  let R' : Fr := ⟨Rh, R.os, R.out, fun i => if i ∈ idsM mem then some (γ0 i) else none⟩
  have hRh : ∀ b, Rh b ≠ none → G b = none ∧ ∀ i ∈ idsM mem, fr (ρ i) b = none := by
    intro b hb
    simp only [Rh] at hb
    split at hb
    · assumption
    · simp at hb
  have hRle : ∀ b o, Rh b = some o → hpOf w b = some o := by
    intro b o hb
    simp only [Rh] at hb
    split at hb
    · exact hb
    · simp at hb
  have hRin : ∀ b o, hpOf w b = some o → G b = none → (∀ i ∈ idsM mem, fr (ρ i) b = none) → Rh b = some o := by
    intro b o hb h1 h2
    simp only [Rh, if_pos (⟨h1, h2⟩ : G b = none ∧ ∀ i ∈ idsM mem, fr (ρ i) b = none)]
    exact hb
  have hcall : MemF R' G γ0 (fun i => fr (ρ i)) mem w := by
    refine ⟨hnd, fun i v hi => ?_, fun e he => ?_, ⟨hmf.ok.g, hRle, fun b hb => ?_, fun i hi => hmf.ok.f _ (hid i hi), fun i hi => hmf.ok.gf _ (hid i hi), fun i hi b hb => ?_, fun i hi j hj hij => hmf.ok.ff _ (hid i hi) _ (hid j hj) fun e => hij (inj i hi j hj e), hmf.ok.os, hmf.ok.out⟩⟩
    · simp only [R'] at hi
      split at hi
      · simpa using hi
      · simp at hi
    · have := hmf.at' _ (getM_mem (hm e he))
      exact Box.ren_at.1 this
    · cases hr : Rh b with
      | none => exact hr
      | some o => exact absurd (hRh b (by simp [hr])).1 hb
    · cases hr : Rh b with
      | none => exact hr
      | some o => exact absurd ((hRh b (by simp [hr])).2 i hi) hb
  have hargs : RelV G γ0 args vs := RelV.ren.1 (ha G γ vs hv)
  refine (h.2 R' G γ0 w vs (fun i => rfl) ⟨_, hcall⟩ hargs).mono ?_
  rintro e w' ⟨v, G', γ1, rfl, hg, hrel, fr1, hmf1⟩
  have hpin1 : ∀ i ∈ idsM mem, γ1 i = γ0 i := fun i hi => hmf1.pin i _ (by simp only [R', if_pos hi])
  let γ2 : Nat → Value := fun k => if hk : ∃ j ∈ idsM mem', ρ j = k then γ1 (Classical.choose hk) else γ k
  let fr2 : Nat → Hp := fun k => if hk : ∃ j ∈ idsM mem', ρ j = k then fr1 (Classical.choose hk) else fr k
  have ch : ∀ j ∈ idsM mem', ∀ hk : ∃ i ∈ idsM mem', ρ i = ρ j, Classical.choose hk = j := fun j hj hk =>
    inj' _ (Classical.choose_spec hk).1 j hj (Classical.choose_spec hk).2
  have g2 : ∀ j ∈ idsM mem', γ2 (ρ j) = γ1 j := by
    intro j hj
    have hk : ∃ i ∈ idsM mem', ρ i = ρ j := ⟨j, hj, rfl⟩
    simp only [γ2, dif_pos hk, ch j hj hk]
  have f2 : ∀ j ∈ idsM mem', fr2 (ρ j) = fr1 j := by
    intro j hj
    have hk : ∃ i ∈ idsM mem', ρ i = ρ j := ⟨j, hj, rfl⟩
    simp only [fr2, dif_pos hk, ch j hj hk]
  have g2' : ∀ k, k ∉ news → γ2 k = γ k := by
    intro k hk
    simp only [γ2]
    split
    · rename_i hx
      obtain ⟨h1, h2⟩ := Classical.choose_spec hx
      by_cases hin : Classical.choose hx ∈ idsM mem
      · rw [hpin1 _ hin]
        show γ (ρ _) = γ k
        rw [h2]
      · exact absurd (h2 ▸ hn _ h1 hin) hk
    · rfl
  have hcongr : ∀ {x : TV}, (∀ i ∈ x.ids, i ∈ idsM mem') → x.rel G' γ1 v → (x.ren ρ).rel G' γ2 v := fun hx hr =>
    TV.ren_rel.2 (TV.rel_congr (fun i hi => g2 i (hx i hi)) hr)
  -- the other boxes
  have hoth : ∀ {e : Nat × Box}, e ∈ killsM news (rmsM ((idsM mem).map ρ) s.mem) → e.1 ∈ idsM s.mem ∧ (∀ i ∈ idsM mem, e.1 ≠ ρ i) ∧ (∀ j ∈ idsM mem', e.1 ≠ ρ j) ∧ e.2.at G' γ2 (γ e.1) (fr e.1) := by
    intro e he
    obtain ⟨h1, b, h2, h3⟩ := killsM_mem (G := G) (γ := γ) (γ' := γ2) g2' he
    obtain ⟨h4, h5⟩ := rmsM_mem h2
    have hne : ∀ i ∈ idsM mem, e.1 ≠ ρ i := fun i hi e1 => h5 (List.mem_map.2 ⟨i, hi, e1.symm⟩)
    refine ⟨List.mem_map.2 ⟨_, h4, rfl⟩, hne, fun j hj e1 => ?_, Box.at_mono hg (h3 _ _ (hmf.at' _ h4))⟩
    by_cases hin : j ∈ idsM mem
    · exact hne j hin e1
    · exact h1 (e1 ▸ hn j hj hin)
  have hothid : ∀ {k : Nat}, k ∈ idsM (killsM news (rmsM ((idsM mem).map ρ) s.mem)) → k ∈ idsM s.mem ∧ (∀ i ∈ idsM mem, k ≠ ρ i) ∧ (∀ j ∈ idsM mem', k ≠ ρ j) := by
    intro k hk
    obtain ⟨e, he, rfl⟩ := List.mem_map.1 hk
    obtain ⟨h1, h2, h3, _⟩ := hoth he
    exact ⟨h1, h2, h3⟩
  have hfo : ∀ {k : Nat}, (∀ j ∈ idsM mem', k ≠ ρ j) → fr2 k = fr k := by
    intro k hk
    have : ¬ ∃ j ∈ idsM mem', ρ j = k := fun ⟨j, hj, e⟩ => hk j hj e.symm
    simp only [fr2, dif_neg this]
  have hgo : ∀ {k : Nat}, (∀ j ∈ idsM mem', k ≠ ρ j) → γ2 k = γ k := by
    intro k hk
    have : ¬ ∃ j ∈ idsM mem', ρ j = k := fun ⟨j, hj, e⟩ => hk j hj e.symm
    simp only [γ2, dif_neg this]
  have hkept : ∀ {k : Nat}, k ∈ idsM s.mem → (∀ i ∈ idsM mem, k ≠ ρ i) → ∀ b o, fr k b = some o → Rh b = some o := by
    intro k hk hne b o hb
    exact hRin b o (hmf.ok.f k hk b o hb) (hmf.ok.gf k hk b (by simp [hb])) fun i hi => hmf.ok.ff k hk _ (hid i hi) (hne i hi) b (by simp [hb])
  have hRkept : ∀ b o, R.hp b = some o → Rh b = some o := by
    intro b o hb
    refine hRin b o (hmf.ok.r b o hb) ?_ fun i hi => ?_
    · cases hgb : G b with
      | none => rfl
      | some x => exact absurd (hmf.ok.gr b (by simp [hgb])) (by simp [hb])
    · cases hfb : fr (ρ i) b with
      | none => rfl
      | some x => exact absurd (hmf.ok.rf _ (hid i hi) b (by simp [hfb])) (by simp [hb])
  have hgr' : ∀ b, Rh b ≠ none → G' b = none := by
    intro b hb
    cases hgb : G' b with
    | none => rfl
    | some x => exact absurd (hmf1.ok.gr b (by simp [hgb])) hb
  have hfr' : ∀ j ∈ idsM mem', ∀ b, fr1 j b ≠ none → Rh b = none := fun j hj b hb => hmf1.ok.rf j hj b hb
  refine ⟨v, rfl, G', γ2, _, _, hg, hK, hcongr cl hrel, ⟨?_, ⟨fr2, ?_, ?_, ?_, ?_⟩, hs.df, hs.pn⟩⟩
  · exact killsSl_ok g2' fun i => TV.rel_mono hg (hs.sl i)
  · show (idsM (renM ρ mem' ++ killsM news (rmsM ((idsM mem).map ρ) s.mem))).Nodup
    simp only [idsM, List.map_append]
    rw [List.nodup_append]
    refine ⟨?_, killsM_nodup (rmsM_nodup hmf.nd), ?_⟩
    · show (idsM (renM ρ mem')).Nodup
      rw [renM_ids]
      unfold List.Nodup
      rw [List.pairwise_map]
      exact List.Pairwise.imp_of_mem (fun hi hj hne e => hne (inj' _ hi _ hj e)) hmf1.nd
    · intro x hx y hy e
      subst e
      have hx' : x ∈ idsM (renM ρ mem') := hx
      rw [renM_ids] at hx'
      obtain ⟨j, hj, rfl⟩ := List.mem_map.1 hx'
      exact (hothid hy).2.2 j hj rfl
  · intro i u hi
    have h1 := hmf.pin i u hi
    have h2 : i ∈ s.pins := hs.pn i (by simp [hi])
    rw [g2' i (fun hin => hpin i hin h2)]
    exact h1
  · intro e he
    rcases List.mem_append.1 he with he | he
    · obtain ⟨e', h1, rfl⟩ := renM_mem he
      have hj : e'.1 ∈ idsM mem' := List.mem_map.2 ⟨_, h1, rfl⟩
      simp only [g2 _ hj, f2 _ hj]
      exact Box.ren_at.2 (Box.at_congr (fun i hi => g2 i (clb e' h1 i hi)) (hmf1.at' e' h1))
    · obtain ⟨h1, h2, h3, h4⟩ := hoth he
      rw [hgo h3, hfo h3]
      exact h4
  · have hin : ∀ {k : Nat}, k ∈ idsM (renM ρ mem' ++ killsM news (rmsM ((idsM mem).map ρ) s.mem)) → (∃ j ∈ idsM mem', k = ρ j) ∨ (k ∈ idsM s.mem ∧ (∀ i ∈ idsM mem, k ≠ ρ i) ∧ (∀ j ∈ idsM mem', k ≠ ρ j)) := by
      intro k hk
      simp only [idsM, List.map_append, List.mem_append] at hk
      rcases hk with hk | hk
      · have hk' : k ∈ idsM (renM ρ mem') := hk
        rw [renM_ids] at hk'
        obtain ⟨j, hj, rfl⟩ := List.mem_map.1 hk'
        exact .inl ⟨j, hj, rfl⟩
      · exact .inr (hothid hk)
    refine ⟨hmf1.ok.g, fun b o hb => hmf1.ok.r b o (hRkept b o hb), fun b hb => ?_, ?_, ?_, ?_, ?_, hmf1.ok.os, hmf1.ok.out⟩
    · cases hr : R.hp b with
      | none => rfl
      | some o => exact absurd (hgr' b (by simp [hRkept b o hr])) hb
    · intro k hk
      rcases hin hk with ⟨j, hj, rfl⟩ | ⟨h1, h2, h3⟩
      · rw [f2 j hj]; exact hmf1.ok.f j hj
      · rw [hfo h3]; exact fun b o hb => hmf1.ok.r b o (hkept h1 h2 b o hb)
    · intro k hk b hb
      rcases hin hk with ⟨j, hj, rfl⟩ | ⟨h1, h2, h3⟩
      · rw [f2 j hj] at hb; exact hmf1.ok.gf j hj b hb
      · rw [hfo h3] at hb
        obtain ⟨o, ho⟩ := Option.ne_none_iff_exists'.1 hb
        exact hgr' b (by simp [hkept h1 h2 b o ho])
    · intro k hk b hb
      rcases hin hk with ⟨j, hj, rfl⟩ | ⟨h1, h2, h3⟩
      · rw [f2 j hj] at hb
        have := hfr' j hj b hb
        cases hr : R.hp b with
        | none => rfl
        | some o => rw [hRkept b o hr] at this; simp at this
      · rw [hfo h3] at hb; exact hmf.ok.rf k h1 b hb
    · intro k hk l hl hkl b hb
      rcases hin hk with ⟨j, hj, rfl⟩ | ⟨h1, h2, h3⟩ <;> rcases hin hl with ⟨j', hj', rfl⟩ | ⟨h1', h2', h3'⟩
      · rw [f2 j hj] at hb; rw [f2 j' hj']; exact hmf1.ok.ff j hj j' hj' (fun e => hkl (by rw [e])) b hb
      · rw [f2 j hj] at hb; rw [hfo h3']
        have := hfr' j hj b hb
        cases hf : fr l b with
        | none => rfl
        | some o => rw [hkept h1' h2' b o hf] at this; simp at this
      · rw [hfo h3] at hb; rw [f2 j' hj']
        obtain ⟨o, ho⟩ := Option.ne_none_iff_exists'.1 hb
        have := hkept h1 h2 b o ho
        cases hf : fr1 j' b with
        | none => rfl
        | some x => rw [hfr' j' hj' b (by simp [hf])] at this; simp at this
      · rw [hfo h3] at hb; rw [hfo h3']; exact hmf.ok.ff k h1 l h1' hkl b hb
theorem Ok.freezeSome {w : World} {R : Fr} {fr : Nat → Hp} : ∀ {ids1 ids : List Nat} {G : Hp}, ids1.Nodup → (∀ i ∈ ids1, i ∈ ids) → Ok w G R ids fr →
    Ok w (unionG G fr ids1) R (ids.filter fun i => !ids1.contains i) fr ∧ ∀ i ∈ ids1, Hp.le (fr i) (unionG G fr ids1)
  | [], ids, G, _, _, h => ⟨h.sub fun i hi => (List.mem_filter.1 hi).1, by simp⟩
  | k :: r, ids, G, hn, hs, h => by
    simp only [List.nodup_cons] at hn
    obtain ⟨h1, h2⟩ := Ok.freezeSome hn.2 (fun i hi => hs i (by simp [hi])) h
    have hk : k ∈ ids.filter fun i => !r.contains i := List.mem_filter.2 ⟨hs k (by simp), by simp [hn.1]⟩
    have h3 := h1.freeze hk
    refine ⟨h3.sub fun i hi => ?_, fun i hi b o hb => ?_⟩
    · simp only [List.mem_filter, List.contains_cons, Bool.not_or, Bool.and_eq_true, Bool.not_eq_true', beq_eq_false_iff_ne, ne_eq, decide_not, decide_eq_false_iff_not] at hi ⊢
      exact ⟨⟨hi.1, hi.2.2⟩, hi.2.1⟩
    · show ((unionG G fr r b).or (fr k b)) = some o
      rcases List.mem_cons.1 hi with rfl | hi
      · have := h1.gf i hk b (by simp [hb])
        simp [this, hb]
      · have := h2 i hi b o hb
        simp [this]
theorem LeM.ids {l mem : List (Nat × Box)} (h : LeM l mem) : ∀ i ∈ idsM l, i ∈ idsM mem := by
  intro i hi
  obtain ⟨e, he, rfl⟩ := List.mem_map.1 hi
  exact List.mem_map.2 ⟨e, LeM.mem h e he, rfl⟩
def Closes (mx mem : List (Nat × Box)) : Prop := ∀ R G γ w, (∀ j, 5000 ≤ j → R.pin j = none) → MemAt R G γ mx w → ∃ γ', (∀ j, j < 5000 → γ' j = γ j) ∧ MemAt R G γ' mem w
theorem Closes.refl (mem : List (Nat × Box)) : Closes mem mem := fun _ _ γ _ _ h => ⟨γ, fun _ _ => rfl, h⟩
theorem Closes.trans {a b c : List (Nat × Box)} (h : Closes a b) (h' : Closes b c) : Closes a c := fun R G γ w hp x => by
  obtain ⟨γ1, h1, x1⟩ := h R G γ w hp x
  obtain ⟨γ2, h2, x2⟩ := h' R G γ1 w hp x1
  exact ⟨γ2, fun j hj => (h2 j hj).trans (h1 j hj), x2⟩
theorem Closes.row {mem : List (Nat × Box)} {m id : Nat} {α : Type} {A : Rep α} {M : Int → List α} {V : Int → Value} {k : Int} {l : List α} (hg : getM mem m = some (.mpr A M V (some (k, some id)))) (hgd : getM mem id = some (.arr A l)) :
    Closes mem (rmM (setM mem m (.mpr A (updM M k l) V none)) id) := fun _ _ γ _ _ h => ⟨γ, fun _ _ => rfl, h.closeRow hg hgd⟩
theorem Closes.sub {mem mem' : List (Nat × Box)} (hn : (idsM mem').Nodup) (hs : ∀ e ∈ mem', e ∈ mem) : Closes mem mem' := fun _ _ γ _ _ h => ⟨γ, fun _ _ => rfl, h.sub hn hs⟩
def Opens {ι : Type 1} (mem : List (Nat × Box)) (mx : ι → List (Nat × Box)) : Prop :=
  ∀ R G γ w, (∀ j, 5000 ≤ j → R.pin j = none) → MemAt R G γ mem w → ∃ i γ', (∀ j, j < 5000 → γ' j = γ j) ∧ MemAt R G γ' (mx i) w
theorem Opens.refl (mem : List (Nat × Box)) : Opens mem (fun _ : PUnit => mem) := fun _ _ γ _ _ h => ⟨⟨⟩, γ, fun _ _ => rfl, h⟩
theorem Closes.nils {id n : Nat} {p q : List LV} {rest : List (Nat × Box)} {α : Type} (A : Rep α) (hn : 5000 ≤ n) (hid : n ≠ id) (h1 : n ∉ idsL p) (h2 : n ∉ idsL q) (h3 : n ∉ idsM rest) (h4 : ∀ e ∈ rest, n ∉ e.2.ids) :
    Closes ((id, .segs (p ++ .nils :: q)) :: rest) ((id, .segs (p ++ .own n :: q)) :: (n, .arr A []) :: rest) := by
  intro R G γ w hp ⟨fr, hnd, hpin, hat, hok⟩
  simp only [idsM, List.map_cons, List.nodup_cons] at hnd
  have hγ : ∀ i, i ≠ n → updG γ n (.slice none 0 0) i = γ i := fun i hi => updG_ne hi
  refine ⟨updG γ n (.slice none 0 0), fun j hj => hγ j (by omega), updF fr n emp, ?_, ?_, ?_, ?_⟩
  · simp only [idsM, List.map_cons, List.nodup_cons, List.mem_cons, not_or]
    exact ⟨⟨Ne.symm hid, hnd.1⟩, h3, hnd.2⟩
  · intro i v hi
    have : i ≠ n := by rintro rfl; rw [hp i hn] at hi; simp at hi
    rw [hγ i this]; exact hpin i v hi
  · intro e he
    rcases List.mem_cons.1 he with rfl | he
    · simp only
      rw [hγ id (Ne.symm hid), updF_ne (Ne.symm hid)]
      obtain ⟨b, t, cs, e1, e2, hl⟩ := hat (id, .segs (p ++ .nils :: q)) (by simp)
      refine ⟨b, t, cs, e1, e2, ?_⟩
      obtain ⟨c, d, rfl, hc, c2, d2, rfl, hx, hd⟩ := EncL.append_inv hl
      refine EncL.append (RelL.congr (fun i hi => hγ i (fun e => h1 (e ▸ hi))) hc) ⟨c2, d2, rfl, ?_, RelL.congr (fun i hi => hγ i (fun e => h2 (e ▸ hi))) hd⟩
      have hx' : c2 = [.slice none 0 0] := hx
      exact ⟨by rw [updG_same, hx'], by rw [updG_same]; rfl⟩
    · rcases List.mem_cons.1 he with rfl | he
      · simp only [updG_same, updF_same]
        exact .inr ⟨rfl, ⟨none, rfl⟩, rfl⟩
      · have hne : e.1 ≠ n := fun h => h3 (h ▸ List.mem_map.2 ⟨e, he, rfl⟩)
        rw [hγ _ hne, updF_ne hne]
        exact Box.at_congr (fun j hj => hγ j (fun h => h4 e he (h ▸ hj))) (hat e (by simp [he]))
  · refine ((hok.nothing (d := n) ?_).sub ?_)
    · simp only [idsM, List.map_cons, List.mem_cons, not_or]
      exact ⟨hid, h3⟩
    · intro i hi
      simp only [idsM, List.map_cons, List.mem_cons] at hi ⊢
      rcases hi with h | h | h
      · exact .inr (.inl h)
      · exact .inl h
      · exact .inr (.inr h)
theorem Closes.ocut {id r n k : Nat} {p q : List LV} {rest : List (Nat × Box)} {α : Type} {A : Rep α} {l : List α} (hn : 5000 ≤ n) (hid : n ≠ id) (h1 : n ∉ idsL p) (h2 : n ∉ idsL q) (h3 : n ∉ idsM rest) (h4 : ∀ e ∈ rest, n ∉ e.2.ids) (hnr : n ≠ r) :
    Closes ((id, .segs (p ++ .ocut r k :: q)) :: (r, .arr A l) :: rest) ((id, .segs (p ++ .own n :: q)) :: (n, .arr A (l.take k)) :: rest) := by
  intro R G γ w hp ⟨fr, hnd, hpin, hat, hok⟩
  simp only [idsM, List.map_cons, List.nodup_cons, List.mem_cons, not_or] at hnd
  obtain ⟨⟨hidr, hidn⟩, hrn, hnd⟩ := hnd
  obtain ⟨b, t, cs, e1, e2, hl⟩ := hat (id, .segs (p ++ .ocut r k :: q)) (by simp)
  have hrow : RowAt A G l (γ r) (fr r) := hat (r, .arr A l) (by simp)
  obtain ⟨c, d, rfl, hc, c2, d2, rfl, hx, hd⟩ := EncL.append_inv hl
  obtain ⟨ad, len, cp, hV, hkl, hlc, hx'⟩ := hx
  rw [hV] at hrow
  have hcut := hrow.cut hkl hlc
  have hγ : ∀ i, i ≠ n → updG γ n (.slice ad k cp) i = γ i := fun i hi => updG_ne hi
  refine ⟨updG γ n (.slice ad k cp), fun j hj => hγ j (by omega), updF fr n (fr r), ?_, ?_, ?_, ?_⟩
  · simp only [idsM, List.map_cons, List.nodup_cons, List.mem_cons, not_or]
    exact ⟨⟨Ne.symm hid, hidn⟩, h3, hnd⟩
  · intro i v hi
    have : i ≠ n := by rintro rfl; rw [hp i hn] at hi; simp at hi
    rw [hγ i this]; exact hpin i v hi
  · intro e he
    rcases List.mem_cons.1 he with rfl | he
    · simp only
      rw [hγ id (Ne.symm hid), updF_ne (Ne.symm hid)]
      refine ⟨b, t, _, e1, e2, ?_⟩
      refine EncL.append (RelL.congr (fun i hi => hγ i (fun e => h1 (e ▸ hi))) hc) ⟨c2, d2, rfl, ?_, RelL.congr (fun i hi => hγ i (fun e => h2 (e ▸ hi))) hd⟩
      exact ⟨by rw [updG_same, hx'], by rw [updG_same]; rfl⟩
    · rcases List.mem_cons.1 he with rfl | he
      · simp only [updG_same, updF_same]
        exact hcut
      · have hne : e.1 ≠ n := fun h => h3 (h ▸ List.mem_map.2 ⟨e, he, rfl⟩)
        rw [hγ _ hne, updF_ne hne]
        exact Box.at_congr (fun j hj => hγ j (fun h => h4 e he (h ▸ hj))) (hat e (by simp [he]))
  · have hr : r ∈ idsM ((id, Box.segs (p ++ LV.ocut r k :: q)) :: (r, Box.arr A l) :: rest) := by simp [idsM]
    have h2 : Ok w G R (n :: id :: idsM rest) (updF fr n (fr r)) := by
      refine hok.rename (d := n) hr (ids' := id :: idsM rest) (fun i hi => ?_) (by simp only [List.mem_cons, not_or]; exact ⟨hid, h3⟩)
      rcases List.mem_cons.1 hi with rfl | hi
      · exact ⟨by simp [idsM], hidr⟩
      · refine ⟨by simp only [idsM, List.map_cons, List.mem_cons]; exact .inr (.inr hi), ?_⟩
        rintro rfl; exact hrn hi
    refine h2.sub fun i hi => ?_
    simp only [idsM, List.map_cons, List.mem_cons] at hi ⊢
    rcases hi with h | h | h
    · exact .inr (.inl h)
    · exact .inl h
    · exact .inr (.inr h)
def Fin (rets : List LV) (mem' : List (Nat × Box)) (tv : TV) (s : SymSt) : Prop :=
  ∃ mx, RetsOk (tv.list.map (SV.frz (rmsM (idsM mx) s.mem))) rets ∧ LeM mx s.mem ∧ (idsM mx).Nodup ∧ Closes mx mem' ∧ ∀ i ∈ (tvL rets).ids, i < 5000
theorem Spec.of' {ι : Type 1} {E : Env} {f : FuncId} {fn : Func} {args : List SV} {mem mem' : List (Nat × Box)} {rets : List LV} {body : Code} {res : List ResultVar} (mx : ι → List (Nat × Box)) (hop : Opens mem mx) (hargs : ∀ i ∈ idsV args, i < 5000) (hlow : ∀ i ∈ idsM mem, i < 5000)
    (hf : E.P.funcs[f]? = some fn) (hi : IsFn E.P f) (hb : fn.body = some body) (hres : fn.results.toList = res)
    (hfit : codeFits fn.ntmps body = true) (hlen : Nat.ble args.length fn.ntmps = true)
    (h : ∀ i, vcCode E body ⟨parSl 0 args, mx i, idsM mem⟩ fun e s => match e with
      | .normal => vRes E.toCtx s res fun vs => Fin rets mem' (tvOf vs) s
      | .ret => vRes E.toCtx s res fun vs => Fin rets mem' (tvOf vs) s
      | _ => False) : Spec E.P f args mem (tvL rets) mem' := by
  refine ⟨hi, ?_⟩
  intro R G γ w vs hpin hm hv
  have hpin5 : ∀ j, 5000 ≤ j → R.pin j = none := fun j hj => by
    rw [hpin, if_neg]
    intro h
    have := hlow j h
    omega
  obtain ⟨i, γ0, hγ0, hm0⟩ := hop R G γ w hpin5 hm
  have hvf : vFn E fn args (mx i) (idsM mem) (Fin rets mem') := by
    subst hres
    unfold vFn
    rw [hb]
    exact ⟨hfit, Nat.le_of_ble_eq_true hlen, h i⟩
  have hv0 : RelV G γ0 args vs := hv.congr fun j hj => hγ0 j (hargs j hj)
  refine (vFn_sound hf hvf hm0 hv0 ?_).mono ?_
  · intro i hi
    rw [hpin] at hi
    split at hi
    · assumption
    · simp at hi
  rintro e w' ⟨v, G', γ', tv, s', rfl, hg, ⟨mxf, hret, hle, hnd, hcl, hlt⟩, hrel, ⟨fr, hn, hp, hat, hok'⟩, hone⟩
  have hids : ∀ i ∈ idsM (rmsM (idsM mxf) s'.mem), i ∈ idsM s'.mem := by
    intro i hi
    obtain ⟨e, he, rfl⟩ := List.mem_map.1 hi
    exact List.mem_map.2 ⟨e, (rmsM_mem he).1, rfl⟩
  obtain ⟨hok2, hfz⟩ := Ok.freezeSome (rmsM_nodup hn) hids hok'
  have hg2 : Hp.le G' (unionG G' fr (idsM (rmsM (idsM mxf) s'.mem))) := unionG_le _
  have hmx : MemAt R (unionG G' fr (idsM (rmsM (idsM mxf) s'.mem))) γ' mxf w' := by
    refine ⟨fr, hnd, hp, fun e he => Box.at_mono hg2 (hat e (LeM.mem hle e he)), hok2.sub fun i hi => ?_⟩
    refine List.mem_filter.2 ⟨LeM.ids hle i hi, ?_⟩
    simp only [Bool.not_eq_true', List.contains_eq_mem, decide_eq_false_iff_not]
    intro hin
    obtain ⟨e, he, e1⟩ := List.mem_map.1 hin
    exact (rmsM_mem he).2 (e1 ▸ hi)
  obtain ⟨γ3, h3, hm3⟩ := hcl _ _ _ _ hpin5 hmx
  refine ⟨v, _, γ3, rfl, Hp.le_trans hg hg2, TV.rel_congr (fun i hi => h3 i (hlt i hi)) ?_, hm3⟩
  exact tvL_rel (mem := rmsM (idsM mxf) s'.mem) (fun e he => hat e (rmsM_mem he).1) hg2 hfz hrel hret hone
def PartsP {ι : Type 1} (ok : ι → Prop) (mm : ι → List (Nat × Box)) (root : Nat) (G : Hp) (v : Value) (f : Hp) : Prop :=
  ∃ i, ∃ γ : Nat → Value, ∃ fr : Nat → Hp, ok i ∧ γ root = v ∧ (idsM (mm i)).Nodup ∧ root ∈ idsM (mm i) ∧ (∀ e ∈ mm i, e.2.at G γ (γ e.1) (fr e.1)) ∧
    (∀ i' ∈ idsM (mm i), ∀ j ∈ idsM (mm i), i' ≠ j → ∀ b, fr i' b ≠ none → fr j b = none) ∧ ∀ b o, f b = some o ↔ ∃ j ∈ idsM (mm i), fr j b = some o
def partsO {σ : Type} {ι : Type 1} (ok : σ → ι → Prop) (mm : ι → List (Nat × Box)) (root : Nat) (D : σ) : ObjP :=
  ⟨PartsP (ok D) mm root, fun hg ⟨i, γ, fr, h1, h2, h3, h4, h5, h6⟩ => ⟨i, γ, fr, h1, h2, h3, h4, fun e he => Box.at_mono hg (h5 e he), h6⟩⟩
theorem opens_parts {σ : Type} {ι : Type 1} {ok : σ → ι → Prop} {mm : ι → List (Nat × Box)} {root : Nat} {D : σ} {rest : List (Nat × Box)}
    (hsep : ∀ i, ∀ j ∈ idsM (mm i), j ≠ root → j ∉ idsM rest ∧ ∀ e ∈ rest, j ∉ e.2.ids) (hcl : ∀ i, ∀ e ∈ mm i, ∀ j ∈ e.2.ids, j ∈ idsM (mm i)) (hbig : ∀ i, ∀ j ∈ idsM (mm i), j ≠ root → 5000 ≤ j) : Opens ((root, .obj (partsO ok mm root) D) :: rest) (fun i : {i : ι // ok D i} => mm i.1 ++ rest) := by
  intro R G γ w hpin ⟨fr, hnd, hp, hat, hok⟩
  obtain ⟨i, γ1, fr1, hoki, hroot, hn1, hr1, hat1, hdis1, hf1⟩ := hat (root, .obj (partsO ok mm root) D) (by simp)
  classical
  have hroot : γ1 root = γ root := hroot
  have hf1 : ∀ b o, fr root b = some o ↔ ∃ j ∈ idsM (mm i), fr1 j b = some o := hf1
  let γ2 : Nat → Value := fun j => if j ∈ idsM (mm i) then γ1 j else γ j
  let fr2 : Nat → Hp := fun j => if j ∈ idsM (mm i) then fr1 j else fr j
  simp only [idsM, List.map_cons, List.nodup_cons] at hnd
  have hrest : ∀ j ∈ idsM rest, j ∉ idsM (mm i) := by
    intro j hj hj2
    by_cases e : j = root
    · subst e; exact hnd.1 hj
    · exact (hsep i j hj2 e).1 hj
  have e2 : ∀ j, j ∉ idsM (mm i) → γ2 j = γ j ∧ fr2 j = fr j := fun j hj => by simp [γ2, fr2, hj]
  have e1 : ∀ j, j ∈ idsM (mm i) → γ2 j = γ1 j ∧ fr2 j = fr1 j := fun j hj => by simp [γ2, fr2, hj]
  have hr0 : γ2 root = γ root := by rw [(e1 root hr1).1, hroot]
  have keep : ∀ j, (j = root ∨ j ∉ idsM (mm i)) → γ2 j = γ j := by
    rintro j (rfl | hj)
    · exact hr0
    · exact (e2 j hj).1
  refine ⟨⟨i, hoki⟩, γ2, ?_, fr2, ?_, ?_, ?_, ?_⟩
  · intro j hj
    refine keep j ?_
    by_cases e : j = root
    · exact .inl e
    · refine .inr fun h => ?_
      have := hbig i j h e
      omega
  · simp only [idsM, List.map_append, List.nodup_append]
    exact ⟨hn1, hnd.2, fun a ha b hb e => hrest b hb (e ▸ ha)⟩
  · intro j v hj
    rw [keep j]
    · exact hp j v hj
    · by_cases hm : j ∈ idsM (mm i)
      · by_cases e : j = root
        · exact .inl e
        · have := hpin j (hbig i j hm e)
          rw [this] at hj; simp at hj
      · exact .inr hm
  · intro e he
    rcases List.mem_append.1 he with he | he
    · have hm : e.1 ∈ idsM (mm i) := List.mem_map.2 ⟨e, he, rfl⟩
      rw [(e1 _ hm).1, (e1 _ hm).2]
      exact Box.at_congr (fun j hj => (e1 j (hcl i e he j hj)).1) (hat1 e he)
    · have hm : e.1 ∈ idsM rest := List.mem_map.2 ⟨e, he, rfl⟩
      rw [(e2 _ (hrest _ hm)).1, (e2 _ (hrest _ hm)).2]
      refine Box.at_congr (fun j hj => keep j ?_) (hat e (by simp [he]))
      by_cases hj2 : j ∈ idsM (mm i)
      · by_cases ej : j = root
        · exact .inl ej
        · exact absurd hj ((hsep i j hj2 ej).2 e he)
      · exact .inr hj2
  · have hfr : ∀ j ∈ idsM (mm i), ∀ b o, fr1 j b = some o → fr root b = some o := fun j hj b o h => (hf1 b o).2 ⟨j, hj, h⟩
    have hin : ∀ j ∈ idsM (mm i ++ rest), j ∈ idsM (mm i) ∨ j ∈ idsM rest := fun j hj => by
      simp only [idsM, List.map_append, List.mem_append] at hj; exact hj
    refine hok.reshape ?_ ?_
    · intro j hj b o hb
      rcases hin j hj with h | h
      · rw [(e1 j h).2] at hb
        exact ⟨root, by simp [idsM], hfr j h b o hb⟩
      · rw [(e2 j (hrest j h)).2] at hb
        exact ⟨j, by simp only [idsM, List.map_cons, List.mem_cons]; exact .inr h, hb⟩
    · have cross : ∀ j ∈ idsM (mm i), ∀ l ∈ idsM rest, ∀ b, fr1 j b ≠ none → fr l b = none := by
        intro j hj l hl b hb
        obtain ⟨o, ho⟩ := Option.ne_none_iff_exists'.1 hb
        have hne : root ≠ l := by rintro rfl; exact hnd.1 hl
        exact hok.ff root (by simp [idsM]) l (by simp only [idsM, List.map_cons, List.mem_cons]; exact .inr hl) hne b (by simp [hfr j hj b o ho])
      intro j hj l hl hjl b hb
      rcases hin j hj with h | h <;> rcases hin l hl with h' | h'
      · rw [(e1 j h).2] at hb; rw [(e1 l h').2]; exact hdis1 j h l h' hjl b hb
      · rw [(e1 j h).2] at hb; rw [(e2 l (hrest l h')).2]; exact cross j h l h' b hb
      · rw [(e2 j (hrest j h)).2] at hb; rw [(e1 l h').2]
        cases hx : fr1 l b with
        | none => rfl
        | some x => exact absurd (cross l h' j h b (by simp [hx])) hb
      · rw [(e2 j (hrest j h)).2] at hb; rw [(e2 l (hrest l h')).2]
        exact hok.ff j (by simp only [idsM, List.map_cons, List.mem_cons]; exact .inr h) l (by simp only [idsM, List.map_cons, List.mem_cons]; exact .inr h') hjl b hb
theorem closes_parts {σ : Type} {ι : Type 1} {ok : σ → ι → Prop} {mm : ι → List (Nat × Box)} {root : Nat} {D : σ} {rest : List (Nat × Box)} (i : ι) (ρ : Nat → Nat) (hok : ok D i) (hρ : ρ root = root) (hr : root ∈ idsM (mm i)) (hn : (idsM (mm i)).Nodup)
    (hinj : ∀ a ∈ idsM (mm i), ∀ b ∈ idsM (mm i), ρ a = ρ b → a = b) : Closes (renM ρ (mm i) ++ rest) ((root, .obj (partsO ok mm root) D) :: rest) := by
  intro R G γ w _ ⟨fr, hnd, hp, hat, hok'⟩
  refine ⟨γ, fun _ _ => rfl, ?_⟩
  classical
  have hids : idsM (renM ρ (mm i) ++ rest) = (idsM (mm i)).map ρ ++ idsM rest := by
    simp only [idsM, List.map_append]
    congr 1
    exact renM_ids (mm i)
  rw [hids] at hnd hok'
  simp only [List.nodup_append] at hnd
  obtain ⟨hn1, hn2, hn3⟩ := hnd
  have hroot : root ∈ (idsM (mm i)).map ρ := List.mem_map.2 ⟨root, hr, hρ⟩
  have hin : ∀ j ∈ idsM (mm i), ρ j ∈ (idsM (mm i)).map ρ ++ idsM rest := fun j hj => List.mem_append.2 (.inl (List.mem_map.2 ⟨j, hj, rfl⟩))
  let f : Hp := fun b => if h : ∃ j ∈ idsM (mm i), fr (ρ j) b ≠ none then fr (ρ (Classical.choose h)) b else none
  have hf : ∀ b o, f b = some o ↔ ∃ j ∈ idsM (mm i), fr (ρ j) b = some o := by
    intro b o
    simp only [f]
    by_cases h : ∃ j ∈ idsM (mm i), fr (ρ j) b ≠ none
    · rw [dif_pos h]
      obtain ⟨h1, h2⟩ := Classical.choose_spec h
      constructor
      · intro h3; exact ⟨_, h1, h3⟩
      · rintro ⟨j, hj, h3⟩
        by_cases e : ρ (Classical.choose h) = ρ j
        · rw [e]; exact h3
        · have := hok'.ff _ (hin _ h1) _ (hin j hj) e b h2
          rw [h3] at this; simp at this
    · rw [dif_neg h]
      constructor
      · intro h3; simp at h3
      · rintro ⟨j, hj, h3⟩
        exact absurd ⟨j, hj, by simp [h3]⟩ h
  have hrr : root ∉ idsM rest := fun h => hn3 root hroot root h rfl
  refine ⟨updF fr root f, ?_, hp, ?_, ?_⟩
  · simp only [idsM, List.map_cons, List.nodup_cons]
    exact ⟨hrr, hn2⟩
  · intro e he
    rcases List.mem_cons.1 he with rfl | he
    · rw [updF_same]
      refine ⟨i, fun j => γ (ρ j), fun j => fr (ρ j), hok, by simp only [hρ], hn, hr, ?_, ?_, hf⟩
      · intro e he
        have hmem : (ρ e.1, e.2.ren ρ) ∈ renM ρ (mm i) ++ rest := by
          refine List.mem_append.2 (.inl ?_)
          have gen : ∀ (mem : List (Nat × Box)), e ∈ mem → (ρ e.1, e.2.ren ρ) ∈ renM ρ mem := by
            intro mem
            induction mem with
            | nil => intro h; simp at h
            | cons x r ih =>
              intro h
              rcases List.mem_cons.1 h with rfl | h
              · exact List.mem_cons.2 (.inl rfl)
              · exact List.mem_cons.2 (.inr (ih h))
          exact gen (mm i) he
        exact Box.ren_at.1 (hat _ hmem)
      · intro a ha b hb hab c hc
        exact hok'.ff _ (hin a ha) _ (hin b hb) (fun e => hab (hinj a ha b hb e)) c hc
    · have hm : e.1 ∈ idsM rest := List.mem_map.2 ⟨e, he, rfl⟩
      have : e.1 ≠ root := fun h => hrr (h ▸ hm)
      rw [updF_ne this]
      exact hat e (List.mem_append.2 (.inr he))
  · refine hok'.reshape ?_ ?_
    · intro j hj b o hb
      simp only [idsM, List.map_cons, List.mem_cons] at hj
      by_cases e : j = root
      · subst e
        rw [updF_same] at hb
        obtain ⟨l, hl, h⟩ := (hf b o).1 hb
        exact ⟨ρ l, hin l hl, h⟩
      · rw [updF_ne e] at hb
        exact ⟨j, List.mem_append.2 (.inr (hj.resolve_left e)), hb⟩
    · have cross : ∀ l ∈ idsM rest, ∀ b, f b ≠ none → fr l b = none := by
        intro l hl b hb
        obtain ⟨o, ho⟩ := Option.ne_none_iff_exists'.1 hb
        obtain ⟨j, hj, h⟩ := (hf b o).1 ho
        exact hok'.ff _ (hin j hj) l (List.mem_append.2 (.inr hl)) (hn3 _ (List.mem_map.2 ⟨j, hj, rfl⟩) l hl) b (by simp [h])
      intro j hj l hl hjl b hb
      simp only [idsM, List.map_cons, List.mem_cons] at hj hl
      by_cases e : j = root
      · subst e
        rw [updF_same] at hb
        rw [updF_ne (Ne.symm hjl)]
        exact cross l (hl.resolve_left (Ne.symm hjl)) b hb
      · rw [updF_ne e] at hb
        by_cases e' : l = root
        · subst e'
          rw [updF_same]
          cases hx : f b with
          | none => rfl
          | some x => exact absurd (cross j (hj.resolve_left e) b (by simp [hx])) hb
        · rw [updF_ne e']
          exact hok'.ff j (List.mem_append.2 (.inr (hj.resolve_left e))) l (List.mem_append.2 (.inr (hl.resolve_left e'))) hjl b hb
end Go.Proofs.Ytnmjcdlgfimnaaa
namespace Go.Proofs.Ytnmjcdlgfimnaaa
def LV.isData : LV → Bool
  | .int _ _ => true
  | .bool _ => true
  | .str _ => true
  | .dat _ _ => true
  | .nils => true
  | .emps => true
  | .nilp => true
  | _ => false
theorem LV.ren_data {x : LV} (h : x.isData = true) (ρ : Nat → Nat) : x.ren ρ = x := by
  cases x <;> first | rfl | (simp [LV.isData] at h)
theorem LV.ids_data {x : LV} (h : x.isData = true) : x.ids = [] := by
  cases x <;> first | rfl | (simp [LV.isData] at h)
theorem data_noIds {l : List LV} (h : l.all LV.isData = true) : noIds l = true := by
  simp only [noIds, List.all_eq_true, List.isEmpty_iff] at h ⊢
  intro x hx
  exact LV.ids_data (h x hx)
theorem map_ren_data {l : List LV} (h : l.all LV.isData = true) (ρ : Nat → Nat) : (l.map SV.l).map (SV.ren ρ) = l.map SV.l := by
  simp only [List.all_eq_true] at h
  rw [List.map_map]
  apply List.map_congr_left
  intro x hx
  show SV.l (x.ren ρ) = SV.l x
  rw [LV.ren_data (h x hx)]
theorem tvL_ren {l : List LV} (h : l.all LV.isData = true) (ρ : Nat → Nat) : (tvL l).ren ρ = tvL l := by
  unfold tvL
  split
  · rename_i r
    simp only [List.all_cons, List.all_nil, Bool.and_true] at h
    show TV.one (SV.l (r.ren ρ)) = _
    rw [LV.ren_data h]
  · show TV.tup _ = _
    rw [map_ren_data h]
theorem Rep.leaf_data : {α : Type} → (A : Rep α) → (x : α) → (A.leaf x).isData = true
  | _, .int _, _ => rfl
  | _, .bool, _ => rfl
  | _, .str, _ => rfl
  | _, .unit, _ => rfl
  | _, .pair _ _, _ => rfl
  | _, .arr _ _, _ => rfl
  | _, .slice _, _ => rfl
  | _, .iso A to of h h', y => by
    unfold Rep.leaf
    cases A.scalar
    · rfl
    · exact A.leaf_data (to y)
theorem Rep.argL_data : {α : Type} → (A : Rep α) → (x : α) → (A.argL x).all LV.isData = true
  | _, .pair A B, x => by
    have := B.argL_data x.2
    simp only [argL, List.all_cons, Bool.and_eq_true, A.leaf_data, this, true_and]
  | _, .int _, _ => rfl
  | _, .bool, _ => rfl
  | _, .str, _ => rfl
  | _, .unit, _ => rfl
  | _, .arr _ _, _ => rfl
  | _, .slice _, _ => rfl
  | _, .iso _ _ _ _ _, _ => rfl
def con1 {σ α : Type} (O : σ → ObjP) (A : Rep α) (pre : σ → α → Prop) (r : σ → α → List LV) (u : σ → α → σ) (as : List SV) (_ : Nat) (s : SymSt) (K : KT) : Prop := match as with
  | .l (.ptr id [] 0) :: rest => vFrz2 (ownsV rest) s rest fun s' rest' => (match getM s'.mem id with
    | some (@Box.obj τ O' D) => ∃ h : τ = σ, HEq O' O ∧ asArgs A rest' fun x => pre (cast h D) x ∧ K (tvL (r (cast h D) x)) ⟨s'.sl, (id, .obj O (u (cast h D) x)) :: rmM s'.mem id, s'.pins⟩
    | _ => False)
  | _ => False
theorem con1_ok {P : Program} {f : FuncId} {σ α : Type} {O : σ → ObjP} {A : Rep α} {pre : σ → α → Prop} {r : σ → α → List LV} {u : σ → α → σ} (hi : IsFn P f)
    (h : ∀ D x, pre D x → Spec P f (.l (.ptr 1 [] 0) :: (A.argL x).map .l) [(1, .obj O D)] (tvL (r D x)) [(1, .obj O (u D x))]) (hr : ∀ D x, (r D x).all LV.isData = true)
    (as : List SV) (d : Nat) (s : SymSt) (K : KT) (hc : con1 O A pre r u as d s K) : Wc P f as s K := by
  refine ⟨hi, ?_⟩
  intro R G γ a w vs hs hv
  unfold con1 at hc
  split at hc
  · rename_i id rest
    obtain ⟨v0, vs0, rfl, hv0, hvr⟩ := hv
    obtain ⟨G1, s1, as1, hg1, hc, hs1, hv1⟩ := vFrz2_spec hc hs hvr
    split at hc
    · rename_i τ O' D hg
      obtain ⟨e, hO, hc⟩ := hc
      subst e
      have hO := eq_of_heq hO
      subst hO
      simp only [cast_eq] at hc
      obtain ⟨x, ⟨hpre, hK⟩, hx⟩ := asArgs_rel A hc hv1
      have hsp := h D x hpre
      have hv0' : (SV.l (.ptr id [] 0)).rel G1 γ v0 := SV.rel_mono hg1 hv0
      have hw : Wc P f (.l (.ptr id [] 0) :: (A.argL x).map .l) s1 K := by
        refine Wc_spec hsp (fun _ => id) [] (by simp [idsM]) (by simp [idsM]) (by simp [idsM]) (by simp [idsM]) (by simp) ?_ ?_ ?_ ?_ ?_
        · intro i hi
          rw [tvL_ids (data_noIds (hr D x))] at hi
          simp at hi
        · intro e he i hi
          simp only [List.mem_singleton] at he
          subst he
          simp [Box.ids] at hi
        · intro e he
          simp only [List.mem_singleton] at he
          subst he
          exact hg
        · intro G γ us hu
          simp only [List.map_cons]
          rw [map_ren_data (A.argL_data x)]
          exact hu
        · rw [tvL_ren (hr D x)]
          exact hK
      refine (hw.2 R G1 γ a w _ hs1 ⟨v0, vs0, rfl, hv0', hx⟩).mono ?_
      rintro e w' ⟨v, rfl, G2, γ2, tv, s2, hg2, hK2, hrel, hs2⟩
      exact ⟨v, rfl, G2, γ2, tv, s2, Hp.le_trans hg1 hg2, hK2, hrel, hs2⟩
    · exact hc.elim
  · exact hc.elim
end Go.Proofs.Ytnmjcdlgfimnaaa
