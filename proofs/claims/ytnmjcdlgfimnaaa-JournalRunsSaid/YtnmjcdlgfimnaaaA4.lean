/- Regions, code and whole functions on symbolic states. -/
import Derived.Test.YtnmjcdlgfimnaaaA3
import Derived.OrdersHeld
import Derived.ScopeJumps
namespace Go.Proofs.Ytnmjcdlgfimnaaa
def Qhp (C : Ctx) (o : Oper) (s : Qan) (K : KT) : Prop := match o.op with
 | .move x => K (evT s x) s
 | .assign x => K (evT s x) s
 | .pick c a b => Qs8 s c a b K
 | .load t x => Qor C s t x K
 | .nilCheck x => Qgk s x K
 | .fieldAddr t x f => Qfw C s t x f K
 | .field t x f => Qp9 C s t x f K
 | .indexAddr t x i => Qfx C s t x i K
 | .index t x i => Qpr C s t x i K
 | .extract x n => Qix s x n K
 | .binOp op t x y _ => Qsz C s op t x y K
 | .unOp op _ x => vUn s op x K
 | .convert a b x => Qgy C s a b x K
 | .build t parts => Qp1 C s t parts.toList K
 | .slice t x lo hi mx => Qlu C s t x lo hi mx K
 | .makeFunc f first cap => Qg4 s f first.toList cap.toList K
 | .sliceToArrayPointer t x => Qiu C s t x K
 | .call c => (match c.callee, c.args.toList, c.argTypes.toList with
  | .builtin .len, [x], [t] => Qsy C s t x K
  | .builtin .min, xs, _ => Qjm s false xs K
  | .builtin .max, xs, _ => Qjm s true xs K
  | _, _, _ => False)
 | _ => False
theorem Qel {C : Ctx} {o : Oper} {s : Qan} {K : KT} (h : Qhp C o s K) : Qda C.P o s K := by
 unfold Qhp at h
 split at h
 case h_1 ho => exact Qun (.inl ho) h
 case h_2 ho => exact Qun (.inr ho) h
 case h_3 ho => exact Qw6 ho h
 case h_4 ho => exact Qwr ho h
 case h_5 ho => exact Qqv ho h
 case h_6 ho => exact Qpd ho h
 case h_7 ho => exact Qu4 ho h
 case h_8 ho => exact Qpa ho h
 case h_9 ho => exact Qu6 ho h
 case h_10 ho => exact Qsl ho h
 case h_11 ho => exact Qwx ho h
 case h_12 ho => exact Q00 ho h
 case h_13 ho => exact Qqf ho h
 case h_14 ho => exact Qv0 ho h
 case h_15 ho => exact Qs9 ho h
 case h_16 ho => exact Qq5 ho h
 case h_17 ho => exact Qso ho h
 case h_18 c ho =>
  split at h
  ·rename_i x t h1 h2 h3; exact Qwg ho h1 h2 h3 h
  ·rename_i xs ts h1; exact Qp0 (mx := false) ho h1 h
  ·rename_i xs ts h1; exact Qp0 (mx := true) ho h1 h
  ·exact h.elim
 case h_19 => exact h.elim
def Qfl (E : Env) (o : Oper) (s : Qan) (K : KT) : Prop := match o.op with
 | .alloc t => Qpv E.toCtx (Qdq o) s t K
 | .box _ x => Qy9 (Qdq o) s x K
 | .store t x y => Qpt E.toCtx s t x y K
 | .buildSlice t n parts => Qe7 E.toCtx (Qdq o) s t n parts.toList K
 | .makeSlice t l c => Qfq E.toCtx (Qdq o) s t l c K
 | .lookup t x i false => Qlh E.toCtx s t x i K
 | .mapUpdate t m k v => Qfr E.toCtx s t m k v K
 | .makeMap t none => Qi1 E.toCtx (Qdq o) s t K
 | .convert a b x => (match ev s x, Qem E.toCtx b with
  | .l (.own id), .slice _ => Qr6 E.toCtx s a b id K
  | _, _ => Qhp E.toCtx o s K)
 | .call c => (match c.callee, c.args.toList, c.argTypes.toList with
  | .value f, xs, _ => Qtb E (Qdq o) s f xs K
  | .builtin .append, [x, y], [t, xt] => Qit E.toCtx (Qdq o) s t xt x y K
  | .builtin .copy, [x, y], [t, _] => Qs3 E.toCtx s t x y K
  | _, _, _ => Qhp E.toCtx o s K)
 | _ => Qhp E.toCtx o s K
theorem Qgb {E : Env} {o : Oper} {s : Qan} {K : KT} (h : Qfl E o s K) : Qet E.P o s K := by
 unfold Qfl at h
 split at h
 case h_1 ho => exact Qox ho h
 case h_2 ho => exact Qrp ho h
 case h_3 ho => exact Qo3 ho h
 case h_4 ho => exact Qh9 ho h
 case h_5 ho => exact Qju ho h
 case h_6 ho => exact Qmu ho h
 case h_7 ho => exact Qj7 ho h
 case h_8 ho => exact Qme ho h
 case h_9 a b x ho =>
  split at h
  ·rename_i id e he hd; exact Qoy ho he h
  ·exact (Qel h).sound
 case h_10 c ho =>
  obtain ⟨callee, args, ts⟩ := c
  split at h
  ·rename_i f xs us h1
   simp only at h1
   subst h1
   exact Qqi ho h
  ·rename_i x y t xt h1 h2 h3; exact Qma ho h1 h2 h3 h
  ·rename_i x y t xt h1 h2 h3; exact Qqy ho h1 h2 h3 h
  ·exact (Qel h).sound
 case h_11 => exact (Qel h).sound
def Qan.putO (s : Qan) (d : Option Nat) (v : TV) : Qan := match d with
 | some d => s.put d v
 | none => s
def Qb3 (E : Env) (ops : List Oper) : List Oper → Qan → (Qan → Prop) → Prop
 | [], s, K => K s
 | o :: r, s, K => match o.guard with
  | none => Qfl E o s fun tv s' => Qb3 E ops r (s'.putO o.dst tv) K
  | some (j, want) => match (ops[j]?).bind (·.dst) with
   | none => False
   | some d => match Qd7 s.sl d with
    | .one (.l (.bool b)) => (b = want → Qfl E o (s.put d (.one (.l (.bool want)))) fun tv s' => Qb3 E ops r (s'.putO o.dst tv) K) ∧
        (b = !want → Qb3 E ops r ((s.put d (.one (.l (.bool (!want))))).putO o.dst (.tup [])) K)
    | .tup [] => Qb3 E ops r (s.putO o.dst (.tup [])) K
    | _ => False
theorem Qc4.put {R : Fr} {G : Hp} {γ : Nat → Value} {s : Qan} {a : Act} {w : World} (h : Qc4 R G γ s a w) {d : Nat} (hd : d < a.tmps.size) {tv : TV} {v : Value} (hv : tv.rel G γ v) :
    Qc4 R G γ (s.put d tv) { a with tmps := a.tmps.setIfInBounds d v } w := by
 refine ⟨?_, h.mem, h.df, h.pn⟩
 intro i
 rw [Qqe]
 by_cases e : d = i
 ·subst e
  simp [hd, hv]
 ·simp only [if_neg e]
  have := h.sl i
  simpa [Array.getD_eq_getD_getElem?, Array.getElem?_setIfInBounds_ne e] using this
theorem Qc4.putO {R : Fr} {G : Hp} {γ : Nat → Value} {s : Qan} {a : Act} {w : World} (h : Qc4 R G γ s a w) {d : Option Nat} (hd : ∀ n, d = some n → n < a.tmps.size) {tv : TV} {v : Value} (hv : tv.rel G γ v) :
    Qc4 R G γ (s.putO d tv) (a.put d v) w := by
 cases d with
 | none => exact h
 | some d => exact h.put (hd d rfl) hv
theorem Qeo (a : Act) (d : Option Nat) (v : Value) : (a.put d v).tmps.size = a.tmps.size := by cases d <;> simp [Act.put]
def Qwi (R : Fr) (G : Hp) (n : Nat) (K : Qan → Prop) (a : Act) (w : World) : Prop := ∃ G' γ' s', Hp.le G G' ∧ K s' ∧ Qc4 R G' γ' s' a w ∧ a.tmps.size = n
theorem Qhu {P : Program} {o : Oper} {a : Act} {w : World} {K : Value → World → Prop} {next : Act → World → Prop} {Q : Exit → Act → World → Prop} (h : Qfy P a.eval o w K)
    (hk : ∀ v w', K v w' → next (a.put o.dst v) w') : o.wp P a w next Q := by
 unfold Qfy at h
 unfold Oper.wp
 split at h
 ·rename_i v w' hr
  rw [hr]; exact hk _ _ h
 ·rename_i w' hr
  rw [hr]; exact hk _ _ h
 ·rename_i f args w' hr
  rw [hr]
  refine h.mono ?_
  rintro e w'' ⟨v, rfl, hv⟩
  exact hk _ _ hv
 ·exact h.elim
theorem Qfg {G : Hp} {γ : Nat → Value} : (TV.tup []).rel G γ undef := ⟨[], rfl, rfl⟩
theorem Qe8 {E : Env} {n : Nat} {ops : Array Oper} {Q : Exit → Act → World → Prop} {R : Fr} : ∀ (l : List Nat) (r : List Oper) {s : Qan} {K : Qan → Prop} {G : Hp} {γ : Nat → Value} {a : Act} {w : World},
    l.map (ops[·]?) = r.map some → (∀ o ∈ r, ∀ d, o.dst = some d → d < n) → Qb3 E ops.toList r s K → Qc4 R G γ s a w → a.tmps.size = n →
    (∀ a' w', Qwi R G n K a' w' → Q .normal a' w') → wpOps E.P ops Q l a w
 | [], [], s, K, G, γ, a, w, _, _, h, hs, hn, hQ => hQ a w ⟨G, γ, s, Hp.le_refl G, h, hs, hn⟩
 | [], _ :: _, _, _, _, _, _, _, hl, _, _, _, _, _ => by simp at hl
 | _ :: _, [], _, _, _, _, _, _, hl, _, _, _, _, _ => by simp at hl
 | i :: l, o :: r, s, K, G, γ, a, w, hl, hd, h, hs, hn, hQ => by
  simp only [List.map_cons, List.cons.injEq] at hl
  obtain ⟨hi, hl⟩ := hl
  have hd' : ∀ o ∈ r, ∀ d, o.dst = some d → d < n := fun o' ho' => hd o' (by simp [ho'])
  have hdo : ∀ d, o.dst = some d → d < a.tmps.size := fun d h => hn ▸ hd o (by simp) d h
  have go : ∀ {s' : Qan} {K' : Qan → Prop}, Qc4 R G γ s' a w → Qfl E o s' (fun tv s' => Qb3 E ops.toList r (s'.putO o.dst tv) K) → o.wp E.P a w (wpOps E.P ops Q l) Q := by
   intro s' K' hs' hv
   refine Qhu (Qgb hv R G γ a w hs') ?_
   rintro v w' ⟨G', γ', tv, s'', hg, hK, hrel, hs''⟩
   refine Qe8 l r hl hd' hK (hs''.putO hdo hrel) (by rw [Qeo]; exact hn) ?_
   rintro a' w'' ⟨G2, γ2, s2, hg2, h2, h3, h4⟩
   exact hQ a' w'' ⟨G2, γ2, s2, Hp.le_trans hg hg2, h2, h3, h4⟩
  simp only [wpOps, hi]
  unfold Qb3 at h
  split at h
  ·rename_i hg
   have hw : Region.wanted o (yielded ops a.tmps) = true := by simp [Region.wanted, hg]
   rw [if_pos hw]
   exact .inl (go (K' := K) hs h)
  ·rename_i j want hg
   split at h
   ·exact h.elim
   ·rename_i d hdj
    have hdj' : (ops[j]?).bind (·.dst) = some d := by simpa using hdj
    have hy : ∀ b, a.tmps.getD d undef = .bool b → yielded ops a.tmps j = some b := by
     intro b hb
     unfold yielded
     rw [hdj']
     simp only [Option.bind_some]
     rw [Array.getD_eq_getD_getElem?] at hb
     cases hx : a.tmps[d]? with
     | none => rw [hx] at hb; simp [undef] at hb
     | some v => rw [hx] at hb; simp only [Option.getD_some] at hb; rw [hb]
    have hrel := hs.sl d
    split at h
    ·rename_i b hb
     rw [hb] at hrel
     have hv : a.tmps.getD d undef = .bool b := by simpa [TV.rel, SV.rel, LV.relV, LV.rel] using hrel
     by_cases e : b = want
     ·have hw : Region.wanted o (yielded ops a.tmps) = true := by simp [Region.wanted, hg, hy b hv, e]
      rw [if_pos hw]
      refine .inl (go (K' := K) (hs.know (d := d) (tv := .one (.l (.bool want))) ?_) (h.1 e))
      rw [hv, e]; rfl
     ·have hw : Region.wanted o (yielded ops a.tmps) = false := by simp [Region.wanted, hg, hy b hv, e]
      rw [hw]
      simp only [Bool.false_eq_true, if_false]
      have e' : b = !want := by cases b <;> cases want <;> simp_all
      refine Qe8 l r hl hd' (h.2 e') ((hs.know (d := d) (tv := .one (.l (.bool (!want)))) (by rw [hv, e']; rfl)).putO hdo Qfg) (by rw [Qeo]; exact hn) hQ
    ·rename_i hb
     rw [hb] at hrel
     obtain ⟨vs, hvs, hv⟩ := hrel
     simp only [Qcv] at hvs
     subst hvs
     have hyn : yielded ops a.tmps j = none := by
      unfold yielded
      rw [hdj']
      simp only [Option.bind_some]
      rw [Array.getD_eq_getD_getElem?] at hv
      cases hx : a.tmps[d]? with
      | none => rfl
      | some v => rw [hx] at hv; simp only [Option.getD_some] at hv; rw [hv]
     have hw : Region.wanted o (yielded ops a.tmps) = false := by simp [Region.wanted, hg, hyn]
     rw [hw]
     simp only [Bool.false_eq_true, if_false]
     exact Qe8 l r hl hd' h (hs.putO hdo Qfg) (by rw [Qeo]; exact hn) hQ
    ·exact h.elim
end Go.Proofs.Ytnmjcdlgfimnaaa
namespace Go.Proofs.Ytnmjcdlgfimnaaa
section
variable {P : Program} {ops : Array Oper} {Q : Exit → Act → World → Prop} {S : World → Prop} {T : Array Bool → World → Prop}
def Qeu (P : Program) (ops : Array Oper) (Q : Exit → Act → World → Prop) (T : Array Bool → World → Prop) : Nat → Array Bool → Act → World → Prop
 | 0, listed, a, w => Region.ready .any ops listed = [] ∧ Q .normal a w
 | fuel + 1, listed, a, w =>
  (Region.ready .any ops listed = [] → Q .normal a w) ∧
  ∀ i ∈ Region.ready .any ops listed, wpOp P ops Q i (fun a' w' => T (listed.setIfInBounds i true) w' ∧ Qeu P ops Q T fuel (listed.setIfInBounds i true) a' w') a w
theorem Qk6 : ∀ (fuel : Nat) (listed : Array Bool) (a : Act) (w : World), Qeu P ops Q T fuel listed a w → wpAny P .any ops Q fuel listed a w
 | 0, _, _, _, h => h
 | fuel + 1, _, _, _, h => ⟨h.1, fun i hi => wpOp_mono (fun a' w' h' => Qk6 fuel _ a' w' h'.2) (h.2 i hi)⟩
def Qqo (ops : Array Oper) (listed : Array Bool) : Prop := ∀ j, listed.getD j false = true → ∀ oj, ops[j]? = some oj → ∀ e ∈ oj.after, Region.binds .any e = true → listed.getD e.on false = true
theorem Qqo.set {listed : Array Bool} (h : Qqo ops listed) {i : Nat} (hi : i ∈ Region.ready .any ops listed) : Qqo ops (listed.setIfInBounds i true) := by
 intro j hj oj hoj e he hb
 by_cases hij : i = j
 ·subst hij
  obtain ⟨_, o, ho, hall⟩ := mem_ready.1 hi
  rw [ho] at hoj
  simp only [Option.some.injEq] at hoj
  subst hoj
  exact getD_set_true (hall e he hb)
 ·rw [getD_set_ne false hij] at hj
  exact getD_set_true (h j hj oj hoj e he hb)
theorem Qf1 {listed : Array Bool} {i : Nat} (h : listed.getD i true = false) : listed.getD i false = false := by
 rcases Nat.lt_or_ge i listed.size with h' | h'
 ·simpa [h'] using h
 ·simp [Array.getElem?_eq_none h']
theorem Qh4 {i : Nat} {oi : Oper} {v : Value} (hi : ops[i]? = some oi) (hsel : ∀ (j : Nat) (o : Oper) cs b, ops[j]? = some o → o.op ≠ .select cs b)
    (hQ : ∀ c a w, Q (.panic c) (a.put oi.dst v) w → Q (.panic c) a w) (hT : ∀ (listed : Array Bool) (j : Nat) (w : World), T ((listed.setIfInBounds i true).setIfInBounds j true) w → T (listed.setIfInBounds j true) w)
    (hS : ∀ (listed : Array Bool) (j : Nat) (w : World), Qqo ops listed → listed.getD i true = false → j ∈ Region.ready .any ops listed → T ((listed.setIfInBounds i true).setIfInBounds j true) w → S w) :
    ∀ (fuel : Nat) (listed : Array Bool) (a : Act) (w : World), Qqo ops listed →
     (∀ j oj, ops[j]? = some oj → j ≠ i → listed.getD j true = false → (∀ e ∈ oj.after, Region.binds .any e = true → e.on ≠ i) → oi.apart ops oj = true) →
     i ∈ Region.ready .any ops listed → YieldsIf P ops S oi v a → S w → T (listed.setIfInBounds i true) w →
     Qeu P ops Q T fuel (listed.setIfInBounds i true) (a.put oi.dst v) w → Qeu P ops Q T (fuel + 1) listed a w := by
 intro fuel
 induction fuel with
 | zero =>
  intro listed a w _ _ hr hy hSw hTw H
  refine ⟨fun h => (by rw [h] at hr; cases hr), fun j hj => ?_⟩
  by_cases hji : j = i
  ·subst hji; exact hy.wpOp hi hSw ⟨hTw, H⟩
  ·have := ready_mono hj hji
   rw [H.1] at this
   cases this
 | succ fuel ih =>
  intro listed a w hd hfree hr hy hSw hTw H
  refine ⟨fun h => (by rw [h] at hr; cases hr), fun j hj => ?_⟩
  by_cases hji : j = i
  ·subst hji; exact hy.wpOp hi hSw ⟨hTw, H⟩
  ·have h1 := H.2 j (ready_mono hj hji)
   obtain ⟨hjun, oj, hoj, hall⟩ := mem_ready.1 hj
   have hiun := (mem_ready.1 hr).1
   have hnot : ∀ e ∈ oj.after, Region.binds .any e = true → e.on ≠ i := fun e he hb heq => by
    have h1 := hall e he hb
    rw [heq, Qf1 hiun] at h1
    cases h1
   have h2 := wpOp_putIf hoj (hfree j oj hoj hji hjun hnot) (fun cs b => hsel i oi cs b hi) (fun cs b => hsel j oj cs b hoj) hQ hy h1
   have hfree' : ∀ k ok, ops[k]? = some ok → k ≠ i → (listed.setIfInBounds j true).getD k true = false →
       (∀ e ∈ ok.after, Region.binds .any e = true → e.on ≠ i) → oi.apart ops ok = true := fun k ok hk hki hun hno => by
    refine hfree k ok hk hki ?_ hno
    by_cases hjk : j = k
    ·subst hjk; exact hjun
    ·rw [getD_set_ne true hjk] at hun; exact hun
   refine wpOp_mono (fun a' w' h3 => ⟨hT _ _ _ h3.2.1, ?_⟩) h2
   refine ih (listed.setIfInBounds j true) a' w' (hd.set hj) hfree' (ready_mono hr (Ne.symm hji)) h3.1 (hS listed j w' hd hiun hj h3.2.1) ?_ ?_
   ·rw [Array.setIfInBounds_comm _ _ hji]; exact h3.2.1
   ·rw [Array.setIfInBounds_comm _ _ hji]; exact h3.2.2
def Qms (ops : Array Oper) : Nat → Nat → Nat → Bool
 | 0, _, _ => false
 | n + 1, j, i => match ops[j]? with
  | some o => o.after.toList.any fun e => Region.binds .any e && (e.on == i || Qms ops n e.on i)
  | none => false
theorem Qgs {listed : Array Bool} (hd : Qqo ops listed) {i : Nat} : ∀ {n j : Nat}, Qms ops n j i = true → (∀ oj, ops[j]? = some oj → ∀ e ∈ oj.after, Region.binds .any e = true → listed.getD e.on false = true) → listed.getD i false = true
 | 0, _, h, _ => by simp [Qms] at h
 | n + 1, j, h, hall => by
  unfold Qms at h
  cases ho : ops[j]? with
  | none => rw [ho] at h; simp at h
  | some o =>
   rw [ho] at h
   simp only [List.any_eq_true, Bool.and_eq_true, Bool.or_eq_true, beq_iff_eq] at h
   obtain ⟨e, he, hb, hor⟩ := h
   have hl := hall o ho e (by simpa using he) hb
   rcases hor with rfl | hor
   ·exact hl
   ·exact Qgs hd hor fun oj hoj e' he' hb' => hd _ hl oj hoj e' he' hb'
def Qdr (late : List Nat) (listed : Array Bool) : Bool := late.all fun j => !listed.getD j false
theorem Qgl {late : List Nat} {listed : Array Bool} {i : Nat} (hi : i ∉ late) : Qdr late (listed.setIfInBounds i true) = Qdr late listed := by
 unfold Qdr
 rw [Bool.eq_iff_iff]
 simp only [List.all_eq_true]
 constructor
 ·intro h j hj
  have := h j hj
  rwa [getD_set_ne false (show i ≠ j from fun e => hi (e ▸ hj))] at this
 ·intro h j hj
  rw [getD_set_ne false (show i ≠ j from fun e => hi (e ▸ hj))]
  exact h j hj
theorem Qqj {late : List Nat} {listed : Array Bool} {i : Nat} (h : Qdr late (listed.setIfInBounds i true) = true) : Qdr late listed = true := by
 unfold Qdr at *
 simp only [List.all_eq_true, Bool.not_eq_true'] at *
 intro j hj
 have := h j hj
 cases hx : listed.getD j false with
 | false => rfl
 | true => rw [getD_set_true hx] at this; cases this
end
end Go.Proofs.Ytnmjcdlgfimnaaa
namespace Go.Proofs.Ytnmjcdlgfimnaaa
def Qjb (Q : List Nat) : List (Nat × Box) → List (Nat × Box)
 | [] => []
 | (i, b) :: r => bif Q.contains i then Qjb Q r else (i, b) :: Qjb Q r
def Qcy (Q : List Nat) : List (Nat × Box) → List (Nat × Box)
 | [] => []
 | (i, b) :: r => bif Q.contains i then (i, b) :: Qcy Q r else Qcy Q r
def Qmr : List (Nat × Box) → List Nat
 | [] => []
 | (_, b) :: r => b.ids ++ Qmr r
def Qan.hide (s : Qan) (Q : List Nat) : Qan := ⟨s.sl, Qjb Q s.mem, s.pins ++ (Q ++ Qmr (Qcy Q s.mem))⟩
def Qgx (Q : List Nat) : List (Nat × Box) → Bool
 | [] => true
 | (i, _) :: r => !Q.contains i && Qgx Q r
def Qan.unhide (s' s : Qan) (Q : List Nat) : Qan := ⟨s'.sl, s'.mem ++ Qcy Q s.mem, s.pins⟩
theorem Qd9 {Q : List Nat} : ∀ {mem : List (Nat × Box)} {e : Nat × Box}, e ∈ Qjb Q mem → e ∈ mem ∧ e.1 ∉ Q
 | [], _, h => by simp [Qjb] at h
 | (i, b) :: r, e, h => by
  unfold Qjb at h
  cases hc : Q.contains i
  ·rw [hc, cond_false, List.mem_cons] at h
   rcases h with rfl | h
   ·exact ⟨by simp, by simpa using hc⟩
   ·exact ⟨by simp [(Qd9 h).1], (Qd9 h).2⟩
  ·rw [hc, cond_true] at h
   exact ⟨by simp [(Qd9 h).1], (Qd9 h).2⟩
theorem Qdk {Q : List Nat} : ∀ {mem : List (Nat × Box)} {e : Nat × Box}, e ∈ Qcy Q mem → e ∈ mem ∧ e.1 ∈ Q
 | [], _, h => by simp [Qcy] at h
 | (i, b) :: r, e, h => by
  unfold Qcy at h
  cases hc : Q.contains i
  ·rw [hc, cond_false] at h
   exact ⟨by simp [(Qdk h).1], (Qdk h).2⟩
  ·rw [hc, cond_true, List.mem_cons] at h
   rcases h with rfl | h
   ·exact ⟨by simp, by simpa using hc⟩
   ·exact ⟨by simp [(Qdk h).1], (Qdk h).2⟩
theorem Qf7 {Q : List Nat} : ∀ {mem : List (Nat × Box)}, (Qao mem).Nodup → (Qao (Qjb Q mem)).Nodup
 | [], h => h
 | (i, b) :: r, h => by
  simp only [Qao, List.map_cons, List.nodup_cons] at h
  unfold Qjb
  cases hc : Q.contains i
  ·simp only [cond_false, Qao, List.map_cons, List.nodup_cons]
   refine ⟨fun hm => h.1 ?_, Qf7 h.2⟩
   obtain ⟨e, he, rfl⟩ := List.mem_map.1 hm
   exact List.mem_map.2 ⟨_, (Qd9 he).1, rfl⟩
  ·exact Qf7 h.2
theorem Qe5 {Q : List Nat} : ∀ {mem : List (Nat × Box)}, (Qao mem).Nodup → (Qao (Qcy Q mem)).Nodup
 | [], h => h
 | (i, b) :: r, h => by
  simp only [Qao, List.map_cons, List.nodup_cons] at h
  unfold Qcy
  cases hc : Q.contains i
  ·exact Qe5 h.2
  ·simp only [cond_true, Qao, List.map_cons, List.nodup_cons]
   refine ⟨fun hm => h.1 ?_, Qe5 h.2⟩
   obtain ⟨e, he, rfl⟩ := List.mem_map.1 hm
   exact List.mem_map.2 ⟨_, (Qdk he).1, rfl⟩
theorem Qji {Q : List Nat} : ∀ {mem : List (Nat × Box)}, Qgx Q mem = true → ∀ i ∈ Qao mem, i ∉ Q
 | [], _, _, h => by simp [Qao] at h
 | (j, b) :: r, h, i, hi => by
  simp only [Qgx, Bool.and_eq_true, Bool.not_eq_true', List.contains_eq_mem, decide_eq_false_iff_not] at h
  simp only [Qao, List.map_cons, List.mem_cons] at hi
  rcases hi with rfl | hi
  ·exact h.1
  ·exact Qji h.2 i hi
theorem Qkw : ∀ {mem : List (Nat × Box)} {e : Nat × Box}, e ∈ mem → ∀ i ∈ e.2.ids, i ∈ Qmr mem
 | [], _, h, _, _ => by simp at h
 | (j, b) :: r, e, h, i, hi => by
  rcases List.mem_cons.1 h with rfl | h
  ·exact List.mem_append.2 (.inl hi)
  ·exact List.mem_append.2 (.inr (Qkw h i hi))
def Qxg (R : Fr) (G : Hp) (fr : Nat → Hp) (keep : List Nat) (pins : List Nat) (a : Act) (K : KT) (v : Value) (w' : World) : Prop :=
 ∃ G' γ' tv s2 fr', Hp.le G G' ∧ K tv s2 ∧ tv.rel G' γ' v ∧ Qb7 G' γ' s2.sl a.tmps ∧ Qf4 R G' γ' fr' s2.mem w' ∧ (∀ i ∈ keep, fr' i = fr i ∧ i ∈ Qao s2.mem) ∧ s2.pins = pins
theorem Qqx {P : Program} {ρ : Operand → Value} {o : Oper} {w : World} {K K' : Value → World → Prop} (h : Qfy P ρ o w K) (hk : ∀ v w', K v w' → K' v w') : Qfy P ρ o w K' := by
 unfold Qfy at *
 generalize (execOp ρ o).run P w = r at *
 cases r with
 | ok n w' =>
  cases n
  case value v => exact hk _ _ h
  case skip => exact hk _ _ h
  case enter f args => exact Calls.mono h fun e w'' ⟨v, e1, h⟩ => ⟨v, e1, hk _ _ h⟩
  all_goals exact h.elim
 | halt x w' => exact h.elim
theorem Qqq {P : Program} {o : Oper} {s : Qan} {Q : List Nat} {K : KT} (h : Qet P o (s.hide Q) fun tv s' => Qgx Q s'.mem = true ∧ K tv (s'.unhide s Q))
    {R : Fr} {G : Hp} {γ : Nat → Value} {fr : Nat → Hp} {a : Act} {w : World} (hs : Qb7 G γ s.sl a.tmps) (hm : Qf4 R G γ fr s.mem w) (hdf : a.defers = []) (hpn : ∀ i, R.pin i ≠ none → i ∈ s.pins) :
    Qfy P a.eval o w (Qxg R G fr (Qao (Qcy Q s.mem)) s.pins a K) := by
 classical
 let pn : List Nat := Q ++ Qmr (Qcy Q s.mem)
 let Rh : Hp := fun b => (R.hp b).or (if ∃ i ∈ Qao (Qcy Q s.mem), fr i b ≠ none then Qeh w b else none)
 let R' : Fr := ⟨Rh, R.os, R.out, fun i => if i ∈ pn then some (γ i) else R.pin i⟩
 have hkin : ∀ i ∈ Qao (Qcy Q s.mem), i ∈ Qao s.mem ∧ i ∈ Q := by
  intro i hi
  obtain ⟨e, he, rfl⟩ := List.mem_map.1 hi
  exact ⟨List.mem_map.2 ⟨_, (Qdk he).1, rfl⟩, (Qdk he).2⟩
 have hhin : ∀ i ∈ Qao (Qjb Q s.mem), i ∈ Qao s.mem ∧ i ∉ Q := by
  intro i hi
  obtain ⟨e, he, rfl⟩ := List.mem_map.1 hi
  exact ⟨List.mem_map.2 ⟨_, (Qd9 he).1, rfl⟩, (Qd9 he).2⟩
 have hRR : Hp.le R.hp Rh := fun b o hb => by simp [Rh, hb]
 have hRQ : ∀ i ∈ Qao (Qcy Q s.mem), Hp.le (fr i) Rh := by
  intro i hi b o hb
  have h1 : R.hp b = none := hm.ok.rf i (hkin i hi).1 b (by simp [hb])
  have h2 : ∃ i ∈ Qao (Qcy Q s.mem), fr i b ≠ none := ⟨i, hi, by simp [hb]⟩
  simp only [Rh, h1, Option.none_or, if_pos h2]
  exact hm.ok.f i (hkin i hi).1 b o hb
 have hRcase : ∀ b, Rh b ≠ none → R.hp b ≠ none ∨ ∃ i ∈ Qao (Qcy Q s.mem), fr i b ≠ none := by
  intro b hb
  by_cases h1 : R.hp b = none
  ·right
   simp only [Rh, h1, Option.none_or] at hb
   split at hb
   ·assumption
   ·simp at hb
  ·exact .inl h1
 have hnone : ∀ b, R.hp b = none → (∀ i ∈ Qao (Qcy Q s.mem), fr i b = none) → Rh b = none := by
  intro b h1 h2
  cases hr : Rh b with
  | none => rfl
  | some o =>
   rcases hRcase b (by simp [hr]) with h | ⟨i, hi, h⟩
   ·exact absurd h1 h
   ·exact absurd (h2 i hi) h
 have hmem : Qf4 R' G γ fr (Qjb Q s.mem) w := by
  refine ⟨Qf7 hm.nd, fun i v hi => ?_, fun e he => hm.at' e (Qd9 he).1, ⟨hm.ok.g, fun b o hb => ?_, fun b hb => ?_, fun i hi => hm.ok.f i (hhin i hi).1, fun i hi => hm.ok.gf i (hhin i hi).1, fun i hi b hb => ?_, fun i hi j hj => hm.ok.ff i (hhin i hi).1 j (hhin j hj).1, hm.ok.os, hm.ok.out⟩⟩
  ·simp only [R'] at hi
   split at hi
   ·simpa using hi
   ·exact hm.pin i v hi
  ·by_cases h1 : R.hp b = none
   ·have hb' : Rh b = some o := hb
    simp only [Rh, h1, Option.none_or] at hb'
    split at hb'
    ·exact hb'
    ·simp at hb'
   ·obtain ⟨x, hx⟩ := Option.ne_none_iff_exists'.1 h1
    have hb' : Rh b = some o := hb
    simp only [Rh, hx, Option.some_or, Option.some.injEq] at hb'
    subst hb'
    exact hm.ok.r b _ hx
  ·refine hnone b (hm.ok.gr b hb) fun i hi => ?_
   cases hf : fr i b with
   | none => rfl
   | some o => exact absurd (hm.ok.gf i (hkin i hi).1 b (by simp [hf])) hb
  ·exact hnone b (hm.ok.rf i (hhin i hi).1 b hb) fun j hj => hm.ok.ff i (hhin i hi).1 j (hkin j hj).1 (fun e => (hhin i hi).2 (e ▸ (hkin j hj).2)) b hb
 have hpn' : ∀ i, R'.pin i ≠ none → i ∈ (s.hide Q).pins := by
  intro i hi
  simp only [R'] at hi
  split at hi
  ·rename_i hin
   exact List.mem_append.2 (.inr hin)
  ·exact List.mem_append.2 (.inl (hpn i hi))
 refine Qqx (h R' G γ a w ⟨hs, ⟨fr, hmem⟩, hdf, hpn'⟩) ?_
 rintro v w' ⟨G', γ', tv, s', hg, ⟨hback, hK⟩, hrel, hs'⟩
 obtain ⟨fr1, hm1⟩ := hs'.mem
 have hdis : ∀ i ∈ Qao (Qcy Q s.mem), i ∉ Qao s'.mem := fun i hi hin => Qji hback i hin (hkin i hi).2
 have hγ : ∀ i ∈ pn, γ' i = γ i := fun i hi => hm1.pin i _ (by simp only [R', if_pos hi])
 let fr' : Nat → Hp := fun i => if i ∈ Qao s'.mem then fr1 i else fr i
 have fr1' : ∀ i ∈ Qao s'.mem, fr' i = fr1 i := fun i hi => by simp only [fr', if_pos hi]
 have fr2' : ∀ i ∈ Qao (Qcy Q s.mem), fr' i = fr i := fun i hi => by simp only [fr', if_neg (hdis i hi)]
 have hin : ∀ {k : Nat}, k ∈ Qao (s'.mem ++ Qcy Q s.mem) → k ∈ Qao s'.mem ∨ k ∈ Qao (Qcy Q s.mem) := by
  intro k hk
  simpa only [Qao, List.map_append, List.mem_append] using hk
 refine ⟨G', γ', tv, _, fr', hg, hK, hrel, hs'.sl, ⟨?_, ?_, ?_, ⟨hm1.ok.g, fun b o hb => hm1.ok.r b o (hRR b o hb), ?_, ?_, ?_, ?_, ?_, hm1.ok.os, hm1.ok.out⟩⟩, fun i hi => ⟨fr2' i hi, ?_⟩, rfl⟩
 ·show (Qao (s'.mem ++ Qcy Q s.mem)).Nodup
  simp only [Qao, List.map_append]
  rw [List.nodup_append]
  refine ⟨hm1.nd, Qe5 hm.nd, ?_⟩
  intro x hx y hy e
  subst e
  exact hdis x hy hx
 ·intro i u hi
  by_cases hp : i ∈ pn
  ·rw [hγ i hp]; exact hm.pin i u hi
  ·exact hm1.pin i u (by simp only [R', if_neg hp]; exact hi)
 ·intro e he
  rcases List.mem_append.1 he with he | he
  ·rw [fr1' _ (List.mem_map.2 ⟨_, he, rfl⟩)]; exact hm1.at' e he
  ·have h1 : e.1 ∈ Qao (Qcy Q s.mem) := List.mem_map.2 ⟨_, he, rfl⟩
   rw [fr2' _ h1, hγ e.1 (List.mem_append.2 (.inl (hkin _ h1).2))]
   exact Box.at_congr (fun i hi => hγ i (List.mem_append.2 (.inr (Qkw he i hi)))) (Box.at_mono hg (hm.at' e (Qdk he).1))
 ·intro b hb
  have := hm1.ok.gr b hb
  cases hr : R.hp b with
  | none => rfl
  | some o => rw [show R'.hp b = some o from hRR b o hr] at this; simp at this
 ·intro i hi
  rcases hin hi with h1 | h1
  ·rw [fr1' i h1]; exact hm1.ok.f i h1
  ·rw [fr2' i h1]; exact fun b o hb => hm1.ok.r b o (hRQ i h1 b o hb)
 ·intro i hi b hb
  rcases hin hi with h1 | h1
  ·rw [fr1' i h1] at hb; exact hm1.ok.gf i h1 b hb
  ·rw [fr2' i h1] at hb
   obtain ⟨o, ho⟩ := Option.ne_none_iff_exists'.1 hb
   cases hg' : G' b with
   | none => rfl
   | some x =>
    have := hm1.ok.gr b (by simp [hg'])
    rw [show R'.hp b = some o from hRQ i h1 b o ho] at this; simp at this
 ·intro i hi b hb
  rcases hin hi with h1 | h1
  ·rw [fr1' i h1] at hb
   have := hm1.ok.rf i h1 b hb
   cases hr : R.hp b with
   | none => rfl
   | some o => rw [show R'.hp b = some o from hRR b o hr] at this; simp at this
  ·rw [fr2' i h1] at hb; exact hm.ok.rf i (hkin i h1).1 b hb
 ·intro i hi j hj hij b hb
  rcases hin hi with h1 | h1 <;> rcases hin hj with h2 | h2
  ·rw [fr1' i h1] at hb; rw [fr1' j h2]; exact hm1.ok.ff i h1 j h2 hij b hb
  ·rw [fr1' i h1] at hb; rw [fr2' j h2]
   have := hm1.ok.rf i h1 b hb
   cases hf : fr j b with
   | none => rfl
   | some o => rw [show R'.hp b = some o from hRQ j h2 b o hf] at this; simp at this
  ·rw [fr2' i h1] at hb; rw [fr1' j h2]
   obtain ⟨o, ho⟩ := Option.ne_none_iff_exists'.1 hb
   cases hf : fr1 j b with
   | none => rfl
   | some x =>
    have := hm1.ok.rf j h2 b (by simp [hf])
    rw [show R'.hp b = some o from hRQ i h1 b o ho] at this; simp at this
  ·rw [fr2' i h1] at hb; rw [fr2' j h2]; exact hm.ok.ff i (hkin i h1).1 j (hkin j h2).1 hij b hb
 ·show i ∈ Qao (s'.mem ++ Qcy Q s.mem)
  simp only [Qao, List.map_append, List.mem_append]
  exact .inr hi
end Go.Proofs.Ytnmjcdlgfimnaaa
namespace Go.Proofs.Ytnmjcdlgfimnaaa
def Qvp : Op → Bool
 | .move _ => true
 | .assign _ => true
 | .pick _ _ _ => true
 | .load _ _ => true
 | .nilCheck _ => true
 | .fieldAddr _ _ _ => true
 | .field _ _ _ => true
 | .indexAddr _ _ _ => true
 | .index _ _ _ => true
 | .extract _ _ => true
 | .binOp _ _ _ _ _ => true
 | .unOp _ _ _ => true
 | .convert _ _ _ => true
 | .build _ _ => true
 | .slice _ _ _ _ _ => true
 | .makeFunc _ _ _ => true
 | .sliceToArrayPointer _ _ => true
 | .call c => (match c.callee with
  | .builtin .len => true
  | .builtin .min => true
  | .builtin .max => true
  | _ => false)
 | _ => false
inductive Sch
 | done
 | free (i : Nat) (r : Sch)
 | or (i : Nat) (x y : Sch)
 | stop
def Sch.heads : Sch → List Nat
 | .or i _ y => i :: y.heads
 | _ => []
def Sch.depth : Sch → Nat
 | .done => 0
 | .free _ r => r.depth + 1
 | .or _ x y => max (x.depth + 1) y.depth
 | .stop => 0
def Qos (ops : Array Oper) (mem : Bool) (i : Nat) : Bool := match ops[i]? with
 | some o => Qvp o.op && (mem || !Qvo o.op)
 | none => false
def Sch.ok (ops : Array Oper) (late : List Nat) : Bool → Array Bool → Sch → Bool
 | top, listed, .done => top && (Region.ready .any ops listed).isEmpty
 | top, listed, .free i r => top && ((Region.ready .any ops listed).contains i && Qos ops false i && !late.contains i && Region.free .any ops listed i && r.ok ops late true (listed.setIfInBounds i true))
 | top, listed, .or i x y => (!top || Sch.heads (.or i x y) == Region.ready .any ops listed) && (x.ok ops late true (listed.setIfInBounds i true) && y.ok ops late false listed)
 | top, _, .stop => !top
def okA (ops : Array Oper) (late : List Nat) : Array Bool → List Nat → Bool
 | _, [] => true
 | listed, i :: r => (Region.ready .any ops listed).contains i && Qos ops true i && !late.contains i && Region.free .any ops listed i && late.all (fun j => Qms ops ops.size j i) && okA ops late (listed.setIfInBounds i true) r
def Qpk : Array Bool → List Nat → Array Bool
 | l, [] => l
 | l, i :: r => Qpk (l.setIfInBounds i true) r
def Qtc (ops : Array Oper) (A late : List Nat) (sch : Sch) : Bool :=
 Region.noSelect ops && (okA ops late (Array.replicate ops.size false) A && (sch.ok ops late true (Qpk (Array.replicate ops.size false) A) && Nat.ble (A.length + sch.depth) ops.size))
def Qdp (ops : List Oper) (o : Oper) (s : Qan) (F N : Qan → Prop) : Prop := match o.guard with
 | none => F s
 | some (j, want) => match (ops[j]?).bind (·.dst) with
  | none => False
  | some d => match Qd7 s.sl d with
   | .one (.l (.bool b)) => (b = want → F (s.put d (.one (.l (.bool want))))) ∧ (b = !want → N (s.put d (.one (.l (.bool (!want))))))
   | .tup [] => N s
   | _ => False
def vcA (E : Env) (ops : List Oper) (Q : List Nat) : List Nat → Qan → (Qan → Prop) → Prop
 | [], s, K => K s
 | i :: r, s, K => match ops[i]? with
  | some o => Qdp ops o s (fun s1 => Qhp E.toCtx o ⟨s1.sl, Qcy Q s1.mem, s1.pins⟩ fun tv _ => vcA E ops Q r (s1.putO o.dst tv) K) (fun s1 => vcA E ops Q r (s1.putO o.dst (.tup [])) K)
  | none => False
def Qbp (E : Env) (ops : List Oper) (late Q : List Nat) : Sch → Bool → Qan → (Qan → Prop) → Prop
 | .done, _, s, K => K s
 | .free i r, e, s, K => match ops[i]? with
  | some o => Qdp ops o s (fun s1 => Qhp E.toCtx o s1 fun tv _ => Qbp E ops late Q r e (s1.putO o.dst tv) K) (fun s1 => Qbp E ops late Q r e (s1.putO o.dst (.tup [])) K)
  | none => False
 | .or i x y, e, s, K => (match ops[i]? with
  | some o => Qdp ops o s (fun s1 => bif e || late.contains i then Qfl E o s1 (fun tv s2 => Qbp E ops late Q x true (s2.putO o.dst tv) K)
      else Qfl E o (s1.hide Q) (fun tv s2 => Qgx Q s2.mem = true ∧ Qbp E ops late Q x false ((s2.unhide s1 Q).putO o.dst tv) K))
      (fun s1 => Qbp E ops late Q x (e || late.contains i) (s1.putO o.dst (.tup [])) K)
  | none => False) ∧ Qbp E ops late Q y e s K
 | .stop, _, _, _ => True
section
variable {P : Program} {ops : Array Oper}
theorem Qf5 {o : Oper} {s : Qan} {F N : Qan → Prop} (h : Qdp ops.toList o s F N) {G : Hp} {γ : Nat → Value} {a : Act} (hs : Qb7 G γ s.sl a.tmps) :
    (∃ sl', Qb7 G γ sl' a.tmps ∧ F ⟨sl', s.mem, s.pins⟩ ∧ Region.wanted o (yielded ops a.tmps) = true) ∨ (∃ sl', Qb7 G γ sl' a.tmps ∧ N ⟨sl', s.mem, s.pins⟩ ∧ Region.wanted o (yielded ops a.tmps) = false) := by
 have know : ∀ {d : Nat} {tv : TV}, tv.rel G γ (a.tmps.getD d undef) → Qb7 G γ ((d, tv) :: s.sl) a.tmps := by
  intro d tv hv i
  show TV.rel G γ (Qd7 ((d, tv) :: s.sl) i) _
  unfold Qd7
  by_cases e : d = i
  ·subst e; simpa using hv
  ·have : (d == i) = false := by simpa using e
   rw [this, cond_false]; exact hs i
 unfold Qdp at h
 split at h
 ·rename_i hg
  exact .inl ⟨s.sl, hs, h, by simp [Region.wanted, hg]⟩
 ·rename_i j want hg
  split at h
  ·exact h.elim
  ·rename_i d hdj
   have hdj' : (ops[j]?).bind (·.dst) = some d := by simpa using hdj
   have hrel := hs d
   have hy : ∀ b, a.tmps.getD d undef = .bool b → yielded ops a.tmps j = some b := by
    intro b hb
    unfold yielded
    rw [hdj']
    simp only [Option.bind_some]
    rw [Array.getD_eq_getD_getElem?] at hb
    cases hx : a.tmps[d]? with
    | none => rw [hx] at hb; simp [undef] at hb
    | some v => rw [hx] at hb; simp only [Option.getD_some] at hb; rw [hb]
   split at h
   ·rename_i b hb
    rw [hb] at hrel
    have hv : a.tmps.getD d undef = .bool b := by simpa [TV.rel, SV.rel, LV.relV, LV.rel] using hrel
    by_cases e : b = want
    ·exact .inl ⟨_, know (by rw [hv, e]; rfl), h.1 e, by simp [Region.wanted, hg, hy b hv, e]⟩
    ·have e' : b = !want := by cases b <;> cases want <;> simp_all
     exact .inr ⟨_, know (by rw [hv, e']; rfl), h.2 e', by simp [Region.wanted, hg, hy b hv, e]⟩
   ·rename_i hb
    rw [hb] at hrel
    obtain ⟨vs, hvs, hv⟩ := hrel
    simp only [Qcv] at hvs
    subst hvs
    have hyn : yielded ops a.tmps j = none := by
     unfold yielded
     rw [hdj']
     simp only [Option.bind_some]
     rw [Array.getD_eq_getD_getElem?] at hv
     cases hx : a.tmps[d]? with
     | none => rfl
     | some v => rw [hx] at hv; simp only [Option.getD_some] at hv; rw [hv]
    exact .inr ⟨s.sl, hs, h, by simp [Region.wanted, hg, hyn]⟩
   ·exact h.elim
theorem Qb7.putO {G : Hp} {γ : Nat → Value} {s : Qan} {a : Act} (hs : Qb7 G γ s.sl a.tmps) {d : Option Nat} (hd : ∀ n, d = some n → n < a.tmps.size) {tv : TV} {v : Value} (hv : tv.rel G γ v) : Qb7 G γ (s.putO d tv).sl (a.put d v).tmps := by
 cases d with
 | none => exact hs
 | some d =>
  intro i
  show TV.rel G γ (Qd7 ((d, tv) :: s.sl) i) _
  unfold Qd7
  have hlt := hd d rfl
  by_cases e : d = i
  ·subst e
   simp [Act.put, hlt, hv]
  ·have : (d == i) = false := by simpa using e
   rw [this, cond_false]
   have := hs i
   simpa [Act.put, Array.getD_eq_getD_getElem?, Array.getElem?_setIfInBounds_ne e] using this
theorem Qi5 (s : Qan) (d : Option Nat) (tv : TV) : (s.putO d tv).mem = s.mem ∧ (s.putO d tv).pins = s.pins := by cases d <;> exact ⟨rfl, rfl⟩
theorem Qex (a : Act) (d : Option Nat) (v : Value) : (a.put d v).defers = a.defers := by cases d <;> rfl
end
end Go.Proofs.Ytnmjcdlgfimnaaa
namespace Go.Proofs.Ytnmjcdlgfimnaaa
structure Qv2 (R : Fr) (n : Nat) (G0 : Hp) (fr0 : Nat → Hp) (Q Q0 : List Nat) (erl : Bool) (G : Hp) (γ : Nat → Value) (fr : Nat → Hp) (s : Qan) (a : Act) (w : World) : Prop where
 sl : Qb7 G γ s.sl a.tmps
 mem : Qf4 R G γ fr s.mem w
 df : a.defers = []
 pn : ∀ i, R.pin i ≠ none → i ∈ s.pins
 sz : a.tmps.size = n
 g0 : Hp.le G0 G
 q : erl = true → ∀ i ∈ Q0, i ∈ Qao s.mem ∧ i ∈ Q ∧ fr i = fr0 i
def TT (late : List Nat) (G0 : Hp) (fr0 : Nat → Hp) (Q0 : List Nat) (listed : Array Bool) (w : World) : Prop := Qdr late listed = true → Agr G0 fr0 Q0 w
section
variable {E : Env} {ops : Array Oper} {late Q Q0 : List Nat} {G0 : Hp} {fr0 : Nat → Hp} {Qn : Exit → Act → World → Prop} {R : Fr} {n : Nat}
theorem Qv2.agr {erl : Bool} {G : Hp} {γ : Nat → Value} {fr : Nat → Hp} {s : Qan} {a : Act} {w : World} (h : Qv2 R n G0 fr0 Q Q0 erl G γ fr s a w) (he : erl = true) : Agr G0 fr0 Q0 w :=
 ⟨Hp.le_trans h.g0 h.mem.ok.g, fun i hi => by
  obtain ⟨h1, _, h3⟩ := h.q he i hi
  rw [← h3]; exact h.mem.ok.f i h1⟩
theorem Qo6 {i : Nat} {listed : Array Bool} (h : i ∈ Region.ready .any ops listed) : i < listed.size := by
 have := (mem_ready.1 h).1
 rcases Nat.lt_or_ge i listed.size with h' | h'
 ·exact h'
 ·simp [Array.getElem?_eq_none h'] at this
theorem Qq3 {i : Nat} {listed : Array Bool} (hi : i ∈ late) (hl : i < listed.size) : Qdr late (listed.setIfInBounds i true) = false := by
 cases h : Qdr late (listed.setIfInBounds i true) with
 | false => rfl
 | true =>
  unfold Qdr at h
  simp only [List.all_eq_true, Bool.not_eq_true'] at h
  have := h i hi
  simp [hl] at this
theorem Qvb {i : Nat} {o : Oper} (hi : ops[i]? = some o) {s : Qan} {F N : Qan → Prop} (h : Qdp ops.toList o s F N) {G : Hp} {γ : Nat → Value} {a : Act} {w : World} {Kn : Act → World → Prop} (hs : Qb7 G γ s.sl a.tmps)
    (hF : ∀ sl', Qb7 G γ sl' a.tmps → F ⟨sl', s.mem, s.pins⟩ → o.wp E.P a w Kn Qn) (hN : ∀ sl', Qb7 G γ sl' a.tmps → N ⟨sl', s.mem, s.pins⟩ → Kn (a.put o.dst undef) w) : wpOp E.P ops Qn i Kn a w := by
 unfold wpOp
 simp only [hi]
 rcases Qf5 h hs with ⟨sl', h1, h2, h3⟩ | ⟨sl', h1, h2, h3⟩
 ·rw [if_pos h3]; exact .inl (hF sl' h1 h2)
 ·rw [h3]; simp only [Bool.false_eq_true, if_false]; exact hN sl' h1 h2
theorem Qs7 {listed : Array Bool} {a : Act} {w : World} {T : Array Bool → World → Prop} (hr : Region.ready .any ops listed = []) (h : Qn .normal a w) : ∀ fuel, Qeu E.P ops Qn T fuel listed a w
 | 0 => ⟨hr, h⟩
 | _ + 1 => ⟨fun _ => h, by rw [hr]; simp⟩
theorem Qru {i : Nat} {oi : Oper} {listed : Array Bool} (hi : ops[i]? = some oi) (h : Region.free .any ops listed i = true) : ∀ j oj, ops[j]? = some oj → j ≠ i → listed.getD j true = false → (∀ e ∈ oj.after, Region.binds .any e = true → e.on ≠ i) → oi.apart ops oj = true :=
 fun j oj hj hne hun hno => Region.free_spec hi h j oj hj hne hun hno
theorem Qrj {i : Nat} (hi : i ∉ late) (listed : Array Bool) (j : Nat) (w : World) (h : TT late G0 fr0 Q0 ((listed.setIfInBounds i true).setIfInBounds j true) w) : TT late G0 fr0 Q0 (listed.setIfInBounds j true) w := by
 intro he
 apply h
 by_cases hij : i = j
 ·subst hij
  rw [Array.setIfInBounds_setIfInBounds]; exact he
 ·rw [Array.setIfInBounds_comm _ _ hij, Qgl hi]; exact he
theorem Qg2 (hsel : Region.noSelect ops = true) (hdst : ∀ o ∈ ops, ∀ d, o.dst = some d → d < n) (hQp : ∀ c a w, ¬ Qn (.panic c) a w) {K : Qan → Prop}
    (hfin : ∀ {G : Hp} {γ : Nat → Value} {s : Qan} {a : Act} {w : World}, Hp.le G0 G → K s → Qc4 R G γ s a w → a.tmps.size = n → Qn .normal a w) :
    ∀ (sch : Sch) (top : Bool) (listed : Array Bool) (fuel : Nat) {s : Qan} {G : Hp} {γ : Nat → Value} {fr : Nat → Hp} {a : Act} {w : World}, sch.ok ops late top listed = true → Qqo ops listed → sch.depth ≤ fuel →
     Qbp E ops.toList late Q sch (!Qdr late listed) s K → Qv2 R n G0 fr0 Q Q0 (Qdr late listed) G γ fr s a w →
     (top = true → Qeu E.P ops Qn (TT late G0 fr0 Q0) fuel listed a w) ∧
     (top = false → (∀ i ∈ sch.heads, i ∈ Region.ready .any ops listed) → ∀ i ∈ sch.heads, wpOp E.P ops Qn i (fun a' w' => TT late G0 fr0 Q0 (listed.setIfInBounds i true) w' ∧ Qeu E.P ops Qn (TT late G0 fr0 Q0) (fuel - 1) (listed.setIfInBounds i true) a' w') a w)
 | .done, top, listed, fuel, s, G, γ, fr, a, w, hok, hd, hfu, hv, hn => by
  simp only [Sch.ok, Bool.and_eq_true, List.isEmpty_iff] at hok
  refine ⟨fun _ => Qs7 hok.2 (hfin hn.g0 hv ⟨hn.sl, ⟨fr, hn.mem⟩, hn.df, hn.pn⟩ hn.sz) fuel, fun ht => ?_⟩
  rw [ht] at hok; simp at hok
 | .stop, top, listed, fuel, s, G, γ, fr, a, w, hok, hd, hfu, hv, hn => by
  refine ⟨fun ht => ?_, fun _ _ i hi => by simp [Sch.heads] at hi⟩
  simp only [Sch.ok] at hok
  rw [ht] at hok; simp at hok
 | .free i r, top, listed, fuel, s, G, γ, fr, a, w, hok, hd, hfu, hv, hn => by
  simp only [Sch.ok, Bool.and_eq_true, List.contains_eq_mem, decide_eq_true_eq, Bool.not_eq_true', decide_eq_false_iff_not] at hok
  obtain ⟨htop, ⟨⟨⟨⟨hr, hq⟩, hl⟩, hf⟩, hok'⟩⟩ := hok
  refine ⟨fun _ => ?_, fun ht => by rw [ht] at htop; simp at htop⟩
  simp only [Sch.depth] at hfu
  obtain ⟨k, rfl⟩ : ∃ k, fuel = k + 1 := ⟨fuel - 1, by omega⟩
  unfold Qbp at hv
  split at hv
  ·rename_i o ho
   have ho' : ops[i]? = some o := by simpa using ho
   have hdo : ∀ d, o.dst = some d → d < a.tmps.size := fun d h => hn.sz ▸ hdst o (Array.mem_of_getElem? ho') d h
   unfold Qos at hq
   rw [ho'] at hq
   simp only [Bool.false_or, Bool.and_eq_true, Bool.not_eq_true'] at hq
   have hes : Qdr late (listed.setIfInBounds i true) = Qdr late listed := Qgl hl
   have go : ∀ {v : Value} {tv : TV} {sl' : List (Nat × TV)}, Qb7 G γ sl' a.tmps → YieldsIf E.P ops (fun _ => True) o v a → tv.rel G γ v → Qbp E ops.toList late Q r (!Qdr late listed) ((⟨sl', s.mem, s.pins⟩ : Qan).putO o.dst tv) K →
       Qeu E.P ops Qn (TT late G0 fr0 Q0) (k + 1) listed a w := by
    intro v tv sl' hsl hy hrel hv'
    refine Qh4 (S := fun _ => True) ho' (Region.noSelect_spec hsel) (fun c a w h => absurd h (hQp c _ w)) (Qrj hl) (fun _ _ _ _ _ _ _ => trivial) k listed a w hd (Qru ho' hf) hr hy trivial ?_ ?_
    ·intro he
     rw [hes] at he
     exact hn.agr he
    ·obtain ⟨pm, pp⟩ := Qi5 (⟨sl', s.mem, s.pins⟩ : Qan) o.dst tv
     have hn' : Qv2 R n G0 fr0 Q Q0 (Qdr late (listed.setIfInBounds i true)) G γ fr ((⟨sl', s.mem, s.pins⟩ : Qan).putO o.dst tv) (a.put o.dst v) w := ⟨Qb7.putO (s := ⟨sl', s.mem, s.pins⟩) hsl hdo hrel, by rw [pm]; exact hn.mem, by rw [Qex]; exact hn.df, by rw [pp]; exact hn.pn, by rw [Qeo]; exact hn.sz, hn.g0, by rw [hes, pm]; exact hn.q⟩
     exact (Qg2 hsel hdst hQp hfin r true (listed.setIfInBounds i true) k hok' (hd.set hr) (by omega) (by rw [hes]; exact hv') hn').1 rfl
   rcases Qf5 hv hn.sl with ⟨sl', h1, h2, h3⟩ | ⟨sl', h1, h2, h3⟩
   ·obtain ⟨v, tv, hrun, hK, hrel⟩ := Qel h2 R G γ fr a w h1 hn.mem
    exact go h1 (.inl ⟨h3, fun w' _ => hrun w' (by rw [hq.2]; simp)⟩) hrel hK
   ·exact go h1 (.inr ⟨h3, rfl⟩) Qfg h2
  ·exact hv.elim
 | .or i x y, top, listed, fuel, s, G, γ, fr, a, w, hok, hd, hfu, hv, hn => by
  simp only [Sch.ok, Bool.and_eq_true] at hok
  obtain ⟨htop, hokx, hoky⟩ := hok
  simp only [Sch.depth] at hfu
  obtain ⟨k, rfl⟩ : ∃ k, fuel = k + 1 := ⟨fuel - 1, by omega⟩
  unfold Qbp at hv
  obtain ⟨hvx, hvy⟩ := hv
  have hhead : i ∈ Region.ready .any ops listed → wpOp E.P ops Qn i (fun a' w' => TT late G0 fr0 Q0 (listed.setIfInBounds i true) w' ∧ Qeu E.P ops Qn (TT late G0 fr0 Q0) k (listed.setIfInBounds i true) a' w') a w := by
   intro hr
   have hlt := Qo6 hr
   split at hvx
   ·rename_i o ho
    have ho' : ops[i]? = some o := by simpa using ho
    have hdo : ∀ d, o.dst = some d → d < a.tmps.size := fun d h => hn.sz ▸ hdst o (Array.mem_of_getElem? ho') d h
    have hearly : Qdr late (listed.setIfInBounds i true) = !(!Qdr late listed || late.contains i) := by
     by_cases hil : i ∈ late
     ·rw [Qq3 hil hlt]; simp [hil]
     ·rw [Qgl hil]; simp [hil]
    have go2 : ∀ {s' : Qan} {G' : Hp} {γ' : Nat → Value} {fr' : Nat → Hp} {a' : Act} {w' : World}, Qbp E ops.toList late Q x (!Qdr late listed || late.contains i) s' K → Qv2 R n G0 fr0 Q Q0 (Qdr late (listed.setIfInBounds i true)) G' γ' fr' s' a' w' →
        TT late G0 fr0 Q0 (listed.setIfInBounds i true) w' ∧ Qeu E.P ops Qn (TT late G0 fr0 Q0) k (listed.setIfInBounds i true) a' w' := by
     intro s' G' γ' fr' a' w' hv' hn'
     exact ⟨fun he => hn'.agr he, (Qg2 hsel hdst hQp hfin x true (listed.setIfInBounds i true) k hokx (hd.set hr) (by omega) (by rw [hearly, Bool.not_not]; exact hv') hn').1 rfl⟩
    refine Qvb ho' hvx hn.sl (fun sl' hsl h2 => ?_) (fun sl' hsl h2 => ?_)
    ·cases hb : (!Qdr late listed || late.contains i)
     ·rw [hb, cond_false] at h2
      rw [hb] at hearly go2
      have hel : Qdr late listed = true := by
       cases h : Qdr late listed with
       | true => rfl
       | false => rw [h] at hb; simp at hb
      have hfr := Qqq (Q := Q) (K := fun tv s2 => Qbp E ops.toList late Q x false (s2.putO o.dst tv) K) (Qgb h2) (s := ⟨sl', s.mem, s.pins⟩) hsl hn.mem hn.df hn.pn
      refine Qhu hfr ?_
      rintro v w' ⟨G', γ', tv, s2, fr', hg, hK, hrel, hsl2, hm2, hkeep, hpin2⟩
      obtain ⟨pm, pp⟩ := Qi5 s2 o.dst tv
      refine go2 hK ⟨Qb7.putO hsl2 hdo hrel, by rw [pm]; exact hm2, by rw [Qex]; exact hn.df, by rw [pp, hpin2]; exact hn.pn, by rw [Qeo]; exact hn.sz, Hp.le_trans hn.g0 hg, fun _ j hj => ?_⟩
      obtain ⟨q1, q2, q3⟩ := hn.q hel j hj
      have hk : j ∈ Qao (Qcy Q s.mem) := by
       obtain ⟨e, he, rfl⟩ := List.mem_map.1 q1
       have : ∀ {mem : List (Nat × Box)}, e ∈ mem → e.1 ∈ Q → e ∈ Qcy Q mem := by
        intro mem
        induction mem with
        | nil => intro h; simp at h
        | cons z r ih =>
         intro h hq
         obtain ⟨zi, zb⟩ := z
         unfold Qcy
         rcases List.mem_cons.1 h with rfl | h
         ·simp [hq]
         ·cases hc : Q.contains zi
          ·exact ih h hq
          ·exact List.mem_cons.2 (.inr (ih h hq))
       exact List.mem_map.2 ⟨e, this he q2, rfl⟩
      obtain ⟨k1, k2⟩ := hkeep j hk
      rw [pm]
      exact ⟨k2, q2, k1.trans q3⟩
     ·rw [hb, cond_true] at h2
      rw [hb] at hearly go2
      refine Qhu (Qgb h2 R G γ a w ⟨hsl, ⟨fr, hn.mem⟩, hn.df, hn.pn⟩) ?_
      rintro v w' ⟨G', γ', tv, s2, hg, hK, hrel, hs2⟩
      obtain ⟨fr', hm2⟩ := hs2.mem
      obtain ⟨pm, pp⟩ := Qi5 s2 o.dst tv
      refine go2 hK ⟨Qb7.putO hs2.sl hdo hrel, by rw [pm]; exact hm2, by rw [Qex]; exact hn.df, by rw [pp]; exact hs2.pn, by rw [Qeo]; exact hn.sz, Hp.le_trans hn.g0 hg, fun he => ?_⟩
      rw [hearly] at he; simp at he
    ·obtain ⟨pm, pp⟩ := Qi5 (⟨sl', s.mem, s.pins⟩ : Qan) o.dst (.tup [])
     refine go2 h2 ⟨Qb7.putO (s := ⟨sl', s.mem, s.pins⟩) hsl hdo Qfg, by rw [pm]; exact hn.mem, by rw [Qex]; exact hn.df, by rw [pp]; exact hn.pn, by rw [Qeo]; exact hn.sz, hn.g0, fun he => ?_⟩
     rw [pm]
     refine hn.q ?_
     exact Qqj he
   ·exact hvx.elim
  have hrest := (Qg2 hsel hdst hQp hfin y false listed (k + 1) hoky hd (by omega) hvy hn).2 rfl
  constructor
  ·intro ht
   rw [ht] at htop
   simp only [Bool.not_true, Bool.false_or, beq_iff_eq] at htop
   have hin : ∀ j ∈ Sch.heads (.or i x y), j ∈ Region.ready .any ops listed := fun j hj => htop ▸ hj
   refine ⟨fun h0 => ?_, fun j hj => ?_⟩
   ·rw [← htop] at h0; simp [Sch.heads] at h0
   ·rw [← htop] at hj
    rcases List.mem_cons.1 hj with rfl | hj'
    ·exact hhead (hin j hj)
    ·exact hrest (fun l hl => hin l (List.mem_cons.2 (.inr hl))) j hj'
  ·intro _ hin j hj
   rcases List.mem_cons.1 hj with rfl | hj'
   ·exact hhead (hin j hj)
   ·exact hrest (fun l hl => hin l (List.mem_cons.2 (.inr hl))) j hj'
end
end Go.Proofs.Ytnmjcdlgfimnaaa
namespace Go.Proofs.Ytnmjcdlgfimnaaa
section
variable {E : Env} {ops : Array Oper} {late Q : List Nat} {Qn : Exit → Act → World → Prop} {R : Fr} {n : Nat}
theorem Qjs {Q : List Nat} {mem : List (Nat × Box)} : ∀ i ∈ Qao (Qcy Q mem), i ∈ Qao mem ∧ i ∈ Q := by
 intro i hi
 obtain ⟨e, he, rfl⟩ := List.mem_map.1 hi
 exact ⟨List.mem_map.2 ⟨_, (Qdk he).1, rfl⟩, (Qdk he).2⟩
theorem Qf4.keep {G : Hp} {γ : Nat → Value} {fr : Nat → Hp} {mem : List (Nat × Box)} {w : World} (h : Qf4 R G γ fr mem w) (Q : List Nat) : Qf4 R G γ fr (Qcy Q mem) w :=
 ⟨Qe5 h.nd, h.pin, fun e he => h.at' e (Qdk he).1, h.ok.sub fun i hi => (Qjs i hi).1⟩
theorem Qk5 : ∀ {A : List Nat} {listed : Array Bool}, okA ops late listed A = true → Qqo ops listed → Qqo ops (Qpk listed A)
 | [], _, _, h => h
 | i :: r, listed, hok, h => by
  simp only [okA, Bool.and_eq_true, List.contains_eq_mem, decide_eq_true_eq] at hok
  show Qqo ops (Qpk (listed.setIfInBounds i true) r)
  exact Qk5 hok.2 (h.set hok.1.1.1.1.1)
theorem Qnu (hsel : Region.noSelect ops = true) (hdst : ∀ o ∈ ops, ∀ d, o.dst = some d → d < n) (hQp : ∀ c a w, ¬ Qn (.panic c) a w) {K : Qan → Prop} {G : Hp} {γ : Nat → Value} {fr : Nat → Hp} {mem : List (Nat × Box)} {pins : List Nat} {w : World} {fuel : Nat}
    (hm : Qf4 R G γ fr mem w) (hpn : ∀ i, R.pin i ≠ none → i ∈ pins) :
    ∀ (A : List Nat) (listed : Array Bool) {sl : List (Nat × TV)} {a : Act}, okA ops late listed A = true → Qqo ops listed → Qdr late listed = true → vcA E ops.toList Q A ⟨sl, mem, pins⟩ K → Qb7 G γ sl a.tmps → a.defers = [] → a.tmps.size = n →
     (∀ sl' a', K ⟨sl', mem, pins⟩ → Qb7 G γ sl' a'.tmps → a'.defers = [] → a'.tmps.size = n → Qdr late (Qpk listed A) = true → Qeu E.P ops Qn (TT late G fr (Qao (Qcy Q mem))) fuel (Qpk listed A) a' w) →
     Qeu E.P ops Qn (TT late G fr (Qao (Qcy Q mem))) (A.length + fuel) listed a w
 | [], listed, sl, a, _, _, he, hv, hsl, hdf, hsz, hfin => by
  simp only [List.length_nil, Nat.zero_add]
  exact hfin sl a hv hsl hdf hsz he
 | i :: r, listed, sl, a, hok, hd, he, hv, hsl, hdf, hsz, hfin => by
  simp only [okA, Bool.and_eq_true, List.contains_eq_mem, decide_eq_true_eq, Bool.not_eq_true', decide_eq_false_iff_not, List.all_eq_true] at hok
  obtain ⟨⟨⟨⟨⟨hr, hq⟩, hl⟩, hf⟩, hreach⟩, hok'⟩ := hok
  unfold vcA at hv
  split at hv
  ·rename_i o ho
   have ho' : ops[i]? = some o := by simpa using ho
   have hdo : ∀ d, o.dst = some d → d < a.tmps.size := fun d h => hsz ▸ hdst o (Array.mem_of_getElem? ho') d h
   have hes : Qdr late (listed.setIfInBounds i true) = true := by rw [Qgl hl]; exact he
   have hagr : Agr G fr (Qao (Qcy Q mem)) w := (hm.keep Q).agr
   have hS : ∀ (listed : Array Bool) (j : Nat) (w : World), Qqo ops listed → listed.getD i true = false → j ∈ Region.ready .any ops listed → TT late G fr (Qao (Qcy Q mem)) ((listed.setIfInBounds i true).setIfInBounds j true) w → Agr G fr (Qao (Qcy Q mem)) w := by
    intro listed j w hd hun hj hT
    refine Qrj hl listed j w hT ?_
    unfold Qdr
    simp only [List.all_eq_true, Bool.not_eq_true']
    intro k hk
    have hne : k ≠ i := fun e => hl (e ▸ hk)
    have hu := Qf1 hun
    cases hx : (listed.setIfInBounds j true).getD k false with
    | false => rfl
    | true =>
     exfalso
     have hedges : ∀ oj, ops[k]? = some oj → ∀ e ∈ oj.after, Region.binds .any e = true → listed.getD e.on false = true := by
      intro oj hoj e he hb
      by_cases hjk : j = k
      ·subst hjk
       obtain ⟨_, o2, ho2, hall⟩ := mem_ready.1 hj
       rw [ho2] at hoj
       simp only [Option.some.injEq] at hoj
       subst hoj
       exact hall e he hb
      ·rw [getD_set_ne false hjk] at hx
       exact hd k hx oj hoj e he hb
     have := Qgs hd (hreach k hk) hedges
     rw [hu] at this; simp at this
   have go : ∀ {v : Value} {tv : TV} {sl' : List (Nat × TV)}, Qb7 G γ sl' a.tmps → YieldsIf E.P ops (Agr G fr (Qao (Qcy Q mem))) o v a → tv.rel G γ v → vcA E ops.toList Q r ((⟨sl', mem, pins⟩ : Qan).putO o.dst tv) K →
       Qeu E.P ops Qn (TT late G fr (Qao (Qcy Q mem))) ((i :: r).length + fuel) listed a w := by
    intro v tv sl' hsl' hy hrel hv'
    have hlen : (i :: r).length + fuel = (r.length + fuel) + 1 := by simp only [List.length_cons]; omega
    rw [hlen]
    have e1 : (⟨sl', mem, pins⟩ : Qan).putO o.dst tv = ⟨((⟨sl', mem, pins⟩ : Qan).putO o.dst tv).sl, mem, pins⟩ := by cases o.dst <;> rfl
    rw [e1] at hv'
    refine Qh4 (S := Agr G fr (Qao (Qcy Q mem))) ho' (Region.noSelect_spec hsel) (fun c a w h => absurd h (hQp c _ w)) (Qrj hl) hS _ listed a w hd (Qru ho' hf) hr hy hagr (fun _ => hagr) ?_
    refine Qnu hsel hdst hQp hm hpn r (listed.setIfInBounds i true) hok' (hd.set hr) hes hv' (Qb7.putO (s := ⟨sl', mem, pins⟩) hsl' hdo hrel) (by rw [Qex]; exact hdf) (by rw [Qeo]; exact hsz) hfin
   rcases Qf5 hv hsl with ⟨sl', h1, h2, h3⟩ | ⟨sl', h1, h2, h3⟩
   ·obtain ⟨v, tv, hrun, hK, hrel⟩ := Qel h2 R G γ fr a w h1 (hm.keep Q)
    exact go h1 (.inl ⟨h3, fun w' hw => hrun w' fun _ => hw⟩) hrel hK
   ·exact go h1 (.inr ⟨h3, rfl⟩) Qfg h2
  ·exact hv.elim
def Qsn (E : Env) (ops : Array Oper) (A late Q : List Nat) (sch : Sch) (s : Qan) (K : Qan → Prop) : Prop :=
 vcA E ops.toList Q A s fun s' => Qbp E ops.toList late Q sch false s' K
theorem Qr2 {k : Nat} (late : List Nat) : Qdr late (Array.replicate k false) = true := by
 unfold Qdr
 simp only [List.all_eq_true, Bool.not_eq_true']
 intro j _
 rw [Array.getD_eq_getD_getElem?, Array.getElem?_replicate]
 split <;> rfl
theorem Qng {k : Nat} : Qqo ops (Array.replicate k false) := by
 intro j hj
 rw [Array.getD_eq_getD_getElem?, Array.getElem?_replicate] at hj
 split at hj <;> simp at hj
theorem Qq2 {id : Nat} {A : List Nat} {sch : Sch} {s : Qan} {K : Qan → Prop} (hm : E.P.follows .mixedOrders = true) (hok : Qtc ops A late sch = true) (h : Qsn E ops A late Q sch s K) (hdst : ∀ o ∈ ops, ∀ d, o.dst = some d → d < n)
    {G : Hp} {γ : Nat → Value} {a : Act} {w : World} (hs : Qc4 R G γ s a w) (hn : a.tmps.size = n) :
    (Code.region id ops true).wp E.P (fun e a' w' => e = .normal ∧ ∃ G' γ' s', Hp.le G G' ∧ K s' ∧ Qc4 R G' γ' s' a' w' ∧ a'.tmps.size = n) a w := by
 simp only [Qtc, Bool.and_eq_true] at hok
 obtain ⟨hsel, hA, hsch, hlen⟩ := hok
 have hs' := hs.drew (w.drawn + 1)
 obtain ⟨fr, hmf⟩ := hs'.mem
 obtain ⟨sl, mem, pins⟩ := s
 have hlen' := Nat.le_of_ble_eq_true hlen
 refine wp_region_any hm (Qk6 (T := TT late G fr (Qao (Qcy Q mem))) _ _ _ _ ?_)
 obtain ⟨k, hk⟩ : ∃ k, ops.size = A.length + k := ⟨ops.size - A.length, by omega⟩
 rw [hk]
 refine Qnu (R := R) (n := n) (Q := Q) hsel hdst (fun c a w h => by simp at h) hmf hs.pn A _ (by rw [← hk]; exact hA) Qng (Qr2 late) h hs'.sl hs'.df hn ?_
 intro sl' a' hv hsl hdf hsz he
 have hnode : Qv2 R n G fr Q (Qao (Qcy Q mem)) (Qdr late (Qpk (Array.replicate (A.length + k) false) A)) G γ fr ⟨sl', mem, pins⟩ a' { w with drawn := w.drawn + 1 } :=
  ⟨hsl, hmf, hdf, hs.pn, hsz, Hp.le_refl G, fun _ i hi => ⟨(Qjs i hi).1, (Qjs i hi).2, rfl⟩⟩
 refine (Qg2 hsel hdst (fun c a w h => by simp at h) (K := K) (fun hg hK hsm hz => ⟨rfl, _, _, _, hg, hK, hsm, hz⟩) sch true _ k (by rw [← hk]; exact hsch) (Qk5 (by rw [← hk]; exact hA) Qng) (by omega) ?_ hnode).1 rfl
 rw [he]
 exact hv
end
end Go.Proofs.Ytnmjcdlgfimnaaa
namespace Go.Proofs.Ytnmjcdlgfimnaaa
theorem Qvg (n : Int) : inK .i64 n ↔ -9223372036854775808 ≤ n ∧ n ≤ 9223372036854775807 := by simp [inK, IntKind.min, IntKind.max, IntKind.signed, IntKind.bits]
theorem Qvv (n : Int) : inK .i32 n ↔ -2147483648 ≤ n ∧ n ≤ 2147483647 := by simp [inK, IntKind.min, IntKind.max, IntKind.signed, IntKind.bits]
theorem Qrm (n : Int) : inK .u64 n ↔ 0 ≤ n ∧ n ≤ 18446744073709551615 := by simp [inK, IntKind.min, IntKind.max, IntKind.signed, IntKind.bits]
theorem Qvc (n : Int) : inK .u32 n ↔ 0 ≤ n ∧ n ≤ 4294967295 := by simp [inK, IntKind.min, IntKind.max, IntKind.signed, IntKind.bits]
theorem Qu9 (n : Int) : inK .u16 n ↔ 0 ≤ n ∧ n ≤ 65535 := by simp [inK, IntKind.min, IntKind.max, IntKind.signed, IntKind.bits]
theorem Qm7 (n : Int) : inK .u8 n ↔ 0 ≤ n ∧ n ≤ 255 := by simp [inK, IntKind.min, IntKind.max, IntKind.signed, IntKind.bits]
def LV.fact : LV → Prop
 | .int k x => inK k x
 | .str s => s.length ≤ 9223372036854775807
 | .dat R x => R.ok x
 | .view _ _ _ _ _ n => n ≤ 9223372036854775807
 | _ => True
def Qew : List LV → Prop
 | [] => True
 | x :: r => x.fact ∧ Qew r
def SV.fact : SV → Prop
 | .l x => x.fact
 | .agg xs => Qew xs
def TV.fact : TV → Prop
 | .one x => x.fact
 | .tup _ => True
def Box.fact : Box → Prop
 | .segs l => Qew l
 | .arr R l => l.length ≤ 9223372036854775807 ∧ ∀ x ∈ l, R.ok x
 | .sarr n l => n ≤ 9223372036854775807 ∧ Qew l
 | _ => True
def Qff : List (Nat × Box) → Prop
 | [] => True
 | (_, b) :: r => b.fact ∧ Qff r
theorem LV.fact_of {G : Hp} {γ : Nat → Value} {x : LV} {cs : List Value} (h : x.rel G γ cs) : x.fact := by
 cases x <;> simp only [LV.fact]
 case int => exact h.2
 case str => exact h.2
 case dat R x => exact R.enc_ok h
 case view => obtain ⟨_, _, h1, h2, _⟩ := h; exact Nat.le_trans h1 h2
theorem LV.fact_ofV {G : Hp} {γ : Nat → Value} {x : LV} {v : Value} (h : x.relV G γ v) : x.fact := by
 cases x
 case dat R x => obtain ⟨cs, hc, _⟩ := h; exact R.enc_ok hc
 case undef => trivial
 all_goals exact LV.fact_of (G := G) (γ := γ) h
theorem Qgq {G : Hp} {γ : Nat → Value} : ∀ {l : List LV} {cs : List Value}, Qb5 G γ l cs → Qew l
 | [], _, _ => trivial
 | _ :: _, _, ⟨_, _, _, hx, hl⟩ => ⟨LV.fact_of hx, Qgq hl⟩
theorem SV.fact_of {G : Hp} {γ : Nat → Value} {x : SV} {v : Value} (h : x.rel G γ v) : x.fact := by
 cases x with
 | l x => exact LV.fact_ofV h
 | agg xs => obtain ⟨cs, hc, _⟩ := h; exact Qgq hc
theorem TV.fact_of {G : Hp} {γ : Nat → Value} {x : TV} {v : Value} (h : x.rel G γ v) : x.fact := by
 cases x with
 | one x => exact SV.fact_of h
 | tup xs => trivial
theorem Qg8 {G : Hp} {γ : Nat → Value} : ∀ {l : List LV} {us : List Value}, Qcv G γ (l.map .l) us → Qew l
 | [], _, _ => trivial
 | x :: l, _, ⟨_, _, _, hx, hl⟩ => ⟨LV.fact_ofV hx, Qg8 hl⟩
theorem Box.fact_of {G : Hp} {γ : Nat → Value} {b : Box} {v : Value} {f : Hp} (h : b.at G γ v f) : b.fact := by
 cases b with
 | segs => obtain ⟨_, _, _, _, _, hl⟩ := h; exact Qgq hl
 | arr R =>
  rcases h with ⟨b, t, es, sp, c, e, ef, hl, hn, hm, hs⟩ | ⟨rfl, _⟩
  ·exact ⟨Nat.le_trans hn hm, EncL.all (fun _ _ h => R.enc_ok h) hl⟩
  ·exact ⟨by simp, by simp⟩
 | sarr n l => obtain ⟨b, t, es, sp, c, _, _, hl, hn, hm⟩ := h; exact ⟨Nat.le_trans hn hm, Qgq hl⟩
 | obj O D => trivial
 | mpr A M V d => trivial
section
variable {s : Qan}
theorem Qi2 {R : Fr} {G : Hp} {γ : Nat → Value} {a : Act} {w : World} (hs : Qc4 R G γ s a w) : (∀ i, (Qd7 s.sl i).fact) ∧ Qff s.mem := by
 refine ⟨fun i => TV.fact_of (hs.sl i), ?_⟩
 obtain ⟨fr, _, _, hat, _⟩ := hs.mem
 have : ∀ l : List (Nat × Box), (∀ e ∈ l, e ∈ s.mem) → Qff l := by
  intro l
  induction l with
  | nil => intro _; trivial
  | cons e l ih => intro h; exact ⟨Box.fact_of (hat e (h e (by simp))), ih fun x hx => h x (by simp [hx])⟩
 exact this _ fun _ h => h
end
end Go.Proofs.Ytnmjcdlgfimnaaa
namespace Go.Proofs.Ytnmjcdlgfimnaaa
def LeS : List (Nat × TV) → List (Nat × TV) → Prop
 | [], _ => True
 | (i, v) :: r, sl => Qd7 sl i = v ∧ LeS r sl
def LeM : List (Nat × Box) → List (Nat × Box) → Prop
 | [], _ => True
 | (i, b) :: r, mem => Qco mem i = some b ∧ LeM r mem
def Le (s1 s : Qan) : Prop := LeS s1.sl s.sl ∧ LeM s1.mem s.mem ∧ (Qao s1.mem).Nodup ∧ s1.pins = s.pins
theorem LeS.get : ∀ {l sl : List (Nat × TV)}, LeS l sl → ∀ i, Qd7 l i = Qd7 sl i ∨ Qd7 l i = .one (.l .undef)
 | [], _, _, _ => .inr rfl
 | (j, v) :: r, sl, h, i => by
  have e0 : Qd7 ((j, v) :: r) i = bif j == i then v else Qd7 r i := rfl
  rw [e0]
  cases e : (j == i)
  ·exact LeS.get h.2 i
  ·have : j = i := by simpa using e
   subst this
   exact .inl h.1.symm
theorem LeM.mem : ∀ {l mem : List (Nat × Box)}, LeM l mem → ∀ e ∈ l, e ∈ mem
 | [], _, _, _, h => by simp at h
 | (i, b) :: r, mem, h, e, he => by
  rcases List.mem_cons.1 he with rfl | he
  ·exact Qca h.1
  ·exact LeM.mem h.2 e he
theorem Qc4.le {R : Fr} {G : Hp} {γ : Nat → Value} {s s1 : Qan} {a : Act} {w : World} (h : Qc4 R G γ s a w) (hl : Le s1 s) : Qc4 R G γ s1 a w := by
 refine ⟨?_, h.mem.sub hl.2.2.1 (LeM.mem hl.2.1), h.df, hl.2.2.2 ▸ h.pn⟩
 intro i
 rcases hl.1.get i with e | e
 ·rw [e]; exact h.sl i
 ·rw [e]; trivial
def GLe (s1 s : Qan) : Prop := s1.pins = s.pins ∧ ∀ R G γ a w, Qc4 R G γ s a w → ∃ G' γ', Hp.le G G' ∧ Qc4 R G' γ' s1 a w
theorem GLe.refl (s : Qan) : GLe s s := ⟨rfl, fun _ G γ _ _ h => ⟨G, γ, Hp.le_refl G, h⟩⟩
theorem GLe.trans {s1 s2 s3 : Qan} (h : GLe s1 s2) (h' : GLe s2 s3) : GLe s1 s3 := ⟨h.1.trans h'.1, fun R G γ a w hs => by
 obtain ⟨G1, γ1, hg1, hs1⟩ := h'.2 R G γ a w hs
 obtain ⟨G2, γ2, hg2, hs2⟩ := h.2 R G1 γ1 a w hs1
 exact ⟨G2, γ2, Hp.le_trans hg1 hg2, hs2⟩⟩
def Qv5 {ι : Type 1} (S : ι → Qan) (s : Qan) : Prop := ∀ R G γ a w, (∀ i, i ∉ s.pins → R.pin i = none) → Qc4 R G γ s a w → ∃ i G' γ', Hp.le G G' ∧ Qc4 R G' γ' (S i) a w
theorem GLe.one {s1 s : Qan} (h : GLe s1 s) : Qv5 (fun _ : PUnit => s1) s := fun R G γ a w _ hs => by
 obtain ⟨G', γ', hg, hs'⟩ := h.2 R G γ a w hs
 exact ⟨⟨⟩, G', γ', hg, hs'⟩
theorem Qqb {p : Nat → Prop} : ∀ n, p n → ∃ n, p n ∧ ∀ m, p m → n ≤ m := by
 intro n
 induction n using Nat.strongRecOn with
 | _ n ih =>
  intro hn
  by_cases h : ∃ m, m < n ∧ p m
  ·obtain ⟨m, hm, hp⟩ := h
   exact ih m hm hp
  ·exact ⟨n, hn, fun m hm => Nat.le_of_not_lt fun hlt => h ⟨m, hlt, hm⟩⟩
theorem Qmf {P : Program} {c : Code} {Q : Exit → Act → World → Prop} (I : Nat → Act → World → Prop) {n : Nat} {a : Act} {w : World} (h0 : I n a w)
    (round : ∀ n a w, I n a w → c.wp P (Exit.then (fun a' w' => ∃ m, m < n ∧ I m a' w') Q) a w) : (Code.loop c).wp P Q a w := by
 classical
 have least : ∀ a w, (∃ n, I n a w) → ∃ n, I n a w ∧ ∀ m, I m a w → n ≤ m := fun a w ⟨n, h⟩ => Qqb n h
 let μ : Act → World → Nat := fun a w => if h : ∃ n, I n a w then Classical.choose (least a w h) else 0
 refine wp_loop (fun a w => ∃ n, I n a w) μ ⟨n, h0⟩ ?_
 intro a w hI
 have hm : I (μ a w) a w := by
  simp only [μ, dif_pos hI]
  exact (Classical.choose_spec (least a w hI)).1
 refine wp_mono (round _ a w hm) ?_
 intro e a' w' h
 cases e with
 | normal =>
  obtain ⟨m, hlt, hI'⟩ := h
  refine ⟨⟨m, hI'⟩, ?_⟩
  have : μ a' w' ≤ m := by
   simp only [μ, dif_pos (⟨m, hI'⟩ : ∃ n, I n a' w')]
   exact (Classical.choose_spec (least a' w' ⟨m, hI'⟩)).2 m hI'
  omega
 | _ => exact h
abbrev KC := Exit → Qan → Prop
def Qch (n : Nat) : Code → Bool
 | .region _ ops _ => ops.toList.all fun o => match o.dst with
  | some d => decide (d < n)
  | none => true
 | .seq x y => Qch n x && Qch n y
 | .cond _ x y => Qch n x && Qch n y
 | .block _ x => Qch n x
 | .loop x => Qch n x
 | .scope x => Qch n x
 | _ => true
def QK (R : Fr) (G : Hp) (n : Nat) (K : KC) (e : Exit) (a : Act) (w : World) : Prop := ∃ G' γ' s', Hp.le G G' ∧ K e s' ∧ Qc4 R G' γ' s' a w ∧ a.tmps.size = n
theorem QK.of {R : Fr} {G : Hp} {γ : Nat → Value} {n : Nat} {K : KC} {e : Exit} {s : Qan} {a : Act} {w : World} (h : K e s) (hs : Qc4 R G γ s a w) (hn : a.tmps.size = n) : QK R G n K e a w :=
 ⟨G, γ, s, Hp.le_refl G, h, hs, hn⟩
theorem QK.up {R : Fr} {G G' : Hp} {n : Nat} {K : KC} {e : Exit} {a : Act} {w : World} (hg : Hp.le G G') (h : QK R G' n K e a w) : QK R G n K e a w := by
 obtain ⟨G2, γ2, s2, h1, h2, h3, h4⟩ := h
 exact ⟨G2, γ2, s2, Hp.le_trans hg h1, h2, h3, h4⟩
theorem Qeq {n l : Nat} : ∀ {c rest : Code}, findLabel c l = some rest → Qch n c = true → Qch n rest = true
 | .seq x y, rest, h, hf => by
  unfold findLabel at h
  simp only [Qch, Bool.and_eq_true] at hf
  split at h
  ·rename_i r hr
   obtain rfl := Option.some.inj h
   simp only [Qch, Bool.and_eq_true]
   exact ⟨Qeq hr hf.1, hf.2⟩
  ·exact Qeq h hf.2
 | .label l', rest, h, _ => by
  unfold findLabel at h
  split at h
  ·obtain rfl := Option.some.inj h; rfl
  ·simp at h
 | .skip, _, h, _ | .region .., _, h, _ | .cond .., _, h, _ | .block .., _, h, _ | .loop _, _, h, _ | .exit _, _, h, _ | .ret, _, h, _ | .rangeFunc .., _, h, _ | .scope _, _, h, _ | .goto _, _, h, _ | .refuse _, _, h, _ => by simp [findLabel] at h
def WpC (P : Program) (c : Code) (s : Qan) (K : KC) : Prop := ∀ (n : Nat) (R : Fr) (G : Hp) (γ : Nat → Value) (a : Act) (w : World), Qch n c = true → Qc4 R G γ s a w → a.tmps.size = n → c.wp P (QK R G n K) a w
theorem Qkk {P : Program} {c rest : Code} {Q : Exit → Act → World → Prop} (l : Nat) (I : Nat → Act → World → Prop) (hf : findLabel c l = some rest) {a : Act} {w : World}
    (first : c.wp P (Exit.jump l (fun a w => ∃ m, I m a w) Q) a w)
    (pass : ∀ n a w, I n a w → rest.wp P (Exit.jump l (fun a' w' => ∃ m, m < n ∧ I m a' w') Q) a w) : (Code.scope c).wp P Q a w := by
 classical
 have least : ∀ a w, (∃ n, I n a w) → ∃ n, I n a w ∧ ∀ m, I m a w → n ≤ m := fun a w ⟨n, h⟩ => Qqb n h
 let μ : Act → World → Nat := fun a w => if h : ∃ n, I n a w then Classical.choose (least a w h) else 0
 refine wp_scope_jumps l (fun a w => ∃ n, I n a w) μ hf first ?_
 intro a w hI
 have hm : I (μ a w) a w := by
  simp only [μ, dif_pos hI]
  exact (Classical.choose_spec (least a w hI)).1
 refine wp_mono (pass _ a w hm) ?_
 intro e a' w' h
 cases e with
 | goto l' =>
  obtain ⟨rfl, m, hlt, hI'⟩ := h
  refine ⟨rfl, ⟨m, hI'⟩, ?_⟩
  have : μ a' w' ≤ m := by
   simp only [μ, dif_pos (⟨m, hI'⟩ : ∃ n, I n a' w')]
   exact (Classical.choose_spec (least a' w' ⟨m, hI'⟩)).2 m hI'
  omega
 | _ => exact h
def Qa9 (E : Env) : Code → Qan → KC → Prop
 | .skip, s, K => ∃ (ι : Type 1) (S : ι → Qan), Qv5 S s ∧ ∀ i, K .normal (S i)
 | .region _ ops draw, s, K => (draw = false → Qb3 E ops.toList ops.toList s fun s' => ∃ (ι : Type 1) (S : ι → Qan), Qv5 S s' ∧ ∀ i, K .normal (S i)) ∧
     (draw = true → ∃ A late Q sch, E.P.follows .mixedOrders = true ∧ Qtc ops A late sch = true ∧ Qsn E ops A late Q sch s fun s' => ∃ (ι : Type 1) (S : ι → Qan), Qv5 S s' ∧ ∀ i, K .normal (S i))
 | .seq x y, s, K => Qa9 E x s fun e s' => match e with
  | .normal => Qa9 E y s' K
  | e => K e s'
 | .cond c x y, s, K => match ev s c with
  | .l (.bool b) => (b = true → Qa9 E x s K) ∧ (b = false → Qa9 E y s K)
  | _ => False
 | .block id x, s, K => Qa9 E x s fun e s' => match e with
  | .exit i => bif i == id then K .normal s' else K (.exit i) s'
  | e => K e s'
 | .loop x, s, K => ∃ (ι : Type) (ok : ι → Prop) (St : ι → Qan) (μ : ι → Nat), (∃ i, ok i ∧ GLe (St i) s) ∧ ∀ i, ok i → (∀ j, (Qd7 (St i).sl j).fact) → Qff (St i).mem → Qa9 E x (St i) fun e s' => match e with
  | .normal => ∃ j, ok j ∧ μ j < μ i ∧ GLe (St j) s'
  | e => K e s'
 | .exit id, s, K => K (.exit id) s
 | .label _, s, K => K .normal s
 | .ret, s, K => K .ret s
 | .goto l, s, K => K (.goto l) s
 | .scope x, s, K => (Qa9 E x s fun e s' => match e with
     | .goto _ => False
     | e => K e s') ∨ ∃ (ι : Type) (ok : ι → Prop) (St : ι → Qan) (μ : ι → Nat) (l : Nat) (rest : Code), findLabel x l = some rest ∧
     (Qa9 E x s fun e s' => match e with
      | .goto l' => l' = l ∧ ∃ i, ok i ∧ GLe (St i) s'
      | e => K e s') ∧
     ∀ i, ok i → (∀ j, (Qd7 (St i).sl j).fact) → Qff (St i).mem → WpC E.P rest (St i) fun e s' => match e with
      | .goto l' => l' = l ∧ ∃ j, ok j ∧ μ j < μ i ∧ GLe (St j) s'
      | e => K e s'
 | _, _, _ => False
theorem Qr4 {α : Type} (l : Array α) : (List.range l.size).map (l[·]?) = l.toList.map some := by
 apply List.ext_getElem?
 intro i
 by_cases h : i < l.size
 ·simp [h]
 ·simp [h]
theorem Qcw {E : Env} {n : Nat} {R : Fr} : ∀ (c : Code) {s : Qan} {K : KC} {G : Hp} {γ : Nat → Value} {a : Act} {w : World}, Qa9 E c s K → Qch n c = true → Qc4 R G γ s a w → a.tmps.size = n →
    c.wp E.P (QK R G n K) a w
 | .skip, s, K, G, γ, a, w, h, _, hs, hn => by
  obtain ⟨ι, S, hgl, hK⟩ := h
  obtain ⟨i, G2, γ2, hg2, hs2⟩ := hgl _ _ _ _ _ (fun i hi => Classical.byContradiction fun h => hi (hs.pn i h)) hs
  exact wp_skip ⟨G2, γ2, S i, hg2, hK i, hs2, hn⟩
 | .region id ops draw, s, K, G, γ, a, w, h, hf, hs, hn => by
  unfold Qa9 at h
  have hdst : ∀ o ∈ ops, ∀ d, o.dst = some d → d < n := by
   intro o ho d hd
   simp only [Qch, List.all_eq_true] at hf
   have := hf o (by simpa using ho)
   rw [hd] at this
   simpa using this
  cases draw with
  | false =>
   refine wp_region ?_
   refine Qe8 (n := n) (R := R) _ ops.toList (Qr4 ops) (fun o ho => hdst o (by simpa using ho)) (h.1 rfl) hs hn ?_
   rintro a' w' ⟨G', γ', s', hg, ⟨ι, S, hgl, hK⟩, hs', hn'⟩
   obtain ⟨i, G2, γ2, hg2, hs2⟩ := hgl _ _ _ _ _ (fun i hi => Classical.byContradiction fun h => hi (hs'.pn i h)) hs'
   exact ⟨G2, γ2, S i, Hp.le_trans hg hg2, hK i, hs2, hn'⟩
  | true =>
   obtain ⟨A, late, Q, sch, hm, hok, hv⟩ := h.2 rfl
   refine wp_mono (Qq2 (id := id) hm hok hv hdst hs hn) ?_
   rintro e a' w' ⟨rfl, G', γ', s', hg, ⟨ι, S, hgl, hK⟩, hs', hn'⟩
   obtain ⟨i, G2, γ2, hg2, hs2⟩ := hgl _ _ _ _ _ (fun i hi => Classical.byContradiction fun h => hi (hs'.pn i h)) hs'
   exact ⟨G2, γ2, S i, Hp.le_trans hg hg2, hK i, hs2, hn'⟩
 | .seq x y, s, K, G, γ, a, w, h, hf, hs, hn => by
  unfold Qa9 at h
  simp only [Qch, Bool.and_eq_true] at hf
  refine wp_seq (wp_mono (Qcw x h hf.1 hs hn) ?_)
  rintro e a' w' ⟨G', γ', s', hg, hK, hs', hn'⟩
  cases e with
  | normal => exact wp_mono (Qcw y hK hf.2 hs' hn') fun e a w h => h.up hg
  | _ => exact ⟨G', γ', s', hg, hK, hs', hn'⟩
 | .cond c x y, s, K, G, γ, a, w, h, hf, hs, hn => by
  unfold Qa9 at h
  simp only [Qch, Bool.and_eq_true] at hf
  have hc := Qb6 hs.sl c
  split at h
  ·rename_i b he
   rw [he] at hc
   have hc' : a.eval c = .bool b := by simpa [SV.rel, LV.relV, LV.rel] using hc
   exact wp_cond_split hc' (fun e => Qcw x (h.1 e) hf.1 hs hn) (fun e => Qcw y (h.2 e) hf.2 hs hn)
  ·exact h.elim
 | .block id x, s, K, G, γ, a, w, h, hf, hs, hn => by
  unfold Qa9 at h
  simp only [Qch] at hf
  refine wp_block (wp_mono (Qcw x h hf hs hn) ?_)
  rintro e a' w' ⟨G', γ', s', hg, hK, hs', hn'⟩
  cases e with
  | exit i =>
   simp only [Exit.inBlock]
   have hK : bif i == id then K Exit.normal s' else K (Exit.exit i) s' := hK
   cases hi : (i == id)
   ·rw [hi] at hK
    have : ¬ i = id := by simpa using hi
    rw [if_neg this]
    exact ⟨G', γ', s', hg, hK, hs', hn'⟩
   ·rw [hi] at hK
    have : i = id := by simpa using hi
    rw [if_pos this]
    exact ⟨G', γ', s', hg, hK, hs', hn'⟩
  | _ => exact ⟨G', γ', s', hg, hK, hs', hn'⟩
 | .loop x, s, K, G, γ, a, w, h, hf, hs, hn => by
  unfold Qa9 at h
  simp only [Qch] at hf
  obtain ⟨ι, ok, St, μ, ⟨i0, hi0, hle⟩, hround⟩ := h
  obtain ⟨G0, γ0, hg0, hs0⟩ := hle.2 _ _ _ _ _ hs
  refine Qmf (fun m a w => ∃ G' γ' i, Hp.le G G' ∧ ok i ∧ m = μ i ∧ Qc4 R G' γ' (St i) a w ∧ a.tmps.size = n) ⟨G0, γ0, i0, hg0, hi0, rfl, hs0, hn⟩ ?_
  rintro m a w ⟨G1, γ1, i1, hg1, hI1, rfl, hs1, hn1⟩
  refine wp_mono (Qcw x (hround i1 hI1 (Qi2 hs1).1 (Qi2 hs1).2) hf hs1 hn1) ?_
  rintro e a' w' ⟨G', γ', s', hg, hK, hs', hn'⟩
  cases e with
  | normal =>
   obtain ⟨j, hj, hlt, hle⟩ := hK
   obtain ⟨G2, γ2, hg2, hs2⟩ := hle.2 _ _ _ _ _ hs'
   exact ⟨μ j, hlt, G2, γ2, j, Hp.le_trans hg1 (Hp.le_trans hg hg2), hj, rfl, hs2, hn'⟩
  | _ => exact ⟨G', γ', s', Hp.le_trans hg1 hg, hK, hs', hn'⟩
 | .exit id, s, K, G, γ, a, w, h, _, hs, hn => wp_exit (.of h hs hn)
 | .label _, s, K, G, γ, a, w, h, _, hs, hn => wp_label (.of h hs hn)
 | .ret, s, K, G, γ, a, w, h, _, hs, hn => wp_ret (.of h hs hn)
 | .rangeFunc _ _ _ _, s, K, G, γ, a, w, h, _, hs, hn => by unfold Qa9 at h; exact h.elim
 | .scope x, s, K, G, γ, a, w, h, hf, hs, hn => by
  unfold Qa9 at h
  simp only [Qch] at hf
  rcases h with h | ⟨ι, ok, St, μ, l, rest, hl, h1, h2⟩
  ·refine wp_scope_straight (wp_mono (Qcw x h hf hs hn) ?_)
   rintro e a' w' ⟨G', γ', s', hg, hK, hs', hn'⟩
   cases e with
   | goto l => exact hK.elim
   | _ => exact ⟨G', γ', s', hg, hK, hs', hn'⟩
  ·refine Qkk l (fun m a w => ∃ G' γ' i, Hp.le G G' ∧ ok i ∧ m = μ i ∧ Qc4 R G' γ' (St i) a w ∧ a.tmps.size = n) hl ?_ ?_
   ·refine wp_mono (Qcw x h1 hf hs hn) ?_
    rintro e a' w' ⟨G', γ', s', hg, hK, hs', hn'⟩
    cases e with
    | goto l' =>
     obtain ⟨rfl, i, hi, hle⟩ := hK
     obtain ⟨G2, γ2, hg2, hs2⟩ := hle.2 _ _ _ _ _ hs'
     exact ⟨rfl, μ i, G2, γ2, i, Hp.le_trans hg hg2, hi, rfl, hs2, hn'⟩
    | _ => exact ⟨G', γ', s', hg, hK, hs', hn'⟩
   ·rintro m a w ⟨G1, γ1, i1, hg1, hI1, rfl, hs1, hn1⟩
    refine wp_mono (h2 i1 hI1 (Qi2 hs1).1 (Qi2 hs1).2 n R G1 γ1 a w (Qeq hl hf) hs1 hn1) ?_
    rintro e a' w' ⟨G', γ', s', hg, hK, hs', hn'⟩
    cases e with
    | goto l' =>
     obtain ⟨rfl, j, hj, hlt, hle⟩ := hK
     obtain ⟨G2, γ2, hg2, hs2⟩ := hle.2 _ _ _ _ _ hs'
     exact ⟨rfl, μ j, hlt, G2, γ2, j, Hp.le_trans hg1 (Hp.le_trans hg hg2), hj, rfl, hs2, hn'⟩
    | _ => exact ⟨G', γ', s', Hp.le_trans hg1 hg, hK, hs', hn'⟩
 | .goto _, s, K, G, γ, a, w, h, _, hs, hn => wp_goto (.of h hs hn)
 | .refuse _, s, K, G, γ, a, w, h, _, hs, hn => by unfold Qa9 at h; exact h.elim
def Qnt (C : Ctx) (s : Qan) : List ResultVar → (List SV → Prop) → Prop
 | [], f => f []
 | .tmp t :: r, f => Qnt C s r fun vs => f (ev s (.tmp t) :: vs)
 | .cell x ty :: r, f => Qor C s ty (.tmp x) fun tv _ => Qnt C s r fun vs => f (tv.sv :: vs)
def Ql7 : List SV → TV
 | [v] => .one v
 | vs => .tup vs
def Qcu : Nat → List SV → List (Nat × TV)
 | _, [] => []
 | i, v :: r => (i, .one v) :: Qcu (i + 1) r
def vFn (E : Env) (fn : Func) (args : List SV) (mem : List (Nat × Box)) (pins : List Nat) (K : KT) : Prop := match fn.body with
 | some c => Qch fn.ntmps c = true ∧ args.length ≤ fn.ntmps ∧ Qa9 E c ⟨Qcu 0 args, mem, pins⟩ fun e s => match e with
  | .normal => Qnt E.toCtx s fn.results.toList fun vs => K (Ql7 vs) s
  | .ret => Qnt E.toCtx s fn.results.toList fun vs => K (Ql7 vs) s
  | _ => False
 | none => False
end Go.Proofs.Ytnmjcdlgfimnaaa
namespace Go.Proofs.Ytnmjcdlgfimnaaa
theorem Qnd {G : Hp} {γ : Nat → Value} : ∀ (args : List SV) (vs : List Value) (k i : Nat), Qcv G γ args vs → (Qd7 (Qcu k args) i).rel G γ (if k ≤ i then (vs[i - k]?).getD undef else undef)
 | [], _, _, _, _ => trivial
 | x :: r, vs, k, i, ⟨v, us, e, hx, hr⟩ => by
  subst e
  have e0 : Qd7 (Qcu k (x :: r)) i = bif k == i then TV.one x else Qd7 (Qcu (k + 1) r) i := rfl
  rw [e0]
  by_cases h : k = i
  ·subst h; simpa [TV.rel] using hx
  ·have h1 : (k == i) = false := by simpa using h
   rw [h1, cond_false]
   have := Qnd r us (k + 1) i hr
   by_cases h2 : k + 1 ≤ i
   ·have h3 : k ≤ i := by omega
    have h4 : i - k = (i - (k + 1)) + 1 := by omega
    simp only [h2, if_true] at this
    simp only [h3, if_true, h4, List.getElem?_cons_succ]
    exact this
   ·have h3 : ¬ k ≤ i := by omega
    simp only [h2, if_false] at this
    simp only [h3, if_false]
    exact this
theorem Qcv.len {G : Hp} {γ : Nat → Value} : ∀ {xs : List SV} {vs : List Value}, Qcv G γ xs vs → vs.length = xs.length
 | [], _, h => by simp only [Qcv] at h; simp [h]
 | _ :: _, _, ⟨_, _, e, _, hr⟩ => by rw [e, List.length_cons, List.length_cons, Qcv.len hr]
def Qvu (ts : Array Value) : ResultVar → Sem Value
 | .tmp t => pure (ts.getD t undef)
 | .cell x t => do loadVar t (← asAddr (ts.getD x undef))
theorem Qo7 (a : Addr) : asAddr (.pointer (some a)) = pure a := rfl
theorem Qhx {C : Ctx} {s : Qan} {R : Fr} {G : Hp} {γ : Nat → Value} {a : Act} {w : World} (hs : Qc4 R G γ s a w) : ∀ {rs : List ResultVar} {f : List SV → Prop}, Qnt C s rs f →
    ∃ xs us, f xs ∧ Qcv G γ xs us ∧ (rs.mapM (Qvu a.tmps)).run C.P w = .ok us w
 | [], f, h => ⟨[], [], h, rfl, rfl⟩
 | .tmp t :: r, f, h => by
  obtain ⟨xs, us, hf, hr, hrun⟩ := Qhx hs (rs := r) h
  refine ⟨_, a.tmps.getD t undef :: us, hf, ⟨_, _, rfl, Qb6 hs.sl (.tmp t), hr⟩, ?_⟩
  simp only [List.mapM_cons, Sem.run_bind, Qvu, Sem.run_pure, Result.andThen_ok, hrun]
 | .cell x t :: r, f, h => by
  obtain ⟨fr, hmf⟩ := hs.mem
  obtain ⟨ad, u, tv, hx, hl, h', hrel⟩ := Qn0 (show Qor C s t (.tmp x) _ from h) hs.sl hmf
  have hl := hl w hmf.agr
  obtain ⟨xs, us, hf, hr, hrun⟩ := Qhx hs (rs := r) h'
  have hx' : a.tmps.getD x undef = .pointer (some ad) := hx
  refine ⟨_, u :: us, hf, ⟨_, _, rfl, ?_, hr⟩, ?_⟩
  ·cases tv with
   | one v => exact hrel
   | tup _ => trivial
  ·simp only [List.mapM_cons, Sem.run_bind, Qvu, hx', Qo7, Sem.run_pure, Result.andThen_ok, hl]
   rw [hrun]; rfl
theorem Qsw {G : Hp} {γ : Nat → Value} {xs : List SV} {us : List Value} (h : Qcv G γ xs us) : (Ql7 xs).rel G γ (if h : us.toArray.size = 1 then us.toArray[0] else .tuple us.toArray) := by
 match xs, us, h with
 | [], us, h => simp only [Qcv] at h; subst h; exact ⟨[], rfl, rfl⟩
 | [x], _, ⟨v, r, e, hx, hr⟩ => simp only [Qcv] at hr; subst hr; subst e; simpa [Ql7, TV.rel] using hx
 | x :: y :: r, us, h =>
  have hl := h.len
  have : ¬ us.toArray.size = 1 := by simp only [List.size_toArray, hl, List.length_cons]; omega
  rw [dif_neg this]
  exact ⟨us, h, rfl⟩
theorem Qo5 {P : Program} {fn : Func} {ts : Array Value} {w : World} {us : List Value} (h : (fn.results.toList.mapM (Qvu ts)).run P w = .ok us w) :
    (results fn ts).run P w = .ok (if h : us.toArray.size = 1 then us.toArray[0] else .tuple us.toArray) w := by
 have e : results fn ts = (do let vs ← fn.results.mapM (Qvu ts); pure (if h : vs.size = 1 then vs[0] else .tuple vs)) := by
  unfold results
  congr 2
 have e2 : fn.results.mapM (Qvu ts) = List.toArray <$> fn.results.toList.mapM (Qvu ts) := by rw [← List.mapM_toArray]
 rw [e, e2]
 simp only [Sem.run_bind, Sem.run_map, h, Result.andThen_ok, Sem.run_pure]
def TV.list : TV → List SV
 | .one v => [v]
 | .tup vs => vs
theorem Qta (xs : List SV) : ((Ql7 xs).list.length = 1) = (∃ x, Ql7 xs = .one x) := by
 match xs with
 | [] => simp [Ql7, TV.list]
 | [x] => simp [Ql7, TV.list]
 | x :: y :: r => simp [Ql7, TV.list]
def Left (R : Fr) (G : Hp) (K : KT) (e : Ending) (w' : World) : Prop := ∃ v G' γ' tv s', e = .returned v ∧ Hp.le G G' ∧ K tv s' ∧ tv.rel G' γ' v ∧ Qdi R G' γ' s'.mem w' ∧ (tv.list.length = 1) = (∃ x, tv = .one x)
theorem Qns {E : Env} {f : FuncId} {fn : Func} {args : List SV} {mem : List (Nat × Box)} {pins : List Nat} {K : KT} (hf : E.P.funcs[f]? = some fn) (h : vFn E fn args mem pins K) {R : Fr} {G : Hp} {γ : Nat → Value} {w : World} {vs : List Value}
    (hm : Qdi R G γ mem w) (hv : Qcv G γ args vs) (hpn : ∀ i, R.pin i ≠ none → i ∈ pins) : Calls E.P f vs.toArray w (Left R G K) := by
 unfold vFn at h
 split at h
 ·rename_i c hb
  obtain ⟨hfit, hlen, h⟩ := h
  have hvl := hv.len
  refine calls_of_wp hf hb (wp_mono (Qcw (R := R) (G := G) (γ := γ) c h hfit ?_ ?_) ?_)
  ·refine ⟨?_, hm, rfl, hpn⟩
   intro i
   have := Qnd args vs 0 i hv
   simp only [Nat.zero_le, if_true, Nat.sub_zero] at this
   have e : (vs.toArray ++ Array.replicate (fn.ntmps - vs.toArray.size) undef).getD i undef = (vs[i]?).getD undef := by
    rw [Array.getD_eq_getD_getElem?, Array.getElem?_append]
    by_cases h1 : i < vs.toArray.size
    ·rw [if_pos h1]; simp
    ·rw [if_neg h1, Array.getElem?_replicate]
     have h2 : vs[i]? = none := by simp at h1 ⊢; exact h1
     rw [h2]
     split <;> rfl
   rw [e]; exact this
  ·simp only [Array.size_append, Array.size_replicate, List.size_toArray]; omega
  ·rintro e a' w' ⟨G', γ', s', hg, hK, hs', _⟩
   have fin : Qnt E.toCtx s' fn.results.toList (fun vs => K (Ql7 vs) s') → a'.defers = [] ∧ ∃ v, (results fn a'.tmps).run E.P w' = .ok v w' ∧ Left R G K (.returned v) w' := by
    intro hr
    obtain ⟨xs, us, hf, hrel, hrun⟩ := Qhx hs' hr
    exact ⟨hs'.df, _, Qo5 hrun, _, G', γ', _, s', rfl, hg, hf, Qsw hrel, hs'.mem, Qta xs⟩
   cases e <;> first | exact fin hK | exact hK.elim
 ·exact h.elim
def Qni (v : SV) : LV → Prop
 | .dat R x => v.isAgg = R.agg ∧ asR R v fun y => y = x
 | r => v = .l r
def Qdo : List SV → List LV → Prop
 | [], [] => True
 | v :: vs, r :: rs => Qni v r ∧ Qdo vs rs
 | _, _ => False
def tvL : List LV → TV
 | [r] => .one (.l r)
 | rs => .tup (rs.map .l)
theorem LV.plain_of {x : LV} {G : Hp} {γ : Nat → Value} {u : Value} (h : x.rel G γ [u]) : Rep.plainCell u = true := LV.rel_plain h u (by simp)
theorem SV.agg_shape {v : SV} {G : Hp} {γ : Nat → Value} {u : Value} (hv : v.rel G γ u) (hu : v ≠ .l .undef) : (v.isAgg = true → ∃ cs : List Value, u = .agg cs.toArray) ∧ (v.isAgg = false → Rep.plainCell u = true) := by
 cases v with
 | agg xs => obtain ⟨cs, _, e⟩ := hv; exact ⟨fun _ => ⟨cs, e⟩, fun h => by simp [SV.isAgg] at h⟩
 | l x =>
  cases x
  case dat R y =>
   obtain ⟨cs, hc, e⟩ := hv
   refine ⟨fun h => ⟨cs, ?_⟩, fun h => ?_⟩
   ·have : R.agg = true := h
    rw [e]; simp [Rep.mk, this]
   ·have h' : R.agg = false := h
    have hl := R.enc_length hc
    rw [R.size_of_not_agg h'] at hl
    match cs, hl with
    | [c], _ => rw [e]; simp only [Rep.mk, h', Bool.false_eq_true, if_false, List.headD_cons]; exact R.enc_plain hc c (by simp)
  case undef => exact absurd rfl hu
  case int k n => exact ⟨fun h => by simp [SV.isAgg, LV.isAgg] at h, fun _ => LV.plain_of (x := .int k n) (γ := γ) (G := G) hv⟩
  case bool b => exact ⟨fun h => by simp [SV.isAgg, LV.isAgg] at h, fun _ => LV.plain_of (x := .bool b) (γ := γ) (G := G) hv⟩
  case str b => exact ⟨fun h => by simp [SV.isAgg, LV.isAgg] at h, fun _ => LV.plain_of (x := .str b) (γ := γ) (G := G) hv⟩
  case nils => exact ⟨fun h => by simp [SV.isAgg, LV.isAgg] at h, fun _ => LV.plain_of (x := .nils) (γ := γ) (G := G) hv⟩
  case emps => exact ⟨fun h => by simp [SV.isAgg, LV.isAgg] at h, fun _ => LV.plain_of (x := .emps) (γ := γ) (G := G) hv⟩
  case own i => exact ⟨fun h => by simp [SV.isAgg, LV.isAgg] at h, fun _ => LV.plain_of (x := .own i) (γ := γ) (G := G) hv⟩
  case ptr i p q => exact ⟨fun h => by simp [SV.isAgg, LV.isAgg] at h, fun _ => LV.plain_of (x := .ptr i p q) (γ := γ) (G := G) hv⟩
  case nilp => exact ⟨fun h => by simp [SV.isAgg, LV.isAgg] at h, fun _ => LV.plain_of (x := .nilp) (γ := γ) (G := G) hv⟩
  case eptr A y p q => exact ⟨fun h => by simp [SV.isAgg, LV.isAgg] at h, fun _ => LV.plain_of (x := .eptr A y p q) (γ := γ) (G := G) hv⟩
  case view i p q n lo len => exact ⟨fun h => by simp [SV.isAgg, LV.isAgg] at h, fun _ => LV.plain_of (x := .view i p q n lo len) (γ := γ) (G := G) hv⟩
  case ocut i n => exact ⟨fun h => by simp [SV.isAgg, LV.isAgg] at h, fun _ => LV.plain_of (x := .ocut i n) (γ := γ) (G := G) hv⟩
  case nilm => exact ⟨fun h => by simp [SV.isAgg, LV.isAgg] at h, fun _ => LV.plain_of (x := .nilm) (γ := γ) (G := G) hv⟩
  case mrow m V k => exact ⟨fun h => by simp [SV.isAgg, LV.isAgg] at h, fun _ => LV.plain_of (x := .mrow m V k) (γ := γ) (G := G) hv⟩
  case mcut m V k n => exact ⟨fun h => by simp [SV.isAgg, LV.isAgg] at h, fun _ => LV.plain_of (x := .mcut m V k n) (γ := γ) (G := G) hv⟩
  case clo f c => exact ⟨fun h => by simp [SV.isAgg, LV.isAgg] at h, fun _ => LV.plain_of (x := .clo f c) (γ := γ) (G := G) hv⟩
  case mp i => exact ⟨fun h => by simp [SV.isAgg, LV.isAgg] at h, fun _ => LV.plain_of (x := .mp i) (γ := γ) (G := G) hv⟩
theorem Qni.rel {v : SV} {r : LV} (h : Qni v r) {G : Hp} {γ : Nat → Value} {u : Value} (hv : v.rel G γ u) : (SV.l r).rel G γ u := by
 cases r <;> simp only [Qni] at h
 case dat R x =>
  obtain ⟨hag, h⟩ := h
  by_cases hu : v = .l .undef
  ·subst hu
   unfold asR at h
   obtain ⟨a, h, _⟩ := Qef R h
   exact absurd h (by simp)
  ·obtain ⟨y, rfl, hy⟩ := Qek h hv
   obtain ⟨h1, h2⟩ := SV.agg_shape hv hu
   cases hR : R.agg
   ·have hp := h2 (hag.trans hR)
    rw [Qd5 hp] at hy
    exact ⟨[u], hy, by simp [Rep.mk, hR]⟩
   ·obtain ⟨cs, rfl⟩ := h1 (hag.trans hR)
    exact ⟨cs, hy, by simp [Rep.mk, hR]⟩
 all_goals (subst h; exact hv)
theorem Qdo.rel : ∀ {vs : List SV} {rs : List LV} {G : Hp} {γ : Nat → Value} {us : List Value}, Qdo vs rs → Qcv G γ vs us → Qcv G γ (rs.map .l) us
 | [], [], G, γ, us, h, hv => hv
 | [], _ :: _, _, _, _, h, _ => h.elim
 | _ :: _, [], _, _, _, h, _ => h.elim
 | v :: vs, r :: rs, G, γ, us, ⟨h1, h2⟩, ⟨u, us', e', hx, hr⟩ => ⟨u, us', e', h1.rel hx, h2.rel hr⟩
def LV.frz (mem : List (Nat × Box)) : LV → LV
 | .own id => match Qco mem id with
  | some (.arr A l) => .dat (.slice A) l
  | _ => .own id
 | x => x
def SV.frz (mem : List (Nat × Box)) : SV → SV
 | .l x => .l (x.frz mem)
 | .agg xs => .agg (xs.map (LV.frz mem))
def Qdg (G : Hp) (fr : Nat → Hp) : List Nat → Hp
 | [] => G
 | i :: r => fun b => (Qdg G fr r b).or (fr i b)
theorem Qei {G : Hp} {fr : Nat → Hp} : ∀ (ids : List Nat), Hp.le G (Qdg G fr ids)
 | [] => Hp.le_refl G
 | i :: r => fun b o h => by simp only [Qdg, Qei r b o h, Option.some_or]
theorem Ok.freezeAll {w : World} {G : Hp} {R : Fr} {fr : Nat → Hp} : ∀ {ids : List Nat}, ids.Nodup → Ok w G R ids fr → Ok w (Qdg G fr ids) R [] fr ∧ ∀ i ∈ ids, Hp.le (fr i) (Qdg G fr ids)
 | [], _, h => ⟨h, by simp⟩
 | i :: r, hn, h => by
  simp only [List.nodup_cons] at hn
  have hr := Ok.freezeAll hn.2 (h.sub (ids' := r) (by intro j hj; simp [hj]))
  have disj : ∀ b, fr i b ≠ none → Qdg G fr r b = none := by
   intro b hb
   have key : ∀ q : List Nat, (∀ j ∈ q, j ∈ r) → Qdg G fr q b = none := by
    intro q
    induction q with
    | nil => intro _; exact h.gf i (by simp) b hb
    | cons j q ih =>
     intro hq
     have hj : j ∈ r := hq j (by simp)
     have e : fr j b = none := h.ff i (by simp) j (by simp [hj]) (fun e => hn.1 (e ▸ hj)) b hb
     simp only [Qdg, ih (fun k hk => hq k (by simp [hk])), e, Option.or_none]
   exact key r (fun _ h => h)
  refine ⟨⟨?_, h.r, ?_, by simp, by simp, by simp, by simp, h.os, h.out⟩, ?_⟩
  ·intro b o hb
   simp only [Qdg] at hb
   cases hu : Qdg G fr r b with
   | some x => rw [hu] at hb; simp only [Option.some_or, Option.some.injEq] at hb; subst hb; exact hr.1.g b _ hu
   | none => rw [hu] at hb; simp only [Option.none_or] at hb; exact h.f i (by simp) b o hb
  ·intro b hb
   simp only [Qdg] at hb
   cases hu : Qdg G fr r b with
   | some x => exact hr.1.gr b (by simp [hu])
   | none => rw [hu] at hb; simp only [Option.none_or] at hb; exact h.rf i (by simp) b hb
  ·intro j hj b o hb
   rcases List.mem_cons.1 hj with rfl | hj
   ·simp only [Qdg, disj b (by simp [hb]), Option.none_or, hb]
   ·simp only [Qdg, hr.2 j hj b o hb, Option.some_or]
end Go.Proofs.Ytnmjcdlgfimnaaa
namespace Go.Proofs.Ytnmjcdlgfimnaaa
def Qck (P : Program) (f : FuncId) (args rets : List LV) : Prop :=
 Qcp P f ∧ ∀ (R : Fr) (G : Hp) (w : World) (vs : List Value), Ok w G R [] (fun _ => emp) → Qcv G (fun _ => undef) (args.map .l) vs →
  Calls P f vs.toArray w fun e w' => ∃ v G', e = .returned v ∧ Hp.le G G' ∧ (tvL rets).rel G' (fun _ => undef) v ∧ Ok w' G' R [] (fun _ => emp)
def Qg6 (l : List LV) : Bool := l.all fun x => x.ids.isEmpty
theorem Qi0 {l : List LV} (h : Qg6 l = true) : Qb1 (l.map .l) = [] := by
 simp only [Qg6, List.all_eq_true, List.isEmpty_iff] at h
 simp only [Qb1, List.flatMap_eq_nil_iff, List.mem_map]
 rintro x ⟨y, hy, rfl⟩
 exact h y hy
theorem Qf9 {l : List LV} (h : Qg6 l = true) : (tvL l).ids = [] := by
 unfold tvL
 split
 ·rename_i r
  simp only [Qg6, List.all_cons, List.all_nil, Bool.and_true, List.isEmpty_iff] at h
  exact h
 ·exact Qi0 h
theorem Qqm {R : Fr} {G : Hp} {γ : Nat → Value} {mem : List (Nat × Box)} {w : World} (h : Qdi R G γ mem w) :
    ∃ R' : Fr, Ok w G R' [] (fun _ => emp) ∧ ∀ {w' : World} {G' : Hp}, Hp.le G G' → Ok w' G' R' [] (fun _ => emp) → Qdi R G' γ mem w' := by
 obtain ⟨fr, hn, hpin, hat, hok⟩ := h
 classical
 refine ⟨⟨fun b => if G b = none then Qeh w b else none, R.os, R.out, fun _ => none⟩, ⟨hok.g, ?_, ?_, by simp, by simp, by simp, by simp, hok.os, hok.out⟩, ?_⟩
 ·intro b o hb
  by_cases e : G b = none <;> simp_all
 ·intro b hb
  simp [hb]
 ·intro w' G' hg hok'
  have keep : ∀ H : Hp, Hp.le H (Qeh w) → (∀ b, H b ≠ none → G b = none) → Hp.le H (Qeh w') ∧ ∀ b, H b ≠ none → G' b = none := by
   intro H hH hd
   have hr : ∀ b o, H b = some o → (fun b => if G b = none then Qeh w b else none) b = some o := by
    intro b o hb
    have := hd b (by simp [hb])
    simp only [this, if_true]
    exact hH b o hb
   refine ⟨fun b o hb => hok'.r b o (hr b o hb), fun b hb => ?_⟩
   cases hg' : G' b with
   | none => rfl
   | some x =>
    obtain ⟨o, ho⟩ := Option.ne_none_iff_exists'.1 hb
    have := hok'.gr b (by simp [hg'])
    have h2 := hr b o ho
    exact absurd (this.symm.trans h2) (by simp)
  have hRd : ∀ b, R.hp b ≠ none → G b = none := by
   intro b hb
   cases hg : G b with
   | none => rfl
   | some x => exact absurd (hok.gr b (by simp [hg])) hb
  obtain ⟨hR1, hR2⟩ := keep R.hp hok.r hRd
  refine ⟨fr, hn, hpin, fun e he => Box.at_mono hg (hat e he), ⟨hok'.g, hR1, ?_, ?_, ?_, hok.rf, hok.ff, hok'.os, hok'.out⟩⟩
  ·intro b hb
   cases hr : R.hp b with
   | none => rfl
   | some x => exact absurd (hR2 b (by simp [hr])) hb
  ·intro i hi
   exact (keep (fr i) (hok.f i hi) (hok.gf i hi)).1
  ·intro i hi
   exact (keep (fr i) (hok.f i hi) (hok.gf i hi)).2
theorem Qc4.grow {R : Fr} {G G' : Hp} {γ : Nat → Value} {s : Qan} {a : Act} {w w' : World} (hs : Qc4 R G γ s a w) (hg : Hp.le G G') (hm : Qdi R G' γ s.mem w') : Qc4 R G' γ s a w' :=
 ⟨fun i => TV.rel_mono hg (hs.sl i), hm, hs.df, hs.pn⟩
theorem LV.frz_rel {G : Hp} {γ : Nat → Value} {mem : List (Nat × Box)} {fr : Nat → Hp} (hat : ∀ e ∈ mem, e.2.at G γ (γ e.1) (fr e.1)) {G' : Hp} (hg : Hp.le G G') (hf : ∀ i ∈ Qao mem, Hp.le (fr i) G')
    {x : LV} {cs : List Value} (h : x.rel G γ cs) : (x.frz mem).rel G' γ cs := by
 cases x
 case own id =>
  have e0 : (LV.own id).frz mem = match Qco mem id with
   | some (.arr A l) => .dat (.slice A) l
   | _ => .own id := rfl
  rw [e0]
  split
  ·rename_i α A l hm
   have hmem := Qca hm
   obtain ⟨e, _⟩ := h
   have hat' := hat _ hmem
   have hle := hf id (List.mem_map.2 ⟨_, hmem, rfl⟩)
   refine (Rep.enc_slice A G' l cs).2 ?_
   rcases hat' with ⟨b, t, es, sp, c, e1, ef, hl, hn, hmx, hsp⟩ | ⟨rfl, e1, _⟩
   ·refine ⟨some ⟨b, 0, none⟩, c, by rw [e, e1], hn, hmx, by simp, .inr ⟨b, [], es, sp, t, (0, 0), rfl, ?_, EncL.mono (fun _ _ h => A.enc_mono hg h) hl⟩⟩
    refine hle b _ ?_
    simp only at ef
    rw [ef]; simp [sng]
   ·obtain ⟨ad, e1⟩ := e1
    exact ⟨ad, 0, by rw [e, e1]; rfl, by simp, Nat.zero_le _, fun _ => rfl, .inl rfl⟩
  ·exact LV.rel_mono hg h
 all_goals exact LV.rel_mono hg h
theorem LV.frz_relV {G : Hp} {γ : Nat → Value} {mem : List (Nat × Box)} {fr : Nat → Hp} (hat : ∀ e ∈ mem, e.2.at G γ (γ e.1) (fr e.1)) {G' : Hp} (hg : Hp.le G G') (hf : ∀ i ∈ Qao mem, Hp.le (fr i) G')
    {x : LV} {v : Value} (h : x.relV G γ v) : (x.frz mem).relV G' γ v := by
 cases x
 case own id =>
  refine LV.relV_of ?_ (LV.frz_rel hat hg hf (x := .own id) h)
  have e0 : (LV.own id).frz mem = match Qco mem id with
   | some (.arr A l) => .dat (.slice A) l
   | _ => .own id := rfl
  rw [e0]
  split <;> rfl
 all_goals exact LV.relV_mono hg h
theorem Qb5.frz {G : Hp} {γ : Nat → Value} {mem : List (Nat × Box)} {fr : Nat → Hp} (hat : ∀ e ∈ mem, e.2.at G γ (γ e.1) (fr e.1)) {G' : Hp} (hg : Hp.le G G') (hf : ∀ i ∈ Qao mem, Hp.le (fr i) G') :
    ∀ {l : List LV} {cs : List Value}, Qb5 G γ l cs → Qb5 G' γ (l.map (LV.frz mem)) cs
 | [], _, h => h
 | _ :: _, _, ⟨c, d, e, hx, hl⟩ => ⟨c, d, e, LV.frz_rel hat hg hf hx, Qb5.frz hat hg hf hl⟩
theorem SV.frz_rel {G : Hp} {γ : Nat → Value} {mem : List (Nat × Box)} {fr : Nat → Hp} (hat : ∀ e ∈ mem, e.2.at G γ (γ e.1) (fr e.1)) {G' : Hp} (hg : Hp.le G G') (hf : ∀ i ∈ Qao mem, Hp.le (fr i) G')
    {x : SV} {v : Value} (h : x.rel G γ v) : (x.frz mem).rel G' γ v := by
 cases x with
 | l x => exact LV.frz_relV hat hg hf h
 | agg xs => obtain ⟨cs, hc, e⟩ := h; exact ⟨cs, hc.frz hat hg hf, e⟩
theorem Qcv.frz {G : Hp} {γ : Nat → Value} {mem : List (Nat × Box)} {fr : Nat → Hp} (hat : ∀ e ∈ mem, e.2.at G γ (γ e.1) (fr e.1)) {G' : Hp} (hg : Hp.le G G') (hf : ∀ i ∈ Qao mem, Hp.le (fr i) G') :
    ∀ {xs : List SV} {vs : List Value}, Qcv G γ xs vs → Qcv G' γ (xs.map (SV.frz mem)) vs
 | [], _, h => h
 | _ :: _, _, ⟨v, r, e, hx, hr⟩ => ⟨v, r, e, SV.frz_rel hat hg hf hx, Qcv.frz hat hg hf hr⟩
theorem Qrc {G : Hp} {γ : Nat → Value} {tv : TV} {mem : List (Nat × Box)} {rets : List LV} {v : Value} {G' : Hp} {fr : Nat → Hp} (hat : ∀ e ∈ mem, e.2.at G γ (γ e.1) (fr e.1)) (hg : Hp.le G G') (hf : ∀ i ∈ Qao mem, Hp.le (fr i) G')
    (h : tv.rel G γ v) (hr : Qdo (tv.list.map (SV.frz mem)) rets) (hone : (tv.list.length = 1) = (∃ x, tv = .one x)) : (tvL rets).rel G' γ v := by
 cases tv with
 | one x =>
  have h1 : Qcv G' γ [x.frz mem] [v] := ⟨v, [], rfl, SV.frz_rel hat hg hf h, rfl⟩
  have h2 := Qdo.rel hr h1
  match rets, hr, h2 with
  | [r], _, h2 =>
   obtain ⟨u, us, e, hx, _⟩ := h2
   simp only [List.cons.injEq] at e
   rw [e.1]; exact hx
  | r :: r' :: q, hr, _ => exact hr.2.elim
  | [], hr, _ => exact hr.elim
 | tup xs =>
  obtain ⟨vs, hv, rfl⟩ := h
  have h2 := Qdo.rel hr (hv.frz hat hg hf)
  have hlen : rets.length = xs.length := by
   have a := h2.len
   have b := hv.len
   simp only [List.length_map] at a
   omega
  unfold tvL
  split
  ·rename_i r
   exfalso
   have : ∃ x, TV.tup xs = .one x := by rw [← hone]; simp only [TV.list]; simpa using hlen.symm
   obtain ⟨x, hx⟩ := this
   cases hx
  ·exact ⟨vs, h2, rfl⟩
theorem Qck.of {E : Env} {f : FuncId} {fn : Func} {args rets : List LV} (hf : E.P.funcs[f]? = some fn) (hi : Qcp E.P f) (hr : Qg6 rets = true)
    (h : vFn E fn (args.map .l) [] [] fun tv s => Qdo (tv.list.map (SV.frz s.mem)) rets) : Qck E.P f args rets := by
 refine ⟨hi, ?_⟩
 intro R G w vs hok hv
 have hm : Qdi { R with pin := fun _ => none } G (fun _ => undef) [] w := ⟨fun _ => emp, by simp [Qao], by simp, by simp, ⟨hok.g, hok.r, hok.gr, by simp [Qao], by simp [Qao], by simp [Qao], by simp [Qao], hok.os, hok.out⟩⟩
 refine (Qns hf h hm hv (by simp)).mono ?_
 rintro e w' ⟨v, G', γ', tv, s', rfl, hg, hret, hrel, ⟨fr, hn, _, hat, hok'⟩, hone⟩
 obtain ⟨hok2, hle⟩ := hok'.freezeAll hn
 have := Qrc hat (Qei (Qao s'.mem)) hle hrel hret hone
 refine ⟨v, _, rfl, Hp.le_trans hg (Qei (Qao s'.mem)), TV.rel_congr (by rw [Qf9 hr]; simp) this, ?_⟩
 exact ⟨hok2.g, hok2.r, hok2.gr, by simp, by simp, by simp, by simp, hok2.os, hok2.out⟩
theorem Qck.of' {E : Env} {f : FuncId} {fn : Func} {args rets : List LV} {body : Code} {res : List ResultVar} (hf : E.P.funcs[f]? = some fn) (hi : Qcp E.P f) (hb : fn.body = some body) (hres : fn.results.toList = res) (hr : Qg6 rets = true)
    (hfit : Qch fn.ntmps body = true) (hlen : Nat.ble args.length fn.ntmps = true)
    (h : Qa9 E body ⟨Qcu 0 (args.map .l), [], []⟩ fun e s => match e with
     | .normal => Qnt E.toCtx s res fun vs => Qdo ((Ql7 vs).list.map (SV.frz s.mem)) rets
     | .ret => Qnt E.toCtx s res fun vs => Qdo ((Ql7 vs).list.map (SV.frz s.mem)) rets
     | _ => False) : Qck E.P f args rets := by
 refine Qck.of hf hi hr ?_
 subst hres
 unfold vFn
 rw [hb]
 exact ⟨hfit, by simpa using Nat.le_of_ble_eq_true hlen, h⟩
def Rep.argL : {α : Type} → Rep α → α → List LV
 | _, .pair A B, x => A.leaf x.1 :: B.argL x.2
 | _, _, _ => []
def Qdh : {α : Type} → Rep α → List SV → (α → Prop) → Prop
 | _, .unit, vs, f => match vs with
  | [] => f ()
  | _ => False
 | _, .pair A B, vs, f => match vs with
  | v :: r => v.isAgg = A.agg ∧ asR A v fun a => Qdh B r fun b => f (a, b)
  | [] => False
 | _, _, _, _ => False
theorem Rep.leaf_noIds : {α : Type} → (A : Rep α) → (x : α) → (A.leaf x).ids = []
 | _, .int _, _ => rfl
 | _, .bool, _ => rfl
 | _, .str, _ => rfl
 | _, .unit, _ => rfl
 | _, .pair _ _, _ => rfl
 | _, .arr _ _, _ => rfl
 | _, .slice _, _ => rfl
 | _, .iso A to of h h', y => by
  unfold Rep.leaf
  cases A.scalar
  ·rfl
  ·exact A.leaf_noIds (to y)
theorem Rep.argL_noIds : {α : Type} → (A : Rep α) → (x : α) → Qg6 (A.argL x) = true
 | _, .pair A B, x => by
  have := B.argL_noIds x.2
  simp only [Qg6, argL, List.all_cons, Bool.and_eq_true, A.leaf_noIds, List.isEmpty_nil, true_and] at this ⊢
  exact this
 | _, .int _, _ => rfl
 | _, .bool, _ => rfl
 | _, .str, _ => rfl
 | _, .unit, _ => rfl
 | _, .arr _ _, _ => rfl
 | _, .slice _, _ => rfl
 | _, .iso _ _ _ _ _, _ => rfl
theorem Rep.leaf_isAgg : {α : Type} → (A : Rep α) → (x : α) → (A.leaf x).isAgg = A.agg
 | _, .int _, _ => rfl
 | _, .bool, _ => rfl
 | _, .str, _ => rfl
 | _, .unit, _ => rfl
 | _, .pair _ _, _ => rfl
 | _, .arr _ _, _ => rfl
 | _, .slice _, _ => rfl
 | _, .iso A to of h h', y => by
  unfold Rep.leaf
  cases hs : A.scalar
  ·rfl
  ·exact A.leaf_isAgg (to y)
theorem Qvx {α : Type} {A : Rep α} {v : SV} {f : α → Prop} (h : asR A v f) (ha : v.isAgg = A.agg) {G : Hp} {γ : Nat → Value} {u : Value} (hv : v.rel G γ u) : ∃ x, f x ∧ (SV.l (A.leaf x)).rel G γ u := by
 have hu : v ≠ .l .undef := by
  rintro rfl
  unfold asR at h
  obtain ⟨a, h, _⟩ := Qef A h
  exact absurd h (by simp)
 obtain ⟨y, hf, hy⟩ := Qek h hv
 obtain ⟨h1, h2⟩ := SV.agg_shape hv hu
 refine ⟨y, hf, ?_⟩
 have hl := (A.leaf_rel G γ y _).2 hy
 cases hA : A.agg
 ·have hp := h2 (ha.trans hA)
  rw [Qd5 hp] at hl
  exact LV.relV_of ((A.leaf_isAgg y).trans hA) hl
 ·obtain ⟨cs, rfl⟩ := h1 (ha.trans hA)
  have hag := (A.leaf_isAgg y).trans hA
  show (A.leaf y).relV G γ _
  revert hl hag
  cases A.leaf y <;> intro hl hag <;> simp only [LV.isAgg, Bool.false_eq_true] at hag
  case dat B z => exact ⟨cs, hl, by simp [Rep.mk, hag]⟩
theorem Qcx : {α : Type} → (A : Rep α) → {vs : List SV} → {f : α → Prop} → Qdh A vs f → {G : Hp} → {γ : Nat → Value} → {us : List Value} → Qcv G γ vs us → ∃ x, f x ∧ Qcv G γ ((A.argL x).map .l) us
 | _, .unit, vs, f, h, G, γ, us, hv => by
  unfold Qdh at h
  split at h
  ·exact ⟨(), h, hv⟩
  ·exact h.elim
 | _, .pair A B, vs, f, h, G, γ, us, hv => by
  unfold Qdh at h
  split at h
  ·rename_i v r
   obtain ⟨ha, h⟩ := h
   obtain ⟨u, us', rfl, hx, hr⟩ := hv
   obtain ⟨x, h, hx'⟩ := Qvx h ha hx
   obtain ⟨y, h, hy⟩ := Qcx B h hr
   exact ⟨(x, y), h, u, us', rfl, hx', hy⟩
  ·exact h.elim
 | _, .int _, _, _, h, _, _, _, _ => by simp [Qdh] at h
 | _, .bool, _, _, h, _, _, _, _ => by simp [Qdh] at h
 | _, .str, _, _, h, _, _, _, _ => by simp [Qdh] at h
 | _, .arr _ _, _, _, h, _, _, _, _ => by simp [Qdh] at h
 | _, .slice _, _, _, h, _, _, _, _ => by simp [Qdh] at h
 | _, .iso _ _ _ _ _, _, _, h, _, _, _, _ => by simp [Qdh] at h
def LV.flat : LV → Bool
 | .int _ _ => true
 | .bool _ => true
 | .str _ => true
 | .nils => true
 | .nilp => true
 | .dat R _ => R.flat
 | _ => false
theorem LV.flat_relV {x : LV} (h : x.flat = true) {G : Hp} {γ : Nat → Value} {v : Value} (hv : x.relV G γ v) (G' : Hp) (γ' : Nat → Value) : x.relV G' γ' v := by
 cases x <;> simp only [LV.flat, Bool.false_eq_true] at h
 case dat R y => obtain ⟨cs, hc, e⟩ := hv; exact ⟨cs, R.enc_flat h G' hc, e⟩
 all_goals exact hv
theorem Qcv.flat {G : Hp} {γ : Nat → Value} : ∀ {l : List LV} {us : List Value}, l.all LV.flat = true → Qcv G γ (l.map .l) us → ∀ (G' : Hp) (γ' : Nat → Value), Qcv G' γ' (l.map .l) us
 | [], _, _, h, _, _ => h
 | x :: l, _, hf, ⟨v, r, e, hx, hr⟩, G', γ' => by
  simp only [List.all_cons, Bool.and_eq_true] at hf
  exact ⟨v, r, e, LV.flat_relV hf.1 hx G' γ', Qcv.flat hf.2 hr G' γ'⟩
theorem Qpy {l : List LV} (hf : l.all LV.flat = true) {G : Hp} {γ : Nat → Value} {v : Value} (h : (tvL l).rel G γ v) (G' : Hp) (γ' : Nat → Value) : (tvL l).rel G' γ' v := by
 match l, hf, h with
 | [], _, h => exact h
 | [r], hf, h =>
  simp only [List.all_cons, List.all_nil, Bool.and_true] at hf
  exact LV.flat_relV hf h G' γ'
 | x :: y :: r, hf, h =>
  obtain ⟨vs, hv, e⟩ := h
  exact ⟨vs, Qcv.flat hf hv G' γ', e⟩
theorem Q0j {R : Fr} {G : Hp} {γ : Nat → Value} {fr : Nat → Hp} {mem : List (Nat × Box)} {w : World} (h : Qf4 R G γ fr mem w) :
    Ok w (Qdg G fr (Qao mem)) R [] (fun _ => emp) ∧ ∀ {w' : World} {G' : Hp}, Hp.le (Qdg G fr (Qao mem)) G' → Ok w' G' R [] (fun _ => emp) → ∃ G2, Hp.le G G2 ∧ Qdi R G2 γ mem w' := by
 obtain ⟨hnd, hpin, hat, hok⟩ := h
 obtain ⟨hok2, hle⟩ := hok.freezeAll hnd
 refine ⟨⟨hok2.g, hok2.r, hok2.gr, by simp, by simp, by simp, by simp, hok2.os, hok2.out⟩, ?_⟩
 intro w' G' hg hok'
 classical
 let G2 : Hp := fun b => if ∃ i ∈ Qao mem, fr i b ≠ none then none else G' b
 have hG2 : Hp.le G G2 := by
  intro b o hb
  have hno : ¬ ∃ i ∈ Qao mem, fr i b ≠ none := by
   rintro ⟨i, hi, hne⟩
   rw [hok.gf i hi b hne] at hb; simp at hb
  simp only [G2, if_neg hno]
  exact hg b o (Qei _ b o hb)
 have hG2' : ∀ b, G2 b ≠ none → G' b ≠ none := by
  intro b hb
  simp only [G2] at hb
  split at hb
  ·simp at hb
  ·exact hb
 refine ⟨G2, hG2, fr, hnd, hpin, fun e he => Box.at_mono hG2 (hat e he), ⟨?_, hok'.r, fun b hb => hok'.gr b (hG2' b hb), ?_, ?_, hok.rf, hok.ff, hok'.os, hok'.out⟩⟩
 ·intro b o hb
  simp only [G2] at hb
  split at hb
  ·simp at hb
  ·exact hok'.g b o hb
 ·intro i hi b o hb
  exact hok'.g b o (hg b o (hle i hi b o hb))
 ·intro i hi b hb
  simp only [G2, if_pos (⟨i, hi, hb⟩ : ∃ i ∈ Qao mem, fr i b ≠ none)]
def Qkl : List SV → List Nat
 | [] => []
 | v :: r => Qsv v.leaves ++ Qkl r
def Qg7 : List Nat → Qan → List SV → (Qan → List SV → Prop) → Prop
 | [], s, vs, K => K s vs
 | id :: r, s, vs, K => match Qco s.mem id with
  | some (.arr A l) => Qg7 r (s.freeze id (.dat (.slice A) l)) (vs.map (SV.frzI id (.dat (.slice A) l))) K
  | _ => Qg7 r s vs K
theorem Qdc {R : Fr} {γ : Nat → Value} {a : Act} {w : World} {us : List Value} {K : Qan → List SV → Prop} : ∀ {ids : List Nat} {s : Qan} {vs : List SV} {G : Hp}, Qg7 ids s vs K → Qc4 R G γ s a w → Qcv G γ vs us →
    ∃ G' s' vs', Hp.le G G' ∧ K s' vs' ∧ Qc4 R G' γ s' a w ∧ Qcv G' γ vs' us
 | [], s, vs, G, h, hs, hv => ⟨G, s, vs, Hp.le_refl G, h, hs, hv⟩
 | id :: r, s, vs, G, h, hs, hv => by
  unfold Qg7 at h
  split at h
  ·rename_i α A l hm
   obtain ⟨G1, hg1, hs1, hn⟩ := hs.freeze hm
   obtain ⟨G2, s2, vs2, hg2, hK, hs2, hv2⟩ := Qdc h hs1 (Qcv.frzI hg1 hn rfl hv)
   exact ⟨G2, s2, vs2, Hp.le_trans hg1 hg2, hK, hs2, hv2⟩
  ·exact Qdc h hs hv
end Go.Proofs.Ytnmjcdlgfimnaaa
namespace Go.Proofs.Ytnmjcdlgfimnaaa
def LV.ren (ρ : Nat → Nat) : LV → LV
 | .own i => .own (ρ i)
 | .ptr i p o => .ptr (ρ i) p o
 | .view i p o n lo len => .view (ρ i) p o n lo len
 | .clo f caps => .clo f (caps.map ρ)
 | .mp i => .mp (ρ i)
 | .ocut i n => .ocut (ρ i) n
 | .mrow m V k => .mrow (ρ m) V k
 | .mcut m V k n => .mcut (ρ m) V k n
 | x => x
def SV.ren (ρ : Nat → Nat) : SV → SV
 | .l x => .l (x.ren ρ)
 | .agg xs => .agg (xs.map (LV.ren ρ))
def TV.ren (ρ : Nat → Nat) : TV → TV
 | .one x => .one (x.ren ρ)
 | .tup xs => .tup (xs.map (SV.ren ρ))
def Box.ren (ρ : Nat → Nat) : Box → Box
 | .segs l => .segs (l.map (LV.ren ρ))
 | .sarr k l => .sarr k (l.map (LV.ren ρ))
 | .mpr A M V (some (k, some i)) => .mpr A M V (some (k, some (ρ i)))
 | b => b
def Qer (ρ : Nat → Nat) : List (Nat × Box) → List (Nat × Box)
 | [] => []
 | (i, b) :: r => (ρ i, b.ren ρ) :: Qer ρ r
section
variable {G : Hp} {γ : Nat → Value} {ρ : Nat → Nat}
theorem LV.ren_rel {x : LV} {cs : List Value} : (x.ren ρ).rel G γ cs ↔ x.rel G (fun i => γ (ρ i)) cs := by
 cases x <;> simp [LV.ren, LV.rel, Function.comp_def]
theorem LV.ren_relV {x : LV} {v : Value} : (x.ren ρ).relV G γ v ↔ x.relV G (fun i => γ (ρ i)) v := by
 cases x <;> simp [LV.ren, LV.relV, LV.rel, Function.comp_def]
theorem Qb5.ren : ∀ {l : List LV} {cs : List Value}, Qb5 G γ (l.map (LV.ren ρ)) cs ↔ Qb5 G (fun i => γ (ρ i)) l cs
 | [], _ => Iff.rfl
 | x :: l, cs => by
  constructor
  ·rintro ⟨c, d, e, hx, hl⟩; exact ⟨c, d, e, LV.ren_rel.1 hx, Qb5.ren.1 hl⟩
  ·rintro ⟨c, d, e, hx, hl⟩; exact ⟨c, d, e, LV.ren_rel.2 hx, Qb5.ren.2 hl⟩
theorem SV.ren_rel {x : SV} {v : Value} : (x.ren ρ).rel G γ v ↔ x.rel G (fun i => γ (ρ i)) v := by
 cases x with
 | l x => exact LV.ren_relV
 | agg xs =>
  constructor
  ·rintro ⟨cs, hc, e⟩; exact ⟨cs, Qb5.ren.1 hc, e⟩
  ·rintro ⟨cs, hc, e⟩; exact ⟨cs, Qb5.ren.2 hc, e⟩
theorem Qcv.ren : ∀ {l : List SV} {us : List Value}, Qcv G γ (l.map (SV.ren ρ)) us ↔ Qcv G (fun i => γ (ρ i)) l us
 | [], _ => Iff.rfl
 | x :: l, us => by
  constructor
  ·rintro ⟨v, r, e, hx, hl⟩; exact ⟨v, r, e, SV.ren_rel.1 hx, Qcv.ren.1 hl⟩
  ·rintro ⟨v, r, e, hx, hl⟩; exact ⟨v, r, e, SV.ren_rel.2 hx, Qcv.ren.2 hl⟩
theorem TV.ren_rel {x : TV} {v : Value} : (x.ren ρ).rel G γ v ↔ x.rel G (fun i => γ (ρ i)) v := by
 cases x with
 | one x => exact SV.ren_rel
 | tup xs =>
  constructor
  ·rintro ⟨vs, hv, e⟩; exact ⟨vs, Qcv.ren.1 hv, e⟩
  ·rintro ⟨vs, hv, e⟩; exact ⟨vs, Qcv.ren.2 hv, e⟩
theorem Box.ren_at {x : Box} {v : Value} {f : Hp} : (x.ren ρ).at G γ v f ↔ x.at G (fun i => γ (ρ i)) v f := by
 cases x with
 | segs l =>
  constructor
  ·rintro ⟨b, t, cs, e, ef, hl⟩; exact ⟨b, t, cs, e, ef, Qb5.ren.1 hl⟩
  ·rintro ⟨b, t, cs, e, ef, hl⟩; exact ⟨b, t, cs, e, ef, Qb5.ren.2 hl⟩
 | arr R l => exact Iff.rfl
 | sarr k l =>
  constructor
  ·rintro ⟨b, t, es, sp, c, e, ef, hl, hn⟩; exact ⟨b, t, es, sp, c, e, ef, Qb5.ren.1 hl, hn⟩
  ·rintro ⟨b, t, es, sp, c, e, ef, hl, hn⟩; exact ⟨b, t, es, sp, c, e, ef, Qb5.ren.2 hl, hn⟩
 | obj O D => exact Iff.rfl
 | mpr A M V dead =>
  rcases dead with _ | ⟨k, _ | i⟩
  ·exact ⟨fun h => ⟨h.1, fun k i hd => by simp at hd⟩, fun h => ⟨h.1, fun k i hd => by simp at hd⟩⟩
  ·exact ⟨fun h => ⟨h.1, fun k i hd => by simp at hd⟩, fun h => ⟨h.1, fun k i hd => by simp at hd⟩⟩
  ·constructor
   ·intro h
    refine ⟨h.1, fun k' i' hd => ?_⟩
    simp only [Option.some.injEq, Prod.mk.injEq] at hd
    obtain ⟨rfl, rfl⟩ := hd
    exact h.2 k (ρ i) rfl
   ·intro h
    refine ⟨h.1, fun k' i' hd => ?_⟩
    simp only [Option.some.injEq, Prod.mk.injEq] at hd
    obtain ⟨rfl, rfl⟩ := hd
    exact h.2 k i rfl
end
theorem Ql8 {ρ : Nat → Nat} : ∀ {mem : List (Nat × Box)} {e : Nat × Box}, e ∈ Qer ρ mem → ∃ e' ∈ mem, e = (ρ e'.1, e'.2.ren ρ)
 | [], _, h => by simp [Qer] at h
 | (i, b) :: r, e, h => by
  rcases List.mem_cons.1 h with rfl | h
  ·exact ⟨(i, b), by simp, rfl⟩
  ·obtain ⟨e', h1, h2⟩ := Ql8 h
   exact ⟨e', by simp [h1], h2⟩
theorem Qe2 {ρ : Nat → Nat} : ∀ mem : List (Nat × Box), Qao (Qer ρ mem) = (Qao mem).map ρ
 | [] => rfl
 | (i, b) :: r => by
  show ρ i :: Qao (Qer ρ r) = ρ i :: (Qao r).map ρ
  rw [Qe2 r]
def Qcs (P : Program) (f : FuncId) (args : List SV) (mem : List (Nat × Box)) (tv : TV) (mem' : List (Nat × Box)) : Prop :=
 Qcp P f ∧ ∀ (R : Fr) (G : Hp) (γ : Nat → Value) (w : World) (vs : List Value), (∀ i, R.pin i = if i ∈ Qao mem then some (γ i) else none) → Qdi R G γ mem w → Qcv G γ args vs →
  Calls P f vs.toArray w fun e w' => ∃ v G' γ', e = .returned v ∧ Hp.le G G' ∧ tv.rel G' γ' v ∧ Qdi R G' γ' mem' w'
def Qhk : List Nat → List (Nat × TV) → List (Nat × TV)
 | [], sl => sl
 | i :: r, sl => Qgn i (Qhk r sl)
def Qfe : List Nat → List (Nat × Box) → List (Nat × Box)
 | [], m => m
 | i :: r, m => Qcq i (Qfe r m)
def Qiw : List Nat → List (Nat × Box) → List (Nat × Box)
 | [], m => m
 | i :: r, m => rmM (Qiw r m) i
def Qan.back (s : Qan) (olds news : List Nat) (mem : List (Nat × Box)) : Qan := ⟨Qhk news s.sl, mem ++ Qfe news (Qiw olds s.mem), s.pins⟩
theorem Qk9 {G : Hp} {γ γ' : Nat → Value} : ∀ {ids : List Nat} {sl : List (Nat × TV)} {ts : Array Value}, (∀ i, i ∉ ids → γ' i = γ i) → Qb7 G γ sl ts → Qb7 G γ' (Qhk ids sl) ts
 | [], sl, ts, h, hs => fun i => TV.rel_congr (fun j _ => h j (by simp)) (hs i)
 | k :: r, sl, ts, h, hs => by
  classical
  have h1 : Qb7 G (fun i => if i = k then γ k else γ' i) (Qhk r sl) ts := Qk9 (fun i hi => by
   by_cases e : i = k
   ·simp [e]
   ·simp only [if_neg e]; exact h i (by simp [e, hi])) hs
  exact h1.kill fun i hi => by simp [hi]
theorem Qkz {G : Hp} {γ γ' : Nat → Value} : ∀ {ids : List Nat} {mem : List (Nat × Box)} {e : Nat × Box}, (∀ i, i ∉ ids → γ' i = γ i) → e ∈ Qfe ids mem → e.1 ∉ ids ∧ ∃ b, (e.1, b) ∈ mem ∧ ∀ v f, b.at G γ v f → e.2.at G γ' v f
 | [], mem, e, h, he => ⟨by simp, e.2, he, fun v f hb => Box.at_congr (fun j _ => h j (by simp)) hb⟩
 | k :: r, mem, e, h, he => by
  classical
  obtain ⟨h1, b, h2, h3⟩ := Qc0 he
  obtain ⟨h4, b', h5, h6⟩ := Qkz (G := G) (γ := γ) (γ' := fun i => if i = k then γ k else γ' i) (fun i hi => by
   by_cases e : i = k
   ·simp [e]
   ·simp only [if_neg e]; exact h i (by simp [e, hi])) h2
  refine ⟨by simp [h1, h4], b', h5, fun v f hb => ?_⟩
  rw [h3]
  exact Box.kill_at (fun i hi => by simp [hi]) (h6 v f hb)
theorem Qh3 : ∀ {ids : List Nat} {mem : List (Nat × Box)}, (Qao mem).Nodup → (Qao (Qfe ids mem)).Nodup
 | [], _, h => h
 | _ :: _, _, h => Qd3 (Qh3 h)
theorem Qgu : ∀ {ids : List Nat} {mem : List (Nat × Box)} {e : Nat × Box}, e ∈ Qiw ids mem → e ∈ mem ∧ e.1 ∉ ids
 | [], _, _, h => ⟨h, by simp⟩
 | k :: r, mem, e, h => by
  obtain ⟨h1, h2⟩ := Qdy h
  obtain ⟨h3, h4⟩ := Qgu h1
  exact ⟨h3, by simp [h2, h4]⟩
theorem Qhw : ∀ {ids : List Nat} {mem : List (Nat × Box)}, (Qao mem).Nodup → (Qao (Qiw ids mem)).Nodup
 | [], _, h => h
 | _ :: _, _, h => Qfj (Qhw h)
theorem Qde {P : Program} {f : FuncId} {args as : List SV} {mem mem' : List (Nat × Box)} {tv : TV} {s : Qan} {K : KT} (h : Qcs P f args mem tv mem') (ρ : Nat → Nat) (news : List Nat) (hnd : (Qao mem).Nodup)
    (inj : ∀ i ∈ Qao mem, ∀ j ∈ Qao mem, ρ i = ρ j → i = j) (inj' : ∀ i ∈ Qao mem', ∀ j ∈ Qao mem', ρ i = ρ j → i = j)
    (hn : ∀ j ∈ Qao mem', j ∉ Qao mem → ρ j ∈ news) (hpin : ∀ i ∈ news, i ∉ s.pins)
    (cl : ∀ i ∈ tv.ids, i ∈ Qao mem') (clb : ∀ e ∈ mem', ∀ i ∈ e.2.ids, i ∈ Qao mem')
    (hm : ∀ e ∈ mem, Qco s.mem (ρ e.1) = some (e.2.ren ρ)) (ha : ∀ G γ us, Qcv G γ as us → Qcv G γ (args.map (SV.ren ρ)) us)
    (hK : K (tv.ren ρ) (s.back ((Qao mem).map ρ) news (Qer ρ mem'))) : Wc P f as s K := by
 classical
 refine ⟨h.1, ?_⟩
 intro R G γ a w vs hs hv
 obtain ⟨fr, hmf⟩ := hs.mem
 have hid : ∀ i ∈ Qao mem, ρ i ∈ Qao s.mem := by
  intro i hi
  obtain ⟨e, he, rfl⟩ := List.mem_map.1 hi
  exact List.mem_map.2 ⟨_, Qca (hm e he), rfl⟩
 let γ0 : Nat → Value := fun i => γ (ρ i)
 let Rh : Hp := fun b => if G b = none ∧ ∀ i ∈ Qao mem, fr (ρ i) b = none then Qeh w b else none
 let R' : Fr := ⟨Rh, R.os, R.out, fun i => if i ∈ Qao mem then some (γ0 i) else none⟩
 have hRh : ∀ b, Rh b ≠ none → G b = none ∧ ∀ i ∈ Qao mem, fr (ρ i) b = none := by
  intro b hb
  simp only [Rh] at hb
  split at hb
  ·assumption
  ·simp at hb
 have hRle : ∀ b o, Rh b = some o → Qeh w b = some o := by
  intro b o hb
  simp only [Rh] at hb
  split at hb
  ·exact hb
  ·simp at hb
 have hRin : ∀ b o, Qeh w b = some o → G b = none → (∀ i ∈ Qao mem, fr (ρ i) b = none) → Rh b = some o := by
  intro b o hb h1 h2
  simp only [Rh, if_pos (⟨h1, h2⟩ : G b = none ∧ ∀ i ∈ Qao mem, fr (ρ i) b = none)]
  exact hb
 have hcall : Qf4 R' G γ0 (fun i => fr (ρ i)) mem w := by
  refine ⟨hnd, fun i v hi => ?_, fun e he => ?_, ⟨hmf.ok.g, hRle, fun b hb => ?_, fun i hi => hmf.ok.f _ (hid i hi), fun i hi => hmf.ok.gf _ (hid i hi), fun i hi b hb => ?_, fun i hi j hj hij => hmf.ok.ff _ (hid i hi) _ (hid j hj) fun e => hij (inj i hi j hj e), hmf.ok.os, hmf.ok.out⟩⟩
  ·simp only [R'] at hi
   split at hi
   ·simpa using hi
   ·simp at hi
  ·have := hmf.at' _ (Qca (hm e he))
   exact Box.ren_at.1 this
  ·cases hr : Rh b with
   | none => exact hr
   | some o => exact absurd (hRh b (by simp [hr])).1 hb
  ·cases hr : Rh b with
   | none => exact hr
   | some o => exact absurd ((hRh b (by simp [hr])).2 i hi) hb
 have hargs : Qcv G γ0 args vs := Qcv.ren.1 (ha G γ vs hv)
 refine (h.2 R' G γ0 w vs (fun i => rfl) ⟨_, hcall⟩ hargs).mono ?_
 rintro e w' ⟨v, G', γ1, rfl, hg, hrel, fr1, hmf1⟩
 have hpin1 : ∀ i ∈ Qao mem, γ1 i = γ0 i := fun i hi => hmf1.pin i _ (by simp only [R', if_pos hi])
 let γ2 : Nat → Value := fun k => if hk : ∃ j ∈ Qao mem', ρ j = k then γ1 (Classical.choose hk) else γ k
 let fr2 : Nat → Hp := fun k => if hk : ∃ j ∈ Qao mem', ρ j = k then fr1 (Classical.choose hk) else fr k
 have ch : ∀ j ∈ Qao mem', ∀ hk : ∃ i ∈ Qao mem', ρ i = ρ j, Classical.choose hk = j := fun j hj hk =>
  inj' _ (Classical.choose_spec hk).1 j hj (Classical.choose_spec hk).2
 have g2 : ∀ j ∈ Qao mem', γ2 (ρ j) = γ1 j := by
  intro j hj
  have hk : ∃ i ∈ Qao mem', ρ i = ρ j := ⟨j, hj, rfl⟩
  simp only [γ2, dif_pos hk, ch j hj hk]
 have f2 : ∀ j ∈ Qao mem', fr2 (ρ j) = fr1 j := by
  intro j hj
  have hk : ∃ i ∈ Qao mem', ρ i = ρ j := ⟨j, hj, rfl⟩
  simp only [fr2, dif_pos hk, ch j hj hk]
 have g2' : ∀ k, k ∉ news → γ2 k = γ k := by
  intro k hk
  simp only [γ2]
  split
  ·rename_i hx
   obtain ⟨h1, h2⟩ := Classical.choose_spec hx
   by_cases hin : Classical.choose hx ∈ Qao mem
   ·rw [hpin1 _ hin]
    show γ (ρ _) = γ k
    rw [h2]
   ·exact absurd (h2 ▸ hn _ h1 hin) hk
  ·rfl
 have hcongr : ∀ {x : TV}, (∀ i ∈ x.ids, i ∈ Qao mem') → x.rel G' γ1 v → (x.ren ρ).rel G' γ2 v := fun hx hr =>
  TV.ren_rel.2 (TV.rel_congr (fun i hi => g2 i (hx i hi)) hr)
 -- the other boxes
 have hoth : ∀ {e : Nat × Box}, e ∈ Qfe news (Qiw ((Qao mem).map ρ) s.mem) → e.1 ∈ Qao s.mem ∧ (∀ i ∈ Qao mem, e.1 ≠ ρ i) ∧ (∀ j ∈ Qao mem', e.1 ≠ ρ j) ∧ e.2.at G' γ2 (γ e.1) (fr e.1) := by
  intro e he
  obtain ⟨h1, b, h2, h3⟩ := Qkz (G := G) (γ := γ) (γ' := γ2) g2' he
  obtain ⟨h4, h5⟩ := Qgu h2
  have hne : ∀ i ∈ Qao mem, e.1 ≠ ρ i := fun i hi e1 => h5 (List.mem_map.2 ⟨i, hi, e1.symm⟩)
  refine ⟨List.mem_map.2 ⟨_, h4, rfl⟩, hne, fun j hj e1 => ?_, Box.at_mono hg (h3 _ _ (hmf.at' _ h4))⟩
  by_cases hin : j ∈ Qao mem
  ·exact hne j hin e1
  ·exact h1 (e1 ▸ hn j hj hin)
 have hothid : ∀ {k : Nat}, k ∈ Qao (Qfe news (Qiw ((Qao mem).map ρ) s.mem)) → k ∈ Qao s.mem ∧ (∀ i ∈ Qao mem, k ≠ ρ i) ∧ (∀ j ∈ Qao mem', k ≠ ρ j) := by
  intro k hk
  obtain ⟨e, he, rfl⟩ := List.mem_map.1 hk
  obtain ⟨h1, h2, h3, _⟩ := hoth he
  exact ⟨h1, h2, h3⟩
 have hfo : ∀ {k : Nat}, (∀ j ∈ Qao mem', k ≠ ρ j) → fr2 k = fr k := by
  intro k hk
  have : ¬ ∃ j ∈ Qao mem', ρ j = k := fun ⟨j, hj, e⟩ => hk j hj e.symm
  simp only [fr2, dif_neg this]
 have hgo : ∀ {k : Nat}, (∀ j ∈ Qao mem', k ≠ ρ j) → γ2 k = γ k := by
  intro k hk
  have : ¬ ∃ j ∈ Qao mem', ρ j = k := fun ⟨j, hj, e⟩ => hk j hj e.symm
  simp only [γ2, dif_neg this]
 have hkept : ∀ {k : Nat}, k ∈ Qao s.mem → (∀ i ∈ Qao mem, k ≠ ρ i) → ∀ b o, fr k b = some o → Rh b = some o := by
  intro k hk hne b o hb
  exact hRin b o (hmf.ok.f k hk b o hb) (hmf.ok.gf k hk b (by simp [hb])) fun i hi => hmf.ok.ff k hk _ (hid i hi) (hne i hi) b (by simp [hb])
 have hRkept : ∀ b o, R.hp b = some o → Rh b = some o := by
  intro b o hb
  refine hRin b o (hmf.ok.r b o hb) ?_ fun i hi => ?_
  ·cases hgb : G b with
   | none => rfl
   | some x => exact absurd (hmf.ok.gr b (by simp [hgb])) (by simp [hb])
  ·cases hfb : fr (ρ i) b with
   | none => rfl
   | some x => exact absurd (hmf.ok.rf _ (hid i hi) b (by simp [hfb])) (by simp [hb])
 have hgr' : ∀ b, Rh b ≠ none → G' b = none := by
  intro b hb
  cases hgb : G' b with
  | none => rfl
  | some x => exact absurd (hmf1.ok.gr b (by simp [hgb])) hb
 have hfr' : ∀ j ∈ Qao mem', ∀ b, fr1 j b ≠ none → Rh b = none := fun j hj b hb => hmf1.ok.rf j hj b hb
 refine ⟨v, rfl, G', γ2, _, _, hg, hK, hcongr cl hrel, ⟨?_, ⟨fr2, ?_, ?_, ?_, ?_⟩, hs.df, hs.pn⟩⟩
 ·exact Qk9 g2' fun i => TV.rel_mono hg (hs.sl i)
 ·show (Qao (Qer ρ mem' ++ Qfe news (Qiw ((Qao mem).map ρ) s.mem))).Nodup
  simp only [Qao, List.map_append]
  rw [List.nodup_append]
  refine ⟨?_, Qh3 (Qhw hmf.nd), ?_⟩
  ·show (Qao (Qer ρ mem')).Nodup
   rw [Qe2]
   unfold List.Nodup
   rw [List.pairwise_map]
   exact List.Pairwise.imp_of_mem (fun hi hj hne e => hne (inj' _ hi _ hj e)) hmf1.nd
  ·intro x hx y hy e
   subst e
   have hx' : x ∈ Qao (Qer ρ mem') := hx
   rw [Qe2] at hx'
   obtain ⟨j, hj, rfl⟩ := List.mem_map.1 hx'
   exact (hothid hy).2.2 j hj rfl
 ·intro i u hi
  have h1 := hmf.pin i u hi
  have h2 : i ∈ s.pins := hs.pn i (by simp [hi])
  rw [g2' i (fun hin => hpin i hin h2)]
  exact h1
 ·intro e he
  rcases List.mem_append.1 he with he | he
  ·obtain ⟨e', h1, rfl⟩ := Ql8 he
   have hj : e'.1 ∈ Qao mem' := List.mem_map.2 ⟨_, h1, rfl⟩
   simp only [g2 _ hj, f2 _ hj]
   exact Box.ren_at.2 (Box.at_congr (fun i hi => g2 i (clb e' h1 i hi)) (hmf1.at' e' h1))
  ·obtain ⟨h1, h2, h3, h4⟩ := hoth he
   rw [hgo h3, hfo h3]
   exact h4
 ·have hin : ∀ {k : Nat}, k ∈ Qao (Qer ρ mem' ++ Qfe news (Qiw ((Qao mem).map ρ) s.mem)) → (∃ j ∈ Qao mem', k = ρ j) ∨ (k ∈ Qao s.mem ∧ (∀ i ∈ Qao mem, k ≠ ρ i) ∧ (∀ j ∈ Qao mem', k ≠ ρ j)) := by
   intro k hk
   simp only [Qao, List.map_append, List.mem_append] at hk
   rcases hk with hk | hk
   ·have hk' : k ∈ Qao (Qer ρ mem') := hk
    rw [Qe2] at hk'
    obtain ⟨j, hj, rfl⟩ := List.mem_map.1 hk'
    exact .inl ⟨j, hj, rfl⟩
   ·exact .inr (hothid hk)
  refine ⟨hmf1.ok.g, fun b o hb => hmf1.ok.r b o (hRkept b o hb), fun b hb => ?_, ?_, ?_, ?_, ?_, hmf1.ok.os, hmf1.ok.out⟩
  ·cases hr : R.hp b with
   | none => rfl
   | some o => exact absurd (hgr' b (by simp [hRkept b o hr])) hb
  ·intro k hk
   rcases hin hk with ⟨j, hj, rfl⟩ | ⟨h1, h2, h3⟩
   ·rw [f2 j hj]; exact hmf1.ok.f j hj
   ·rw [hfo h3]; exact fun b o hb => hmf1.ok.r b o (hkept h1 h2 b o hb)
  ·intro k hk b hb
   rcases hin hk with ⟨j, hj, rfl⟩ | ⟨h1, h2, h3⟩
   ·rw [f2 j hj] at hb; exact hmf1.ok.gf j hj b hb
   ·rw [hfo h3] at hb
    obtain ⟨o, ho⟩ := Option.ne_none_iff_exists'.1 hb
    exact hgr' b (by simp [hkept h1 h2 b o ho])
  ·intro k hk b hb
   rcases hin hk with ⟨j, hj, rfl⟩ | ⟨h1, h2, h3⟩
   ·rw [f2 j hj] at hb
    have := hfr' j hj b hb
    cases hr : R.hp b with
    | none => rfl
    | some o => rw [hRkept b o hr] at this; simp at this
   ·rw [hfo h3] at hb; exact hmf.ok.rf k h1 b hb
  ·intro k hk l hl hkl b hb
   rcases hin hk with ⟨j, hj, rfl⟩ | ⟨h1, h2, h3⟩ <;> rcases hin hl with ⟨j', hj', rfl⟩ | ⟨h1', h2', h3'⟩
   ·rw [f2 j hj] at hb; rw [f2 j' hj']; exact hmf1.ok.ff j hj j' hj' (fun e => hkl (by rw [e])) b hb
   ·rw [f2 j hj] at hb; rw [hfo h3']
    have := hfr' j hj b hb
    cases hf : fr l b with
    | none => rfl
    | some o => rw [hkept h1' h2' b o hf] at this; simp at this
   ·rw [hfo h3] at hb; rw [f2 j' hj']
    obtain ⟨o, ho⟩ := Option.ne_none_iff_exists'.1 hb
    have := hkept h1 h2 b o ho
    cases hf : fr1 j' b with
    | none => rfl
    | some x => rw [hfr' j' hj' b (by simp [hf])] at this; simp at this
   ·rw [hfo h3] at hb; rw [hfo h3']; exact hmf.ok.ff k h1 l h1' hkl b hb
theorem Ok.freezeSome {w : World} {R : Fr} {fr : Nat → Hp} : ∀ {ids1 ids : List Nat} {G : Hp}, ids1.Nodup → (∀ i ∈ ids1, i ∈ ids) → Ok w G R ids fr →
    Ok w (Qdg G fr ids1) R (ids.filter fun i => !ids1.contains i) fr ∧ ∀ i ∈ ids1, Hp.le (fr i) (Qdg G fr ids1)
 | [], ids, G, _, _, h => ⟨h.sub fun i hi => (List.mem_filter.1 hi).1, by simp⟩
 | k :: r, ids, G, hn, hs, h => by
  simp only [List.nodup_cons] at hn
  obtain ⟨h1, h2⟩ := Ok.freezeSome hn.2 (fun i hi => hs i (by simp [hi])) h
  have hk : k ∈ ids.filter fun i => !r.contains i := List.mem_filter.2 ⟨hs k (by simp), by simp [hn.1]⟩
  have h3 := h1.freeze hk
  refine ⟨h3.sub fun i hi => ?_, fun i hi b o hb => ?_⟩
  ·simp only [List.mem_filter, List.contains_cons, Bool.not_or, Bool.and_eq_true, Bool.not_eq_true', beq_eq_false_iff_ne, ne_eq, decide_not, decide_eq_false_iff_not] at hi ⊢
   exact ⟨⟨hi.1, hi.2.2⟩, hi.2.1⟩
  ·show ((Qdg G fr r b).or (fr k b)) = some o
   rcases List.mem_cons.1 hi with rfl | hi
   ·have := h1.gf i hk b (by simp [hb])
    simp [this, hb]
   ·have := h2 i hi b o hb
    simp [this]
theorem LeM.ids {l mem : List (Nat × Box)} (h : LeM l mem) : ∀ i ∈ Qao l, i ∈ Qao mem := by
 intro i hi
 obtain ⟨e, he, rfl⟩ := List.mem_map.1 hi
 exact List.mem_map.2 ⟨e, LeM.mem h e he, rfl⟩
def Qbb (mx mem : List (Nat × Box)) : Prop := ∀ R G γ w, (∀ j, 5000 ≤ j → R.pin j = none) → Qdi R G γ mx w → ∃ γ', (∀ j, j < 5000 → γ' j = γ j) ∧ Qdi R G γ' mem w
theorem Qbb.refl (mem : List (Nat × Box)) : Qbb mem mem := fun _ _ γ _ _ h => ⟨γ, fun _ _ => rfl, h⟩
theorem Qbb.trans {a b c : List (Nat × Box)} (h : Qbb a b) (h' : Qbb b c) : Qbb a c := fun R G γ w hp x => by
 obtain ⟨γ1, h1, x1⟩ := h R G γ w hp x
 obtain ⟨γ2, h2, x2⟩ := h' R G γ1 w hp x1
 exact ⟨γ2, fun j hj => (h2 j hj).trans (h1 j hj), x2⟩
theorem Qbb.row {mem : List (Nat × Box)} {m id : Nat} {α : Type} {A : Rep α} {M : Int → List α} {V : Int → Value} {k : Int} {l : List α} (hg : Qco mem m = some (.mpr A M V (some (k, some id)))) (hgd : Qco mem id = some (.arr A l)) :
    Qbb mem (rmM (Qhg mem m (.mpr A (Qf8 M k l) V none)) id) := fun _ _ γ _ _ h => ⟨γ, fun _ _ => rfl, h.closeRow hg hgd⟩
theorem Qbb.sub {mem mem' : List (Nat × Box)} (hn : (Qao mem').Nodup) (hs : ∀ e ∈ mem', e ∈ mem) : Qbb mem mem' := fun _ _ γ _ _ h => ⟨γ, fun _ _ => rfl, h.sub hn hs⟩
def Qc2 {ι : Type 1} (mem : List (Nat × Box)) (mx : ι → List (Nat × Box)) : Prop :=
 ∀ R G γ w, (∀ j, 5000 ≤ j → R.pin j = none) → Qdi R G γ mem w → ∃ i γ', (∀ j, j < 5000 → γ' j = γ j) ∧ Qdi R G γ' (mx i) w
theorem Qc2.refl (mem : List (Nat × Box)) : Qc2 mem (fun _ : PUnit => mem) := fun _ _ γ _ _ h => ⟨⟨⟩, γ, fun _ _ => rfl, h⟩
theorem Qbb.nils {id n : Nat} {p q : List LV} {rest : List (Nat × Box)} {α : Type} (A : Rep α) (hn : 5000 ≤ n) (hid : n ≠ id) (h1 : n ∉ Qez p) (h2 : n ∉ Qez q) (h3 : n ∉ Qao rest) (h4 : ∀ e ∈ rest, n ∉ e.2.ids) :
    Qbb ((id, .segs (p ++ .nils :: q)) :: rest) ((id, .segs (p ++ .own n :: q)) :: (n, .arr A []) :: rest) := by
 intro R G γ w hp ⟨fr, hnd, hpin, hat, hok⟩
 simp only [Qao, List.map_cons, List.nodup_cons] at hnd
 have hγ : ∀ i, i ≠ n → Qis γ n (.slice none 0 0) i = γ i := fun i hi => Qds hi
 refine ⟨Qis γ n (.slice none 0 0), fun j hj => hγ j (by omega), Qfi fr n emp, ?_, ?_, ?_, ?_⟩
 ·simp only [Qao, List.map_cons, List.nodup_cons, List.mem_cons, not_or]
  exact ⟨⟨Ne.symm hid, hnd.1⟩, h3, hnd.2⟩
 ·intro i v hi
  have : i ≠ n := by rintro rfl; rw [hp i hn] at hi; simp at hi
  rw [hγ i this]; exact hpin i v hi
 ·intro e he
  rcases List.mem_cons.1 he with rfl | he
  ·simp only
   rw [hγ id (Ne.symm hid), Qbh (Ne.symm hid)]
   obtain ⟨b, t, cs, e1, e2, hl⟩ := hat (id, .segs (p ++ .nils :: q)) (by simp)
   refine ⟨b, t, cs, e1, e2, ?_⟩
   obtain ⟨c, d, rfl, hc, c2, d2, rfl, hx, hd⟩ := EncL.append_inv hl
   refine EncL.append (Qb5.congr (fun i hi => hγ i (fun e => h1 (e ▸ hi))) hc) ⟨c2, d2, rfl, ?_, Qb5.congr (fun i hi => hγ i (fun e => h2 (e ▸ hi))) hd⟩
   have hx' : c2 = [.slice none 0 0] := hx
   exact ⟨by rw [Qcf, hx'], by rw [Qcf]; rfl⟩
  ·rcases List.mem_cons.1 he with rfl | he
   ·simp only [Qcf, Qbc]
    exact .inr ⟨rfl, ⟨none, rfl⟩, rfl⟩
   ·have hne : e.1 ≠ n := fun h => h3 (h ▸ List.mem_map.2 ⟨e, he, rfl⟩)
    rw [hγ _ hne, Qbh hne]
    exact Box.at_congr (fun j hj => hγ j (fun h => h4 e he (h ▸ hj))) (hat e (by simp [he]))
 ·refine ((hok.nothing (d := n) ?_).sub ?_)
  ·simp only [Qao, List.map_cons, List.mem_cons, not_or]
   exact ⟨hid, h3⟩
  ·intro i hi
   simp only [Qao, List.map_cons, List.mem_cons] at hi ⊢
   rcases hi with h | h | h
   ·exact .inr (.inl h)
   ·exact .inl h
   ·exact .inr (.inr h)
theorem Qbb.ocut {id r n k : Nat} {p q : List LV} {rest : List (Nat × Box)} {α : Type} {A : Rep α} {l : List α} (hn : 5000 ≤ n) (hid : n ≠ id) (h1 : n ∉ Qez p) (h2 : n ∉ Qez q) (h3 : n ∉ Qao rest) (h4 : ∀ e ∈ rest, n ∉ e.2.ids) (hnr : n ≠ r) :
    Qbb ((id, .segs (p ++ .ocut r k :: q)) :: (r, .arr A l) :: rest) ((id, .segs (p ++ .own n :: q)) :: (n, .arr A (l.take k)) :: rest) := by
 intro R G γ w hp ⟨fr, hnd, hpin, hat, hok⟩
 simp only [Qao, List.map_cons, List.nodup_cons, List.mem_cons, not_or] at hnd
 obtain ⟨⟨hidr, hidn⟩, hrn, hnd⟩ := hnd
 obtain ⟨b, t, cs, e1, e2, hl⟩ := hat (id, .segs (p ++ .ocut r k :: q)) (by simp)
 have hrow : Qfc A G l (γ r) (fr r) := hat (r, .arr A l) (by simp)
 obtain ⟨c, d, rfl, hc, c2, d2, rfl, hx, hd⟩ := EncL.append_inv hl
 obtain ⟨ad, len, cp, hV, hkl, hlc, hx'⟩ := hx
 rw [hV] at hrow
 have hcut := hrow.cut hkl hlc
 have hγ : ∀ i, i ≠ n → Qis γ n (.slice ad k cp) i = γ i := fun i hi => Qds hi
 refine ⟨Qis γ n (.slice ad k cp), fun j hj => hγ j (by omega), Qfi fr n (fr r), ?_, ?_, ?_, ?_⟩
 ·simp only [Qao, List.map_cons, List.nodup_cons, List.mem_cons, not_or]
  exact ⟨⟨Ne.symm hid, hidn⟩, h3, hnd⟩
 ·intro i v hi
  have : i ≠ n := by rintro rfl; rw [hp i hn] at hi; simp at hi
  rw [hγ i this]; exact hpin i v hi
 ·intro e he
  rcases List.mem_cons.1 he with rfl | he
  ·simp only
   rw [hγ id (Ne.symm hid), Qbh (Ne.symm hid)]
   refine ⟨b, t, _, e1, e2, ?_⟩
   refine EncL.append (Qb5.congr (fun i hi => hγ i (fun e => h1 (e ▸ hi))) hc) ⟨c2, d2, rfl, ?_, Qb5.congr (fun i hi => hγ i (fun e => h2 (e ▸ hi))) hd⟩
   exact ⟨by rw [Qcf, hx'], by rw [Qcf]; rfl⟩
  ·rcases List.mem_cons.1 he with rfl | he
   ·simp only [Qcf, Qbc]
    exact hcut
   ·have hne : e.1 ≠ n := fun h => h3 (h ▸ List.mem_map.2 ⟨e, he, rfl⟩)
    rw [hγ _ hne, Qbh hne]
    exact Box.at_congr (fun j hj => hγ j (fun h => h4 e he (h ▸ hj))) (hat e (by simp [he]))
 ·have hr : r ∈ Qao ((id, Box.segs (p ++ LV.ocut r k :: q)) :: (r, Box.arr A l) :: rest) := by simp [Qao]
  have h2 : Ok w G R (n :: id :: Qao rest) (Qfi fr n (fr r)) := by
   refine hok.rename (d := n) hr (ids' := id :: Qao rest) (fun i hi => ?_) (by simp only [List.mem_cons, not_or]; exact ⟨hid, h3⟩)
   rcases List.mem_cons.1 hi with rfl | hi
   ·exact ⟨by simp [Qao], hidr⟩
   ·refine ⟨by simp only [Qao, List.map_cons, List.mem_cons]; exact .inr (.inr hi), ?_⟩
    rintro rfl; exact hrn hi
  refine h2.sub fun i hi => ?_
  simp only [Qao, List.map_cons, List.mem_cons] at hi ⊢
  rcases hi with h | h | h
  ·exact .inr (.inl h)
  ·exact .inl h
  ·exact .inr (.inr h)
def Fin (rets : List LV) (mem' : List (Nat × Box)) (tv : TV) (s : Qan) : Prop :=
 ∃ mx, Qdo (tv.list.map (SV.frz (Qiw (Qao mx) s.mem))) rets ∧ LeM mx s.mem ∧ (Qao mx).Nodup ∧ Qbb mx mem' ∧ ∀ i ∈ (tvL rets).ids, i < 5000
theorem Qcs.of' {ι : Type 1} {E : Env} {f : FuncId} {fn : Func} {args : List SV} {mem mem' : List (Nat × Box)} {rets : List LV} {body : Code} {res : List ResultVar} (mx : ι → List (Nat × Box)) (hop : Qc2 mem mx) (hargs : ∀ i ∈ Qb1 args, i < 5000) (hlow : ∀ i ∈ Qao mem, i < 5000)
    (hf : E.P.funcs[f]? = some fn) (hi : Qcp E.P f) (hb : fn.body = some body) (hres : fn.results.toList = res)
    (hfit : Qch fn.ntmps body = true) (hlen : Nat.ble args.length fn.ntmps = true)
    (h : ∀ i, Qa9 E body ⟨Qcu 0 args, mx i, Qao mem⟩ fun e s => match e with
     | .normal => Qnt E.toCtx s res fun vs => Fin rets mem' (Ql7 vs) s
     | .ret => Qnt E.toCtx s res fun vs => Fin rets mem' (Ql7 vs) s
     | _ => False) : Qcs E.P f args mem (tvL rets) mem' := by
 refine ⟨hi, ?_⟩
 intro R G γ w vs hpin hm hv
 have hpin5 : ∀ j, 5000 ≤ j → R.pin j = none := fun j hj => by
  rw [hpin, if_neg]
  intro h
  have := hlow j h
  omega
 obtain ⟨i, γ0, hγ0, hm0⟩ := hop R G γ w hpin5 hm
 have hvf : vFn E fn args (mx i) (Qao mem) (Fin rets mem') := by
  subst hres
  unfold vFn
  rw [hb]
  exact ⟨hfit, Nat.le_of_ble_eq_true hlen, h i⟩
 have hv0 : Qcv G γ0 args vs := hv.congr fun j hj => hγ0 j (hargs j hj)
 refine (Qns hf hvf hm0 hv0 ?_).mono ?_
 ·intro i hi
  rw [hpin] at hi
  split at hi
  ·assumption
  ·simp at hi
 rintro e w' ⟨v, G', γ', tv, s', rfl, hg, ⟨mxf, hret, hle, hnd, hcl, hlt⟩, hrel, ⟨fr, hn, hp, hat, hok'⟩, hone⟩
 have hids : ∀ i ∈ Qao (Qiw (Qao mxf) s'.mem), i ∈ Qao s'.mem := by
  intro i hi
  obtain ⟨e, he, rfl⟩ := List.mem_map.1 hi
  exact List.mem_map.2 ⟨e, (Qgu he).1, rfl⟩
 obtain ⟨hok2, hfz⟩ := Ok.freezeSome (Qhw hn) hids hok'
 have hg2 : Hp.le G' (Qdg G' fr (Qao (Qiw (Qao mxf) s'.mem))) := Qei _
 have hmx : Qdi R (Qdg G' fr (Qao (Qiw (Qao mxf) s'.mem))) γ' mxf w' := by
  refine ⟨fr, hnd, hp, fun e he => Box.at_mono hg2 (hat e (LeM.mem hle e he)), hok2.sub fun i hi => ?_⟩
  refine List.mem_filter.2 ⟨LeM.ids hle i hi, ?_⟩
  simp only [Bool.not_eq_true', List.contains_eq_mem, decide_eq_false_iff_not]
  intro hin
  obtain ⟨e, he, e1⟩ := List.mem_map.1 hin
  exact (Qgu he).2 (e1 ▸ hi)
 obtain ⟨γ3, h3, hm3⟩ := hcl _ _ _ _ hpin5 hmx
 refine ⟨v, _, γ3, rfl, Hp.le_trans hg hg2, TV.rel_congr (fun i hi => h3 i (hlt i hi)) ?_, hm3⟩
 exact Qrc (mem := Qiw (Qao mxf) s'.mem) (fun e he => hat e (Qgu he).1) hg2 hfz hrel hret hone
def Qwf {ι : Type 1} (ok : ι → Prop) (mm : ι → List (Nat × Box)) (root : Nat) (G : Hp) (v : Value) (f : Hp) : Prop :=
 ∃ i, ∃ γ : Nat → Value, ∃ fr : Nat → Hp, ok i ∧ γ root = v ∧ (Qao (mm i)).Nodup ∧ root ∈ Qao (mm i) ∧ (∀ e ∈ mm i, e.2.at G γ (γ e.1) (fr e.1)) ∧
  (∀ i' ∈ Qao (mm i), ∀ j ∈ Qao (mm i), i' ≠ j → ∀ b, fr i' b ≠ none → fr j b = none) ∧ ∀ b o, f b = some o ↔ ∃ j ∈ Qao (mm i), fr j b = some o
def Qn2 {σ : Type} {ι : Type 1} (ok : σ → ι → Prop) (mm : ι → List (Nat × Box)) (root : Nat) (D : σ) : Qst :=
 ⟨Qwf (ok D) mm root, fun hg ⟨i, γ, fr, h1, h2, h3, h4, h5, h6⟩ => ⟨i, γ, fr, h1, h2, h3, h4, fun e he => Box.at_mono hg (h5 e he), h6⟩⟩
theorem Qpj {σ : Type} {ι : Type 1} {ok : σ → ι → Prop} {mm : ι → List (Nat × Box)} {root : Nat} {D : σ} {rest : List (Nat × Box)}
    (hsep : ∀ i, ∀ j ∈ Qao (mm i), j ≠ root → j ∉ Qao rest ∧ ∀ e ∈ rest, j ∉ e.2.ids) (hcl : ∀ i, ∀ e ∈ mm i, ∀ j ∈ e.2.ids, j ∈ Qao (mm i)) (hbig : ∀ i, ∀ j ∈ Qao (mm i), j ≠ root → 5000 ≤ j) : Qc2 ((root, .obj (Qn2 ok mm root) D) :: rest) (fun i : {i : ι // ok D i} => mm i.1 ++ rest) := by
 intro R G γ w hpin ⟨fr, hnd, hp, hat, hok⟩
 obtain ⟨i, γ1, fr1, hoki, hroot, hn1, hr1, hat1, hdis1, hf1⟩ := hat (root, .obj (Qn2 ok mm root) D) (by simp)
 classical
 have hroot : γ1 root = γ root := hroot
 have hf1 : ∀ b o, fr root b = some o ↔ ∃ j ∈ Qao (mm i), fr1 j b = some o := hf1
 let γ2 : Nat → Value := fun j => if j ∈ Qao (mm i) then γ1 j else γ j
 let fr2 : Nat → Hp := fun j => if j ∈ Qao (mm i) then fr1 j else fr j
 simp only [Qao, List.map_cons, List.nodup_cons] at hnd
 have hrest : ∀ j ∈ Qao rest, j ∉ Qao (mm i) := by
  intro j hj hj2
  by_cases e : j = root
  ·subst e; exact hnd.1 hj
  ·exact (hsep i j hj2 e).1 hj
 have e2 : ∀ j, j ∉ Qao (mm i) → γ2 j = γ j ∧ fr2 j = fr j := fun j hj => by simp [γ2, fr2, hj]
 have e1 : ∀ j, j ∈ Qao (mm i) → γ2 j = γ1 j ∧ fr2 j = fr1 j := fun j hj => by simp [γ2, fr2, hj]
 have hr0 : γ2 root = γ root := by rw [(e1 root hr1).1, hroot]
 have keep : ∀ j, (j = root ∨ j ∉ Qao (mm i)) → γ2 j = γ j := by
  rintro j (rfl | hj)
  ·exact hr0
  ·exact (e2 j hj).1
 refine ⟨⟨i, hoki⟩, γ2, ?_, fr2, ?_, ?_, ?_, ?_⟩
 ·intro j hj
  refine keep j ?_
  by_cases e : j = root
  ·exact .inl e
  ·refine .inr fun h => ?_
   have := hbig i j h e
   omega
 ·simp only [Qao, List.map_append, List.nodup_append]
  exact ⟨hn1, hnd.2, fun a ha b hb e => hrest b hb (e ▸ ha)⟩
 ·intro j v hj
  rw [keep j]
  ·exact hp j v hj
  ·by_cases hm : j ∈ Qao (mm i)
   ·by_cases e : j = root
    ·exact .inl e
    ·have := hpin j (hbig i j hm e)
     rw [this] at hj; simp at hj
   ·exact .inr hm
 ·intro e he
  rcases List.mem_append.1 he with he | he
  ·have hm : e.1 ∈ Qao (mm i) := List.mem_map.2 ⟨e, he, rfl⟩
   rw [(e1 _ hm).1, (e1 _ hm).2]
   exact Box.at_congr (fun j hj => (e1 j (hcl i e he j hj)).1) (hat1 e he)
  ·have hm : e.1 ∈ Qao rest := List.mem_map.2 ⟨e, he, rfl⟩
   rw [(e2 _ (hrest _ hm)).1, (e2 _ (hrest _ hm)).2]
   refine Box.at_congr (fun j hj => keep j ?_) (hat e (by simp [he]))
   by_cases hj2 : j ∈ Qao (mm i)
   ·by_cases ej : j = root
    ·exact .inl ej
    ·exact absurd hj ((hsep i j hj2 ej).2 e he)
   ·exact .inr hj2
 ·have hfr : ∀ j ∈ Qao (mm i), ∀ b o, fr1 j b = some o → fr root b = some o := fun j hj b o h => (hf1 b o).2 ⟨j, hj, h⟩
  have hin : ∀ j ∈ Qao (mm i ++ rest), j ∈ Qao (mm i) ∨ j ∈ Qao rest := fun j hj => by
   simp only [Qao, List.map_append, List.mem_append] at hj; exact hj
  refine hok.reshape ?_ ?_
  ·intro j hj b o hb
   rcases hin j hj with h | h
   ·rw [(e1 j h).2] at hb
    exact ⟨root, by simp [Qao], hfr j h b o hb⟩
   ·rw [(e2 j (hrest j h)).2] at hb
    exact ⟨j, by simp only [Qao, List.map_cons, List.mem_cons]; exact .inr h, hb⟩
  ·have cross : ∀ j ∈ Qao (mm i), ∀ l ∈ Qao rest, ∀ b, fr1 j b ≠ none → fr l b = none := by
    intro j hj l hl b hb
    obtain ⟨o, ho⟩ := Option.ne_none_iff_exists'.1 hb
    have hne : root ≠ l := by rintro rfl; exact hnd.1 hl
    exact hok.ff root (by simp [Qao]) l (by simp only [Qao, List.map_cons, List.mem_cons]; exact .inr hl) hne b (by simp [hfr j hj b o ho])
   intro j hj l hl hjl b hb
   rcases hin j hj with h | h <;> rcases hin l hl with h' | h'
   ·rw [(e1 j h).2] at hb; rw [(e1 l h').2]; exact hdis1 j h l h' hjl b hb
   ·rw [(e1 j h).2] at hb; rw [(e2 l (hrest l h')).2]; exact cross j h l h' b hb
   ·rw [(e2 j (hrest j h)).2] at hb; rw [(e1 l h').2]
    cases hx : fr1 l b with
    | none => rfl
    | some x => exact absurd (cross l h' j h b (by simp [hx])) hb
   ·rw [(e2 j (hrest j h)).2] at hb; rw [(e2 l (hrest l h')).2]
    exact hok.ff j (by simp only [Qao, List.map_cons, List.mem_cons]; exact .inr h) l (by simp only [Qao, List.map_cons, List.mem_cons]; exact .inr h') hjl b hb
theorem Qhz {σ : Type} {ι : Type 1} {ok : σ → ι → Prop} {mm : ι → List (Nat × Box)} {root : Nat} {D : σ} {rest : List (Nat × Box)} (i : ι) (ρ : Nat → Nat) (hok : ok D i) (hρ : ρ root = root) (hr : root ∈ Qao (mm i)) (hn : (Qao (mm i)).Nodup)
    (hinj : ∀ a ∈ Qao (mm i), ∀ b ∈ Qao (mm i), ρ a = ρ b → a = b) : Qbb (Qer ρ (mm i) ++ rest) ((root, .obj (Qn2 ok mm root) D) :: rest) := by
 intro R G γ w _ ⟨fr, hnd, hp, hat, hok'⟩
 refine ⟨γ, fun _ _ => rfl, ?_⟩
 classical
 have hids : Qao (Qer ρ (mm i) ++ rest) = (Qao (mm i)).map ρ ++ Qao rest := by
  simp only [Qao, List.map_append]
  congr 1
  exact Qe2 (mm i)
 rw [hids] at hnd hok'
 simp only [List.nodup_append] at hnd
 obtain ⟨hn1, hn2, hn3⟩ := hnd
 have hroot : root ∈ (Qao (mm i)).map ρ := List.mem_map.2 ⟨root, hr, hρ⟩
 have hin : ∀ j ∈ Qao (mm i), ρ j ∈ (Qao (mm i)).map ρ ++ Qao rest := fun j hj => List.mem_append.2 (.inl (List.mem_map.2 ⟨j, hj, rfl⟩))
 let f : Hp := fun b => if h : ∃ j ∈ Qao (mm i), fr (ρ j) b ≠ none then fr (ρ (Classical.choose h)) b else none
 have hf : ∀ b o, f b = some o ↔ ∃ j ∈ Qao (mm i), fr (ρ j) b = some o := by
  intro b o
  simp only [f]
  by_cases h : ∃ j ∈ Qao (mm i), fr (ρ j) b ≠ none
  ·rw [dif_pos h]
   obtain ⟨h1, h2⟩ := Classical.choose_spec h
   constructor
   ·intro h3; exact ⟨_, h1, h3⟩
   ·rintro ⟨j, hj, h3⟩
    by_cases e : ρ (Classical.choose h) = ρ j
    ·rw [e]; exact h3
    ·have := hok'.ff _ (hin _ h1) _ (hin j hj) e b h2
     rw [h3] at this; simp at this
  ·rw [dif_neg h]
   constructor
   ·intro h3; simp at h3
   ·rintro ⟨j, hj, h3⟩
    exact absurd ⟨j, hj, by simp [h3]⟩ h
 have hrr : root ∉ Qao rest := fun h => hn3 root hroot root h rfl
 refine ⟨Qfi fr root f, ?_, hp, ?_, ?_⟩
 ·simp only [Qao, List.map_cons, List.nodup_cons]
  exact ⟨hrr, hn2⟩
 ·intro e he
  rcases List.mem_cons.1 he with rfl | he
  ·rw [Qbc]
   refine ⟨i, fun j => γ (ρ j), fun j => fr (ρ j), hok, by simp only [hρ], hn, hr, ?_, ?_, hf⟩
   ·intro e he
    have hmem : (ρ e.1, e.2.ren ρ) ∈ Qer ρ (mm i) ++ rest := by
     refine List.mem_append.2 (.inl ?_)
     have gen : ∀ (mem : List (Nat × Box)), e ∈ mem → (ρ e.1, e.2.ren ρ) ∈ Qer ρ mem := by
      intro mem
      induction mem with
      | nil => intro h; simp at h
      | cons x r ih =>
       intro h
       rcases List.mem_cons.1 h with rfl | h
       ·exact List.mem_cons.2 (.inl rfl)
       ·exact List.mem_cons.2 (.inr (ih h))
     exact gen (mm i) he
    exact Box.ren_at.1 (hat _ hmem)
   ·intro a ha b hb hab c hc
    exact hok'.ff _ (hin a ha) _ (hin b hb) (fun e => hab (hinj a ha b hb e)) c hc
  ·have hm : e.1 ∈ Qao rest := List.mem_map.2 ⟨e, he, rfl⟩
   have : e.1 ≠ root := fun h => hrr (h ▸ hm)
   rw [Qbh this]
   exact hat e (List.mem_append.2 (.inr he))
 ·refine hok'.reshape ?_ ?_
  ·intro j hj b o hb
   simp only [Qao, List.map_cons, List.mem_cons] at hj
   by_cases e : j = root
   ·subst e
    rw [Qbc] at hb
    obtain ⟨l, hl, h⟩ := (hf b o).1 hb
    exact ⟨ρ l, hin l hl, h⟩
   ·rw [Qbh e] at hb
    exact ⟨j, List.mem_append.2 (.inr (hj.resolve_left e)), hb⟩
  ·have cross : ∀ l ∈ Qao rest, ∀ b, f b ≠ none → fr l b = none := by
    intro l hl b hb
    obtain ⟨o, ho⟩ := Option.ne_none_iff_exists'.1 hb
    obtain ⟨j, hj, h⟩ := (hf b o).1 ho
    exact hok'.ff _ (hin j hj) l (List.mem_append.2 (.inr hl)) (hn3 _ (List.mem_map.2 ⟨j, hj, rfl⟩) l hl) b (by simp [h])
   intro j hj l hl hjl b hb
   simp only [Qao, List.map_cons, List.mem_cons] at hj hl
   by_cases e : j = root
   ·subst e
    rw [Qbc] at hb
    rw [Qbh (Ne.symm hjl)]
    exact cross l (hl.resolve_left (Ne.symm hjl)) b hb
   ·rw [Qbh e] at hb
    by_cases e' : l = root
    ·subst e'
     rw [Qbc]
     cases hx : f b with
     | none => rfl
     | some x => exact absurd (cross j (hj.resolve_left e) b (by simp [hx])) hb
    ·rw [Qbh e']
     exact hok'.ff j (List.mem_append.2 (.inr (hj.resolve_left e))) l (List.mem_append.2 (.inr (hl.resolve_left e'))) hjl b hb
end Go.Proofs.Ytnmjcdlgfimnaaa
namespace Go.Proofs.Ytnmjcdlgfimnaaa
def LV.isData : LV → Bool
 | .int _ _ => true
 | .bool _ => true
 | .str _ => true
 | .dat _ _ => true
 | .nils => true
 | .emps => true
 | .nilp => true
 | _ => false
theorem LV.ren_data {x : LV} (h : x.isData = true) (ρ : Nat → Nat) : x.ren ρ = x := by
 cases x <;> first | rfl | (simp [LV.isData] at h)
theorem LV.ids_data {x : LV} (h : x.isData = true) : x.ids = [] := by
 cases x <;> first | rfl | (simp [LV.isData] at h)
theorem Qev {l : List LV} (h : l.all LV.isData = true) : Qg6 l = true := by
 simp only [Qg6, List.all_eq_true, List.isEmpty_iff] at h ⊢
 intro x hx
 exact LV.ids_data (h x hx)
theorem Qdf {l : List LV} (h : l.all LV.isData = true) (ρ : Nat → Nat) : (l.map SV.l).map (SV.ren ρ) = l.map SV.l := by
 simp only [List.all_eq_true] at h
 rw [List.map_map]
 apply List.map_congr_left
 intro x hx
 show SV.l (x.ren ρ) = SV.l x
 rw [LV.ren_data (h x hx)]
theorem Qjk {l : List LV} (h : l.all LV.isData = true) (ρ : Nat → Nat) : (tvL l).ren ρ = tvL l := by
 unfold tvL
 split
 ·rename_i r
  simp only [List.all_cons, List.all_nil, Bool.and_true] at h
  show TV.one (SV.l (r.ren ρ)) = _
  rw [LV.ren_data h]
 ·show TV.tup _ = _
  rw [Qdf h]
theorem Rep.leaf_data : {α : Type} → (A : Rep α) → (x : α) → (A.leaf x).isData = true
 | _, .int _, _ => rfl
 | _, .bool, _ => rfl
 | _, .str, _ => rfl
 | _, .unit, _ => rfl
 | _, .pair _ _, _ => rfl
 | _, .arr _ _, _ => rfl
 | _, .slice _, _ => rfl
 | _, .iso A to of h h', y => by
  unfold Rep.leaf
  cases A.scalar
  ·rfl
  ·exact A.leaf_data (to y)
theorem Rep.argL_data : {α : Type} → (A : Rep α) → (x : α) → (A.argL x).all LV.isData = true
 | _, .pair A B, x => by
  have := B.argL_data x.2
  simp only [argL, List.all_cons, Bool.and_eq_true, A.leaf_data, this, true_and]
 | _, .int _, _ => rfl
 | _, .bool, _ => rfl
 | _, .str, _ => rfl
 | _, .unit, _ => rfl
 | _, .arr _ _, _ => rfl
 | _, .slice _, _ => rfl
 | _, .iso _ _ _ _ _, _ => rfl
def Qw5 {σ α : Type} (O : σ → Qst) (A : Rep α) (pre : σ → α → Prop) (r : σ → α → List LV) (u : σ → α → σ) (as : List SV) (_ : Nat) (s : Qan) (K : KT) : Prop := match as with
 | .l (.ptr id [] 0) :: rest => Qg7 (Qkl rest) s rest fun s' rest' => (match Qco s'.mem id with
  | some (@Box.obj τ O' D) => ∃ h : τ = σ, HEq O' O ∧ Qdh A rest' fun x => pre (cast h D) x ∧ K (tvL (r (cast h D) x)) ⟨s'.sl, (id, .obj O (u (cast h D) x)) :: rmM s'.mem id, s'.pins⟩
  | _ => False)
 | _ => False
theorem Qvw {P : Program} {f : FuncId} {σ α : Type} {O : σ → Qst} {A : Rep α} {pre : σ → α → Prop} {r : σ → α → List LV} {u : σ → α → σ} (hi : Qcp P f)
    (h : ∀ D x, pre D x → Qcs P f (.l (.ptr 1 [] 0) :: (A.argL x).map .l) [(1, .obj O D)] (tvL (r D x)) [(1, .obj O (u D x))]) (hr : ∀ D x, (r D x).all LV.isData = true)
    (as : List SV) (d : Nat) (s : Qan) (K : KT) (hc : Qw5 O A pre r u as d s K) : Wc P f as s K := by
 refine ⟨hi, ?_⟩
 intro R G γ a w vs hs hv
 unfold Qw5 at hc
 split at hc
 ·rename_i id rest
  obtain ⟨v0, vs0, rfl, hv0, hvr⟩ := hv
  obtain ⟨G1, s1, as1, hg1, hc, hs1, hv1⟩ := Qdc hc hs hvr
  split at hc
  ·rename_i τ O' D hg
   obtain ⟨e, hO, hc⟩ := hc
   subst e
   have hO := eq_of_heq hO
   subst hO
   simp only [cast_eq] at hc
   obtain ⟨x, ⟨hpre, hK⟩, hx⟩ := Qcx A hc hv1
   have hsp := h D x hpre
   have hv0' : (SV.l (.ptr id [] 0)).rel G1 γ v0 := SV.rel_mono hg1 hv0
   have hw : Wc P f (.l (.ptr id [] 0) :: (A.argL x).map .l) s1 K := by
    refine Qde hsp (fun _ => id) [] (by simp [Qao]) (by simp [Qao]) (by simp [Qao]) (by simp [Qao]) (by simp) ?_ ?_ ?_ ?_ ?_
    ·intro i hi
     rw [Qf9 (Qev (hr D x))] at hi
     simp at hi
    ·intro e he i hi
     simp only [List.mem_singleton] at he
     subst he
     simp [Box.ids] at hi
    ·intro e he
     simp only [List.mem_singleton] at he
     subst he
     exact hg
    ·intro G γ us hu
     simp only [List.map_cons]
     rw [Qdf (A.argL_data x)]
     exact hu
    ·rw [Qjk (hr D x)]
     exact hK
   refine (hw.2 R G1 γ a w _ hs1 ⟨v0, vs0, rfl, hv0', hx⟩).mono ?_
   rintro e w' ⟨v, rfl, G2, γ2, tv, s2, hg2, hK2, hrel, hs2⟩
   exact ⟨v, rfl, G2, γ2, tv, s2, Hp.le_trans hg1 hg2, hK2, hrel, hs2⟩
  ·exact hc.elim
 ·exact hc.elim
end Go.Proofs.Ytnmjcdlgfimnaaa
