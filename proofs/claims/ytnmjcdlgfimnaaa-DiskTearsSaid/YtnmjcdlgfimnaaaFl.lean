/- Regions, code and whole functions on symbolic states. -/
import Derived.Test.YtnmjcdlgfimnaaaFkh
namespace Go.Proofs.Ytnmjcdlgfimnaaa

/-- The operations that turn nothing. -/
def vqVal (C : Ctx) (o : Oper) (s : SymSt) (K : KT) : Prop := match o.op with
  | .move x => K (evT s x) s
  | .assign x => K (evT s x) s
  | .pick c a b => vPick s c a b K
  | .load t x => vLoad C s t x K
  | .nilCheck x => vNilCheck s x K
  | .fieldAddr t x f => vFieldAddr C s t x f K
  | .field t x f => vField C s t x f K
  | .indexAddr t x i => vIndexAddr C s t x i K
  | .index t x i => vIndex C s t x i K
  | .extract x n => vExtract s x n K
  | .binOp op t x y _ => vBin3 C s op t x y K
  | .unOp op _ x => vUn s op x K
  | .convert a b x => vConvert2 C s a b x K
  | .build t parts => vBuild C s t parts.toList K
  | .slice t x lo hi mx => vSlice2 C s t x lo hi mx K
  | .makeFunc f first cap => vMakeFunc s f first.toList cap.toList K
  | .sliceToArrayPointer t x => vArrayAt C s t x K
  | .call c => (match c.callee, c.args.toList, c.argTypes.toList with
    | .builtin .len, [x], [t] => vLen2 C s t x K
    | .builtin .min, xs, _ => vMinMax s false xs K
    | .builtin .max, xs, _ => vMinMax s true xs K
    | _, _, _ => False)
  | _ => False
theorem vqVal_sound {C : Ctx} {o : Oper} {s : SymSt} {K : KT} (h : vqVal C o s K) : QSound C.P o s K := by
  unfold vqVal at h
  split at h
  case h_1 ho => exact move_q (.inl ho) h
  case h_2 ho => exact move_q (.inr ho) h
  case h_3 ho => exact pick_q ho h
  case h_4 ho => exact load_q ho h
  case h_5 ho => exact nilCheck_q ho h
  case h_6 ho => exact fieldAddr_q ho h
  case h_7 ho => exact field_q ho h
  case h_8 ho => exact indexAddr_q ho h
  case h_9 ho => exact index_q ho h
  case h_10 ho => exact extract_q ho h
  case h_11 ho => exact bin3_q ho h
  case h_12 ho => exact un_q ho h
  case h_13 ho => exact convert2_q ho h
  case h_14 ho => exact build_q ho h
  case h_15 ho => exact slice2_q ho h
  case h_16 ho => exact makeFunc_q ho h
  case h_17 ho => exact arrayAt_q ho h
  case h_18 c ho =>
    split at h
    · rename_i x t h1 h2 h3; exact len2_q ho h1 h2 h3 h
    · rename_i xs ts h1; exact minmax_q (mx := false) ho h1 h
    · rename_i xs ts h1; exact minmax_q (mx := true) ho h1 h
    · exact h.elim
  case h_19 => exact h.elim

def vcVal (E : Env) (o : Oper) (s : SymSt) (K : KT) : Prop := match o.op with
  | .alloc t => vAlloc E.toCtx (dstOf o) s t K
  | .box _ x => vBox (dstOf o) s x K
  | .store t x y => vStore E.toCtx s t x y K
  | .buildSlice t n parts => vBuildSlice E.toCtx (dstOf o) s t n parts.toList K
  | .makeSlice t l c => vMakeSlice E.toCtx (dstOf o) s t l c K
  | .lookup t x i false => vLookup E.toCtx s t x i K
  | .mapUpdate t m k v => vMapUpdate E.toCtx s t m k v K
  | .makeMap t none => vMakeMap E.toCtx (dstOf o) s t K
  | .call c => (match c.callee, c.args.toList, c.argTypes.toList with
    | .value f, xs, _ => vCall E (dstOf o) s f xs K
    | .builtin .append, [x, y], [t, xt] => vAppend2 E.toCtx (dstOf o) s t xt x y K
    | _, _, _ => vqVal E.toCtx o s K)
  | _ => vqVal E.toCtx o s K

theorem vcVal_sound {E : Env} {o : Oper} {s : SymSt} {K : KT} (h : vcVal E o s K) : Sound E.P o s K := by
  unfold vcVal at h
  split at h
  case h_1 ho => exact alloc_sound ho h
  case h_2 ho => exact box_sound ho h
  case h_3 ho => exact store_sound ho h
  case h_4 ho => exact buildSlice_sound ho h
  case h_5 ho => exact makeSlice_sound ho h
  case h_6 ho => exact lookup_sound ho h
  case h_7 ho => exact mapUpdate_sound ho h
  case h_8 ho => exact makeMap_sound ho h
  case h_9 c ho =>
    obtain ⟨callee, args, ts⟩ := c
    split at h
    · rename_i f xs us h1
      simp only at h1
      subst h1
      exact call_sound ho h
    · rename_i x y t xt h1 h2 h3; exact append2_sound ho h1 h2 h3 h
    · exact (vqVal_sound h).sound
  case h_10 => exact (vqVal_sound h).sound

def SymSt.putO (s : SymSt) (d : Option Nat) (v : TV) : SymSt := match d with
  | some d => s.put d v
  | none => s

/-- Operations, one behind the other. -/
def vcOps (E : Env) (ops : List Oper) : List Oper → SymSt → (SymSt → Prop) → Prop
  | [], s, K => K s
  | o :: r, s, K => match o.guard with
    | none => vcVal E o s fun tv s' => vcOps E ops r (s'.putO o.dst tv) K
    | some (j, want) => match (ops[j]?).bind (·.dst) with
      | none => False
      | some d => match getS s.sl d with
        | .one (.l (.bool b)) => (b = want → vcVal E o (s.put d (.one (.l (.bool want)))) fun tv s' => vcOps E ops r (s'.putO o.dst tv) K) ∧
            (b = !want → vcOps E ops r ((s.put d (.one (.l (.bool (!want))))).putO o.dst (.tup [])) K)
        | .tup [] => vcOps E ops r (s.putO o.dst (.tup [])) K
        | _ => False

theorem Simm.put {R : Fr} {G : Hp} {γ : Nat → Value} {s : SymSt} {a : Act} {w : World} (h : Simm R G γ s a w) {d : Nat} (hd : d < a.tmps.size) {tv : TV} {v : Value} (hv : tv.rel G γ v) :
    Simm R G γ (s.put d tv) { a with tmps := a.tmps.setIfInBounds d v } w := by
  refine ⟨?_, h.mem, h.df, h.pn⟩
  intro i
  rw [getS_put]
  by_cases e : d = i
  · subst e
    simp [hd, hv]
  · simp only [if_neg e]
    have := h.sl i
    simpa [Array.getD_eq_getD_getElem?, Array.getElem?_setIfInBounds_ne e] using this
theorem Simm.putO {R : Fr} {G : Hp} {γ : Nat → Value} {s : SymSt} {a : Act} {w : World} (h : Simm R G γ s a w) {d : Option Nat} (hd : ∀ n, d = some n → n < a.tmps.size) {tv : TV} {v : Value} (hv : tv.rel G γ v) :
    Simm R G γ (s.putO d tv) (a.put d v) w := by
  cases d with
  | none => exact h
  | some d => exact h.put (hd d rfl) hv
theorem put_size (a : Act) (d : Option Nat) (v : Value) : (a.put d v).tmps.size = a.tmps.size := by cases d <;> simp [Act.put]

def After' (R : Fr) (G : Hp) (n : Nat) (K : SymSt → Prop) (a : Act) (w : World) : Prop := ∃ G' γ' s', Hp.le G G' ∧ K s' ∧ Simm R G' γ' s' a w ∧ a.tmps.size = n

theorem opSem_upon {P : Program} {o : Oper} {a : Act} {w : World} {K : Value → World → Prop} {next : Act → World → Prop} {Q : Exit → Act → World → Prop} (h : opSem P a.eval o w K)
    (hk : ∀ v w', K v w' → next (a.put o.dst v) w') : o.wp P a w next Q := by
  unfold opSem at h
  unfold Oper.wp
  split at h
  · rename_i v w' hr
    rw [hr]; exact hk _ _ h
  · rename_i w' hr
    rw [hr]; exact hk _ _ h
  · rename_i f args w' hr
    rw [hr]
    refine h.mono ?_
    rintro e w'' ⟨v, rfl, hv⟩
    exact hk _ _ hv
  · exact h.elim

theorem undef_rel {G : Hp} {γ : Nat → Value} : (TV.tup []).rel G γ undef := ⟨[], rfl, rfl⟩

theorem wpOps_sound {E : Env} {n : Nat} {ops : Array Oper} {Q : Exit → Act → World → Prop} {R : Fr} : ∀ (l : List Nat) (r : List Oper) {s : SymSt} {K : SymSt → Prop} {G : Hp} {γ : Nat → Value} {a : Act} {w : World},
    l.map (ops[·]?) = r.map some → (∀ o ∈ r, ∀ d, o.dst = some d → d < n) → vcOps E ops.toList r s K → Simm R G γ s a w → a.tmps.size = n →
    (∀ a' w', After' R G n K a' w' → Q .normal a' w') → wpOps E.P ops Q l a w
  | [], [], s, K, G, γ, a, w, _, _, h, hs, hn, hQ => hQ a w ⟨G, γ, s, Hp.le_refl G, h, hs, hn⟩
  | [], _ :: _, _, _, _, _, _, _, hl, _, _, _, _, _ => by simp at hl
  | _ :: _, [], _, _, _, _, _, _, hl, _, _, _, _, _ => by simp at hl
  | i :: l, o :: r, s, K, G, γ, a, w, hl, hd, h, hs, hn, hQ => by
    simp only [List.map_cons, List.cons.injEq] at hl
    obtain ⟨hi, hl⟩ := hl
    have hd' : ∀ o ∈ r, ∀ d, o.dst = some d → d < n := fun o' ho' => hd o' (by simp [ho'])
    have hdo : ∀ d, o.dst = some d → d < a.tmps.size := fun d h => hn ▸ hd o (by simp) d h
    have go : ∀ {s' : SymSt} {K' : SymSt → Prop}, Simm R G γ s' a w → vcVal E o s' (fun tv s' => vcOps E ops.toList r (s'.putO o.dst tv) K) → o.wp E.P a w (wpOps E.P ops Q l) Q := by
      intro s' K' hs' hv
      refine opSem_upon (vcVal_sound hv R G γ a w hs') ?_
      rintro v w' ⟨G', γ', tv, s'', hg, hK, hrel, hs''⟩
      refine wpOps_sound l r hl hd' hK (hs''.putO hdo hrel) (by rw [put_size]; exact hn) ?_
      rintro a' w'' ⟨G2, γ2, s2, hg2, h2, h3, h4⟩
      exact hQ a' w'' ⟨G2, γ2, s2, Hp.le_trans hg hg2, h2, h3, h4⟩
    simp only [wpOps, hi]
    unfold vcOps at h
    split at h
    · rename_i hg
      have hw : Region.wanted o (yielded ops a.tmps) = true := by simp [Region.wanted, hg]
      rw [if_pos hw]
      exact .inl (go (K' := K) hs h)
    · rename_i j want hg
      split at h
      · exact h.elim
      · rename_i d hdj
        have hdj' : (ops[j]?).bind (·.dst) = some d := by simpa using hdj
        have hy : ∀ b, a.tmps.getD d undef = .bool b → yielded ops a.tmps j = some b := by
          intro b hb
          unfold yielded
          rw [hdj']
          simp only [Option.bind_some]
          rw [Array.getD_eq_getD_getElem?] at hb
          cases hx : a.tmps[d]? with
          | none => rw [hx] at hb; simp [undef] at hb
          | some v => rw [hx] at hb; simp only [Option.getD_some] at hb; rw [hb]
        have hrel := hs.sl d
        split at h
        · rename_i b hb
          rw [hb] at hrel
          have hv : a.tmps.getD d undef = .bool b := by simpa [TV.rel, SV.rel, LV.relV, LV.rel] using hrel
          by_cases e : b = want
          · have hw : Region.wanted o (yielded ops a.tmps) = true := by simp [Region.wanted, hg, hy b hv, e]
            rw [if_pos hw]
            refine .inl (go (K' := K) (hs.know (d := d) (tv := .one (.l (.bool want))) ?_) (h.1 e))
            rw [hv, e]; rfl
          · have hw : Region.wanted o (yielded ops a.tmps) = false := by simp [Region.wanted, hg, hy b hv, e]
            rw [hw]
            simp only [Bool.false_eq_true, if_false]
            have e' : b = !want := by cases b <;> cases want <;> simp_all
            refine wpOps_sound l r hl hd' (h.2 e') ((hs.know (d := d) (tv := .one (.l (.bool (!want)))) (by rw [hv, e']; rfl)).putO hdo undef_rel) (by rw [put_size]; exact hn) hQ
        · rename_i hb
          rw [hb] at hrel
          obtain ⟨vs, hvs, hv⟩ := hrel
          simp only [RelV] at hvs
          subst hvs
          have hyn : yielded ops a.tmps j = none := by
            unfold yielded
            rw [hdj']
            simp only [Option.bind_some]
            rw [Array.getD_eq_getD_getElem?] at hv
            cases hx : a.tmps[d]? with
            | none => rfl
            | some v => rw [hx] at hv; simp only [Option.getD_some] at hv; rw [hv]
          have hw : Region.wanted o (yielded ops a.tmps) = false := by simp [Region.wanted, hg, hyn]
          rw [hw]
          simp only [Bool.false_eq_true, if_false]
          exact wpOps_sound l r hl hd' h (hs.putO hdo undef_rel) (by rw [put_size]; exact hn) hQ
        · exact h.elim
end Go.Proofs.Ytnmjcdlgfimnaaa
