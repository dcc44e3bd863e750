/- Maps from numbers to rows on symbolic states. -/
import Derived.Test.YtnmjcdlgfimnaaaFkg
namespace Go.Proofs.Ytnmjcdlgfimnaaa

theorem getS_put (s : SymSt) (d : Nat) (v : TV) (i : Nat) : getS (s.put d v).sl i = if d = i then v else getS s.sl i := by
  simp only [SymSt.put, getS]
  by_cases h : d = i
  · simp [h]
  · have : (d == i) = false := by simpa using h
    simp [h, this]
/-- A slot is known better. -/
theorem Simm.know {R : Fr} {G : Hp} {γ : Nat → Value} {s : SymSt} {a : Act} {w : World} (h : Simm R G γ s a w) {d : Nat} {tv : TV} (hv : tv.rel G γ (a.tmps.getD d undef)) : Simm R G γ (s.put d tv) a w := by
  refine ⟨?_, h.mem, h.df, h.pn⟩
  intro i
  rw [getS_put]
  by_cases e : d = i
  · subst e; simpa using hv
  · simp only [if_neg e]; exact h.sl i

theorem Ok.reshape {w : World} {G : Hp} {R : Fr} {ids ids' : List Nat} {fr fr' : Nat → Hp} (h : Ok w G R ids fr) (hsub : ∀ i ∈ ids', ∀ b o, fr' i b = some o → ∃ j ∈ ids, fr j b = some o)
    (hdis : ∀ i ∈ ids', ∀ j ∈ ids', i ≠ j → ∀ b, fr' i b ≠ none → fr' j b = none) : Ok w G R ids' fr' := by
  have key : ∀ i ∈ ids', ∀ b, fr' i b ≠ none → ∃ j ∈ ids, fr j b ≠ none := by
    intro i hi b hb
    obtain ⟨o, ho⟩ := Option.ne_none_iff_exists'.1 hb
    obtain ⟨j, hj, e⟩ := hsub i hi b o ho
    exact ⟨j, hj, by simp [e]⟩
  refine ⟨h.g, h.r, h.gr, ?_, ?_, ?_, hdis, h.os, h.out⟩
  · intro i hi b o hb
    obtain ⟨j, hj, e⟩ := hsub i hi b o hb
    exact h.f j hj b o e
  · intro i hi b hb
    obtain ⟨j, hj, e⟩ := key i hi b hb
    exact h.gf j hj b e
  · intro i hi b hb
    obtain ⟨j, hj, e⟩ := key i hi b hb
    exact h.rf j hj b e

def updH (f : Hp) (b : Nat) (o : Obj) : Hp := fun j => if j = b then some o else f j
/-- A block of a box of several blocks is written anew. -/
theorem Ok.set2 {w : World} {G : Hp} {R : Fr} {ids : List Nat} {fr : Nat → Hp} (h : Ok w G R ids fr) {id : Nat} (hid : id ∈ ids) {b : Nat} {o : Obj} (hf : fr id b = some o) (o' : Obj) :
    Ok (wset w b o') G R ids (updF fr id (updH (fr id) b o')) := by
  have hb : fr id b ≠ none := by simp [hf]
  have hw : hpOf w b = some o := h.f id hid b o hf
  have keep : ∀ H : Hp, Hp.le H (hpOf w) → H b = none → Hp.le H (hpOf (wset w b o')) := by
    intro H hH hn j x hx
    have : j ≠ b := fun e => by rw [e, hn] at hx; exact absurd hx (by simp)
    rw [hpOf_set_ne this]; exact hH j x hx
  have nb : ∀ i ∈ ids, i ≠ id → fr i b = none := fun i hi hne => h.ff id hid i hi (Ne.symm hne) b hb
  have upd : ∀ j, updH (fr id) b o' j ≠ none → fr id j ≠ none := by
    intro j hj
    unfold updH at hj
    by_cases e : j = b
    · rw [e]; exact hb
    · rw [if_neg e] at hj; exact hj
  refine ⟨keep _ h.g (h.gf id hid b hb), keep _ h.r (h.rf id hid b hb), h.gr, ?_, ?_, ?_, ?_, h.os, h.out⟩
  · intro i hi
    by_cases e : i = id
    · subst e
      intro j x hx
      rw [updF_same] at hx
      unfold updH at hx
      by_cases ej : j = b
      · rw [if_pos ej] at hx
        simp only [Option.some.injEq] at hx
        subst hx
        subst ej
        exact hpOf_set_same hw
      · rw [if_neg ej] at hx
        rw [hpOf_set_ne ej]; exact h.f i hi j x hx
    · rw [updF_ne e]; exact keep _ (h.f i hi) (nb i hi e)
  · intro i hi j hj
    by_cases e : i = id
    · subst e; rw [updF_same] at hj; exact h.gf i hi j (upd j hj)
    · rw [updF_ne e] at hj; exact h.gf i hi j hj
  · intro i hi j hj
    by_cases e : i = id
    · subst e; rw [updF_same] at hj; exact h.rf i hi j (upd j hj)
    · rw [updF_ne e] at hj; exact h.rf i hi j hj
  · intro i hi j hj hij x hx
    by_cases e : i = id
    · subst e
      rw [updF_same] at hx
      rw [updF_ne (Ne.symm hij)]
      exact h.ff i hi j hj hij x (upd x hx)
    · rw [updF_ne e] at hx
      by_cases e' : j = id
      · subst e'
        rw [updF_same]
        have := h.ff i hi j hj hij x hx
        unfold updH
        by_cases ex : x = b
        · rw [ex] at hx; exact absurd (nb i hi e) hx
        · rw [if_neg ex]; exact this
      · rw [updF_ne e']; exact h.ff i hi j hj hij x hx

def updM {α : Type} (M : Int → List α) (k : Int) (l : List α) : Int → List α := fun j => if j = k then l else M j

section
variable {C : Ctx} {s : SymSt} {K : KT} {o : Oper} {R : Fr} {G : Hp} {γ : Nat → Value} {a : Act} {w : World}

/-- A map's box, as it lies. -/
theorem MemF.mpr {fr : Nat → Hp} {mem : List (Nat × Box)} (hm : MemF R G γ fr mem w) {m : Nat} {α : Type} {A : Rep α} {M : Int → List α} {V : Int → Value} {dead : Option (Int × Option Nat)} (hg : getM mem m = some (.mpr A M V dead)) :
    MprAt A M V (dead.map (·.1)) G (γ m) (fr m) ∧ (∀ k i, dead = some (k, some i) → γ i = V k) ∧ m ∈ idsM mem :=
  ⟨(hm.at' _ (getM_mem hg)).1, (hm.at' _ (getM_mem hg)).2, List.mem_map.2 ⟨_, getM_mem hg, rfl⟩⟩

theorem RowAt.val {α : Type} {A : Rep α} {l : List α} {v : Value} {f : Hp} (h : RowAt A G l v f) : ∃ ad c, v = .slice ad l.length c ∧ l.length ≤ c ∧ (ad = none → c = 0) ∧ ∀ b off sp, ad = some ⟨b, off, sp⟩ → c ≠ 0 → off = 0 ∧ sp = none ∧ f b ≠ none := by
  rcases h with ⟨b, t, es, sp, c, rfl, rfl, _, hn, _⟩ | ⟨rfl, ⟨ad, rfl⟩, _⟩
  · refine ⟨_, c, rfl, hn, by simp, ?_⟩
    intro b' off sp' e _
    simp only [Option.some.injEq, Addr.mk.injEq] at e
    obtain ⟨rfl, rfl, rfl⟩ := e
    exact ⟨rfl, rfl, by simp [sng]⟩
  · exact ⟨ad, 0, rfl, Nat.le_refl _, fun _ => rfl, fun _ _ _ _ h => absurd rfl h⟩

theorem RowAt.len {α : Type} {A : Rep α} {l : List α} {v : Value} {f : Hp} (h : RowAt A G l v f) : l.length ≤ mxL := by
  rcases h with ⟨b, t, es, sp, c, rfl, rfl, _, hn, hm, _⟩ | ⟨rfl, ⟨ad, rfl⟩, _⟩
  · exact Nat.le_trans hn hm
  · exact Nat.zero_le _
/-- m[k] -/
def vLookup (C : Ctx) (s : SymSt) (t : TypeId) (x ix : Operand) (K : KT) : Prop := match tdOf C t with
  | .map kt et => (match tdOf C kt with
    | .int _ => (match ev s x, ev s ix with
      | .l (.mp m), .l (.int kk k) => (match getM s.mem m with
        | some (.mpr _ _ V none) => kk = .i64 ∧ (C.P.info? et).bind (·.zero) = some (.slice none 0 0) ∧ K (.one (.l (.mrow m V k))) s
        | _ => False)
      | _, _ => False)
    | _ => False)
  | _ => False
theorem row_plain {α : Type} {A : Rep α} {l : List α} {v : Value} {f : Hp} (h : RowAt A G l v f) : Rep.plainCell v = true := by
  obtain ⟨ad, c, rfl, _⟩ := h.val
  rfl
theorem zero_of {P : Program} {w : World} {t : TypeId} {v : Value} (h : (P.info? t).bind (·.zero) = some v) : (zeroValue t).run P w = .ok v w := by
  cases hx : P.info? t with
  | none => rw [hx] at h; simp at h
  | some x =>
    rw [hx] at h
    simp only [Option.bind_some] at h
    simp [zeroValue, run_info hx, h]

theorem lookup_sound {t : TypeId} {x ix : Operand} (ho : o.op = .lookup t x ix false) (h : vLookup C s t x ix K) : Sound C.P o s K := by
  intro R G γ a w hs
  unfold vLookup at h
  split at h
  · rename_i kt et htd
    have hu : C.P.underlying t = some (.map kt et) := by have := tdOf_fits (C := C) (t := t) (by rw [htd]; simp); rw [htd] at this; exact this
    split at h
    · rename_i ki hkd
      have hk : C.P.underlying kt = some (.int ki) := by have := tdOf_fits (C := C) (t := kt) (by rw [hkd]; simp); rw [hkd] at this; exact this
      have hx := ev_rel hs.sl x
      have hix := ev_rel hs.sl ix
      split at h
      · rename_i m kk k hex hei
        rw [hex] at hx
        rw [hei] at hix
        have hx' : a.eval x = γ m := by have := hx; simp only [SV.rel, LV.relV, LV.rel, List.cons.injEq, and_true] at this; exact this.1
        have hix' : a.eval ix = .int kk k := (by simpa [SV.rel, LV.relV, LV.rel] using hix : a.eval ix = .int kk k ∧ inK kk k).1
        split at h
        · rename_i α A M V hg
          obtain ⟨rfl, hz, hK⟩ := h
          obtain ⟨fr, hmf⟩ := hs.mem
          obtain ⟨hat, _, hmem⟩ := hmf.mpr hg
          obtain ⟨r, es, clock, F, hv, hmap, hFr, hf, hdis, hrow, _⟩ := hat
          have hb : w.heap[r]? = some (.map es clock) := hmf.ok.f m hmem r _ ((hf r _).2 (.inl ⟨rfl, rfl⟩))
          have hrun := run_lookup (P := C.P) (w := w) hu hk (zero_of hz) hb hmap k
          refine opSem_value (v := V k) (w' := w) ?_ ⟨G, γ, _, s, Hp.le_refl G, hK, ?_, hs⟩
          · simp only [execOp, ho, hx', hv, hix', Sem.run_bind, hrun, Result.andThen_ok, Sem.run_pure]
          · show (LV.mrow m V k).rel G γ [V k]
            exact ⟨rfl, row_plain (hrow k (by simp))⟩
        · exact h.elim
      · exact h.elim
    · exact h.elim
  · exact h.elim

/-- len of a row in a map -/
def vLen2 (C : Ctx) (s : SymSt) (t : TypeId) (x : Operand) (K : KT) : Prop := match ev s x with
  | .l (.mrow m V k) => (match getM s.mem m, tdOf C t with
    | some (.mpr _ M V' none), .slice _ => V' = V ∧ K (.one (.l (.int .i64 (M k).length))) s
    | _, _ => False)
  | _ => vLen C s t x K
theorem len2_q {c : Call} {x : Operand} {t : TypeId} (ho : o.op = .call c) (hc : c.callee = .builtin .len) (ha : c.args.toList = [x]) (ht : c.argTypes.toList = [t]) (h : vLen2 C s t x K) : QSound C.P o s K := by
  unfold vLen2 at h
  split at h
  · rename_i m V k hex
    intro R G γ fr a w hs hmf
    have ha' : c.args = #[x] := by apply Array.ext'; simpa using ha
    have ht' : c.argTypes = #[t] := by apply Array.ext'; simpa using ht
    have hx := ev_rel hs x
    rw [hex] at hx
    have hx' : a.eval x = V k := by have := hx; simp only [SV.rel, LV.relV, LV.rel, List.cons.injEq, and_true] at this; exact this.1
    split at h
    · rename_i α A M V' e hg htd
      obtain ⟨rfl, hK⟩ := h
      have hu : C.P.underlying t = some (.slice e) := by have := tdOf_fits (C := C) (t := t) (by rw [htd]; simp); rw [htd] at this; exact this
      obtain ⟨⟨r, es, clock, F, hv, hmap, hFr, hf, hdis, hrow, _⟩, _, hmem⟩ := hmf.mpr hg
      obtain ⟨ad, cp, hV, _⟩ := (hrow k (by simp)).val
      refine ⟨.int .i64 (M k).length, _, fun w' _ => ?_, hK, rfl, inK_nat (hrow k (by simp)).len⟩
      have hrun : (Builtin.len_ #[t] o.type #[a.eval x]).run C.P w' = .ok (goInt (M k).length) w' := by
        rw [hx', hV]
        simp [Builtin.len_, run_under hu]
      simp [execOp, ho, resolve, hc, ha', ht', invoke, builtin, hrun, goInt]
    · exact h.elim
  · exact len_q ho hc ha ht h

def isZeroC : Option Operand → Bool
  | some (.const (.int _ n)) => n == 0
  | _ => false
def isNoneO : Option Operand → Bool
  | none => true
  | _ => false
/-- A row cut off at an end. -/
def vSlice2 (C : Ctx) (s : SymSt) (t : TypeId) (x : Operand) (lo hi mx : Option Operand) (K : KT) : Prop := match ev s x with
  | .l (.mrow m V k) => (match getM s.mem m, tdOf C t, lo, mx, bndI s 0 hi with
    | some (.mpr A M V' none), .slice e, none, none, some h => (match C.ty e with
      | some ei => V' = V ∧ hi ≠ none ∧ 0 ≤ h ∧ h ≤ (M k).length ∧ A.size = ei.size ∧ K (.one (.l (.mcut m V k h.toNat))) s
      | none => False)
    | _, _, _, _, _ => False)
  | .l (.own id) => bif isZeroC hi && isNoneO lo && isNoneO mx then (match getM s.mem id, tdOf C t with
    | some (.arr _ _), .slice e => (match C.ty e with
      | some _ => K (.one (.l (.ocut id 0))) s
      | none => False)
    | _, _ => False) else vSlice C s t x lo hi mx K
  | _ => vSlice C s t x lo hi mx K
theorem slice2_q {t : TypeId} {x : Operand} {lo hi mx : Option Operand} (ho : o.op = .slice t x lo hi mx) (h : vSlice2 C s t x lo hi mx K) : QSound C.P o s K := by
  unfold vSlice2 at h
  split at h
  · rename_i m V k hex
    intro R G γ fr a w hs hmf
    have hx := ev_rel hs x
    rw [hex] at hx
    have hx' : a.eval x = V k := by have := hx; simp only [SV.rel, LV.relV, LV.rel, List.cons.injEq, and_true] at this; exact this.1
    split at h
    · rename_i α A M V' e hh hg htd hb
      split at h
      · rename_i ei hei
        obtain ⟨rfl, hne, h0, hle, hA, hK⟩ := h
        have hu : C.P.underlying t = some (.slice e) := by have := tdOf_fits (C := C) (t := t) (by rw [htd]; simp); rw [htd] at this; exact this
        obtain ⟨⟨r, es, clock, F, hv, hmap, hFr, hf, hdis, hrow, _⟩, _, hmem⟩ := hmf.mpr hg
        obtain ⟨ad, cp, hV, hcp, _⟩ := (hrow k (by simp)).val
        have hhi : OptI (hi.map a.eval) ((M k).length : Int) hh := by
          cases hi with
          | none => exact absurd rfl hne
          | some y =>
            have := bndI_spec hs hb
            rcases this with ⟨h1, _⟩ | h1
            · simp at h1
            · exact .inr h1
        have hrun := run_sliceAt_slice' (C := C) (lo := none) hu hei (a := ad) (len := (M k).length) (cap := cp) (l := 0) (.inl ⟨rfl, rfl⟩) hhi (Int.le_refl 0) h0 (by omega)
        have e1 : (ad.map fun x => x.add 0) = ad := by cases ad <;> simp [Addr.add]
        refine ⟨.slice ad hh.toNat cp, _, fun w' _ => ?_, hK, ?_⟩
        · have := hrun w'
          simp only [Int.toNat_zero, Nat.zero_mul, Nat.sub_zero, e1, ite_self] at this
          simp only [execOp, ho, hx', hV, Option.map_none, Sem.run_bind, this, Result.andThen_ok, Sem.run_pure]
        · exact ⟨ad, (M k).length, cp, hV, by omega, hcp, rfl⟩
      · exact h.elim
    · exact h.elim
  · rename_i id hex
    cases hz : (isZeroC hi && isNoneO lo && isNoneO mx)
    · rw [hz, cond_false] at h; exact slice_q ho h
    · rw [hz, cond_true] at h
      simp only [Bool.and_eq_true] at hz
      obtain ⟨⟨hz1, hz2⟩, hz3⟩ := hz
      intro R G γ fr a w hs hmf
      have hx := ev_rel hs x
      rw [hex] at hx
      have hx' : a.eval x = γ id := by have := hx; simp only [SV.rel, LV.relV, LV.rel, List.cons.injEq, and_true] at this; exact this.1
      split at h
      · rename_i α A l e hg htd
        split at h
        · rename_i ei hei
          have hu : C.P.underlying t = some (.slice e) := by have := tdOf_fits (C := C) (t := t) (by rw [htd]; simp); rw [htd] at this; exact this
          have hrow : RowAt A G l (γ id) (fr id) := hmf.at' _ (getM_mem hg)
          obtain ⟨ad, cp, hV, hcp, _⟩ := hrow.val
          have hlo : lo = none := by cases lo <;> simp_all [isNoneO]
          have hmx : mx = none := by cases mx <;> simp_all [isNoneO]
          subst hlo hmx
          have hhi : ∃ k, hi.map a.eval = some (.int k 0) := by
            unfold isZeroC at hz1
            split at hz1
            · rename_i k n
              have : n = 0 := by simpa using hz1
              subst this
              exact ⟨k, rfl⟩
            · simp at hz1
          obtain ⟨k0, hhi⟩ := hhi
          have hrun := run_sliceAt_slice' (C := C) (lo := none) (hi := hi.map a.eval) hu hei (a := ad) (len := l.length) (cap := cp) (l := 0) (h := 0) (.inl ⟨rfl, rfl⟩) (.inr ⟨k0, hhi⟩) (Int.le_refl 0) (Int.le_refl 0) (by omega)
          have e1 : (ad.map fun x => x.add 0) = ad := by cases ad <;> simp [Addr.add]
          refine ⟨.slice ad 0 cp, _, fun w' _ => ?_, h, ?_⟩
          · have := hrun w'
            simp only [Int.toNat_zero, Nat.zero_mul, Nat.sub_zero, e1, ite_self] at this
            simp only [execOp, ho, hx', hV, Option.map_none, Sem.run_bind, this, Result.andThen_ok, Sem.run_pure]
          · exact ⟨ad, l.length, cp, hV, Nat.zero_le _, hcp, rfl⟩
        · exact h.elim
      · exact h.elim
  · exact slice_q ho h

/-- A row is taken out of a map. -/
def SymSt.openR {α : Type} (s : SymSt) (m id : Nat) (A : Rep α) (M : Int → List α) (V : Int → Value) (k : Int) : SymSt :=
  ⟨killSl id s.sl, (id, .arr A (M k)) :: setM (killMem id s.mem) m (.mpr A M V (some (k, some id))), s.pins⟩

theorem getM_killMem {id m : Nat} (hne : m ≠ id) : ∀ {mem : List (Nat × Box)} {b : Box}, getM mem m = some b → getM (killMem id mem) m = some (b.kill id)
  | [], _, h => by simp [getM] at h
  | (j, x) :: r, b, h => by
    unfold getM at h
    unfold killMem
    cases hj : (j == m)
    · rw [hj, cond_false] at h
      cases hji : (j == id)
      · simp only [cond_false, getM, hj]; exact getM_killMem hne h
      · exact getM_killMem hne h
    · rw [hj, cond_true, Option.some.injEq] at h
      subst h
      have e : j = m := by simpa using hj
      subst e
      have : (j == id) = false := by simpa using hne
      simp [this, getM]

theorem Simm.openRow (hs : Simm R G γ s a w) {m id : Nat} {α : Type} {A : Rep α} {M : Int → List α} {V : Int → Value} {k : Int} (hg : getM s.mem m = some (.mpr A M V none)) (hr : s.room id) (hne : m ≠ id) :
    Simm R G (updG γ id (V k)) (s.openR m id A M V k) a w := by
  obtain ⟨fr, hmf⟩ := hs.mem
  obtain ⟨⟨r, es, clock, F, hv, hmap, hFr, hf, hdis, hrow, _⟩, _, hmem⟩ := hmf.mpr hg
  have hγ : ∀ i, i ≠ id → updG γ id (V k) i = γ i := fun i hi => updG_ne hi
  refine ⟨hs.sl.kill hγ, ?_, hs.df, hs.pn⟩
  have hg' := getM_killMem hne hg
  have hnd := killMem_ids (id := id) hmf.nd
  have hid : id ∉ idsM (setM (killMem id s.mem) m (.mpr A M V (some (k, some id)))) := by
    rw [setM_ids]
    intro hi
    exact (killMem_sub _ hi).2 rfl
  have hFf : ∀ j b o, F j b = some o → fr m b = some o := fun j b o h => (hf b o).2 (.inr ⟨j, h⟩)
  let f1 : Hp := fun b => if F k b = none then fr m b else none
  have hf1 : ∀ b o, f1 b = some o → fr m b = some o ∧ F k b = none := by
    intro b o h
    simp only [f1] at h
    by_cases e : F k b = none
    · rw [if_pos e] at h; exact ⟨h, e⟩
    · rw [if_neg e] at h; simp at h
  refine ⟨updF (updF fr m f1) id (F k), ?_, ?_, ?_, ?_⟩
  · show (id :: idsM _).Nodup
    rw [List.nodup_cons]
    exact ⟨hid, by rw [setM_ids]; exact hnd⟩
  · intro i u hi
    have : i ≠ id := by rintro rfl; rw [hs.unpinned hr] at hi; exact absurd hi (by simp)
    rw [hγ i this]; exact hmf.pin i u hi
  · intro e he
    rcases List.mem_cons.1 he with rfl | he
    · simp only [updG_same, updF_same]
      exact hrow k (by simp)
    · rcases setM_mem hnd he with rfl | ⟨he, hem⟩
      · rw [updF_ne hne, updF_same, hγ m hne]
        refine ⟨⟨r, es, clock, fun j => if j = k then emp else F j, hv, hmap, ?_, ?_, ?_, ?_, ?_⟩, ?_⟩
        · intro j
          simp only
          split
          · rfl
          · exact hFr j
        · intro b o
          simp only [f1]
          constructor
          · intro h
            by_cases e : F k b = none
            · rw [if_pos e] at h
              rcases (hf b o).1 h with h | ⟨j, h⟩
              · exact .inl h
              · refine .inr ⟨j, ?_⟩
                have : j ≠ k := by rintro rfl; rw [h] at e; simp at e
                rw [if_neg this]; exact h
            · rw [if_neg e] at h; simp at h
          · rintro (⟨rfl, rfl⟩ | ⟨j, h⟩)
            · rw [if_pos (hFr k)]; exact (hf b _).2 (.inl ⟨rfl, rfl⟩)
            · by_cases ej : j = k
              · rw [if_pos ej] at h; simp [emp] at h
              · rw [if_neg ej] at h
                have : F k b = none := hdis j k b ej (by simp [h])
                rw [if_pos this]; exact hFf j b o h
        · intro i j b hij hb
          simp only at hb ⊢
          by_cases ei : i = k
          · rw [if_pos ei] at hb; simp [emp] at hb
          · rw [if_neg ei] at hb
            split
            · rfl
            · exact hdis i j b hij hb
        · intro j hj
          simp only
          have : j ≠ k := by rintro rfl; simp at hj
          rw [if_neg this]
          exact hrow j (by simp)
        · intro j hj
          simp only [Option.map_some, Option.some.injEq] at hj
          simp [hj.symm]
        · intro k' i' h
          simp only [Option.some.injEq, Prod.mk.injEq] at h
          obtain ⟨rfl, rfl⟩ := h
          rw [updG_same]
      · obtain ⟨hne2, b', h2, h3⟩ := killMem_mem he
        rw [hγ _ hne2, updF_ne hne2, updF_ne hem, h3]
        exact Box.kill_at hγ (hmf.at' _ h2)
  · have hin : ∀ i ∈ idsM (setM (killMem id s.mem) m (.mpr A M V (some (k, some id)))), i ∈ idsM s.mem ∧ i ≠ id := by
      intro i hi
      rw [setM_ids] at hi
      exact killMem_sub i hi
    have hF : ∀ i ∈ idsM (setM (killMem id s.mem) m (.mpr A M V (some (k, some id)))), ∀ b o, updF (updF fr m f1) id (F k) i b = some o → fr i b = some o ∧ F k b = none := by
      intro i hi b o hb
      obtain ⟨h1, h2⟩ := hin i hi
      rw [updF_ne h2] at hb
      by_cases e : i = m
      · subst e; rw [updF_same] at hb; exact hf1 b o hb
      · rw [updF_ne e] at hb
        refine ⟨hb, ?_⟩
        cases hx : F k b with
        | none => rfl
        | some x =>
          have h3 := hmf.ok.ff m hmem i h1 (Ne.symm e) b (by simp [hFf k b x hx])
          rw [h3] at hb; simp at hb
    refine hmf.ok.reshape ?_ ?_
    · intro i hi b o hb
      rcases List.mem_cons.1 hi with rfl | hi
      · rw [updF_same] at hb
        exact ⟨m, hmem, hFf k b o hb⟩
      · exact ⟨i, (hin i hi).1, (hF i hi b o hb).1⟩
    · intro i hi j hj hij b hb
      obtain ⟨o, hb⟩ := Option.ne_none_iff_exists'.1 hb
      rcases List.mem_cons.1 hi with ei | hi' <;> rcases List.mem_cons.1 hj with ej | hj'
      · exact absurd (ei.trans ej.symm) hij
      · rw [ei, updF_same] at hb
        cases hx : updF (updF fr m f1) id (F k) j b with
        | none => rfl
        | some x => rw [(hF j hj' b x hx).2] at hb; simp at hb
      · rw [ej, updF_same]; exact (hF i hi' b o hb).2
      · cases hx : updF (updF fr m f1) id (F k) j b with
        | none => rfl
        | some x =>
          have h1 := (hF i hi' b o hb).1
          have h2 := (hF j hj' b x hx).1
          have := hmf.ok.ff i (hin i hi').1 j (hin j hj').1 hij b (by simp [h1])
          rw [this] at h2; simp at h2

/-- Onto a row in a map. -/
def vAppend2 (C : Ctx) (d : Nat) (s : SymSt) (t xt : TypeId) (x y : Operand) (K : KT) : Prop := match ev s x with
  | .l (.mrow m V k) => (match getM s.mem m, x with
    | some (.mpr A M V' none), .tmp j => V' = V ∧ m ≠ d + 5000 ∧ s.room (d + 5000) ∧ vAppend C d ((s.openR m (d + 5000) A M V k).put j (.one (.l (.own (d + 5000))))) t xt x y K
    | _, _ => False)
  | _ => vAppend C d s t xt x y K
theorem append2_sound {c : Call} {x y : Operand} {t xt : TypeId} (ho : o.op = .call c) (hc : c.callee = .builtin .append) (ha : c.args.toList = [x, y]) (ht : c.argTypes.toList = [t, xt]) (h : vAppend2 C (dstOf o) s t xt x y K) : Sound C.P o s K := by
  unfold vAppend2 at h
  split at h
  · rename_i m V k hex
    split at h
    · rename_i α A M V' j hg
      obtain ⟨rfl, hne, hr, h⟩ := h
      intro R G γ a w hs
      have hx := ev_rel hs.sl (.tmp j)
      rw [hex] at hx
      have hx1 : a.eval (.tmp j) = V' k ∧ Rep.plainCell (V' k) = true := by have := hx; simp only [SV.rel, LV.relV, LV.rel, List.cons.injEq, and_true] at this; exact this
      have hs1 := hs.openRow (k := k) hg hr hne
      have hs2 := hs1.know (d := j) (tv := .one (.l (.own (dstOf o + 5000)))) (by
        show (LV.own _).rel G _ [a.tmps.getD j undef]
        have e : a.tmps.getD j undef = V' k := hx1.1
        rw [e]
        exact ⟨by rw [updG_same], by rw [updG_same]; exact hx1.2⟩)
      exact append_sound ho hc ha ht h R G _ a w hs2
    · exact h.elim
  · exact append_sound ho hc ha ht h

theorem run_makeMap {P : Program} {t : TypeId} {w : World} : (Instr.makeMap t none).run P w = .ok (.map (some w.heap.size)) (wpush w (.map #[] 0)) := rfl
/-- make of a map -/
def vMakeMap (C : Ctx) (d : Nat) (s : SymSt) (t : TypeId) (K : KT) : Prop := match tdOf C t with
  | .map _ et => (match tdOf C et with
    | .slice e => (match C.ty e with
      | some ei => (match ei.rep with
        | some r => s.room d ∧ ∀ V : Int → Value, K (.one (.l (.mp d))) (s.add d (.mpr r.A (fun _ => []) V none))
        | none => False)
      | none => False)
    | _ => False)
  | _ => False
theorem makeMap_sound {t : TypeId} (ho : o.op = .makeMap t none) (h : vMakeMap C (dstOf o) s t K) : Sound C.P o s K := by
  intro R G γ a w hs
  unfold vMakeMap at h
  split at h
  · split at h
    · split at h
      · split at h
        · rename_i r _
          obtain ⟨hr, h⟩ := h
          refine opSem_value (v := .map (some w.heap.size)) (w' := wpush w (.map #[] 0)) ?_ ?_
          · simp only [execOp, ho, Option.map_none, Sem.run_bind, run_makeMap, Result.andThen_ok, Sem.run_pure]
          · have hb : (Box.mpr r.A (fun _ => []) (fun _ => .slice none 0 0) none).at G γ (.map (some w.heap.size)) (sng w.heap.size (.map #[] 0)) := by
              refine ⟨⟨w.heap.size, #[], 0, fun _ => emp, rfl, ⟨by simp, by simp⟩, fun _ => rfl, ?_, ?_, ?_, fun _ _ => rfl⟩, fun k i h => by simp at h⟩
              · intro b o
                constructor
                · intro h; exact .inl (sng_eq h)
                · rintro (⟨rfl, rfl⟩ | ⟨k, h⟩)
                  · simp [sng]
                  · simp [emp] at h
              · intro k k' b _ h; simp [emp] at h
              · intro k _; exact .inr ⟨rfl, ⟨none, rfl⟩, rfl⟩
            refine ⟨G, _, _, _, Hp.le_refl G, h (fun _ => .slice none 0 0), ?_, hs.push (dstOf o) hr hb⟩
            show (LV.mp (dstOf o)).rel G _ [_]
            exact ⟨by rw [updG_same], by rw [updG_same]; rfl⟩
        · exact h.elim
      · exact h.elim
    · exact h.elim
  · exact h.elim

/-- m[k] = v -/
def vMapUpdate (C : Ctx) (s : SymSt) (t : TypeId) (x ix v : Operand) (K : KT) : Prop := match tdOf C t with
  | .map kt _ => (match tdOf C kt with
    | .int _ => (match ev s x, ev s ix, ev s v with
      | .l (.mp m), .l (.int kk k), .l (.own d) => (match getM s.mem m, getM s.mem d with
        | some (.mpr A M _ dead), some (.arr B l) => kk = .i64 ∧ (match dead with
          | none => True
          | some (k0, _) => k0 = k) ∧ slAs A (.mk B l) fun l => ∀ V' : Int → Value, K (.one (.l .undef)) ⟨s.sl, rmM (setM s.mem m (.mpr A (updM M k l) V' none)) d, s.pins⟩
        | _, _ => False)
      | .l (.mp m), .l (.int kk k), .l (.mcut _ V k' n) => (match getM s.mem m with
        | some (.mpr A M V' none) => kk = .i64 ∧ k' = k ∧ V' = V ∧ ∀ V'' : Int → Value, K (.one (.l .undef)) ⟨s.sl, setM s.mem m (.mpr A (updM M k ((M k).take n)) V'' none), s.pins⟩
        | _ => False)
      | _, _, _ => False)
    | _ => False)
  | _ => False

theorem RowAt.cut {α : Type} {A : Rep α} {l : List α} {f : Hp} {ad : Option Addr} {len c n : Nat} (h : RowAt A G l (.slice ad len c) f) (hn : n ≤ len) (hc : len ≤ c) : RowAt A G (l.take n) (.slice ad n c) f := by
  rcases h with ⟨b, t, es, sp, c', e, rfl, hl, hle, hmx, hsp⟩ | ⟨rfl, ⟨ad', e⟩, rfl⟩
  · simp only [Value.slice.injEq] at e
    obtain ⟨rfl, rfl, rfl⟩ := e
    have hes : es.length = l.length * A.size := EncL.length (fun _ _ h => A.enc_length h) hl
    have e0 : l = l.take n ++ l.drop n := by simp
    rw [e0] at hl
    obtain ⟨c1, d1, e1, h1, h2⟩ := EncL.append_inv hl
    have hc1 : c1.length = n * A.size := by
      have := EncL.length (fun _ _ h => A.enc_length h) h1
      rw [this, List.length_take, Nat.min_eq_left hn]
    refine .inl ⟨b, t, c1, d1 ++ sp, c, by rw [List.length_take, Nat.min_eq_left hn], by rw [e1, List.append_assoc], h1, by rw [List.length_take]; omega, hmx, ?_⟩
    have : d1.length = (l.length - n) * A.size := by
      have h3 := EncL.length (fun _ _ h => A.enc_length h) h2
      rw [h3, List.length_drop]
    rw [List.length_append, this, hsp, List.length_take, Nat.min_eq_left hn, ← Nat.add_mul]
    congr 1
    omega
  · simp only [Value.slice.injEq] at e
    obtain ⟨rfl, rfl, rfl⟩ := e
    have : n = 0 := by omega
    subst this
    exact .inr ⟨by simp, ⟨ad, rfl⟩, rfl⟩

theorem mapUpdate_sound {t : TypeId} {x ix v : Operand} (ho : o.op = .mapUpdate t x ix v) (h : vMapUpdate C s t x ix v K) : Sound C.P o s K := by
  intro R G γ a w hs
  unfold vMapUpdate at h
  have hx := ev_rel hs.sl x
  have hix := ev_rel hs.sl ix
  have hv := ev_rel hs.sl v
  split at h
  · rename_i kt et htd
    have hu : C.P.underlying t = some (.map kt et) := by have := tdOf_fits (C := C) (t := t) (by rw [htd]; simp); rw [htd] at this; exact this
    split at h
    · rename_i ki hkd
      have hk : C.P.underlying kt = some (.int ki) := by have := tdOf_fits (C := C) (t := kt) (by rw [hkd]; simp); rw [hkd] at this; exact this
      -- the map's own block
      have main : ∀ {m : Nat} {kk : IntKind} {k : Int} {α : Type} {A : Rep α} {M : Int → List α} {V : Int → Value} {dead : Option (Int × Option Nat)} {l : List α} {mem' : List (Nat × Box)} {fr : Nat → Hp}, ev s x = .l (.mp m) → ev s ix = .l (.int kk k) → kk = .i64 →
          MemF R G γ fr s.mem w → getM s.mem m = some (.mpr A M V dead) → (dead.map (·.1) = none ∨ dead.map (·.1) = some k) →
          {r : Nat} → {es : Array MapEntry} → {clock : Nat} → {F : Int → Hp} → γ m = .map (some r) → MapIs es V → (∀ k, F k r = none) → (∀ b o, fr m b = some o ↔ (b = r ∧ o = .map es clock) ∨ ∃ k, F k b = some o) →
          (∀ k k' b, k ≠ k' → F k b ≠ none → F k' b = none) → (∀ k, dead.map (·.1) ≠ some k → RowAt A G (M k) (V k) (F k)) →
          (f2 : Hp) → (ids : List Nat) → (∀ b o, f2 b = some o → (∃ j ∈ ids, fr j b = some o) ∨ fr m b = some o) → (∀ j ∈ ids, j ∈ idsM s.mem) → RowAt A G l (a.eval v) f2 →
          (∀ k' b, k' ≠ k → F k' b ≠ none → f2 b = none) → f2 r = none →
          (∀ e ∈ mem', e = (m, .mpr A (updM M k l) (updV V k (a.eval v)) none) ∨ (e ∈ s.mem ∧ e.1 ≠ m ∧ e.1 ∉ ids)) → (idsM mem').Nodup →
          (K (.one (.l .undef)) ⟨s.sl, mem', s.pins⟩) → opSem C.P a.eval o w (After R G a K) := by
        intro m kk k α A M V dead l mem' fr hex hei hkk hmf hg hdead r es clock F hvm hmap hFr hf hdis hrow f2 ids hf2 hids hrow2 hsep1 hsep2 hmem' hnd' hK
        subst hkk
        rw [hex] at hx
        rw [hei] at hix
        have hx' : a.eval x = γ m := by have := hx; simp only [SV.rel, LV.relV, LV.rel, List.cons.injEq, and_true] at this; exact this.1
        have hix' : a.eval ix = .int .i64 k := (by simpa [SV.rel, LV.relV, LV.rel] using hix : a.eval ix = .int .i64 k ∧ inK .i64 k).1
        have hmem : m ∈ idsM s.mem := (hmf.mpr hg).2.2
        have hb0 : fr m r = some (.map es clock) := (hf r _).2 (.inl ⟨rfl, rfl⟩)
        have hb : w.heap[r]? = some (.map es clock) := hmf.ok.f m hmem r _ hb0
        obtain ⟨es', clock', hrun, hmap'⟩ := run_update (P := C.P) (w := w) hu hk hb hmap k (a.eval v)
        refine opSem_skip (w' := wset w r (.map es' clock')) ?_ ⟨G, γ, .one (.l .undef), _, Hp.le_refl G, hK, trivial, hs.sl, ?_, hs.df, hs.pn⟩
        · simp only [execOp, ho, hx', hvm, hix', Sem.run_bind, hrun, Result.andThen_ok, Sem.run_pure]
        · have h2 := hmf.ok.set2 hmem hb0 (.map es' clock')
          let F2 : Int → Hp := fun j => if j = k then f2 else F j
          let fm : Hp := fun b => if b = r then some (.map es' clock') else if f2 b = none then (if F k b = none then fr m b else none) else f2 b
          have hfm : ∀ b o, fm b = some o ↔ (b = r ∧ o = .map es' clock') ∨ ∃ j, F2 j b = some o := by
            intro b o
            by_cases er : b = r
            · subst er
              simp only [fm, if_true, Option.some.injEq, true_and]
              constructor
              · intro h; exact .inl h.symm
              · rintro (h | ⟨j, h⟩)
                · exact h.symm
                · simp only [F2] at h
                  by_cases ej : j = k
                  · rw [if_pos ej, hsep2] at h; simp at h
                  · rw [if_neg ej, hFr] at h; simp at h
            · simp only [fm, if_neg er]
              cases e2 : f2 b with
              | some y =>
                simp only [reduceCtorEq, if_false, Option.some.injEq]
                constructor
                · rintro rfl; exact .inr ⟨k, by simp [F2, e2]⟩
                · rintro (⟨h, _⟩ | ⟨j, h⟩)
                  · exact absurd h er
                  · simp only [F2] at h
                    by_cases ej : j = k
                    · rw [if_pos ej, e2] at h; simpa using h
                    · rw [if_neg ej] at h
                      have := hsep1 j b ej (by simp [h])
                      rw [e2] at this; simp at this
              | none =>
                simp only [if_true]
                constructor
                · intro h
                  by_cases ek : F k b = none
                  · rw [if_pos ek] at h
                    rcases (hf b o).1 h with ⟨h1, _⟩ | ⟨j, h1⟩
                    · exact absurd h1 er
                    · refine .inr ⟨j, ?_⟩
                      have : j ≠ k := by rintro rfl; rw [h1] at ek; simp at ek
                      simp only [F2, if_neg this]; exact h1
                  · rw [if_neg ek] at h; simp at h
                · rintro (⟨h, _⟩ | ⟨j, h⟩)
                  · exact absurd h er
                  · simp only [F2] at h
                    by_cases ej : j = k
                    · rw [if_pos ej, e2] at h; simp at h
                    · rw [if_neg ej] at h
                      have : F k b = none := hdis j k b ej (by simp [h])
                      rw [if_pos this]; exact (hf b o).2 (.inr ⟨j, h⟩)
          have hsub : ∀ b o, fm b = some o → (b = r ∧ o = .map es' clock') ∨ (b ≠ r ∧ ((∃ j ∈ ids, fr j b = some o) ∨ fr m b = some o)) := by
            intro b o h
            rcases (hfm b o).1 h with h | ⟨j, h⟩
            · exact .inl h
            · simp only [F2] at h
              by_cases ej : j = k
              · rw [if_pos ej] at h
                refine .inr ⟨?_, hf2 b o h⟩
                intro er; rw [er, hsep2] at h; simp at h
              · rw [if_neg ej] at h
                refine .inr ⟨?_, .inr ((hf b o).2 (.inr ⟨j, h⟩))⟩
                intro er; rw [er, hFr] at h; simp at h
          have hold : ∀ i ∈ idsM mem', i ≠ m → i ∈ idsM s.mem ∧ i ∉ ids := by
            intro i hi hne
            obtain ⟨e, he, rfl⟩ := List.mem_map.1 hi
            rcases hmem' e he with rfl | ⟨h1, _, h3⟩
            · exact absurd rfl hne
            · exact ⟨List.mem_map.2 ⟨e, h1, rfl⟩, h3⟩
          refine ⟨updF fr m fm, hnd', hmf.pin, ?_, ?_⟩
          · intro e he
            rcases hmem' e he with rfl | ⟨h1, h3, _⟩
            · rw [updF_same]
              refine ⟨⟨r, es', clock', F2, hvm, hmap', ?_, hfm, ?_, ?_, fun j h => by simp at h⟩, fun j i h => by simp at h⟩
              · intro j
                simp only [F2]
                split
                · exact hsep2
                · exact hFr j
              · intro i j b hij hb
                simp only [F2] at hb ⊢
                by_cases ei : i = k
                · rw [if_pos ei] at hb
                  have ej : j ≠ k := fun e => hij (ei.trans e.symm)
                  rw [if_neg ej]
                  cases hx : F j b with
                  | none => rfl
                  | some y => exact absurd (hsep1 j b ej (by simp [hx])) hb
                · rw [if_neg ei] at hb
                  by_cases ej : j = k
                  · rw [if_pos ej]; exact hsep1 i b ei hb
                  · rw [if_neg ej]; exact hdis i j b hij hb
              · intro j _
                simp only [F2, updM, updV]
                by_cases ej : j = k
                · rw [if_pos ej, if_pos ej, if_pos ej]; exact hrow2
                · rw [if_neg ej, if_neg ej, if_neg ej]
                  refine hrow j ?_
                  rcases hdead with h | h
                  · rw [h]; simp
                  · rw [h]; simp [Ne.symm ej]
            · rw [updF_ne h3]; exact hmf.at' e h1
          · refine h2.reshape ?_ ?_
            · intro i hi b o' hb'
              by_cases ei : i = m
              · subst ei
                rw [updF_same] at hb'
                rcases hsub b o' hb' with ⟨rfl, rfl⟩ | ⟨hr, h⟩
                · exact ⟨i, hmem, by rw [updF_same]; simp [updH]⟩
                · rcases h with ⟨j, hj, h⟩ | h
                  · by_cases ej : j = i
                    · refine ⟨i, hmem, ?_⟩
                      rw [updF_same]; simp only [updH, if_neg hr]; rw [← ej]; exact h
                    · exact ⟨j, hids j hj, by rw [updF_ne ej]; exact h⟩
                  · exact ⟨i, hmem, by rw [updF_same]; simp only [updH, if_neg hr]; exact h⟩
              · rw [updF_ne ei] at hb'
                exact ⟨i, (hold i hi ei).1, by rw [updF_ne ei]; exact hb'⟩
            · have one : ∀ i ∈ idsM mem', i ≠ m → ∀ b, fr i b ≠ none → fm b = none := by
                intro i hi hne b hb'
                cases hx : fm b with
                | none => rfl
                | some y =>
                  obtain ⟨h1, h3⟩ := hold i hi hne
                  rcases hsub b y hx with ⟨rfl, _⟩ | ⟨_, ⟨j, hj, h⟩ | h⟩
                  · have := hmf.ok.ff i h1 m hmem hne b hb'
                    rw [hb0] at this; simp at this
                  · have hij : i ≠ j := fun e => h3 (e ▸ hj)
                    have := hmf.ok.ff i h1 j (hids j hj) hij b hb'
                    rw [h] at this; simp at this
                  · have := hmf.ok.ff i h1 m hmem hne b hb'
                    rw [h] at this; simp at this
              intro i hi j hj hij b hb'
              by_cases ei : i = m
              · subst ei
                rw [updF_same] at hb'
                rw [updF_ne (Ne.symm hij)]
                cases hx : fr j b with
                | none => rfl
                | some y => exact absurd (one j hj (Ne.symm hij) b (by simp [hx])) hb'
              · rw [updF_ne ei] at hb'
                by_cases ej : j = m
                · subst ej; rw [updF_same]; exact one i hi ei b hb'
                · rw [updF_ne ej]; exact hmf.ok.ff i (hold i hi ei).1 j (hold j hj ej).1 hij b hb'
      obtain ⟨fr, hmf⟩ := hs.mem
      split at h
      · rename_i m kk k d hex hei hev
        split at h
        · rename_i α A M V dead β B l hg hgd
          obtain ⟨hkk, hdead, e1, e2, h⟩ := h
          subst e1
          have e2' := eq_of_heq e2
          subst e2'
          simp only [cast_eq] at h
          have hne : d ≠ m := by rintro rfl; rw [hg] at hgd; simp at hgd
          have hdm : d ∈ idsM s.mem := List.mem_map.2 ⟨_, getM_mem hgd, rfl⟩
          have hmm : m ∈ idsM s.mem := List.mem_map.2 ⟨_, getM_mem hg, rfl⟩
          rw [hev] at hv
          have hv' : a.eval v = γ d := by have := hv; simp only [SV.rel, LV.relV, LV.rel, List.cons.injEq, and_true] at this; exact this.1
          have hrowd : RowAt B G l (γ d) (fr d) := hmf.at' _ (getM_mem hgd)
          obtain ⟨⟨r, es, clock, F, hvm, hmap, hFr, hf, hdis, hrow, _⟩, _, _⟩ := hmf.mpr hg
          have key : ∀ b, fr m b ≠ none → fr d b = none := fun b hb => hmf.ok.ff m hmm d hdm (Ne.symm hne) b hb
          refine main (l := l) (dead := dead) hex hei hkk hmf hg ?_ hvm hmap hFr hf hdis hrow (fr d) [d] (fun b o h => .inl ⟨d, by simp, h⟩) (by simpa using hdm) (hv' ▸ hrowd) ?_ ?_ ?_ ?_ (h (updV V k (a.eval v)))
          · rcases dead with _ | ⟨k0, i⟩
            · exact .inl rfl
            · exact .inr (by simp only [Option.map_some]; exact congrArg some hdead)
          · intro k' b _ hb
            obtain ⟨o', ho'⟩ := Option.ne_none_iff_exists'.1 hb
            exact key b (by rw [(hf b o').2 (.inr ⟨k', ho'⟩)]; simp)
          · exact key r (by rw [(hf r _).2 (.inl ⟨rfl, rfl⟩)]; simp)
          · intro e he
            obtain ⟨h1, h2⟩ := rmM_mem he
            rcases setM_mem hmf.nd h1 with rfl | ⟨h3, h4⟩
            · exact .inl rfl
            · exact .inr ⟨h3, h4, by simpa using h2⟩
          · exact rmM_ids (by rw [setM_ids]; exact hmf.nd)
        · exact h.elim
      · rename_i m kk k m2 V k' n hex hei hev
        split at h
        · rename_i α A M V' hg
          obtain ⟨hkk, rfl, rfl, h⟩ := h
          rw [hev] at hv
          obtain ⟨ad, len, c, hV, hn, hc, e⟩ := hv
          have hv' : a.eval v = .slice ad n c := by simpa using e
          obtain ⟨⟨r0, es0, clock0, F0, hvm0, hmap0, hFr0, hf0, hdis0, hrow0, _⟩, _, hmem⟩ := hmf.mpr hg
          have hrow1 := hrow0 k' (by simp)
          rw [hV] at hrow1
          have hcut := hrow1.cut hn hc
          refine main (l := (M k').take n) (dead := none) hex hei hkk hmf hg (.inl rfl) hvm0 hmap0 hFr0 hf0 hdis0 hrow0 (F0 k') [] (fun b o h => .inr ((hf0 b o).2 (.inr ⟨k', h⟩))) (by simp) (hv' ▸ hcut) ?_ (hFr0 k') ?_ ?_ (h (updV V' k' (a.eval v)))
          · intro j b hj hb
            exact hdis0 j k' b hj hb
          · intro e he
            rcases setM_mem hmf.nd he with rfl | ⟨h3, h4⟩
            · exact .inl rfl
            · exact .inr ⟨h3, h4, by simp⟩
          · rw [setM_ids]; exact hmf.nd
        · exact h.elim
      · exact h.elim
    · exact h.elim
  · exact h.elim

/-- A row is put back into its map. -/
theorem MemAt.closeRow {mem : List (Nat × Box)} (hm : MemAt R G γ mem w) {m id : Nat} {α : Type} {A : Rep α} {M : Int → List α} {V : Int → Value} {k : Int} {l : List α} (hg : getM mem m = some (.mpr A M V (some (k, some id)))) (hgd : getM mem id = some (.arr A l)) :
    MemAt R G γ (rmM (setM mem m (.mpr A (updM M k l) V none)) id) w := by
  obtain ⟨fr, hmf⟩ := hm
  obtain ⟨⟨r, es, clock, F, hvm, hmap, hFr, hf, hdis, hrow, hdk⟩, hval, hmem⟩ := hmf.mpr hg
  have hne : id ≠ m := by rintro rfl; rw [hg] at hgd; simp at hgd
  have hdm : id ∈ idsM mem := List.mem_map.2 ⟨_, getM_mem hgd, rfl⟩
  have hrowd : RowAt A G l (γ id) (fr id) := hmf.at' _ (getM_mem hgd)
  rw [hval k id rfl] at hrowd
  have key : ∀ b, fr m b ≠ none → fr id b = none := fun b hb => hmf.ok.ff m hmem id hdm (Ne.symm hne) b hb
  have hFk : F k = emp := hdk k rfl
  let F2 : Int → Hp := fun j => if j = k then fr id else F j
  let fm : Hp := fun b => if fr id b = none then fr m b else fr id b
  have hfm : ∀ b o, fm b = some o ↔ (b = r ∧ o = .map es clock) ∨ ∃ j, F2 j b = some o := by
    intro b o
    simp only [fm]
    constructor
    · intro h
      by_cases e : fr id b = none
      · rw [if_pos e] at h
        rcases (hf b o).1 h with h | ⟨j, h⟩
        · exact .inl h
        · refine .inr ⟨j, ?_⟩
          have : j ≠ k := by rintro rfl; rw [hFk] at h; simp [emp] at h
          simp only [F2, if_neg this]; exact h
      · rw [if_neg e] at h
        exact .inr ⟨k, by simp only [F2, if_true]; exact h⟩
    · rintro (⟨rfl, rfl⟩ | ⟨j, h⟩)
      · have h1 := (hf b _).2 (.inl ⟨rfl, rfl⟩)
        rw [if_pos (key b (by rw [h1]; simp))]; exact h1
      · simp only [F2] at h
        by_cases ej : j = k
        · rw [if_pos ej] at h
          rw [if_neg (by rw [h]; simp)]; exact h
        · rw [if_neg ej] at h
          have h1 := (hf b o).2 (.inr ⟨j, h⟩)
          rw [if_pos (key b (by rw [h1]; simp))]; exact h1
  have hin : ∀ i ∈ idsM (rmM (setM mem m (.mpr A (updM M k l) V none)) id), i ∈ idsM mem ∧ i ≠ id := by
    intro i hi
    obtain ⟨h1, h2⟩ := rmM_sub i hi
    rw [setM_ids] at h1
    exact ⟨h1, h2⟩
  refine ⟨updF fr m fm, rmM_ids (by rw [setM_ids]; exact hmf.nd), hmf.pin, ?_, ?_⟩
  · intro e he
    obtain ⟨h1, h2⟩ := rmM_mem he
    rcases setM_mem hmf.nd h1 with rfl | ⟨h3, h4⟩
    · rw [updF_same]
      refine ⟨⟨r, es, clock, F2, hvm, hmap, ?_, hfm, ?_, ?_, fun j h => by simp at h⟩, fun j i h => by simp at h⟩
      · intro j
        simp only [F2]
        split
        · exact key r (by rw [(hf r _).2 (.inl ⟨rfl, rfl⟩)]; simp)
        · exact hFr j
      · intro i j b hij hb
        have hFm : ∀ i, F i b ≠ none → fr id b = none := by
          intro i hb
          obtain ⟨o', ho'⟩ := Option.ne_none_iff_exists'.1 hb
          exact key b (by rw [(hf b o').2 (.inr ⟨i, ho'⟩)]; simp)
        simp only [F2] at hb ⊢
        by_cases ei : i = k
        · rw [if_pos ei] at hb
          have ej : j ≠ k := fun e => hij (ei.trans e.symm)
          rw [if_neg ej]
          cases hx : F j b with
          | none => rfl
          | some y => exact absurd (hFm j (by simp [hx])) hb
        · rw [if_neg ei] at hb
          by_cases ej : j = k
          · rw [if_pos ej]; exact hFm i hb
          · rw [if_neg ej]; exact hdis i j b hij hb
      · intro j _
        simp only [F2, updM]
        by_cases ej : j = k
        · rw [if_pos ej, if_pos ej, ej]; exact hrowd
        · rw [if_neg ej, if_neg ej]
          exact hrow j (by simp [Ne.symm ej])
    · rw [updF_ne h4]; exact hmf.at' e h3
  · refine hmf.ok.reshape ?_ ?_
    · intro i hi b o hb
      by_cases ei : i = m
      · subst ei
        rw [updF_same] at hb
        simp only [fm] at hb
        split at hb
        · exact ⟨i, hmem, hb⟩
        · exact ⟨id, hdm, hb⟩
      · rw [updF_ne ei] at hb
        exact ⟨i, (hin i hi).1, hb⟩
    · have one : ∀ i ∈ idsM (rmM (setM mem m (.mpr A (updM M k l) V none)) id), i ≠ m → ∀ b, fr i b ≠ none → fm b = none := by
        intro i hi hne2 b hb
        obtain ⟨h1, h3⟩ := hin i hi
        have a1 := hmf.ok.ff i h1 m hmem hne2 b hb
        have a2 := hmf.ok.ff i h1 id hdm h3 b hb
        simp only [fm, a2, if_true, a1]
      intro i hi j hj hij b hb
      by_cases ei : i = m
      · subst ei
        rw [updF_same] at hb
        rw [updF_ne (Ne.symm hij)]
        cases hx : fr j b with
        | none => rfl
        | some y => exact absurd (one j hj (Ne.symm hij) b (by simp [hx])) hb
      · rw [updF_ne ei] at hb
        by_cases ej : j = m
        · subst ej; rw [updF_same]; exact one i hi ei b hb
        · rw [updF_ne ej]; exact hmf.ok.ff i (hin i hi).1 j (hin j hj).1 hij b hb
end
end Go.Proofs.Ytnmjcdlgfimnaaa
