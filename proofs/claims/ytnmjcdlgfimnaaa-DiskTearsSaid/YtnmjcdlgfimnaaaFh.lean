/- Each operation: what it asks of a symbolic state, what it gives; and that the model does so. -/
import Derived.Test.YtnmjcdlgfimnaaaFg
namespace Go.Proofs.Ytnmjcdlgfimnaaa

/-- One operation of the model, told by what comes behind it. -/
def opSem (P : Program) (ρ : Operand → Value) (o : Oper) (w : World) (K : Value → World → Prop) : Prop :=
  match (execOp ρ o).run P w with
  | .ok (.value v) w' => K v w'
  | .ok .skip w' => K undef w'
  | .ok (.enter f args) w' => Calls P f args w' fun e w'' => ∃ v, e = .returned v ∧ K v w''
  | _ => False

/-- What comes behind, in symbols. -/
def After (R : Fr) (G : Hp) (a : Act) (K : TV → SymSt → Prop) (v : Value) (w' : World) : Prop :=
  ∃ G' γ' tv s', Hp.le G G' ∧ K tv s' ∧ tv.rel G' γ' v ∧ Simm R G' γ' s' a w'

/-- Worlds in which what is known stands. -/
def Agr (G : Hp) (fr : Nat → Hp) (ids : List Nat) (w' : World) : Prop := Hp.le G (hpOf w') ∧ ∀ i ∈ ids, Hp.le (fr i) (hpOf w')
theorem MemF.agr {R : Fr} {G : Hp} {γ : Nat → Value} {fr : Nat → Hp} {mem : List (Nat × Box)} {w : World} (h : MemF R G γ fr mem w) : Agr G fr (idsM mem) w := ⟨h.ok.g, h.ok.f⟩

/-- Does it look into memory? -/
def memOp : Op → Bool
  | .load _ _ => true
  | .convert _ _ _ => true
  | _ => false
/-- An operation that turns nothing: it gives the same wherever what is known stands. -/
def QSound (P : Program) (o : Oper) (s : SymSt) (K : TV → SymSt → Prop) : Prop :=
  ∀ (R : Fr) (G : Hp) (γ : Nat → Value) (fr : Nat → Hp) (a : Act) (w : World), SlotsOk G γ s.sl a.tmps → MemF R G γ fr s.mem w →
    ∃ v tv, (∀ w', (memOp o.op = true → Agr G fr (idsM s.mem) w') → (execOp a.eval o).run P w' = .ok (.value v) w') ∧ K tv s ∧ tv.rel G γ v

def Sound (P : Program) (o : Oper) (s : SymSt) (K : TV → SymSt → Prop) : Prop :=
  ∀ R G γ a w, Simm R G γ s a w → opSem P a.eval o w (After R G a K)

theorem After.of {R : Fr} {G : Hp} {γ : Nat → Value} {a : Act} {K : TV → SymSt → Prop} {v : Value} {w : World} {tv : TV} {s : SymSt} (hK : K tv s) (hv : tv.rel G γ v) (h : Simm R G γ s a w) : After R G a K v w :=
  ⟨G, γ, tv, s, Hp.le_refl G, hK, hv, h⟩

/-- Is a number one of its kind? -/
def fitsB : IntKind → Int → Bool
  | .i8, n => decide (-128 ≤ n) && decide (n ≤ 127)
  | .i16, n => decide (-32768 ≤ n) && decide (n ≤ 32767)
  | .i32, n => decide (-2147483648 ≤ n) && decide (n ≤ 2147483647)
  | .i64, n => decide (-9223372036854775808 ≤ n) && decide (n ≤ 9223372036854775807)
  | .u8, n => decide (0 ≤ n) && decide (n ≤ 255)
  | .u16, n => decide (0 ≤ n) && decide (n ≤ 65535)
  | .u32, n => decide (0 ≤ n) && decide (n ≤ 4294967295)
  | .u64, n => decide (0 ≤ n) && decide (n ≤ 18446744073709551615)
theorem fitsB_inK {k : IntKind} {n : Int} (h : fitsB k n = true) : inK k n := by
  unfold inK IntKind.min IntKind.max
  cases k <;> simpa [fitsB, IntKind.signed, IntKind.bits] using h
def cstV : Value → SV
  | .int k n => bif fitsB k n then .l (.int k n) else .l .undef
  | .bool b => .l (.bool b)
  | .string s => bif Nat.ble s.data.toList.length mxL then .l (.str s.data.toList) else .l .undef
  | .pointer none => .l .nilp
  | .slice none 0 0 => .l .nils
  | _ => .l .undef
def evT (s : SymSt) : Operand → TV
  | .tmp t => getS s.sl t
  | .const v => .one (cstV v)
  | .global _ => .one (.l .undef)
  | .func f => .one (.l (.clo f []))
def TV.sv : TV → SV
  | .one v => v
  | .tup _ => .l .undef
def ev (s : SymSt) (x : Operand) : SV := (evT s x).sv

theorem cstV_rel {G : Hp} {γ : Nat → Value} (v : Value) : (cstV v).rel G γ v := by
  unfold cstV
  split
  · rename_i k n
    cases h : fitsB k n
    · trivial
    · exact ⟨rfl, fitsB_inK h⟩
  · rfl
  · rename_i s
    cases h : Nat.ble s.data.toList.length mxL
    · trivial
    · exact ⟨rfl, Nat.le_of_ble_eq_true h⟩
  all_goals first | rfl | trivial
theorem evT_rel {G : Hp} {γ : Nat → Value} {s : SymSt} {a : Act} (h : SlotsOk G γ s.sl a.tmps) (x : Operand) : (evT s x).rel G γ (a.eval x) := by
  cases x with
  | tmp t => exact h t
  | const v => exact cstV_rel v
  | global g => trivial
  | func f => rfl
theorem ev_rel {G : Hp} {γ : Nat → Value} {s : SymSt} {a : Act} (h : SlotsOk G γ s.sl a.tmps) (x : Operand) : (ev s x).rel G γ (a.eval x) := by
  have := evT_rel h x
  unfold ev
  cases he : evT s x with
  | one v => rw [he] at this; exact this
  | tup vs => trivial

abbrev KT := TV → SymSt → Prop

section
variable {C : Ctx} {s : SymSt} {K : KT} {o : Oper}

theorem opSem_value {P : Program} {ρ : Operand → Value} {w w' : World} {v : Value} {K : Value → World → Prop} (h : (execOp ρ o).run P w = .ok (.value v) w') (hk : K v w') : opSem P ρ o w K := by
  unfold opSem; rw [h]; exact hk
theorem opSem_skip {P : Program} {ρ : Operand → Value} {w w' : World} {K : Value → World → Prop} (h : (execOp ρ o).run P w = .ok .skip w') (hk : K undef w') : opSem P ρ o w K := by
  unfold opSem; rw [h]; exact hk

theorem QSound.sound {P : Program} (h : QSound P o s K) : Sound P o s K := by
  intro R G γ a w hs
  obtain ⟨fr, hm⟩ := hs.mem
  obtain ⟨v, tv, hrun, hK, hrel⟩ := h R G γ fr a w hs.sl hm
  exact opSem_value (hrun w fun _ => hm.agr) (.of hK hrel hs)

/-- move, assign -/
theorem move_q {x : Operand} (ho : o.op = .move x ∨ o.op = .assign x) (h : K (evT s x) s) : QSound C.P o s K := by
  intro R G γ fr a w hs _
  refine ⟨a.eval x, evT s x, fun w' _ => ?_, h, evT_rel hs x⟩
  rcases ho with ho | ho <;> simp [execOp, ho]

/-- pick -/
def vPick (s : SymSt) (c a b : Operand) (K : KT) : Prop := match ev s c with
  | .l (.bool t) => (t = true → K (evT s a) s) ∧ (t = false → K (evT s b) s)
  | _ => False
theorem pick_q {c x y : Operand} (ho : o.op = .pick c x y) (h : vPick s c x y K) : QSound C.P o s K := by
  intro R G γ fr a w hs _
  unfold vPick at h
  have hc := ev_rel hs c
  split at h
  · rename_i t he
    rw [he] at hc
    have hc' : a.eval c = .bool t := by simpa [SV.rel, LV.relV, LV.rel] using hc
    cases t
    · exact ⟨a.eval y, _, fun w' _ => by simp [execOp, ho, hc', asBool], h.2 rfl, evT_rel hs y⟩
    · exact ⟨a.eval x, _, fun w' _ => by simp [execOp, ho, hc', asBool], h.1 rfl, evT_rel hs x⟩
  · exact h.elim

def dstOf (o : Oper) : Nat := o.dst.getD 0

/-- alloc -/
def vAlloc (C : Ctx) (d : Nat) (s : SymSt) (t : TypeId) (K : KT) : Prop := match C.ty t with
  | some i => s.room d ∧ K (.one (.l (.ptr d [] 0))) (s.add d (.segs i.zero))
  | none => False
theorem alloc_sound {t : TypeId} (ho : o.op = .alloc t) (h : vAlloc C (dstOf o) s t K) : Sound C.P o s K := by
  intro R G γ a w hs
  unfold vAlloc at h
  split at h
  · rename_i i hi
    obtain ⟨z, hz, hrun⟩ := run_alloc (w := w) (C.ok t i hi)
    refine opSem_value (v := .pointer (some ⟨w.heap.size, 0, none⟩)) (w' := wpush w (.cells (Value.cells z) t)) (by simp [execOp, ho, hrun]) ?_
    have hb : (Box.segs i.zero).at G γ (.pointer (some ⟨w.heap.size, 0, none⟩)) (sng w.heap.size (.cells z.cells t (0, 0))) := by
      refine ⟨w.heap.size, t, z.cells.toList, rfl, by simp, hz G γ⟩
    have := hs.push (dstOf o) h.1 hb
    refine ⟨G, _, _, _, Hp.le_refl G, h.2, ?_, this⟩
    simp [TV.rel, SV.rel, LV.relV, LV.rel, updG_same, blk, poff]
  · exact h.elim

/-- box -/
def svOk (v : SV) : Prop := match v with
  | .l .undef => False
  | _ => True
theorem svOk_leaves {v : SV} (h : svOk v) : v.leaves ≠ [.undef] ∨ ∃ xs, v = .agg xs := by
  cases v with
  | agg xs => exact .inr ⟨xs, rfl⟩
  | l x =>
    left
    intro e
    simp only [SV.leaves, List.cons.injEq, and_true] at e
    subst e
    exact h
theorem rel_leaves' {G : Hp} {γ : Nat → Value} {x : SV} {v : Value} (hu : svOk x) (h : x.rel G γ v) : RelL G γ x.leaves v.cells.toList := by
  rcases svOk_leaves hu with hu | ⟨xs, rfl⟩
  · exact SV.rel_leaves hu h
  · obtain ⟨cs, hc, rfl⟩ := h; exact hc
def vBox (d : Nat) (s : SymSt) (x : Operand) (K : KT) : Prop := svOk (ev s x) ∧ s.room d ∧ K (.one (.l (.ptr d [] 0))) (s.add d (.segs (ev s x).leaves))
theorem box_sound {t : TypeId} {x : Operand} (ho : o.op = .box t x) (h : vBox (dstOf o) s x K) : Sound C.P o s K := by
  intro R G γ a w hs
  refine opSem_value (v := .pointer (some ⟨w.heap.size, 0, none⟩)) (w' := wpush w (.cells (a.eval x).cells t)) (by simp only [execOp, ho, Sem.run_bind, run_box, Result.andThen_ok, Sem.run_pure]) ?_
  have hb : (Box.segs (ev s x).leaves).at G γ (.pointer (some ⟨w.heap.size, 0, none⟩)) (sng w.heap.size (.cells (a.eval x).cells t (0, 0))) :=
    ⟨w.heap.size, t, (a.eval x).cells.toList, rfl, by simp, rel_leaves' h.1 (ev_rel hs.sl x)⟩
  have := hs.push (dstOf o) h.2.1 hb
  refine ⟨G, _, _, _, Hp.le_refl G, h.2.2, ?_, this⟩
  simp [TV.rel, SV.rel, LV.relV, LV.rel, updG_same, blk, poff]

/-- A box's cells, wherever what is known stands. -/
theorem MemF.segs {R : Fr} {G : Hp} {γ : Nat → Value} {fr : Nat → Hp} {mem : List (Nat × Box)} {w : World} (hm' : MemF R G γ fr mem w) {id : Nat} {l : List LV} (hm : getM mem id = some (.segs l)) :
    ∃ b t cs, γ id = .pointer (some ⟨b, 0, none⟩) ∧ (∀ w', Agr G fr (idsM mem) w' → w'.heap[b]? = some (.cells cs.toArray t (0, 0))) ∧ RelL G γ l cs := by
  have hmem := getM_mem hm
  obtain ⟨b, t, cs, e, ef, hl⟩ := hm'.at' _ hmem
  refine ⟨b, t, cs, e, fun w' ha => ?_, hl⟩
  refine ha.2 id (List.mem_map.2 ⟨_, hmem, rfl⟩) b _ ?_
  simp only at ef
  rw [ef]; simp [sng]
/-- An array's cells, wherever what is known stands. -/
theorem MemF.arr {R : Fr} {G : Hp} {γ : Nat → Value} {fr : Nat → Hp} {mem : List (Nat × Box)} {w : World} (hm' : MemF R G γ fr mem w) {id : Nat} {α : Type} {A : Rep α} {l : List α} (hm : getM mem id = some (.arr A l)) :
    (l = [] ∧ ∃ a, γ id = .slice a 0 0) ∨ ∃ b t es sp c, γ id = .slice (some ⟨b, 0, none⟩) l.length c ∧ (∀ w', Agr G fr (idsM mem) w' → w'.heap[b]? = some (.cells (es ++ sp).toArray t (0, 0))) ∧ EncL (fun x c => A.enc G x c) l es ∧
      l.length ≤ c ∧ c ≤ mxL ∧ sp.length = (c - l.length) * A.size := by
  have hmem := getM_mem hm
  rcases hm'.at' _ hmem with ⟨b, t, es, sp, c, e, ef, hl, hn, hmx, hsp⟩ | ⟨h1, h2, _⟩
  · refine .inr ⟨b, t, es, sp, c, e, fun w' ha => ?_, hl, hn, hmx, hsp⟩
    refine ha.2 id (List.mem_map.2 ⟨_, hmem, rfl⟩) b _ ?_
    simp only at ef
    rw [ef]; simp [sng]
  · exact .inl ⟨h1, h2⟩

/-- A box's cells in the world. -/
theorem Simm.segs {R : Fr} {G : Hp} {γ : Nat → Value} {a : Act} {w : World} (hs : Simm R G γ s a w) {id : Nat} {l : List LV} (hm : getM s.mem id = some (.segs l)) :
    ∃ b t cs, γ id = .pointer (some ⟨b, 0, none⟩) ∧ w.heap[b]? = some (.cells cs.toArray t (0, 0)) ∧ RelL G γ l cs ∧
      ∀ {l' : List LV} {cs' : List Value}, RelL G γ l' cs' → MemAt R G γ (setM s.mem id (.segs l')) (wset w b (.cells cs'.toArray t (0, 0))) := by
  obtain ⟨f, hat, hle, hput⟩ := hs.mem.put hm
  obtain ⟨b, t, cs, e, ef, hl⟩ := hat
  refine ⟨b, t, cs, e, hle b _ (by rw [ef]; simp [sng]), hl, ?_⟩
  intro l' cs' hl'
  exact hput ef ⟨b, t, cs', e, rfl, hl'⟩

/-- An array's cells in the world. -/
theorem Simm.arr {R : Fr} {G : Hp} {γ : Nat → Value} {a : Act} {w : World} (hs : Simm R G γ s a w) {id : Nat} {α : Type} {A : Rep α} {l : List α} (hm : getM s.mem id = some (.arr A l)) :
    (l = [] ∧ ∃ a, γ id = .slice a 0 0) ∨ ∃ b t es sp c, γ id = .slice (some ⟨b, 0, none⟩) l.length c ∧ w.heap[b]? = some (.cells (es ++ sp).toArray t (0, 0)) ∧ EncL (fun x c => A.enc G x c) l es ∧
      l.length ≤ c ∧ c ≤ mxL ∧ sp.length = (c - l.length) * A.size ∧
      ∀ {l' : List α} {es' : List Value}, l'.length = l.length → EncL (fun x c => A.enc G x c) l' es' → MemAt R G γ (setM s.mem id (.arr A l')) (wset w b (.cells (es' ++ sp).toArray t (0, 0))) := by
  obtain ⟨f, hat, hle, hput⟩ := hs.mem.put hm
  rcases hat with ⟨b, t, es, sp, c, e, ef, hl, hn, hmx, hsp⟩ | ⟨h1, h2, _⟩
  · refine .inr ⟨b, t, es, sp, c, e, hle b _ (by rw [ef]; simp [sng]), hl, hn, hmx, hsp, ?_⟩
    intro l' es' hlen hl'
    exact hput ef (.inl ⟨b, t, es', sp, c, by rw [hlen]; exact e, rfl, hl', by omega, hmx, by rw [hlen]; exact hsp⟩)
  · exact .inl ⟨h1, h2⟩

/-- load -/
def vLoad (C : Ctx) (s : SymSt) (t : TypeId) (x : Operand) (K : KT) : Prop := match C.ty t with
  | none => False
  | some i => match ev s x with
    | .l (.ptr id path off) => (match getM s.mem id with
      | some (.segs l) => rdP i.size i.desc.agg path l off fun v => K (.one v) s
      | some (.arr A l) => (match path with
        | (0, sz, ix) :: p => sz = A.size ∧ ix.toNat < l.length ∧ rdP i.size i.desc.agg p [A.leaf (l.getD ix.toNat A.zero)] off fun v => K (.one v) s
        | [] => off = 0 ∧ (match i.desc with
          | .arr n _ => 0 < n ∧ n ≤ l.length ∧ i.size = n * A.size ∧ K (.one (.l (.dat (.arr n A) (l.take n)))) s
          | _ => False)
        | _ => False)
      | _ => False)
    | .l (.eptr A y path off) => rdP i.size i.desc.agg path [A.leaf y] off fun v => K (.one v) s
    | _ => False

theorem load_end {ids : List Nat} {fr' : Nat → Hp} {G : Hp} {γ : Nat → Value} {a : Act} {t : TypeId} {i : TyI} (hi : C.ty t = some i) {x : Operand}
    {b off : Nat} {p es q : List Value} {t' : TypeId} {fr : Nat × Nat} (hx : a.eval x = .pointer (some ⟨b, off, none⟩)) (hb : ∀ w, Agr G fr' ids w → w.heap[b]? = some (.cells (p ++ (es ++ q)).toArray t' fr)) (hp : p.length = off)
    {v : SV} (hg : Gives G γ i.size i.desc.agg v es) (hsz : i.desc.agg = false → i.size = 1) (hK : K (.one v) s) :
    ∃ ad u tv, a.eval x = .pointer (some ad) ∧ (∀ w, Agr G fr' ids w → (loadVar t ad).run C.P w = .ok u w) ∧ K tv s ∧ tv.rel G γ u := by
  have hok := C.ok t i hi
  cases hag : i.desc.agg
  · have h1 : es.length = 1 := hg.1.trans (hsz hag)
    match es, h1 with
    | [u], _ => exact ⟨_, u, _, hx, fun w ha => run_load_one (P := C.P) hok hag (a := ⟨b, off, none⟩) (cell_at (by simpa using hb w ha) hp), hK, hg.2.2 hag u rfl⟩
  · exact ⟨_, .agg es.toArray, _, hx, fun w ha => run_load_agg (P := C.P) hok hag (hb w ha) hp hg.1, hK, hg.2.1 hag⟩

theorem EncL.leafs {G : Hp} {γ : Nat → Value} {α : Type} {A : Rep α} {x : α} {c : List Value} (h : A.enc G x c) : RelL G γ [A.leaf x] c := .one ((A.leaf_rel G γ x c).2 h)

theorem vLoad_run {t : TypeId} {x : Operand} (h : vLoad C s t x K) {R : Fr} {G : Hp} {γ : Nat → Value} {fr : Nat → Hp} {a : Act} {w : World} (hs : SlotsOk G γ s.sl a.tmps) (hmf : MemF R G γ fr s.mem w) :
    ∃ ad u tv, a.eval x = .pointer (some ad) ∧ (∀ w', Agr G fr (idsM s.mem) w' → (loadVar t ad).run C.P w' = .ok u w') ∧ K tv s ∧ tv.rel G γ u := by
  unfold vLoad at h
  split at h
  · exact h.elim
  · rename_i i hi
    have hx := ev_rel hs x
    have hone := (C.ok t i hi).one
    split at h
    · rename_i id path off he
      rw [he] at hx
      have hx' : a.eval x = .pointer (some ⟨blk (γ id), poff path off, none⟩) := by simpa [SV.rel, LV.relV, LV.rel] using hx
      split at h
      · rename_i l hm
        obtain ⟨b, t', cs, e, hb, hl⟩ := hmf.segs hm
        obtain ⟨v, p, es, q, hK, rfl, hp, hg⟩ := rdP_spec h hl
        rw [e] at hx'
        exact load_end hi hx' hb hp hg hone hK
      · rename_i α A l hm
        split at h
        · rename_i sz ix p
          obtain ⟨rfl, hix, h⟩ := h
          rcases hmf.arr hm with ⟨rfl, _⟩ | ⟨b, t', es, sp, c, e, hb, hl, _, _⟩
          · simp at hix
          · obtain ⟨p1, c1, q1, rfl, hp1, hc1, _, _⟩ := EncL.at (fun _ _ h => A.enc_length h) hl ix.toNat hix
            have hd : l.getD ix.toNat A.zero = l[ix.toNat] := by rw [List.getD_eq_getElem?_getD, List.getElem?_eq_getElem hix]; rfl
            rw [hd] at h
            obtain ⟨v, p2, es2, q2, hK, rfl, hp2, hg⟩ := rdP_spec h (EncL.leafs (γ := γ) hc1)
            rw [e] at hx'
            simp only [blk] at hx'
            have hb' : ∀ w', Agr G fr (idsM s.mem) w' → w'.heap[b]? = some (.cells ((p1 ++ p2) ++ (es2 ++ (q2 ++ (q1 ++ sp)))).toArray t' (0, 0)) := fun w' ha => by rw [hb w' ha]; simp only [List.append_assoc]
            refine load_end hi hx' hb' ?_ hg hone hK
            simp only [List.length_append, poff]; omega
        · obtain ⟨rfl, h⟩ := h
          split at h
          · rename_i n e hd
            obtain ⟨hn0, hn, hsz, hK⟩ := h
            rcases hmf.arr hm with ⟨rfl, _⟩ | ⟨b, t', es, sp, c, e', hb, hl, _, _⟩
            · simp at hn; omega
            · have hsp : l = l.take n ++ l.drop n := by simp
              rw [hsp] at hl
              obtain ⟨c1, c2, rfl, h1, h2⟩ := EncL.append_inv hl
              have hlt : (l.take n).length = n := by simp; omega
              have hc1 : c1.length = i.size := by rw [EncL.length (fun _ _ h => A.enc_length h) h1, hlt, hsz]
              rw [e'] at hx'
              simp only [blk, poff] at hx'
              have hb' : ∀ w', Agr G fr (idsM s.mem) w' → w'.heap[b]? = some (.cells ([] ++ (c1 ++ (c2 ++ sp))).toArray t' (0, 0)) := fun w' ha => by rw [hb w' ha]; simp only [List.nil_append, List.append_assoc]
              have henc : (Rep.arr n A).enc G (l.take n) c1 := (Rep.enc_arr n A G _ _).2 ⟨hlt, h1⟩
              have hag : i.desc.agg = true := by rw [hd]; rfl
              refine load_end hi hx' hb' rfl (v := .l (.dat (.arr n A) (l.take n))) ⟨hc1, fun _ => ⟨c1, henc, rfl⟩, fun h => by rw [hag] at h; simp at h⟩ hone hK
          · exact h.elim
        · exact h.elim
      · exact h.elim
    · rename_i α A y path off he
      rw [he] at hx
      obtain ⟨b, p1, es1, q1, t', fr', e, hb, henc⟩ := hx
      obtain ⟨v, p2, es2, q2, hK, rfl, hp2, hg⟩ := rdP_spec h (EncL.leafs (γ := γ) henc)
      have e' : a.eval x = .pointer (some ⟨b, p1.length + poff path off, none⟩) := by simpa using e
      have hb2 : ∀ w', Agr G fr (idsM s.mem) w' → w'.heap[b]? = some (.cells ((p1 ++ p2) ++ (es2 ++ (q2 ++ q1))).toArray t' fr') := fun w' ha => by
        have : hpOf w' b = _ := ha.1 _ _ hb
        simp only [hpOf] at this
        rw [this]; simp only [List.append_assoc]
      refine load_end hi e' hb2 ?_ hg hone hK
      simp only [List.length_append]; omega
    · exact h.elim

theorem load_q {t : TypeId} {x : Operand} (ho : o.op = .load t x) (h : vLoad C s t x K) : QSound C.P o s K := by
  intro R G γ fr a w hs hm
  obtain ⟨ad, u, tv, hx, hrun, hK, hr⟩ := vLoad_run h hs hm
  exact ⟨u, tv, fun w' ha => by simp [execOp, ho, hx, Instr.loadAt, Instr.sureAddr, hrun w' (ha (by rw [ho]; rfl))], hK, hr⟩

/-- store -/
def vStore (C : Ctx) (s : SymSt) (t : TypeId) (x y : Operand) (K : KT) : Prop := match C.ty t with
  | none => False
  | some i => i.size ≠ 0 ∧ svOk (ev s y) ∧ sizeL (ev s y).leaves = i.size ∧ match ev s x with
    | .l (.ptr id path off) => (match getM s.mem id with
      | some (.segs l) => wrP i.size (ev s y) path l off fun l' => K (.one (.l .undef)) (s.setBox id (.segs l'))
      | some (.arr A l) => (match path with
        | (0, sz, ix) :: p => sz = A.size ∧ ix.toNat < l.length ∧ wrP i.size (ev s y) p [A.leaf (l.getD ix.toNat A.zero)] off fun l' => asR A (.agg l') fun z =>
            K (.one (.l .undef)) (s.setBox id (.arr A (l.set ix.toNat z)))
        | _ => False)
      | _ => False)
    | _ => False

theorem svOk_ne {v : SV} (h : svOk v) (hs : sizeL v.leaves ≠ 0) : v.leaves ≠ [.undef] ∨ v = .agg [.undef] := by
  rcases svOk_leaves h with h | ⟨xs, rfl⟩
  · exact .inl h
  · by_cases e : xs = [.undef]
    · subst e; exact .inr rfl
    · exact .inl e

theorem store_sound {t : TypeId} {x y : Operand} (ho : o.op = .store t x y) (h : vStore C s t x y K) : Sound C.P o s K := by
  intro R G γ a w hs
  unfold vStore at h
  split at h
  · exact h.elim
  · rename_i i hi
    obtain ⟨hz, hok, hsz, h⟩ := h
    have hx := ev_rel hs.sl x
    have hy := ev_rel hs.sl y
    have hyl := rel_leaves' hok hy
    have hlen : (a.eval y).cells.toList.length = i.size := by rw [RelL.length hyl, hsz]
    have hpl := RelL.plain hyl
    split at h
    · rename_i id path off he
      rw [he] at hx
      have hx' : a.eval x = .pointer (some ⟨blk (γ id), poff path off, none⟩) := by simpa [SV.rel, LV.relV, LV.rel] using hx
      split at h
      · rename_i l hm
        obtain ⟨b, t', cs, e, hb, hl, hput⟩ := hs.segs hm
        obtain ⟨l', p, old, q, hK, rfl, hp, hold, hr⟩ := wrP_spec hyl hsz h hl
        rw [e] at hx'
        have hrun := run_store_at (P := C.P) (C.ok t i hi) hb hp hold hlen hpl hz
        refine opSem_skip (w' := wset w b (.cells (p ++ ((a.eval y).cells.toList ++ q)).toArray t' (0, 0))) (by simp [execOp, ho, hx', blk, hrun]) ?_
        exact ⟨G, γ, _, _, Hp.le_refl G, hK, trivial, hs.sl, hput hr, hs.df, hs.pn⟩
      · rename_i α A l hm
        split at h
        · rename_i sz ix p
          obtain ⟨rfl, hix, h⟩ := h
          rcases hs.arr hm with ⟨rfl, _⟩ | ⟨b, t', es, sp, c, e, hb, hl, _, _, _, hput⟩
          · simp at hix
          · obtain ⟨p1, c1, q1, rfl, hp1, hc1, h1, h2⟩ := EncL.at (fun _ _ h => A.enc_length h) hl ix.toNat hix
            have hd : l.getD ix.toNat A.zero = l[ix.toNat] := by rw [List.getD_eq_getElem?_getD, List.getElem?_eq_getElem hix]; rfl
            rw [hd] at h
            obtain ⟨l', p2, old, q2, has, rfl, hp2, hold, hr⟩ := wrP_spec hyl hsz h (EncL.leafs (γ := γ) hc1)
            obtain ⟨z, hK, hz'⟩ := asR_sound has (rel_agg hr)
            rw [e] at hx'
            have hb' : w.heap[b]? = some (.cells ((p1 ++ p2) ++ (old ++ (q2 ++ (q1 ++ sp)))).toArray t' (0, 0)) := by rw [hb]; simp only [List.append_assoc]
            have hrun := run_store_at (P := C.P) (off := 0 + ix.toNat * A.size + poff p off) (C.ok t i hi) hb' (by simp only [List.length_append]; omega) hold hlen hpl hz
            simp only [blk, poff] at hx'
            refine opSem_skip (w' := wset w b (.cells ((p1 ++ p2) ++ ((a.eval y).cells.toList ++ (q2 ++ (q1 ++ sp)))).toArray t' (0, 0))) (by simp only [execOp, ho, hx', Sem.run_bind, hrun, Result.andThen_ok, Sem.run_pure]) ?_
            refine ⟨G, γ, _, _, Hp.le_refl G, hK, trivial, hs.sl, ?_, hs.df, hs.pn⟩
            have := hput (l' := l.set ix.toNat z) (es' := p1 ++ (p2 ++ ((a.eval y).cells.toList ++ q2)) ++ q1) (by simp) (EncL.set hix h1 (by simpa [Value.cells] using hz') h2)
            simpa only [List.append_assoc, SymSt.setBox] using this
        · exact h.elim
      · exact h.elim
    · exact h.elim
end
end Go.Proofs.Ytnmjcdlgfimnaaa
