/- Each operation: what it asks of a symbolic state, what it gives; and that the model does so. -/
import Derived.Test.YtnmjcdlgfimnaaaA1
import Derived.Laws.Strings
import Derived.Laws.BytesString
import Derived.Laws.Slices
namespace Go.Proofs.Ytnmjcdlgfimnaaa
def Qfy (P : Program) (ρ : Operand → Value) (o : Oper) (w : World) (K : Value → World → Prop) : Prop :=
 match (execOp ρ o).run P w with
 | .ok (.value v) w' => K v w'
 | .ok .skip w' => K undef w'
 | .ok (.enter f args) w' => Calls P f args w' fun e w'' => ∃ v, e = .returned v ∧ K v w''
 | _ => False
def Qkt (R : Fr) (G : Hp) (a : Act) (K : TV → Qan → Prop) (v : Value) (w' : World) : Prop :=
 ∃ G' γ' tv s', Hp.le G G' ∧ K tv s' ∧ tv.rel G' γ' v ∧ Qc4 R G' γ' s' a w'
def Agr (G : Hp) (fr : Nat → Hp) (ids : List Nat) (w' : World) : Prop := Hp.le G (Qeh w') ∧ ∀ i ∈ ids, Hp.le (fr i) (Qeh w')
theorem Qf4.agr {R : Fr} {G : Hp} {γ : Nat → Value} {fr : Nat → Hp} {mem : List (Nat × Box)} {w : World} (h : Qf4 R G γ fr mem w) : Agr G fr (Qao mem) w := ⟨h.ok.g, h.ok.f⟩
def Qvo : Op → Bool
 | .load _ _ => true
 | .convert _ _ _ => true
 | _ => false
def Qda (P : Program) (o : Oper) (s : Qan) (K : TV → Qan → Prop) : Prop :=
 ∀ (R : Fr) (G : Hp) (γ : Nat → Value) (fr : Nat → Hp) (a : Act) (w : World), Qb7 G γ s.sl a.tmps → Qf4 R G γ fr s.mem w →
  ∃ v tv, (∀ w', (Qvo o.op = true → Agr G fr (Qao s.mem) w') → (execOp a.eval o).run P w' = .ok (.value v) w') ∧ K tv s ∧ tv.rel G γ v
def Qet (P : Program) (o : Oper) (s : Qan) (K : TV → Qan → Prop) : Prop :=
 ∀ R G γ a w, Qc4 R G γ s a w → Qfy P a.eval o w (Qkt R G a K)
theorem Qkt.of {R : Fr} {G : Hp} {γ : Nat → Value} {a : Act} {K : TV → Qan → Prop} {v : Value} {w : World} {tv : TV} {s : Qan} (hK : K tv s) (hv : tv.rel G γ v) (h : Qc4 R G γ s a w) : Qkt R G a K v w :=
 ⟨G, γ, tv, s, Hp.le_refl G, hK, hv, h⟩
def Qr7 : IntKind → Int → Bool
 | .i8, n => decide (-128 ≤ n) && decide (n ≤ 127)
 | .i16, n => decide (-32768 ≤ n) && decide (n ≤ 32767)
 | .i32, n => decide (-2147483648 ≤ n) && decide (n ≤ 2147483647)
 | .i64, n => decide (-9223372036854775808 ≤ n) && decide (n ≤ 9223372036854775807)
 | .u8, n => decide (0 ≤ n) && decide (n ≤ 255)
 | .u16, n => decide (0 ≤ n) && decide (n ≤ 65535)
 | .u32, n => decide (0 ≤ n) && decide (n ≤ 4294967295)
 | .u64, n => decide (0 ≤ n) && decide (n ≤ 18446744073709551615)
theorem Qm1 {k : IntKind} {n : Int} (h : Qr7 k n = true) : inK k n := by
 unfold inK IntKind.min IntKind.max
 cases k <;> simpa [Qr7, IntKind.signed, IntKind.bits] using h
def Qx5 : Value → SV
 | .int k n => bif Qr7 k n then .l (.int k n) else .l .undef
 | .bool b => .l (.bool b)
 | .string s => bif Nat.ble s.data.toList.length mxL then .l (.str s.data.toList) else .l .undef
 | .pointer none => .l .nilp
 | .slice none 0 0 => .l .nils
 | _ => .l .undef
def evT (s : Qan) : Operand → TV
 | .tmp t => Qd7 s.sl t
 | .const v => .one (Qx5 v)
 | .global _ => .one (.l .undef)
 | .func f => .one (.l (.clo f []))
def TV.sv : TV → SV
 | .one v => v
 | .tup _ => .l .undef
def ev (s : Qan) (x : Operand) : SV := (evT s x).sv
theorem Qs6 {G : Hp} {γ : Nat → Value} (v : Value) : (Qx5 v).rel G γ v := by
 unfold Qx5
 split
 ·rename_i k n
  cases h : Qr7 k n
  ·trivial
  ·exact ⟨rfl, Qm1 h⟩
 ·rfl
 ·rename_i s
  cases h : Nat.ble s.data.toList.length mxL
  ·trivial
  ·exact ⟨rfl, Nat.le_of_ble_eq_true h⟩
 all_goals first | rfl | trivial
theorem Qjd {G : Hp} {γ : Nat → Value} {s : Qan} {a : Act} (h : Qb7 G γ s.sl a.tmps) (x : Operand) : (evT s x).rel G γ (a.eval x) := by
 cases x with
 | tmp t => exact h t
 | const v => exact Qs6 v
 | global g => trivial
 | func f => rfl
theorem Qb6 {G : Hp} {γ : Nat → Value} {s : Qan} {a : Act} (h : Qb7 G γ s.sl a.tmps) (x : Operand) : (ev s x).rel G γ (a.eval x) := by
 have := Qjd h x
 unfold ev
 cases he : evT s x with
 | one v => rw [he] at this; exact this
 | tup vs => trivial
abbrev KT := TV → Qan → Prop
section
variable {C : Ctx} {s : Qan} {K : KT} {o : Oper}
theorem Qcg {P : Program} {ρ : Operand → Value} {w w' : World} {v : Value} {K : Value → World → Prop} (h : (execOp ρ o).run P w = .ok (.value v) w') (hk : K v w') : Qfy P ρ o w K := by
 unfold Qfy; rw [h]; exact hk
theorem Qht {P : Program} {ρ : Operand → Value} {w w' : World} {K : Value → World → Prop} (h : (execOp ρ o).run P w = .ok .skip w') (hk : K undef w') : Qfy P ρ o w K := by
 unfold Qfy; rw [h]; exact hk
theorem Qda.sound {P : Program} (h : Qda P o s K) : Qet P o s K := by
 intro R G γ a w hs
 obtain ⟨fr, hm⟩ := hs.mem
 obtain ⟨v, tv, hrun, hK, hrel⟩ := h R G γ fr a w hs.sl hm
 exact Qcg (hrun w fun _ => hm.agr) (.of hK hrel hs)
theorem Qun {x : Operand} (ho : o.op = .move x ∨ o.op = .assign x) (h : K (evT s x) s) : Qda C.P o s K := by
 intro R G γ fr a w hs _
 refine ⟨a.eval x, evT s x, fun w' _ => ?_, h, Qjd hs x⟩
 rcases ho with ho | ho <;> simp [execOp, ho]
def Qs8 (s : Qan) (c a b : Operand) (K : KT) : Prop := match ev s c with
 | .l (.bool t) => (t = true → K (evT s a) s) ∧ (t = false → K (evT s b) s)
 | _ => False
theorem Qw6 {c x y : Operand} (ho : o.op = .pick c x y) (h : Qs8 s c x y K) : Qda C.P o s K := by
 intro R G γ fr a w hs _
 unfold Qs8 at h
 have hc := Qb6 hs c
 split at h
 ·rename_i t he
  rw [he] at hc
  have hc' : a.eval c = .bool t := by simpa [SV.rel, LV.relV, LV.rel] using hc
  cases t
  ·exact ⟨a.eval y, _, fun w' _ => by simp [execOp, ho, hc', asBool], h.2 rfl, Qjd hs y⟩
  ·exact ⟨a.eval x, _, fun w' _ => by simp [execOp, ho, hc', asBool], h.1 rfl, Qjd hs x⟩
 ·exact h.elim
def Qdq (o : Oper) : Nat := o.dst.getD 0
def Qpv (C : Ctx) (d : Nat) (s : Qan) (t : TypeId) (K : KT) : Prop := match C.ty t with
 | some i => s.room d ∧ K (.one (.l (.ptr d [] 0))) (s.add d (.segs i.zero))
 | none => False
theorem Qox {t : TypeId} (ho : o.op = .alloc t) (h : Qpv C (Qdq o) s t K) : Qet C.P o s K := by
 intro R G γ a w hs
 unfold Qpv at h
 split at h
 ·rename_i i hi
  obtain ⟨z, hz, hrun⟩ := Qrb (w := w) (C.ok t i hi)
  refine Qcg (v := .pointer (some ⟨w.heap.size, 0, none⟩)) (w' := Qfb w (.cells (Value.cells z) t)) (by simp [execOp, ho, hrun]) ?_
  have hb : (Box.segs i.zero).at G γ (.pointer (some ⟨w.heap.size, 0, none⟩)) (sng w.heap.size (.cells z.cells t (0, 0))) := by
   refine ⟨w.heap.size, t, z.cells.toList, rfl, by simp, hz G γ⟩
  have := hs.push (Qdq o) h.1 hb
  refine ⟨G, _, _, _, Hp.le_refl G, h.2, ?_, this⟩
  simp [TV.rel, SV.rel, LV.relV, LV.rel, Qcf, blk, Qdx]
 ·exact h.elim
def Qv4 (v : SV) : Prop := match v with
 | .l .undef => False
 | _ => True
theorem Qon {v : SV} (h : Qv4 v) : v.leaves ≠ [.undef] ∨ ∃ xs, v = .agg xs := by
 cases v with
 | agg xs => exact .inr ⟨xs, rfl⟩
 | l x =>
  left
  intro e
  simp only [SV.leaves, List.cons.injEq, and_true] at e
  subst e
  exact h
theorem Qf2 {G : Hp} {γ : Nat → Value} {x : SV} {v : Value} (hu : Qv4 x) (h : x.rel G γ v) : Qb5 G γ x.leaves v.cells.toList := by
 rcases Qon hu with hu | ⟨xs, rfl⟩
 ·exact SV.rel_leaves hu h
 ·obtain ⟨cs, hc, rfl⟩ := h; exact hc
def Qy9 (d : Nat) (s : Qan) (x : Operand) (K : KT) : Prop := Qv4 (ev s x) ∧ s.room d ∧ K (.one (.l (.ptr d [] 0))) (s.add d (.segs (ev s x).leaves))
theorem Qrp {t : TypeId} {x : Operand} (ho : o.op = .box t x) (h : Qy9 (Qdq o) s x K) : Qet C.P o s K := by
 intro R G γ a w hs
 refine Qcg (v := .pointer (some ⟨w.heap.size, 0, none⟩)) (w' := Qfb w (.cells (a.eval x).cells t)) (by simp only [execOp, ho, Sem.run_bind, Qu5, Result.andThen_ok, Sem.run_pure]) ?_
 have hb : (Box.segs (ev s x).leaves).at G γ (.pointer (some ⟨w.heap.size, 0, none⟩)) (sng w.heap.size (.cells (a.eval x).cells t (0, 0))) :=
  ⟨w.heap.size, t, (a.eval x).cells.toList, rfl, by simp, Qf2 h.1 (Qb6 hs.sl x)⟩
 have := hs.push (Qdq o) h.2.1 hb
 refine ⟨G, _, _, _, Hp.le_refl G, h.2.2, ?_, this⟩
 simp [TV.rel, SV.rel, LV.relV, LV.rel, Qcf, blk, Qdx]
theorem Qf4.segs {R : Fr} {G : Hp} {γ : Nat → Value} {fr : Nat → Hp} {mem : List (Nat × Box)} {w : World} (hm' : Qf4 R G γ fr mem w) {id : Nat} {l : List LV} (hm : Qco mem id = some (.segs l)) :
    ∃ b t cs, γ id = .pointer (some ⟨b, 0, none⟩) ∧ (∀ w', Agr G fr (Qao mem) w' → w'.heap[b]? = some (.cells cs.toArray t (0, 0))) ∧ Qb5 G γ l cs := by
 have hmem := Qca hm
 obtain ⟨b, t, cs, e, ef, hl⟩ := hm'.at' _ hmem
 refine ⟨b, t, cs, e, fun w' ha => ?_, hl⟩
 refine ha.2 id (List.mem_map.2 ⟨_, hmem, rfl⟩) b _ ?_
 simp only at ef
 rw [ef]; simp [sng]
theorem Qf4.arr {R : Fr} {G : Hp} {γ : Nat → Value} {fr : Nat → Hp} {mem : List (Nat × Box)} {w : World} (hm' : Qf4 R G γ fr mem w) {id : Nat} {α : Type} {A : Rep α} {l : List α} (hm : Qco mem id = some (.arr A l)) :
    (l = [] ∧ ∃ a, γ id = .slice a 0 0) ∨ ∃ b t es sp c, γ id = .slice (some ⟨b, 0, none⟩) l.length c ∧ (∀ w', Agr G fr (Qao mem) w' → w'.heap[b]? = some (.cells (es ++ sp).toArray t (0, 0))) ∧ EncL (fun x c => A.enc G x c) l es ∧
     l.length ≤ c ∧ c ≤ mxL ∧ sp.length = (c - l.length) * A.size := by
 have hmem := Qca hm
 rcases hm'.at' _ hmem with ⟨b, t, es, sp, c, e, ef, hl, hn, hmx, hsp⟩ | ⟨h1, h2, _⟩
 ·refine .inr ⟨b, t, es, sp, c, e, fun w' ha => ?_, hl, hn, hmx, hsp⟩
  refine ha.2 id (List.mem_map.2 ⟨_, hmem, rfl⟩) b _ ?_
  simp only at ef
  rw [ef]; simp [sng]
 ·exact .inl ⟨h1, h2⟩
theorem Qc4.segs {R : Fr} {G : Hp} {γ : Nat → Value} {a : Act} {w : World} (hs : Qc4 R G γ s a w) {id : Nat} {l : List LV} (hm : Qco s.mem id = some (.segs l)) :
    ∃ b t cs, γ id = .pointer (some ⟨b, 0, none⟩) ∧ w.heap[b]? = some (.cells cs.toArray t (0, 0)) ∧ Qb5 G γ l cs ∧
     ∀ {l' : List LV} {cs' : List Value}, Qb5 G γ l' cs' → Qdi R G γ (Qhg s.mem id (.segs l')) (Qfp w b (.cells cs'.toArray t (0, 0))) := by
 obtain ⟨f, hat, hle, hput⟩ := hs.mem.put hm
 obtain ⟨b, t, cs, e, ef, hl⟩ := hat
 refine ⟨b, t, cs, e, hle b _ (by rw [ef]; simp [sng]), hl, ?_⟩
 intro l' cs' hl'
 exact hput ef ⟨b, t, cs', e, rfl, hl'⟩
theorem Qc4.arr {R : Fr} {G : Hp} {γ : Nat → Value} {a : Act} {w : World} (hs : Qc4 R G γ s a w) {id : Nat} {α : Type} {A : Rep α} {l : List α} (hm : Qco s.mem id = some (.arr A l)) :
    (l = [] ∧ ∃ a, γ id = .slice a 0 0) ∨ ∃ b t es sp c, γ id = .slice (some ⟨b, 0, none⟩) l.length c ∧ w.heap[b]? = some (.cells (es ++ sp).toArray t (0, 0)) ∧ EncL (fun x c => A.enc G x c) l es ∧
     l.length ≤ c ∧ c ≤ mxL ∧ sp.length = (c - l.length) * A.size ∧
     ∀ {l' : List α} {es' : List Value}, l'.length = l.length → EncL (fun x c => A.enc G x c) l' es' → Qdi R G γ (Qhg s.mem id (.arr A l')) (Qfp w b (.cells (es' ++ sp).toArray t (0, 0))) := by
 obtain ⟨f, hat, hle, hput⟩ := hs.mem.put hm
 rcases hat with ⟨b, t, es, sp, c, e, ef, hl, hn, hmx, hsp⟩ | ⟨h1, h2, _⟩
 ·refine .inr ⟨b, t, es, sp, c, e, hle b _ (by rw [ef]; simp [sng]), hl, hn, hmx, hsp, ?_⟩
  intro l' es' hlen hl'
  exact hput ef (.inl ⟨b, t, es', sp, c, by rw [hlen]; exact e, rfl, hl', by omega, hmx, by rw [hlen]; exact hsp⟩)
 ·exact .inl ⟨h1, h2⟩
def Qor (C : Ctx) (s : Qan) (t : TypeId) (x : Operand) (K : KT) : Prop := match C.ty t with
 | none => False
 | some i => match ev s x with
  | .l (.ptr id path off) => (match Qco s.mem id with
   | some (.segs l) => rdP i.size i.desc.agg path l off fun v => K (.one v) s
   | some (.arr A l) => (match path with
    | (0, sz, ix) :: p => sz = A.size ∧ ix.toNat < l.length ∧ rdP i.size i.desc.agg p [A.leaf (l.getD ix.toNat A.zero)] off fun v => K (.one v) s
    | [] => off = 0 ∧ (match i.desc with
     | .arr n _ => 0 < n ∧ n ≤ l.length ∧ i.size = n * A.size ∧ K (.one (.l (.dat (.arr n A) (l.take n)))) s
     | _ => False)
    | _ => False)
   | _ => False)
  | .l (.eptr A y path off) => rdP i.size i.desc.agg path [A.leaf y] off fun v => K (.one v) s
  | _ => False
theorem Qiz {ids : List Nat} {fr' : Nat → Hp} {G : Hp} {γ : Nat → Value} {a : Act} {t : TypeId} {i : TyI} (hi : C.ty t = some i) {x : Operand}
    {b off : Nat} {p es q : List Value} {t' : TypeId} {fr : Nat × Nat} (hx : a.eval x = .pointer (some ⟨b, off, none⟩)) (hb : ∀ w, Agr G fr' ids w → w.heap[b]? = some (.cells (p ++ (es ++ q)).toArray t' fr)) (hp : p.length = off)
    {v : SV} (hg : Qom G γ i.size i.desc.agg v es) (hsz : i.desc.agg = false → i.size = 1) (hK : K (.one v) s) :
    ∃ ad u tv, a.eval x = .pointer (some ad) ∧ (∀ w, Agr G fr' ids w → (loadVar t ad).run C.P w = .ok u w) ∧ K tv s ∧ tv.rel G γ u := by
 have hok := C.ok t i hi
 cases hag : i.desc.agg
 ·have h1 : es.length = 1 := hg.1.trans (hsz hag)
  match es, h1 with
  | [u], _ => exact ⟨_, u, _, hx, fun w ha => Qog (P := C.P) hok hag (a := ⟨b, off, none⟩) (Qmd (by simpa using hb w ha) hp), hK, hg.2.2 hag u rfl⟩
 ·exact ⟨_, .agg es.toArray, _, hx, fun w ha => Qmt (P := C.P) hok hag (hb w ha) hp hg.1, hK, hg.2.1 hag⟩
theorem EncL.leafs {G : Hp} {γ : Nat → Value} {α : Type} {A : Rep α} {x : α} {c : List Value} (h : A.enc G x c) : Qb5 G γ [A.leaf x] c := .one ((A.leaf_rel G γ x c).2 h)
theorem Qn0 {t : TypeId} {x : Operand} (h : Qor C s t x K) {R : Fr} {G : Hp} {γ : Nat → Value} {fr : Nat → Hp} {a : Act} {w : World} (hs : Qb7 G γ s.sl a.tmps) (hmf : Qf4 R G γ fr s.mem w) :
    ∃ ad u tv, a.eval x = .pointer (some ad) ∧ (∀ w', Agr G fr (Qao s.mem) w' → (loadVar t ad).run C.P w' = .ok u w') ∧ K tv s ∧ tv.rel G γ u := by
 unfold Qor at h
 split at h
 ·exact h.elim
 ·rename_i i hi
  have hx := Qb6 hs x
  have hone := (C.ok t i hi).one
  split at h
  ·rename_i id path off he
   rw [he] at hx
   have hx' : a.eval x = .pointer (some ⟨blk (γ id), Qdx path off, none⟩) := by simpa [SV.rel, LV.relV, LV.rel] using hx
   split at h
   ·rename_i l hm
    obtain ⟨b, t', cs, e, hb, hl⟩ := hmf.segs hm
    obtain ⟨v, p, es, q, hK, rfl, hp, hg⟩ := Qiv h hl
    rw [e] at hx'
    exact Qiz hi hx' hb hp hg hone hK
   ·rename_i α A l hm
    split at h
    ·rename_i sz ix p
     obtain ⟨rfl, hix, h⟩ := h
     rcases hmf.arr hm with ⟨rfl, _⟩ | ⟨b, t', es, sp, c, e, hb, hl, _, _⟩
     ·simp at hix
     ·obtain ⟨p1, c1, q1, rfl, hp1, hc1, _, _⟩ := EncL.at (fun _ _ h => A.enc_length h) hl ix.toNat hix
      have hd : l.getD ix.toNat A.zero = l[ix.toNat] := by rw [List.getD_eq_getElem?_getD, List.getElem?_eq_getElem hix]; rfl
      rw [hd] at h
      obtain ⟨v, p2, es2, q2, hK, rfl, hp2, hg⟩ := Qiv h (EncL.leafs (γ := γ) hc1)
      rw [e] at hx'
      simp only [blk] at hx'
      have hb' : ∀ w', Agr G fr (Qao s.mem) w' → w'.heap[b]? = some (.cells ((p1 ++ p2) ++ (es2 ++ (q2 ++ (q1 ++ sp)))).toArray t' (0, 0)) := fun w' ha => by rw [hb w' ha]; simp only [List.append_assoc]
      refine Qiz hi hx' hb' ?_ hg hone hK
      simp only [List.length_append, Qdx]; omega
    ·obtain ⟨rfl, h⟩ := h
     split at h
     ·rename_i n e hd
      obtain ⟨hn0, hn, hsz, hK⟩ := h
      rcases hmf.arr hm with ⟨rfl, _⟩ | ⟨b, t', es, sp, c, e', hb, hl, _, _⟩
      ·simp at hn; omega
      ·have hsp : l = l.take n ++ l.drop n := by simp
       rw [hsp] at hl
       obtain ⟨c1, c2, rfl, h1, h2⟩ := EncL.append_inv hl
       have hlt : (l.take n).length = n := by simp; omega
       have hc1 : c1.length = i.size := by rw [EncL.length (fun _ _ h => A.enc_length h) h1, hlt, hsz]
       rw [e'] at hx'
       simp only [blk, Qdx] at hx'
       have hb' : ∀ w', Agr G fr (Qao s.mem) w' → w'.heap[b]? = some (.cells ([] ++ (c1 ++ (c2 ++ sp))).toArray t' (0, 0)) := fun w' ha => by rw [hb w' ha]; simp only [List.nil_append, List.append_assoc]
       have henc : (Rep.arr n A).enc G (l.take n) c1 := (Rep.enc_arr n A G _ _).2 ⟨hlt, h1⟩
       have hag : i.desc.agg = true := by rw [hd]; rfl
       refine Qiz hi hx' hb' rfl (v := .l (.dat (.arr n A) (l.take n))) ⟨hc1, fun _ => ⟨c1, henc, rfl⟩, fun h => by rw [hag] at h; simp at h⟩ hone hK
     ·exact h.elim
    ·exact h.elim
   ·exact h.elim
  ·rename_i α A y path off he
   rw [he] at hx
   obtain ⟨b, p1, es1, q1, t', fr', e, hb, henc⟩ := hx
   obtain ⟨v, p2, es2, q2, hK, rfl, hp2, hg⟩ := Qiv h (EncL.leafs (γ := γ) henc)
   have e' : a.eval x = .pointer (some ⟨b, p1.length + Qdx path off, none⟩) := by simpa using e
   have hb2 : ∀ w', Agr G fr (Qao s.mem) w' → w'.heap[b]? = some (.cells ((p1 ++ p2) ++ (es2 ++ (q2 ++ q1))).toArray t' fr') := fun w' ha => by
    have : Qeh w' b = _ := ha.1 _ _ hb
    simp only [Qeh] at this
    rw [this]; simp only [List.append_assoc]
   refine Qiz hi e' hb2 ?_ hg hone hK
   simp only [List.length_append]; omega
  ·exact h.elim
theorem Qwr {t : TypeId} {x : Operand} (ho : o.op = .load t x) (h : Qor C s t x K) : Qda C.P o s K := by
 intro R G γ fr a w hs hm
 obtain ⟨ad, u, tv, hx, hrun, hK, hr⟩ := Qn0 h hs hm
 exact ⟨u, tv, fun w' ha => by simp [execOp, ho, hx, Instr.loadAt, Instr.sureAddr, hrun w' (ha (by rw [ho]; rfl))], hK, hr⟩
def Qpt (C : Ctx) (s : Qan) (t : TypeId) (x y : Operand) (K : KT) : Prop := match C.ty t with
 | none => False
 | some i => i.size ≠ 0 ∧ Qv4 (ev s y) ∧ Qep (ev s y).leaves = i.size ∧ match ev s x with
  | .l (.ptr id path off) => (match Qco s.mem id with
   | some (.segs l) => wrP i.size (ev s y) path l off fun l' => K (.one (.l .undef)) (s.setBox id (.segs l'))
   | some (.arr A l) => (match path with
    | (0, sz, ix) :: p => sz = A.size ∧ ix.toNat < l.length ∧ wrP i.size (ev s y) p [A.leaf (l.getD ix.toNat A.zero)] off fun l' => asR A (.agg l') fun z =>
        K (.one (.l .undef)) (s.setBox id (.arr A (l.set ix.toNat z)))
    | _ => False)
   | _ => False)
  | _ => False
theorem Qo3 {t : TypeId} {x y : Operand} (ho : o.op = .store t x y) (h : Qpt C s t x y K) : Qet C.P o s K := by
 intro R G γ a w hs
 unfold Qpt at h
 split at h
 ·exact h.elim
 ·rename_i i hi
  obtain ⟨hz, hok, hsz, h⟩ := h
  have hx := Qb6 hs.sl x
  have hy := Qb6 hs.sl y
  have hyl := Qf2 hok hy
  have hlen : (a.eval y).cells.toList.length = i.size := by rw [Qb5.length hyl, hsz]
  have hpl := Qb5.plain hyl
  split at h
  ·rename_i id path off he
   rw [he] at hx
   have hx' : a.eval x = .pointer (some ⟨blk (γ id), Qdx path off, none⟩) := by simpa [SV.rel, LV.relV, LV.rel] using hx
   split at h
   ·rename_i l hm
    obtain ⟨b, t', cs, e, hb, hl, hput⟩ := hs.segs hm
    obtain ⟨l', p, old, q, hK, rfl, hp, hold, hr⟩ := Qmp hyl hsz h hl
    rw [e] at hx'
    have hrun := Qh1 (P := C.P) (C.ok t i hi) hb hp hold hlen hpl hz
    refine Qht (w' := Qfp w b (.cells (p ++ ((a.eval y).cells.toList ++ q)).toArray t' (0, 0))) (by simp [execOp, ho, hx', blk, hrun]) ?_
    exact ⟨G, γ, _, _, Hp.le_refl G, hK, trivial, hs.sl, hput hr, hs.df, hs.pn⟩
   ·rename_i α A l hm
    split at h
    ·rename_i sz ix p
     obtain ⟨rfl, hix, h⟩ := h
     rcases hs.arr hm with ⟨rfl, _⟩ | ⟨b, t', es, sp, c, e, hb, hl, _, _, _, hput⟩
     ·simp at hix
     ·obtain ⟨p1, c1, q1, rfl, hp1, hc1, h1, h2⟩ := EncL.at (fun _ _ h => A.enc_length h) hl ix.toNat hix
      have hd : l.getD ix.toNat A.zero = l[ix.toNat] := by rw [List.getD_eq_getElem?_getD, List.getElem?_eq_getElem hix]; rfl
      rw [hd] at h
      obtain ⟨l', p2, old, q2, has, rfl, hp2, hold, hr⟩ := Qmp hyl hsz h (EncL.leafs (γ := γ) hc1)
      obtain ⟨z, hK, hz'⟩ := Qek has (Qpf hr)
      rw [e] at hx'
      have hb' : w.heap[b]? = some (.cells ((p1 ++ p2) ++ (old ++ (q2 ++ (q1 ++ sp)))).toArray t' (0, 0)) := by rw [hb]; simp only [List.append_assoc]
      have hrun := Qh1 (P := C.P) (off := 0 + ix.toNat * A.size + Qdx p off) (C.ok t i hi) hb' (by simp only [List.length_append]; omega) hold hlen hpl hz
      simp only [blk, Qdx] at hx'
      refine Qht (w' := Qfp w b (.cells ((p1 ++ p2) ++ ((a.eval y).cells.toList ++ (q2 ++ (q1 ++ sp)))).toArray t' (0, 0))) (by simp only [execOp, ho, hx', Sem.run_bind, hrun, Result.andThen_ok, Sem.run_pure]) ?_
      refine ⟨G, γ, _, _, Hp.le_refl G, hK, trivial, hs.sl, ?_, hs.df, hs.pn⟩
      have := hput (l' := l.set ix.toNat z) (es' := p1 ++ (p2 ++ ((a.eval y).cells.toList ++ q2)) ++ q1) (by simp) (EncL.set hix h1 (by simpa [Value.cells] using hz') h2)
      simpa only [List.append_assoc, Qan.setBox] using this
    ·exact h.elim
   ·exact h.elim
  ·exact h.elim
end
end Go.Proofs.Ytnmjcdlgfimnaaa
namespace Go.Proofs.Ytnmjcdlgfimnaaa
theorem Qg5 : ∀ (p : Qq7) (a b : Nat), Qdx p (a + b) = Qdx p a + b
 | [], _, _ => rfl
 | (c, n, i) :: p, a, b => by simp only [Qdx, Qg5 p a b]; omega
theorem Qgt : ∀ (p : Qq7) (o n : Nat) (i : Int) (b : Nat), Qdx (p ++ [(o, n, i)]) b = Qdx p o + i.toNat * n + b
 | [], _, _, _, _ => rfl
 | (c, m, j) :: p, o, n, i, b => by simp only [List.cons_append, Qdx, Qgt p o n i b]; omega
section
variable {C : Ctx} {s : Qan} {K : KT} {o : Oper}
def Qvh : LV → Bool
 | .ptr _ _ _ => true
 | .eptr _ _ _ _ => true
 | .clo _ _ => true
 | _ => false
def Qgk (s : Qan) (x : Operand) (K : KT) : Prop := match ev s x with
 | .l y => Qvh y = true ∧ K (.one (.l y)) s
 | _ => False
theorem Qqv {x : Operand} (ho : o.op = .nilCheck x) (h : Qgk s x K) : Qda C.P o s K := by
 intro R G γ fr a w hs hmf
 unfold Qgk at h
 have hx := Qb6 hs x
 split at h
 ·rename_i y he
  rw [he] at hx
  refine ⟨a.eval x, _, fun w' _ => ?_, h.2, hx⟩
  cases y <;> simp only [Qvh, Bool.false_eq_true, false_and] at h
  case ptr id path off =>
   have hx' : a.eval x = .pointer (some ⟨blk (γ id), Qdx path off, none⟩) := by simpa [SV.rel, LV.relV, LV.rel] using hx
   simp [execOp, ho, hx']
  case eptr A y path off =>
   obtain ⟨b, p1, es1, q1, t', fr, e, _⟩ := hx
   have hx' : a.eval x = .pointer (some ⟨b, p1.length + Qdx path off, none⟩) := by simpa using e
   simp [execOp, ho, hx']
  case clo f caps =>
   have hx' : a.eval x = .func (.func f) #[] (caps.map fun i => Value.pointer (some ⟨blk (γ i), 0, none⟩)).toArray := by simpa [SV.rel, LV.relV, LV.rel] using hx
   simp [execOp, ho, hx']
 ·exact h.elim
def Qi9 (C : Ctx) (t : TypeId) (f : Nat) : Option (Nat × TypeId) := match C.ty t with
 | some i => (match i.desc with
  | .struct fs => fs[f]?
  | _ => none)
 | none => none
theorem Qh2 {t : TypeId} {f off : Nat} {ft : TypeId} (h : Qi9 C t f = some (off, ft)) : ∃ a x, C.P.underlying t = some (.struct a) ∧ a[f]? = some x ∧ x.offset = off ∧ x.type = ft := by
 unfold Qi9 at h
 split at h
 ·rename_i i hi
  have hd := (C.ok t i hi).desc
  split at h
  ·rename_i fs hf
   rw [hf] at hd
   obtain ⟨a, hu, rfl⟩ := hd
   rw [List.getElem?_map] at h
   cases hx : a.toList[f]? with
   | none => rw [hx] at h; simp at h
   | some x =>
    rw [hx] at h
    simp only [Option.map_some, Option.some.injEq, Prod.mk.injEq] at h
    exact ⟨a, x, hu, by simpa using hx, h.1, h.2⟩
  ·simp at h
 ·simp at h
def Qfw (C : Ctx) (s : Qan) (t : TypeId) (x : Operand) (f : Nat) (K : KT) : Prop := match Qi9 C t f with
 | none => False
 | some (off, ft) => (match C.ty ft with | some fi => fi.size ≠ 0 | none => False) ∧ match ev s x with
  | .l (.ptr id path o) => K (.one (.l (.ptr id path (o + off)))) s
  | .l (.eptr A y path o) => K (.one (.l (.eptr A y path (o + off)))) s
  | _ => False
theorem Qpd {t : TypeId} {x : Operand} {f : Nat} (ho : o.op = .fieldAddr t x f) (h : Qfw C s t x f K) : Qda C.P o s K := by
 intro R G γ fr a w hs hmf
 unfold Qfw at h
 have hx := Qb6 hs x
 split at h
 ·exact h.elim
 ·rename_i off ft hf
  obtain ⟨fs, y, hu, hy, rfl, rfl⟩ := Qh2 hf
  obtain ⟨hsz, h⟩ := h
  split at hsz
  ·rename_i fi hfi
   have hrs : ∀ w, (sizeOf y.type).run C.P w = .ok fi.size w := fun w => Qc3 (C.ok _ _ hfi)
   have key : ∀ b n w, (Instr.fieldAt t (.pointer (some ⟨b, n, none⟩)) f).run C.P w = .ok (.pointer (some ⟨b, n + y.offset, none⟩)) w := by
    intro b n w
    simp [Instr.fieldAt, Qbd hu, hy, Instr.sureAddr, fieldPlace, hrs, hsz, Qea]
   split at h
   ·rename_i id path o' he
    rw [he] at hx
    have hx' : a.eval x = .pointer (some ⟨blk (γ id), Qdx path o', none⟩) := by simpa [SV.rel, LV.relV, LV.rel] using hx
    refine ⟨.pointer (some ⟨blk (γ id), Qdx path o' + y.offset, none⟩), _, fun w' _ => by simp [execOp, ho, hx', key], h, ?_⟩
    simp [TV.rel, SV.rel, LV.relV, LV.rel, Qg5]
   ·rename_i α A z path o' he
    rw [he] at hx
    obtain ⟨b, p1, es1, q1, t', fr, e, hb, henc⟩ := hx
    have hx' : a.eval x = .pointer (some ⟨b, p1.length + Qdx path o', none⟩) := by simpa using e
    refine ⟨.pointer (some ⟨b, p1.length + Qdx path o' + y.offset, none⟩), _, fun w' _ => by simp [execOp, ho, hx', key], h, ?_⟩
    exact ⟨b, p1, es1, q1, t', fr, by rw [Qg5, Nat.add_assoc], hb, henc⟩
   ·exact h.elim
  ·exact hsz.elim
theorem Qqc {t : TypeId} {i : TyI} (hi : C.ty t = some i) {p es q : List Value} {off : Nat} (hp : p.length = off) {G : Hp} {γ : Nat → Value} {v : SV} (hg : Qom G γ i.size i.desc.agg v es) :
    ∃ u, (∀ w, (part t (p ++ (es ++ q)).toArray off).run C.P w = .ok u w) ∧ v.rel G γ u := by
 have hok := C.ok t i hi
 cases hag : i.desc.agg
 ·have h1 := hg.1.trans (hok.one hag)
  match es, h1 with
  | [u], _ =>
   refine ⟨u, fun w => ?_, hg.2.2 hag u rfl⟩
   subst hp
   simp [part, Qgv hok, hag]
 ·refine ⟨.agg es.toArray, fun w => ?_, hg.2.1 hag⟩
  subst hp
  have : (p ++ (es ++ q)).toArray.extract p.length (p.length + i.size) = es.toArray := by
   rw [← hg.1]
   simp
  simp only [part, Sem.run_bind, Qgv hok, Result.andThen_ok, hag, if_true, Qc3 hok, this, Sem.run_pure]
def Qp9 (C : Ctx) (s : Qan) (t : TypeId) (x : Operand) (f : Nat) (K : KT) : Prop := match Qi9 C t f with
 | none => False
 | some (off, ft) => match C.ty ft with
  | none => False
  | some fi => (match ev s x with | .l y => y.isAgg = true | .agg _ => True) ∧ match rdS fi.size fi.desc.agg 9 (ev s x).leaves off with
   | some v => K (.one v) s
   | none => False
theorem Qu4 {t : TypeId} {x : Operand} {f : Nat} (ho : o.op = .field t x f) (h : Qp9 C s t x f K) : Qda C.P o s K := by
 intro R G γ fr a w hs hmf
 unfold Qp9 at h
 have hx := Qb6 hs x
 split at h
 ·exact h.elim
 ·rename_i off ft hf
  obtain ⟨fs, y, hu, hy, rfl, rfl⟩ := Qh2 hf
  split at h
  ·exact h.elim
  ·rename_i fi hfi
   obtain ⟨hag, h⟩ := h
   split at h
   ·rename_i v hv
    have hcs : ∃ cs, a.eval x = .agg cs.toArray ∧ Qb5 G γ (ev s x).leaves cs := by
     cases he : ev s x with
     | agg xs => rw [he] at hx; obtain ⟨cs, hc, e⟩ := hx; exact ⟨cs, e, hc⟩
     | l z =>
      rw [he] at hx hag
      cases z <;> simp only [LV.isAgg, Bool.false_eq_true] at hag
      case dat A z =>
       obtain ⟨cs, hc, e⟩ := hx
       exact ⟨cs, by rw [e]; simp [Rep.mk, hag], .one hc⟩
    obtain ⟨cs, e, hl⟩ := hcs
    obtain ⟨p, es, q, rfl, hp, hg⟩ := Qgo hv hl
    obtain ⟨u, hrun, hrel⟩ := Qqc (q := q) hfi hp hg
    refine ⟨u, _, fun w' _ => ?_, h, hrel⟩
    simp only [execOp, ho, Instr.field, e, Sem.run_bind, Qbd hu, Result.andThen_ok, hy, asAgg, Sem.run_pure, hrun]
   ·exact h.elim
def Qix (s : Qan) (x : Operand) (n : Nat) (K : KT) : Prop := match evT s x with
 | .tup vs => (match vs[n]? with
  | some v => K (.one v) s
  | none => False)
 | _ => False
theorem Qcv.get {G : Hp} {γ : Nat → Value} : ∀ {xs : List SV} {vs : List Value} {n : Nat} {x : SV}, Qcv G γ xs vs → xs[n]? = some x → ∃ v, vs[n]? = some v ∧ x.rel G γ v
 | [], _, _, _, _, h => by simp at h
 | y :: xs, _, 0, x, ⟨v, r, e, hx, hr⟩, h => by
  simp only [List.getElem?_cons_zero, Option.some.injEq] at h
  subst h
  exact ⟨v, by rw [e]; rfl, hx⟩
 | y :: xs, _, n + 1, x, ⟨v, r, e, hx, hr⟩, h => by
  obtain ⟨u, hu, hr'⟩ := Qcv.get hr (by simpa using h)
  exact ⟨u, by rw [e]; simpa using hu, hr'⟩
theorem Qsl {x : Operand} {n : Nat} (ho : o.op = .extract x n) (h : Qix s x n K) : Qda C.P o s K := by
 intro R G γ fr a w hs hmf
 unfold Qix at h
 have hx := Qjd hs x
 split at h
 ·rename_i vs he
  rw [he] at hx
  obtain ⟨us, hus, e⟩ := hx
  split at h
  ·rename_i v hv
   obtain ⟨u, hu, hr⟩ := hus.get hv
   refine ⟨u, _, fun w' _ => ?_, h, hr⟩
   simp [execOp, ho, Instr.extract, e, hu]
  ·exact h.elim
 ·exact h.elim
def Qcz (op : BinOp) (k : IntKind) (a b : Int) : Int :=
 let x := BitVec.ofInt k.bits a
 let y := BitVec.ofInt k.bits b
 k.wrap (match op with
  | .and => (x &&& y).toNat
  | .or => (x ||| y).toNat
  | .xor => (x ^^^ y).toNat
  | _ => (x &&& ~~~y).toNat)
def Qjf (k : IntKind) (a b : Int) : Int := k.wrap (a * 2 ^ min b.toNat k.bits)
def Qc8 (k : IntKind) (a b : Int) : Int := a.fdiv (2 ^ min b.toNat k.bits)
def Qp6 (op : BinOp) (k : IntKind) (a b : Int) (f : LV → Prop) : Prop := match op with
 | .add => f (.int k (k.wrap (a + b)))
 | .sub => f (.int k (k.wrap (a - b)))
 | .mul => f (.int k (k.wrap (a * b)))
 | .quo => b ≠ 0 ∧ f (.int k (k.wrap (a.tdiv b)))
 | .rem => b ≠ 0 ∧ f (.int k (a.tmod b))
 | .and => f (.int k (Qcz .and k a b))
 | .or => f (.int k (Qcz .or k a b))
 | .xor => f (.int k (Qcz .xor k a b))
 | .andNot => f (.int k (Qcz .andNot k a b))
 | .eql => f (.bool (decide (a = b)))
 | .neq => f (.bool (!decide (a = b)))
 | .lss => f (.bool (decide (a < b)))
 | .leq => f (.bool (decide (a ≤ b)))
 | .gtr => f (.bool (decide (b < a)))
 | .geq => f (.bool (decide (b ≤ a)))
 | _ => False
theorem Qs0 {k : IntKind} {a b : Int} (ha : inK k a) : inK k (a.tmod b) := by
 have key : (0 ≤ a → 0 ≤ a.tmod b ∧ a.tmod b ≤ a) ∧ (a ≤ 0 → a ≤ a.tmod b ∧ a.tmod b ≤ 0) := by
  constructor
  ·intro h
   refine ⟨Int.tmod_nonneg b h, ?_⟩
   rw [← Int.natAbs_of_nonneg h]
   rcases Int.natAbs_eq b with e | e
   ·rw [e]
    have := Nat.mod_le a.natAbs b.natAbs
    rw [← Int.ofNat_tmod]
    omega
   ·rw [e, Int.tmod_neg, ← Int.ofNat_tmod]
    have := Nat.mod_le a.natAbs b.natAbs
    omega
  ·intro h
   have h2 : a = -(a.natAbs : Int) := by omega
   rw [h2, Int.neg_tmod]
   rcases Int.natAbs_eq b with e | e
   ·rw [e, ← Int.ofNat_tmod]
    have := Nat.mod_le a.natAbs b.natAbs
    omega
   ·rw [e, Int.tmod_neg, ← Int.ofNat_tmod]
    have := Nat.mod_le a.natAbs b.natAbs
    omega
 have hz := Qmc k
 unfold inK at *
 rcases Int.le_total 0 a with h | h
 ·have := key.1 h; omega
 ·have := key.2 h; omega
theorem Qsa {k : IntKind} {a b : Int} (ha : inK k a) : inK k (Qc8 k a b) := by
 unfold Qc8
 have hz := Qmc k
 have hp : (0 : Int) < 2 ^ min b.toNat k.bits := Int.pow_pos (by decide)
 generalize (2 : Int) ^ min b.toNat k.bits = m at hp
 have e : a.fdiv m = a / m := Int.fdiv_eq_ediv_of_nonneg a (by omega)
 rw [e]
 unfold inK at *
 rcases Int.le_total 0 a with h | h
 ·have h1 := Int.ediv_nonneg h (by omega : 0 ≤ m)
  have h2 := Int.ediv_le_self m h
  omega
 ·have h1 : a ≤ a / m := by
   have := Int.mul_ediv_add_emod a m
   have h3 := Int.emod_nonneg a (by omega : m ≠ 0)
   have h4 := Int.emod_lt_of_pos a hp
   have h5 : a / m ≤ 0 := by
    rcases Int.lt_or_le 0 (a / m) with h6 | h6
    ·have : m * 1 ≤ m * (a / m) := Int.mul_le_mul_of_nonneg_left (by omega) (by omega)
     omega
    ·exact h6
   have h6 : m * (a / m) ≤ 1 * (a / m) := Int.mul_le_mul_of_nonpos_right (by omega) h5
   have h7 := Int.le_ediv_of_mul_le (c := m) (a := a) (b := a) hp (by
    have : a * m ≤ a * 1 := Int.mul_le_mul_of_nonpos_left h (by omega)
    omega)
   exact h7
  have h2 : a / m ≤ 0 := by
   rcases Int.lt_or_le 0 (a / m) with h6 | h6
   ·have := Int.mul_ediv_add_emod a m
    have h3 := Int.emod_nonneg a (by omega : m ≠ 0)
    have : m * 1 ≤ m * (a / m) := Int.mul_le_mul_of_nonneg_left (by omega) (by omega)
    omega
   ·exact h6
  omega
theorem Qgi (op : BinOp) (k : IntKind) (a b : Int) : inK k (Qcz op k a b) := Qdu _ _
theorem Qm8 {op : BinOp} {k : IntKind} {a b : Int} {f : LV → Prop} (ha : inK k a) (h : Qp6 op k a b f) (t : TypeId) (x y : Operand) :
    ∃ v, (∀ w, (do eqGuard op t x y (.int k a) (.int k b); binOp op t (.int k a) (.int k b) : Sem Value).run C.P w = .ok v w) ∧ ∃ z, f z ∧ ∀ (G : Hp) (γ : Nat → Value), z.relV G γ v := by
 have hg : ∀ w, (eqGuard op t x y (.int k a) (.int k b)).run C.P w = .ok () w := by intro w; unfold eqGuard; split <;> simp
 cases op <;> simp only [Qp6] at h
 case add => exact ⟨.int k (k.wrap (a + b)), fun w => by simp [hg, binOp, Op.intArith], _, h, fun _ _ => ⟨rfl, Qdu _ _⟩⟩
 case sub => exact ⟨.int k (k.wrap (a - b)), fun w => by simp [hg, binOp, Op.intArith], _, h, fun _ _ => ⟨rfl, Qdu _ _⟩⟩
 case mul => exact ⟨.int k (k.wrap (a * b)), fun w => by simp [hg, binOp, Op.intArith], _, h, fun _ _ => ⟨rfl, Qdu _ _⟩⟩
 case quo => exact ⟨.int k (k.wrap (a.tdiv b)), fun w => by simp [hg, binOp, Op.intDiv, h.1], _, h.2, fun _ _ => ⟨rfl, Qdu _ _⟩⟩
 case rem => exact ⟨.int k (a.tmod b), fun w => by simp [hg, binOp, Op.intDiv, h.1], _, h.2, fun _ _ => ⟨rfl, Qs0 ha⟩⟩
 case and => exact ⟨.int k (Qcz .and k a b), fun w => by simp only [Sem.run_bind, hg, Result.andThen_ok, binOp, Op.intBits, ne_eq, not_true_eq_false, if_false, Sem.run_pure]; rfl, _, h, fun _ _ => ⟨rfl, Qgi _ _ _ _⟩⟩
 case or => exact ⟨.int k (Qcz .or k a b), fun w => by simp only [Sem.run_bind, hg, Result.andThen_ok, binOp, Op.intBits, ne_eq, not_true_eq_false, if_false, Sem.run_pure]; rfl, _, h, fun _ _ => ⟨rfl, Qgi _ _ _ _⟩⟩
 case xor => exact ⟨.int k (Qcz .xor k a b), fun w => by simp only [Sem.run_bind, hg, Result.andThen_ok, binOp, Op.intBits, ne_eq, not_true_eq_false, if_false, Sem.run_pure]; rfl, _, h, fun _ _ => ⟨rfl, Qgi _ _ _ _⟩⟩
 case andNot => exact ⟨.int k (Qcz .andNot k a b), fun w => by simp only [Sem.run_bind, hg, Result.andThen_ok, binOp, Op.intBits, ne_eq, not_true_eq_false, if_false, Sem.run_pure]; rfl, _, h, fun _ _ => ⟨rfl, Qgi _ _ _ _⟩⟩
 case eql => exact ⟨.bool (decide (a = b)), fun w => by simp [hg, binOp, Op.intCmp]; rfl, _, h, fun _ _ => rfl⟩
 case neq => exact ⟨.bool (!decide (a = b)), fun w => by simp [hg, binOp, Op.intCmp]; rfl, _, h, fun _ _ => rfl⟩
 case lss => exact ⟨.bool (decide (a < b)), fun w => by simp [hg, binOp, Op.intCmp], _, h, fun _ _ => rfl⟩
 case leq => exact ⟨.bool (decide (a ≤ b)), fun w => by simp [hg, binOp, Op.intCmp], _, h, fun _ _ => rfl⟩
 case gtr => exact ⟨.bool (decide (b < a)), fun w => by simp [hg, binOp, Op.intCmp], _, h, fun _ _ => rfl⟩
 case geq => exact ⟨.bool (decide (b ≤ a)), fun w => by simp [hg, binOp, Op.intCmp], _, h, fun _ _ => rfl⟩
end
end Go.Proofs.Ytnmjcdlgfimnaaa
namespace Go.Proofs.Ytnmjcdlgfimnaaa
section
variable {C : Ctx} {s : Qan} {K : KT} {o : Oper}
def Qem (C : Ctx) (t : TypeId) : TD := match C.ty t with
 | some i => i.desc
 | none => .other
theorem Qbj {t : TypeId} (h : Qem C t ≠ .other) : (Qem C t).fits C.P t := by
 unfold Qem at h ⊢
 split
 ·rename_i i hi
  exact (C.ok t i hi).desc
 ·rename_i hi
  rw [hi] at h
  exact absurd rfl h
def Qsu (C : Ctx) (s : Qan) (op : BinOp) (t : TypeId) (x y : Operand) (K : KT) : Prop := match ev s x, ev s y with
 | .l (.int k a), .l (.int k' b) => (match op with
  | .shl => 0 ≤ b ∧ K (.one (.l (.int k (Qjf k a b)))) s
  | .shr => 0 ≤ b ∧ K (.one (.l (.int k (Qc8 k a b)))) s
  | op => k = k' ∧ Qp6 op k a b fun v => K (.one (.l v)) s)
 | .l (.bool a), .l (.bool b) => Qem C t = .bool ∧ (match op with
  | .eql => K (.one (.l (.bool (a == b)))) s
  | .neq => K (.one (.l (.bool (!(a == b))))) s
  | _ => False)
 | .l (.str a), .l (.str b) => (match op with
  | .eql => K (.one (.l (.bool (a == b)))) s
  | .neq => K (.one (.l (.bool (!(a == b))))) s
  | .add => a.length + b.length ≤ 9223372036854775807 ∧ K (.one (.l (.str (a ++ b)))) s
  | _ => False)
 | .l (.ptr _ _ _), .l .nilp => Qem C t = .ptr ∧ (match op with
  | .eql => K (.one (.l (.bool false))) s
  | .neq => K (.one (.l (.bool true))) s
  | _ => False)
 | .l .nilp, .l .nilp => Qem C t = .ptr ∧ (match op with
  | .eql => K (.one (.l (.bool true))) s
  | .neq => K (.one (.l (.bool false))) s
  | _ => False)
 | _, _ => False
theorem Qsj {P : Program} {w : World} {t : TypeId} (hu : P.underlying t = some .bool) (d : Nat) (p q : Bool) : (Op.equalIn (d + 1) t (.bool p) (.bool q)).run P w = .ok (p == q) w := by
 simp [Op.equalIn, Qbd hu]
theorem Qna {P : Program} {w : World} {t e : TypeId} (hu : P.underlying t = some (.pointer e)) (d : Nat) (x : Addr) : (Op.equalIn (d + 1) t (.pointer (some x)) (.pointer none)).run P w = .ok false w := by
 simp [Op.equalIn, Qbd hu]
theorem Qnp {P : Program} {w : World} {t e : TypeId} (hu : P.underlying t = some (.pointer e)) (d : Nat) : (Op.equalIn (d + 1) t (.pointer none) (.pointer none)).run P w = .ok true w := by
 simp [Op.equalIn, Qbd hu]
theorem Qj4 {P : Program} {w : World} {t : TypeId} {x y : Value} {b : Bool} (h : (Op.equalIn 10000 t x y).run P w = .ok b w) (hx : ∀ k n, x ≠ .int k n) (hf : ∀ k n, x ≠ .float k n) (hc : ∀ k m n, x ≠ .complex k m n) (hs : ∀ k, x ≠ .string k) :
    (binOp .eql t x y).run P w = .ok (.bool b) w ∧ (binOp .neq t x y).run P w = .ok (.bool (!b)) w := by
 have h' : (Op.equal t x y).run P w = .ok b w := h
 constructor
 ·unfold binOp
  split <;> first | (exfalso; simp_all; done) | simp_all
 ·unfold binOp
  split <;> first | (exfalso; simp_all; done) | simp_all
theorem Qh0 (l : List UInt8) : (⟨l.toArray⟩ : ByteArray).toList = l := by
 rw [ByteArray.toList_eq]
theorem Qzn {op : BinOp} {t t' : TypeId} {x y : Operand} (ho : o.op = .binOp op t x y t') (h : Qsu C s op t x y K) : Qda C.P o s K := by
 intro R G γ fr a w hs hmf
 unfold Qsu at h
 have hx := Qb6 hs x
 have hy := Qb6 hs y
 split at h
 ·rename_i k m k' n hex hey
  rw [hex] at hx; rw [hey] at hy
  obtain ⟨hx', hxk⟩ : a.eval x = .int k m ∧ inK k m := by simpa [SV.rel, LV.relV, LV.rel] using hx
  obtain ⟨hy', hyk⟩ : a.eval y = .int k' n ∧ inK k' n := by simpa [SV.rel, LV.relV, LV.rel] using hy
  split at h
  ·refine ⟨.int k (Qjf k m n), _, fun w' _ => ?_, h.2, rfl, Qdu _ _⟩
   have : ¬ n < 0 := by omega
   simp [execOp, ho, hx', hy', eqGuard, binOp, Op.shift, this, Qjf]
  ·refine ⟨.int k (Qc8 k m n), _, fun w' _ => ?_, h.2, rfl, Qsa hxk⟩
   have : ¬ n < 0 := by omega
   simp [execOp, ho, hx', hy', eqGuard, binOp, Op.shift, this, Qc8]
  ·obtain ⟨rfl, h⟩ := h
   obtain ⟨v, hrun, z, hz, hzr⟩ := Qm8 hxk h t x y
   refine ⟨v, _, fun w' _ => ?_, hz, (hzr G γ)⟩
   simp only [execOp, ho, hx', hy']
   simp only [Sem.run_bind] at hrun ⊢
   rw [hrun]; rfl
 ·rename_i p q hex hey
  rw [hex] at hx; rw [hey] at hy
  have hx' : a.eval x = .bool p := by simpa [SV.rel, LV.relV, LV.rel] using hx
  have hy' : a.eval y = .bool q := by simpa [SV.rel, LV.relV, LV.rel] using hy
  obtain ⟨ht, h⟩ := h
  have hu : C.P.underlying t = some .bool := by have := Qbj (C := C) (t := t) (by rw [ht]; simp); rw [ht] at this; exact this
  have hrun := fun w => Qj4 (y := .bool q) (Qsj (w := w) hu 9999 p q) (by simp) (by simp) (by simp) (by simp)
  split at h
  ·refine ⟨.bool (p == q), _, fun w' _ => ?_, h, rfl⟩
   simp [execOp, ho, hx', hy', eqGuard, hrun]
  ·refine ⟨.bool (!(p == q)), _, fun w' _ => ?_, h, rfl⟩
   simp [execOp, ho, hx', hy', eqGuard, hrun]
  ·exact h.elim
 ·rename_i p q hex hey
  rw [hex] at hx; rw [hey] at hy
  obtain ⟨hx', _⟩ : a.eval x = .string ⟨p.toArray⟩ ∧ p.length ≤ mxL := by simpa [SV.rel, LV.relV, LV.rel] using hx
  obtain ⟨hy', _⟩ : a.eval y = .string ⟨q.toArray⟩ ∧ q.length ≤ mxL := by simpa [SV.rel, LV.relV, LV.rel] using hy
  split at h
  ·refine ⟨.bool (p == q), _, fun w' _ => ?_, h, rfl⟩
   simp [execOp, ho, hx', hy', eqGuard, binOp, Op.stringOp, Qh0]
  ·refine ⟨.bool (!(p == q)), _, fun w' _ => ?_, h, rfl⟩
   simp [execOp, ho, hx', hy', eqGuard, binOp, Op.stringOp, Qh0]
  ·refine ⟨.string ⟨(p ++ q).toArray⟩, _, fun w' _ => ?_, h.2, rfl, by rw [List.length_append]; exact h.1⟩
   have e : (⟨p.toArray⟩ : ByteArray) ++ ⟨q.toArray⟩ = ⟨(p ++ q).toArray⟩ := by
    apply ByteArray.ext
    simp [ByteArray.data_append]
   have h1 : ¬ (((p.length + q.length : Nat) : Int) > IntKind.i64.max) := by
    have : IntKind.i64.max = 9223372036854775807 := by decide
    omega
   have s1 : (⟨p.toArray⟩ : ByteArray).size = p.length := by simp [ByteArray.size]
   have s2 : (⟨q.toArray⟩ : ByteArray).size = q.length := by simp [ByteArray.size]
   simp only [execOp, ho, hx', hy', eqGuard, binOp, Op.stringOp, s1, s2, if_neg h1, e]
   rfl
  ·exact h.elim
 ·rename_i id path off hex hey
  rw [hex] at hx; rw [hey] at hy
  have hx' : a.eval x = .pointer (some ⟨blk (γ id), Qdx path off, none⟩) := by simpa [SV.rel, LV.relV, LV.rel] using hx
  have hy' : a.eval y = .pointer none := by simpa [SV.rel, LV.relV, LV.rel] using hy
  obtain ⟨ht, h⟩ := h
  have hu : ∃ e, C.P.underlying t = some (.pointer e) := by have := Qbj (C := C) (t := t) (by rw [ht]; simp); rw [ht] at this; exact this
  obtain ⟨e, hu⟩ := hu
  have hrun := fun w => Qj4 (Qna (w := w) hu 9999 ⟨blk (γ id), Qdx path off, none⟩) (by simp) (by simp) (by simp) (by simp)
  split at h
  ·refine ⟨.bool false, _, fun w' _ => ?_, h, rfl⟩
   simp [execOp, ho, hx', hy', eqGuard, hrun]
  ·refine ⟨.bool true, _, fun w' _ => ?_, h, rfl⟩
   simp [execOp, ho, hx', hy', eqGuard, hrun]
  ·exact h.elim
 ·rename_i hex hey
  rw [hex] at hx; rw [hey] at hy
  have hx' : a.eval x = .pointer none := by simpa [SV.rel, LV.relV, LV.rel] using hx
  have hy' : a.eval y = .pointer none := by simpa [SV.rel, LV.relV, LV.rel] using hy
  obtain ⟨ht, h⟩ := h
  have hu : ∃ e, C.P.underlying t = some (.pointer e) := by have := Qbj (C := C) (t := t) (by rw [ht]; simp); rw [ht] at this; exact this
  obtain ⟨e, hu⟩ := hu
  have hrun := fun w => Qj4 (Qnp (w := w) hu 9999) (by simp) (by simp) (by simp) (by simp)
  split at h
  ·refine ⟨.bool true, _, fun w' _ => ?_, h, rfl⟩
   simp [execOp, ho, hx', hy', eqGuard, hrun]
  ·refine ⟨.bool false, _, fun w' _ => ?_, h, rfl⟩
   simp [execOp, ho, hx', hy', eqGuard, hrun]
  ·exact h.elim
 ·exact h.elim
def vUn (s : Qan) (op : UnOp) (x : Operand) (K : KT) : Prop := match op, ev s x with
 | .not, .l (.bool b) => K (.one (.l (.bool (!b)))) s
 | .neg, .l (.int k n) => K (.one (.l (.int k (k.wrap (0 - n))))) s
 | .xor, .l (.int k n) => K (.one (.l (.int k (Qcz .xor k (if k.signed then -1 else k.max) n)))) s
 | _, _ => False
theorem Q00 {op : UnOp} {t : TypeId} {x : Operand} (ho : o.op = .unOp op t x) (h : vUn s op x K) : Qda C.P o s K := by
 intro R G γ fr a w hs hmf
 unfold vUn at h
 have hx := Qb6 hs x
 split at h
 ·rename_i b hex
  rw [hex] at hx
  have hx' : a.eval x = .bool b := by simpa [SV.rel, LV.relV, LV.rel] using hx
  exact ⟨.bool (!b), _, fun w' _ => by simp [execOp, ho, hx', Op.unary], h, rfl⟩
 ·rename_i k n hex
  rw [hex] at hx
  obtain ⟨hx', _⟩ : a.eval x = .int k n ∧ inK k n := by simpa [SV.rel, LV.relV, LV.rel] using hx
  exact ⟨.int k (k.wrap (0 - n)), _, fun w' _ => by simp [execOp, ho, hx', Op.unary, Op.intArith], h, rfl, Qdu _ _⟩
 ·rename_i k n hex
  rw [hex] at hx
  obtain ⟨hx', _⟩ : a.eval x = .int k n ∧ inK k n := by simpa [SV.rel, LV.relV, LV.rel] using hx
  refine ⟨.int k (Qcz .xor k (if k.signed then -1 else k.max) n), _, fun w' _ => ?_, h, rfl, Qgi _ _ _ _⟩
  simp only [execOp, ho, hx', Op.unary, Op.intBits]
  rfl
 ·exact h.elim
end
end Go.Proofs.Ytnmjcdlgfimnaaa
namespace Go.Proofs.Ytnmjcdlgfimnaaa
section
variable {C : Ctx} {s : Qan} {K : KT} {o : Oper}
def Rep.slOf : {α : Type} → Rep α → α → Option (Nat × Nat)
 | _, .slice A, l => some (l.length, A.size)
 | _, _, _ => none
def Rep.slPtr : {α : Type} → Rep α → α → Nat → LV
 | _, .slice A, l, i => .eptr A (l.getD i A.zero) [] 0
 | _, _, _, _ => .undef
theorem Rep.slOf_spec : {α : Type} → (R : Rep α) → {x : α} → {n sz : Nat} → R.slOf x = some (n, sz) → {G : Hp} → (γ : Nat → Value) → {cs : List Value} → R.enc G x cs →
    ∃ a cap, cs = [.slice a n cap] ∧ n ≤ cap ∧ cap ≤ mxL ∧ ∀ i, i < n → ∃ b off, a = some ⟨b, off, none⟩ ∧ (R.slPtr x i).rel G γ [.pointer (some ⟨b, off + i * sz, none⟩)]
 | _, .slice A, l, n, sz, h, G, γ, cs, he => by
  simp only [slOf, Option.some.injEq, Prod.mk.injEq] at h
  obtain ⟨rfl, rfl⟩ := h
  obtain ⟨a, cap, e, hc, hmx, _, h⟩ := (enc_slice A G l cs).1 he
  refine ⟨a, cap, e, hc, hmx, ?_⟩
  intro i hi
  rcases h with rfl | ⟨b, p, es, q, t, fr, ha, hb, hl⟩
  ·simp at hi
  ·obtain ⟨p1, c1, q1, rfl, hp1, hc1, _, _⟩ := EncL.at (fun _ _ h => A.enc_length h) hl i hi
   refine ⟨b, p.length, ha, b, p ++ p1, c1, q1 ++ q, t, fr, ?_, by rw [hb]; simp only [List.append_assoc], ?_⟩
   ·simp [hp1, Qdx]
   ·rw [List.getD_eq_getElem?_getD, List.getElem?_eq_getElem hi]; exact hc1
 | _, .int _, _, _, _, h, _, _, _, _ => by simp [slOf] at h
 | _, .bool, _, _, _, h, _, _, _, _ => by simp [slOf] at h
 | _, .str, _, _, _, h, _, _, _, _ => by simp [slOf] at h
 | _, .unit, _, _, _, h, _, _, _, _ => by simp [slOf] at h
 | _, .pair _ _, _, _, _, h, _, _, _, _ => by simp [slOf] at h
 | _, .arr _ _, _, _, _, h, _, _, _, _ => by simp [slOf] at h
 | _, .iso _ _ _ _ _, _, _, _, h, _, _, _, _ => by simp [slOf] at h
def Qjc : Operand → Bool
 | .const _ => true
 | _ => false
def Qfx (C : Ctx) (s : Qan) (t : TypeId) (x ix : Operand) (K : KT) : Prop := match ev s ix with
 | .l (.int _ m) => (match Qem C t with
  | .arr n e => (match C.ty e with
   | some ei => 0 ≤ m ∧ m < n ∧ (match ev s x with
    | .l (.ptr id path off) => K (.one (.l (bif Qjc ix then .ptr id path (off + m.toNat * ei.size) else .ptr id (path ++ [(off, ei.size, m)]) 0))) s
    | .l (.eptr A y path off) => K (.one (.l (bif Qjc ix then .eptr A y path (off + m.toNat * ei.size) else .eptr A y (path ++ [(off, ei.size, m)]) 0))) s
    | _ => False)
   | none => False)
  | .slice e => (match C.ty e with
   | some ei => (match ev s x with
    | .l (.own id) => (match Qco s.mem id with
     | some (.arr A l) => A.size = ei.size ∧ 0 ≤ m ∧ m < l.length ∧ K (.one (.l (.ptr id [(0, ei.size, m)] 0))) s
     | _ => False)
    | .l (.dat A y) => (match A.slOf y with
     | some (n, sz) => sz = ei.size ∧ 0 ≤ m ∧ m < n ∧ K (.one (.l (A.slPtr y m.toNat))) s
     | none => False)
    | .l (.view id path off n lo len) => n = ei.size ∧ 0 ≤ m ∧ m < len ∧ K (.one (.l (.ptr id (path ++ [(off, n, lo + m)]) 0))) s
    | _ => False)
   | none => False)
  | _ => False)
 | _ => False
theorem Qpa {t : TypeId} {x ix : Operand} (ho : o.op = .indexAddr t x ix) (h : Qfx C s t x ix K) : Qda C.P o s K := by
 intro R G γ fr a w hs hmf
 unfold Qfx at h
 have hx := Qb6 hs x
 have hix := Qb6 hs ix
 split at h
 ·rename_i k m hm
  rw [hm] at hix
  have hix' : a.eval ix = .int k m := (by simpa [SV.rel, LV.relV, LV.rel] using hix : a.eval ix = .int k m ∧ inK k m).1
  split at h
  ·rename_i n e ht
   have hu : C.P.underlying t = some (.array n e) := by have := Qbj (C := C) (t := t) (by rw [ht]; simp); rw [ht] at this; exact this
   split at h
   ·rename_i ei hei
    obtain ⟨h0, hn, h⟩ := h
    have hsz : ∀ w, (sizeOf e).run C.P w = .ok ei.size w := fun w => Qc3 (C.ok _ _ hei)
    have key : ∀ b off w, (Instr.indexAt t (.pointer (some ⟨b, off, none⟩)) (.int k m)).run C.P w = .ok (.pointer (some ⟨b, off + m.toNat * ei.size, none⟩)) w := by
     intro b off w
     simp [Instr.indexAt, asIntOf, Qbd hu, Instr.sureAddr, h0, hn, hsz, Qea]
    split at h
    ·rename_i id path off he
     rw [he] at hx
     have hx' : a.eval x = .pointer (some ⟨blk (γ id), Qdx path off, none⟩) := by simpa [SV.rel, LV.relV, LV.rel] using hx
     refine ⟨.pointer (some ⟨blk (γ id), Qdx path off + m.toNat * ei.size, none⟩), _, fun w' _ => by simp [execOp, ho, hx', hix', key], h, ?_⟩
     cases Qjc ix
     ·simp [TV.rel, SV.rel, LV.relV, LV.rel, Qgt]
     ·simp [TV.rel, SV.rel, LV.relV, LV.rel, Qg5]
    ·rename_i α A z path off he
     rw [he] at hx
     obtain ⟨b, p1, es1, q1, t', fr, e', hb, henc⟩ := hx
     have hx' : a.eval x = .pointer (some ⟨b, p1.length + Qdx path off, none⟩) := by simpa using e'
     refine ⟨.pointer (some ⟨b, p1.length + Qdx path off + m.toNat * ei.size, none⟩), _, fun w' _ => by simp [execOp, ho, hx', hix', key], h, ?_⟩
     cases Qjc ix
     ·exact ⟨b, p1, es1, q1, t', fr, by rw [Qgt]; simp [Nat.add_assoc], hb, henc⟩
     ·exact ⟨b, p1, es1, q1, t', fr, by rw [Qg5, Nat.add_assoc], hb, henc⟩
    ·exact h.elim
   ·exact h.elim
  ·rename_i e ht
   have hu : C.P.underlying t = some (.slice e) := by have := Qbj (C := C) (t := t) (by rw [ht]; simp); rw [ht] at this; exact this
   split at h
   ·rename_i ei hei
    have hsz : ∀ w, (sizeOf e).run C.P w = .ok ei.size w := fun w => Qc3 (C.ok _ _ hei)
    have key : ∀ (b off len cap : Nat), 0 ≤ m → m < (len : Int) → ∀ w, (Instr.indexAt t (.slice (some ⟨b, off, none⟩) len cap) (.int k m)).run C.P w = .ok (.pointer (some ⟨b, off + m.toNat * ei.size, none⟩)) w := by
     intro b off len cap h0 hn w
     simp [Instr.indexAt, asIntOf, Qbd hu, h0, hn, hsz, Qea]
    split at h
    ·rename_i id he
     rw [he] at hx
     have hx' : a.eval x = γ id := by have := hx; simp only [SV.rel, LV.relV, LV.rel, List.cons.injEq, and_true] at this; exact this.1
     split at h
     ·rename_i α A l hm'
      obtain ⟨hA, h0, hn, h⟩ := h
      rcases hmf.arr hm' with ⟨rfl, _⟩ | ⟨b, t', es, sp, c, e', hb, hl, _, _⟩
      ·simp at hn; omega
      ·refine ⟨.pointer (some ⟨b, 0 + m.toNat * ei.size, none⟩), _, fun w' _ => by simp only [execOp, ho, hx', e', hix', Sem.run_bind, key _ _ _ _ h0 hn w', Result.andThen_ok, Sem.run_pure], h, ?_⟩
       simp [TV.rel, SV.rel, LV.relV, LV.rel, Qdx, e', blk]
     ·exact h.elim
    ·rename_i α A y he
     rw [he] at hx
     split at h
     ·rename_i n sz hsl
      obtain ⟨rfl, h0, hn, h⟩ := h
      obtain ⟨cs, henc, e1⟩ := hx
      obtain ⟨ad, cap, rfl, _, _, hp⟩ := A.slOf_spec hsl γ henc
      obtain ⟨b, off, rfl, hr⟩ := hp m.toNat (by omega)
      have hag : A.agg = false := by cases A <;> simp_all [Rep.slOf, Rep.agg]
      have hx' : a.eval x = .slice (some ⟨b, off, none⟩) n cap := by rw [e1]; simp [Rep.mk, hag]
      refine ⟨.pointer (some ⟨b, off + m.toNat * ei.size, none⟩), _, fun w' _ => by simp only [execOp, ho, hx', hix', Sem.run_bind, key _ _ _ _ h0 hn w', Result.andThen_ok, Sem.run_pure], h, ?_⟩
      have hl := LV.relV_of (x := A.slPtr y m.toNat) (v := .pointer (some ⟨b, off + m.toNat * ei.size, none⟩)) (by cases A <;> simp_all [Rep.slOf, Rep.slPtr, LV.isAgg]) hr
      exact hl
     ·exact h.elim
    ·rename_i id path off n lo len he
     rw [he] at hx
     obtain ⟨rfl, h0, hn, h⟩ := h
     obtain ⟨ad, cap, hcap, _, e0, ha, _⟩ := hx
     have hne : len ≠ 0 := by omega
     have e1 := (ha hne) ▸ e0
     have hx' : a.eval x = .slice (some ⟨blk (γ id), Qdx path off + lo * ei.size, none⟩) len cap := by simpa using e1
     refine ⟨.pointer (some ⟨blk (γ id), Qdx path off + lo * ei.size + m.toNat * ei.size, none⟩), _, fun w' _ => by simp only [execOp, ho, hx', hix', Sem.run_bind, key _ _ _ _ h0 hn w', Result.andThen_ok, Sem.run_pure], h, ?_⟩
     have e2 : ((lo : Int) + m).toNat = lo + m.toNat := by omega
     have e3 : Qdx path off + lo * ei.size + m.toNat * ei.size = Qdx path off + (lo + m.toNat) * ei.size + 0 := by rw [Nat.add_mul]; omega
     rw [e3]
     simp only [TV.rel, SV.rel, LV.relV, LV.rel, Qgt, e2]
    ·exact h.elim
   ·exact h.elim
  ·exact h.elim
 ·exact h.elim
def Qg0 (C : Ctx) (s : Qan) (src dst : TypeId) (x : Operand) (K : KT) : Prop := match ev s x with
 | .l (.int _ n) => (match Qem C dst with
  | .int k => Qem C src ≠ .other ∧ K (.one (.l (.int k (k.wrap n)))) s
  | _ => False)
 | .l (.str b) => (match Qem C dst with
  | .str => Qem C src ≠ .other ∧ K (.one (.l (.str b))) s
  | _ => False)
 | _ => False
theorem Qk0 {t : TypeId} (h : Qem C t ≠ .other) : ∃ d, C.P.underlying t = some d := by
 have := Qbj h
 cases hd : Qem C t <;> rw [hd] at this <;> simp only [TD.fits] at this
 case ptr => obtain ⟨e, h⟩ := this; exact ⟨_, h⟩
 case struct => obtain ⟨e, h, _⟩ := this; exact ⟨_, h⟩
 case func => obtain ⟨_, _, _, h⟩ := this; exact ⟨_, h⟩
 case other => exact absurd hd h
 all_goals exact ⟨_, this⟩
theorem Qnn {src dst : TypeId} {x : Operand} (ho : o.op = .convert src dst x) (h : Qg0 C s src dst x K) : Qda C.P o s K := by
 intro R G γ fr a w hs hmf
 unfold Qg0 at h
 have hx := Qb6 hs x
 split at h
 ·rename_i k' n he
  rw [he] at hx
  have hx' : a.eval x = .int k' n := (by simpa [SV.rel, LV.relV, LV.rel] using hx : a.eval x = .int k' n ∧ inK k' n).1
  split at h
  ·rename_i k ht
   have hu : C.P.underlying dst = some (.int k) := by have := Qbj (C := C) (t := dst) (by rw [ht]; simp); rw [ht] at this; exact this
   obtain ⟨d, hd⟩ := Qk0 h.1
   refine ⟨.int k (k.wrap n), _, fun w' _ => ?_, h.2, rfl, Qdu _ _⟩
   cases d <;> simp [execOp, ho, hx', convert, Qbd hu, Qbd hd, Conv.intToInt]
  ·exact h.elim
 ·rename_i b he
  rw [he] at hx
  have hx' : a.eval x = .string ⟨b.toArray⟩ := (by simpa [SV.rel, LV.relV, LV.rel] using hx : a.eval x = .string ⟨b.toArray⟩ ∧ b.length ≤ mxL).1
  split at h
  ·rename_i ht
   have hu : C.P.underlying dst = some .string := by have := Qbj (C := C) (t := dst) (by rw [ht]; simp); rw [ht] at this; exact this
   obtain ⟨d, hd⟩ := Qk0 h.1
   refine ⟨.string ⟨b.toArray⟩, _, fun w' _ => ?_, h.2, by rw [← hx']; exact hx⟩
   cases d <;> simp [execOp, ho, hx', convert, Qbd hu, Qbd hd]
  ·exact h.elim
 ·exact h.elim
def Qcp (P : Program) (f : FuncId) : Prop := ∃ fn, P.funcs[f]? = some fn ∧ (fn.name == "runtime.NumGoroutine") = false ∧ fn.body.isNone = false
def Wc (P : Program) (f : FuncId) (args : List SV) (s : Qan) (K : KT) : Prop :=
 Qcp P f ∧ ∀ R G γ a w vs, Qc4 R G γ s a w → Qcv G γ args vs → Calls P f vs.toArray w fun e w' => ∃ v, e = .returned v ∧ Qkt R G a K v w'
structure Env : Type 1 extends Ctx where
 ct : FuncId → List SV → Nat → Qan → KT → Prop
 ctok : ∀ f args d s K, ct f args d s K → Wc P f args s K
def Ctx.env (C : Ctx) : Env := { C with ct := fun f args _ s K => Wc C.P f args s K, ctok := fun _ _ _ _ _ h => h }
def Env.with (E : Env) (n : FuncId) (c : List SV → Nat → Qan → KT → Prop) (h : ∀ args d s K, c args d s K → Wc E.P n args s K) : Env :=
 { E with ct := fun f args d s K => if f = n then c args d s K else E.ct f args d s K
          ctok := fun f args d s K => by
           by_cases e : f = n
           ·subst e; simpa using h args d s K
           ·simpa [e] using E.ctok f args d s K }
def Qtb (E : Env) (d : Nat) (s : Qan) (f : Operand) (args : List Operand) (K : KT) : Prop := match ev s f with
 | .l (.clo g caps) => E.ct g (args.map (ev s) ++ caps.map fun i => .l (.ptr i [] 0)) d s K
 | _ => False
theorem Qcv.append {G : Hp} {γ : Nat → Value} : ∀ {xs ys : List SV} {us vs : List Value}, Qcv G γ xs us → Qcv G γ ys vs → Qcv G γ (xs ++ ys) (us ++ vs)
 | [], _, _, _, h, h' => by simp only [Qcv] at h; subst h; exact h'
 | _ :: _, _, _, _, ⟨v, r, e, hx, hr⟩, h' => ⟨v, r ++ _, by rw [e]; rfl, hx, hr.append h'⟩
theorem Qu3 {G : Hp} {γ : Nat → Value} {a : Act} (hs : Qb7 G γ s.sl a.tmps) : ∀ args : List Operand, Qcv G γ (args.map (ev s)) (args.map a.eval)
 | [] => rfl
 | x :: r => ⟨_, _, rfl, Qb6 hs x, Qu3 hs r⟩
theorem Qp7 {G : Hp} {γ : Nat → Value} : ∀ caps : List Nat, Qcv G γ (caps.map fun i => SV.l (.ptr i [] 0)) (caps.map fun i => Value.pointer (some ⟨blk (γ i), 0, none⟩))
 | [] => rfl
 | _ :: r => ⟨_, _, rfl, rfl, Qp7 r⟩
theorem Qqi {E : Env} {f : Operand} {args : Array Operand} {ts : Array TypeId} (ho : o.op = .call { callee := .value f, args := args, argTypes := ts }) (h : Qtb E (Qdq o) s f args.toList K) : Qet E.P o s K := by
 intro R G γ a w hs
 unfold Qtb at h
 have hf := Qb6 hs.sl f
 split at h
 ·rename_i g caps he
  rw [he] at hf
  have hf' : a.eval f = .func (.func g) #[] (caps.map fun i => Value.pointer (some ⟨blk (γ i), 0, none⟩)).toArray := by simpa [SV.rel, LV.relV, LV.rel] using hf
  obtain ⟨⟨fn, hfn, h1, h2⟩, hc⟩ := E.ctok _ _ _ _ _ h
  have hcall := hc R G γ a w _ hs ((Qu3 hs.sl args.toList).append (Qp7 (γ := γ) caps))
  have hrun : (execOp a.eval o).run E.P w = .ok (.enter g (args.toList.map a.eval ++ caps.map fun i => Value.pointer (some ⟨blk (γ i), 0, none⟩)).toArray) w := by
   simp only [execOp, ho, resolve, hf', Deferred.ofValue, Sem.run_bind, Sem.run_pure, Result.andThen_ok, invoke, callFunc, run_program, hfn, h1, h2, Bool.false_eq_true, if_false]
   congr 2
   simp
  unfold Qfy
  rw [hrun]
  exact hcall
 ·exact h.elim
end
end Go.Proofs.Ytnmjcdlgfimnaaa
namespace Go.Proofs.Ytnmjcdlgfimnaaa
section
variable {C : Ctx} {s : Qan} {K : KT} {o : Oper}
theorem Ql2 {off : Nat} : ∀ (new old p q : List Value) (k : Nat), new.length = old.length → p.length = off + k →
    (new.zipIdx k).foldl (fun (cs : Array Value) (c : Value × Nat) => cs.setIfInBounds (off + c.2) c.1) (p ++ (old ++ q)).toArray = (p ++ (new ++ q)).toArray
 | [], [], p, q, k, _, _ => by simp
 | [], _ :: _, _, _, _, hl, _ => by simp at hl
 | _ :: _, [], _, _, _, hl, _ => by simp at hl
 | c :: new, x :: old, p, q, k, hl, hp => by
  have ih := Ql2 (off := off) new old (p ++ [c]) q (k + 1) (by simpa using hl) (by simp; omega)
  simp only [List.zipIdx_cons, List.foldl_cons]
  have : (p ++ (x :: old ++ q)).toArray.setIfInBounds (off + k) c = ((p ++ [c]) ++ (old ++ q)).toArray := by
   apply Array.ext'
   simp [← hp]
  rw [this, ih]
  simp
def Qgf (C : Ctx) (d : TD) (i : Nat) : Option (Nat × Nat) := match d with
 | .struct fs => (match fs[i]? with
  | some f => (match C.ty f.2 with
   | some fi => some (f.1, fi.size)
   | none => none)
  | none => none)
 | .arr _ e => (match C.ty e with
  | some ei => some (i * ei.size, ei.size)
  | none => none)
 | _ => none
def Qqh (C : Ctx) (s : Qan) (d : TD) : List (Nat × Operand) → List LV → (List LV → Prop) → Prop
 | [], l, f => f l
 | p :: r, l, f => match Qgf C d p.1 with
  | some q => Qv4 (ev s p.2) ∧ Qep (ev s p.2).leaves = q.2 ∧ wrS q.2 (ev s p.2) 9 l q.1 fun l' => Qqh C s d r l' f
  | none => False
def Qgm (C : Ctx) : List (Nat × TypeId) → Bool
 | [] => true
 | f :: r => (C.ty f.2).isSome && Qgm C r
def Qv7 (l : List LV) : SV := match l with
 | [x] => bif x.isAgg then .l x else .agg [x]
 | l => .agg l
def Qp1 (C : Ctx) (s : Qan) (t : TypeId) (parts : List (Nat × Operand)) (K : KT) : Prop := match C.ty t with
 | some i => (match i.desc with
  | .struct fs => Qgm C fs = true ∧ Qqh C s (.struct fs) parts i.zero fun l => K (.one (Qv7 l)) s
  | .arr n e => (C.ty e).isSome = true ∧ Qqh C s (.arr n e) parts i.zero fun l => K (.one (Qv7 l)) s
  | _ => False)
 | none => False
theorem Qjw {G : Hp} {γ : Nat → Value} {a : Act} (hs : Qb7 G γ s.sl a.tmps) {d : TD} {place : Nat → Option (Nat × Nat)} (hp : ∀ i q, Qgf C d i = some q → place i = some q) :
    ∀ {parts : List (Nat × Operand)} {l : List LV} {f : List LV → Prop} {cs : List Value}, Qqh C s d parts l f → Qb5 G γ l cs →
    ∃ l' cs', f l' ∧ Qb5 G γ l' cs' ∧ Instr.fill place cs.toArray (parts.map fun p => (p.1, a.eval p.2)) = some cs'.toArray
 | [], l, f, cs, h, hr => ⟨l, cs, h, hr, rfl⟩
 | p :: r, l, f, cs, h, hr => by
  unfold Qqh at h
  split at h
  ·rename_i q hq
   obtain ⟨hok, hsz, h⟩ := h
   have hv := Qf2 hok (Qb6 hs p.2)
   obtain ⟨l', p1, old, q1, hf, rfl, hp1, hold, hr'⟩ := Qi3 hv hsz h hr
   obtain ⟨l2, cs2, hf2, hr2, hrun⟩ := Qjw hs hp hf hr'
   refine ⟨l2, cs2, hf2, hr2, ?_⟩
   simp only [List.map_cons, Instr.fill, hp _ _ hq]
   have hlen : (a.eval p.2).cells.toList.length = q.2 := by rw [Qb5.length hv, hsz]
   have hsize : (a.eval p.2).cells.size = q.2 := by simpa using hlen
   have hcs : (p1 ++ (old ++ q1)).toArray.size = q.1 + q.2 + q1.length := by simp only [List.size_toArray, List.length_append]; omega
   have hno : (decide ((a.eval p.2).cells.size ≠ q.2) || decide (q.1 + (a.eval p.2).cells.size > (p1 ++ (old ++ q1)).toArray.size)) = false := by
    rw [hcs, hsize]
    simp
   rw [hno]
   simp only [Bool.false_eq_true, if_false]
   have hfold := Ql2 (off := q.1) (a.eval p.2).cells.toList old p1 q1 0 (by omega) (by omega)
   have e : (a.eval p.2).cells.zipIdx.foldl (fun (cs : Array Value) (c : Value × Nat) => cs.setIfInBounds (q.1 + c.2) c.1) (p1 ++ (old ++ q1)).toArray = (p1 ++ ((a.eval p.2).cells.toList ++ q1)).toArray := by
    rw [← Array.foldl_toList, Array.toList_zipIdx]
    exact hfold
   rw [e]
   exact hrun
  ·exact h.elim
theorem Qpu {G : Hp} {γ : Nat → Value} {l : List LV} {cs : List Value} (h : Qb5 G γ l cs) : (Qv7 l).rel G γ (.agg cs.toArray) := by
 unfold Qv7
 split
 ·rename_i x
  cases ha : x.isAgg
  ·exact ⟨cs, h, rfl⟩
  ·cases x <;> simp only [LV.isAgg] at ha
   case dat R y => exact ⟨cs, Qb5.one_inv h, by simp [Rep.mk, ha]⟩
   all_goals simp at ha
 ·exact ⟨cs, h, rfl⟩
def Qqw (C : Ctx) (t : TypeId) : Nat := match C.ty t with
 | some i => i.size
 | none => 0
theorem Qk2 (w : World) : ∀ fs : List Field, Qgm C (fs.map fun f => (f.offset, f.type)) = true →
    (fs.mapM fun f => (do pure (f.offset, ← sizeOf f.type) : Sem (Nat × Nat))).run C.P w = .ok (fs.map fun f => (f.offset, Qqw C f.type)) w
 | [], _ => rfl
 | f :: r, h => by
  simp only [List.map_cons, Qgm, Bool.and_eq_true] at h
  obtain ⟨i, hi⟩ := Option.isSome_iff_exists.1 h.1
  have h1 := Qc3 (w := w) (C.ok _ _ hi)
  simp only [List.mapM_cons, Sem.run_bind, h1, Result.andThen_ok, Sem.run_pure, Qk2 w r h.2, List.map_cons, Qqw, hi]
theorem Qv0 {t : TypeId} {parts : Array (Nat × Operand)} (ho : o.op = .build t parts) (h : Qp1 C s t parts.toList K) : Qda C.P o s K := by
 intro R G γ fr a w hs hm
 unfold Qp1 at h
 split at h
 ·rename_i i hi
  have hok := C.ok t i hi
  obtain ⟨x, z, hx, _, _, hz, hr⟩ := hok.inf
  have hzr : ∀ w, (zeroValue t).run C.P w = .ok z w := fun w => by simp [zeroValue, Qgj hx, hz]
  have hd := hok.desc
  have hmap : (parts.map fun (p : Nat × Operand) => (p.1, a.eval p.2)).toList = parts.toList.map fun p => (p.1, a.eval p.2) := by simp
  split at h
  ·rename_i fs hfs
   rw [hfs] at hd
   obtain ⟨arr, hu, rfl⟩ := hd
   obtain ⟨hk, h⟩ := h
   have hp : ∀ j q, Qgf C (.struct (arr.toList.map fun f => (f.offset, f.type))) j = some q → ((arr.map fun f => (f.offset, Qqw C f.type))[j]? : Option (Nat × Nat)) = some q := by
    intro j q hq
    simp only [Qgf] at hq
    split at hq
    ·rename_i f hf
     split at hq
     ·rename_i fi hfi
      rw [List.getElem?_map] at hf
      cases hg : arr.toList[j]? with
      | none => rw [hg] at hf; simp at hf
      | some y =>
       rw [hg] at hf
       simp only [Option.map_some, Option.some.injEq] at hf hq
       subst hf
       have hg' : arr[j]? = some y := by simpa using hg
       simp only [Array.getElem?_map, hg', Option.map_some, Qqw, hfi, hq]
     ·simp at hq
    ·simp at hq
   obtain ⟨l', cs', hK, hr', hfill⟩ := Qjw hs hp h (hr G γ)
   refine ⟨.agg cs'.toArray, _, fun w' _ => ?_, hK, Qpu hr'⟩
   have hpl : (arr.mapM fun f => (do pure (f.offset, ← sizeOf f.type) : Sem (Nat × Nat))).run C.P w' = .ok (arr.map fun f => (f.offset, Qqw C f.type)) w' := by
    have e2 : (arr.mapM fun f => (do pure (f.offset, ← sizeOf f.type) : Sem (Nat × Nat))) = List.toArray <$> arr.toList.mapM fun f => (do pure (f.offset, ← sizeOf f.type) : Sem (Nat × Nat)) := by rw [← List.mapM_toArray]
    rw [e2]
    simp only [Sem.run_map, Qk2 w' arr.toList hk, Result.andThen_ok]
    congr 1
    apply Array.ext'
    simp
   have hfill' : Instr.fill (fun j => (arr.map fun f => (f.offset, Qqw C f.type))[j]?) z.cells (parts.toList.map fun p => (p.1, a.eval p.2)) = some cs'.toArray := hfill
   simp only [execOp, ho, Instr.build, Sem.run_bind, hzr, Result.andThen_ok, Qbd hu, hpl, hmap, hfill', Sem.run_pure]
  ·rename_i n e hfs
   rw [hfs] at hd
   have hu : C.P.underlying t = some (.array n e) := hd
   obtain ⟨hk, h⟩ := h
   obtain ⟨ei, hei⟩ := Option.isSome_iff_exists.1 hk
   have hp : ∀ j q, Qgf C (.arr n e) j = some q → (fun i => some (i * ei.size, ei.size) : Nat → Option (Nat × Nat)) j = some q := by
    intro j q hq
    simp only [Qgf, hei] at hq
    exact hq
   obtain ⟨l', cs', hK, hr', hfill⟩ := Qjw hs hp h (hr G γ)
   refine ⟨.agg cs'.toArray, _, fun w' _ => ?_, hK, Qpu hr'⟩
   have hfill' : Instr.fill (fun i => some (i * ei.size, ei.size)) z.cells (parts.toList.map fun p => (p.1, a.eval p.2)) = some cs'.toArray := by simpa using hfill
   simp only [execOp, ho, Instr.build, Sem.run_bind, hzr, Result.andThen_ok, Qbd hu, Qc3 (C.ok _ _ hei), hmap, hfill', Sem.run_pure]
  ·exact h.elim
 ·exact h.elim
def Qs4 (s : Qan) : LV → Option Nat
 | .nils => some 0
 | .emps => some 0
 | .dat R x => (R.slOf x).map (·.1)
 | .own id => (match Qco s.mem id with
  | some (.arr _ l) => some l.length
  | some (.sarr n _) => some n
  | _ => none)
 | .view _ _ _ _ _ n => some n
 | _ => none
def Qyb (C : Ctx) (s : Qan) (t : TypeId) (x : Operand) (K : KT) : Prop := match Qem C t with
 | .str => (match ev s x with
  | .l (.str b) => K (.one (.l (.int .i64 b.length))) s
  | _ => False)
 | .arr n _ => n ≤ 9223372036854775807 ∧ K (.one (.l (.int .i64 n))) s
 | .slice _ => (match ev s x with
  | .l y => (match Qs4 s y with
   | some n => K (.one (.l (.int .i64 n))) s
   | none => False)
  | _ => False)
 | _ => False
theorem Rep.slOf_agg : {α : Type} → (R : Rep α) → {x : α} → {r : Nat × Nat} → R.slOf x = some r → R.agg = false
 | _, .slice _, _, _, _ => rfl
 | _, .int _, _, _, h => by simp [slOf] at h
 | _, .bool, _, _, h => by simp [slOf] at h
 | _, .str, _, _, h => by simp [slOf] at h
 | _, .unit, _, _, h => by simp [slOf] at h
 | _, .pair _ _, _, _, h => by simp [slOf] at h
 | _, .arr _ _, _, _, h => by simp [slOf] at h
 | _, .iso _ _ _ _ _, _, _, h => by simp [slOf] at h
theorem Qli {n : Nat} (h : n ≤ mxL) : inK .i64 (n : Int) := by
 unfold mxL at h
 unfold inK IntKind.min IntKind.max
 simp only [IntKind.signed, IntKind.bits, if_true]
 omega
theorem Qps (c : UInt8) : inK .u8 (c.toNat : Int) := by
 have := c.toNat_lt
 unfold inK IntKind.min IntKind.max
 simp only [IntKind.signed, IntKind.bits, Bool.false_eq_true, if_false]
 omega
theorem Qqk {R : Fr} {G : Hp} {γ : Nat → Value} {fr : Nat → Hp} {w : World} (hm : Qf4 R G γ fr s.mem w) {y : LV} {n : Nat} (h : Qs4 s y = some n) {v : Value} (hv : y.relV G γ v) : ∃ a c, v = .slice a n c ∧ n ≤ mxL := by
 cases y <;> simp only [Qs4, Option.some.injEq, Option.map_eq_some_iff] at h
 case nils => subst h; simp only [LV.relV, LV.rel] at hv; exact ⟨none, 0, by simpa using hv, Nat.zero_le _⟩
 case emps => subst h; obtain ⟨a, e⟩ := hv; exact ⟨a, 0, by simpa using e, Nat.zero_le _⟩
 case dat R x =>
  obtain ⟨r, hr, rfl⟩ := h
  obtain ⟨cs, hc, e⟩ := hv
  obtain ⟨a, cap, rfl, h1, h2, _⟩ := R.slOf_spec (n := r.1) (sz := r.2) hr γ hc
  exact ⟨a, cap, by rw [e]; simp [Rep.mk, R.slOf_agg hr], Nat.le_trans h1 h2⟩
 case own id =>
  have hv' : v = γ id := by have h1 := hv; simp only [LV.relV, LV.rel, List.cons.injEq, and_true] at h1; exact h1.1
  split at h
  ·rename_i α A l hm'
   simp only [Option.some.injEq] at h
   subst h
   rcases hm.arr hm' with ⟨rfl, a, e⟩ | ⟨b, t, es, sp, c, e, _, _, h1, h2, _⟩
   ·exact ⟨a, 0, by rw [hv', e]; rfl, Nat.zero_le _⟩
   ·exact ⟨_, c, by rw [hv', e], Nat.le_trans h1 h2⟩
  ·rename_i k l hm'
   simp only [Option.some.injEq] at h
   subst h
   obtain ⟨b, t, es, sp, c, e, _, _, h1, h2⟩ := hm.at' _ (Qca hm')
   exact ⟨_, c, by rw [hv']; exact e, Nat.le_trans h1 h2⟩
  ·simp at h
 case view id path off m lo len =>
  subst h
  obtain ⟨a, c, h1, h2, e, _⟩ := hv
  exact ⟨a, c, by simpa using e, Nat.le_trans h1 h2⟩
 all_goals simp at h
theorem Qz8 {c : Call} {x : Operand} {t : TypeId} (ho : o.op = .call c) (hc : c.callee = .builtin .len) (ha : c.args.toList = [x]) (ht : c.argTypes.toList = [t]) (h : Qyb C s t x K) : Qda C.P o s K := by
 intro R G γ fr a w hs hm
 have ha' : c.args = #[x] := by apply Array.ext'; simpa using ha
 have ht' : c.argTypes = #[t] := by apply Array.ext'; simpa using ht
 have hx := Qb6 hs x
 have key : ∀ (n : Int) (d : TypeDesc), C.P.underlying t = some d → (∀ w', (Builtin.len_ #[t] o.type #[a.eval x]).run C.P w' = .ok (goInt n) w') → ∀ w', (execOp a.eval o).run C.P w' = .ok (.value (.int .i64 n)) w' := by
  intro n d _ hrun w'
  simp [execOp, ho, resolve, hc, ha', ht', invoke, builtin, hrun, goInt]
 unfold Qyb at h
 split at h
 ·rename_i htd
  have hu : C.P.underlying t = some .string := by have := Qbj (C := C) (t := t) (by rw [htd]; simp); rw [htd] at this; exact this
  split at h
  ·rename_i b he
   rw [he] at hx
   have hx' : a.eval x = .string ⟨b.toArray⟩ := (by simpa [SV.rel, LV.relV, LV.rel] using hx : a.eval x = .string ⟨b.toArray⟩ ∧ b.length ≤ mxL).1
   refine ⟨.int .i64 b.length, _, fun w' _ => key _ _ hu (fun w' => ?_) w', h, rfl, Qli (by simpa [SV.rel, LV.relV, LV.rel] using hx : a.eval x = .string ⟨b.toArray⟩ ∧ b.length ≤ mxL).2⟩
   have e : (⟨b.toArray⟩ : ByteArray).size = b.length := by simp [ByteArray.size]
   simp only [Builtin.len_, hx', List.getElem?_toArray, List.getElem?_cons_zero, Sem.run_bind, Qbd hu, Result.andThen_ok, e, Sem.run_pure]
  ·exact h.elim
 ·rename_i n e htd
  have hu : C.P.underlying t = some (.array n e) := by have := Qbj (C := C) (t := t) (by rw [htd]; simp); rw [htd] at this; exact this
  refine ⟨.int .i64 n, _, fun w' _ => key _ _ hu (fun w' => ?_) w', h.2, rfl, Qli h.1⟩
  simp [Builtin.len_, Qbd hu]
 ·rename_i e htd
  have hu : C.P.underlying t = some (.slice e) := by have := Qbj (C := C) (t := t) (by rw [htd]; simp); rw [htd] at this; exact this
  split at h
  ·rename_i y he
   rw [he] at hx
   split at h
   ·rename_i n hn
    obtain ⟨ad, cp, e', hmx⟩ := Qqk hm hn hx
    refine ⟨.int .i64 n, _, fun w' _ => key _ _ hu (fun w' => ?_) w', h, rfl, Qli hmx⟩
    simp [Builtin.len_, Qbd hu, e']
   ·exact h.elim
  ·exact h.elim
 ·exact h.elim
def Qpr (C : Ctx) (s : Qan) (t : TypeId) (x ix : Operand) (K : KT) : Prop := match ev s ix with
 | .l (.int _ m) => (match ev s x with
  | .l (.str b) => Qem C t = .str ∧ 0 ≤ m ∧ m < b.length ∧ K (.one (.l (.int .u8 ((b.getD m.toNat 0).toNat)))) s
  | .l (.dat R y) => (match Qem C t with
   | .arr n e => (match C.ty e with
    | some ei => R.agg = true ∧ R.arrOf = some (n, ei.size) ∧ 0 ≤ m ∧ m < n ∧ (match rdS ei.size ei.desc.agg 9 [R.elemLV y m.toNat] 0 with
     | some v => K (.one v) s
     | none => False)
    | none => False)
   | _ => False)
  | _ => False)
 | _ => False
theorem Qu6 {t : TypeId} {x ix : Operand} (ho : o.op = .index t x ix) (h : Qpr C s t x ix K) : Qda C.P o s K := by
 intro R G γ fr a w hs hm
 unfold Qpr at h
 have hx := Qb6 hs x
 have hix := Qb6 hs ix
 split at h
 ·rename_i k m hm'
  rw [hm'] at hix
  have hix' : a.eval ix = .int k m := (by simpa [SV.rel, LV.relV, LV.rel] using hix : a.eval ix = .int k m ∧ inK k m).1
  split at h
  ·rename_i b he
   rw [he] at hx
   have hx' : a.eval x = .string ⟨b.toArray⟩ := (by simpa [SV.rel, LV.relV, LV.rel] using hx : a.eval x = .string ⟨b.toArray⟩ ∧ b.length ≤ mxL).1
   obtain ⟨htd, h0, h1, h⟩ := h
   have hu : C.P.underlying t = some .string := by have := Qbj (C := C) (t := t) (by rw [htd]; simp); rw [htd] at this; exact this
   refine ⟨.int .u8 ((b.getD m.toNat 0).toNat), _, fun w' _ => ?_, h, rfl, Qps _⟩
   have hlt : m.toNat < b.length := by omega
   have e1 : (⟨b.toArray⟩ : ByteArray)[m.toNat]? = some (b.getD m.toNat 0) := by
    rw [ByteArray.getElem?_lt' _ _ (by simpa [ByteArray.size] using hlt)]
    congr 1
    show b.toArray[m.toNat] = _
    simp [List.getD_eq_getElem?_getD, List.getElem?_eq_getElem hlt]
   simp [execOp, ho, Instr.index, hx', hix', asIntOf, Qbd hu, h0, e1]
  ·rename_i α A y he
   rw [he] at hx
   split at h
   ·rename_i n e htd
    have hu : C.P.underlying t = some (.array n e) := by have := Qbj (C := C) (t := t) (by rw [htd]; simp); rw [htd] at this; exact this
    split at h
    ·rename_i ei hei
     obtain ⟨hag, harr, h0, h1, h⟩ := h
     split at h
     ·rename_i v hv
      obtain ⟨cs, hc, e1⟩ := hx
      have hx' : a.eval x = .agg cs.toArray := by rw [e1]; simp [Rep.mk, hag]
      obtain ⟨p, c, q, rfl, hp, hcl, hl, _⟩ := A.elem_spec harr γ hc (i := m.toNat) (by omega)
      obtain ⟨p2, es, q2, rfl, hp2, hg⟩ := Qgo hv (Qb5.one hl)
      have hp0 : p2 = [] := List.length_eq_zero_iff.1 hp2
      subst hp0
      obtain ⟨u, hrun, hrel⟩ := Qqc (p := p) (q := q2 ++ q) hei hp hg
      refine ⟨u, _, fun w' _ => ?_, h, hrel⟩
      have hrun' : ∀ w, (part e (p ++ ([] ++ (es ++ q2) ++ q)).toArray (m.toNat * ei.size)).run C.P w = .ok u w := by
       intro w
       have := hrun w
       simpa only [List.nil_append, List.append_assoc] using this
      simp only [execOp, ho, Instr.index, hx', hix', asIntOf, Sem.run_bind, Sem.run_pure, Result.andThen_ok, Qbd hu, h0, h1, and_self, if_true, Qc3 (C.ok _ _ hei), hrun']
     ·exact h.elim
    ·exact h.elim
   ·exact h.elim
  ·exact h.elim
 ·exact h.elim
end
end Go.Proofs.Ytnmjcdlgfimnaaa
namespace Go.Proofs.Ytnmjcdlgfimnaaa
inductive SL : Type 1
 | mk {α : Type} (A : Rep α) (l : List α)
def Rep.slSrc : {α : Type} → Rep α → α → Option SL
 | _, .slice A, l => some (.mk A l)
 | _, _, _ => none
def Rep.arrSrc : {α : Type} → Rep α → α → Option SL
 | _, .arr _ A, l => some (.mk A l)
 | _, .iso A to _ _ _, y => A.arrSrc (to y)
 | _, _, _ => none
def LV.arrSrc : LV → Option SL
 | .dat R x => R.arrSrc x
 | _ => none
theorem Rep.slSrc_spec : {α : Type} → (R : Rep α) → {x : α} → {β : Type} → {A : Rep β} → {l : List β} → R.slSrc x = some (.mk A l) → {G : Hp} → {cs : List Value} → R.enc G x cs → (Rep.slice A).enc G l cs ∧ R.agg = false
 | _, .slice A', x, β, A, l, h, G, cs, he => by
  simp only [slSrc, Option.some.injEq, SL.mk.injEq] at h
  obtain ⟨rfl, hA, hx⟩ := h
  obtain rfl := eq_of_heq hA
  obtain rfl := eq_of_heq hx
  exact ⟨he, rfl⟩
 | _, .int _, _, _, _, _, h, _, _, _ => by simp [slSrc] at h
 | _, .bool, _, _, _, _, h, _, _, _ => by simp [slSrc] at h
 | _, .str, _, _, _, _, h, _, _, _ => by simp [slSrc] at h
 | _, .unit, _, _, _, _, h, _, _, _ => by simp [slSrc] at h
 | _, .pair _ _, _, _, _, _, h, _, _, _ => by simp [slSrc] at h
 | _, .arr _ _, _, _, _, _, h, _, _, _ => by simp [slSrc] at h
 | _, .iso _ _ _ _ _, _, _, _, _, h, _, _, _ => by simp [slSrc] at h
theorem Rep.arrSrc_spec : {α : Type} → (R : Rep α) → {x : α} → {β : Type} → {A : Rep β} → {l : List β} → R.arrSrc x = some (.mk A l) → {G : Hp} → {cs : List Value} → R.enc G x cs → EncL (fun x c => A.enc G x c) l cs
 | _, .arr n A', x, β, A, l, h, G, cs, he => by
  simp only [arrSrc, Option.some.injEq, SL.mk.injEq] at h
  obtain ⟨rfl, hA, hx⟩ := h
  obtain rfl := eq_of_heq hA
  obtain rfl := eq_of_heq hx
  exact ((enc_arr n A' G x cs).1 he).2
 | _, .iso A' to of _ _, y, β, A, l, h, G, cs, he => A'.arrSrc_spec (by simpa only [arrSrc] using h) (by simpa only [enc] using he)
 | _, .int _, _, _, _, _, h, _, _, _ => by simp [arrSrc] at h
 | _, .bool, _, _, _, _, h, _, _, _ => by simp [arrSrc] at h
 | _, .str, _, _, _, _, h, _, _, _ => by simp [arrSrc] at h
 | _, .unit, _, _, _, _, h, _, _, _ => by simp [arrSrc] at h
 | _, .pair _ _, _, _, _, _, h, _, _, _ => by simp [arrSrc] at h
 | _, .slice _, _, _, _, _, h, _, _, _ => by simp [arrSrc] at h
def Qu8 (sz : Nat) : Qq7 → List LV → Nat → (LV → Prop) → Prop
 | [], l, off, f => match Qj2 sz 9 l off with
  | some (_, x, _) => f x
  | none => False
 | (b, sz', i) :: p, l, off, f => match Qj2 sz' 9 l b with
  | some (_, x, _) => (match x.arrOf with
   | some (len, s2) => s2 = sz' ∧ i.toNat < len ∧ Qu8 sz p [x.elemLV i.toNat] off f
   | none => False)
  | none => False
theorem Qjx {G : Hp} {γ : Nat → Value} {sz : Nat} : ∀ {path : Qq7} {l : List LV} {off : Nat} {f : LV → Prop} {cs : List Value}, Qu8 sz path l off f → Qb5 G γ l cs →
    ∃ x p es q, f x ∧ cs = p ++ (es ++ q) ∧ p.length = Qdx path off ∧ x.rel G γ es
 | [], l, off, f, cs, h, hr => by
  unfold Qu8 at h
  split at h
  ·rename_i p1 x q1 hs
   obtain ⟨hr, hb⟩ := Qd2 hs hr
   obtain ⟨c1, d, rfl, h1, c2, c3, rfl, h2, h3⟩ := Qb5.append_inv hr
   exact ⟨x, c1, c2, c3, h, rfl, by rw [Qb5.length h1, hb]; rfl, h2⟩
  ·exact h.elim
 | (b, sz', i) :: path, l, off, f, cs, h, hr => by
  unfold Qu8 at h
  split at h
  ·rename_i p1 x q1 hs
   obtain ⟨hr, hb⟩ := Qd2 hs hr
   obtain ⟨c1, d, rfl, h1, c2, c3, rfl, h2, h3⟩ := Qb5.append_inv hr
   split at h
   ·rename_i len s2 ha
    obtain ⟨rfl, hi, h⟩ := h
    obtain ⟨p', c, q', e, hp', hc, hl, _⟩ := LV.elem_spec ha h2 hi
    obtain ⟨y, p2, es, q2, hf, e2, hp2, hg⟩ := Qjx h (Qb5.one hl)
    refine ⟨y, c1 ++ (p' ++ p2), es, q2 ++ (q' ++ c3), hf, by rw [e, e2]; simp only [List.append_assoc], ?_, hg⟩
    have := Qb5.length h1
    simp only [List.length_append, Qdx]; omega
   ·exact h.elim
  ·exact h.elim
section
variable {C : Ctx} {s : Qan} {K : KT} {o : Oper}
def Qv1 (s : Qan) (y : LV) (f : SL → Prop) : Prop := match y with
 | .dat R x => (match R.slSrc x with
  | some q => f q
  | none => False)
 | .own id => (match Qco s.mem id with
  | some (.arr A l) => f (.mk A l)
  | _ => False)
 | .view id path off n lo len => (match Qco s.mem id with
  | some (.arr A l) => (match path with
   | [] => off = 0 ∧ n = A.size ∧ lo + len ≤ l.length ∧ f (.mk A ((l.drop lo).take len))
   | (0, sz, ix) :: p => sz = A.size ∧ ix.toNat < l.length ∧ Qu8 n p [A.leaf (l.getD ix.toNat A.zero)] off fun x => match x.arrSrc with
    | some (.mk A l) => A.size = n ∧ lo + len ≤ l.length ∧ f (.mk A ((l.drop lo).take len))
    | none => False
   | _ => False)
  | some (.segs l) => Qu8 n path l off fun x => match x.arrSrc with
   | some (.mk A l) => A.size = n ∧ lo + len ≤ l.length ∧ f (.mk A ((l.drop lo).take len))
   | none => False
  | _ => False)
 | _ => False
theorem Qfo {w : World} {b off : Nat} {p es q : List Value} {t : TypeId} {fr : Nat × Nat} (h : w.heap[b]? = some (.cells (p ++ (es ++ q)).toArray t fr)) (hp : p.length = off) {j : Nat} {u : Value} (hj : es[j]? = some u) :
    w.cell? ((⟨b, off, none⟩ : Addr).add j) = some u := by
 obtain ⟨hlt, rfl⟩ := List.getElem?_eq_some_iff.1 hj
 rw [Qea]
 have e : es = es.take j ++ es[j] :: es.drop (j + 1) := by simp
 refine Qmd (p := p ++ es.take j) (q := es.drop (j + 1) ++ q) (t := t) (fr := fr) ?_ (by simp; omega)
 rw [h]
 congr 3
 conv => lhs; rw [e]
 simp only [List.append_assoc, List.cons_append]
theorem Qhn {α : Type} {A : Rep α} {G : Hp} {l : List α} {cs : List Value} (h : EncL (fun x c => A.enc G x c) l cs) (lo len : Nat) (hl : lo + len ≤ l.length) :
    ∃ p es q, cs = p ++ (es ++ q) ∧ p.length = lo * A.size ∧ EncL (fun x c => A.enc G x c) ((l.drop lo).take len) es := by
 have e : l = l.take lo ++ ((l.drop lo).take len ++ (l.drop lo).drop len) := by rw [List.take_append_drop, List.take_append_drop]
 rw [e] at h
 obtain ⟨p, r, e1, hp, hr⟩ := EncL.append_inv h
 obtain ⟨es, q, e2, he, hq⟩ := EncL.append_inv hr
 refine ⟨p, es, q, by rw [e1, e2], ?_, he⟩
 rw [EncL.length (fun _ _ h => A.enc_length h) hp, List.length_take, Nat.min_eq_left (by omega)]
theorem Qjg {R : Fr} {G : Hp} {γ : Nat → Value} {fr : Nat → Hp} {w : World} (hm : Qf4 R G γ fr s.mem w) {y : LV} {f : SL → Prop} (h : Qv1 s y f) {v : Value} (hv : y.relV G γ v) :
    ∃ (α : Type) (A : Rep α) (l : List α) (es : List Value) (a : Option Addr) (cap : Nat), f (.mk A l) ∧ v = .slice a l.length cap ∧ l.length ≤ cap ∧ cap ≤ mxL ∧ (a = none → cap = 0) ∧ EncL (fun x c => A.enc G x c) l es ∧
     ∀ w', Agr G fr (Qao s.mem) w' → ∀ (j : Nat) (u : Value), es[j]? = some u → ∃ ad, a = some ad ∧ w'.cell? (ad.add j) = some u := by
 unfold Qv1 at h
 split at h
 ·rename_i α0 R0 x
  split at h
  ·rename_i q hq
   obtain ⟨A, l⟩ := q
   obtain ⟨cs, hc, e⟩ := hv
   obtain ⟨hc', hag⟩ := R0.slSrc_spec hq hc
   obtain ⟨a, cap, rfl, hle, hmx, hn, h'⟩ := (Rep.enc_slice A G l cs).1 hc'
   have e' : v = .slice a l.length cap := by rw [e]; simp [Rep.mk, hag]
   rcases h' with rfl | ⟨b, p, es, q, t, f0, rfl, hb, hl⟩
   ·exact ⟨_, A, [], [], a, cap, h, e', hle, hmx, hn, rfl, fun _ _ j u hj => by simp at hj⟩
   ·refine ⟨_, A, l, es, _, cap, h, e', hle, hmx, hn, hl, fun w' ha j u hj => ⟨_, rfl, ?_⟩⟩
    have hb' : Qeh w' b = _ := ha.1 _ _ hb
    exact Qfo (t := t) (fr := f0) (by simpa [Qeh] using hb') rfl hj
  ·exact h.elim
 ·rename_i id
  have hv' : v = γ id := by have h1 := hv; simp only [LV.relV, LV.rel, List.cons.injEq, and_true] at h1; exact h1.1
  split at h
  ·rename_i α A l hm'
   rcases hm.arr hm' with ⟨rfl, a, e⟩ | ⟨b, t, es, sp, c, e, hb, hl, hle, hmx, _⟩
   ·exact ⟨_, A, [], [], a, 0, h, by rw [hv', e]; rfl, by simp, Nat.zero_le _, fun _ => rfl, rfl, fun _ _ j u hj => by simp at hj⟩
   ·exact ⟨_, A, l, es, some ⟨b, 0, none⟩, c, h, by rw [hv', e], hle, hmx, by simp, hl, fun w' ha j u hj => ⟨_, rfl, Qfo (p := []) (hb w' ha) rfl hj⟩⟩
  ·exact h.elim
 ·rename_i id path off n lo len
  obtain ⟨a, cap, hcap, hmx, e, hne, hnn⟩ := hv
  have e' : v = .slice a len cap := by simpa using e
  have fin : ∀ {α : Type} {A : Rep α} {l : List α} {es : List Value}, lo + len ≤ l.length → f (.mk A ((l.drop lo).take len)) → EncL (fun x c => A.enc G x c) ((l.drop lo).take len) es →
      (len ≠ 0 → ∀ w', Agr G fr (Qao s.mem) w' → ∀ (j : Nat) (u : Value), es[j]? = some u → w'.cell? ((⟨blk (γ id), Qdx path off + lo * n, none⟩ : Addr).add j) = some u) →
      ∃ (α : Type) (A : Rep α) (l : List α) (es : List Value) (a : Option Addr) (cap : Nat), f (.mk A l) ∧ v = .slice a l.length cap ∧ l.length ≤ cap ∧ cap ≤ mxL ∧ (a = none → cap = 0) ∧ EncL (fun x c => A.enc G x c) l es ∧
       ∀ w', Agr G fr (Qao s.mem) w' → ∀ (j : Nat) (u : Value), es[j]? = some u → ∃ ad, a = some ad ∧ w'.cell? (ad.add j) = some u := by
   intro α A l es hlen hf he hc
   have hl2 : ((l.drop lo).take len).length = len := by simp; omega
   refine ⟨α, A, (l.drop lo).take len, es, a, cap, hf, by rw [hl2]; exact e', by rw [hl2]; exact hcap, hmx, hnn, he, fun w' ha j u hj => ?_⟩
   by_cases h0 : len = 0
   ·subst h0
    simp only [List.take_zero, EncL] at he
    rw [he] at hj; simp at hj
   ·exact ⟨_, hne h0, hc h0 w' ha j u hj⟩
  split at h
  ·rename_i α A l hm'
   split at h
   ·obtain ⟨rfl, rfl, hlen, h⟩ := h
    rcases hm.arr hm' with ⟨rfl, a', e1⟩ | ⟨b, t, es, sp, c, e1, hb, hl, hle, _⟩
    ·have hl0 : lo = 0 ∧ len = 0 := by simp at hlen; omega
     obtain ⟨rfl, rfl⟩ := hl0
     exact fin (es := []) hlen h rfl (fun h0 => absurd rfl h0)
    ·obtain ⟨p, e2, q, rfl, hp, he⟩ := Qhn hl lo len hlen
     refine fin hlen h he fun _ w' ha j u hj => ?_
     have := hb w' ha
     simp only [e1, blk]
     exact Qfo (p := p) (q := q ++ sp) (t := t) (fr := (0, 0)) (by rw [this]; simp only [List.append_assoc]) (by simpa [Qdx] using hp) hj
   ·rename_i sz ix pth
    obtain ⟨rfl, hix, h⟩ := h
    rcases hm.arr hm' with ⟨rfl, _⟩ | ⟨b, t, es, sp, c, e1, hb, hl, _, _⟩
    ·simp at hix
    ·obtain ⟨p1, c1, q1, rfl, hp1, hc1, _, _⟩ := EncL.at (fun _ _ h => A.enc_length h) hl ix.toNat hix
     have hd : l.getD ix.toNat A.zero = l[ix.toNat] := by rw [List.getD_eq_getElem?_getD, List.getElem?_eq_getElem hix]; rfl
     rw [hd] at h
     obtain ⟨x, p3, es3, q3, h1, rfl, hp3, hx⟩ := Qjx h (Qb5.one ((A.leaf_rel G γ _ _).2 hc1))
     split at h1
     ·rename_i β B l2 hsrc
      obtain ⟨hA, hlen, h1⟩ := h1
      subst hA
      have hl : EncL (fun x c => B.enc G x c) l2 es3 := by
       cases x <;> simp only [LV.arrSrc] at hsrc
       case dat R0 y => exact R0.arrSrc_spec hsrc hx
       all_goals simp at hsrc
      obtain ⟨p2, e2, q2, rfl, hp2, he⟩ := Qhn hl lo len hlen
      refine fin hlen h1 he fun _ w' ha j u hj => ?_
      have := hb w' ha
      simp only [e1, blk]
      exact Qfo (p := p1 ++ (p3 ++ p2)) (q := q2 ++ (q3 ++ (q1 ++ sp))) (t := t) (fr := (0, 0)) (by rw [this]; simp only [List.append_assoc]) (by simp only [List.length_append, Qdx]; omega) hj
     ·exact h1.elim
   ·exact h.elim
  ·rename_i l hm'
   obtain ⟨b, t, cs, e1, hb, hr⟩ := hm.segs hm'
   obtain ⟨x, p, es, q, h1, rfl, hp, hx⟩ := Qjx h hr
   split at h1
   ·rename_i α A l2 hsrc
    obtain ⟨hA, hlen, h1⟩ := h1
    subst hA
    have hl : EncL (fun x c => A.enc G x c) l2 es := by
     cases x <;> simp only [LV.arrSrc] at hsrc
     case dat R0 y => exact R0.arrSrc_spec hsrc hx
     all_goals simp at hsrc
    obtain ⟨p2, e2, q2, rfl, hp2, he⟩ := Qhn hl lo len hlen
    refine fin hlen h1 he fun _ w' ha j u hj => ?_
    have := hb w' ha
    simp only [e1, blk]
    exact Qfo (p := p ++ p2) (q := q2 ++ q) (t := t) (fr := (0, 0)) (by rw [this]; simp only [List.append_assoc]) (by simp only [List.length_append]; omega) hj
   ·exact h1.elim
  ·exact h.elim
 ·exact h.elim
def Qq9 (s : Qan) (d : Int) : Option Operand → Option Int
 | none => some d
 | some x => match ev s x with
  | .l (.int _ n) => some n
  | _ => none
def Qvq (v : Option Value) (d n : Int) : Prop := (v = none ∧ n = d) ∨ ∃ k, v = some (.int k n)
theorem Qd8 {G : Hp} {γ : Nat → Value} {a : Act} (hs : Qb7 G γ s.sl a.tmps) {d n : Int} {x : Option Operand} (h : Qq9 s d x = some n) : Qvq (x.map a.eval) d n := by
 cases x with
 | none => simp only [Qq9, Option.some.injEq] at h; exact .inl ⟨rfl, h.symm⟩
 | some x =>
  simp only [Qq9] at h
  split at h
  ·rename_i k m he
   simp only [Option.some.injEq] at h
   subst h
   have hx := Qb6 hs x
   rw [he] at hx
   exact .inr ⟨k, by rw [Option.map_some, (by simpa [SV.rel, LV.relV, LV.rel] using hx : a.eval x = .int k m ∧ inK k m).1]⟩
  ·simp at h
theorem Qhy {P : Program} {w : World} {b : Bool} {len cap : Nat} {lo hi : Option Value} {l h : Int} (hlo : Qvq lo 0 l) (hhi : Qvq hi len h) (h0 : 0 ≤ l) (h1 : l ≤ h) (h2 : h ≤ cap) :
    (Instr.sliceBounds b len cap lo hi none).run P w = .ok (l.toNat, h.toNat, cap) w := by
 have hh : ((h.toNat : Nat) : Int) = h := by omega
 have s1 : ∀ k code, (Instr.sliceBound (.int k h) cap code).run P w = .ok h.toNat w := fun k code => by
  have : 0 ≤ h ∧ h ≤ (cap : Int) := ⟨by omega, h2⟩
  simp [Instr.sliceBound, asIntOf, this]
 have s2 : ∀ k code, (Instr.sliceBound (.int k l) h.toNat code).run P w = .ok l.toNat w := fun k code => by
  have : 0 ≤ l ∧ l ≤ (h.toNat : Int) := ⟨by omega, by omega⟩
  simp only [Instr.sliceBound, asIntOf, Sem.run_bind, Sem.run_pure, Result.andThen_ok, if_pos this]
 rcases hlo with ⟨rfl, rfl⟩ | ⟨k, rfl⟩ <;> rcases hhi with ⟨rfl, rfl⟩ | ⟨k', rfl⟩
 ·simp [Instr.sliceBounds]
 ·cases b <;> simp [Instr.sliceBounds, s1]
 ·simp only [Int.toNat_natCast] at s2
  cases b <;> simp [Instr.sliceBounds, s2]
 ·cases b <;> simp [Instr.sliceBounds, s1, s2]
theorem Qoj {P : Program} {w : World} {b : Bool} {len cap : Nat} {lo : Option Value} {l h m : Int} {kh km : IntKind} (hlo : Qvq lo 0 l) (h0 : 0 ≤ l) (h1 : l ≤ h) (h2 : h ≤ m) (h3 : m ≤ cap) :
    (Instr.sliceBounds b len cap lo (some (.int kh h)) (some (.int km m))).run P w = .ok (l.toNat, h.toNat, m.toNat) w := by
 have s0 : ∀ k code, (Instr.sliceBound (.int k m) cap code).run P w = .ok m.toNat w := fun k code => by
  have : 0 ≤ m ∧ m ≤ (cap : Int) := ⟨by omega, h3⟩
  simp only [Instr.sliceBound, asIntOf, Sem.run_bind, Sem.run_pure, Result.andThen_ok, if_pos this]
 have s1 : ∀ k code, (Instr.sliceBound (.int k h) m.toNat code).run P w = .ok h.toNat w := fun k code => by
  have : 0 ≤ h ∧ h ≤ (m.toNat : Int) := ⟨by omega, by omega⟩
  simp only [Instr.sliceBound, asIntOf, Sem.run_bind, Sem.run_pure, Result.andThen_ok, if_pos this]
 have s2 : ∀ k code, (Instr.sliceBound (.int k l) h.toNat code).run P w = .ok l.toNat w := fun k code => by
  have : 0 ≤ l ∧ l ≤ (h.toNat : Int) := ⟨by omega, by omega⟩
  simp only [Instr.sliceBound, asIntOf, Sem.run_bind, Sem.run_pure, Result.andThen_ok, if_pos this]
 rcases hlo with ⟨rfl, rfl⟩ | ⟨k, rfl⟩
 ·cases b <;> simp [Instr.sliceBounds, s0, s1]
 ·cases b <;> simp [Instr.sliceBounds, s0, s1, s2]
def Qm4 (C : Ctx) (s : Qan) (t : TypeId) (x : Operand) (lo hi mx : Option Operand) (K : KT) : Prop := match Qq9 s 0 lo with
 | none => False
 | some l => match Qem C t with
  | .str => (match mx, ev s x with
   | none, .l (.str b) => (match Qq9 s b.length hi with
    | some h => 0 ≤ l ∧ l ≤ h ∧ h ≤ b.length ∧ K (.one (.l (.str ((b.take h.toNat).drop l.toNat)))) s
    | none => False)
   | _, _ => False)
  | .arr n e => (match mx, C.ty e, ev s x, Qq9 s n hi with
   | none, some ei, .l (.ptr id path off), some h => 0 ≤ l ∧ l ≤ h ∧ h ≤ n ∧ n ≤ 9223372036854775807 ∧ K (.one (.l (.view id path off ei.size l.toNat (h - l).toNat))) s
   | _, _, _, _ => False)
  | .slice e => (match C.ty e, ev s x with
   | some ei, .l (.dat R y) => (match R.slSrc y with
    | some (.mk A lst) => A.size = ei.size ∧ (match Qq9 s lst.length hi with
     | some h => (match mx with
      | none => 0 ≤ l ∧ l ≤ h ∧ h ≤ lst.length ∧ K (.one (.l (.dat (.slice A) ((lst.take h.toNat).drop l.toNat)))) s
      | some m => (match ev s m with
       | .l (.int _ c) => hi.isSome = true ∧ 0 ≤ l ∧ l ≤ h ∧ h ≤ c ∧ c ≤ lst.length ∧ (l = c → K (.one (.l .emps)) s) ∧ (l ≠ c → K (.one (.l (.dat (.slice A) ((lst.take h.toNat).drop l.toNat)))) s)
       | _ => False))
     | none => False)
    | none => False)
   | some ei, .l (.own id) => (match Qco s.mem id, mx with
    | some (.arr A lst), none => A.size = ei.size ∧ (match Qq9 s lst.length hi with
     | some h => 0 ≤ l ∧ l ≤ h ∧ h ≤ lst.length ∧ K (.one (.l (.view id [] 0 ei.size l.toNat (h - l).toNat))) s
     | none => False)
    | _, _ => False)
   | some ei, .l (.view id path off n lo0 len) => (match mx with
    | none => n = ei.size ∧ (match Qq9 s len hi with
     | some h => 0 ≤ l ∧ l ≤ h ∧ h ≤ len ∧ K (.one (.l (.view id path off n (lo0 + l.toNat) (h - l).toNat))) s
     | none => False)
    | _ => False)
   | some _, .l .nils => (match mx, Qq9 s 0 hi with
    | none, some h => l = 0 ∧ h = 0 ∧ K (.one (.l .nils)) s
    | _, _ => False)
   | _, _ => False)
  | _ => False
theorem Qcn {t e : TypeId} {ei : TyI} (hu : C.P.underlying t = some (.slice e)) (hei : C.ty e = some ei) {a : Option Addr} {len cap : Nat} {lo hi : Option Value} {l h : Int}
    (hlo : Qvq lo 0 l) (hhi : Qvq hi len h) (h0 : 0 ≤ l) (h1 : l ≤ h) (h2 : h ≤ cap) (w : World) :
    (Instr.sliceAt t (.slice a len cap) lo hi none).run C.P w = .ok (.slice (if cap = l.toNat then a else a.map (·.add (l.toNat * ei.size))) (h.toNat - l.toNat) (cap - l.toNat)) w := by
 simp only [Instr.sliceAt, Instr.slice, Sem.run_bind, Qbd hu, Result.andThen_ok, Qhy hlo hhi h0 h1 h2, Qc3 (C.ok _ _ hei), Sem.run_pure]
theorem Qsr {t : TypeId} {x : Operand} {lo hi mx : Option Operand} (ho : o.op = .slice t x lo hi mx) (h : Qm4 C s t x lo hi mx K) : Qda C.P o s K := by
 intro R G γ fr a w hs hm
 unfold Qm4 at h
 have hx := Qb6 hs x
 split at h
 ·exact h.elim
 ·rename_i l hl
  have hlo := Qd8 hs hl
  split at h
  ·rename_i htd
   have hu : C.P.underlying t = some .string := by have := Qbj (C := C) (t := t) (by rw [htd]; simp); rw [htd] at this; exact this
   split at h
   ·rename_i b he
    rw [he] at hx
    have hx' : a.eval x = .string ⟨b.toArray⟩ := (by simpa [SV.rel, LV.relV, LV.rel] using hx : a.eval x = .string ⟨b.toArray⟩ ∧ b.length ≤ mxL).1
    split at h
    ·rename_i hh hb
     have hhi := Qd8 hs hb
     obtain ⟨h0, h1, h2, hK⟩ := h
     have sz : (⟨b.toArray⟩ : ByteArray).size = b.length := by simp [ByteArray.size]
     refine ⟨.string ((⟨b.toArray⟩ : ByteArray).extract l.toNat hh.toNat), _, fun w' _ => ?_, hK, ?_⟩
     ·simp only [execOp, ho, hx', Option.map_none, Instr.sliceAt, Instr.slice, Sem.run_bind, Qbd hu, Result.andThen_ok, Option.isSome_none, Bool.false_eq_true, if_false, Sem.run_pure, Qhy hlo (sz ▸ hhi) h0 h1 (sz ▸ h2)]
     ·have e : (⟨b.toArray⟩ : ByteArray).extract l.toNat hh.toNat = ⟨((b.take hh.toNat).drop l.toNat).toArray⟩ := by
       apply ByteArray.ext
       rw [ByteArray.data_extract]
       simp [List.drop_take]
      rw [e]
      have hbl := (by simpa [SV.rel, LV.relV, LV.rel] using hx : a.eval x = .string ⟨b.toArray⟩ ∧ b.length ≤ mxL).2
      exact ⟨rfl, Nat.le_trans (by rw [List.length_drop, List.length_take]; omega) hbl⟩
    ·exact h.elim
   ·exact h.elim
  ·rename_i n e htd
   have hu : C.P.underlying t = some (.array n e) := by have := Qbj (C := C) (t := t) (by rw [htd]; simp); rw [htd] at this; exact this
   split at h
   ·rename_i ei id path off hh hei he hb
    rw [he] at hx
    have hx' : a.eval x = .pointer (some ⟨blk (γ id), Qdx path off, none⟩) := by simpa [SV.rel, LV.relV, LV.rel] using hx
    have hhi := Qd8 hs hb
    obtain ⟨h0, h1, h2, hnm, hK⟩ := h
    refine ⟨.slice (some (if n = l.toNat then ⟨blk (γ id), Qdx path off, none⟩ else (⟨blk (γ id), Qdx path off, none⟩ : Addr).add (l.toNat * ei.size))) (hh.toNat - l.toNat) (n - l.toNat), _, fun w' _ => ?_, hK, ?_⟩
    ·simp only [execOp, ho, hx', Option.map_none, Instr.sliceAt, Instr.sureAddr, Sem.run_bind, Qbd hu, Result.andThen_ok, Sem.run_pure, Qhy hlo hhi h0 h1 h2, Qc3 (C.ok _ _ hei)]
    ·have e5 : hh.toNat - l.toNat = (hh - l).toNat := by omega
     rw [e5]
     refine ⟨some (if n = l.toNat then ⟨blk (γ id), Qdx path off, none⟩ else (⟨blk (γ id), Qdx path off, none⟩ : Addr).add (l.toNat * ei.size)), n - l.toNat, by omega, by unfold mxL; omega, rfl, fun hne => ?_, fun hn => ?_⟩
     ·have : ¬ n = l.toNat := by omega
      rw [if_neg this, Qea]
     ·simp at hn
   ·exact h.elim
  ·rename_i e htd
   have hu : C.P.underlying t = some (.slice e) := by have := Qbj (C := C) (t := t) (by rw [htd]; simp); rw [htd] at this; exact this
   split at h
   ·rename_i ei α R0 y hei he
    rw [he] at hx
    split at h
    ·rename_i β A lst hsrc
     obtain ⟨hA, h⟩ := h
     obtain ⟨cs, hc, e1⟩ := hx
     obtain ⟨hc', hag⟩ := R0.slSrc_spec hsrc hc
     obtain ⟨ad, cap, rfl, hle, hmx, hn, hd⟩ := (Rep.enc_slice A G lst cs).1 hc'
     have hx' : a.eval x = .slice ad lst.length cap := by rw [e1]; simp [Rep.mk, hag]
     have cut : ∀ (m : Nat) (l h : Int), 0 ≤ l → l ≤ h → h ≤ lst.length → h ≤ m → m ≤ cap → (l = m → l = h) →
         (SV.l (.dat (.slice A) ((lst.take h.toNat).drop l.toNat))).rel G γ (.slice (if m = l.toNat then ad else ad.map (·.add (l.toNat * ei.size))) (h.toNat - l.toNat) (m - l.toNat)) := by
      intro m l h h0 h1 h2 h3 h4 h5
      have hlen : ((lst.take h.toNat).drop l.toNat).length = h.toNat - l.toNat := by simp; omega
      refine ⟨_, (Rep.enc_slice A G _ _).2 ⟨(if m = l.toNat then ad else ad.map (·.add (l.toNat * ei.size))), m - l.toNat, rfl, by rw [hlen]; omega, by omega, ?_, ?_⟩, ?_⟩
      ·intro hnone
       by_cases hm : m = l.toNat
       ·omega
       ·rw [if_neg hm] at hnone
        have := hn (by simpa using hnone)
        omega
      ·by_cases hlh : l = h
       ·left
        exact List.length_eq_zero_iff.1 (by rw [hlen]; omega)
       ·right
        have hm : ¬ m = l.toNat := fun e => hlh (h5 (by omega))
        rcases hd with rfl | ⟨b, p, es, q, t', f0, rfl, hb, hl⟩
        ·simp at h2; omega
        ·obtain ⟨p2, e2, q2, rfl, hp2, he2⟩ := Qhn hl l.toNat (h.toNat - l.toNat) (by omega)
         refine ⟨b, p ++ p2, e2, q2 ++ q, t', f0, ?_, by rw [hb]; simp only [List.append_assoc], ?_⟩
         ·rw [if_neg hm]
          simp [Qea, hp2, hA]
         ·rwa [List.drop_take]
      ·rw [hlen]; rfl
     split at h
     ·rename_i hh hb
      have hhi := Qd8 hs hb
      split at h
      ·obtain ⟨h0, h1, h2, hK⟩ := h
       have h3 : hh ≤ (cap : Int) := by omega
       refine ⟨_, _, fun w' _ => ?_, hK, cut cap l hh h0 h1 h2 h3 (Nat.le_refl _) (by omega)⟩
       simp only [execOp, ho, hx', Option.map_none, Sem.run_bind, Qcn hu hei hlo hhi h0 h1 h3, Result.andThen_ok, Sem.run_pure]
      ·rename_i m
       split at h
       ·rename_i km c hc2
        have hm2 := Qb6 hs m
        rw [hc2] at hm2
        have hm' : a.eval m = .int km c := (by simpa [SV.rel, LV.relV, LV.rel] using hm2 : a.eval m = .int km c ∧ inK km c).1
        obtain ⟨hsome, h0, h1, h2, h3, hK1, hK2⟩ := h
        obtain ⟨hi', rfl⟩ := Option.isSome_iff_exists.1 hsome
        have hhi' : ∃ kh, a.eval hi' = .int kh hh := by
         rcases hhi with ⟨h, _⟩ | ⟨kh, h⟩
         ·simp at h
         ·exact ⟨kh, by simpa using h⟩
        obtain ⟨kh, hhi'⟩ := hhi'
        have hrun : ∀ w', (execOp a.eval o).run C.P w' = .ok (.value (.slice (if c.toNat = l.toNat then ad else ad.map (·.add (l.toNat * ei.size))) (hh.toNat - l.toNat) (c.toNat - l.toNat))) w' := by
         intro w'
         simp only [execOp, ho, hx', Option.map_some, hhi', hm', Instr.sliceAt, Instr.slice, Sem.run_bind, Qbd hu, Result.andThen_ok, Qoj (b := true) (len := lst.length) (cap := cap) hlo h0 h1 h2 (show c ≤ (cap : Int) by omega), Qc3 (C.ok _ _ hei), Sem.run_pure]
        by_cases hlc : l = c
        ·refine ⟨_, _, fun w' _ => hrun w', hK1 hlc, ?_⟩
         have e1 : c.toNat = l.toNat := by omega
         have e2 : hh.toNat - l.toNat = 0 := by omega
         rw [if_pos e1, e1, e2, Nat.sub_self]
         exact ⟨_, rfl⟩
        ·exact ⟨_, _, fun w' _ => hrun w', hK2 hlc, cut c.toNat l hh h0 h1 (by omega) (by omega) (by omega) (by omega)⟩
       ·exact h.elim
     ·exact h.elim
    ·exact h.elim
   ·rename_i ei id hei he
    rw [he] at hx
    have hv' : a.eval x = γ id := by have h1 := hx; simp only [SV.rel, LV.relV, LV.rel, List.cons.injEq, and_true] at h1; exact h1.1
    split at h
    ·rename_i α A lst hm'
     obtain ⟨hA, h⟩ := h
     split at h
     ·rename_i hh hb
      have hhi := Qd8 hs hb
      obtain ⟨h0, h1, h2, hK⟩ := h
      rcases hm.arr hm' with ⟨rfl, ad, e1⟩ | ⟨b, t', es, sp, c, e1, hbk, hl, hle, hmx, _⟩
      ·have hl0 : l = 0 ∧ hh = 0 := by simp at h2; omega
       obtain ⟨rfl, rfl⟩ := hl0
       refine ⟨?_, _, fun w' _ => ?_, hK, ?_⟩
       ·exact .slice ad 0 0
       ·have := Qcn hu hei hlo (len := 0) (by simpa using hhi) h0 h1 (cap := 0) (by simp) w' (a := ad)
        simp only [execOp, ho, hv', e1, Option.map_none, Sem.run_bind, this, Result.andThen_ok, Sem.run_pure]
        simp
       ·exact ⟨ad, 0, by simp, Nat.zero_le _, by simp, by simp, fun _ => rfl⟩
      ·have h3 : hh ≤ (c : Int) := by omega
       refine ⟨?_, _, fun w' _ => ?_, hK, ?_⟩
       ·exact .slice (if c = l.toNat then some ⟨b, 0, none⟩ else (some (⟨b, 0, none⟩ : Addr)).map (·.add (l.toNat * ei.size))) (hh.toNat - l.toNat) (c - l.toNat)
       ·simp only [execOp, ho, hv', e1, Option.map_none, Sem.run_bind, Qcn hu hei hlo hhi h0 h1 h3, Result.andThen_ok, Sem.run_pure]
       ·have e5 : hh.toNat - l.toNat = (hh - l).toNat := by omega
        rw [e5]
        refine ⟨(if c = l.toNat then some ⟨b, 0, none⟩ else (some (⟨b, 0, none⟩ : Addr)).map (·.add (l.toNat * ei.size))), c - l.toNat, by omega, by omega, rfl, fun hne => ?_, fun hn => ?_⟩
        ·have : ¬ c = l.toNat := by omega
         rw [if_neg this]
         simp [Qea, e1, blk, Qdx]
        ·by_cases hcl : c = l.toNat
         ·rw [if_pos hcl] at hn; simp at hn
         ·rw [if_neg hcl] at hn; simp at hn
     ·exact h.elim
    ·exact h.elim
   ·rename_i ei id path off n lo0 len hei he
    rw [he] at hx
    obtain ⟨ad, cap, hcap, hmx, e0, ha, hnn⟩ := hx
    have hx' : a.eval x = .slice ad len cap := by simpa using e0
    split at h
    ·obtain ⟨hn, h⟩ := h
     subst hn
     split at h
     ·rename_i hh hb
      have hhi := Qd8 hs hb
      obtain ⟨h0, h1, h2, hK⟩ := h
      have h3 : hh ≤ (cap : Int) := by omega
      refine ⟨?_, _, fun w' _ => ?_, hK, ?_⟩
      ·exact .slice (if cap = l.toNat then ad else ad.map (·.add (l.toNat * ei.size))) (hh.toNat - l.toNat) (cap - l.toNat)
      ·simp only [execOp, ho, hx', Option.map_none, Sem.run_bind, Qcn hu hei hlo hhi h0 h1 h3, Result.andThen_ok, Sem.run_pure]
      ·have e5 : hh.toNat - l.toNat = (hh - l).toNat := by omega
       rw [e5]
       refine ⟨(if cap = l.toNat then ad else ad.map (·.add (l.toNat * ei.size))), cap - l.toNat, by omega, by omega, rfl, fun hne => ?_, fun hn => ?_⟩
       ·have h4 : ¬ cap = l.toNat := by omega
        rw [if_neg h4, ha (by omega)]
        simp only [Option.map_some, Qea]
        rw [Nat.add_mul, Nat.add_assoc]
       ·by_cases hcl : cap = l.toNat
        ·omega
        ·rw [if_neg hcl] at hn
         have := hnn (by simpa using hn)
         omega
     ·exact h.elim
    ·exact h.elim
   ·rename_i ei hei he
    rw [he] at hx
    have hx' : a.eval x = .slice none 0 0 := by simpa [SV.rel, LV.relV, LV.rel] using hx
    split at h
    ·rename_i hh hb
     have hhi := Qd8 hs hb
     obtain ⟨rfl, rfl, hK⟩ := h
     refine ⟨.slice none 0 0, _, fun w' _ => ?_, hK, rfl⟩
     have := Qcn hu hei hlo (len := 0) (by simpa using hhi) (Int.le_refl _) (Int.le_refl _) (cap := 0) (by simp) w' (a := none)
     simp only [execOp, ho, hx', Option.map_none, Sem.run_bind, this, Result.andThen_ok, Sem.run_pure]
     simp
    ·exact h.elim
   ·exact h.elim
  ·exact h.elim
end
end Go.Proofs.Ytnmjcdlgfimnaaa
