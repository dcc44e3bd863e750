/- Operations that turn memory: rows of zeros, appending, bytes of a text, copying into an array. -/
import Derived.Test.YtnmjcdlgfimnaaaFkd
namespace Go.Proofs.Ytnmjcdlgfimnaaa

section
variable {C : Ctx} {s : SymSt} {K : KT} {o : Oper}

/-- A row of zeros. -/
def vMakeSlice (C : Ctx) (d : Nat) (s : SymSt) (t : TypeId) (l c : Operand) (K : KT) : Prop := match tdOf C t, ev s l, ev s c with
  | .slice e, .l (.int _ n), .l (.int _ m) => (match C.ty e with
    | some ei => (match ei.rep with
      | some r => ei.size ≠ 0 ∧ r.A.size = ei.size ∧ 0 ≤ n ∧ n ≤ m ∧ m ≤ 9223372036854775807 ∧ ei.bytes * m ≤ 281474976710656 ∧ s.room d ∧ K (.one (.l (.own d))) (s.add d (.arr r.A (List.replicate n.toNat r.A.zero)))
      | none => False)
    | none => False)
  | _, _, _ => False
theorem makeSlice_sound {t : TypeId} {l c : Operand} (ho : o.op = .makeSlice t l c) (h : vMakeSlice C (dstOf o) s t l c K) : Sound C.P o s K := by
  intro R G γ a w hs
  unfold vMakeSlice at h
  have hl := ev_rel hs.sl l
  have hc := ev_rel hs.sl c
  split at h
  · rename_i e k n k' m htd hel hec
    have hu : C.P.underlying t = some (.slice e) := by have := tdOf_fits (C := C) (t := t) (by rw [htd]; simp); rw [htd] at this; exact this
    rw [hel] at hl
    rw [hec] at hc
    have hl' : a.eval l = .int k n := (by simpa [SV.rel, LV.relV, LV.rel] using hl : a.eval l = .int k n ∧ inK k n).1
    have hc' : a.eval c = .int k' m := (by simpa [SV.rel, LV.relV, LV.rel] using hc : a.eval c = .int k' m ∧ inK k' m).1
    split at h
    · rename_i ei hei
      split at h
      · rename_i r hr
        obtain ⟨hsz, hA, h0, h1, h2, h3, hroom, hK⟩ := h
        have hok := C.ok e ei hei
        obtain ⟨x, z, hx, hxs, hxb, hz, _⟩ := hok.inf
        have henc := hok.rep r hr G z x hx hz
        have hzs : z.cells.size = ei.size := by have := r.A.enc_length henc; rw [hA] at this; simpa using this
        have hrun := run_make (P := C.P) w t e x z hu hx hz k k' n m h0 h1 (by rw [hxb]; exact h3) h2
        have hcells : madeCells z.cells (m.toNat * x.size) = ((List.replicate n.toNat z.cells.toList).flatten ++ (List.replicate (m.toNat - n.toNat) z.cells.toList).flatten).toArray := by
          apply Array.ext'
          rw [hxs, ← hzs]
          show ((Array.range (m.toNat * z.cells.size)).map (z.cells[· % z.cells.size]!)).toList = _
          rw [made_cells, ← List.flatten_append, List.replicate_append_replicate]
          have : n.toNat + (m.toNat - n.toNat) = m.toNat := by omega
          rw [this]
        refine opSem_value (v := .slice (some ⟨w.heap.size, 0, none⟩) n.toNat m.toNat) (w' := wpush w (.cells (madeCells z.cells (m.toNat * x.size)) e)) ?_ ?_
        · simp only [execOp, ho, hl', hc', Sem.run_bind, hrun, Result.andThen_ok, Sem.run_pure]
          rfl
        · have hlen : (List.replicate n.toNat r.A.zero).length = n.toNat := by simp
          have hb : (Box.arr r.A (List.replicate n.toNat r.A.zero)).at G γ (.slice (some ⟨w.heap.size, 0, none⟩) n.toNat m.toNat) (sng w.heap.size (.cells (madeCells z.cells (m.toNat * x.size)) e (0, 0))) :=
            .inl ⟨w.heap.size, e, _, _, m.toNat, by rw [hlen], by rw [hcells], EncL.replicate henc n.toNat, by rw [hlen]; omega, by unfold mxL; omega, by rw [hlen, hA]; simp [hzs]⟩
          refine ⟨G, _, _, _, Hp.le_refl G, hK, ?_, hs.push (dstOf o) hroom hb⟩
          simp [TV.rel, SV.rel, LV.relV, LV.rel, updG_same, Rep.plainCell]
      · exact h.elim
    · exact h.elim
  · exact h.elim

/-! Appending. -/
theorem run_firstCells {P : Program} {w : World} {ad : Option Addr} {n size cap : Nat} {es : List Value} (hl : es.length = n * size) (hc : ∀ (j : Nat) (u : Value), es[j]? = some u → ∃ a, ad = some a ∧ w.cell? (a.add j) = some u) :
    (Builtin.firstCells size n (.slice ad n cap)).run P w = .ok es.toArray w := by
  cases ad with
  | none =>
    have : es = [] := by
      cases es with
      | nil => rfl
      | cons u es => obtain ⟨a, e, _⟩ := hc 0 u rfl; simp at e
    subst this
    simp [Builtin.firstCells]
  | some a =>
    exact run_firstCells_some w size n a n cap es hl fun j u hj => by
      obtain ⟨a', e, h⟩ := hc j u hj
      cases e; exact h

/-- What is appended: so many, these cells. -/
structure AppSrc (P : Program) (size : Nat) (xt : TypeId) (x : Value) (n : Nat) (news : List Value) (w : World) : Prop where
  ty : (∃ e, P.underlying xt = some (.slice e)) ∨ P.underlying xt = some .string
  len : ∀ w', (Builtin.lenOf x).run P w' = .ok n w'
  first : (Builtin.firstCells size n x).run P w = .ok news.toArray w
  drew : (Builtin.firstCells size n x).run P w.drew = .ok news.toArray w.drew
  size : news.length = n * size
  plain : ∀ v ∈ news, Rep.plainCell v = true

theorem run_append_here {P : Program} {w : World} {t xt ty e : TypeId} {size : Nat} (hu : P.underlying t = some (.slice e)) (hsz : ∀ w, (sizeOf e).run P w = .ok size w) {x : Value} {n : Nat} {news : List Value} (hs : AppSrc P size xt x n news w)
    {b len cap : Nat} {es old q : List Value} {bt : TypeId} (hb : w.heap[b]? = some (.cells (es ++ (old ++ q)).toArray bt (0, 0))) (he : es.length = len * size) (hold : old.length = news.length) (hroom : len + n ≤ cap) (hne : news ≠ []) :
    (Builtin.append_ #[t, xt] ty #[.slice (some ⟨b, 0, none⟩) len cap, x]).run P w = .ok (.slice (some ⟨b, 0, none⟩) (len + n) cap) (wset w b (.cells (es ++ (news ++ q)).toArray bt (0, 0))) := by
  have hst := run_storeCells (P := P) (off := len * size) news old es q 0 w hb (by omega) hold.symm hs.plain hne
  have hadd : (⟨b, 0, none⟩ : Addr).add (len * size) = ⟨b, len * size, none⟩ := by rw [add_off]; simp
  rcases hs.ty with ⟨ex, hd⟩ | hd
  all_goals
    unfold Builtin.append_
    simp only [List.getElem?_toArray, List.getElem?_cons_zero, List.getElem?_cons_succ]
    simp only [Sem.run_bind, run_under hu, Result.andThen_ok, hsz, run_under hd, Bool.false_eq_true, if_false, hs.len, if_pos hroom, Bool.not_false, if_true, hs.first, hadd, hst, Sem.run_pure]

theorem run_append_none {P : Program} {w : World} {t xt ty e : TypeId} {size : Nat} (hu : P.underlying t = some (.slice e)) (hsz : ∀ w, (sizeOf e).run P w = .ok size w) {x : Value} {n : Nat} (hs : AppSrc P size xt x n [] w)
    {ad : Option Addr} {len cap : Nat} (hroom : len + n ≤ cap) :
    (Builtin.append_ #[t, xt] ty #[.slice ad len cap, x]).run P w = .ok (.slice ad (len + n) cap) w := by
  have hf := hs.first
  rcases hs.ty with ⟨ex, hd⟩ | hd
  all_goals
    unfold Builtin.append_
    simp only [List.getElem?_toArray, List.getElem?_cons_zero, List.getElem?_cons_succ]
    cases ad with
    | none => simp only [Sem.run_bind, run_under hu, Result.andThen_ok, hsz, run_under hd, Bool.false_eq_true, if_false, hs.len, if_pos hroom, Bool.not_false, if_true, hf, Sem.run_pure]
    | some a => simp only [Sem.run_bind, run_under hu, Result.andThen_ok, hsz, run_under hd, Bool.false_eq_true, if_false, hs.len, if_pos hroom, Bool.not_false, if_true, hf, storeCells, Sem.run_pure]

theorem run_append_there {P : Program} {w : World} {t xt ty e : TypeId} {size bytes : Nat} (hu : P.underlying t = some (.slice e)) (hsz : ∀ w, (sizeOf e).run P w = .ok size w) {i : TypeInfo} {z : Value} (hi : P.info? e = some i) (hib : i.bytes = bytes) (hiz : i.zero = some z) {x : Value} {n : Nat} {news : List Value} (hs : AppSrc P size xt x n news w)
    {ad : Option Addr} {len cap : Nat} {olds : List Value} (holds : (Builtin.firstCells size len (.slice ad len cap)).run P w.drew = .ok olds.toArray w.drew) (hroom : cap < len + n) (h63 : len + n ≤ 9223372036854775807) (hfit : (len + n) * bytes ≤ 140737488355328) :
    (Builtin.append_ #[t, xt] ty #[.slice ad len cap, x]).run P w = .ok (.slice (some ⟨w.heap.size, 0, none⟩) (len + n) (grownCap w (len + n) cap e))
      (wpush w.drew (.cells (olds ++ (news ++ (Builtin.zeroCells z.cells (grownCap w (len + n) cap e - (len + n))).toList)).toArray e)) := by
  have hno : ¬ len + n ≤ cap := by omega
  have h48 : ¬ Builtin.nextslicecap (len + n) cap * i.bytes > 2 ^ 48 := by
    have := growslice_fits hroom (hib ▸ hfit)
    omega
  have h63' : ¬ (((len + n : Nat) : Int) > IntKind.i64.max ∧ (false = true ∨ i.bytes = 0)) := by
    have : IntKind.i64.max = 9223372036854775807 := by decide
    omega
  have hinfo : ∀ w, (typeInfo e).run P w = .ok i w := fun w => by simp [typeInfo, hi]
  have hzv : ∀ w, (zeroValue e).run P w = .ok z w := fun w => by simp [zeroValue, typeInfo, hi, hiz]
  have hch : (choose (.appendCap (len + n) cap e)).run P w = .ok (grownCap w (len + n) cap e) w.drew := by
    rw [run_choose]
    simp only [Question.forced, Bool.false_eq_true, if_false, grownCap]
    rfl
  rcases hs.ty with ⟨ex, hd⟩ | hd
  all_goals
    unfold Builtin.append_
    simp only [List.getElem?_toArray, List.getElem?_cons_zero, List.getElem?_cons_succ]
    simp only [Sem.run_bind, run_under hu, Result.andThen_ok, hsz, run_under hd, Bool.false_eq_true, if_false, hs.len, if_neg hno, Bool.not_false, if_true, hinfo]
    have e1 : (((len + n : Nat) : Int) > IntKind.i64.max ∧ ((false || decide (i.bytes = 0)) = true)) = False := by
      have : IntKind.i64.max = 9223372036854775807 := by decide
      simp only [eq_iff_iff, iff_false]
      rintro ⟨h, _⟩; omega
    simp only [Bool.false_or] at e1
    have e2 : (((len + n : Nat) : Int) > IntKind.i64.max) = False := by
      have : IntKind.i64.max = 9223372036854775807 := by decide
      simp only [eq_iff_iff, iff_false]
      omega
    simp only [e2, hs.len, if_neg hno, hinfo, Bool.not_false, if_true, decide_false, Bool.false_and, Bool.false_eq_true, false_and, if_false, if_neg h48, decide_eq_true_eq, hch, Result.andThen_ok, Sem.run_bind, run_askRoom, holds, hs.drew, hzv, newRow, run_newObj, Sem.run_pure]
    congr 2
    apply Array.ext'
    simp


end
end Go.Proofs.Ytnmjcdlgfimnaaa
