/- Operations that turn nothing: literals, lengths, elements, least and greatest, equal arrays. -/
import Derived.Test.YtnmjcdlgfimnaaaFk
namespace Go.Proofs.Ytnmjcdlgfimnaaa

section
variable {C : Ctx} {s : SymSt} {K : KT} {o : Oper}

theorem fold_set {off : Nat} : ∀ (new old p q : List Value) (k : Nat), new.length = old.length → p.length = off + k →
    (new.zipIdx k).foldl (fun (cs : Array Value) (c : Value × Nat) => cs.setIfInBounds (off + c.2) c.1) (p ++ (old ++ q)).toArray = (p ++ (new ++ q)).toArray
  | [], [], p, q, k, _, _ => by simp
  | [], _ :: _, _, _, _, hl, _ => by simp at hl
  | _ :: _, [], _, _, _, hl, _ => by simp at hl
  | c :: new, x :: old, p, q, k, hl, hp => by
    have ih := fold_set (off := off) new old (p ++ [c]) q (k + 1) (by simpa using hl) (by simp; omega)
    simp only [List.zipIdx_cons, List.foldl_cons]
    have : (p ++ (x :: old ++ q)).toArray.setIfInBounds (off + k) c = ((p ++ [c]) ++ (old ++ q)).toArray := by
      apply Array.ext'
      simp [← hp]
    rw [this, ih]
    simp

/-- Where a part of a literal lies. -/
def placeOf (C : Ctx) (d : TD) (i : Nat) : Option (Nat × Nat) := match d with
  | .struct fs => (match fs[i]? with
    | some f => (match C.ty f.2 with
      | some fi => some (f.1, fi.size)
      | none => none)
    | none => none)
  | .arr _ e => (match C.ty e with
    | some ei => some (i * ei.size, ei.size)
    | none => none)
  | _ => none
def vFill (C : Ctx) (s : SymSt) (d : TD) : List (Nat × Operand) → List LV → (List LV → Prop) → Prop
  | [], l, f => f l
  | p :: r, l, f => match placeOf C d p.1 with
    | some q => svOk (ev s p.2) ∧ sizeL (ev s p.2).leaves = q.2 ∧ wrS q.2 (ev s p.2) 9 l q.1 fun l' => vFill C s d r l' f
    | none => False
def allKnown (C : Ctx) : List (Nat × TypeId) → Bool
  | [] => true
  | f :: r => (C.ty f.2).isSome && allKnown C r
def svOf (l : List LV) : SV := match l with
  | [x] => bif x.isAgg then .l x else .agg [x]
  | l => .agg l
def vBuild (C : Ctx) (s : SymSt) (t : TypeId) (parts : List (Nat × Operand)) (K : KT) : Prop := match C.ty t with
  | some i => (match i.desc with
    | .struct fs => allKnown C fs = true ∧ vFill C s (.struct fs) parts i.zero fun l => K (.one (svOf l)) s
    | .arr n e => (C.ty e).isSome = true ∧ vFill C s (.arr n e) parts i.zero fun l => K (.one (svOf l)) s
    | _ => False)
  | none => False

theorem fill_spec {G : Hp} {γ : Nat → Value} {a : Act} (hs : SlotsOk G γ s.sl a.tmps) {d : TD} {place : Nat → Option (Nat × Nat)} (hp : ∀ i q, placeOf C d i = some q → place i = some q) :
    ∀ {parts : List (Nat × Operand)} {l : List LV} {f : List LV → Prop} {cs : List Value}, vFill C s d parts l f → RelL G γ l cs →
    ∃ l' cs', f l' ∧ RelL G γ l' cs' ∧ Instr.fill place cs.toArray (parts.map fun p => (p.1, a.eval p.2)) = some cs'.toArray
  | [], l, f, cs, h, hr => ⟨l, cs, h, hr, rfl⟩
  | p :: r, l, f, cs, h, hr => by
    unfold vFill at h
    split at h
    · rename_i q hq
      obtain ⟨hok, hsz, h⟩ := h
      have hv := rel_leaves' hok (ev_rel hs p.2)
      obtain ⟨l', p1, old, q1, hf, rfl, hp1, hold, hr'⟩ := wrS_spec hv hsz h hr
      obtain ⟨l2, cs2, hf2, hr2, hrun⟩ := fill_spec hs hp hf hr'
      refine ⟨l2, cs2, hf2, hr2, ?_⟩
      simp only [List.map_cons, Instr.fill, hp _ _ hq]
      have hlen : (a.eval p.2).cells.toList.length = q.2 := by rw [RelL.length hv, hsz]
      have hsize : (a.eval p.2).cells.size = q.2 := by simpa using hlen
      have hcs : (p1 ++ (old ++ q1)).toArray.size = q.1 + q.2 + q1.length := by simp only [List.size_toArray, List.length_append]; omega
      have hno : (decide ((a.eval p.2).cells.size ≠ q.2) || decide (q.1 + (a.eval p.2).cells.size > (p1 ++ (old ++ q1)).toArray.size)) = false := by
        rw [hcs, hsize]
        simp
      rw [hno]
      simp only [Bool.false_eq_true, if_false]
      have hfold := fold_set (off := q.1) (a.eval p.2).cells.toList old p1 q1 0 (by omega) (by omega)
      have e : (a.eval p.2).cells.zipIdx.foldl (fun (cs : Array Value) (c : Value × Nat) => cs.setIfInBounds (q.1 + c.2) c.1) (p1 ++ (old ++ q1)).toArray = (p1 ++ ((a.eval p.2).cells.toList ++ q1)).toArray := by
        rw [← Array.foldl_toList, Array.toList_zipIdx]
        exact hfold
      rw [e]
      exact hrun
    · exact h.elim

theorem svOf_rel {G : Hp} {γ : Nat → Value} {l : List LV} {cs : List Value} (h : RelL G γ l cs) : (svOf l).rel G γ (.agg cs.toArray) := by
  unfold svOf
  split
  · rename_i x
    cases ha : x.isAgg
    · exact ⟨cs, h, rfl⟩
    · cases x <;> simp only [LV.isAgg] at ha
      case dat R y => exact ⟨cs, RelL.one_inv h, by simp [Rep.mk, ha]⟩
      all_goals simp at ha
  · exact ⟨cs, h, rfl⟩

def sizeT (C : Ctx) (t : TypeId) : Nat := match C.ty t with
  | some i => i.size
  | none => 0
theorem run_places (w : World) : ∀ fs : List Field, allKnown C (fs.map fun f => (f.offset, f.type)) = true →
    (fs.mapM fun f => (do pure (f.offset, ← sizeOf f.type) : Sem (Nat × Nat))).run C.P w = .ok (fs.map fun f => (f.offset, sizeT C f.type)) w
  | [], _ => rfl
  | f :: r, h => by
    simp only [List.map_cons, allKnown, Bool.and_eq_true] at h
    obtain ⟨i, hi⟩ := Option.isSome_iff_exists.1 h.1
    have h1 := run_size (w := w) (C.ok _ _ hi)
    simp only [List.mapM_cons, Sem.run_bind, h1, Result.andThen_ok, Sem.run_pure, run_places w r h.2, List.map_cons, sizeT, hi]

theorem build_q {t : TypeId} {parts : Array (Nat × Operand)} (ho : o.op = .build t parts) (h : vBuild C s t parts.toList K) : QSound C.P o s K := by
  intro R G γ fr a w hs hm
  unfold vBuild at h
  split at h
  · rename_i i hi
    have hok := C.ok t i hi
    obtain ⟨x, z, hx, _, _, hz, hr⟩ := hok.inf
    have hzr : ∀ w, (zeroValue t).run C.P w = .ok z w := fun w => by simp [zeroValue, run_info hx, hz]
    have hd := hok.desc
    have hmap : (parts.map fun (p : Nat × Operand) => (p.1, a.eval p.2)).toList = parts.toList.map fun p => (p.1, a.eval p.2) := by simp
    split at h
    · rename_i fs hfs
      rw [hfs] at hd
      obtain ⟨arr, hu, rfl⟩ := hd
      obtain ⟨hk, h⟩ := h
      have hp : ∀ j q, placeOf C (.struct (arr.toList.map fun f => (f.offset, f.type))) j = some q → ((arr.map fun f => (f.offset, sizeT C f.type))[j]? : Option (Nat × Nat)) = some q := by
        intro j q hq
        simp only [placeOf] at hq
        split at hq
        · rename_i f hf
          split at hq
          · rename_i fi hfi
            rw [List.getElem?_map] at hf
            cases hg : arr.toList[j]? with
            | none => rw [hg] at hf; simp at hf
            | some y =>
              rw [hg] at hf
              simp only [Option.map_some, Option.some.injEq] at hf hq
              subst hf
              have hg' : arr[j]? = some y := by simpa using hg
              simp only [Array.getElem?_map, hg', Option.map_some, sizeT, hfi, hq]
          · simp at hq
        · simp at hq
      obtain ⟨l', cs', hK, hr', hfill⟩ := fill_spec hs hp h (hr G γ)
      refine ⟨.agg cs'.toArray, _, fun w' _ => ?_, hK, svOf_rel hr'⟩
      have hpl : (arr.mapM fun f => (do pure (f.offset, ← sizeOf f.type) : Sem (Nat × Nat))).run C.P w' = .ok (arr.map fun f => (f.offset, sizeT C f.type)) w' := by
        have e2 : (arr.mapM fun f => (do pure (f.offset, ← sizeOf f.type) : Sem (Nat × Nat))) = List.toArray <$> arr.toList.mapM fun f => (do pure (f.offset, ← sizeOf f.type) : Sem (Nat × Nat)) := by rw [← List.mapM_toArray]
        rw [e2]
        simp only [Sem.run_map, run_places w' arr.toList hk, Result.andThen_ok]
        congr 1
        apply Array.ext'
        simp
      have hfill' : Instr.fill (fun j => (arr.map fun f => (f.offset, sizeT C f.type))[j]?) z.cells (parts.toList.map fun p => (p.1, a.eval p.2)) = some cs'.toArray := hfill
      simp only [execOp, ho, Instr.build, Sem.run_bind, hzr, Result.andThen_ok, run_under hu, hpl, hmap, hfill', Sem.run_pure]
    · rename_i n e hfs
      rw [hfs] at hd
      have hu : C.P.underlying t = some (.array n e) := hd
      obtain ⟨hk, h⟩ := h
      obtain ⟨ei, hei⟩ := Option.isSome_iff_exists.1 hk
      have hp : ∀ j q, placeOf C (.arr n e) j = some q → (fun i => some (i * ei.size, ei.size) : Nat → Option (Nat × Nat)) j = some q := by
        intro j q hq
        simp only [placeOf, hei] at hq
        exact hq
      obtain ⟨l', cs', hK, hr', hfill⟩ := fill_spec hs hp h (hr G γ)
      refine ⟨.agg cs'.toArray, _, fun w' _ => ?_, hK, svOf_rel hr'⟩
      have hfill' : Instr.fill (fun i => some (i * ei.size, ei.size)) z.cells (parts.toList.map fun p => (p.1, a.eval p.2)) = some cs'.toArray := by simpa using hfill
      simp only [execOp, ho, Instr.build, Sem.run_bind, hzr, Result.andThen_ok, run_under hu, run_size (C.ok _ _ hei), hmap, hfill', Sem.run_pure]
    · exact h.elim
  · exact h.elim

/-- How long. -/
def lenLV (s : SymSt) : LV → Option Nat
  | .nils => some 0
  | .emps => some 0
  | .dat R x => (R.slOf x).map (·.1)
  | .own id => (match getM s.mem id with
    | some (.arr _ l) => some l.length
    | some (.sarr n _) => some n
    | _ => none)
  | .view _ _ _ _ _ n => some n
  | _ => none
def vLen (C : Ctx) (s : SymSt) (t : TypeId) (x : Operand) (K : KT) : Prop := match tdOf C t with
  | .str => (match ev s x with
    | .l (.str b) => K (.one (.l (.int .i64 b.length))) s
    | _ => False)
  | .arr n _ => n ≤ 9223372036854775807 ∧ K (.one (.l (.int .i64 n))) s
  | .slice _ => (match ev s x with
    | .l y => (match lenLV s y with
      | some n => K (.one (.l (.int .i64 n))) s
      | none => False)
    | _ => False)
  | _ => False

theorem Rep.slOf_agg : {α : Type} → (R : Rep α) → {x : α} → {r : Nat × Nat} → R.slOf x = some r → R.agg = false
  | _, .slice _, _, _, _ => rfl
  | _, .int _, _, _, h => by simp [slOf] at h
  | _, .bool, _, _, h => by simp [slOf] at h
  | _, .str, _, _, h => by simp [slOf] at h
  | _, .unit, _, _, h => by simp [slOf] at h
  | _, .pair _ _, _, _, h => by simp [slOf] at h
  | _, .arr _ _, _, _, h => by simp [slOf] at h
  | _, .iso _ _ _ _ _, _, _, h => by simp [slOf] at h

theorem inK_nat {n : Nat} (h : n ≤ mxL) : inK .i64 (n : Int) := by
  unfold mxL at h
  unfold inK IntKind.min IntKind.max
  simp only [IntKind.signed, IntKind.bits, if_true]
  omega
theorem inK_byte (c : UInt8) : inK .u8 (c.toNat : Int) := by
  have := c.toNat_lt
  unfold inK IntKind.min IntKind.max
  simp only [IntKind.signed, IntKind.bits, Bool.false_eq_true, if_false]
  omega
theorem lenLV_spec {R : Fr} {G : Hp} {γ : Nat → Value} {fr : Nat → Hp} {w : World} (hm : MemF R G γ fr s.mem w) {y : LV} {n : Nat} (h : lenLV s y = some n) {v : Value} (hv : y.relV G γ v) : ∃ a c, v = .slice a n c ∧ n ≤ mxL := by
  cases y <;> simp only [lenLV, Option.some.injEq, Option.map_eq_some_iff] at h
  case nils => subst h; simp only [LV.relV, LV.rel] at hv; exact ⟨none, 0, by simpa using hv, Nat.zero_le _⟩
  case emps => subst h; obtain ⟨a, e⟩ := hv; exact ⟨a, 0, by simpa using e, Nat.zero_le _⟩
  case dat R x =>
    obtain ⟨r, hr, rfl⟩ := h
    obtain ⟨cs, hc, e⟩ := hv
    obtain ⟨a, cap, rfl, h1, h2, _⟩ := R.slOf_spec (n := r.1) (sz := r.2) hr γ hc
    exact ⟨a, cap, by rw [e]; simp [Rep.mk, R.slOf_agg hr], Nat.le_trans h1 h2⟩
  case own id =>
    have hv' : v = γ id := by have h1 := hv; simp only [LV.relV, LV.rel, List.cons.injEq, and_true] at h1; exact h1.1
    split at h
    · rename_i α A l hm'
      simp only [Option.some.injEq] at h
      subst h
      rcases hm.arr hm' with ⟨rfl, a, e⟩ | ⟨b, t, es, sp, c, e, _, _, h1, h2, _⟩
      · exact ⟨a, 0, by rw [hv', e]; rfl, Nat.zero_le _⟩
      · exact ⟨_, c, by rw [hv', e], Nat.le_trans h1 h2⟩
    · rename_i k l hm'
      simp only [Option.some.injEq] at h
      subst h
      obtain ⟨b, t, es, sp, c, e, _, _, h1, h2⟩ := hm.at' _ (getM_mem hm')
      exact ⟨_, c, by rw [hv']; exact e, Nat.le_trans h1 h2⟩
    · simp at h
  case view id path off m lo len =>
    subst h
    obtain ⟨a, c, h1, h2, e, _⟩ := hv
    exact ⟨a, c, by simpa using e, Nat.le_trans h1 h2⟩
  all_goals simp at h

theorem len_q {c : Call} {x : Operand} {t : TypeId} (ho : o.op = .call c) (hc : c.callee = .builtin .len) (ha : c.args.toList = [x]) (ht : c.argTypes.toList = [t]) (h : vLen C s t x K) : QSound C.P o s K := by
  intro R G γ fr a w hs hm
  have ha' : c.args = #[x] := by apply Array.ext'; simpa using ha
  have ht' : c.argTypes = #[t] := by apply Array.ext'; simpa using ht
  have hx := ev_rel hs x
  have key : ∀ (n : Int) (d : TypeDesc), C.P.underlying t = some d → (∀ w', (Builtin.len_ #[t] o.type #[a.eval x]).run C.P w' = .ok (goInt n) w') → ∀ w', (execOp a.eval o).run C.P w' = .ok (.value (.int .i64 n)) w' := by
    intro n d _ hrun w'
    simp [execOp, ho, resolve, hc, ha', ht', invoke, builtin, hrun, goInt]
  unfold vLen at h
  split at h
  · rename_i htd
    have hu : C.P.underlying t = some .string := by have := tdOf_fits (C := C) (t := t) (by rw [htd]; simp); rw [htd] at this; exact this
    split at h
    · rename_i b he
      rw [he] at hx
      have hx' : a.eval x = .string ⟨b.toArray⟩ := (by simpa [SV.rel, LV.relV, LV.rel] using hx : a.eval x = .string ⟨b.toArray⟩ ∧ b.length ≤ mxL).1
      refine ⟨.int .i64 b.length, _, fun w' _ => key _ _ hu (fun w' => ?_) w', h, rfl, inK_nat (by simpa [SV.rel, LV.relV, LV.rel] using hx : a.eval x = .string ⟨b.toArray⟩ ∧ b.length ≤ mxL).2⟩
      have e : (⟨b.toArray⟩ : ByteArray).size = b.length := by simp [ByteArray.size]
      simp only [Builtin.len_, hx', List.getElem?_toArray, List.getElem?_cons_zero, Sem.run_bind, run_under hu, Result.andThen_ok, e, Sem.run_pure]
    · exact h.elim
  · rename_i n e htd
    have hu : C.P.underlying t = some (.array n e) := by have := tdOf_fits (C := C) (t := t) (by rw [htd]; simp); rw [htd] at this; exact this
    refine ⟨.int .i64 n, _, fun w' _ => key _ _ hu (fun w' => ?_) w', h.2, rfl, inK_nat h.1⟩
    simp [Builtin.len_, run_under hu]
  · rename_i e htd
    have hu : C.P.underlying t = some (.slice e) := by have := tdOf_fits (C := C) (t := t) (by rw [htd]; simp); rw [htd] at this; exact this
    split at h
    · rename_i y he
      rw [he] at hx
      split at h
      · rename_i n hn
        obtain ⟨ad, cp, e', hmx⟩ := lenLV_spec hm hn hx
        refine ⟨.int .i64 n, _, fun w' _ => key _ _ hu (fun w' => ?_) w', h, rfl, inK_nat hmx⟩
        simp [Builtin.len_, run_under hu, e']
      · exact h.elim
    · exact h.elim
  · exact h.elim

/-- The element at a place, of a text or of an array. -/
def vIndex (C : Ctx) (s : SymSt) (t : TypeId) (x ix : Operand) (K : KT) : Prop := match ev s ix with
  | .l (.int _ m) => (match ev s x with
    | .l (.str b) => tdOf C t = .str ∧ 0 ≤ m ∧ m < b.length ∧ K (.one (.l (.int .u8 ((b.getD m.toNat 0).toNat)))) s
    | .l (.dat R y) => (match tdOf C t with
      | .arr n e => (match C.ty e with
        | some ei => R.agg = true ∧ R.arrOf = some (n, ei.size) ∧ 0 ≤ m ∧ m < n ∧ (match rdS ei.size ei.desc.agg 9 [R.elemLV y m.toNat] 0 with
          | some v => K (.one v) s
          | none => False)
        | none => False)
      | _ => False)
    | _ => False)
  | _ => False
theorem index_q {t : TypeId} {x ix : Operand} (ho : o.op = .index t x ix) (h : vIndex C s t x ix K) : QSound C.P o s K := by
  intro R G γ fr a w hs hm
  unfold vIndex at h
  have hx := ev_rel hs x
  have hix := ev_rel hs ix
  split at h
  · rename_i k m hm'
    rw [hm'] at hix
    have hix' : a.eval ix = .int k m := (by simpa [SV.rel, LV.relV, LV.rel] using hix : a.eval ix = .int k m ∧ inK k m).1
    split at h
    · rename_i b he
      rw [he] at hx
      have hx' : a.eval x = .string ⟨b.toArray⟩ := (by simpa [SV.rel, LV.relV, LV.rel] using hx : a.eval x = .string ⟨b.toArray⟩ ∧ b.length ≤ mxL).1
      obtain ⟨htd, h0, h1, h⟩ := h
      have hu : C.P.underlying t = some .string := by have := tdOf_fits (C := C) (t := t) (by rw [htd]; simp); rw [htd] at this; exact this
      refine ⟨.int .u8 ((b.getD m.toNat 0).toNat), _, fun w' _ => ?_, h, rfl, inK_byte _⟩
      have hlt : m.toNat < b.length := by omega
      have e1 : (⟨b.toArray⟩ : ByteArray)[m.toNat]? = some (b.getD m.toNat 0) := by
        rw [ByteArray.getElem?_lt' _ _ (by simpa [ByteArray.size] using hlt)]
        congr 1
        show b.toArray[m.toNat] = _
        simp [List.getD_eq_getElem?_getD, List.getElem?_eq_getElem hlt]
      simp [execOp, ho, Instr.index, hx', hix', asIntOf, run_under hu, h0, e1]
    · rename_i α A y he
      rw [he] at hx
      split at h
      · rename_i n e htd
        have hu : C.P.underlying t = some (.array n e) := by have := tdOf_fits (C := C) (t := t) (by rw [htd]; simp); rw [htd] at this; exact this
        split at h
        · rename_i ei hei
          obtain ⟨hag, harr, h0, h1, h⟩ := h
          split at h
          · rename_i v hv
            obtain ⟨cs, hc, e1⟩ := hx
            have hx' : a.eval x = .agg cs.toArray := by rw [e1]; simp [Rep.mk, hag]
            obtain ⟨p, c, q, rfl, hp, hcl, hl, _⟩ := A.elem_spec harr γ hc (i := m.toNat) (by omega)
            obtain ⟨p2, es, q2, rfl, hp2, hg⟩ := rdS_spec hv (RelL.one hl)
            have hp0 : p2 = [] := List.length_eq_zero_iff.1 hp2
            subst hp0
            obtain ⟨u, hrun, hrel⟩ := run_part (p := p) (q := q2 ++ q) hei hp hg
            refine ⟨u, _, fun w' _ => ?_, h, hrel⟩
            have hrun' : ∀ w, (part e (p ++ ([] ++ (es ++ q2) ++ q)).toArray (m.toNat * ei.size)).run C.P w = .ok u w := by
              intro w
              have := hrun w
              simpa only [List.nil_append, List.append_assoc] using this
            simp only [execOp, ho, Instr.index, hx', hix', asIntOf, Sem.run_bind, Sem.run_pure, Result.andThen_ok, run_under hu, h0, h1, and_self, if_true, run_size (C.ok _ _ hei), hrun']
          · exact h.elim
        · exact h.elim
      · exact h.elim
    · exact h.elim
  · exact h.elim
end
end Go.Proofs.Ytnmjcdlgfimnaaa
