/- More operations that turn nothing: literals, parts of rows, maps asked, lengths; all of them as one. -/
import Derived.Test.YtclgglffbpfmhaaEc
import Derived.MapKept
namespace Go.Proofs.Ytclgglffbpfmhaa
set_option linter.unusedSimpArgs false
set_option linter.unusedVariables false
section
variable {γ : Gm} {sl : Ss} {a : Act} {P : Program} {o : Oper} {hp : Hs} {w : World}

/-! Literals. -/
theorem fold_set {off : Nat} : ∀ (new old p q : List Value) (k : Nat), new.length = old.length → p.length = off + k →
    (new.zipIdx k).foldl (fun (cs : Array Value) (c : Value × Nat) => cs.setIfInBounds (off + c.2) c.1) (p ++ (old ++ q)).toArray = (p ++ (new ++ q)).toArray
  | [], [], p, q, k, _, _ => by simp
  | [], _ :: _, _, _, _, hl, _ => by simp at hl
  | _ :: _, [], _, _, _, hl, _ => by simp at hl
  | c :: new, x :: old, p, q, k, hl, hp => by
    have ih := fold_set (off := off) new old (p ++ [c]) q (k + 1) (by simpa using hl) (by simp; omega)
    simp only [List.zipIdx_cons, List.foldl_cons]
    have : (p ++ (x :: old ++ q)).toArray.setIfInBounds (off + k) c = ((p ++ [c]) ++ (old ++ q)).toArray := by
      apply Array.ext'
      simp [← hp]
    rw [this, ih]
    simp
/-- Cells with some others in their place. -/
def putE (off : Nat) (new : List AV) (cs : List AV) : Option (List AV) := match takeE off cs, takeE new.length (dropE off cs) with
  | some p, some _ => some (p ++ (new ++ dropE (off + new.length) cs))
  | _, _ => none
theorem putE_spec {off : Nat} {new cs out : List AV} (h : putE off new cs = some out) {vs : List Value} (hr : AV.relL γ cs vs) {us : List Value} (hn : AV.relL γ new us) :
    ∃ p old q, vs = p ++ (old ++ q) ∧ p.length = off ∧ old.length = us.length ∧ AV.relL γ out (p ++ (us ++ q)) := by
  unfold putE at h
  split at h
  · rename_i p m hp hm
    simp only [Option.some.injEq] at h
    subst h
    obtain ⟨rfl, h1⟩ := takeE_spec hp
    rw [dropE_eq] at hm
    obtain ⟨rfl, h2⟩ := takeE_spec hm
    rw [List.length_drop] at h2
    obtain ⟨p, old, q, rfl, e1, e2, r1, _, r3⟩ := relL_cut hr off new.length (by omega)
    refine ⟨p, old, q, rfl, e1, by rw [e2, relL_length hn], ?_⟩
    rw [dropE_eq]
    exact relL_append r1 (relL_append hn r3)
  · simp at h
def fillE (sl : Ss) (place : Nat → Option (Nat × Nat)) : List (Nat × Operand) → List AV → Option (List AV)
  | [], cs => some cs
  | p :: r, cs => match place p.1 with
    | some q => bif (evE sl p.2).okCells && Nat.beq (lenL (evE sl p.2).cells 0) q.2 then (match putE q.1 (evE sl p.2).cells cs with
      | some cs' => fillE sl place r cs'
      | none => none) else none
    | none => none
theorem fill_spec (hs : SR γ sl a.tmps) {place place' : Nat → Option (Nat × Nat)} (hpl : ∀ i q, place i = some q → place' i = some q) :
    ∀ {parts : List (Nat × Operand)} {l out : List AV} {cs : List Value}, fillE sl place parts l = some out → AV.relL γ l cs →
    ∃ cs', AV.relL γ out cs' ∧ Instr.fill place' cs.toArray (parts.map fun p => (p.1, a.eval p.2)) = some cs'.toArray
  | [], l, out, cs, h, hr => by
    simp only [fillE, Option.some.injEq] at h
    subst h
    exact ⟨cs, hr, rfl⟩
  | p :: r, l, out, cs, h, hr => by
    unfold fillE at h
    split at h
    · rename_i q hq
      cases hb : ((evE sl p.2).okCells && Nat.beq (lenL (evE sl p.2).cells 0) q.2)
      · rw [hb] at h; simp at h
      · rw [hb, cond_true] at h
        simp only [Bool.and_eq_true] at hb
        have hlen := Nat.eq_of_beq_eq_true hb.2
        rw [lenL_eq, Nat.add_zero] at hlen
        have hv := AV.cells_rel hb.1 (evE_rel hs p.2)
        split at h
        · rename_i cs' hput
          obtain ⟨p1, old, q1, rfl, hp1, hold, hr'⟩ := putE_spec hput hr hv
          obtain ⟨cs2, hr2, hrun⟩ := fill_spec hs hpl h hr'
          refine ⟨cs2, hr2, ?_⟩
          have hl2 : (a.eval p.2).cells.toList.length = q.2 := by rw [relL_length hv, hlen]
          have hsize : (a.eval p.2).cells.size = q.2 := by simpa using hl2
          simp only [List.map_cons, Instr.fill, hpl _ _ hq]
          have hcs : (p1 ++ (old ++ q1)).toArray.size = q.1 + q.2 + q1.length := by simp only [List.size_toArray, List.length_append]; omega
          have hno : (decide ((a.eval p.2).cells.size ≠ q.2) || decide (q.1 + (a.eval p.2).cells.size > (p1 ++ (old ++ q1)).toArray.size)) = false := by
            rw [hcs, hsize]
            simp
          rw [hno]
          simp only [Bool.false_eq_true, if_false]
          have hfold := fold_set (off := q.1) (a.eval p.2).cells.toList old p1 q1 0 (by omega) (by omega)
          have e : (a.eval p.2).cells.zipIdx.foldl (fun (cs : Array Value) (c : Value × Nat) => cs.setIfInBounds (q.1 + c.2) c.1) (p1 ++ (old ++ q1)).toArray = (p1 ++ ((a.eval p.2).cells.toList ++ q1)).toArray := by
            rw [← Array.foldl_toList, Array.toList_zipIdx]
            exact hfold
          rw [e]
          exact hrun
        · simp at h
    · simp at h
def szsE (P : Program) : List Field → Option (List (Nat × Nat))
  | [] => some []
  | f :: r => match szT P f.type, szsE P r with
    | some n, some l => some ((f.offset, n) :: l)
    | _, _ => none
theorem szsE_spec : ∀ {fs : List Field} {l : List (Nat × Nat)}, szsE P fs = some l → ∀ w, (fs.mapM fun f => (do pure (f.offset, ← sizeOf f.type) : Sem (Nat × Nat))).run P w = .ok l w
  | [], l, h, w => by simp only [szsE, Option.some.injEq] at h; subst h; rfl
  | f :: r, l, h, w => by
    unfold szsE at h
    split at h
    · rename_i n l' hn hl
      simp only [Option.some.injEq] at h
      subst h
      simp only [List.mapM_cons, Sem.run_bind, run_size hn, Result.andThen_ok, Sem.run_pure, szsE_spec hl w]
    · simp at h
def nthP : List (Nat × Nat) → Nat → Option (Nat × Nat)
  | [], _ => none
  | x :: _, 0 => some x
  | _ :: r, n + 1 => nthP r n
theorem nthP_eq : ∀ (l : List (Nat × Nat)) (n : Nat), nthP l n = l[n]?
  | [], _ => rfl
  | _ :: _, 0 => rfl
  | _ :: r, n + 1 => by simpa [nthP] using nthP_eq r n
def buildE (P : Program) (sl : Ss) (t : TypeId) (parts : List (Nat × Operand)) : Option AV := match P.underlying t, zeT P t with
  | some (.struct fs), some (.agg z) => (match szsE P fs.toList with
    | some l => (match fillE sl (nthP l) parts z with
      | some cs => some (.agg cs)
      | none => none)
    | none => none)
  | some (.array _ e), some (.agg z) => (match szT P e with
    | some n => (match fillE sl (fun i => some (i * n, n)) parts z with
      | some cs => some (.agg cs)
      | none => none)
    | none => none)
  | _, _ => none
theorem build_q (hs : SR γ sl a.tmps) {t : TypeId} {parts : Array (Nat × Operand)} (ho : o.op = .build t parts) {v : AV} (h : buildE P sl t parts.toList = some v) : QS P o a γ hp w v := by
  unfold buildE at h
  have hmap : (parts.map fun (p : Nat × Operand) => (p.1, a.eval p.2)).toList = parts.toList.map fun p => (p.1, a.eval p.2) := by simp
  split at h
  · rename_i fs z hu hz
    obtain ⟨zv, ⟨zs, rfl, hzr⟩, hrz⟩ := run_zero (γ := γ) hz
    split at h
    · rename_i l hl
      split at h
      · rename_i cs hf
        simp only [Option.some.injEq] at h
        subst h
        obtain ⟨cs', hr', hfill⟩ := fill_spec (place' := fun i => (l.toArray[i]? : Option (Nat × Nat))) hs (fun i q hq => by rw [nthP_eq] at hq; simpa using hq) hf hzr
        refine ⟨.agg cs'.toArray, ⟨cs', rfl, hr'⟩, fun w' _ => ?_⟩
        have hpl : (fs.mapM fun f => (do pure (f.offset, ← sizeOf f.type) : Sem (Nat × Nat))).run P w' = .ok l.toArray w' := by
          have e2 : (fs.mapM fun f => (do pure (f.offset, ← sizeOf f.type) : Sem (Nat × Nat))) = List.toArray <$> fs.toList.mapM fun f => (do pure (f.offset, ← sizeOf f.type) : Sem (Nat × Nat)) := by rw [← List.mapM_toArray]
          rw [e2]
          simp only [Sem.run_map, szsE_spec hl w', Result.andThen_ok]
        have hfill' : Instr.fill (fun j => (l.toArray[j]? : Option (Nat × Nat))) (Value.agg zs.toArray).cells (parts.toList.map fun p => (p.1, a.eval p.2)) = some cs'.toArray := hfill
        simp only [execOp, ho, Instr.build, Sem.run_bind, hrz, Result.andThen_ok, run_under hu, hpl, hmap, hfill', Sem.run_pure]
      · simp at h
    · simp at h
  · rename_i n e z hu hz
    obtain ⟨zv, ⟨zs, rfl, hzr⟩, hrz⟩ := run_zero (γ := γ) hz
    split at h
    · rename_i m hm
      split at h
      · rename_i cs hf
        simp only [Option.some.injEq] at h
        subst h
        obtain ⟨cs', hr', hfill⟩ := fill_spec (place' := fun i => some (i * m, m)) hs (fun i q hq => hq) hf hzr
        refine ⟨.agg cs'.toArray, ⟨cs', rfl, hr'⟩, fun w' _ => ?_⟩
        have hfill' : Instr.fill (fun i => some (i * m, m)) (Value.agg zs.toArray).cells (parts.toList.map fun p => (p.1, a.eval p.2)) = some cs'.toArray := hfill
        simp only [execOp, ho, Instr.build, Sem.run_bind, hrz, Result.andThen_ok, run_under hu, run_size hm, hmap, hfill', Sem.run_pure]
      · simp at h
    · simp at h
  · simp at h

/-! Parts of rows. -/
def OptI (v : Option Value) (d n : Int) : Prop := (v = none ∧ n = d) ∨ ∃ k, v = some (.int k n)
def bndE (sl : Ss) (d : Int) : Option Operand → Option Int
  | none => some d
  | some x => match evE sl x with
    | .i _ n => some n
    | _ => none
theorem bndE_spec (hs : SR γ sl a.tmps) {d n : Int} {x : Option Operand} (h : bndE sl d x = some n) : OptI (x.map a.eval) d n := by
  unfold bndE at h
  split at h
  · simp only [Option.some.injEq] at h; exact .inl ⟨rfl, h.symm⟩
  · rename_i y
    have hy := evE_rel hs y
    split at h
    · rename_i k m he
      rw [he] at hy
      simp only [Option.some.injEq] at h
      subst h
      have hy' : a.eval y = .int k m := hy
      exact .inr ⟨k, by simp [hy']⟩
    · simp at h
theorem run_bounds {b : Bool} {len cap : Nat} {lo hi : Option Value} {l h : Int} (hlo : OptI lo 0 l) (hhi : OptI hi len h) (h0 : 0 ≤ l) (h1 : l ≤ h) (h2 : h ≤ cap) :
    (Instr.sliceBounds b len cap lo hi none).run P w = .ok (l.toNat, h.toNat, cap) w := by
  have hh : ((h.toNat : Nat) : Int) = h := by omega
  have s1 : ∀ k code, (Instr.sliceBound (.int k h) cap code).run P w = .ok h.toNat w := fun k code => by
    have : 0 ≤ h ∧ h ≤ (cap : Int) := ⟨by omega, h2⟩
    simp [Instr.sliceBound, asIntOf, this]
  have s2 : ∀ k code, (Instr.sliceBound (.int k l) h.toNat code).run P w = .ok l.toNat w := fun k code => by
    have : 0 ≤ l ∧ l ≤ (h.toNat : Int) := ⟨by omega, by omega⟩
    simp only [Instr.sliceBound, asIntOf, Sem.run_bind, Sem.run_pure, Result.andThen_ok, if_pos this]
  rcases hlo with ⟨rfl, rfl⟩ | ⟨k, rfl⟩ <;> rcases hhi with ⟨rfl, rfl⟩ | ⟨k', rfl⟩
  · simp [Instr.sliceBounds]
  · cases b <;> simp [Instr.sliceBounds, s1]
  · simp only [Int.toNat_natCast] at s2
    cases b <;> simp [Instr.sliceBounds, s2]
  · cases b <;> simp [Instr.sliceBounds, s1, s2]
theorem run_bounds3 {b : Bool} {len cap : Nat} {lo : Option Value} {l h m : Int} {kh km : IntKind} (hlo : OptI lo 0 l) (h0 : 0 ≤ l) (h1 : l ≤ h) (h2 : h ≤ m) (h3 : m ≤ cap) :
    (Instr.sliceBounds b len cap lo (some (.int kh h)) (some (.int km m))).run P w = .ok (l.toNat, h.toNat, m.toNat) w := by
  have s0 : ∀ k code, (Instr.sliceBound (.int k m) cap code).run P w = .ok m.toNat w := fun k code => by
    have : 0 ≤ m ∧ m ≤ (cap : Int) := ⟨by omega, h3⟩
    simp only [Instr.sliceBound, asIntOf, Sem.run_bind, Sem.run_pure, Result.andThen_ok, if_pos this]
  have s1 : ∀ k code, (Instr.sliceBound (.int k h) m.toNat code).run P w = .ok h.toNat w := fun k code => by
    have : 0 ≤ h ∧ h ≤ (m.toNat : Int) := ⟨by omega, by omega⟩
    simp only [Instr.sliceBound, asIntOf, Sem.run_bind, Sem.run_pure, Result.andThen_ok, if_pos this]
  have s2 : ∀ k code, (Instr.sliceBound (.int k l) h.toNat code).run P w = .ok l.toNat w := fun k code => by
    have : 0 ≤ l ∧ l ≤ (h.toNat : Int) := ⟨by omega, by omega⟩
    simp only [Instr.sliceBound, asIntOf, Sem.run_bind, Sem.run_pure, Result.andThen_ok, if_pos this]
  rcases hlo with ⟨rfl, rfl⟩ | ⟨k, rfl⟩
  · cases b <;> simp [Instr.sliceBounds, s0, s1]
  · cases b <;> simp [Instr.sliceBounds, s0, s1, s2]
/-- 0 ≤ l ≤ h ≤ m -/
def bnds (l h m : Int) : Bool := decide (0 ≤ l) && (decide (l ≤ h) && decide (h ≤ m))
theorem bnds_spec {l h m : Int} (hb : bnds l h m = true) : 0 ≤ l ∧ l ≤ h ∧ h ≤ m := by simpa [bnds] using hb
/-- Of a row with an end that is known (m): from l to h. -/
def cutX (id off z : Nat) (l h m : Nat) : AV := .sl id (bif Nat.beq m l then off else off + l * z) (h - l) (m - l) true
/-- Of a row whose end isn't known. -/
def cutU (id off z : Nat) (l h : Nat) : AV := bif Nat.blt l h then .sl id (off + l * z) (h - l) z false else bif Nat.beq l 0 then .sl id off 0 z false else .se
def sliceE (P : Program) (sl : Ss) (t : TypeId) (x : Operand) (lo hi mx : Option Operand) : Option AV := match bndE sl 0 lo with
  | none => none
  | some l => match P.underlying t with
    | some .string => (match mx, evE sl x with
      | none, .s b => (match bndE sl b.length hi with
        | some h => bif bnds l h b.length then some (.s ((b.take h.toNat).drop l.toNat)) else none
        | none => none)
      | _, _ => none)
    | some (.array n e) => (match mx, szT P e, evE sl x, bndE sl n hi with
      | none, some z, .p id off, some h => bif bnds l h n then some (cutX id off z l.toNat h.toNat n) else none
      | _, _, _, _ => none)
    | some (.slice e) => (match szT P e, evE sl x with
      | some z, .sl id off len cap ex => (match bndE sl len hi with
        | some h => (match mx with
          | none => bif ex then (bif bnds l h cap then some (cutX id off z l.toNat h.toNat cap) else none)
            else (bif bnds l h len && Nat.beq cap z then some (cutU id off z l.toNat h.toNat) else none)
          | some y => (match evE sl y with
            | .i _ m => bif hi.isSome && (bnds l h m && decide (m ≤ (bif ex then cap else len : Nat))) then some (cutX id off z l.toNat h.toNat m.toNat) else none
            | _ => none))
        | none => none)
      | some z, .sn => (match mx, bndE sl 0 hi with
        | none, some h => bif decide (l = 0) && decide (h = 0) then some .sn else none
        | some y, some h => (match evE sl y with
          | .i _ m => bif hi.isSome && (decide (l = 0) && (decide (h = 0) && decide (m = 0))) then some .sn else none
          | _ => none)
        | _, _ => none)
      | some z, .se => (match mx, bndE sl 0 hi with
        | none, some h => bif decide (l = 0) && decide (h = 0) then some .se else none
        | _, _ => none)
      | _, _ => none)
    | _ => none
theorem run_sliceAt {t e : TypeId} {z : Nat} (hu : P.underlying t = some (.slice e)) (hz : szT P e = some z) {ad : Option Addr} {len cap : Nat} {lo hi : Option Value} {l h : Int}
    (hlo : OptI lo 0 l) (hhi : OptI hi len h) (h0 : 0 ≤ l) (h1 : l ≤ h) (h2 : h ≤ cap) (w : World) :
    (Instr.sliceAt t (.slice ad len cap) lo hi none).run P w = .ok (.slice (if cap = l.toNat then ad else ad.map (·.add (l.toNat * z))) (h.toNat - l.toNat) (cap - l.toNat)) w := by
  simp only [Instr.sliceAt, Instr.slice, Sem.run_bind, run_under hu, Result.andThen_ok, run_bounds hlo hhi h0 h1 h2, run_size hz, Sem.run_pure]
theorem run_sliceAt3 {t e : TypeId} {z : Nat} (hu : P.underlying t = some (.slice e)) (hz : szT P e = some z) {ad : Option Addr} {len cap : Nat} {lo : Option Value} {l h m : Int} {kh km : IntKind}
    (hlo : OptI lo 0 l) (h0 : 0 ≤ l) (h1 : l ≤ h) (h2 : h ≤ m) (h3 : m ≤ cap) (w : World) :
    (Instr.sliceAt t (.slice ad len cap) lo (some (.int kh h)) (some (.int km m))).run P w = .ok (.slice (if m.toNat = l.toNat then ad else ad.map (·.add (l.toNat * z))) (h.toNat - l.toNat) (m.toNat - l.toNat)) w := by
  simp only [Instr.sliceAt, Instr.slice, Sem.run_bind, run_under hu, Result.andThen_ok, run_bounds3 hlo h0 h1 h2 h3, run_size hz, Sem.run_pure]
theorem ptr_add {id off : Nat} {ad : Addr} (h : ptrOk γ id off ad) (n : Nat) : ptrOk γ id (off + n) (ad.add n) :=
  ⟨h.1, fun r n hr => by rw [h.2 r n hr, add_off]⟩
theorem cutX_rel {id off z l h m : Nat} {ad : Addr} (hp : ptrOk γ id off ad) (h1 : l ≤ h) (h2 : h ≤ m) : (cutX id off z l h m).rel γ (.slice (if m = l then some ad else (some ad).map (·.add (l * z))) (h - l) (m - l)) := by
  unfold cutX
  by_cases hm : m = l
  · subst hm
    simp only [Nat.beq_refl, cond_true, if_true]
    exact ⟨ad, _, rfl, by omega, fun _ => rfl, hp.sl⟩
  · have hb : Nat.beq m l = false := by
      cases hb : Nat.beq m l
      · rfl
      · exact absurd (Nat.eq_of_beq_eq_true hb) hm
    simp only [hb, cond_false, if_neg hm, Option.map_some]
    exact ⟨_, _, rfl, by omega, fun _ => rfl, (ptr_add hp _).sl⟩
theorem cutU_rel {id off z l h c : Nat} {ad : Addr} (hp : slOk γ id off c z false ad) (h1 : l ≤ h) (h2 : h ≤ c) : (cutU id off z l h).rel γ (.slice (if c = l then some ad else (some ad).map (·.add (l * z))) (h - l) (c - l)) := by
  unfold cutU
  cases hb : Nat.blt l h
  · have hle : ¬ l < h := fun hlt => by
      have : Nat.ble (l + 1) h = true := Nat.ble_eq_true_of_le hlt
      rw [show Nat.blt l h = Nat.ble (l + 1) h from rfl, this] at hb
      cases hb
    have hlh : l = h := by omega
    subst hlh
    rw [cond_false, Nat.sub_self]
    cases h0 : Nat.beq l 0
    · rw [cond_false]
      by_cases hc : c = l
      · rw [if_pos hc]; exact ⟨_, _, rfl⟩
      · rw [if_neg hc]; exact ⟨_, _, rfl⟩
    · have : l = 0 := Nat.eq_of_beq_eq_true h0
      subst this
      rw [cond_true]
      by_cases hc : c = 0
      · rw [if_pos hc]; exact ⟨_, _, rfl, by omega, by simp, hp⟩
      · rw [if_neg hc]
        refine ⟨_, _, rfl, by omega, by simp, ?_⟩
        simp only [Nat.zero_mul, Nat.sub_zero]
        exact hp
  · have := lt_of_blt hb
    have hc : ¬ c = l := by omega
    rw [cond_true, if_neg hc]
    refine ⟨_, _, rfl, by omega, by simp, hp.1, fun r n hr => ⟨((ptr_add hp.ptr _).2 r n hr), fun _ => ?_⟩⟩
    have := (hp.2 r n hr).2 rfl
    have e : off + l * z + (c - l) * z = off + c * z := by
      rw [Nat.add_assoc, ← Nat.add_mul]
      congr 2
      omega
    omega
theorem slice_q (hs : SR γ sl a.tmps) {t : TypeId} {x : Operand} {lo hi mx : Option Operand} (ho : o.op = .slice t x lo hi mx) {v : AV} (h : sliceE P sl t x lo hi mx = some v) : QS P o a γ hp w v := by
  have hx := evE_rel hs x
  unfold sliceE at h
  split at h
  · simp at h
  · rename_i l hl
    have hlo := bndE_spec hs hl
    split at h
    · rename_i hu
      split at h
      · rename_i b he
        rw [he] at hx
        have hx' : a.eval x = .string ⟨b.toArray⟩ := hx
        split at h
        · rename_i hh hb
          have hhi := bndE_spec hs hb
          cases hbn : bnds l hh b.length
          · rw [hbn] at h; simp at h
          · rw [hbn, cond_true, Option.some.injEq] at h
            subst h
            obtain ⟨h0, h1, h2⟩ := bnds_spec hbn
            have sz : (⟨b.toArray⟩ : ByteArray).size = b.length := by simp [ByteArray.size]
            refine ⟨.string ((⟨b.toArray⟩ : ByteArray).extract l.toNat hh.toNat), ?_, fun w' _ => ?_⟩
            · have e : (⟨b.toArray⟩ : ByteArray).extract l.toNat hh.toNat = ⟨((b.take hh.toNat).drop l.toNat).toArray⟩ := by
                apply ByteArray.ext
                rw [ByteArray.data_extract]
                simp [List.drop_take]
              rw [e]; rfl
            · simp only [execOp, ho, hx', Option.map_none, Instr.sliceAt, Instr.slice, Sem.run_bind, run_under hu, Result.andThen_ok, Option.isSome_none, Bool.false_eq_true, if_false, Sem.run_pure, run_bounds hlo (sz ▸ hhi) h0 h1 (sz ▸ h2)]
        · simp at h
      · simp at h
    · rename_i n e hu
      split at h
      · rename_i z id off hh hz he hb
        rw [he] at hx
        obtain ⟨ad, hx', hpt⟩ := hx
        have hhi := bndE_spec hs hb
        cases hbn : bnds l hh n
        · rw [hbn] at h; simp at h
        · rw [hbn, cond_true, Option.some.injEq] at h
          subst h
          obtain ⟨h0, h1, h2⟩ := bnds_spec hbn
          refine ⟨_, cutX_rel hpt (show l.toNat ≤ hh.toNat by omega) (show hh.toNat ≤ n by omega), fun w' _ => ?_⟩
          simp only [execOp, ho, hx', Option.map_none, Instr.sliceAt, Instr.sureAddr, Sem.run_bind, run_under hu, Result.andThen_ok, Sem.run_pure, run_bounds hlo hhi h0 h1 h2, run_size hz]
          congr 3
          by_cases hn : n = l.toNat <;> simp [hn]
      · simp at h
    · rename_i e hu
      split at h
      · rename_i z id off len cap ex hz he
        rw [he] at hx
        obtain ⟨ad, c, hx', hle, hex, hpt⟩ := hx
        split at h
        · rename_i hh hb
          have hhi := bndE_spec hs hb
          split at h
          · cases ex with
            | true =>
              rw [cond_true] at h
              have hc := hex rfl
              subst hc
              cases hbn : bnds l hh c
              · rw [hbn] at h; simp at h
              · rw [hbn, cond_true, Option.some.injEq] at h
                subst h
                obtain ⟨h0, h1, h2⟩ := bnds_spec hbn
                refine ⟨_, cutX_rel hpt.ptr (show l.toNat ≤ hh.toNat by omega) (show hh.toNat ≤ c by omega), fun w' _ => ?_⟩
                simp only [execOp, ho, hx', Option.map_none, Sem.run_bind, run_sliceAt hu hz hlo hhi h0 h1 h2, Result.andThen_ok, Sem.run_pure]
            | false =>
              rw [cond_false] at h
              cases hbn : (bnds l hh len && Nat.beq cap z)
              · rw [hbn] at h; simp at h
              · rw [hbn, cond_true, Option.some.injEq] at h
                subst h
                simp only [Bool.and_eq_true] at hbn
                obtain ⟨hbn, hcz⟩ := hbn
                have := Nat.eq_of_beq_eq_true hcz
                subst this
                obtain ⟨h0, h1, h2⟩ := bnds_spec hbn
                refine ⟨_, cutU_rel (c := c) hpt (show l.toNat ≤ hh.toNat by omega) (by omega), fun w' _ => ?_⟩
                simp only [execOp, ho, hx', Option.map_none, Sem.run_bind, run_sliceAt hu hz hlo hhi h0 h1 (show hh ≤ (c : Int) by omega), Result.andThen_ok, Sem.run_pure]
          · rename_i y
            have hy := evE_rel hs y
            split at h
            · rename_i km m hm
              rw [hm] at hy
              have hy' : a.eval y = .int km m := hy
              cases hbn : (hi.isSome && (bnds l hh m && decide (m ≤ ((bif ex then cap else len : Nat) : Int))))
              · rw [hbn] at h; simp at h
              · rw [hbn, cond_true, Option.some.injEq] at h
                subst h
                simp only [Bool.and_eq_true, decide_eq_true_eq] at hbn
                obtain ⟨hsome, hbn, hmc⟩ := hbn
                obtain ⟨h0, h1, h2⟩ := bnds_spec hbn
                obtain ⟨hi', rfl⟩ := Option.isSome_iff_exists.1 hsome
                have hhi' : ∃ kh, a.eval hi' = .int kh hh := by
                  rcases hhi with ⟨h, _⟩ | ⟨kh, h⟩
                  · simp at h
                  · exact ⟨kh, by simpa using h⟩
                obtain ⟨kh, hhi'⟩ := hhi'
                have hmc' : m ≤ (c : Int) := by
                  cases ex
                  · rw [cond_false] at hmc; omega
                  · rw [cond_true] at hmc; have := hex rfl; omega
                refine ⟨_, cutX_rel hpt.ptr (show l.toNat ≤ hh.toNat by omega) (show hh.toNat ≤ m.toNat by omega), fun w' _ => ?_⟩
                simp only [execOp, ho, hx', Option.map_some, hhi', hy', Sem.run_bind, run_sliceAt3 hu hz hlo h0 h1 h2 hmc', Result.andThen_ok, Sem.run_pure]
            · simp at h
        · simp at h
      · rename_i z hz he
        rw [he] at hx
        have hx' : a.eval x = .slice none 0 0 := hx
        split at h
        · rename_i hh hb
          have hhi := bndE_spec hs hb
          cases hbn : (decide (l = 0) && decide (hh = 0))
          · rw [hbn] at h; simp at h
          · rw [hbn, cond_true, Option.some.injEq] at h
            subst h
            simp only [Bool.and_eq_true, decide_eq_true_eq] at hbn
            obtain ⟨rfl, rfl⟩ := hbn
            refine ⟨.slice none 0 0, rfl, fun w' _ => ?_⟩
            have := run_sliceAt hu hz hlo (len := 0) (by simpa using hhi) (Int.le_refl _) (Int.le_refl _) (cap := 0) (by simp) w' (ad := none)
            simp only [execOp, ho, hx', Option.map_none, Sem.run_bind, this, Result.andThen_ok, Sem.run_pure]
            simp
        · rename_i y hh hb
          have hhi := bndE_spec hs hb
          have hy := evE_rel hs y
          split at h
          · rename_i km m hm
            rw [hm] at hy
            have hy' : a.eval y = .int km m := hy
            cases hbn : (hi.isSome && (decide (l = 0) && (decide (hh = 0) && decide (m = 0))))
            · rw [hbn] at h; simp at h
            · rw [hbn, cond_true, Option.some.injEq] at h
              subst h
              simp only [Bool.and_eq_true, decide_eq_true_eq] at hbn
              obtain ⟨hsome, rfl, rfl, rfl⟩ := hbn
              obtain ⟨hi', rfl⟩ := Option.isSome_iff_exists.1 hsome
              have hhi' : ∃ kh, a.eval hi' = .int kh 0 := by
                rcases hhi with ⟨h, _⟩ | ⟨kh, h⟩
                · simp at h
                · exact ⟨kh, by simpa using h⟩
              obtain ⟨kh, hhi'⟩ := hhi'
              refine ⟨.slice none 0 0, rfl, fun w' _ => ?_⟩
              have := run_sliceAt3 (kh := kh) (km := km) hu hz hlo (len := 0) (Int.le_refl _) (Int.le_refl _) (Int.le_refl _) (cap := 0) (by simp) w' (ad := none)
              simp only [execOp, ho, hx', Option.map_some, hhi', hy', Sem.run_bind, this, Result.andThen_ok, Sem.run_pure]
              simp
          · simp at h
        · simp at h
      · rename_i z hz he
        rw [he] at hx
        obtain ⟨ad, c, hx'⟩ := hx
        split at h
        · rename_i hh hb
          have hhi := bndE_spec hs hb
          cases hbn : (decide (l = 0) && decide (hh = 0))
          · rw [hbn] at h; simp at h
          · rw [hbn, cond_true, Option.some.injEq] at h
            subst h
            simp only [Bool.and_eq_true, decide_eq_true_eq] at hbn
            obtain ⟨rfl, rfl⟩ := hbn
            refine ⟨.slice (if c = (0 : Int).toNat then some ad else (some ad).map (·.add ((0 : Int).toNat * z))) ((0 : Int).toNat - (0 : Int).toNat) (c - (0 : Int).toNat), ?_, fun w' _ => ?_⟩
            · by_cases hc : c = (0 : Int).toNat
              · rw [if_pos hc]; exact ⟨_, _, rfl⟩
              · rw [if_neg hc]; exact ⟨_, _, rfl⟩
            · have := run_sliceAt hu hz hlo (len := 0) (by simpa using hhi) (Int.le_refl _) (Int.le_refl _) (cap := c) (by omega) w' (ad := some ad)
              simp only [execOp, ho, hx', Option.map_none, Sem.run_bind, this, Result.andThen_ok, Sem.run_pure]
        · simp at h
      · simp at h
    · simp at h
end
end Go.Proofs.Ytclgglffbpfmhaa
