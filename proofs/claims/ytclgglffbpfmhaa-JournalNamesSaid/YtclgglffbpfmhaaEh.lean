/- Copying, clearing; every operation but calls, as one. -/
import Derived.Test.YtclgglffbpfmhaaEg
namespace Go.Proofs.Ytclgglffbpfmhaa
set_option linter.unusedSimpArgs false
set_option linter.unusedVariables false
section
variable {sl : Ss} {a : Act} {P : Program} {o : Oper} {hp : Hs} {d fl : Nat}

def lenSE (x : AV) : Option Nat := match x with
  | .s l => some l.length
  | x => lenAV x
/-- The first so many cells of what is copied. -/
def firstE (hp : Hs) (z n : Nat) (x : AV) : Option (List AV) := match x with
  | .s l => bif Nat.beq z 1 then some ((l.take n).map fun c => .i .u8 c.toNat) else none
  | .sl id off _ _ _ => (match readOf hp id with
    | some cs => (match takeE (n * z) (dropE off cs) with
      | some l => bif Nat.ble off (lenL cs 0) && plainL l then some l else none
      | none => none)
    | none => none)
  | _ => none
def copyE (P : Program) (sl : Ss) (hp : Hs) (fl : Nat) (t : TypeId) (x y : Operand) : Option (AV × Hs) := match P.underlying t with
  | some (.slice e) => (match elemE P e, lenAV (evE sl x), lenSE (evE sl y) with
    | some (z, _), some m, some k => (match min k m with
      | 0 => (match evE sl y with
        | .se => none
        | _ => some (.i .i64 0, hp))
      | n + 1 => (match evE sl x, firstE hp z (n + 1) (evE sl y) with
        | .sl id off _ _ _, some news => (match cellsOf hp id with
          | some cs => bif Nat.ble fl id then (match putE off news cs with
            | some out => some (.i .i64 (n + 1), sid hp id (.cells out))
            | none => none) else none
          | none => none)
        | _, _ => none))
    | _, _, _ => none)
  | _ => none
theorem copy_n {c : Call} {x y : Operand} {t xt : TypeId} (ho : o.op = .call c) (hcc : c.callee = .builtin .copy) (ha : c.args.toList = [x, y]) (ht : c.argTypes.toList = [t, xt]) {v : AV} {hp' : Hs} (h : copyE P sl hp fl t x y = some (v, hp')) : NS P o a sl hp d fl v hp' := by
  intro F w0 γ w hr hs hd hl
  have ha' : c.args = #[x, y] := by apply Array.ext'; simpa using ha
  have ht' : c.argTypes = #[t, xt] := by apply Array.ext'; simpa using ht
  have exec : ∀ {u : Value} {w' : World}, (Builtin.copy_ #[t, xt] o.type #[a.eval x, a.eval y]).run P w = .ok u w' → (execOp a.eval o).run P w = .ok (.value u) w' := by
    intro u w' hrun
    simp only [execOp, ho, resolve, hcc, ha', ht', List.map_toArray, List.map_cons, List.map_nil, Sem.run_bind, Sem.run_pure, Result.andThen_ok, invoke, builtin, hrun]
  have hx := evE_rel hs x
  have hy := evE_rel hs y
  unfold copyE at h
  split at h
  · rename_i e hu
    split at h
    · rename_i z zc m k hel hm hk
      obtain ⟨hsz, hz0, hzl, hzp, i, zv, hi, hiz, his, hzr, hzs⟩ := elemE_spec hel γ
      obtain ⟨dx, cx, hx'⟩ := lenAV_spec hm hx
      have hlen : ∀ w', (Builtin.lenOf (a.eval y)).run P w' = .ok k w' := by
        intro w'
        cases hey : evE sl y <;> rw [hey] at hk hy <;> simp only [lenSE, lenAV, Option.some.injEq, reduceCtorEq] at hk
        case s l =>
          subst hk
          have : a.eval y = .string ⟨l.toArray⟩ := hy
          rw [this]
          simp [Builtin.lenOf, ByteArray.size]
        case sn => subst hk; have : a.eval y = .slice none 0 0 := hy; rw [this]; rfl
        case se => subst hk; obtain ⟨ad, c', e'⟩ := hy; rw [e']; rfl
        case sl id off len cap ex => subst hk; obtain ⟨ad, c', e', _⟩ := hy; rw [e']; rfl
      have hmin : ∀ n, min k m = n → Nat.min k m = n := fun n h => h
      split at h
      · rename_i hmn
        have hne : evE sl y ≠ .se ∧ v = .i .i64 0 ∧ hp' = hp := by
          split at h
          · simp at h
          · rename_i hns
            simp only [Option.some.injEq, Prod.mk.injEq] at h
            exact ⟨fun e => hns e, h.1.symm, h.2.symm⟩
        obtain ⟨hnse, rfl, rfl⟩ := hne
        have hfc : (Builtin.firstCells z 0 (a.eval y)).run P w = .ok ([] : List Value).toArray w := by
          cases hey : evE sl y <;> rw [hey] at hk hy <;> simp only [lenSE, lenAV, Option.some.injEq, reduceCtorEq] at hk
          case s l =>
            have : a.eval y = .string ⟨l.toArray⟩ := hy
            rw [this]
            simp only [Builtin.firstCells, Sem.run_pure]
            congr 1
            apply Array.ext'
            simp
          case sn => have : a.eval y = .slice none 0 0 := hy; rw [this]; rfl
          case se => exact absurd hey hnse
          case sl id off len cap ex => obtain ⟨ad, c', e', _⟩ := hy; rw [e']; exact run_firstCells_some w z 0 ad len c' [] (by simp) (by simp)
        refine ⟨.int .i64 0, γ, w, .inl (exec ?_), Gm.le_refl γ, hr.weak (fun _ h => h.1), rfl, fun id r n _ h => ⟨h, rfl⟩⟩
        cases dx <;> simp [Builtin.copy_, run_under hu, hx', hlen, run_size hsz, hmin 0 hmn, hfc, storeCells, goInt]
      · rename_i n hmn
        simp only [Nat.succ_eq_add_one] at hmn h
        split at h
        · rename_i id off len cap ex news hex hnews
          rw [hex] at hx hm
          obtain ⟨ad, cp, hx2, hle, _, hne, hpt⟩ := hx
          simp only [lenAV, Option.some.injEq] at hm
          subst hm
          split at h
          · rename_i cs hc
            cases hfl : Nat.ble fl id
            · rw [hfl] at h; simp at h
            · rw [hfl, cond_true] at h
              split at h
              · rename_i out hput
                simp only [Option.some.injEq, Prod.mk.injEq] at h
                obtain ⟨rfl, rfl⟩ := h
                have hsrc : ∃ us, AV.relL γ news us ∧ plainL news = true ∧ us.length = (n + 1) * z ∧ (Builtin.firstCells z (n + 1) (a.eval y)).run P w = .ok us.toArray w := by
                  unfold firstE at hnews
                  split at hnews
                  · rename_i l hey
                    rw [hey] at hy hk
                    have hy' : a.eval y = .string ⟨l.toArray⟩ := hy
                    cases hz : Nat.beq z 1
                    · rw [hz] at hnews; simp at hnews
                    · rw [hz, cond_true, Option.some.injEq] at hnews
                      have := Nat.eq_of_beq_eq_true hz
                      subst this
                      subst hnews
                      simp only [lenSE, Option.some.injEq] at hk
                      have hrl : AV.relL γ ((l.take (n + 1)).map fun c => AV.i .u8 c.toNat) ((l.take (n + 1)).map fun c => Value.int .u8 c.toNat) := relL_map (f := fun c : UInt8 => AV.i .u8 (c.toNat : Int)) (g := fun c => Value.int .u8 (c.toNat : Int)) (fun c => by simp only [AV.rel]) _
                      have hpl : ∀ b : List UInt8, plainL (b.map fun c => AV.i .u8 c.toNat) = true := by
                        intro b
                        induction b with
                        | nil => rfl
                        | cons c b ih => simp only [List.map_cons, plainL, ih, AV.plain, Bool.and_self]
                      refine ⟨_, hrl, hpl _, by simp; omega, ?_⟩
                      rw [hy']
                      have e : (⟨l.toArray⟩ : ByteArray).extract 0 (n + 1) = ⟨(l.take (n + 1)).toArray⟩ := by
                        apply ByteArray.ext
                        rw [ByteArray.data_extract]
                        simp
                      simp only [Builtin.firstCells, e, Sem.run_pure]
                      congr 1
                      apply Array.ext'
                      simp
                  · rename_i id2 off2 len2 cap2 ex2 hey
                    rw [hey] at hy
                    split at hnews
                    · rename_i cs2 hc2
                      split at hnews
                      · rename_i l' ht
                        cases hb : (Nat.ble off2 (lenL cs2 0) && plainL l')
                        · rw [hb] at hnews; simp at hnews
                        · rw [hb, cond_true, Option.some.injEq] at hnews
                          subst hnews
                          simp only [Bool.and_eq_true] at hb
                          obtain ⟨r, kk, ds, sp, bt, fr, hlive, hw, _, _, hrel⟩ := hr.live.read hc2
                          obtain ⟨ad2, c2, hy', _, _, _, hpt2⟩ := hy
                          have had := (hpt2 r kk hlive).1
                          subst had
                          obtain ⟨es, hel', hes, hcell⟩ := row_cells ht hb.1 hrel
                          refine ⟨es, hes, hb.2, hel', ?_⟩
                          rw [hy']
                          exact run_firstCells_some w z (n + 1) ⟨r, off2, none⟩ len2 c2 es hel' (hcell w hw)
                      · simp at hnews
                    · simp at hnews
                  · simp at hnews
                obtain ⟨us, hnr, hnp, hul, hfc⟩ := hsrc
                have hnn : news ≠ [] := by
                  intro e0
                  subst e0
                  have h1 := relL_length hnr
                  rw [hul] at h1
                  have := Nat.mul_pos (show 0 < n + 1 by omega) (Nat.pos_of_ne_zero hz0)
                  simp only [List.length_nil] at h1
                  omega
                obtain ⟨r, kk, w', hlive, hst, hr', hfr⟩ := store_floor (P := P) (fl := fl) hr hc hput hnr hnp hnn (Nat.le_of_ble_eq_true hfl)
                have had := (hpt r kk hlive).1
                subst had
                refine ⟨.int .i64 ((n + 1 : Nat) : Int), γ, w', .inl (exec ?_), Gm.le_refl γ, hr'.weak (fun _ h => h.1), rfl, fun id' r' n' h1 h2 => ⟨h2, hfr id' r' n' h1 h2⟩⟩
                simp only [Builtin.copy_, List.getElem?_toArray, List.getElem?_cons_zero, List.getElem?_cons_succ, Sem.run_bind, run_under hu, Result.andThen_ok, hx2, hlen, run_size hsz, hmin _ hmn, hfc, hst, Sem.run_pure, goInt]
              · simp at h
          · simp at h
        · simp at h
    · simp at h
  · simp at h
def clearE (P : Program) (sl : Ss) (hp : Hs) (fl : Nat) (t : TypeId) (x : Operand) : Option (AV × Hs) := match P.underlying t with
  | some (.slice e) => (match evE sl x with
    | .sn => some (.tup [], hp)
    | .se => some (.tup [], hp)
    | .sl _ _ 0 _ _ => some (.tup [], hp)
    | .sl id off (n + 1) _ _ => (match elemE P e, cellsOf hp id with
      | some (z, zc), some cs => bif Nat.ble fl id then (match putE off (repE (n + 1) zc) cs with
        | some out => some (.tup [], sid hp id (.cells out))
        | none => none) else none
      | _, _ => none)
    | _ => none)
  | _ => none
theorem plainL_append : ∀ (l m : List AV), plainL l = true → plainL m = true → plainL (l ++ m) = true
  | [], _, _, h => h
  | x :: l, m, h, h' => by
    simp only [plainL, Bool.and_eq_true] at h
    simp only [List.cons_append, plainL, h.1, plainL_append l m h.2 h', Bool.and_self]
theorem plainL_rep {z : List AV} (h : plainL z = true) : ∀ n, plainL (repE n z) = true
  | 0 => rfl
  | n + 1 => plainL_append z (repE n z) h (plainL_rep h n)
theorem clear_n {c : Call} {x : Operand} {t : TypeId} (ho : o.op = .call c) (hcc : c.callee = .builtin .clear) (ha : c.args.toList = [x]) (ht : c.argTypes.toList = [t]) {v : AV} {hp' : Hs} (h : clearE P sl hp fl t x = some (v, hp')) : NS P o a sl hp d fl v hp' := by
  intro F w0 γ w hr hs hd hl
  have ha' : c.args = #[x] := by apply Array.ext'; simpa using ha
  have ht' : c.argTypes = #[t] := by apply Array.ext'; simpa using ht
  have exec : ∀ {u : Value} {w' : World}, (Builtin.clear_ #[t] o.type #[a.eval x]).run P w = .ok u w' → (execOp a.eval o).run P w = .ok (.value u) w' := by
    intro u w' hrun
    simp only [execOp, ho, resolve, hcc, ha', ht', List.map_toArray, List.map_cons, List.map_nil, Sem.run_bind, Sem.run_pure, Result.andThen_ok, invoke, builtin, hrun]
  have hx := evE_rel hs x
  unfold clearE at h
  split at h
  · rename_i e hu
    have stay : ∀ {ad : Option Addr} {cp : Nat}, a.eval x = .slice ad 0 cp → ∃ u γ' w', ((execOp a.eval o).run P w = .ok (.value u) w' ∨ ((execOp a.eval o).run P w = .ok .skip w' ∧ u = undef)) ∧ Gm.le γ γ' ∧ HR (fun j => F j ∧ j ≠ d) w0 γ' hp w' ∧ (AV.tup []).rel γ' u ∧
        ∀ id r n, id < fl → γ id = .live r n → γ' id = .live r n ∧ w'.heap[r]? = w.heap[r]? := by
      intro ad cp hx'
      refine ⟨.tuple #[], γ, w, .inl (exec ?_), Gm.le_refl γ, hr.weak (fun _ h => h.1), undef_rel γ, fun id r n _ h => ⟨h, rfl⟩⟩
      cases ad <;> simp [Builtin.clear_, run_under hu, hx']
    split at h
    · rename_i hex
      rw [hex] at hx
      simp only [Option.some.injEq, Prod.mk.injEq] at h
      obtain ⟨rfl, rfl⟩ := h
      exact stay hx
    · rename_i hex
      rw [hex] at hx
      simp only [Option.some.injEq, Prod.mk.injEq] at h
      obtain ⟨rfl, rfl⟩ := h
      obtain ⟨ad, cp, hx'⟩ := hx
      exact stay hx'
    · rename_i hex
      rw [hex] at hx
      simp only [Option.some.injEq, Prod.mk.injEq] at h
      obtain ⟨rfl, rfl⟩ := h
      obtain ⟨ad, cp, hx', _⟩ := hx
      exact stay hx'
    · rename_i id off n cap ex hex
      simp only [Nat.succ_eq_add_one] at hex h
      rw [hex] at hx
      obtain ⟨ad, cp, hx', hle, _, hne, hpt⟩ := hx
      split at h
      · rename_i z zc cs hel hc
        obtain ⟨hsz, hz0, hzl, hzp, i, zv, hi, hiz, his, hzr, hzs⟩ := elemE_spec hel γ
        cases hfl : Nat.ble fl id
        · rw [hfl] at h; simp at h
        · rw [hfl, cond_true] at h
          split at h
          · rename_i out hput
            simp only [Option.some.injEq, Prod.mk.injEq] at h
            obtain ⟨rfl, rfl⟩ := h
            have hnr : AV.relL γ (repE (n + 1) zc) (List.replicate (n + 1) zv.cells.toList).flatten := by rw [repE_eq]; exact relL_replicate hzr (n + 1)
            have hnn : repE (n + 1) zc ≠ [] := by
              intro e0
              have : (repE (n + 1) zc).length = 0 := by rw [e0]; rfl
              rw [repE, List.length_append, hzl] at this
              omega
            obtain ⟨r, kk, w', hlive, hst, hr', hfr⟩ := store_floor (P := P) (fl := fl) hr hc hput hnr (plainL_rep hzp _) hnn (Nat.le_of_ble_eq_true hfl)
            have had := (hpt r kk hlive).1
            subst had
            have hzrun : ∀ w, (zeroValue e).run P w = .ok zv w := fun w => by simp [zeroValue, run_info hi, hiz]
            have hzc : (Builtin.zeroCells zv.cells (n + 1)).toList = (List.replicate (n + 1) zv.cells.toList).flatten := made_cells zv.cells (n + 1)
            refine ⟨.tuple #[], γ, w', .inl (exec ?_), Gm.le_refl γ, hr'.weak (fun _ h => h.1), undef_rel γ, fun id' r' n' h1 h2 => ⟨h2, hfr id' r' n' h1 h2⟩⟩
            simp [Builtin.clear_, run_under hu, hx', hzrun, hzc, hst]
          · simp at h
      · simp at h
    · simp at h
  · simp at h

/-! All of them. -/
def noisyE (P : Program) (sl : Ss) (hp : Hs) (d fl : Nat) (o : Oper) : Option (AV × Hs) := match o.op with
  | .alloc t => allocE P hp d t
  | .box _ x => boxE sl hp d x
  | .store t x y => storeE P sl hp fl t x y
  | .buildSlice t n parts => buildSliceE P sl hp d t n parts.toList
  | .makeSlice t l c => makeSliceE P sl hp d t l c
  | .makeMap _ none => makeMapE hp d
  | .mapUpdate t m k x => mapUpdateE P sl hp fl t m k x
  | .insert t m k x => mapUpdateE P sl hp fl t m k x
  | .convert s t x => strBytesE P sl hp d fl s t x
  | .call c => (match c.callee, c.args.toList, c.argTypes.toList with
    | .builtin .append, [x, y], [t, xt] => appE P sl hp d fl t xt x y
    | .builtin .copy, [x, y], [t, _] => copyE P sl hp fl t x y
    | .builtin .clear, [x], [t] => clearE P sl hp fl t x
    | _, _, _ => none)
  | _ => none
theorem noisy_n {v : AV} {hp' : Hs} (h : noisyE P sl hp d fl o = some (v, hp')) : NS P o a sl hp d fl v hp' := by
  unfold noisyE at h
  split at h
  · rename_i ho; exact alloc_n ho h
  · rename_i ho; exact box_n ho h
  · rename_i ho; exact store_n ho h
  · rename_i ho; exact buildSlice_n ho h
  · rename_i ho; exact makeSlice_n ho h
  · rename_i ho; exact makeMap_n ho h
  · rename_i ho; exact mapUpdate_n (.inl ho) h
  · rename_i ho; exact mapUpdate_n (.inr ho) h
  · rename_i ho; exact strBytes_n ho h
  · rename_i c ho
    split at h
    · rename_i hc ha ht; exact app_n ho hc ha ht h
    · rename_i hc ha ht; exact copy_n ho hc ha ht h
    · rename_i hc ha ht; exact clear_n ho hc ha ht h
    · simp at h
  · simp at h
/-- One operation that is no call of a function. -/
def stepE (P : Program) (sl : Ss) (hp : Hs) (d fl : Nat) (o : Oper) : Option (AV × Hs) := match quietE P sl hp o with
  | some v => some (v, hp)
  | none => noisyE P sl hp d fl o
/-- Does it make a block, and look into none? -/
def isMk : Op → Bool
  | .alloc _ => true
  | .buildSlice _ _ _ => true
  | .makeSlice _ _ _ => true
  | _ => false
theorem mk_step (hm : isMk o.op = true) {v : AV} {hp' : Hs} (h : stepE P sl hp d fl o = some (v, hp')) : MK P o a sl hp d v hp' := by
  unfold stepE at h
  cases ho : o.op <;> rw [ho] at hm <;> simp only [isMk, Bool.false_eq_true] at hm
  case alloc t =>
    simp only [quietE, noisyE, ho] at h
    exact alloc_mk ho h
  case buildSlice t l p =>
    simp only [quietE, noisyE, ho] at h
    exact buildSlice_mk ho h
  case makeSlice t l c =>
    simp only [quietE, noisyE, ho] at h
    exact makeSlice_mk ho h
def isSt : Op → Bool
  | .store _ _ _ => true
  | _ => false
theorem st_step (hm : isSt o.op = true) {v : AV} {hp' : Hs} (h : stepE P sl hp d fl o = some (v, hp')) : ∃ t x y id off, o.op = .store t x y ∧ evE sl x = .p id off ∧ fl ≤ id ∧
    ∀ (F : Nat → Prop) (w0 : Base) (γ : Gm) (w : World), HR F w0 γ hp w → SR γ sl a.tmps → ∃ w', (execOp a.eval o).run P w = .ok .skip w' ∧ HR F w0 γ hp' w' ∧ v.rel γ undef ∧ ∀ id' r' n', id' ≠ id → γ id' = .live r' n' → w'.heap[r']? = w.heap[r']? := by
  unfold stepE at h
  cases ho : o.op <;> rw [ho] at hm <;> simp only [isSt, Bool.false_eq_true] at hm
  case store t x y =>
    simp only [quietE, noisyE, ho] at h
    obtain ⟨id, off, h1, h3, h2⟩ := store_x (a := a) ho h
    exact ⟨t, x, y, id, off, rfl, h1, h3, h2⟩
theorem step_n {v : AV} {hp' : Hs} (h : stepE P sl hp d fl o = some (v, hp')) : NS P o a sl hp d fl v hp' := by
  unfold stepE at h
  split at h
  · rename_i v' hq
    simp only [Option.some.injEq, Prod.mk.injEq] at h
    obtain ⟨rfl, rfl⟩ := h
    intro F w0 γ w hr hs hd hl
    obtain ⟨u, hu, hrun⟩ := quiet_q hs hr.live hq
    exact ⟨u, γ, w, .inl (hrun w fun _ => SameL.refl γ hp w), Gm.le_refl γ, hr.weak (fun _ h => h.1), hu, fun id r n _ h => ⟨h, rfl⟩⟩
  · exact noisy_n h
end
end Go.Proofs.Ytclgglffbpfmhaa
