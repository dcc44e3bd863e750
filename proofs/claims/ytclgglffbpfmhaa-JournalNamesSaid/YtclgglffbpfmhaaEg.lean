/- Appending, copying, the bytes of a text. -/
import Derived.Test.YtclgglffbpfmhaaEf
import Derived.Laws.IdiomStrings
namespace Go.Proofs.Ytclgglffbpfmhaa
set_option linter.unusedSimpArgs false
set_option linter.unusedVariables false
section
variable {sl : Ss} {a : Act} {P : Program} {o : Oper} {hp : Hs} {d fl : Nat}

/-! The bytes of a text. -/
def strBytesE (P : Program) (sl : Ss) (hp : Hs) (d fl : Nat) (src dst : TypeId) (x : Operand) : Option (AV × Hs) := match evE sl x, P.underlying src with
  | .sl id off len cap ex, some (.slice _) => bif Nat.beq src dst && (isBytesE P dst && Nat.ble fl id) then (match cellsOf hp id with
    | some cs => some (.sl id off len cap ex, sid hp id (.cells cs))
    | none => none) else none
  | .s l, some .string => bif isBytesE P dst then some (.sl d 0 l.length 1 false, sid hp d (.cells (l.map fun c => .i .u8 c.toNat))) else none
  | _, _ => none
theorem strBytes_n {src dst : TypeId} {x : Operand} (ho : o.op = .convert src dst x) {v : AV} {hp' : Hs} (h : strBytesE P sl hp d fl src dst x = some (v, hp')) : NS P o a sl hp d fl v hp' := by
  intro F w0 γ w hr hs hd hl
  unfold strBytesE at h
  have hx := evE_rel hs x
  split at h
  · rename_i id off len cap ex e0 he hu0
    rw [he] at hx
    cases hb : (Nat.beq src dst && (isBytesE P dst && Nat.ble fl id))
    · rw [hb] at h; simp at h
    · rw [hb, cond_true] at h
      simp only [Bool.and_eq_true] at hb
      obtain ⟨hsd, hby, hfl⟩ := hb
      have hsd := Nat.eq_of_beq_eq_true hsd
      subst hsd
      obtain ⟨e, hu, hk⟩ := isBytesE_spec hby
      split at h
      · rename_i cs hc
        simp only [Option.some.injEq, Prod.mk.injEq] at h
        obtain ⟨rfl, rfl⟩ := h
        obtain ⟨r, n, ds, sp, t, fr, hlive, hw, hf, hlen, hrel⟩ := hr.live.cells hc
        obtain ⟨ad, c, hx', h1, h2, hpt⟩ := hx
        have had := (hpt.2 r n hlive).1
        subst had
        have hlt : r < w.heap.size := (hr.own id r n hlive).2
        obtain ⟨fr', hf', hfz⟩ : ∃ fr', frOk fr' n ∧ w.freeze { block := r, off := n } 1 = wset w r (.cells (ds ++ sp).toArray t fr') := by
          obtain ⟨lo, hi⟩ := fr
          refine ⟨if lo == hi then (n, n + 1) else (min lo n, max hi (n + 1)), ?_, ?_⟩
          · by_cases hlh : lo = hi
            · simp only [hlh, beq_self_eq_true, if_true]; exact .inr (Nat.le_refl _)
            · have : (lo == hi) = false := by simpa using hlh
              simp only [this, Bool.false_eq_true, if_false]
              rcases hf with h | h
              · exact absurd h hlh
              · have h' : n ≤ lo := h
                exact .inr (by simp only; omega)
          · have he' : w.heap[r] = .cells (ds ++ sp).toArray t (lo, hi) := by
              rw [Array.getElem?_eq_getElem hlt] at hw; exact Option.some.inj hw
            unfold World.freeze wset
            rw [if_neg (by decide)]
            congr 1
            apply Array.ext
            · simp
            · intro j g1 g2
              rw [Array.getElem_modify]
              by_cases hj : r = j
              · subst hj
                rw [if_pos rfl, he']
                simp
              · rw [if_neg hj, Array.getElem_setIfInBounds_ne (by simpa using g1) hj]
        have hsh : w.shape? r = some (t, n) := by
          unfold World.shape?
          rw [hw]
          simp only [List.size_toArray, hlen]
        refine ⟨_, γ, wset w r (.cells (ds ++ sp).toArray t fr'), .inl ?_, Gm.le_refl γ, (hr.set (b := .cells cs) (o := .cells (ds ++ sp).toArray t fr') hlive (gid_lt (cellsOf_gid hc)) (cellsOf_gid hc) rfl ⟨ds, sp, t, fr', rfl, hf', hlen, hrel⟩).weak (fun _ h => h.1), ⟨_, _, rfl, h1, h2, hpt⟩, fun id' r' n' g1 g2 => ⟨g2, set_ne fun e' => ?_⟩⟩
        · simp only [execOp, ho, hx', convert, Sem.run_bind, run_under hu, Result.andThen_ok, run_under hk, beq_self_eq_true, markStringish, run_shape, hsh, freeze, Sem.run, Sem.run_pure, hfz]
        · have := hr.inj id' id r' n' n g2 (e' ▸ hlive)
          have := Nat.le_of_ble_eq_true hfl
          omega
      · simp at h
  · rename_i l he hu
    rw [he] at hx
    have hx' : a.eval x = .string ⟨l.toArray⟩ := hx
    cases hb : isBytesE P dst
    · rw [hb] at h; simp at h
    · rw [hb, cond_true, Option.some.injEq, Prod.mk.injEq] at h
      obtain ⟨rfl, rfl⟩ := h
      obtain ⟨e, hud, hk⟩ := isBytesE_spec hb
      have hrun := run_bytes_of_string (P := P) w src dst e ⟨l.toArray⟩ hu hud hk
      have hsz : (⟨l.toArray⟩ : ByteArray).size = l.length := by simp [ByteArray.size]
      rw [hsz] at hrun
      have hge := grownCap_ge w l.length 0 e
      have hrow : bytesRow ⟨l.toArray⟩ (grownCap w l.length 0 e) = ((l.map fun c => Value.int .u8 c.toNat) ++ List.replicate (grownCap w l.length 0 e - l.length) (Value.int .u8 0)).toArray := by
        apply Array.ext'
        simp [bytesRow, hsz]
      rw [hrow] at hrun
      have hrl : AV.relL γ (l.map fun c => AV.i .u8 c.toNat) (l.map fun c => Value.int .u8 c.toNat) := relL_map (f := fun c : UInt8 => AV.i .u8 (c.toNat : Int)) (g := fun c => Value.int .u8 (c.toNat : Int)) (fun c => by simp only [AV.rel]) l
      have hlen : ((l.map fun c => Value.int .u8 c.toNat) ++ List.replicate (grownCap w l.length 0 e - l.length) (Value.int .u8 0)).length = grownCap w l.length 0 e := by simp; omega
      obtain ⟨h1, h2, h3⟩ := new_block (fl := fl) (t := e) (fr := (((l.map fun c => Value.int .u8 c.toNat) ++ List.replicate (grownCap w l.length 0 e - l.length) (Value.int .u8 0)).toArray.size, ((l.map fun c => Value.int .u8 c.toNat) ++ List.replicate (grownCap w l.length 0 e - l.length) (Value.int .u8 0)).toArray.size + 1)) (sp := List.replicate (grownCap w l.length 0 e - l.length) (Value.int .u8 0)) (hr.drew (w.drawn + 1)) hd hl hrl (.inr (by simp only [List.size_toArray]; exact Nat.le_refl _))
      refine ⟨.slice (some ⟨w.heap.size, 0, none⟩) l.length (grownCap w l.length 0 e), _, _, .inl ?_, h1, h2, ?_, h3⟩
      · simp only [execOp, ho, hx', Sem.run_bind, hrun, Result.andThen_ok, Sem.run_pure]
        rfl
      · exact new_slU hge (by rw [hlen]; omega)
  · simp at h

/-! Appending. -/
/-- What is appended: cells. -/
def srcE (P : Program) (sl : Ss) (hp : Hs) (z : Nat) (xt : TypeId) (x : Operand) : Option (Nat × List AV) := match P.underlying xt, evE sl x with
  | some .string, .s l => bif Nat.beq z 1 then some (l.length, l.map fun c => .i .u8 c.toNat) else none
  | some (.slice _), .sn => some (0, [])
  | some (.slice _), .se => some (0, [])
  | some (.slice _), .sl id off n _ _ => (match readOf hp id with
    | some cs => (match takeE (n * z) (dropE off cs) with
      | some l => bif Nat.ble off (lenL cs 0) && plainL l then some (n, l) else none
      | none => none)
    | none => none)
  | _, _ => none
structure AppSrc (P : Program) (size : Nat) (xt : TypeId) (x : Value) (n : Nat) (news : List Value) (w : World) : Prop where
  ty : (∃ e, P.underlying xt = some (.slice e)) ∨ P.underlying xt = some .string
  len : ∀ w', (Builtin.lenOf x).run P w' = .ok n w'
  first : (Builtin.firstCells size n x).run P w = .ok news.toArray w
  drew : (Builtin.firstCells size n x).run P w.drew = .ok news.toArray w.drew
  size : news.length = n * size
  plain : ∀ v ∈ news, plainCell v = true
theorem srcE_spec {γ : Gm} {w : World} (hs : SR γ sl a.tmps) (hl : HL γ hp w) {z n : Nat} {xt : TypeId} {x : Operand} {l : List AV} (h : srcE P sl hp z xt x = some (n, l)) :
    ∃ news, AV.relL γ l news ∧ plainL l = true ∧ AppSrc P z xt (a.eval x) n news w := by
  have hx := evE_rel hs x
  unfold srcE at h
  split at h
  · rename_i b hu he
    rw [he] at hx
    have hx' : a.eval x = .string ⟨b.toArray⟩ := hx
    cases hz : Nat.beq z 1
    · rw [hz] at h; simp at h
    · rw [hz, cond_true, Option.some.injEq, Prod.mk.injEq] at h
      have := Nat.eq_of_beq_eq_true hz
      subst this
      obtain ⟨rfl, rfl⟩ := h
      have hrl : AV.relL γ (b.map fun c => AV.i .u8 c.toNat) (b.map fun c => Value.int .u8 c.toNat) := relL_map (f := fun c : UInt8 => AV.i .u8 (c.toNat : Int)) (g := fun c => Value.int .u8 (c.toNat : Int)) (fun c => by simp only [AV.rel]) b
      have hpl : ∀ b : List UInt8, plainL (b.map fun c => AV.i .u8 c.toNat) = true := by
        intro b
        induction b with
        | nil => rfl
        | cons c b ih => simp only [List.map_cons, plainL, ih, AV.plain, Bool.and_self]
      have hsz : (⟨b.toArray⟩ : ByteArray).size = b.length := by simp [ByteArray.size]
      have hfc : ∀ w', (Builtin.firstCells 1 b.length (a.eval x)).run P w' = .ok (b.map fun c => Value.int .u8 c.toNat).toArray w' := by
        intro w'
        rw [hx']
        have e : (⟨b.toArray⟩ : ByteArray).extract 0 b.length = ⟨b.toArray⟩ := by
          apply ByteArray.ext
          rw [ByteArray.data_extract]
          simp
        simp only [Builtin.firstCells, e, Sem.run_pure]
        congr 1
        apply Array.ext'
        simp
      refine ⟨_, hrl, hpl b, .inr hu, fun w' => ?_, hfc w, hfc w.drew, by simp, plainL_rel (hpl b) hrl⟩
      rw [hx']
      simp only [Builtin.lenOf, hsz, Sem.run_pure]
  · rename_i e hu he
    rw [he] at hx
    have hx' : a.eval x = .slice none 0 0 := hx
    simp only [Option.some.injEq, Prod.mk.injEq] at h
    obtain ⟨rfl, rfl⟩ := h
    exact ⟨[], rfl, rfl, .inl ⟨e, hu⟩, fun w' => by rw [hx']; rfl, by rw [hx']; rfl, by rw [hx']; rfl, by simp, by simp⟩
  · rename_i e hu he
    rw [he] at hx
    obtain ⟨ad, c, hx'⟩ := hx
    simp only [Option.some.injEq, Prod.mk.injEq] at h
    obtain ⟨rfl, rfl⟩ := h
    have hf : ∀ w', (Builtin.firstCells z 0 (a.eval x)).run P w' = .ok ([] : List Value).toArray w' := by
      intro w'
      rw [hx']
      exact run_firstCells_some w' z 0 ad 0 c [] (by simp) (by simp)
    exact ⟨[], rfl, rfl, .inl ⟨e, hu⟩, fun w' => by rw [hx']; rfl, hf w, hf w.drew, by simp, by simp⟩
  · rename_i e id off m cap ex hu he
    rw [he] at hx
    split at h
    · rename_i cs hc
      split at h
      · rename_i l' ht
        cases hb : (Nat.ble off (lenL cs 0) && plainL l')
        · rw [hb] at h; simp at h
        · rw [hb, cond_true, Option.some.injEq, Prod.mk.injEq] at h
          obtain ⟨rfl, rfl⟩ := h
          simp only [Bool.and_eq_true] at hb
          obtain ⟨r, k, ds, sp, bt, fr, hr, hw, _, _, hrel⟩ := hl.read hc
          obtain ⟨ad, c, hx', _, _, _, hpt⟩ := hx
          have had := (hpt r k hr).1
          subst had
          obtain ⟨es, hlen, hes, hcell⟩ := row_cells ht hb.1 hrel
          have hf : ∀ w' : World, w'.heap[r]? = w.heap[r]? → (Builtin.firstCells z m (a.eval x)).run P w' = .ok es.toArray w' := by
            intro w' hw'
            rw [hx']
            exact run_firstCells_some w' z m ⟨r, off, none⟩ m c es hlen (hcell w' (by rw [hw']; exact hw))
          exact ⟨es, hes, hb.2, .inl ⟨e, hu⟩, fun w' => by rw [hx']; rfl, hf w rfl, hf w.drew rfl, hlen, plainL_rel hb.2 hes⟩
      · simp at h
    · simp at h
  · simp at h
theorem run_append_here {w w2 : World} {t xt ty e : TypeId} {size : Nat} (hu : P.underlying t = some (.slice e)) (hsz : szT P e = some size) {x : Value} {n : Nat} {news : List Value} (hs : AppSrc P size xt x n news w)
    {ad : Addr} {len cap : Nat} (hst : (storeCells (ad.add (len * size)) news).run P w = .ok () w2) (hroom : len + n ≤ cap) :
    (Builtin.append_ #[t, xt] ty #[.slice (some ad) len cap, x]).run P w = .ok (.slice (some ad) (len + n) cap) w2 := by
  rcases hs.ty with ⟨ex, hd⟩ | hd
  all_goals
    unfold Builtin.append_
    simp only [List.getElem?_toArray, List.getElem?_cons_zero, List.getElem?_cons_succ]
    simp only [Sem.run_bind, run_under hu, Result.andThen_ok, run_size hsz, run_under hd, Bool.false_eq_true, if_false, hs.len, if_pos hroom, Bool.not_false, if_true, hs.first, hst, Sem.run_pure]
theorem run_append_none {w : World} {t xt ty e : TypeId} {size : Nat} (hu : P.underlying t = some (.slice e)) (hsz : szT P e = some size) {x : Value} {n : Nat} (hs : AppSrc P size xt x n [] w)
    {ad : Option Addr} {len cap : Nat} (hroom : len + n ≤ cap) :
    (Builtin.append_ #[t, xt] ty #[.slice ad len cap, x]).run P w = .ok (.slice ad (len + n) cap) w := by
  have hf := hs.first
  rcases hs.ty with ⟨ex, hd⟩ | hd
  all_goals
    unfold Builtin.append_
    simp only [List.getElem?_toArray, List.getElem?_cons_zero, List.getElem?_cons_succ]
    cases ad with
    | none => simp only [Sem.run_bind, run_under hu, Result.andThen_ok, run_size hsz, run_under hd, Bool.false_eq_true, if_false, hs.len, if_pos hroom, Bool.not_false, if_true, hf, Sem.run_pure]
    | some a => simp only [Sem.run_bind, run_under hu, Result.andThen_ok, run_size hsz, run_under hd, Bool.false_eq_true, if_false, hs.len, if_pos hroom, Bool.not_false, if_true, hf, storeCells, Sem.run_pure]
theorem run_append_there {w : World} {t xt ty e : TypeId} {size bytes : Nat} (hu : P.underlying t = some (.slice e)) (hsz : szT P e = some size) {i : TypeInfo} {z : Value} (hi : P.info? e = some i) (hib : i.bytes = bytes) (hiz : i.zero = some z) {x : Value} {n : Nat} {news : List Value} (hs : AppSrc P size xt x n news w)
    {ad : Option Addr} {len cap : Nat} {olds : List Value} (holds : (Builtin.firstCells size len (.slice ad len cap)).run P w.drew = .ok olds.toArray w.drew) (hroom : cap < len + n) (h63 : len + n ≤ 9223372036854775807) (hfit : (len + n) * bytes ≤ 140737488355328) :
    (Builtin.append_ #[t, xt] ty #[.slice ad len cap, x]).run P w = .ok (.slice (some ⟨w.heap.size, 0, none⟩) (len + n) (grownCap w (len + n) cap e))
      (wpush w.drew (.cells (olds ++ (news ++ (Builtin.zeroCells z.cells (grownCap w (len + n) cap e - (len + n))).toList)).toArray e)) := by
  have hno : ¬ len + n ≤ cap := by omega
  have h48 : ¬ Builtin.nextslicecap (len + n) cap * i.bytes > 2 ^ 48 := by
    have := growslice_fits hroom (hib ▸ hfit)
    omega
  have hinfo : ∀ w, (typeInfo e).run P w = .ok i w := fun w => by simp [typeInfo, hi]
  have hzv : ∀ w, (zeroValue e).run P w = .ok z w := fun w => by simp [zeroValue, typeInfo, hi, hiz]
  have hch : (choose (.appendCap (len + n) cap e)).run P w = .ok (grownCap w (len + n) cap e) w.drew := by
    rw [run_choose]
    simp only [Question.forced, Bool.false_eq_true, if_false, grownCap]
    rfl
  rcases hs.ty with ⟨ex, hd⟩ | hd
  all_goals
    unfold Builtin.append_
    simp only [List.getElem?_toArray, List.getElem?_cons_zero, List.getElem?_cons_succ]
    simp only [Sem.run_bind, run_under hu, Result.andThen_ok, run_size hsz, run_under hd, Bool.false_eq_true, if_false, hs.len, if_neg hno, Bool.not_false, if_true, hinfo]
    have e2 : (((len + n : Nat) : Int) > IntKind.i64.max) = False := by
      have : IntKind.i64.max = 9223372036854775807 := by decide
      simp only [eq_iff_iff, iff_false]
      omega
    simp only [e2, hs.len, if_neg hno, hinfo, Bool.not_false, if_true, decide_false, Bool.false_and, Bool.false_eq_true, false_and, if_false, if_neg h48, decide_eq_true_eq, hch, Result.andThen_ok, Sem.run_bind, run_askRoom, holds, hs.drew, hzv, newRow, run_newObj, Sem.run_pure]
    congr 2
    apply Array.ext'
    simp
def fitsE (P : Program) (e : TypeId) (n : Nat) : Bool := Nat.ble (n * (byT P e + 1)) 1000000000
theorem fitsE_spec {e : TypeId} {n : Nat} (h : fitsE P e n = true) {x : TypeInfo} (hx : P.info? e = some x) : n ≤ 1000000000 ∧ n * x.bytes ≤ 1000000000 := by
  unfold fitsE byT at h
  rw [hx] at h
  have := Nat.le_of_ble_eq_true h
  simp only [Nat.mul_add] at this
  constructor <;> omega
def appE (P : Program) (sl : Ss) (hp : Hs) (d fl : Nat) (t xt : TypeId) (x y : Operand) : Option (AV × Hs) := match P.underlying t with
  | some (.slice e) => (match elemE P e with
    | some (z, _) => (match srcE P sl hp z xt y with
      | some (0, _) => (match lenAV (evE sl x) with
        | some _ => some (evE sl x, hp)
        | none => none)
      | some (n + 1, news) => (match evE sl x with
        | .sn => bif fitsE P e (n + 1) then some (.sl d 0 (n + 1) z false, sid hp d (.cells news)) else none
        | .sl id off len cap true => (match readOf hp id with
          | some cs => bif Nat.ble (len + (n + 1)) cap then
              (bif Nat.ble fl id then (match cellsOf hp id with
                | some cs2 => (match putE (off + len * z) news cs2 with
                  | some out => some (.sl id off (len + (n + 1)) cap true, sid hp id (.cells out))
                  | none => none)
                | none => none) else none)
            else (match takeE (len * z) (dropE off cs) with
              | some olds => bif Nat.ble off (lenL cs 0) && fitsE P e (len + (n + 1)) then some (.sl d 0 (len + (n + 1)) z false, sid hp d (.cells (olds ++ news))) else none
              | none => none)
          | none => none)
        | .sl id 0 len z' false => (match cellsOf hp id with
          | some cs => (match takeE (len * z) cs with
            | some olds => bif Nat.beq z' z && (Nat.ble fl id && fitsE P e (len + (n + 1))) then some (.sl d 0 (len + (n + 1)) z false, sid (sid hp id .dead) d (.cells (olds ++ news))) else none
            | none => none)
          | none => none)
        | _ => none)
      | none => none)
    | none => none)
  | _ => none
theorem spare_len {z : Value} {n m k : Nat} (hz : z.cells.size = n) : (Builtin.zeroCells z.cells (m - k)).toList.length = (m - k) * n := by
  simp [Builtin.zeroCells, hz]
theorem app_n {c : Call} {x y : Operand} {t xt : TypeId} (ho : o.op = .call c) (hcc : c.callee = .builtin .append) (ha : c.args.toList = [x, y]) (ht : c.argTypes.toList = [t, xt]) {v : AV} {hp' : Hs} (h : appE P sl hp d fl t xt x y = some (v, hp')) : NS P o a sl hp d fl v hp' := by
  intro F w0 γ w hr hs hd hl
  have ha' : c.args = #[x, y] := by apply Array.ext'; simpa using ha
  have ht' : c.argTypes = #[t, xt] := by apply Array.ext'; simpa using ht
  have exec : ∀ {u : Value} {w' : World}, (Builtin.append_ #[t, xt] o.type #[a.eval x, a.eval y]).run P w = .ok u w' → (execOp a.eval o).run P w = .ok (.value u) w' := by
    intro u w' hrun
    simp only [execOp, ho, resolve, hcc, ha', ht', List.map_toArray, List.map_cons, List.map_nil, Sem.run_bind, Sem.run_pure, Result.andThen_ok, invoke, builtin, hrun]
  have hx := evE_rel hs x
  unfold appE at h
  split at h
  · rename_i e hu
    split at h
    · rename_i z zc hel
      obtain ⟨hsz, hz0, hzl, hzp, i, zv, hi, hiz, his, hzr, hzs⟩ := elemE_spec hel γ
      split at h
      · rename_i l0 hsrc
        obtain ⟨news, hnr, hnp, hsrc⟩ := srcE_spec (w := w) hs hr.live hsrc
        have hnil : news = [] := List.length_eq_zero_iff.1 (by simpa using hsrc.size)
        subst hnil
        split at h
        · rename_i m hm
          simp only [Option.some.injEq, Prod.mk.injEq] at h
          obtain ⟨rfl, rfl⟩ := h
          obtain ⟨ad, cp, hx'⟩ := lenAV_spec hm hx
          have hle : m ≤ cp := by
            cases hex : evE sl x <;> rw [hex] at hm hx <;> simp only [lenAV, Option.some.injEq, reduceCtorEq] at hm
            case sn => subst hm; omega
            case se => subst hm; omega
            case sl id off len cap ex =>
              subst hm
              obtain ⟨ad', c', e', h1, _⟩ := hx
              rw [hx'] at e'
              cases e'
              exact h1
          have hrun := run_append_none (P := P) (w := w) (t := t) (xt := xt) (ty := o.type) hu hsz hsrc (ad := ad) (len := m) (cap := cp) hle
          rw [Nat.add_zero, ← hx'] at hrun
          exact ⟨_, γ, w, .inl (exec hrun), Gm.le_refl γ, hr.weak (fun _ h => h.1), hx, fun id r n _ h => ⟨h, rfl⟩⟩
        · simp at h
      · rename_i n l hsrc
        simp only [Nat.succ_eq_add_one] at hsrc
        obtain ⟨news, hnr, hnp, hsrc⟩ := srcE_spec (w := w) hs hr.live hsrc
        have hnl := hsrc.size
        have hlne : l ≠ [] := by
          intro e0
          subst e0
          have h1 := relL_length hnr
          rw [hnl] at h1
          have := Nat.mul_pos (show 0 < n + 1 by omega) (Nat.pos_of_ne_zero hz0)
          simp only [List.length_nil] at h1
          omega
        split at h
        · rename_i hex
          rw [hex] at hx
          have hx' : a.eval x = .slice none 0 0 := hx
          cases hfit : fitsE P e (n + 1)
          · rw [hfit] at h; simp at h
          · rw [hfit, cond_true, Option.some.injEq, Prod.mk.injEq] at h
            obtain ⟨rfl, rfl⟩ := h
            obtain ⟨f1, f2⟩ := fitsE_spec hfit hi
            have h0 : (Builtin.firstCells z 0 (.slice none 0 0)).run P w.drew = .ok ([] : List Value).toArray w.drew := rfl
            have hrun := run_append_there (P := P) (w := w) (t := t) (xt := xt) (ty := o.type) hu hsz hi rfl hiz hsrc h0 (by omega) (by omega) (by rw [Nat.zero_add]; omega)
            rw [← hx', Nat.zero_add] at hrun
            have hge := grownCap_ge w (n + 1) 0 e
            obtain ⟨h1, h2, h3⟩ := new_block (fl := fl) (t := e) (fr := (0, 0)) (sp := (Builtin.zeroCells zv.cells (grownCap w (n + 1) 0 e - (n + 1))).toList) (hr.drew (w.drawn + 1)) hd hl hnr (frOk_zero _)
            refine ⟨_, _, _, .inl (exec hrun), h1, h2, new_slU hge ?_, h3⟩
            rw [List.length_append, hnl, spare_len hzs, ← Nat.add_mul]
            exact Nat.mul_le_mul_right _ (by omega)
        · rename_i id off len cap hex
          rw [hex] at hx
          obtain ⟨ad, cp, hx', hle, hxc, hne, hpt⟩ := hx
          have hcp := hxc rfl
          subst hcp
          split at h
          · rename_i cs hc
            obtain ⟨r, k, ds, sp, bt, fr, hlive, hw, hf, hlen, hrel⟩ := hr.live.read hc
            have had := (hpt r k hlive).1
            subst had
            cases hroom : Nat.ble (len + (n + 1)) cp
            · rw [hroom, cond_false] at h
              split at h
              · rename_i olds ho'
                cases hb : (Nat.ble off (lenL cs 0) && fitsE P e (len + (n + 1)))
                · rw [hb] at h; simp at h
                · rw [hb, cond_true, Option.some.injEq, Prod.mk.injEq] at h
                  obtain ⟨rfl, rfl⟩ := h
                  simp only [Bool.and_eq_true] at hb
                  obtain ⟨f1, f2⟩ := fitsE_spec hb.2 hi
                  have hno : ¬ len + (n + 1) ≤ cp := by
                    intro hh
                    rw [Nat.ble_eq_true_of_le hh] at hroom
                    cases hroom
                  obtain ⟨es, hel', hes, hcell⟩ := row_cells ho' hb.1 hrel
                  have holds : (Builtin.firstCells z len (.slice (some ⟨r, off, none⟩) len cp)).run P w.drew = .ok es.toArray w.drew :=
                    run_firstCells_some w.drew z len ⟨r, off, none⟩ len cp es hel' (hcell w.drew hw)
                  have hrun := run_append_there (P := P) (w := w) (t := t) (xt := xt) (ty := o.type) hu hsz hi rfl hiz hsrc holds (by omega) (by omega) (by omega)
                  rw [← hx'] at hrun
                  have hge := grownCap_ge w (len + (n + 1)) cp e
                  obtain ⟨h1, h2, h3⟩ := new_block (fl := fl) (t := e) (fr := (0, 0)) (sp := (Builtin.zeroCells zv.cells (grownCap w (len + (n + 1)) cp e - (len + (n + 1)))).toList) (hr.drew (w.drawn + 1)) hd hl (relL_append hes hnr) (frOk_zero _)
                  rw [List.append_assoc] at h1 h2 h3
                  refine ⟨_, _, _, .inl (exec hrun), h1, h2, new_slU hge ?_, h3⟩
                  rw [List.length_append, List.length_append, hnl, hel', spare_len hzs, ← Nat.add_assoc, ← Nat.add_mul, ← Nat.add_mul]
                  exact Nat.mul_le_mul_right _ (by omega)
              · simp at h
            · rw [hroom, cond_true] at h
              have hroom' := Nat.le_of_ble_eq_true hroom
              cases hfl : Nat.ble fl id
              · rw [hfl] at h; simp at h
              · rw [hfl, cond_true] at h
                split at h
                case h_2 => simp at h
                rename_i cs2 hc2
                split at h
                · rename_i out hput
                  simp only [Option.some.injEq, Prod.mk.injEq] at h
                  obtain ⟨rfl, rfl⟩ := h
                  obtain ⟨r2, k2, w', hlive2, hst, hr', hfr⟩ := store_floor (P := P) (fl := fl) hr hc2 hput hnr hnp hlne (Nat.le_of_ble_eq_true hfl)
                  rw [hlive] at hlive2
                  cases hlive2
                  have hst' : (storeCells ((⟨r, off, none⟩ : Addr).add (len * z)) news).run P w = .ok () w' := by rw [add_off]; exact hst
                  have hrun := run_append_here (P := P) (t := t) (xt := xt) (ty := o.type) hu hsz hsrc hst' hroom'
                  rw [← hx'] at hrun
                  exact ⟨_, γ, w', .inl (exec hrun), Gm.le_refl γ, hr'.weak (fun _ h => h.1), ⟨_, _, rfl, hroom', fun _ => rfl, hne, hpt⟩, fun id' r' n' h1 h2 => ⟨h2, hfr id' r' n' h1 h2⟩⟩
                · simp at h
          · simp at h
        · rename_i id len z' hex
          rw [hex] at hx
          obtain ⟨ad, cp, hx', hle, _, hne, hpt⟩ := hx
          split at h
          · rename_i cs hc
            obtain ⟨r, k, ds, sp, bt, fr, hlive, hw, hf, hlen, hrel⟩ := hr.live.cells hc
            obtain ⟨had, hroomk⟩ := hpt r k hlive
            subst had
            split at h
            · rename_i olds ho'
              cases hb : (Nat.beq z' z && (Nat.ble fl id && fitsE P e (len + (n + 1))))
              · rw [hb] at h; simp at h
              · rw [hb, cond_true, Option.some.injEq, Prod.mk.injEq] at h
                obtain ⟨rfl, rfl⟩ := h
                simp only [Bool.and_eq_true] at hb
                obtain ⟨hzz, hfl, hfit⟩ := hb
                have hzz := Nat.eq_of_beq_eq_true hzz
                subst hzz
                have hfl := Nat.le_of_ble_eq_true hfl
                obtain ⟨f1, f2⟩ := fitsE_spec hfit hi
                have hkz := hroomk rfl
                rw [Nat.zero_add] at hkz
                obtain ⟨rfl, hole⟩ := takeE_spec ho'
                obtain ⟨p, es, q, rfl, hp', hel', _, hes, _⟩ := relL_cut hrel 0 (len * z') (by omega)
                have hp0 : p = [] := List.length_eq_zero_iff.1 hp'
                subst hp0
                simp only [List.drop_zero, List.nil_append] at hes hw hlen
                have hid : id < lim := gid_lt (cellsOf_gid hc)
                have hdne : d ≠ id := fun e' => by rw [e', hlive] at hd; cases hd
                have frame : ∀ {γ' : Gm} {w' : World}, (∀ j, j ≠ id → j ≠ d → γ' j = γ j) → (∀ j, j ≠ r → j < w.heap.size → w'.heap[j]? = w.heap[j]?) → ∀ id' r' n', id' < fl → γ id' = .live r' n' → γ' id' = .live r' n' ∧ w'.heap[r']? = w.heap[r']? := by
                  intro γ' w' hg hh id' r' n' h1 h2
                  have e1 : id' ≠ id := by omega
                  have e2 : id' ≠ d := fun e' => by rw [e', hd] at h2; cases h2
                  refine ⟨by rw [hg id' e1 e2]; exact h2, hh r' (fun e' => ?_) (hr.own id' r' n' h2).2⟩
                  exact e1 (hr.inj id' id r' n' k h2 (e' ▸ hlive))
                by_cases hroom : len + (n + 1) ≤ cp
                · have hlk : len * z' + (n + 1) * z' ≤ k := by
                    rw [← Nat.add_mul]
                    exact Nat.le_trans (Nat.mul_le_mul_right _ hroom) hkz
                  have hqs : news.length ≤ (q ++ sp).length := by
                    have : (es ++ (q ++ sp)).length = k := by rw [← hlen]; simp
                    rw [List.length_append, hel'] at this
                    rw [hnl]
                    omega
                  have hw' : w.heap[r]? = some (.cells (es ++ ((q ++ sp).take news.length ++ (q ++ sp).drop news.length)).toArray bt fr) := by rw [List.take_append_drop, hw]; simp
                  have hlen' : (es ++ ((q ++ sp).take news.length ++ (q ++ sp).drop news.length)).length = k := by rw [List.take_append_drop, ← hlen]; simp
                  have hnne : news ≠ [] := by
                    intro e0
                    rw [e0] at hnl
                    have := Nat.mul_pos (show 0 < n + 1 by omega) (Nat.pos_of_ne_zero hz0)
                    simp only [List.length_nil] at hnl
                    omega
                  have hst := run_storeCells (P := P) (off := len * z') news ((q ++ sp).take news.length) es ((q ++ sp).drop news.length) 0 w hw' (by rw [hlen']; exact hf) (by omega) (by rw [List.length_take]; omega) hsrc.plain hnne
                  have hst' : (storeCells ((⟨r, 0, none⟩ : Addr).add (len * z')) news).run P w = .ok () (wset w r (.cells (es ++ (news ++ (q ++ sp).drop news.length)).toArray bt fr)) := by rw [add_off, Nat.zero_add]; exact hst
                  have hrun := run_append_here (P := P) (t := t) (xt := xt) (ty := o.type) hu hsz hsrc hst' hroom
                  rw [← hx'] at hrun
                  have hle2 : Gm.le γ (setG (setG γ id .dead) d (.live r k)) := Gm.le_trans kill_le (setG_le (by rw [setG_ne hdne]; exact hd))
                  refine ⟨_, _, _, .inl (exec hrun), hle2, hr.move hlive hid (cellsOf_gid hc) rfl hd hl ⟨es ++ news, (q ++ sp).drop news.length, bt, fr, by rw [List.append_assoc], hf, ?_, AV.relL_mono hle2 (relL_append hes hnr)⟩, new_slU hroom hkz, frame (fun j h1 h2 => by rw [setG_ne h2, setG_ne h1]) (fun j h1 _ => set_ne (Ne.symm h1))⟩
                  rw [List.append_assoc, List.length_append, List.length_append, List.length_drop, ← hlen]
                  simp only [List.length_append]
                  simp only [List.length_append] at hqs
                  omega
                · have holds : (Builtin.firstCells z' len (.slice (some ⟨r, 0, none⟩) len cp)).run P w.drew = .ok es.toArray w.drew :=
                    run_firstCells_some w.drew z' len ⟨r, 0, none⟩ len cp es hel' (fun j u hj => by
                      rw [add_off, Nat.zero_add]
                      have hj' : j < es.length := by
                        rcases Nat.lt_or_ge j es.length with h | h
                        · exact h
                        · simp [List.getElem?_eq_none h] at hj
                      refine cell_at (show w.heap[r]? = _ from hw) ?_
                      rw [List.append_assoc, List.getElem?_append_left hj']
                      exact hj)
                  have hrun := run_append_there (P := P) (w := w) (t := t) (xt := xt) (ty := o.type) hu hsz hi rfl hiz hsrc holds (by omega) (by omega) (by omega)
                  rw [← hx'] at hrun
                  have hge := grownCap_ge w (len + (n + 1)) cp e
                  have hF : ¬ F id := fun hf' => by rw [hr.free id hf'] at hlive; cases hlive
                  have hk := hr.kill hid hF (cellsOf_gid hc) rfl
                  have hd' : setG γ id .dead d = .fresh := by rw [setG_ne hdne]; exact hd
                  obtain ⟨h1, h2, h3⟩ := new_block (fl := fl) (t := e) (fr := (0, 0)) (sp := (Builtin.zeroCells zv.cells (grownCap w (len + (n + 1)) cp e - (len + (n + 1)))).toList) (hk.drew (w.drawn + 1)) hd' hl (AV.relL_mono kill_le (relL_append hes hnr)) (frOk_zero _)
                  rw [List.append_assoc] at h1 h2 h3
                  refine ⟨_, _, _, .inl (exec hrun), Gm.le_trans kill_le h1, h2, new_slU hge ?_, frame (fun j e1 e2 => by rw [setG_ne e2, setG_ne e1]) (fun j e1 e2 => push_get (w := w.drew) e2)⟩
                  rw [List.length_append, List.length_append, hnl, hel', spare_len hzs, ← Nat.add_assoc, ← Nat.add_mul, ← Nat.add_mul]
                  exact Nat.mul_le_mul_right _ (by omega)
            · simp at h
          · simp at h
        · simp at h
      · simp at h
    · simp at h
  · simp at h
end
end Go.Proofs.Ytclgglffbpfmhaa
