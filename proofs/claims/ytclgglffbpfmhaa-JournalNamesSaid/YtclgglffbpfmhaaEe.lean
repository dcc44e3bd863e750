/- Maps asked, lengths, least and greatest; all the operations that turn nothing, as one. -/
import Derived.Test.YtclgglffbpfmhaaEd
import Derived.Laws.Externs
import Derived.KernelRfl
namespace Go.Proofs.Ytclgglffbpfmhaa
set_option linter.unusedSimpArgs false
set_option linter.unusedVariables false
section
variable {γ : Gm} {sl : Ss} {a : Act} {P : Program} {o : Oper} {hp : Hs} {w : World}

/-! Maps from numbers. -/
def findE (ki : IntKind) (k : Int) : List (AV × AV) → Nat → Option (Option (Nat × AV))
  | [], _ => some none
  | e :: r, i => match e.1 with
    | .i k' n => bif decide (k' = ki) then (bif decide (k = n) then some (some (i, e.2)) else findE ki k r (i + 1)) else none
    | _ => none
theorem findE_spec {ki : IntKind} {k : Int} {kt : IntKind} : ∀ {es : List (AV × AV)} {ms : List MapEntry} {i : Nat} {res : Option (Nat × AV)}, findE ki k es i = some res → relE γ es ms →
    match res with
    | none => Instr.findNow (.int kt) (.int ki k) ms i = some none
    | some (j, v) => ∃ u, v.rel γ u ∧ Instr.findNow (.int kt) (.int ki k) ms i = some (some (j, u)) ∧ i ≤ j ∧ ∃ e, ms[j - i]? = some e ∧ e.key = .int ki k
  | [], ms, i, res, h, hr => by
    simp only [findE, Option.some.injEq] at h
    subst h
    simp only [relE] at hr
    subst hr
    rfl
  | x :: r, ms, i, res, h, ⟨e, es', e1, h1, h2, h3⟩ => by
    subst e1
    unfold findE at h
    split at h
    · rename_i k' n hx
      rw [hx] at h1
      have hk : e.key = .int k' n := h1
      by_cases hki : k' = ki
      · subst hki
        simp only [decide_true, cond_true] at h
        have hs : Instr.sameNow (.int kt) (.int k' k) e.key = some (k == n) := by simp [Instr.sameNow, hk]
        by_cases hkn : k = n
        · subst hkn
          simp only [decide_true, cond_true, Option.some.injEq] at h
          subst h
          refine ⟨e.val, h2, ?_, Nat.le_refl _, e, by simp, hk⟩
          unfold Instr.findNow
          rw [hs]; simp
        · simp only [hkn, decide_false, cond_false] at h
          have ih := findE_spec (kt := kt) h h3
          have hb : (k == n) = false := by simpa using hkn
          cases res with
          | none =>
            simp only at ih ⊢
            unfold Instr.findNow
            rw [hs, hb]; exact ih
          | some jv =>
            obtain ⟨j, v⟩ := jv
            obtain ⟨u, hu, hf, hle, e', he', hk'⟩ := ih
            refine ⟨u, hu, ?_, by omega, e', ?_, hk'⟩
            · unfold Instr.findNow
              rw [hs, hb]; exact hf
            · have : j - i = (j - (i + 1)) + 1 := by omega
              rw [this]; simpa using he'
      · simp [hki] at h
    · simp at h
def mapOf (hp : Hs) (id : Nat) : Option (List (AV × AV)) := match gid hp id with
  | some (.map es) => some es
  | _ => none
theorem mapOf_gid {id : Nat} {es : List (AV × AV)} (h : mapOf hp id = some es) : gid hp id = some (.map es) := by
  unfold mapOf at h
  split at h
  · rename_i c hc
    simp only [Option.some.injEq] at h
    subst h; exact hc
  · simp at h
def rmapOf (hp : Hs) (id : Nat) : Option (List (AV × AV)) := match gid hp id with
  | some (.map es) => some es
  | some (.rm es) => some es
  | _ => none
theorem rmapOf_gid {id : Nat} {es : List (AV × AV)} (h : rmapOf hp id = some es) : ∃ b, gid hp id = some b := by
  unfold rmapOf at h
  split at h
  · rename_i c hc; exact ⟨_, hc⟩
  · rename_i c hc; exact ⟨_, hc⟩
  · simp at h
theorem HL.rmap (hl : HL γ hp w) {id : Nat} {es : List (AV × AV)} (h : rmapOf hp id = some es) :
    ∃ r n ms clock, γ id = .live r n ∧ w.heap[r]? = some (.map ms clock) ∧ relE γ es ms.toList := by
  unfold rmapOf at h
  split at h
  · rename_i c hc
    simp only [Option.some.injEq] at h
    subst h
    obtain ⟨r, n, o, hr, ho, ms, clock, e, hrel⟩ := hl id _ hc
    exact ⟨r, n, ms, clock, hr, by rw [ho, e], hrel⟩
  · rename_i c hc
    simp only [Option.some.injEq] at h
    subst h
    obtain ⟨r, n, o, hr, ho, ms, clock, e, hrel⟩ := hl id _ hc
    exact ⟨r, n, ms, clock, hr, by rw [ho, e], hrel⟩
  · simp at h
theorem HL.map (hl : HL γ hp w) {id : Nat} {es : List (AV × AV)} (h : mapOf hp id = some es) :
    ∃ r n ms clock, γ id = .live r n ∧ w.heap[r]? = some (.map ms clock) ∧ relE γ es ms.toList := by
  obtain ⟨r, n, o, hr, ho, ms, clock, e, hrel⟩ := hl id _ (mapOf_gid h)
  exact ⟨r, n, ms, clock, hr, by rw [ho, e], hrel⟩
theorem checkKey_int {kt : TypeId} {ki : IntKind} (hk : P.underlying kt = some (.int ki)) (b : Bool) (n : Nat) (v : Value) : (Instr.checkKey b (n + 1) kt v).run P w = .ok () w := by
  simp [Instr.checkKey, run_under hk]
def okT (ok : Bool) (v : AV) (b : Bool) : AV := bif ok then .tup [v, .b b] else v
theorem okT_rel {ok : Bool} {v : AV} {u : Value} (h : v.rel γ u) (b : Bool) : (okT ok v b).rel γ (if ok then .tuple #[u, .bool b] else u) := by
  cases ok
  · exact h
  · exact ⟨[u, .bool b], rfl, u, [.bool b], rfl, h, .bool b, [], rfl, rfl, rfl⟩
def lookupE (P : Program) (sl : Ss) (hp : Hs) (t : TypeId) (x ix : Operand) (ok : Bool) : Option AV := match P.underlying t with
  | some (.map kt et) => (match P.underlying kt, evE sl ix, zeT P et with
    | some (.int _), .i ki k, some z => (match evE sl x with
      | .m id => (match rmapOf hp id with
        | some es => (match findE ki k es 0 with
          | some (some (_, v)) => some (okT ok v true)
          | some none => some (okT ok z false)
          | none => none)
        | none => none)
      | .mn => some (okT ok z false)
      | _ => none)
    | _, _, _ => none)
  | _ => none
theorem lookup_q (hs : SR γ sl a.tmps) (hl : HL γ hp w) {t : TypeId} {x ix : Operand} {ok : Bool} (ho : o.op = .lookup t x ix ok) {v : AV} (h : lookupE P sl hp t x ix ok = some v) : QS P o a γ hp w v := by
  have hx := evE_rel hs x
  have hi := evE_rel hs ix
  unfold lookupE at h
  split at h
  · rename_i kt et hu
    split at h
    · rename_i kk ki k z hk he hz
      rw [he] at hi
      have hi' : a.eval ix = .int ki k := hi
      obtain ⟨zv, hzr, hzrun⟩ := run_zero (γ := γ) hz
      split at h
      · rename_i id hex
        rw [hex] at hx
        split at h
        · rename_i es hes
          obtain ⟨r, n, ms, clock, hr, hw, hrel⟩ := hl.rmap hes
          obtain ⟨r', hx', _, hpt⟩ := hx
          have := hpt r n hr
          subst this
          have hb : ∀ w' : World, SameL γ hp w w' → w'.heap[r']? = some (.map ms clock) := fun w' hw' => by rw [hw' id _ r' n (rmapOf_gid hes).choose_spec hr]; exact hw
          split at h
          · rename_i j v' hf
            simp only [Option.some.injEq] at h
            subst h
            obtain ⟨u, hu', hnow, _⟩ := findE_spec (kt := kk) hf hrel
            refine ⟨_, okT_rel hu' true, fun w' hw' => ?_⟩
            have hw2 := hb w' (hw' (by rw [ho]; rfl))
            have hfk : (Instr.findKey kt (.int ki k) ms.toList).run P w' = .ok (some (j, u)) w' := by simp [Instr.findKey, run_under hk, hnow]
            simp [execOp, ho, hx', hi', Instr.lookup, run_under hu, MapKept.run_getObj_map hw2, checkKey_int hk, hfk]
          · rename_i hf
            simp only [Option.some.injEq] at h
            subst h
            have hnow : Instr.findNow (.int kk) (.int ki k) ms.toList 0 = some none := findE_spec (kt := kk) hf hrel
            refine ⟨_, okT_rel hzr false, fun w' hw' => ?_⟩
            have hw2 := hb w' (hw' (by rw [ho]; rfl))
            have hfk : (Instr.findKey kt (.int ki k) ms.toList).run P w' = .ok none w' := by simp [Instr.findKey, run_under hk, hnow]
            simp [execOp, ho, hx', hi', Instr.lookup, run_under hu, MapKept.run_getObj_map hw2, checkKey_int hk, hfk, hzrun]
          · simp at h
        · simp at h
      · rename_i hex
        rw [hex] at hx
        have hx' : a.eval x = .map none := hx
        simp only [Option.some.injEq] at h
        subst h
        refine ⟨_, okT_rel hzr false, fun w' _ => ?_⟩
        have hfk : (Instr.findKey kt (.int ki k) []).run P w' = .ok none w' := by simp [Instr.findKey, run_under hk, Instr.findNow]
        simp [execOp, ho, hx', hi', Instr.lookup, run_under hu, checkKey_int hk, hfk, hzrun]
      · simp at h
    · simp at h
  · simp at h

/-! How long; least and greatest. -/
def lenAV : AV → Option Nat
  | .sn => some 0
  | .se => some 0
  | .sl _ _ n _ _ => some n
  | _ => none
theorem lenAV_spec {x : AV} {n : Nat} (h : lenAV x = some n) {v : Value} (hv : x.rel γ v) : ∃ a c, v = .slice a n c := by
  cases x <;> simp only [lenAV, Option.some.injEq, reduceCtorEq] at h
  case sn => subst h; exact ⟨none, 0, hv⟩
  case se => subst h; obtain ⟨a, c, e⟩ := hv; exact ⟨some a, c, e⟩
  case sl id off len cap ex => subst h; obtain ⟨a, c, e, _⟩ := hv; exact ⟨some a, c, e⟩
def lenE (P : Program) (sl : Ss) (t : TypeId) (x : Operand) : Option AV := match P.underlying t with
  | some .string => (match evE sl x with
    | .s b => some (.i .i64 b.length)
    | _ => none)
  | some (.array n _) => some (.i .i64 n)
  | some (.slice _) => (match lenAV (evE sl x) with
    | some n => some (.i .i64 n)
    | none => none)
  | some (.map _ _) => (match evE sl x with
    | .mn => some (.i .i64 0)
    | _ => none)
  | _ => none
def capE (P : Program) (sl : Ss) (t : TypeId) (x : Operand) : Option AV := match P.underlying t with
  | some (.slice _) => (match evE sl x with
    | .sn => some (.i .i64 0)
    | .sl _ _ _ c true => some (.i .i64 c)
    | _ => none)
  | _ => none
def mmE (sl : Ss) (mx : Bool) (k : IntKind) : Int → List Operand → Option Int
  | a, [] => some a
  | a, y :: r => match evE sl y with
    | .i _ b => mmE sl mx k (bif mx then (bif decide (a < b) then b else a) else (bif decide (b < a) then b else a)) r
    | _ => none
theorem mmE_spec (hs : SR γ sl a.tmps) {mx : Bool} {k : IntKind} : ∀ {r : List Operand} {n m : Int}, mmE sl mx k n r = some m →
    ∀ w, ((r.map a.eval).foldlM (bif mx then Builtin.max2 else Builtin.min2) (.int k n)).run P w = .ok (.int k m) w
  | [], n, m, h, w => by simp only [mmE, Option.some.injEq] at h; subst h; rfl
  | y :: r, n, m, h, w => by
    unfold mmE at h
    split at h
    · rename_i k' b he
      have hy := evE_rel hs y
      rw [he] at hy
      have hy' : a.eval y = .int k' b := hy
      have ih := mmE_spec hs h w
      have h2 : ((bif mx then Builtin.max2 else Builtin.min2) (.int k n) (.int k' b)).run P w = .ok (.int k (bif mx then (bif decide (n < b) then b else n) else (bif decide (b < n) then b else n))) w := by
        cases mx
        · simp only [cond_false, Builtin.min2, Sem.run_pure]
          congr 2
          by_cases h : b < n <;> simp [h]
        · simp only [cond_true, Builtin.max2, Sem.run_pure]
          congr 2
          by_cases h : n < b <;> simp [h]
      simp only [List.map_cons, List.foldlM_cons, Sem.run_bind, hy', h2, Result.andThen_ok, ih]
    · simp at h
def minmaxE (sl : Ss) (mx : Bool) (xs : List Operand) : Option AV := match xs with
  | x :: r => (match evE sl x with
    | .i k a => (match mmE sl mx k a r with
      | some n => some (.i k n)
      | none => none)
    | _ => none)
  | [] => none
def builtinE (P : Program) (sl : Ss) (c : Call) : Option AV := match c.callee, c.args.toList, c.argTypes.toList with
  | .builtin .len, [x], [t] => lenE P sl t x
  | .builtin .cap, [x], [t] => capE P sl t x
  | .builtin .min, xs, _ => minmaxE sl false xs
  | .builtin .max, xs, _ => minmaxE sl true xs
  | _, _, _ => none
theorem minmax_q (hs : SR γ sl a.tmps) {c : Call} {mx : Bool} (ho : o.op = .call c) (hc : c.callee = .builtin (bif mx then .max else .min)) {v : AV} (h : minmaxE sl mx c.args.toList = some v) : QS P o a γ hp w v := by
  unfold minmaxE at h
  split at h
  · rename_i x r hxr
    have ha' : c.args = (x :: r).toArray := by apply Array.ext'; simpa using hxr
    split at h
    · rename_i k n he
      have hx := evE_rel hs x
      rw [he] at hx
      have hx' : a.eval x = .int k n := hx
      split at h
      · rename_i m hm
        simp only [Option.some.injEq] at h
        subst h
        have hrun := mmE_spec (P := P) hs hm
        refine ⟨.int k m, rfl, fun w' _ => ?_⟩
        have hargs : (c.args.map a.eval).toList = .int k n :: r.map a.eval := by rw [ha']; simp [hx']
        cases mx
        · simp only [cond_false] at hc hrun
          simp only [execOp, ho, resolve, hc, Sem.run_bind, Sem.run_pure, Result.andThen_ok, invoke, builtin, Builtin.min_, hargs, hrun w']
        · simp only [cond_true] at hc hrun
          simp only [execOp, ho, resolve, hc, Sem.run_bind, Sem.run_pure, Result.andThen_ok, invoke, builtin, Builtin.max_, hargs, hrun w']
      · simp at h
    · simp at h
  · simp at h
theorem builtin_q (hs : SR γ sl a.tmps) {c : Call} (ho : o.op = .call c) {v : AV} (h : builtinE P sl c = some v) : QS P o a γ hp w v := by
  unfold builtinE at h
  split at h
  · rename_i x t hc ha ht
    have ha' : c.args = #[x] := by apply Array.ext'; simpa using ha
    have ht' : c.argTypes = #[t] := by apply Array.ext'; simpa using ht
    have hx := evE_rel hs x
    have key : ∀ (n : Int), (∀ w', (Builtin.len_ #[t] o.type #[a.eval x]).run P w' = .ok (goInt n) w') → QS P o a γ hp w (.i .i64 n) := by
      intro n hrun
      refine ⟨.int .i64 n, rfl, fun w' _ => ?_⟩
      simp [execOp, ho, resolve, hc, ha', ht', invoke, builtin, hrun, goInt]
    unfold lenE at h
    split at h
    · rename_i hu
      split at h
      · rename_i b he
        rw [he] at hx
        have hx' : a.eval x = .string ⟨b.toArray⟩ := hx
        simp only [Option.some.injEq] at h
        subst h
        refine key _ fun w' => ?_
        have e : (⟨b.toArray⟩ : ByteArray).size = b.length := by simp [ByteArray.size]
        simp only [Builtin.len_, hx', List.getElem?_toArray, List.getElem?_cons_zero, Sem.run_bind, run_under hu, Result.andThen_ok, e, Sem.run_pure]
      · simp at h
    · rename_i n e hu
      simp only [Option.some.injEq] at h
      subst h
      refine key _ fun w' => ?_
      simp [Builtin.len_, run_under hu]
    · rename_i e hu
      split at h
      · rename_i n hn
        simp only [Option.some.injEq] at h
        subst h
        obtain ⟨ad, cp, e'⟩ := lenAV_spec hn hx
        refine key _ fun w' => ?_
        simp [Builtin.len_, run_under hu, e']
      · simp at h
    · rename_i k e hu
      split at h
      · rename_i he
        rw [he] at hx
        have hx' : a.eval x = .map none := hx
        simp only [Option.some.injEq] at h
        subst h
        refine key _ fun w' => ?_
        simp [Builtin.len_, run_under hu, hx']
      · simp at h
    · simp at h
  · rename_i x t hc ha ht
    have ha' : c.args = #[x] := by apply Array.ext'; simpa using ha
    have ht' : c.argTypes = #[t] := by apply Array.ext'; simpa using ht
    have hx := evE_rel hs x
    have key : ∀ (n : Int), (∀ w', (Builtin.cap_ #[t] o.type #[a.eval x]).run P w' = .ok (goInt n) w') → QS P o a γ hp w (.i .i64 n) := by
      intro n hrun
      refine ⟨.int .i64 n, rfl, fun w' _ => ?_⟩
      simp [execOp, ho, resolve, hc, ha', ht', invoke, builtin, hrun, goInt]
    unfold capE at h
    split at h
    · rename_i e hu
      split at h
      · rename_i he
        rw [he] at hx
        have hx' : a.eval x = .slice none 0 0 := hx
        simp only [Option.some.injEq] at h
        subst h
        refine key _ fun w' => ?_
        simp [Builtin.cap_, run_under hu, hx']
      · rename_i id off len cp he
        rw [he] at hx
        obtain ⟨ad, cc, hx', _, hex, _⟩ := hx
        have := hex rfl
        subst this
        simp only [Option.some.injEq] at h
        subst h
        refine key _ fun w' => ?_
        simp [Builtin.cap_, run_under hu, hx']
      · simp at h
    · simp at h
  · rename_i hc
    exact minmax_q (mx := false) hs ho hc h
  · rename_i hc
    exact minmax_q (mx := true) hs ho hc h
  · simp at h

/-! A function that the model itself has. -/
theorem find_add64 {fn : Func} (hn : fn.name = "math/bits.Add64") (ho : fn.origin = "") : Extern.findNext fn = none ∧ Extern.find fn = some add64Entry := by
  cases fn
  simp only at hn ho
  subst hn ho
  exact ⟨by kernel_rfl, by kernel_rfl⟩
def isAdd64 (fn : Func) : Bool := fn.body.isNone && (decide (fn.name = "math/bits.Add64") && decide (fn.origin = ""))
def externE (P : Program) (sl : Ss) (c : Call) : Option AV := match c.callee with
  | .value f => (match evE sl f with
    | .f g [] => (match P.funcs[g]? with
      | some fn => bif isAdd64 fn then (match c.args.toList.map (evE sl) with
        | [.i .u64 x, .i .u64 y, .i .u64 z] => bif decide (0 ≤ x) && (decide (0 ≤ y) && (decide (0 ≤ z) && decide (z ≤ 1))) then
            some (.tup [.i .u64 ((x + y + z) % 18446744073709551616), .i .u64 ((x + y + z) / 18446744073709551616)]) else none
        | _ => none) else none
      | none => none)
    | _ => none)
  | _ => none
theorem extern_q (hs : SR γ sl a.tmps) {c : Call} (ho : o.op = .call c) {v : AV} (h : externE P sl c = some v) : QS P o a γ hp w v := by
  unfold externE at h
  split at h
  · rename_i f hc
    have hf := evE_rel hs f
    split at h
    · rename_i g he
      rw [he] at hf
      obtain ⟨cs, hf', hcs⟩ := hf
      simp only [AV.relL] at hcs
      subst hcs
      split at h
      · rename_i fn hfn
        cases hx : isAdd64 fn
        · rw [hx] at h; simp at h
        · rw [hx, cond_true] at h
          simp only [isAdd64, Bool.and_eq_true, decide_eq_true_eq] at hx
          obtain ⟨hb, hn, hor⟩ := hx
          obtain ⟨hn1, hn2⟩ := find_add64 hn hor
          split at h
          · rename_i x y z hargs
            have hrel := evE_map hs c.args.toList
            rw [hargs] at hrel
            obtain ⟨u1, _, e1, hu1, u2, _, e2, hu2, u3, _, e3, hu3, hnil⟩ := hrel
            simp only [AV.relL] at hnil
            subst hnil e3 e2
            have hu1 : u1 = .int .u64 x := hu1
            have hu2 : u2 = .int .u64 y := hu2
            have hu3 : u3 = .int .u64 z := hu3
            cases hr : decide (0 ≤ x) && (decide (0 ≤ y) && (decide (0 ≤ z) && decide (z ≤ 1)))
            · rw [hr] at h; simp at h
            · rw [hr, cond_true, Option.some.injEq] at h
              simp only [Bool.and_eq_true, decide_eq_true_eq] at hr
              obtain ⟨h1, h2, h3, h4⟩ := hr
              subst h
              refine ⟨.tuple #[.int .u64 ((x + y + z) % 18446744073709551616), .int .u64 ((x + y + z) / 18446744073709551616)], ⟨[_, _], rfl, _, _, rfl, rfl, _, _, rfl, rfl, rfl⟩, fun w' _ => ?_⟩
              have hname : (fn.name == "runtime.NumGoroutine") = false := by rw [hn]; rfl
              have ha : c.args.map a.eval = #[.int .u64 x, .int .u64 y, .int .u64 z] := by
                apply Array.ext'; simpa [hu1, hu2, hu3] using e1
              simp only [execOp, ho, resolve, hc, hf', Deferred.ofValue, Sem.run_bind, Sem.run_pure, Result.andThen_ok, invoke, ha]
              rw [show (#[] ++ #[Value.int .u64 x, .int .u64 y, .int .u64 z] ++ ([] : List Value).toArray : Array Value) = #[.int .u64 x, .int .u64 y, .int .u64 z] from rfl,
                run_callFunc_extern hfn hname hb hn1 hn2, run_add64 x y z h1 h2 h3 h4]
              rfl
          · simp at h
      · simp at h
    · simp at h
  · simp at h

/-! All of them. -/
def pickE (sl : Ss) (c a b : Operand) : Option AV := match evE sl c with
  | .b true => some (evE sl a)
  | .b false => some (evE sl b)
  | _ => none
def quietE (P : Program) (sl : Ss) (hp : Hs) (o : Oper) : Option AV := match o.op with
  | .move x => some (evE sl x)
  | .assign x => some (evE sl x)
  | .pick c a b => pickE sl c a b
  | .load t x => loadE P sl hp t x
  | .nilCheck x => nilCheckE P sl x
  | .fieldAddr t x f => fieldAddrE P sl t x f
  | .field t x f => fieldVE P sl t x f
  | .indexAddr t x i => indexAddrE P sl t x i
  | .index t x i => indexE P sl t x i
  | .extract x n => extractE sl x n
  | .binOp op t x y _ => binE P op t (evE sl x) (evE sl y)
  | .unOp op _ x => unE op (evE sl x)
  | .convert a b x => convE P sl hp a b x
  | .build t parts => buildE P sl t parts.toList
  | .slice t x lo hi mx => sliceE P sl t x lo hi mx
  | .makeFunc f first cap => makeFuncE sl f first.toList cap.toList
  | .makeInterface t x => makeIfcE P sl t x
  | .sliceToArrayPointer t x => arrayAtE P sl t x
  | .lookup t x i ok => lookupE P sl hp t x i ok
  | .call c => (match builtinE P sl c with
    | some v => some v
    | none => externE P sl c)
  | _ => none
theorem quiet_q (hs : SR γ sl a.tmps) (hl : HL γ hp w) {v : AV} (h : quietE P sl hp o = some v) : QS P o a γ hp w v := by
  unfold quietE at h
  split at h
  · rename_i x ho
    simp only [Option.some.injEq] at h
    subst h
    exact ⟨a.eval x, evE_rel hs x, fun w' _ => by simp [execOp, ho]⟩
  · rename_i x ho
    simp only [Option.some.injEq] at h
    subst h
    exact ⟨a.eval x, evE_rel hs x, fun w' _ => by simp [execOp, ho]⟩
  · rename_i c x y ho
    have hc := evE_rel hs c
    unfold pickE at h
    split at h
    · rename_i he
      rw [he] at hc
      have hc' : a.eval c = .bool true := hc
      simp only [Option.some.injEq] at h
      subst h
      exact ⟨a.eval x, evE_rel hs x, fun w' _ => by simp [execOp, ho, hc', asBool]⟩
    · rename_i he
      rw [he] at hc
      have hc' : a.eval c = .bool false := hc
      simp only [Option.some.injEq] at h
      subst h
      exact ⟨a.eval y, evE_rel hs y, fun w' _ => by simp [execOp, ho, hc', asBool]⟩
    · simp at h
  · rename_i ho; exact load_q hs hl ho h
  · rename_i ho; exact nilCheck_q hs ho h
  · rename_i ho; exact fieldAddr_q hs ho h
  · rename_i ho; exact field_q hs ho h
  · rename_i ho; exact indexAddr_q hs ho h
  · rename_i ho; exact index_q hs ho h
  · rename_i ho; exact extract_q hs ho h
  · rename_i ho; exact bin_q hs ho h
  · rename_i ho; exact un_q hs ho h
  · rename_i ho; exact conv_q hs hl ho h
  · rename_i ho; exact build_q hs ho h
  · rename_i ho; exact slice_q hs ho h
  · rename_i ho; exact makeFunc_q hs ho h
  · rename_i ho; exact makeIfc_q hs ho h
  · rename_i ho; exact arrayAt_q hs ho h
  · rename_i ho; exact lookup_q hs hl ho h
  · rename_i c ho
    split at h
    · rename_i v' hv
      simp only [Option.some.injEq] at h
      subst h
      exact builtin_q hs ho hv
    · exact extern_q hs ho h
  · simp at h
end
end Go.Proofs.Ytclgglffbpfmhaa
