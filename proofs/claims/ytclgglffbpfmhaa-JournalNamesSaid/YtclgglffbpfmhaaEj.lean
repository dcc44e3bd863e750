/- Regions that draw their order: what turns nothing comes first; the others come one behind the other. -/
import Derived.Test.YtclgglffbpfmhaaEi
namespace Go.Proofs.Ytclgglffbpfmhaa
set_option linter.unusedSimpArgs false
set_option linter.unusedVariables false

section
variable {P : Program} {ops : Array Oper} {Q : Exit → Act → World → Prop} {S : World → Prop} {T : Array Bool → World → Prop}

/-- Whatever order is picked from here on, and T holds behind every operation. -/
def wpAnyT (P : Program) (ops : Array Oper) (Q : Exit → Act → World → Prop) (T : Array Bool → World → Prop) : Nat → Array Bool → Act → World → Prop
  | 0, listed, a, w => Region.ready .any ops listed = [] ∧ Q .normal a w
  | fuel + 1, listed, a, w =>
    (Region.ready .any ops listed = [] → Q .normal a w) ∧
    ∀ i ∈ Region.ready .any ops listed, wpOp P ops Q i (fun a' w' => T (listed.setIfInBounds i true) w' ∧ wpAnyT P ops Q T fuel (listed.setIfInBounds i true) a' w') a w
theorem wpAny_of_T : ∀ (fuel : Nat) (listed : Array Bool) (a : Act) (w : World), wpAnyT P ops Q T fuel listed a w → wpAny P .any ops Q fuel listed a w
  | 0, _, _, _, h => h
  | fuel + 1, _, _, _, h => ⟨h.1, fun i hi => wpOp_mono (fun a' w' h' => wpAny_of_T fuel _ a' w' h'.2) (h.2 i hi)⟩
/-- What is listed has all that it waits for listed. -/
def Down (ops : Array Oper) (listed : Array Bool) : Prop := ∀ j, listed.getD j false = true → ∀ oj, ops[j]? = some oj → ∀ e ∈ oj.after, Region.binds .any e = true → listed.getD e.on false = true
theorem Down.set {listed : Array Bool} (h : Down ops listed) {i : Nat} (hi : i ∈ Region.ready .any ops listed) : Down ops (listed.setIfInBounds i true) := by
  intro j hj oj hoj e he hb
  by_cases hij : i = j
  · subst hij
    obtain ⟨_, o, ho, hall⟩ := mem_ready.1 hi
    rw [ho] at hoj
    simp only [Option.some.injEq] at hoj
    subst hoj
    exact getD_set_true (hall e he hb)
  · rw [getD_set_ne false hij] at hj
    exact getD_set_true (h j hj oj hoj e he hb)
theorem unlisted_false {listed : Array Bool} {i : Nat} (h : listed.getD i true = false) : listed.getD i false = false := by
  rcases Nat.lt_or_ge i listed.size with h' | h'
  · simpa [h'] using h
  · simp [Array.getElem?_eq_none h']
theorem wpAnyT_first {i : Nat} {oi : Oper} {v : Value} (hi : ops[i]? = some oi) (hsel : ∀ (j : Nat) (o : Oper) cs b, ops[j]? = some o → o.op ≠ .select cs b)
    (hQ : ∀ c a w, Q (.panic c) (a.put oi.dst v) w → Q (.panic c) a w) (hT : ∀ (listed : Array Bool) (j : Nat) (w : World), T ((listed.setIfInBounds i true).setIfInBounds j true) w → T (listed.setIfInBounds j true) w)
    (hS : ∀ (listed : Array Bool) (j : Nat) (w : World), Down ops listed → listed.getD i true = false → j ∈ Region.ready .any ops listed → T ((listed.setIfInBounds i true).setIfInBounds j true) w → S w) :
    ∀ (fuel : Nat) (listed : Array Bool) (a : Act) (w : World), Down ops listed →
      (∀ j oj, ops[j]? = some oj → j ≠ i → listed.getD j true = false → (∀ e ∈ oj.after, Region.binds .any e = true → e.on ≠ i) → oi.apart ops oj = true) →
      i ∈ Region.ready .any ops listed → YieldsIf P ops S oi v a → S w → T (listed.setIfInBounds i true) w →
      wpAnyT P ops Q T fuel (listed.setIfInBounds i true) (a.put oi.dst v) w → wpAnyT P ops Q T (fuel + 1) listed a w := by
  intro fuel
  induction fuel with
  | zero =>
    intro listed a w _ _ hr hy hSw hTw H
    refine ⟨fun h => (by rw [h] at hr; cases hr), fun j hj => ?_⟩
    by_cases hji : j = i
    · subst hji; exact hy.wpOp hi hSw ⟨hTw, H⟩
    · have := ready_mono hj hji
      rw [H.1] at this
      cases this
  | succ fuel ih =>
    intro listed a w hd hfree hr hy hSw hTw H
    refine ⟨fun h => (by rw [h] at hr; cases hr), fun j hj => ?_⟩
    by_cases hji : j = i
    · subst hji; exact hy.wpOp hi hSw ⟨hTw, H⟩
    · have h1 := H.2 j (ready_mono hj hji)
      obtain ⟨hjun, oj, hoj, hall⟩ := mem_ready.1 hj
      have hiun := (mem_ready.1 hr).1
      have hnot : ∀ e ∈ oj.after, Region.binds .any e = true → e.on ≠ i := fun e he hb heq => by
        have h1 := hall e he hb
        rw [heq, unlisted_false hiun] at h1
        cases h1
      have h2 := wpOp_putIf hoj (hfree j oj hoj hji hjun hnot) (fun cs b => hsel i oi cs b hi) (fun cs b => hsel j oj cs b hoj) hQ hy h1
      have hfree' : ∀ k ok, ops[k]? = some ok → k ≠ i → (listed.setIfInBounds j true).getD k true = false →
          (∀ e ∈ ok.after, Region.binds .any e = true → e.on ≠ i) → oi.apart ops ok = true := fun k ok hk hki hun hno => by
        refine hfree k ok hk hki ?_ hno
        by_cases hjk : j = k
        · subst hjk; exact hjun
        · rw [getD_set_ne true hjk] at hun; exact hun
      refine wpOp_mono (fun a' w' h3 => ⟨hT _ _ _ h3.2.1, ?_⟩) h2
      refine ih (listed.setIfInBounds j true) a' w' (hd.set hj) hfree' (ready_mono hr (Ne.symm hji)) h3.1 (hS listed j w' hd hiun hj h3.2.1) ?_ ?_
      · rw [Array.setIfInBounds_comm _ _ hji]; exact h3.2.1
      · rw [Array.setIfInBounds_comm _ _ hji]; exact h3.2.2
/-- None of the late ones has come up. -/
def early (late : List Nat) (listed : Array Bool) : Bool := late.all fun j => !listed.getD j false
theorem early_set {late : List Nat} {listed : Array Bool} {i : Nat} (hi : i ∉ late) : early late (listed.setIfInBounds i true) = early late listed := by
  unfold early
  rw [Bool.eq_iff_iff]
  simp only [List.all_eq_true]
  constructor
  · intro h j hj
    have := h j hj
    rwa [getD_set_ne false (show i ≠ j from fun e => hi (e ▸ hj))] at this
  · intro h j hj
    rw [getD_set_ne false (show i ≠ j from fun e => hi (e ▸ hj))]
    exact h j hj
theorem early_mono {late : List Nat} {listed : Array Bool} {i : Nat} (h : early late (listed.setIfInBounds i true) = true) : early late listed = true := by
  unfold early at *
  simp only [List.all_eq_true, Bool.not_eq_true'] at *
  intro j hj
  have := h j hj
  cases hx : listed.getD j false with
  | false => rfl
  | true => rw [getD_set_true hx] at this; cases this
theorem lt_of_ready {i : Nat} {listed : Array Bool} (h : i ∈ Region.ready .any ops listed) : i < listed.size := by
  have := (mem_ready.1 h).1
  rcases Nat.lt_or_ge i listed.size with h' | h'
  · exact h'
  · simp [Array.getElem?_eq_none h'] at this
theorem early_late {late : List Nat} {i : Nat} {listed : Array Bool} (hi : i ∈ late) (hl : i < listed.size) : early late (listed.setIfInBounds i true) = false := by
  cases h : early late (listed.setIfInBounds i true) with
  | false => rfl
  | true =>
    unfold early at h
    simp only [List.all_eq_true, Bool.not_eq_true'] at h
    have := h i hi
    simp [hl] at this
theorem done_any {listed : Array Bool} {a : Act} {w : World} (hr : Region.ready .any ops listed = []) (h : Q .normal a w) : ∀ fuel, wpAnyT P ops Q T fuel listed a w
  | 0 => ⟨hr, h⟩
  | _ + 1 => ⟨fun _ => h, by rw [hr]; simp⟩
end

/-! Who waits for whom: numbers' bits. -/
def maskOf (ms : List Nat) : List Edge → Nat
  | [] => 0
  | e :: r => (bif Region.binds .any e then 2 ^ e.on ||| ms.getD e.on 0 else 0) ||| maskOf ms r
def masksE : List Oper → List Nat → List Nat
  | [], ms => ms
  | o :: r, ms => masksE r (ms ++ [maskOf ms o.after.toList])
/-- A row of masks is right. -/
def MsOk (ops : Array Oper) (ms : List Nat) : Prop := ∀ j i, (ms.getD j 0).testBit i = true → ∀ (listed : Array Bool), Down ops listed → (∀ oj, ops[j]? = some oj → ∀ e ∈ oj.after, Region.binds .any e = true → listed.getD e.on false = true) → listed.getD i false = true
theorem maskOf_spec {ops : Array Oper} {ms : List Nat} (hms : MsOk ops ms) (hsub : ∀ j, ms.getD j 0 ≠ 0 → ∃ oj, ops[j]? = some oj) {listed : Array Bool} (hd : Down ops listed) : ∀ (l : List Edge) {i : Nat}, (maskOf ms l).testBit i = true → (∀ e ∈ l, Region.binds .any e = true → listed.getD e.on false = true) → listed.getD i false = true
  | [], i, h, _ => by simp [maskOf] at h
  | e :: r, i, h, hall => by
    unfold maskOf at h
    rw [Nat.testBit_or, Bool.or_eq_true] at h
    rcases h with h | h
    · cases hb : Region.binds .any e
      · rw [hb] at h; simp at h
      · rw [hb, cond_true, Nat.testBit_or, Bool.or_eq_true] at h
        have hl := hall e (by simp) hb
        rcases h with h | h
        · rw [Nat.testBit_two_pow] at h
          have : e.on = i := by simpa using h
          rw [← this]; exact hl
        · refine hms e.on i h listed hd fun oj hoj e' he' hb' => hd e.on hl oj hoj e' he' hb'
    · exact maskOf_spec hms hsub hd r h fun e' he' => hall e' (by simp [he'])
theorem masksE_ok {ops : Array Oper} : ∀ (r : List Oper) (ms : List Nat), (∀ k o, r[k]? = some o → ops[ms.length + k]? = some o) → MsOk ops ms → MsOk ops (masksE r ms)
  | [], ms, _, h => h
  | o :: r, ms, hr, h => by
    unfold masksE
    refine masksE_ok r _ ?_ ?_
    · intro k o' hk
      have := hr (k + 1) o' (by simpa using hk)
      rw [List.length_append, List.length_singleton]
      rw [← this]
      congr 1
      omega
    · intro j i hb listed hd hall
      rw [List.getD_eq_getElem?_getD] at hb
      by_cases hj : j < ms.length
      · rw [List.getElem?_append_left hj, ← List.getD_eq_getElem?_getD] at hb
        exact h j i hb listed hd hall
      · by_cases hj2 : j = ms.length
        · subst hj2
          rw [List.getElem?_append_right (Nat.le_refl _), Nat.sub_self] at hb
          simp only [List.getElem?_cons_zero, Option.getD_some] at hb
          have ho := hr 0 o (by simp)
          rw [Nat.add_zero] at ho
          have hsub : ∀ (l : List Edge) {i : Nat}, (maskOf ms l).testBit i = true → (∀ e ∈ l, Region.binds .any e = true → listed.getD e.on false = true) → listed.getD i false = true := by
            intro l
            induction l with
            | nil => intro i h; simp [maskOf] at h
            | cons e r ih =>
              intro i h' hall'
              unfold maskOf at h'
              rw [Nat.testBit_or, Bool.or_eq_true] at h'
              rcases h' with h' | h'
              · cases hbb : Region.binds .any e
                · rw [hbb] at h'; simp at h'
                · rw [hbb, cond_true, Nat.testBit_or, Bool.or_eq_true] at h'
                  have hl := hall' e (by simp) hbb
                  rcases h' with h' | h'
                  · rw [Nat.testBit_two_pow] at h'
                    have : e.on = i := by simpa using h'
                    rw [← this]; exact hl
                  · exact h e.on i h' listed hd fun oj hoj e' he' hb' => hd e.on hl oj hoj e' he' hb'
              · exact ih h' fun e' he' => hall' e' (by simp [he'])
          exact hsub o.after.toList hb fun e he hbb => hall o ho e (by simpa using he) hbb
        · rw [List.getElem?_eq_none (by simp; omega)] at hb
          simp at hb
theorem masks_ok (ops : Array Oper) : MsOk ops (masksE ops.toList []) :=
  masksE_ok ops.toList [] (fun k o h => by simpa using h) (fun j i hb => by simp at hb)

/-! A plan. -/
def isQuietE : Op → Bool
  | .move _ => true
  | .assign _ => true
  | .pick _ _ _ => true
  | .load _ _ => true
  | .nilCheck _ => true
  | .fieldAddr _ _ _ => true
  | .field _ _ _ => true
  | .indexAddr _ _ _ => true
  | .index _ _ _ => true
  | .extract _ _ => true
  | .binOp _ _ _ _ _ => true
  | .unOp _ _ _ => true
  | .convert _ _ _ => true
  | .build _ _ => true
  | .slice _ _ _ _ _ => true
  | .makeFunc _ _ _ => true
  | .makeInterface _ _ => true
  | .sliceToArrayPointer _ _ => true
  | .lookup _ _ _ _ => true
  | .call c => (match c.callee with
    | .builtin .len => true
    | .builtin .cap => true
    | .builtin .min => true
    | .builtin .max => true
    | _ => false)
  | _ => false
def rdyE (ops : Array Oper) (listed : Array Bool) (i : Nat) : Bool := !listed.getD i true && (match ops[i]? with
  | some o => o.after.toList.all fun e => !Region.binds .any e || listed.getD e.on false
  | none => false)
theorem rdyE_spec {ops : Array Oper} {listed : Array Bool} {i : Nat} (h : rdyE ops listed i = true) : i ∈ Region.ready .any ops listed := by
  unfold rdyE at h
  rw [Bool.and_eq_true] at h
  obtain ⟨h1, h2⟩ := h
  split at h2
  · rename_i o ho
    rw [mem_ready]
    refine ⟨by simpa using h1, o, ho, fun e he hb => ?_⟩
    rw [List.all_eq_true] at h2
    have := h2 e (by simpa using he)
    simpa [hb] using this
  · simp at h2
/-- What comes first. -/
def planA (ops : Array Oper) : List Nat → Array Bool → List Nat
  | [], _ => []
  | i :: r, listed => bif (match ops[i]? with
      | some o => isQuietE o.op
      | none => false) && (rdyE ops listed i && Region.free .any ops listed i) then i :: planA ops r (listed.setIfInBounds i true) else planA ops r listed
def listA : Array Bool → List Nat → Array Bool
  | l, [] => l
  | l, i :: r => listA (l.setIfInBounds i true) r
def memAt (ops : Array Oper) (i : Nat) : Bool := match ops[i]? with
  | some o => memE o.op
  | none => false
def pureAt (ops : Array Oper) (i : Nat) : Bool := match ops[i]? with
  | some o => isQuietE o.op && !memE o.op
  | none => false
def lateE (ops : Array Oper) (ms : List Nat) (A : List Nat) : List Nat := (List.range ops.size).filter fun j => !A.contains j && (!pureAt ops j) && A.all fun i => !memAt ops i || (ms.getD j 0).testBit i
/-- What comes then: what turns nothing; what turns something; a maker may come from here on; and now at the latest. -/
inductive Ev where
  | q (i : Nat)
  | n (i : Nat)
  | p (i : Nat)
  | f (i : Nat)
def mkAt (ops : Array Oper) (i : Nat) : Bool := match ops[i]? with
  | some o => isMk o.op && (match o.dst with
    | some d => !(o.looksAt ops).contains d
    | none => true)
  | none => false
def planR (ops : Array Oper) : Nat → Array Bool → Option Nat → List Ev
  | 0, _, _ => []
  | f + 1, listed, pend => match Region.ready .any ops listed with
    | [] => []
    | l => (match l.find? fun i => pureAt ops i && Region.free .any ops listed i with
      | some i => .q i :: planR ops f (listed.setIfInBounds i true) pend
      | none => (match pend with
        | none => (match l with
          | [] => []
          | [i] => .n i :: planR ops f (listed.setIfInBounds i true) none
          | i :: _ => (match l.reverse.find? (mkAt ops) with
            | some m => .p m :: planR ops f listed (some m)
            | none => .n i :: planR ops f (listed.setIfInBounds i true) none))
        | some m => (match l.filter (· != m) with
          | [] => .f m :: planR ops f (listed.setIfInBounds m true) none
          | i :: _ => .n i :: planR ops f (listed.setIfInBounds i true) (some m))))
structure Plan where
  A : List Nat
  late : List Nat
  rest : List Ev
def planE (ops : Array Oper) : Plan :=
  let l0 := Array.replicate ops.size false
  let A := planA ops (List.range ops.size) l0
  ⟨A, lateE ops (masksE ops.toList []) A, planR ops (2 * ops.size) (listA l0 A) none⟩
def okA (ops : Array Oper) (ms : List Nat) (late : List Nat) : Array Bool → List Nat → Bool
  | _, [] => true
  | listed, i :: r => rdyE ops listed i && (!late.contains i && (Region.free .any ops listed i && ((!memAt ops i || late.all fun j => (ms.getD j 0).testBit i) && okA ops ms late (listed.setIfInBounds i true) r)))
def okR (ops : Array Oper) (late : List Nat) : Option Nat → Array Bool → List Ev → Bool
  | none, listed, [] => (Region.ready .any ops listed).isEmpty
  | some _, _, [] => false
  | none, listed, .q i :: r => rdyE ops listed i && (!memAt ops i && (!late.contains i && (Region.free .any ops listed i && okR ops late none (listed.setIfInBounds i true) r)))
  | some m, listed, .q i :: r => rdyE ops listed i && (!memAt ops i && (!late.contains i && (Region.free .any ops listed i && ((!(i == m) && (rdyE ops (listed.setIfInBounds m true) i && Region.free .any ops (listed.setIfInBounds m true) i)) && okR ops late (some m) (listed.setIfInBounds i true) r))))
  | none, listed, .n i :: r => Region.ready .any ops listed == [i] && okR ops late none (listed.setIfInBounds i true) r
  | some m, listed, .n i :: r => (!(i == m) && (rdyE ops listed i && ((Region.ready .any ops listed).all (fun k => k == i || k == m) && Region.ready .any ops (listed.setIfInBounds m true) == [i]))) && okR ops late (some m) (listed.setIfInBounds i true) r
  | none, listed, .p m :: r => (rdyE ops listed m && (Region.free .any ops listed m && mkAt ops m)) && okR ops late (some m) listed r
  | some _, _, .p _ :: _ => false
  | some m, listed, .f i :: r => (i == m && Region.ready .any ops listed == [m]) && okR ops late none (listed.setIfInBounds m true) r
  | none, _, .f _ :: _ => false
/-- How many there are that come up. -/
def lenR : List Ev → Nat
  | [] => 0
  | .p _ :: r => lenR r
  | _ :: r => lenR r + 1
def okPlan (ops : Array Oper) (p : Plan) : Bool :=
  Region.noSelect ops && (okA ops (masksE ops.toList []) p.late (Array.replicate ops.size false) p.A && (okR ops p.late none (listA (Array.replicate ops.size false) p.A) p.rest && Nat.ble (p.A.length + lenR p.rest) ops.size))

/-- What turns nothing, behind its guard. -/
def quiE (P : Program) (ops : List Oper) (o : Oper) (sl : Ss) (hp : Hs) : Option Ss := match guardE ops sl o with
  | some false => some (setS sl o.dst (.tup []))
  | some true => (match quietE P sl hp o with
    | some v => some (setS sl o.dst v)
    | none => none)
  | none => none
/-- What it looks into. -/
def memId (sl : Ss) (o : Oper) : Option Nat := match o.op with
  | .load _ x => (match evE sl x with
    | .p id _ => some id
    | _ => none)
  | .convert _ _ x => (match evE sl x with
    | .sl id _ _ _ _ => some id
    | _ => none)
  | .lookup _ x _ _ => (match evE sl x with
    | .m id => some id
    | _ => none)
  | _ => none
def readId (ops : List Oper) (sl : Ss) (o : Oper) : Option Nat := match guardE ops sl o with
  | some true => memId sl o
  | _ => none
/-- That one block alone. -/
def onlyE (hp : Hs) : Option Nat → Hs
  | some id => (match gid hp id with
    | some b => sid .e id b
    | none => .e)
  | none => .e
def addId : Option Nat → List Nat → List Nat
  | some id, R => id :: R
  | none, R => R
/-- What comes first; with what it has looked into. -/
def runA (P : Program) (ops : Array Oper) (hp : Hs) : List Nat → Ss → List Nat → Option (Ss × List Nat)
  | [], sl, R => some (sl, R)
  | i :: r, sl, R => match ops[i]? with
    | some o => (match quiE P ops.toList o sl (onlyE hp (readId ops.toList sl o)) with
      | some sl' => runA P ops hp r sl' (addId (readId ops.toList sl o) R)
      | none => none)
    | none => none
/-- A memory with some of its blocks locked. -/
def killW (hp : Hs) : List Nat → Hs
  | [] => hp
  | i :: r => match gid hp i with
    | some b => sid (killW hp r) i (lock b)
    | none => killW hp r
theorem killW_gid {hp : Hs} {b : AB} : ∀ {W : List Nat} {id : Nat}, gid (killW hp W) id = some b → ∃ b', gid hp id = some b' ∧ ((id ∉ W ∧ b = b') ∨ (id ∈ W ∧ b = lock b'))
  | [], _, h => ⟨b, h, .inl ⟨by simp, rfl⟩⟩
  | i :: r, id, h => by
    unfold killW at h
    cases hg : gid hp i with
    | none =>
      rw [hg] at h
      obtain ⟨b', h1, h2⟩ := killW_gid h
      have hne : id ≠ i := fun e => by rw [e, hg] at h1; cases h1
      exact ⟨b', h1, by simpa [hne] using h2⟩
    | some b0 =>
      rw [hg] at h
      by_cases e : i = id
      · subst e
        have := gid_sid_same h
        subst this
        exact ⟨b0, hg, .inr ⟨by simp, rfl⟩⟩
      · obtain ⟨b', h1, h2⟩ := killW_gid (gid_sid_ne (gid_lt hg) e h)
        exact ⟨b', h1, by simpa [Ne.symm e] using h2⟩
theorem killW_lockd {hp : Hs} {W : List Nat} {id : Nat} (h : id ∈ W ∨ lockd (gid hp id) = true) : lockd (gid (killW hp W) id) = true := by
  cases hx : gid (killW hp W) id with
  | none => rfl
  | some b =>
    obtain ⟨b', h1, h2⟩ := killW_gid hx
    rcases h2 with ⟨h2, rfl⟩ | ⟨_, rfl⟩
    · rcases h with h | h
      · exact absurd h h2
      · rw [h1] at h; exact h
    · exact lock_lockd b'
/-- And with them again. -/
def restW (hp0 : Hs) : List Nat → Hs → Hs
  | [], hp => hp
  | id :: R, hp => match gid hp0 id with
    | some b => sid (restW hp0 R hp) id b
    | none => restW hp0 R hp
def hpE (hp0 : Hs) (R : List Nat) (e l : Bool) (hp : Hs) : Hs := bif e then hp else (bif l then restW hp0 R hp else hp)
def runR (P : Program) (call : CallT) (ops : Array Oper) (late R : List Nat) (hp0 : Hs) (fl : Nat) : List Ev → Bool → Ss → Hs → Nat → Option (Ss × Hs × Nat)
  | [], e, sl, hp, nx => some (sl, hpE hp0 R e true hp, nx)
  | .q i :: r, e, sl, hp, nx => match ops[i]? with
    | some o => (match quiE P ops.toList o sl hp with
      | some sl' => runR P call ops late R hp0 fl r e sl' hp nx
      | none => none)
    | none => none
  | .n i :: r, e, sl, hp, nx => match ops[i]? with
    | some o => (match oneE P call fl ops.toList o sl (hpE hp0 R e (late.contains i) hp) nx with
      | some (sl', hp', nx') => runR P call ops late R hp0 fl r (e || late.contains i) sl' hp' nx'
      | none => none)
    | none => none
  | .p m :: r, e, sl, hp, nx => match ops[m]? with
    | some o => (match guardE ops.toList sl o with
      | some false => runR P call ops late R hp0 fl r e (setS sl o.dst .und) hp nx
      | some true => (match stepE P sl hp nx fl o with
        | some _ => runR P call ops late R hp0 fl r e (setS sl o.dst .und) hp nx
        | none => none)
      | none => none)
    | none => none
  | .f i :: r, e, sl, hp, nx => match ops[i]? with
    | some o => (match oneE P call fl ops.toList o sl (hpE hp0 R e (late.contains i) hp) nx with
      | some (sl', hp', nx') => runR P call ops late R hp0 fl r (e || late.contains i) sl' hp' nx'
      | none => none)
    | none => none
def drawE (P : Program) (call : CallT) (fl : Nat) (ops : Array Oper) (sl : Ss) (hp : Hs) (nx : Nat) : Option (Ss × Hs × Nat) :=
  bif okPlan ops (planE ops) then (match runA P ops hp (planE ops).A sl [] with
    | some (sl', R) => runR P call ops (planE ops).late R hp fl (planE ops).rest false sl' (killW hp R) nx
    | none => none) else none

section
variable {P : Program} {call : CallT} {w0 Bp : Base} {n fl : Nat} {ops : Array Oper} {late R : List Nat} {hp0 : Hs} {Qn : Exit → Act → World → Prop}

theorem qui_spec {o : Oper} {sl sl' : Ss} {hp : Hs} (h : quiE P ops.toList o sl hp = some sl') {γ : Gm} {a : Act} {w : World} (hs : SR γ sl a.tmps) (hl : HL γ hp w) (hd : ∀ k, o.dst = some k → k < a.tmps.size ∧ k < lim) (S : World → Prop) (hS : guardE ops.toList sl o = some true → ∀ w', S w' → memE o.op = true → SameL γ hp w w') :
    ∃ u, YieldsIf P ops S o u a ∧ SR γ sl' (a.put o.dst u).tmps := by
  unfold quiE at h
  split at h
  · rename_i hg
    simp only [Option.some.injEq] at h
    subst h
    exact ⟨undef, .inr ⟨guard_spec hs hg, rfl⟩, hs.put hd (undef_rel γ)⟩
  · rename_i hg
    split at h
    · rename_i v hv
      simp only [Option.some.injEq] at h
      subst h
      obtain ⟨u, hu, hrun⟩ := quiet_q hs hl hv
      exact ⟨u, .inl ⟨guard_spec hs hg, fun w' hw' => hrun w' (hS hg w' hw')⟩, hs.put hd hu⟩
    · simp at h
  · simp at h

/-- What was looked into is as it was. -/
def SameR (R : List Nat) (hp0 : Hs) (γ0 : Gm) (wb : World) (w : World) : Prop := ∀ id ∈ R, ∀ b, gid hp0 id = some b → ∀ r m, γ0 id = .live r m → w.heap[r]? = wb.heap[r]?
def TT (late R : List Nat) (hp0 : Hs) (γ0 : Gm) (wb : World) (listed : Array Bool) (w : World) : Prop := early late listed = true → SameR R hp0 γ0 wb w
theorem TT_set {γ0 : Gm} {wb : World} {i : Nat} (hi : i ∉ late) (listed : Array Bool) (j : Nat) (w : World) (h : TT late R hp0 γ0 wb ((listed.setIfInBounds i true).setIfInBounds j true) w) : TT late R hp0 γ0 wb (listed.setIfInBounds j true) w := by
  intro he
  apply h
  by_cases hij : i = j
  · subst hij
    rw [Array.setIfInBounds_setIfInBounds]; exact he
  · rw [Array.setIfInBounds_comm _ _ hij, early_set hi]; exact he
theorem onlyE_gid {hp : Hs} {m : Option Nat} {j : Nat} {b : AB} (h : gid (onlyE hp m) j = some b) : m = some j ∧ gid hp j = some b := by
  have hE : ∀ k, gid (.e : Hs) k = none := fun k => by
    unfold gid
    rw [Tr.get_e]
    cases Nat.blt k lim <;> rfl
  unfold onlyE at h
  cases m with
  | none => rw [hE] at h; cases h
  | some id =>
    simp only at h
    cases hg : gid hp id with
    | none => rw [hg] at h; simp only [hE] at h; cases h
    | some b' =>
      rw [hg] at h
      simp only at h
      by_cases e : id = j
      · subst e
        have := gid_sid_same h
        subst this
        exact ⟨rfl, hg⟩
      · have := gid_sid_ne (gid_lt hg) e h
        rw [hE] at this; cases this
theorem SameR.sameL {γ0 : Gm} {wb w' : World} {m : Option Nat} (h : SameR R hp0 γ0 wb w') (hm : ∀ id, m = some id → id ∈ R) : SameL γ0 (onlyE hp0 m) wb w' := by
  intro id b r k hg hr
  obtain ⟨h1, h2⟩ := onlyE_gid hg
  exact h id (hm id h1) b h2 r k hr
theorem restW_gid {hp : Hs} {j : Nat} {b : AB} : ∀ {R : List Nat}, gid (restW hp0 R hp) j = some b → gid hp j = some b ∨ (j ∈ R ∧ gid hp0 j = some b)
  | [], h => .inl h
  | id :: R, h => by
    unfold restW at h
    cases hg : gid hp0 id with
    | none =>
      rw [hg] at h
      rcases restW_gid h with h | ⟨h1, h2⟩
      · exact .inl h
      · exact .inr ⟨by simp [h1], h2⟩
    | some b' =>
      rw [hg] at h
      by_cases e : id = j
      · subst e
        have := gid_sid_same h
        subst this
        exact .inr ⟨by simp, hg⟩
      · rcases restW_gid (gid_sid_ne (gid_lt hg) e h) with h | ⟨h1, h2⟩
        · exact .inl h
        · exact .inr ⟨by simp [h1], h2⟩
/-- More is kept: what was looked into. -/
structure Ext (B B' : Base) (γ0 : Gm) (hp0 : Hs) (R : List Nat) (wb : World) : Prop where
  h : ∀ b o, B.H b = some o → B'.H b = some o
  p : ∀ id r n, B.Pr id = some (r, n) → B'.Pr id = some (r, n)
  own : ∀ id r n, B'.Pr id = some (r, n) → (B.H r = none ∧ B'.H r ≠ none) ∨ B.Pr id = some (r, n)
  os : B'.os = B.os
  out : B'.out = B.out
  live : ∀ id ∈ R, ∀ b, gid hp0 id = some b → (lockd (some b) = false → B.Pr id = none) ∧ ∃ r n o, γ0 id = .live r n ∧ wb.heap[r]? = some o ∧ B'.Pr id = some (r, n) ∧ B'.H r = some o ∧ b.rel γ0 n o
open Classical in
theorem HR.protect {F : Nat → Prop} {γ : Gm} {hp : Hs} {w : World} (h : HR F w0 γ hp w) (R : List Nat) : ∃ B', Ext w0 B' γ hp R w ∧ HR F B' γ (killW hp R) w := by
  let isR : Nat → Prop := fun id => id ∈ R ∧ gid hp id ≠ none
  let B' : Base := ⟨fun b => if ∃ id n, isR id ∧ γ id = .live b n then w.heap[b]? else w0.H b, fun id => if isR id then (match γ id with
    | .live r n => some (r, n)
    | _ => none) else w0.Pr id, w0.os, w0.out⟩
  have hlv : ∀ {id}, isR id → ∃ r n o, γ id = .live r n ∧ w.heap[r]? = some o := by
    intro id hi
    cases hx : gid hp id with
    | none => exact absurd hx hi.2
    | some b =>
      obtain ⟨r, n, o, h1, h2, _⟩ := h.live id b hx
      exact ⟨r, n, o, h1, h2⟩
  have hH : ∀ {id r n}, isR id → γ id = .live r n → B'.H r = w.heap[r]? := by
    intro id r n hi hl
    show (if _ then _ else _) = _
    rw [if_pos ⟨id, n, hi, hl⟩]
  have hP : ∀ {id r n}, isR id → γ id = .live r n → B'.Pr id = some (r, n) := by
    intro id r n hi hl
    show (if _ then _ else _) = _
    rw [if_pos hi, hl]
  have hP' : ∀ {id}, ¬ isR id → B'.Pr id = w0.Pr id := by
    intro id hi
    show (if _ then _ else _) = _
    rw [if_neg hi]
  refine ⟨B', ⟨?_, ?_, ?_, rfl, rfl, ?_⟩, ⟨?_, ?_, h.inj, ?_, h.os, h.out, h.free, ?_⟩⟩
  · intro b o hb
    show (if _ then _ else _) = _
    split
    · exact h.old b o hb
    · exact hb
  · intro id r n hi
    by_cases hr : isR id
    · exact hP hr (h.keep id r n hi).1
    · rw [hP' hr]; exact hi
  · intro id r n hi
    by_cases hr : isR id
    · obtain ⟨r', n', o, h1, h2⟩ := hlv hr
      rw [hP hr h1] at hi
      simp only [Option.some.injEq, Prod.mk.injEq] at hi
      obtain ⟨rfl, rfl⟩ := hi
      rcases (h.own id r' n' h1).1 with h3 | h3
      · refine .inl ⟨h3, ?_⟩
        rw [hH hr h1, h2]; simp
      · exact .inr h3
    · rw [hP' hr] at hi; exact .inr hi
  · intro id hi b hb
    have hr : isR id := ⟨hi, by rw [hb]; simp⟩
    refine ⟨fun hlk => h.pr hb hlk, ?_⟩
    obtain ⟨r, n, o, h1, h2, h3⟩ := h.live id b hb
    exact ⟨r, n, o, h1, h2, hP hr h1, by rw [hH hr h1]; exact h2, h3⟩
  · intro id b hb
    obtain ⟨b', h1, h2⟩ := killW_gid hb
    obtain ⟨r, n, o, h3, h4, h5⟩ := h.live id b' h1
    rcases h2 with ⟨_, rfl⟩ | ⟨_, rfl⟩
    · exact ⟨r, n, o, h3, h4, h5⟩
    · exact ⟨r, n, o, h3, h4, lock_rel h5⟩
  · intro id r n hl
    obtain ⟨h1, h2⟩ := h.own id r n hl
    refine ⟨?_, h2⟩
    by_cases hr : isR id
    · exact .inr (hP hr hl)
    · rw [hP' hr]
      rcases h1 with h1 | h1
      · refine .inl ?_
        show (if _ then _ else _) = _
        rw [if_neg]
        · exact h1
        · rintro ⟨id', n', hi, hl'⟩
          exact hr (h.inj id id' r n n' hl hl' ▸ hi)
      · exact .inr h1
  · intro b o hb
    have hb : (if ∃ id n, isR id ∧ γ id = .live b n then w.heap[b]? else w0.H b) = some o := hb
    split at hb
    · exact hb
    · exact h.old b o hb
  · intro id r n hi
    by_cases hr : isR id
    · obtain ⟨r', n', o, h1, h2⟩ := hlv hr
      rw [hP hr h1] at hi
      simp only [Option.some.injEq, Prod.mk.injEq] at hi
      obtain ⟨rfl, rfl⟩ := hi
      exact ⟨h1, killW_lockd (.inl hr.1)⟩
    · rw [hP' hr] at hi
      obtain ⟨h1, h2⟩ := h.keep id r n hi
      exact ⟨h1, killW_lockd (.inr h2)⟩
theorem HR.restore {F : Nat → Prop} {B B' : Base} {γ0 γ : Gm} {hp : Hs} {wb w : World} (hE : Ext B B' γ0 hp0 R wb) (hle : Gm.le γ0 γ) (h : HR F B' γ hp w) : HR F B γ (restW hp0 R hp) w := by
  refine ⟨?_, ?_, h.inj, fun b o hb => h.old b o (hE.h b o hb), h.os.trans hE.os, h.out.trans hE.out, h.free, ?_⟩
  · intro id b hb
    rcases restW_gid hb with hb | ⟨hi, hb⟩
    · exact h.live id b hb
    · obtain ⟨_, r, n, o, _, _, h1, h2, h3⟩ := hE.live id hi b hb
      exact ⟨r, n, o, (h.keep id r n h1).1, h.old r o h2, AB.rel_mono hle h3⟩
  · intro id r n hl
    obtain ⟨h1, h2⟩ := h.own id r n hl
    refine ⟨?_, h2⟩
    rcases h1 with h1 | h1
    · refine .inl ?_
      cases hx : B.H r with
      | none => rfl
      | some o => rw [hE.h r o hx] at h1; cases h1
    · rcases hE.own id r n h1 with ⟨h3, _⟩ | h3
      · exact .inl h3
      · exact .inr h3
  · intro id r n hi
    obtain ⟨h1, h2⟩ := h.keep id r n (hE.p id r n hi)
    refine ⟨h1, ?_⟩
    cases hx : gid (restW hp0 R hp) id with
    | none => rfl
    | some b =>
      rcases restW_gid hx with hb | ⟨hr, hb⟩
      · rw [hb] at h2; exact h2
      · cases hlk : lockd (some b) with
        | true => rfl
        | false => rw [(hE.live id hr b hb).1 hlk] at hi; cases hi
theorem Ext.same {B B' B2 : Base} {F : Nat → Prop} {γ0 γ : Gm} {hp : Hs} {wb w : World} (hE : Ext B B' γ0 hp0 R wb) (hB : ∀ b o, B'.H b = some o → B2.H b = some o) (h : HR F B2 γ hp w) : SameR R hp0 γ0 wb w := by
  intro id hi b hb r m hl
  obtain ⟨_, r', n, o, h1, h2, _, h3, _⟩ := hE.live id hi b hb
  rw [hl] at h1
  cases h1
  rw [h2]
  exact h.old r o (hB r o h3)

/-! Makers: they may have come up before their time. -/
def Base.add (B : Base) (r : Nat) (o : Obj) : Base := ⟨fun b => if b = r then some o else B.H b, B.Pr, B.os, B.out⟩
theorem HR.ghost {F : Nat → Prop} {γ : Gm} {hp : Hs} {w : World} (h : HR F w0 γ hp w) (o : Obj) : HR F (w0.add w.heap.size o) γ hp (wpush w o) := by
  refine ⟨?_, ?_, h.inj, ?_, h.os, h.out, h.free, h.keep⟩
  · intro id b hb
    obtain ⟨r, m, o', h1, h2, h3⟩ := h.live id b hb
    exact ⟨r, m, o', h1, by rw [push_get (h.own id r m h1).2]; exact h2, h3⟩
  · intro id r m hr
    obtain ⟨h1, h2⟩ := h.own id r m hr
    refine ⟨h1.imp (fun h1 => ?_) (fun h => h), by simp [wpush]; omega⟩
    show (if r = w.heap.size then some o else w0.H r) = none
    rw [if_neg (by omega)]
    exact h1
  · intro b o' hb
    have hb : (if b = w.heap.size then some o else w0.H b) = some o' := hb
    by_cases e : b = w.heap.size
    · rw [if_pos e] at hb
      rw [e, ← hb]
      exact push_new
    · rw [if_neg e] at hb
      rw [push_get (h.lt hb)]
      exact h.old b o' hb
theorem HR.adopt {F : Nat → Prop} {γ : Gm} {hp : Hs} {w : World} {r : Nat} {o : Obj} (h : HR F (w0.add r o) γ hp w) (hn : w0.H r = none) (hpr : ∀ id n, w0.Pr id ≠ some (r, n)) {d n : Nat} (hd : γ d = .fresh) (hl : d < lim) {b : AB} (hb : b.rel γ n o) :
    HR (fun j => F j ∧ j ≠ d) w0 (setG γ d (.live r n)) (sid hp d b) w := by
  have hle := setG_le (m := .live r n) hd
  have hro : w.heap[r]? = some o := h.old r o (by show (if r = r then some o else w0.H r) = some o; rw [if_pos rfl])
  have hrn : ∀ id m, γ id ≠ .live r m := by
    intro id m hx
    rcases (h.own id r m hx).1 with h1 | h1
    · have h1 : (if r = r then some o else w0.H r) = none := h1
      rw [if_pos rfl] at h1
      cases h1
    · exact hpr id m h1
  refine ⟨?_, ?_, ?_, ?_, h.os, h.out, ?_, ?_⟩
  · intro id b' hb'
    by_cases e : id = d
    · subst e
      have := gid_sid_same hb'
      subst this
      exact ⟨r, n, o, setG_same, hro, AB.rel_mono hle hb⟩
    · obtain ⟨r', m, o', hr', ho, hrel⟩ := h.live id b' (gid_sid_ne hl (Ne.symm e) hb')
      exact ⟨r', m, o', by rw [setG_ne e]; exact hr', ho, AB.rel_mono hle hrel⟩
  · intro id r' m hr'
    by_cases e : id = d
    · subst e
      rw [setG_same] at hr'
      cases hr'
      refine ⟨.inl hn, ?_⟩
      rcases Nat.lt_or_ge r w.heap.size with h' | h'
      · exact h'
      · simp [Array.getElem?_eq_none h'] at hro
    · rw [setG_ne e] at hr'
      obtain ⟨h1, h2⟩ := h.own id r' m hr'
      refine ⟨h1.imp (fun h1 => ?_) (fun h => h), h2⟩
      have h1 : (if r' = r then some o else w0.H r') = none := h1
      by_cases e' : r' = r
      · rw [if_pos e'] at h1; cases h1
      · rw [if_neg e'] at h1; exact h1
  · intro id id' r' m m' hr' hr''
    by_cases e : id = d <;> by_cases e' : id' = d
    · rw [e, e']
    · exfalso
      subst e
      rw [setG_same] at hr'
      rw [setG_ne e'] at hr''
      cases hr'
      exact hrn id' _ hr''
    · exfalso
      subst e'
      rw [setG_same] at hr''
      rw [setG_ne e] at hr'
      cases hr''
      exact hrn id _ hr'
    · rw [setG_ne e] at hr'
      rw [setG_ne e'] at hr''
      exact h.inj id id' r' m m' hr' hr''
  · intro b' o' hb'
    refine h.old b' o' ?_
    show (if b' = r then some o else w0.H b') = some o'
    by_cases e : b' = r
    · rw [e, hn] at hb'; cases hb'
    · rw [if_neg e]; exact hb'
  · rintro j ⟨hj, hne⟩
    rw [setG_ne hne]
    exact h.free j hj
  · intro id r' m hp'
    obtain ⟨h3, h4⟩ := h.keep id r' m hp'
    have hne : id ≠ d := fun e => by rw [e, hd] at h3; cases h3
    exact ⟨by rw [setG_ne hne]; exact h3, gid_sid_none hl (Ne.symm hne) h4⟩
theorem Ext.add {B B' : Base} {γ0 : Gm} {wb : World} (hE : Ext B B' γ0 hp0 R wb) {r : Nat} {o : Obj} (hn : B'.H r = none) : Ext (B.add r o) (B'.add r o) γ0 hp0 R wb := by
  refine ⟨?_, hE.p, ?_, hE.os, hE.out, ?_⟩
  · intro b o' hb
    have hb : (if b = r then some o else B.H b) = some o' := hb
    show (if b = r then some o else B'.H b) = some o'
    by_cases e : b = r
    · rw [if_pos e] at hb ⊢; exact hb
    · rw [if_neg e] at hb ⊢; exact hE.h b o' hb
  · intro id r' n hi
    rcases hE.own id r' n hi with ⟨h1, h2⟩ | h1
    · have hne : r' ≠ r := fun e => h2 (e ▸ hn)
      refine .inl ⟨?_, ?_⟩
      · show (if r' = r then some o else B.H r') = none
        rw [if_neg hne]; exact h1
      · show (if r' = r then some o else B'.H r') ≠ none
        rw [if_neg hne]; exact h2
    · exact .inr h1
  · intro id hi b hb
    obtain ⟨h0, r', n, o', h1, h2, h3, h4, h5⟩ := hE.live id hi b hb
    refine ⟨h0, r', n, o', h1, h2, h3, ?_, h5⟩
    show (if r' = r then some o else B'.H r') = some o'
    rw [if_neg fun e => by rw [e, hn] at h4; cases h4]
    exact h4
/-- A maker will do this. -/
def Pm (P : Program) (ops : Array Oper) (om : Oper) (a : Act) : Prop := Region.wanted om (yielded ops a.tmps) = false ∨
  (Region.wanted om (yielded ops a.tmps) = true ∧ ∃ obj, ∃ fu : Nat → Value, ∀ w : World, (execOp a.eval om).run P w = .ok (.value (fu w.heap.size)) (wpush w obj))
/-- A maker has done it. -/
def Gh (P : Program) (ops : Array Oper) (om : Oper) (w0 w0' : Base) (a : Act) : Prop :=
  (Region.wanted om (yielded ops a.tmps) = false ∧ w0' = w0 ∧ ∀ d, om.dst = some d → a.tmps.getD d undef = undef) ∨
  (Region.wanted om (yielded ops a.tmps) = true ∧ ∃ obj, ∃ fu : Nat → Value, ∃ r, (∀ w : World, (execOp a.eval om).run P w = .ok (.value (fu w.heap.size)) (wpush w obj)) ∧ (w0.H r = none ∧ ∀ id n, w0.Pr id ≠ some (r, n)) ∧ w0' = w0.add r obj ∧ ∀ d, om.dst = some d → a.tmps.getD d undef = fu r)
theorem getD_put_ne {a : Act} {d d' : Nat} {u : Value} (h : d ≠ d') : (a.put (some d) u).tmps.getD d' undef = a.tmps.getD d' undef := by
  simp [Act.put, Array.getD_eq_getD_getElem?, Array.getElem?_setIfInBounds_ne h]
theorem getD_put_same {a : Act} {d : Nat} {u : Value} (h : d < a.tmps.size) : (a.put (some d) u).tmps.getD d undef = u := by
  simp [Act.put, h]
section
variable {om oj : Oper} {a : Act}
theorem Pm.put (hs : ∀ cs b, om.op ≠ .select cs b) (hap : om.apart ops oj = true) (u : Value) (h : Pm P ops om a) : Pm P ops om (a.put oj.dst u) := by
  obtain ⟨h1, h2, h3⟩ := Oper.apart_spec hap
  unfold Pm at *
  rw [execOp_put om hs a oj.dst u h3, wanted_put om a oj.dst u h3]
  exact h
theorem Gh.put (hs : ∀ cs b, om.op ≠ .select cs b) (hap : om.apart ops oj = true) (u : Value) {w0 w0' : Base} (h : Gh P ops om w0 w0' a) : Gh P ops om w0 w0' (a.put oj.dst u) := by
  obtain ⟨h1, h2, h3⟩ := Oper.apart_spec hap
  have key : ∀ d, om.dst = some d → (a.put oj.dst u).tmps.getD d undef = a.tmps.getD d undef := by
    intro d hd
    cases hj : oj.dst with
    | none => rfl
    | some d' =>
      refine getD_put_ne fun e => h2 d hd ?_
      rw [hj, e]
  unfold Gh at *
  rw [execOp_put om hs a oj.dst u h3, wanted_put om a oj.dst u h3]
  rcases h with ⟨hw, he, hd⟩ | ⟨hw, obj, fu, r, h4, h5, h6, hd⟩
  · exact .inl ⟨hw, he, fun d hx => by rw [key d hx]; exact hd d hx⟩
  · exact .inr ⟨hw, obj, fu, r, h4, h5, h6, fun d hx => by rw [key d hx]; exact hd d hx⟩
end
theorem SR.set {γ : Gm} {sl : Ss} {ts : Array Value} (hs : SR γ sl ts) {d : Option Nat} {v : AV} (hd : ∀ k, d = some k → k < lim ∧ v.rel γ (ts.getD k undef)) : SR γ (setS sl d v) ts := by
  cases d with
  | none => exact hs
  | some d =>
    obtain ⟨h1, h2⟩ := hd d rfl
    intro t
    show AV.rel γ (slotE (Tr.set (key d) sl v) t) _
    rw [slot_set h1]
    by_cases h : d = t
    · subst h
      rw [if_pos rfl]
      cases hb : Nat.blt d lim
      · trivial
      · exact h2
    · rw [if_neg h]; exact hs t
theorem slot_other {sl : Ss} {d : Option Nat} {v : AV} {t : Nat} (hd : ∀ k, d = some k → k < lim ∧ k ≠ t) : slotE (setS sl d v) t = slotE sl t := by
  cases d with
  | none => rfl
  | some d =>
    obtain ⟨h1, h2⟩ := hd d rfl
    show slotE (Tr.set (key d) sl v) t = _
    rw [slot_set h1, if_neg h2]
theorem slot_und {sl : Ss} {d : Nat} (h : d < lim) : slotE (setS sl (some d) .und) d = .und := by
  show slotE (Tr.set (key d) sl .und) d = _
  rw [slot_set h, if_pos rfl]
  cases Nat.blt d lim <;> rfl
theorem und_keep {om o : Oper} {sl : Ss} {v : AV} (hap : om.apart ops o = true) (hdo : ∀ k, o.dst = some k → k < n ∧ k < lim) (h : ∀ d, om.dst = some d → slotE sl d = .und) : ∀ d, om.dst = some d → slotE (setS sl o.dst v) d = .und := by
  intro d hd
  rw [slot_other]
  · exact h d hd
  · intro k hk
    exact ⟨(hdo k hk).2, fun e => (Oper.apart_spec hap).2.1 d hd (by rw [← e]; exact hk)⟩
theorem quiE_sl {o : Oper} {sl sl' : Ss} {hp : Hs} (h : quiE P ops.toList o sl hp = some sl') : ∃ v, sl' = setS sl o.dst v := by
  unfold quiE at h
  split at h
  · simp only [Option.some.injEq] at h; exact ⟨_, h.symm⟩
  · split at h
    · simp only [Option.some.injEq] at h; exact ⟨_, h.symm⟩
    · simp at h
  · simp at h
/-- What is kept: before the late ones come, and then. -/
def bsE (w0 Bp : Base) (e : Bool) : Base := bif e then w0 else Bp
theorem Gh.turn {om : Oper} {a : Act} {γ0 : Gm} {wb : World} (hE : Ext w0 Bp γ0 hp0 R wb) {w0' : Base} (h : Gh P ops om Bp w0' a) : ∃ w1, Gh P ops om w0 w1 a ∧ Ext w1 w0' γ0 hp0 R wb := by
  rcases h with ⟨h1, rfl, h3⟩ | ⟨h1, obj, fu, r, h2, ⟨h3, h3'⟩, rfl, h5⟩
  · exact ⟨w0, .inl ⟨h1, rfl, h3⟩, hE⟩
  · have hn : w0.H r = none := by
      cases hx : w0.H r with
      | none => rfl
      | some o => rw [hE.h r o hx] at h3; cases h3
    exact ⟨w0.add r obj, .inr ⟨h1, obj, fu, r, h2, ⟨hn, fun id n hi => h3' id n (hE.p id r n hi)⟩, rfl, h5⟩, hE.add h3⟩
theorem Rl.turn {γ0 γ : Gm} {wb w : World} {sl : Ss} {hp : Hs} {nx : Nat} {a : Act} {e l : Bool} (hE : Ext w0 Bp γ0 hp0 R wb) (hle : Gm.le γ0 γ) (hr : Rl (bsE w0 Bp e) n γ sl hp nx a w) : Rl (bsE w0 Bp (e || l)) n γ sl (hpE hp0 R e l hp) nx a w := by
  cases e
  · cases l
    · exact hr
    · exact ⟨hr.sr, hr.hr.restore hE hle, hr.df, hr.sz⟩
  · exact hr
theorem Gh.over {om : Oper} {a : Act} {γ0 γ : Gm} {wb w : World} {sl : Ss} {hp : Hs} {nx : Nat} {e l : Bool} (hE : Ext w0 Bp γ0 hp0 R wb) (hle : Gm.le γ0 γ) {w0' : Base} (hg : Gh P ops om (bsE w0 Bp e) w0' a) (hr : Rl w0' n γ sl hp nx a w) :
    ∃ w1, Gh P ops om (bsE w0 Bp (e || l)) w1 a ∧ Rl w1 n γ sl (hpE hp0 R e l hp) nx a w := by
  cases e
  · cases l
    · exact ⟨w0', hg, hr⟩
    · obtain ⟨w1, h1, h2⟩ := hg.turn hE
      exact ⟨w1, h1, hr.sr, hr.hr.restore h2 hle, hr.df, hr.sz⟩
  · exact ⟨w0', hg, hr⟩
theorem Gh.le {om : Oper} {a : Act} {B w0' : Base} (h : Gh P ops om B w0' a) : ∀ b o, B.H b = some o → w0'.H b = some o := by
  rcases h with ⟨_, rfl, _⟩ | ⟨_, obj, _, r, _, ⟨h3, _⟩, rfl, _⟩
  · exact fun _ _ h => h
  · intro b o hb
    show (if b = r then some obj else B.H b) = some o
    rw [if_neg fun e => by rw [e, h3] at hb; cases hb]
    exact hb
theorem tt_of {γ0 γ : Gm} {wb w : World} {F : Nat → Prop} {hp : Hs} {B : Base} {listed : Array Bool} {e : Bool} (hE : Ext w0 Bp γ0 hp0 R wb) (hB : ∀ b o, (bsE w0 Bp e).H b = some o → B.H b = some o) (he : early late listed = true → e = false) (h : HR F B γ hp w) : TT late R hp0 γ0 wb listed w := by
  intro hx
  have := he hx
  subst this
  exact hE.same hB h
theorem okR_len {m : Nat} : ∀ {r : List Ev} {listed : Array Bool}, okR ops late (some m) listed r = true → 1 ≤ lenR r
  | [], _, h => by simp [okR] at h
  | .q i :: r, _, _ => by simp only [lenR]; omega
  | .n i :: r, _, _ => by simp only [lenR]; omega
  | .p i :: r, _, h => by simp [okR] at h
  | .f i :: r, _, _ => by simp only [lenR]; omega
/-- Nobody else meets a maker that waits. -/
def HF (ops : Array Oper) (m : Nat) (om : Oper) (listed : Array Bool) : Prop := (∀ j oj, ops[j]? = some oj → j ≠ m → listed.getD j true = false → (∀ e ∈ oj.after, Region.binds .any e = true → e.on ≠ m) → om.apart ops oj = true) ∧ ∀ d, om.dst = some d → d ∉ om.looksAt ops
theorem HF.set {m : Nat} {om : Oper} {listed : Array Bool} (h : HF ops m om listed) (j : Nat) : HF ops m om (listed.setIfInBounds j true) := by
  refine ⟨fun k ok hk hkm hun hno => h.1 k ok hk hkm ?_ hno, h.2⟩
  by_cases hjk : j = k
  · subst hjk
    rcases Nat.lt_or_ge j listed.size with h' | h'
    · simp [h'] at hun
    · simp [Array.getElem?_eq_none h'] at hun
  · rw [getD_set_ne true hjk] at hun; exact hun
theorem HF.apart {m j : Nat} {om oj : Oper} {listed : Array Bool} (h : HF ops m om listed) (hm : listed.getD m true = false) (hj : j ∈ Region.ready .any ops listed) (hne : j ≠ m) (hoj : ops[j]? = some oj) : om.apart ops oj = true := by
  obtain ⟨hun, o2, ho2, hall⟩ := mem_ready.1 hj
  rw [hoj] at ho2
  simp only [Option.some.injEq] at ho2
  subst ho2
  refine h.1 j oj hoj hne hun fun e he hb heq => ?_
  have h1 := hall e he hb
  rw [heq, unlisted_false hm] at h1
  cases h1
theorem early_two {m i : Nat} {listed : Array Bool} (h : early late ((listed.setIfInBounds m true).setIfInBounds i true) = true) : early late (listed.setIfInBounds i true) = true := by
  by_cases hmi : m = i
  · subst hmi
    rw [Array.setIfInBounds_setIfInBounds] at h; exact h
  · rw [Array.setIfInBounds_comm _ _ hmi] at h
    exact early_mono h
theorem early_next {j : Nat} {listed : Array Bool} (hj : j < listed.size) : early late (listed.setIfInBounds j true) = !(!early late listed || late.contains j) := by
  by_cases hil : j ∈ late
  · rw [early_late hil hj]; simp [hil]
  · rw [early_set hil]; simp [hil]
theorem isMk_sel {o : Oper} (h : isMk o.op = true) : ∀ cs b, o.op ≠ .select cs b := by
  intro cs b e
  rw [e] at h
  simp [isMk] at h
theorem isMk_callee {o : Oper} {sl : Ss} (h : isMk o.op = true) : calleeE P sl o = none := by
  unfold calleeE
  cases ho : o.op <;> rw [ho] at h <;> simp only [isMk, Bool.false_eq_true] at h
theorem next_e {j : Nat} {listed : Array Bool} (hj : j < listed.size) : (!early late (listed.setIfInBounds j true)) = (!early late listed || late.contains j) := by
  rw [early_next hj, Bool.not_not]
theorem runR_sound (hcall : CallOk P call) (hsel : Region.noSelect ops = true) (hdst : ∀ o ∈ ops, ∀ k, o.dst = some k → k < n ∧ k < lim) (hQp : ∀ c a w, ¬ Qn (.panic c) a w) {γ0 : Gm} {wb : World} (hE : Ext w0 Bp γ0 hp0 R wb)
    {slF : Ss} {hpF : Hs} {nxF : Nat} (hfin : ∀ a w, Aft w0 n fl γ0 wb slF hpF nxF a w → Qn .normal a w) : ∀ rest : List Ev,
    (∀ (listed : Array Bool) (fuel : Nat) {sl : Ss} {hp : Hs} {nx : Nat} {γ : Gm} {a : Act} {w : World}, okR ops late none listed rest = true → Down ops listed → lenR rest ≤ fuel →
      runR P call ops late R hp0 fl rest (!early late listed) sl hp nx = some (slF, hpF, nxF) → Gm.le γ0 γ → Fr fl γ0 wb γ w → Rl (bsE w0 Bp (!early late listed)) n γ sl hp nx a w →
      wpAnyT P ops Qn (TT late R hp0 γ0 wb) fuel listed a w) ∧
    (∀ (m : Nat) (om : Oper) (listed : Array Bool) (fuel : Nat) {sl : Ss} {hp : Hs} {nx : Nat} {γ : Gm} {a : Act} {w : World} (w0' : Base), ops[m]? = some om → isMk om.op = true → HF ops m om listed → m ∈ Region.ready .any ops listed → okR ops late (some m) listed rest = true → Down ops listed → lenR rest ≤ fuel + 1 →
      runR P call ops late R hp0 fl rest (!early late listed) sl hp nx = some (slF, hpF, nxF) → Gm.le γ0 γ → Fr fl γ0 wb γ w → (∀ d, om.dst = some d → slotE sl d = .und) → Rl w0' n γ sl hp nx a w → Gh P ops om (bsE w0 Bp (!early late listed)) w0' a →
      wpAnyT P ops Qn (TT late R hp0 γ0 wb) fuel (listed.setIfInBounds m true) a w) ∧
    (∀ (m : Nat) (om : Oper) (listed : Array Bool) (fuel : Nat) {sl : Ss} {hp : Hs} {nx : Nat} {γ : Gm} {a : Act} {w : World}, ops[m]? = some om → isMk om.op = true → HF ops m om listed → m ∈ Region.ready .any ops listed → okR ops late (some m) listed rest = true → Down ops listed → lenR rest ≤ fuel →
      runR P call ops late R hp0 fl rest (!early late listed) sl hp nx = some (slF, hpF, nxF) → Gm.le γ0 γ → Fr fl γ0 wb γ w → (∀ d, om.dst = some d → slotE sl d = .und) → Rl (bsE w0 Bp (!early late listed)) n γ sl hp nx a w → Pm P ops om a →
      wpAnyT P ops Qn (TT late R hp0 γ0 wb) fuel listed a w) := by
  intro rest
  induction rest with
  | nil =>
    refine ⟨?_, ?_, ?_⟩
    · intro listed fuel sl hp nx γ a w hok hd hfu h hle hfr hr
      simp only [okR, List.isEmpty_iff] at hok
      simp only [runR, Option.some.injEq, Prod.mk.injEq] at h
      obtain ⟨rfl, rfl, rfl⟩ := h
      have := hr.turn (l := true) hE hle
      rw [Bool.or_true] at this
      exact done_any hok (hfin a w ⟨γ, hle, this, hfr⟩) fuel
    · intro m om listed fuel sl hp nx γ a w w0' _ _ _ _ hok
      simp [okR] at hok
    · intro m om listed fuel sl hp nx γ a w _ _ _ _ hok
      simp [okR] at hok
  | cons ev r ih =>
    obtain ⟨ih0, ihB, ihA⟩ := ih
    cases ev with
    | q i =>
      have main : ∀ {sl sl' : Ss} {hp : Hs} {γ : Gm} {a : Act} {w : World} {o : Oper}, ops[i]? = some o → memAt ops i = false → quiE P ops.toList o sl hp = some sl' → SR γ sl a.tmps → HL γ hp w → a.tmps.size = n → ∃ u, YieldsIf P ops (fun _ => True) o u a ∧ SR γ sl' (a.put o.dst u).tmps := by
        intro sl sl' hp γ a w o ho hm hq hs hl hsz
        have hdo : ∀ j, o.dst = some j → j < a.tmps.size ∧ j < lim := fun j hj => hsz ▸ hdst o (Array.mem_of_getElem? ho) j hj
        have hmem : memE o.op = false := by unfold memAt at hm; rw [ho] at hm; exact hm
        exact qui_spec hq hs hl hdo (fun _ => True) (fun _ w' _ hx => by rw [hmem] at hx; cases hx)
      refine ⟨?_, ?_, ?_⟩
      · intro listed fuel sl hp nx γ a w hok hd hfu h hle hfr hr
        simp only [okR, Bool.and_eq_true, Bool.not_eq_true', List.contains_eq_mem, decide_eq_false_iff_not] at hok
        obtain ⟨hrd, hm, hl, hf, hok'⟩ := hok
        have hrd := rdyE_spec hrd
        simp only [lenR] at hfu
        obtain ⟨k, rfl⟩ : ∃ k, fuel = k + 1 := ⟨fuel - 1, by omega⟩
        unfold runR at h
        split at h
        · rename_i o ho
          split at h
          · rename_i sl' hq
            obtain ⟨u, hy, hs'⟩ := main ho hm hq hr.sr hr.hr.live hr.sz
            have hes : early late (listed.setIfInBounds i true) = early late listed := early_set hl
            refine wpAnyT_first (S := fun _ => True) ho (Region.noSelect_spec hsel) (fun c a w h => absurd h (hQp c _ w)) (TT_set hl) (fun _ _ _ _ _ _ _ => trivial) k listed a w hd (fun j oj hj hne hun hno => Region.free_spec ho hf j oj hj hne hun hno) hrd hy trivial ?_ ?_
            · exact tt_of hE (fun _ _ h => h) (fun he => by rw [hes] at he; rw [he]; rfl) hr.hr
            · exact ih0 (listed.setIfInBounds i true) k hok' (hd.set hrd) (by omega) (by rw [hes]; exact h) hle hfr
                (by rw [hes]; exact ⟨hs', hr.hr, by rw [put_defers]; exact hr.df, by rw [put_size]; exact hr.sz⟩)
          · simp at h
        · simp at h
      · intro m om listed fuel sl hp nx γ a w w0' hom hmk hHF hmr hok hd hfu h hle hfr hund hr hgh
        simp only [okR, Bool.and_eq_true, Bool.not_eq_true', List.contains_eq_mem, decide_eq_false_iff_not, beq_eq_false_iff_ne] at hok
        obtain ⟨hrd, hm, hl, hf, ⟨hne, hrdB, hfB⟩, hok'⟩ := hok
        have hrd := rdyE_spec hrd
        have hrdB := rdyE_spec hrdB
        have hlen := okR_len hok'
        simp only [lenR] at hfu
        obtain ⟨k, rfl⟩ : ∃ k, fuel = k + 1 := ⟨fuel - 1, by omega⟩
        unfold runR at h
        split at h
        · rename_i o ho
          split at h
          · rename_i sl' hq
            obtain ⟨u, hy, hs'⟩ := main ho hm hq hr.sr hr.hr.live hr.sz
            have hes : early late (listed.setIfInBounds i true) = early late listed := early_set hl
            have hap := hHF.apart (mem_ready.1 hmr).1 hrd hne ho
            refine wpAnyT_first (S := fun _ => True) ho (Region.noSelect_spec hsel) (fun c a w h => absurd h (hQp c _ w)) (TT_set hl) (fun _ _ _ _ _ _ _ => trivial) k (listed.setIfInBounds m true) a w (hd.set hmr) (fun j oj hj hne hun hno => Region.free_spec ho hfB j oj hj hne hun hno) hrdB hy trivial ?_ ?_
            · exact tt_of hE hgh.le (fun he => by rw [early_two he |>.symm.trans hes |>.symm]; rfl) hr.hr
            · rw [Array.setIfInBounds_comm _ _ (Ne.symm hne)]
              obtain ⟨v, rfl⟩ := quiE_sl hq
              exact ihB m om (listed.setIfInBounds i true) k w0' hom hmk (hHF.set i) (ready_mono hmr (Ne.symm hne)) hok' (hd.set hrd) (by omega) (by rw [hes]; exact h) hle hfr (und_keep hap (hdst o (Array.mem_of_getElem? ho)) hund)
                ⟨hs', hr.hr, by rw [put_defers]; exact hr.df, by rw [put_size]; exact hr.sz⟩ (by rw [hes]; exact hgh.put (isMk_sel hmk) hap u)
          · simp at h
        · simp at h
      · intro m om listed fuel sl hp nx γ a w hom hmk hHF hmr hok hd hfu h hle hfr hund hr hpm
        simp only [okR, Bool.and_eq_true, Bool.not_eq_true', List.contains_eq_mem, decide_eq_false_iff_not, beq_eq_false_iff_ne] at hok
        obtain ⟨hrd, hm, hl, hf, ⟨hne, hrdB, hfB⟩, hok'⟩ := hok
        have hrd := rdyE_spec hrd
        simp only [lenR] at hfu
        obtain ⟨k, rfl⟩ : ∃ k, fuel = k + 1 := ⟨fuel - 1, by omega⟩
        unfold runR at h
        split at h
        · rename_i o ho
          split at h
          · rename_i sl' hq
            obtain ⟨u, hy, hs'⟩ := main ho hm hq hr.sr hr.hr.live hr.sz
            have hes : early late (listed.setIfInBounds i true) = early late listed := early_set hl
            have hap := hHF.apart (mem_ready.1 hmr).1 hrd hne ho
            refine wpAnyT_first (S := fun _ => True) ho (Region.noSelect_spec hsel) (fun c a w h => absurd h (hQp c _ w)) (TT_set hl) (fun _ _ _ _ _ _ _ => trivial) k listed a w hd (fun j oj hj hne hun hno => Region.free_spec ho hf j oj hj hne hun hno) hrd hy trivial ?_ ?_
            · exact tt_of hE (fun _ _ h => h) (fun he => by rw [hes] at he; rw [he]; rfl) hr.hr
            · obtain ⟨v, rfl⟩ := quiE_sl hq
              exact ihA m om (listed.setIfInBounds i true) k hom hmk (hHF.set i) (ready_mono hmr (Ne.symm hne)) hok' (hd.set hrd) (by omega) (by rw [hes]; exact h) hle hfr (und_keep hap (hdst o (Array.mem_of_getElem? ho)) hund)
                (by rw [hes]; exact ⟨hs', hr.hr, by rw [put_defers]; exact hr.df, by rw [put_size]; exact hr.sz⟩) (hpm.put (isMk_sel hmk) hap u)
          · simp at h
        · simp at h
    | n j =>
      have goB : ∀ (m : Nat) (om : Oper) (listed : Array Bool) (fuel : Nat) {sl : Ss} {hp : Hs} {nx : Nat} {γ : Gm} {a : Act} {w : World} (w0' : Base), ops[m]? = some om → isMk om.op = true → HF ops m om listed → m ∈ Region.ready .any ops listed → okR ops late (some m) listed (.n j :: r) = true → Down ops listed → lenR (.n j :: r) ≤ fuel + 1 →
          runR P call ops late R hp0 fl (.n j :: r) (!early late listed) sl hp nx = some (slF, hpF, nxF) → Gm.le γ0 γ → Fr fl γ0 wb γ w → (∀ d, om.dst = some d → slotE sl d = .und) → Rl w0' n γ sl hp nx a w → Gh P ops om (bsE w0 Bp (!early late listed)) w0' a →
          wpAnyT P ops Qn (TT late R hp0 γ0 wb) fuel (listed.setIfInBounds m true) a w := by
        intro m om listed fuel sl hp nx γ a w w0' hom hmk hHF hmr hok hd hfu h hle hfr hund hr hgh
        simp only [okR, Bool.and_eq_true, Bool.not_eq_true', beq_iff_eq, beq_eq_false_iff_ne] at hok
        obtain ⟨⟨hne, hrd, _, hrB⟩, hok'⟩ := hok
        have hrd := rdyE_spec hrd
        have hlen := okR_len hok'
        simp only [lenR] at hfu
        obtain ⟨k, rfl⟩ : ∃ k, fuel = k + 1 := ⟨fuel - 1, by omega⟩
        refine ⟨fun h => by rw [hrB] at h; simp at h, fun j' hj' => ?_⟩
        rw [hrB, List.mem_singleton] at hj'
        subst hj'
        unfold runR at h
        split at h
        · rename_i o ho
          split at h
          · rename_i sl' hp' nx' h1
            have hap := hHF.apart (mem_ready.1 hmr).1 hrd hne ho
            have hen := next_e (late := late) (lt_of_ready hrd)
            obtain ⟨w1, hg1, hr1⟩ := hgh.over (l := late.contains j') hE hle hr
            refine (one_op hcall ho (hdst o (Array.mem_of_getElem? ho)) h1 hr1 ?_).2
            rintro u w' ⟨γ', hle', hr', hfr'⟩
            refine ⟨tt_of hE hg1.le (fun he => by rw [← hen, early_two he]; rfl) hr'.hr, ?_⟩
            rw [Array.setIfInBounds_comm _ _ (Ne.symm hne)]
            obtain ⟨v, rfl⟩ := oneE_sl h1
            exact ihB m om (listed.setIfInBounds j' true) k w1 hom hmk (hHF.set j') (ready_mono hmr (Ne.symm hne)) hok' (hd.set hrd) (by omega) (by rw [hen]; exact h) (Gm.le_trans hle hle') (hfr.trans hfr') (und_keep hap (hdst o (Array.mem_of_getElem? ho)) hund) hr' (by rw [hen]; exact hg1.put (isMk_sel hmk) hap u)
          · simp at h
        · simp at h
      refine ⟨?_, goB, ?_⟩
      · intro listed fuel sl hp nx γ a w hok hd hfu h hle hfr hr
        simp only [okR, Bool.and_eq_true, beq_iff_eq] at hok
        obtain ⟨hrd, hok'⟩ := hok
        have hri : j ∈ Region.ready .any ops listed := by rw [hrd]; simp
        simp only [lenR] at hfu
        obtain ⟨k, rfl⟩ : ∃ k, fuel = k + 1 := ⟨fuel - 1, by omega⟩
        refine ⟨fun h => by rw [hrd] at h; simp at h, fun j' hj' => ?_⟩
        rw [hrd, List.mem_singleton] at hj'
        subst hj'
        unfold runR at h
        split at h
        · rename_i o ho
          split at h
          · rename_i sl' hp' nx' h1
            have hen := next_e (late := late) (lt_of_ready hri)
            refine (one_op hcall ho (hdst o (Array.mem_of_getElem? ho)) h1 (hr.turn (l := late.contains j') hE hle) ?_).2
            rintro u w' ⟨γ', hle', hr', hfr'⟩
            refine ⟨tt_of hE (fun _ _ h => h) (fun he => by rw [← hen, he]; rfl) hr'.hr, ?_⟩
            exact ih0 (listed.setIfInBounds j' true) k hok' (hd.set hri) (by omega) (by rw [hen]; exact h) (Gm.le_trans hle hle') (hfr.trans hfr') (by rw [hen]; exact hr')
          · simp at h
        · simp at h
      · intro m om listed fuel sl hp nx γ a w hom hmk hHF hmr hok hd hfu h hle hfr hund hr hpm
        have hok0 := hok
        simp only [okR, Bool.and_eq_true, Bool.not_eq_true', beq_iff_eq, beq_eq_false_iff_ne, List.all_eq_true, Bool.or_eq_true] at hok
        obtain ⟨⟨hne, hrd, hall, hrB⟩, hok'⟩ := hok
        have hrd := rdyE_spec hrd
        have hfu0 := hfu
        simp only [lenR] at hfu
        obtain ⟨k, rfl⟩ : ∃ k, fuel = k + 1 := ⟨fuel - 1, by omega⟩
        refine ⟨fun h => by rw [h] at hmr; simp at hmr, fun j' hj' => ?_⟩
        rcases hall j' hj' with e | e
        · subst e
          unfold runR at h
          split at h
          · rename_i o ho
            split at h
            · rename_i sl' hp' nx' h1
              have hap := hHF.apart (mem_ready.1 hmr).1 hrd hne ho
              have hen := next_e (late := late) (lt_of_ready hrd)
              refine (one_op hcall ho (hdst o (Array.mem_of_getElem? ho)) h1 (hr.turn (l := late.contains j') hE hle) ?_).2
              rintro u w' ⟨γ', hle', hr', hfr'⟩
              refine ⟨tt_of hE (fun _ _ h => h) (fun he => by rw [← hen, he]; rfl) hr'.hr, ?_⟩
              obtain ⟨v, rfl⟩ := oneE_sl h1
              exact ihA m om (listed.setIfInBounds j' true) k hom hmk (hHF.set j') (ready_mono hmr (Ne.symm hne)) hok' (hd.set hrd) (by omega) (by rw [hen]; exact h) (Gm.le_trans hle hle') (hfr.trans hfr') (und_keep hap (hdst o (Array.mem_of_getElem? ho)) hund) (by rw [hen]; exact hr') (hpm.put (isMk_sel hmk) hap u)
            · simp at h
          · simp at h
        · subst e
          have hdm := hdst om (Array.mem_of_getElem? hom)
          have hsr : ∀ u, SR γ sl (a.put om.dst u).tmps := by
            intro u t
            by_cases ht : om.dst = some t
            · rw [hund t ht]; trivial
            · have : (a.put om.dst u).tmps.getD t undef = a.tmps.getD t undef := by
                cases hx : om.dst with
                | none => rfl
                | some d => exact getD_put_ne fun e => ht (by rw [hx, e])
              rw [this]; exact hr.sr t
          have hwp : ∀ u, Region.wanted om (yielded ops (a.put om.dst u).tmps) = Region.wanted om (yielded ops a.tmps) := fun u => wanted_put om a om.dst u hHF.2
          have hem : early late (listed.setIfInBounds j' true) = true → (!early late listed) = false := fun he => by rw [early_mono he]; rfl
          have hslot : ∀ u d, om.dst = some d → (a.put om.dst u).tmps.getD d undef = u := by
            intro u d hd'
            rw [hd']
            exact getD_put_same (by rw [hr.sz]; exact (hdm d hd').1)
          unfold wpOp
          simp only [hom]
          rcases hpm with hw | ⟨hw, obj, fu, hrun⟩
          · rw [hw]
            simp only [Bool.false_eq_true, if_false]
            refine ⟨tt_of hE (fun _ _ h => h) hem hr.hr, ?_⟩
            exact goB j' om listed k _ hom hmk hHF hmr hok0 hd hfu0 h hle hfr hund ⟨hsr _, hr.hr, by rw [put_defers]; exact hr.df, by rw [put_size]; exact hr.sz⟩ (.inl ⟨by rw [hwp]; exact hw, rfl, hslot _⟩)
          · rw [if_pos hw]
            refine .inl ?_
            unfold Oper.wp
            rw [hrun w, Oper.upon_value]
            have hnone : (bsE w0 Bp (!early late listed)).H w.heap.size = none := by
              cases hx : (bsE w0 Bp (!early late listed)).H w.heap.size with
              | none => rfl
              | some o' => exact absurd (hr.hr.lt hx) (Nat.lt_irrefl _)
            have hnopr : ∀ id m, (bsE w0 Bp (!early late listed)).Pr id ≠ some (w.heap.size, m) := by
              intro id m hx
              exact absurd (hr.hr.own id _ m (hr.hr.keep id _ m hx).1).2 (Nat.lt_irrefl _)
            have hg : Gh P ops om (bsE w0 Bp (!early late listed)) ((bsE w0 Bp (!early late listed)).add w.heap.size obj) (a.put om.dst (fu w.heap.size)) :=
              .inr ⟨by rw [hwp]; exact hw, obj, fu, w.heap.size, by rw [execOp_put om (isMk_sel hmk) a om.dst _ hHF.2]; exact hrun, ⟨hnone, hnopr⟩, rfl, hslot _⟩
            refine ⟨tt_of hE hg.le hem (hr.hr.ghost obj), ?_⟩
            refine goB j' om listed k _ hom hmk hHF hmr hok0 hd hfu0 h hle ?_ hund ⟨hsr _, hr.hr.ghost obj, by rw [put_defers]; exact hr.df, by rw [put_size]; exact hr.sz⟩ hg
            intro id r m hlt hl
            obtain ⟨h2, h3⟩ := hfr id r m hlt hl
            exact ⟨h2, (push_get (hr.hr.own id r m h2).2).trans h3⟩
    | p m =>
      refine ⟨?_, ?_, ?_⟩
      · intro listed fuel sl hp nx γ a w hok hd hfu h hle hfr hr
        simp only [okR, Bool.and_eq_true] at hok
        obtain ⟨⟨hrd, hf, hma⟩, hok'⟩ := hok
        have hrd := rdyE_spec hrd
        simp only [lenR] at hfu
        unfold runR at h
        unfold mkAt at hma
        split at h
        · rename_i om hom
          rw [hom] at hma
          simp only [Bool.and_eq_true] at hma
          obtain ⟨hmk, hself⟩ := hma
          have hHF : HF ops m om listed := ⟨fun j oj hj hne hun hno => Region.free_spec hom hf j oj hj hne hun hno, fun d hd' => by
            rw [hd'] at hself
            simpa using hself⟩
          have hdm := hdst om (Array.mem_of_getElem? hom)
          have go : runR P call ops late R hp0 fl r (!early late listed) (setS sl om.dst .und) hp nx = some (slF, hpF, nxF) → Pm P ops om a → wpAnyT P ops Qn (TT late R hp0 γ0 wb) fuel listed a w := by
            intro h hpm
            refine ihA m om listed fuel hom hmk hHF hrd hok' hd hfu h hle hfr ?_ ⟨hr.sr.set fun k hk => ⟨(hdm k hk).2, trivial⟩, hr.hr, hr.df, hr.sz⟩ hpm
            intro d hd'
            rw [hd']
            exact slot_und (hdm d hd').2
          split at h
          · rename_i hg
            exact go h (.inl (guard_spec hr.sr hg))
          · rename_i hg
            split at h
            · rename_i x hx
              obtain ⟨v, hp2⟩ := x
              obtain ⟨b, _, hmkk⟩ := mk_step (a := a) hmk hx
              obtain ⟨k, obj, fu, hrun, _⟩ := hmkk γ hr.sr
              exact go h (.inr ⟨guard_spec hr.sr hg, obj, fu, hrun⟩)
            · simp at h
          · simp at h
        · simp at h
      · intro m om listed fuel sl hp nx γ a w w0' _ _ _ _ hok
        simp [okR] at hok
      · intro m om listed fuel sl hp nx γ a w _ _ _ _ hok
        simp [okR] at hok
    | f i =>
      refine ⟨?_, ?_, ?_⟩
      · intro listed fuel sl hp nx γ a w hok
        simp [okR] at hok
      · intro m om listed fuel sl hp nx γ a w w0' hom hmk hHF hmr hok hd hfu h hle hfr hund hr hgh
        simp only [okR, Bool.and_eq_true, beq_iff_eq] at hok
        obtain ⟨⟨rfl, hrd⟩, hok'⟩ := hok
        simp only [lenR] at hfu
        have hen := next_e (late := late) (lt_of_ready hmr)
        have hdm := hdst om (Array.mem_of_getElem? hom)
        obtain ⟨w1, hg1, hr1⟩ := hgh.over (l := late.contains i) hE hle hr
        unfold runR at h
        split at h
        · rename_i o ho
          rw [hom] at ho
          simp only [Option.some.injEq] at ho
          subst ho
          split at h
          · rename_i sl' hp' nx' h1
            have next : ∀ {γ' : Gm}, Gm.le γ γ' → (∀ id r m, γ id = .live r m → γ' id = .live r m) → Rl (bsE w0 Bp (!early late listed || late.contains i)) n γ' sl' hp' nx' a w → wpAnyT P ops Qn (TT late R hp0 γ0 wb) fuel (listed.setIfInBounds i true) a w := by
              intro γ' hle' hsame hr'
              refine ih0 (listed.setIfInBounds i true) fuel hok' (hd.set hmr) (by omega) (by rw [hen]; exact h) (Gm.le_trans hle hle') ?_ (by rw [hen]; exact hr')
              intro id r m hlt hl
              obtain ⟨h2, h3⟩ := hfr id r m hlt hl
              exact ⟨hsame _ _ _ h2, h3⟩
            unfold oneE at h1
            split at h1
            · rename_i hg
              simp only [Option.some.injEq, Prod.mk.injEq] at h1
              obtain ⟨rfl, rfl, rfl⟩ := h1
              have hgs := guard_spec hr1.sr hg
              rcases hg1 with ⟨hw, rfl, hsl⟩ | ⟨hw, _⟩
              · refine next (Gm.le_refl γ) (fun _ _ _ h => h) ⟨hr1.sr.set fun k hk => ⟨(hdm k hk).2, ?_⟩, hr1.hr, hr1.df, hr1.sz⟩
                rw [hsl k hk]; exact undef_rel γ
              · rw [hw] at hgs; cases hgs
            · rename_i hg
              have hgs := guard_spec hr1.sr hg
              rw [isMk_callee hmk] at h1
              simp only at h1
              cases hb : Nat.blt nx lim
              · rw [hb] at h1; simp at h1
              · rw [hb, cond_true] at h1
                have hlt := lt_of_blt hb
                split at h1
                · rename_i v hp2 hst
                  simp only [Option.some.injEq, Prod.mk.injEq] at h1
                  obtain ⟨rfl, rfl, rfl⟩ := h1
                  rcases hg1 with ⟨hw, _⟩ | ⟨hw, obj, fu, r', hrun, hn, rfl, hsl⟩
                  · rw [hw] at hgs; cases hgs
                  · obtain ⟨b, rfl, hmkk⟩ := mk_step (a := a) hmk hst
                    obtain ⟨k, obj', fu', hrun', hbr, hv⟩ := hmkk γ hr1.sr
                    have hfresh := hr1.hr.free nx (Nat.le_refl _)
                    let wr : World := { w with heap := Array.replicate r' default }
                    have e0 : wr.heap.size = r' := by simp [wr]
                    have e1 := (hrun' wr).symm.trans (hrun wr)
                    rw [e0] at e1
                    injection e1 with e2 e3
                    injection e2 with e2
                    have e4 : obj' = obj := by
                      have := congrArg (fun x : World => x.heap[wr.heap.size]?) e3
                      simp only [push_new, Option.some.injEq] at this
                      exact this
                    subst e4
                    have hle' := setG_le (m := .live r' k) hfresh
                    refine next hle' (fun id r m h => ?_) ⟨?_, (hr1.hr.adopt hn.1 hn.2 hfresh hlt hbr).weak (fun j hj => ⟨by omega, by omega⟩), hr1.df, hr1.sz⟩
                    · have hne : id ≠ nx := fun e => by rw [e, hfresh] at h; cases h
                      rw [setG_ne hne]; exact h
                    · refine (hr1.sr.mono hle').set fun d hd' => ⟨(hdm d hd').2, ?_⟩
                      rw [hsl d hd', ← e2]
                      exact hv r'
                · simp at h1
            · simp at h1
          · simp at h
        · simp at h
      · intro m om listed fuel sl hp nx γ a w hom hmk hHF hmr hok hd hfu h hle hfr hund hr hpm
        simp only [okR, Bool.and_eq_true, beq_iff_eq] at hok
        obtain ⟨⟨rfl, hrd⟩, hok'⟩ := hok
        simp only [lenR] at hfu
        obtain ⟨k, rfl⟩ : ∃ k, fuel = k + 1 := ⟨fuel - 1, by omega⟩
        refine ⟨fun h => by rw [hrd] at h; simp at h, fun j' hj' => ?_⟩
        rw [hrd, List.mem_singleton] at hj'
        subst hj'
        unfold runR at h
        split at h
        · rename_i o ho
          split at h
          · rename_i sl' hp' nx' h1
            have hen := next_e (late := late) (lt_of_ready hmr)
            refine (one_op hcall ho (hdst o (Array.mem_of_getElem? ho)) h1 (hr.turn (l := late.contains j') hE hle) ?_).2
            rintro u w' ⟨γ', hle', hr', hfr'⟩
            refine ⟨tt_of hE (fun _ _ h => h) (fun he => by rw [← hen, he]; rfl) hr'.hr, ?_⟩
            exact ih0 (listed.setIfInBounds j' true) k hok' (hd.set hmr) (by omega) (by rw [hen]; exact h) (Gm.le_trans hle hle') (hfr.trans hfr') (by rw [hen]; exact hr')
          · simp at h
        · simp at h

theorem listA_down {ms : List Nat} : ∀ {A : List Nat} {listed : Array Bool}, okA ops ms late listed A = true → Down ops listed → Down ops (listA listed A)
  | [], _, _, h => h
  | i :: r, listed, hok, h => by
    simp only [okA, Bool.and_eq_true] at hok
    exact listA_down (A := r) hok.2.2.2.2 (h.set (rdyE_spec hok.1))
theorem runA_le {slF : Ss} {RF : List Nat} : ∀ (A : List Nat) {sl : Ss} {R : List Nat}, runA P ops hp0 A sl R = some (slF, RF) → ∀ id ∈ R, id ∈ RF
  | [], sl, R, h => by
    simp only [runA, Option.some.injEq, Prod.mk.injEq] at h
    obtain ⟨_, rfl⟩ := h
    exact fun _ h => h
  | i :: r, sl, R, h => by
    unfold runA at h
    split at h
    · split at h
      · intro id hi
        refine runA_le r h id ?_
        unfold addId
        split
        · exact List.mem_cons_of_mem _ hi
        · exact hi
      · simp at h
    · simp at h
theorem runA_sound {ms : List Nat} (hms : MsOk ops ms) (hsel : Region.noSelect ops = true) (hdst : ∀ o ∈ ops, ∀ k, o.dst = some k → k < n ∧ k < lim) (hQp : ∀ c a w, ¬ Qn (.panic c) a w) {γ0 : Gm} {wb : World} {nx : Nat} {slF : Ss} {fuel : Nat} (hr0 : HR (fun j => nx ≤ j) w0 γ0 hp0 wb) :
    ∀ (A : List Nat) (listed : Array Bool) {sl : Ss} {R0 : List Nat} {a : Act}, okA ops ms late listed A = true → Down ops listed → early late listed = true → runA P ops hp0 A sl R0 = some (slF, R) → SR γ0 sl a.tmps → a.defers = [] → a.tmps.size = n →
      (∀ a', SR γ0 slF a'.tmps → a'.defers = [] → a'.tmps.size = n → early late (listA listed A) = true → wpAnyT P ops Qn (TT late R hp0 γ0 wb) fuel (listA listed A) a' wb) →
      wpAnyT P ops Qn (TT late R hp0 γ0 wb) (A.length + fuel) listed a wb
  | [], listed, sl, R0, a, _, _, he, h, hs, hdf, hsz, hfin => by
    simp only [runA, Option.some.injEq, Prod.mk.injEq] at h
    obtain ⟨rfl, rfl⟩ := h
    simp only [List.length_nil, Nat.zero_add]
    exact hfin a hs hdf hsz he
  | i :: r, listed, sl, R0, a, hok, hd, he, h, hs, hdf, hsz, hfin => by
    simp only [okA, Bool.and_eq_true, Bool.not_eq_true', List.contains_eq_mem, decide_eq_false_iff_not, Bool.or_eq_true, List.all_eq_true] at hok
    obtain ⟨hrd, hl, hf, hreach, hok'⟩ := hok
    have hrd := rdyE_spec hrd
    unfold runA at h
    split at h
    · rename_i o ho
      have hdo : ∀ j, o.dst = some j → j < a.tmps.size ∧ j < lim := fun j hj => hsz ▸ hdst o (Array.mem_of_getElem? ho) j hj
      split at h
      · rename_i sl' hq
        have hes : early late (listed.setIfInBounds i true) = true := by rw [early_set hl]; exact he
        have hself : SameR R hp0 γ0 wb wb := fun _ _ _ _ _ _ _ => rfl
        have hlv : HL γ0 (onlyE hp0 (readId ops.toList sl o)) wb := fun id b hb => hr0.live id b (onlyE_gid hb).2
        have hin : ∀ id, readId ops.toList sl o = some id → id ∈ R := by
          intro id hid
          refine runA_le r h id ?_
          rw [hid]
          exact List.mem_cons_self
        obtain ⟨u, hy, hs'⟩ := qui_spec hq hs hlv hdo (fun w' => memE o.op = true → SameR R hp0 γ0 wb w') (fun _ w' hw' hx => (hw' hx).sameL hin)
        have hlen : (i :: r).length + fuel = (r.length + fuel) + 1 := by simp only [List.length_cons]; omega
        rw [hlen]
        refine wpAnyT_first (S := fun w' => memE o.op = true → SameR R hp0 γ0 wb w') ho (Region.noSelect_spec hsel) (fun c a w h => absurd h (hQp c _ w)) (TT_set hl) ?_ _ listed a wb hd (fun j oj hj hne hun hno => Region.free_spec ho hf j oj hj hne hun hno) hrd hy (fun _ => hself) (fun _ => hself) ?_
        · intro listed j w hd hun hj hT hm
          refine TT_set hl listed j w hT ?_
          unfold early
          simp only [List.all_eq_true, Bool.not_eq_true']
          intro k hk
          have hne : k ≠ i := fun e => hl (e ▸ hk)
          have hu := unlisted_false hun
          cases hx : (listed.setIfInBounds j true).getD k false with
          | false => rfl
          | true =>
            exfalso
            have hedges : ∀ oj, ops[k]? = some oj → ∀ e ∈ oj.after, Region.binds .any e = true → listed.getD e.on false = true := by
              intro oj hoj e he hb
              by_cases hjk : j = k
              · subst hjk
                obtain ⟨_, o2, ho2, hall⟩ := mem_ready.1 hj
                rw [ho2] at hoj
                simp only [Option.some.injEq] at hoj
                subst hoj
                exact hall e he hb
              · rw [getD_set_ne false hjk] at hx
                exact hd k hx oj hoj e he hb
            have hbit : (ms.getD k 0).testBit i = true := by
              rcases hreach with h' | h'
              · unfold memAt at h'
                rw [ho] at h'
                simp only [hm] at h'
                cases h'
              · exact h' k hk
            have := hms k i hbit listed hd hedges
            rw [hu] at this; cases this
        · exact runA_sound hms hsel hdst hQp hr0 r (listed.setIfInBounds i true) hok' (hd.set hrd) hes h hs' (by rw [put_defers]; exact hdf) (by rw [put_size]; exact hsz) hfin
      · simp at h
    · simp at h
theorem early_all {k : Nat} (late : List Nat) : early late (Array.replicate k false) = true := by
  unfold early
  simp only [List.all_eq_true, Bool.not_eq_true']
  intro j _
  rw [Array.getD_eq_getD_getElem?, Array.getElem?_replicate]
  split <;> rfl
theorem down_none {k : Nat} : Down ops (Array.replicate k false) := by
  intro j hj
  rw [Array.getD_eq_getD_getElem?, Array.getElem?_replicate] at hj
  split at hj <;> simp at hj
theorem Rl.drew {γ : Gm} {sl : Ss} {hp : Hs} {nx : Nat} {a : Act} {w : World} (h : Rl w0 n γ sl hp nx a w) (k : Nat) : Rl w0 n γ sl hp nx a { w with drawn := k } := ⟨h.sr, h.hr.drew k, h.df, h.sz⟩
theorem draw_sound (hcall : CallOk P call) (hm : P.follows .mixedOrders = true) {id : Nat} {sl sl' : Ss} {hp hp' : Hs} {nx nx' : Nat} (h : drawE P call fl ops sl hp nx = some (sl', hp', nx')) (hdst : ∀ o ∈ ops, ∀ k, o.dst = some k → k < n ∧ k < lim)
    {γ : Gm} {a : Act} {w : World} (hr : Rl w0 n γ sl hp nx a w) : (Code.region id ops true).wp P (fun e a' w' => e = .normal ∧ Aft w0 n fl γ w sl' hp' nx' a' w') a w := by
  unfold drawE at h
  cases hok : okPlan ops (planE ops)
  · rw [hok] at h; simp at h
  · rw [hok, cond_true] at h
    simp only [okPlan, Bool.and_eq_true] at hok
    obtain ⟨hsel, hA, hR, hlen⟩ := hok
    have hlen := Nat.le_of_ble_eq_true hlen
    split at h
    · rename_i sl1 R h1
      have hr' := hr.drew (w.drawn + 1)
      obtain ⟨Bp, hE, hrp⟩ := hr'.hr.protect R
      refine wp_region_any hm (wpAny_of_T (T := TT (planE ops).late R hp γ { w with drawn := w.drawn + 1 }) _ _ _ _ ?_)
      obtain ⟨k, hk⟩ : ∃ k, ops.size = (planE ops).A.length + k := ⟨ops.size - (planE ops).A.length, by omega⟩
      have hAA : okA ops (masksE ops.toList []) (planE ops).late (Array.replicate ops.size false) (planE ops).A = true := hA
      rw [show wpAnyT P ops _ (TT (planE ops).late R hp γ { w with drawn := w.drawn + 1 }) ops.size = wpAnyT P ops _ (TT (planE ops).late R hp γ { w with drawn := w.drawn + 1 }) ((planE ops).A.length + k) from by rw [hk]]
      refine runA_sound (w0 := w0) (n := n) (fuel := k) (R0 := []) (masks_ok ops) hsel hdst (fun c a w h => by simp at h) hr'.hr (planE ops).A (Array.replicate ops.size false) hAA down_none (early_all _) h1 hr'.sr hr'.df hr'.sz ?_
      intro a' hs hdf hsz he
      refine (runR_sound (w0 := w0) (Bp := Bp) (n := n) (fl := fl) hcall hsel hdst (fun c a w h => by simp at h) hE (slF := sl') (hpF := hp') (nxF := nx') (fun a w hA => ⟨rfl, ?_⟩) (planE ops).rest).1 _ k hR (listA_down hAA down_none) (by omega) (by rw [he]; exact h) (Gm.le_refl γ) (Fr.refl _ _ _) (by rw [he]; exact ⟨hs, hrp, hdf, hsz⟩)
      exact hA
    · simp at h
end
end Go.Proofs.Ytclgglffbpfmhaa
