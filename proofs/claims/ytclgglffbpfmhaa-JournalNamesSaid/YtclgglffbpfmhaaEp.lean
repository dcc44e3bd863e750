/- The evaluator once more, cut so that the kernel copies little: each step is the same as before. -/
import Derived.Test.YtclgglffbpfmhaaEk
namespace Go.Proofs.Ytclgglffbpfmhaa
set_option linter.unusedSimpArgs false
set_option linter.unusedVariables false

/-! Trees. -/
noncomputable def getA (p : Pos) : Tr AV → Option AV :=
  Pos.rec (motive := fun _ => Tr AV → Option AV) (fun t => Tr.rec (motive := fun _ => Option AV) none (fun _ v _ _ _ => v) t)
    (fun _ ih t => Tr.rec (motive := fun _ => Option AV) none (fun l _ _ _ _ => ih l) t)
    (fun _ ih t => Tr.rec (motive := fun _ => Option AV) none (fun _ _ r _ _ => ih r) t) p
theorem getA_eq : ∀ (p : Pos) (t : Tr AV), getA p t = t.get p
  | .h, .e => rfl
  | .h, .n _ _ _ => rfl
  | .o p, .e => rfl
  | .o p, .n l v r => getA_eq p l
  | .i p, .e => rfl
  | .i p, .n l v r => getA_eq p r
noncomputable def setA (p : Pos) : Tr AV → AV → Tr AV :=
  Pos.rec (motive := fun _ => Tr AV → AV → Tr AV) (fun t x => Tr.rec (motive := fun _ => Tr AV) (.n .e (some x) .e) (fun l _ r _ _ => .n l (some x) r) t)
    (fun _ ih t x => Tr.rec (motive := fun _ => Tr AV) (.n (ih .e x) none .e) (fun l v r _ _ => .n (ih l x) v r) t)
    (fun _ ih t x => Tr.rec (motive := fun _ => Tr AV) (.n .e none (ih .e x)) (fun l v r _ _ => .n l v (ih r x)) t) p
theorem setA_eq : ∀ (p : Pos) (t : Tr AV) (x : AV), setA p t x = Tr.set p t x
  | .h, .e, x => rfl
  | .h, .n _ _ _, x => rfl
  | .o p, .e, x => congrArg (Tr.n · none .e) (setA_eq p .e x)
  | .o p, .n l v r, x => congrArg (Tr.n · v r) (setA_eq p l x)
  | .i p, .e, x => congrArg (Tr.n .e none ·) (setA_eq p .e x)
  | .i p, .n l v r, x => congrArg (Tr.n l v ·) (setA_eq p r x)
noncomputable def slotF (t : Nat) (sl : Ss) : AV := Bool.rec (motive := fun _ => Ss → AV) (fun _ => .und) (fun sl => Option.rec (motive := fun _ => AV) .und (fun x => x) (getA (key t) sl)) (Nat.blt t lim) sl
theorem slotF_eq (t : Nat) (sl : Ss) : slotF t sl = slotE sl t := by
  unfold slotF slotE
  cases Nat.blt t lim
  · rfl
  · rw [cond_true]
    show Option.rec (motive := fun _ => AV) .und (fun x => x) (getA (key t) sl) = _
    rw [getA_eq]
    cases sl.get (key t) <;> rfl
noncomputable def evF (x : Operand) : Ss → AV := Operand.rec (motive := fun _ => Ss → AV) (fun t => slotF t) (fun v _ => ofV v) (fun _ _ => .und) (fun f _ => .f f []) x
theorem evF_eq (x : Operand) (sl : Ss) : evF x sl = evE sl x := by
  cases x
  case tmp t => exact slotF_eq t sl
  all_goals rfl
noncomputable def setF (d : Option Nat) (sl : Ss) (v : AV) : Ss := Option.rec (motive := fun _ => Ss → AV → Ss) (fun sl _ => sl) (fun d => setA (key d)) d sl v
theorem setF_eq (d : Option Nat) (sl : Ss) (v : AV) : setF d sl v = setS sl d v := by
  cases d
  · rfl
  · exact setA_eq _ _ _

/-! One operation. -/
abbrev R3 := Option (Ss × Hs × Nat)
def doE (P : Program) (call : CallT) (fl : Nat) (o : Oper) (sl : Ss) (hp : Hs) (nx : Nat) : R3 := match calleeE P sl o with
  | some (g, args) => (match call fl nx hp g args with
    | some (v, hp', nx') => some (setS sl o.dst v, hp', nx')
    | none => none)
  | none => bif Nat.blt nx lim then (match stepE P sl hp nx fl o with
    | some (v, hp') => some (setS sl o.dst v, hp', nx + 1)
    | none => none) else none
theorem oneE_do (P : Program) (call : CallT) (fl : Nat) (ops : List Oper) (o : Oper) (sl : Ss) (hp : Hs) (nx : Nat) : oneE P call fl ops o sl hp nx = match guardE ops sl o with
  | some false => some (setS sl o.dst (.tup []), hp, nx)
  | some true => doE P call fl o sl hp nx
  | none => none := by
  unfold oneE doE
  rfl
/-- Into its place. -/
noncomputable def putF (d : Option Nat) (v : AV) (sl : Ss) (hp : Hs) (nx : Nat) : R3 := Bool.rec (motive := fun _ => R3) none (some (setF d sl v, hp, nx + 1)) (Nat.blt nx lim)
noncomputable def valF (r : Option AV) (d : Option Nat) (sl : Ss) (hp : Hs) (nx : Nat) : R3 := Option.rec (motive := fun _ => R3) none (fun v => putF d v sl hp nx) r
noncomputable def stpF (r : Option (AV × Hs)) (d : Option Nat) (sl : Ss) (nx : Nat) : R3 := Option.rec (motive := fun _ => R3) none (fun v => putF d v.1 sl v.2 nx) r
theorem putF_eq (d : Option Nat) (v : AV) (sl : Ss) (hp : Hs) (nx : Nat) : putF d v sl hp nx = bif Nat.blt nx lim then some (setS sl d v, hp, nx + 1) else none := by
  unfold putF
  rw [setF_eq]
  cases Nat.blt nx lim <;> rfl
theorem valF_eq (r : Option AV) (d : Option Nat) (sl : Ss) (hp : Hs) (nx : Nat) : valF r d sl hp nx = bif Nat.blt nx lim then (match r with
    | some v => some (setS sl d v, hp, nx + 1)
    | none => none) else none := by
  cases r
  · show none = _
    cases Nat.blt nx lim <;> rfl
  · exact putF_eq _ _ _ _ _
theorem stpF_eq (r : Option (AV × Hs)) (d : Option Nat) (sl : Ss) (nx : Nat) : stpF r d sl nx = bif Nat.blt nx lim then (match r with
    | some (v, hp') => some (setS sl d v, hp', nx + 1)
    | none => none) else none := by
  cases r
  · show none = _
    cases Nat.blt nx lim <;> rfl
  · exact putF_eq _ _ _ _ _
/-- A number; else. -/
noncomputable def isI (x : AV) : (IntKind → Int → Option AV) → Option AV → Option AV :=
  AV.rec (motive_1 := fun _ => (IntKind → Int → Option AV) → Option AV → Option AV) (motive_2 := fun _ => Unit)
    (fun _ _ d => d) (fun k n f _ => f k n) (fun _ _ d => d) (fun _ _ _ d => d) (fun _ d => d) (fun _ _ _ _ _ _ d => d) (fun _ d => d) (fun _ d => d) (fun _ _ d => d) (fun _ d => d) (fun _ _ _ _ d => d) (fun _ d => d) (fun _ _ _ _ d => d) (fun _ _ _ _ d => d) (fun _ d => d) (fun _ _ _ d => d) (fun _ _ _ d => d) (fun _ d => d) () (fun _ _ _ _ => ()) x
/-- A truth; else. -/
noncomputable def isB (x : AV) : (Bool → R3) → R3 → R3 :=
  AV.rec (motive_1 := fun _ => (Bool → R3) → R3 → R3) (motive_2 := fun _ => Unit)
    (fun b f _ => f b) (fun _ _ _ d => d) (fun _ _ d => d) (fun _ _ _ d => d) (fun _ d => d) (fun _ _ _ _ _ _ d => d) (fun _ d => d) (fun _ d => d) (fun _ _ d => d) (fun _ d => d) (fun _ _ _ _ d => d) (fun _ d => d) (fun _ _ _ _ d => d) (fun _ _ _ _ d => d) (fun _ d => d) (fun _ _ _ d => d) (fun _ _ _ d => d) (fun _ d => d) () (fun _ _ _ _ => ()) x
noncomputable def mapF (l : List Operand) : Ss → List AV → List AV := List.rec (motive := fun _ => Ss → List AV → List AV) (fun _ e => e) (fun x _ ih sl e => evF x sl :: ih sl e) l
theorem mapF_eq : ∀ (l : List Operand) (sl : Ss) (e : List AV), mapF l sl e = l.map (evE sl) ++ e
  | [], _, _ => rfl
  | x :: r, sl, e => by
    show evF x sl :: mapF r sl e = _
    rw [evF_eq, mapF_eq r]; rfl
/-- A function; else. -/
noncomputable def isF (x : AV) : (FuncId → List AV → R3) → R3 → R3 :=
  AV.rec (motive_1 := fun _ => (FuncId → List AV → R3) → R3 → R3) (motive_2 := fun _ => Unit)
    (fun _ _ d => d) (fun _ _ _ d => d) (fun _ _ d => d) (fun _ _ _ d => d) (fun _ d => d) (fun _ _ _ _ _ _ d => d) (fun _ d => d) (fun _ d => d) (fun _ _ d => d) (fun _ d => d) (fun g cs _ f _ => f g cs) (fun _ d => d) (fun _ _ _ _ d => d) (fun _ _ _ _ d => d) (fun _ d => d) (fun _ _ _ d => d) (fun _ _ _ d => d) (fun _ d => d) () (fun _ _ _ _ => ()) x
noncomputable def retF (d : Option Nat) (sl : Ss) (r : Option (AV × Hs × Nat)) : R3 := Option.rec (motive := fun _ => R3) none (fun t => some (setF d sl t.1, t.2.1, t.2.2)) r
noncomputable def callF (c : Call) (P : Program) (call : CallT) (fl : Nat) (o : Oper) (sl : Ss) (hp : Hs) (nx : Nat) : R3 :=
  Callee.rec (motive := fun _ => R3) (fun f => isF (evF f sl) (fun g caps => Bool.rec (motive := fun _ => R3) (doE P call fl o sl hp nx) (retF o.dst sl (call fl nx hp g (mapF c.args.toList sl caps))) (hasBody P g)) (doE P call fl o sl hp nx)) (fun _ _ => doE P call fl o sl hp nx) (fun _ => doE P call fl o sl hp nx) c.callee
theorem callF_eq {c : Call} {o : Oper} (h : o.op = .call c) (P : Program) (call : CallT) (fl : Nat) (sl : Ss) (hp : Hs) (nx : Nat) : callF c P call fl o sl hp nx = doE P call fl o sl hp nx := by
  unfold callF
  cases hc : c.callee with
  | value f =>
    show isF (evF f sl) _ _ = _
    rw [evF_eq]
    cases he : evE sl f
    case f g caps =>
      show Bool.rec (motive := fun _ => R3) _ _ (hasBody P g) = _
      cases hb : hasBody P g
      · rfl
      · show retF o.dst sl (call fl nx hp g (mapF c.args.toList sl caps)) = _
        rw [mapF_eq]
        have hce : calleeE P sl o = some (g, c.args.toList.map (evE sl) ++ caps) := by
          unfold calleeE
          simp only [h, hc, he, hb, cond_true]
        unfold doE
        rw [hce]
        simp only
        unfold retF
        cases call fl nx hp g (c.args.toList.map (evE sl) ++ caps) with
        | none => rfl
        | some t => show some (setF _ _ _, _, _) = _; rw [setF_eq]
    all_goals rfl
  | invoke r n => rfl
  | builtin b => rfl
noncomputable def binF (P : Program) (op : BinOp) (t : TypeId) (x y : AV) : Option AV := isI x (fun k m => isI y (fun k' n => binE P op t (.i k m) (.i k' n)) (binE P op t x y)) (binE P op t x y)
theorem binF_eq (P : Program) (op : BinOp) (t : TypeId) (x y : AV) : binF P op t x y = binE P op t x y := by
  cases x <;> first | rfl | (cases y <;> rfl)
/-- What an operation does. -/
noncomputable def doF (op : Op) : Program → CallT → Nat → Oper → Ss → Hs → Nat → R3 :=
  Op.rec (motive := fun _ => Program → CallT → Nat → Oper → Ss → Hs → Nat → R3)
    (fun x _ _ _ o sl hp nx => putF o.dst (evF x sl) sl hp nx)
    (fun x _ _ _ o sl hp nx => putF o.dst (evF x sl) sl hp nx)
    (fun c a b P call fl o sl hp nx => isB (evF c sl) (fun t => putF o.dst (Bool.rec (motive := fun _ => AV) (evF b sl) (evF a sl) t) sl hp nx) none)
    (fun t P _ _ o sl hp nx => stpF (allocE P hp nx t) o.dst sl nx)
    (fun _ x _ _ _ o sl hp nx => stpF (boxE sl hp nx x) o.dst sl nx)
    (fun t parts P _ _ o sl hp nx => valF (buildE P sl t parts.toList) o.dst sl hp nx)
    (fun t n parts P _ _ o sl hp nx => stpF (buildSliceE P sl hp nx t n parts.toList) o.dst sl nx)
    (fun t m k x P _ fl o sl hp nx => stpF (mapUpdateE P sl hp fl t m k x) o.dst sl nx)
    (fun t x P _ _ o sl hp nx => valF (loadE P sl hp t x) o.dst sl hp nx)
    (fun t x y P _ fl o sl hp nx => stpF (storeE P sl hp fl t x y) o.dst sl nx)
    (fun _ _ _ _ _ _ _ _ => none)
    (fun _ _ _ _ _ _ _ _ => none)
    (fun x P _ _ o sl hp nx => valF (nilCheckE P sl x) o.dst sl hp nx)
    (fun op t x y _ P _ _ o sl hp nx => valF (binF P op t (evF x sl) (evF y sl)) o.dst sl hp nx)
    (fun op _ x _ _ _ o sl hp nx => valF (unE op (evF x sl)) o.dst sl hp nx)
    (fun _ _ _ P call fl o sl hp nx => doE P call fl o sl hp nx)
    (fun _ _ P call fl o sl hp nx => doE P call fl o sl hp nx)
    (fun _ _ P call fl o sl hp nx => doE P call fl o sl hp nx)
    (fun _ _ _ P call fl o sl hp nx => doE P call fl o sl hp nx)
    (fun _ _ P call fl o sl hp nx => doE P call fl o sl hp nx)
    (fun _ _ P call fl o sl hp nx => doE P call fl o sl hp nx)
    (fun _ _ _ P call fl o sl hp nx => doE P call fl o sl hp nx)
    (fun _ _ _ _ _ P call fl o sl hp nx => doE P call fl o sl hp nx)
    (fun t x f P _ _ o sl hp nx => valF (fieldAddrE P sl t x f) o.dst sl hp nx)
    (fun t x f P _ _ o sl hp nx => valF (fieldVE P sl t x f) o.dst sl hp nx)
    (fun t x i P _ _ o sl hp nx => valF (indexAddrE P sl t x i) o.dst sl hp nx)
    (fun t x i P _ _ o sl hp nx => valF (indexE P sl t x i) o.dst sl hp nx)
    (fun _ _ _ _ P call fl o sl hp nx => doE P call fl o sl hp nx)
    (fun _ _ _ _ P call fl o sl hp nx => doE P call fl o sl hp nx)
    (fun _ _ _ P call fl o sl hp nx => doE P call fl o sl hp nx)
    (fun _ _ _ _ P call fl o sl hp nx => doE P call fl o sl hp nx)
    (fun _ _ P call fl o sl hp nx => doE P call fl o sl hp nx)
    (fun _ _ P call fl o sl hp nx => doE P call fl o sl hp nx)
    (fun _ P call fl o sl hp nx => doE P call fl o sl hp nx)
    (fun _ _ _ _ P call fl o sl hp nx => doE P call fl o sl hp nx)
    (fun x n _ _ _ o sl hp nx => valF (extractE sl x n) o.dst sl hp nx)
    (fun c P call fl o sl hp nx => callF c P call fl o sl hp nx)
    (fun _ P call fl o sl hp nx => doE P call fl o sl hp nx)
    (fun _ P call fl o sl hp nx => doE P call fl o sl hp nx)
    (fun _ P call fl o sl hp nx => doE P call fl o sl hp nx)
    (fun _ _ P call fl o sl hp nx => doE P call fl o sl hp nx)
    (fun _ _ _ P call fl o sl hp nx => doE P call fl o sl hp nx)
    (fun _ _ P call fl o sl hp nx => doE P call fl o sl hp nx) op
theorem doF_eq (P : Program) (call : CallT) (fl : Nat) (o : Oper) (sl : Ss) (hp : Hs) (nx : Nat) : doF o.op P call fl o sl hp nx = doE P call fl o sl hp nx := by
  cases h : o.op
  case move x => show putF _ _ _ _ _ = _; rw [putF_eq, evF_eq]; unfold doE calleeE stepE quietE; simp only [h]
  case assign x => show putF _ _ _ _ _ = _; rw [putF_eq, evF_eq]; unfold doE calleeE stepE quietE; simp only [h]
  case pick c a b =>
    show isB _ _ _ = _
    rw [evF_eq]
    unfold doE calleeE stepE quietE noisyE
    simp only [h, pickE]
    cases evE sl c
    case b t =>
      show putF _ _ _ _ _ = _
      rw [putF_eq]
      cases t <;> simp only [evF_eq]
    all_goals (show none = _; cases Nat.blt nx lim <;> rfl)
  case alloc t => show stpF _ _ _ _ = _; rw [stpF_eq]; unfold doE calleeE stepE quietE noisyE; simp only [h]
  case box t x => show stpF _ _ _ _ = _; rw [stpF_eq]; unfold doE calleeE stepE quietE noisyE; simp only [h]
  case build t ps => show valF _ _ _ _ _ = _; rw [valF_eq]; unfold doE calleeE stepE quietE noisyE; simp only [h]; cases buildE P sl t ps.toList <;> rfl
  case buildSlice t n ps => show stpF _ _ _ _ = _; rw [stpF_eq]; unfold doE calleeE stepE quietE noisyE; simp only [h]
  case insert t m k x => show stpF _ _ _ _ = _; rw [stpF_eq]; unfold doE calleeE stepE quietE noisyE; simp only [h]
  case load t x => show valF _ _ _ _ _ = _; rw [valF_eq]; unfold doE calleeE stepE quietE noisyE; simp only [h]; cases loadE P sl hp t x <;> rfl
  case store t x y => show stpF _ _ _ _ = _; rw [stpF_eq]; unfold doE calleeE stepE quietE noisyE; simp only [h]
  case ready => show none = _; unfold doE calleeE stepE quietE noisyE; simp only [h]; cases Nat.blt nx lim <;> rfl
  case waits => show none = _; unfold doE calleeE stepE quietE noisyE; simp only [h]; cases Nat.blt nx lim <;> rfl
  case nilCheck x => show valF _ _ _ _ _ = _; rw [valF_eq]; unfold doE calleeE stepE quietE noisyE; simp only [h]; cases nilCheckE P sl x <;> rfl
  case binOp op t x y t' => show valF _ _ _ _ _ = _; rw [valF_eq, binF_eq, evF_eq, evF_eq]; unfold doE calleeE stepE quietE noisyE; simp only [h]; cases binE P op t (evE sl x) (evE sl y) <;> rfl
  case unOp op t x => show valF _ _ _ _ _ = _; rw [valF_eq, evF_eq]; unfold doE calleeE stepE quietE noisyE; simp only [h]; cases unE op (evE sl x) <;> rfl
  case fieldAddr t x f => show valF _ _ _ _ _ = _; rw [valF_eq]; unfold doE calleeE stepE quietE noisyE; simp only [h]; cases fieldAddrE P sl t x f <;> rfl
  case field t x f => show valF _ _ _ _ _ = _; rw [valF_eq]; unfold doE calleeE stepE quietE noisyE; simp only [h]; cases fieldVE P sl t x f <;> rfl
  case indexAddr t x f => show valF _ _ _ _ _ = _; rw [valF_eq]; unfold doE calleeE stepE quietE noisyE; simp only [h]; cases indexAddrE P sl t x f <;> rfl
  case index t x f => show valF _ _ _ _ _ = _; rw [valF_eq]; unfold doE calleeE stepE quietE noisyE; simp only [h]; cases indexE P sl t x f <;> rfl
  case extract x n => show valF _ _ _ _ _ = _; rw [valF_eq]; unfold doE calleeE stepE quietE noisyE; simp only [h]; cases extractE sl x n <;> rfl
  case call c => exact callF_eq h P call fl sl hp nx
  all_goals rfl
noncomputable def oneF (P : Program) (call : CallT) (fl : Nat) (ops : List Oper) (o : Oper) (sl : Ss) (hp : Hs) (nx : Nat) : R3 :=
  Option.rec (motive := fun _ => R3) (doF o.op P call fl o sl hp nx) (fun _ => oneE P call fl ops o sl hp nx) o.guard
theorem oneF_eq (P : Program) (call : CallT) (fl : Nat) (ops : List Oper) (o : Oper) (sl : Ss) (hp : Hs) (nx : Nat) : oneF P call fl ops o sl hp nx = oneE P call fl ops o sl hp nx := by
  unfold oneF
  cases h : o.guard
  · show doF _ _ _ _ _ _ _ _ = _
    rw [doF_eq, oneE_do]
    unfold guardE
    simp only [h]
  · rfl
noncomputable def opsF (l : List Oper) : Program → CallT → Nat → List Oper → Ss → Hs → Nat → R3 :=
  List.rec (motive := fun _ => Program → CallT → Nat → List Oper → Ss → Hs → Nat → R3) (fun _ _ _ _ sl hp nx => some (sl, hp, nx))
    (fun o _ ih P call fl ops sl hp nx => Option.rec (motive := fun _ => R3) none (fun t => ih P call fl ops t.1 t.2.1 t.2.2) (oneF P call fl ops o sl hp nx)) l
theorem opsF_eq (P : Program) (call : CallT) (fl : Nat) (ops : List Oper) : ∀ (l : List Oper) (sl : Ss) (hp : Hs) (nx : Nat), opsF l P call fl ops sl hp nx = opsE P call fl ops l sl hp nx
  | [], _, _, _ => rfl
  | o :: r, sl, hp, nx => by
    show Option.rec (motive := fun _ => R3) none (fun t => opsF r P call fl ops t.1 t.2.1 t.2.2) (oneF P call fl ops o sl hp nx) = _
    rw [oneF_eq, opsE]
    cases oneE P call fl ops o sl hp nx with
    | none => rfl
    | some t => exact opsF_eq P call fl ops r _ _ _
end Go.Proofs.Ytclgglffbpfmhaa
