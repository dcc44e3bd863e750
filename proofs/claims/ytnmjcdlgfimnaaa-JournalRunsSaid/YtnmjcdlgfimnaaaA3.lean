/- Operations that turn nothing: equal arrays, no row, bytes as text, least and greatest, closures, a row's array. -/
import Derived.Test.YtnmjcdlgfimnaaaA2
import Derived.Laws.AppendOwn
import Derived.Laws.MakeOwn
import Derived.MapKept
namespace Go.Proofs.Ytnmjcdlgfimnaaa
theorem Qj3 {P : Program} {w : World} {e : TypeId} {k : IntKind} (he : P.underlying e = some (.int k)) (hag : ∀ w, (isAgg e).run P w = .ok false w) (d : Nat) :
    ∀ (l m p q : List Int) (i : Nat), p.length = i → q.length = i → l.length = m.length →
    (forIn (List.range' i l.length) ((none : Option Bool), ()) fun i __s => (do
            let __do_lift ← part e ((p ++ l).map (Value.int k)).toArray (i * 1)
            let __do_lift_1 ← part e ((q ++ m).map (Value.int k)).toArray (i * 1)
            let __do_lift ← Op.equalIn (d + 1) e __do_lift __do_lift_1
            if (!__do_lift) = true then pure (ForInStep.done (some false, ())) else pure (ForInStep.yield (none, ())) : Sem (ForInStep (Option Bool × Unit)))).run P w =
     .ok (if l = m then none else some false, ()) w
 | [], [], p, q, i, _, _, _ => by simp
 | [], _ :: _, _, _, _, _, _, h => by simp at h
 | _ :: _, [], _, _, _, _, _, h => by simp at h
 | x :: l, y :: m, p, q, i, hp, hq, h => by
  have ih := Qj3 (w := w) he hag d l m (p ++ [x]) (q ++ [y]) (i + 1) (by simp [hp]) (by simp [hq]) (by simpa using h)
  have p1 : (part e ((p ++ x :: l).map (Value.int k)).toArray (i * 1)).run P w = .ok (.int k x) w := by
   simp [part, hag, ← hp]
  have p2 : (part e ((q ++ y :: m).map (Value.int k)).toArray (i * 1)).run P w = .ok (.int k y) w := by
   simp [part, hag, ← hq]
  have p3 : (Op.equalIn (d + 1) e (.int k x) (.int k y)).run P w = .ok (x == y) w := by simp [Op.equalIn, Qbd he]
  simp only [List.length_cons, List.range'_succ, List.forIn_cons, Sem.run_bind, p1, p2, p3, Result.andThen_ok]
  by_cases hxy : x = y
  ·subst hxy
   simp only [beq_self_eq_true, Bool.not_true, Bool.false_eq_true, if_false, Sem.run_pure, Result.andThen_ok]
   simp only [List.append_assoc, List.singleton_append] at ih
   simpa using ih
  ·have : (x == y) = false := by simpa using hxy
   simp [this, hxy]
theorem Qqs {P : Program} {w : World} {t e : TypeId} {n : Nat} {k : IntKind} (hu : P.underlying t = some (.array n e)) (he : P.underlying e = some (.int k)) (hs : ∀ w, (sizeOf e).run P w = .ok 1 w) (d : Nat) (l m : List Int) (hl : l.length = n) (hm : m.length = n) :
    (Op.equalIn (d + 2) t (.agg (l.map (Value.int k)).toArray) (.agg (m.map (Value.int k)).toArray)).run P w = .ok (decide (l = m)) w := by
 have hag : ∀ w, (isAgg e).run P w = .ok false w := fun w => by simp [isAgg, Qbd he]
 have := Qj3 (w := w) he hag d l m [] [] 0 rfl rfl (by omega)
 unfold Op.equalIn
 simp only [Sem.run_bind, Qbd hu, Result.andThen_ok, hs]
 rw [Std.Legacy.Range.forIn_eq_forIn_range']
 simp only [Std.Legacy.Range.size, Nat.sub_zero, Nat.add_sub_cancel, Nat.div_one]
 rw [← hl]
 simp only [List.nil_append] at this
 rw [this]
 by_cases h : l = m <;> simp [h]
section
variable {C : Ctx} {s : Qan} {K : KT} {o : Oper}
def Qq8 (op : BinOp) (b : Bool) (s : Qan) (K : KT) : Prop := match op with
 | .eql => K (.one (.l (.bool b))) s
 | .neq => K (.one (.l (.bool (!b)))) s
 | _ => False
theorem Qmn {op : BinOp} {t t' : TypeId} {x y : Operand} (ho : o.op = .binOp op t x y t') {b : Bool} (h : Qq8 op b s K) {a : Act} {G : Hp} {γ : Nat → Value}
    {W : World → Prop} (hrun : ∀ w', W w' → (Op.equalIn 10000 t (a.eval x) (a.eval y)).run C.P w' = .ok b w') (hg : ∀ w', W w' → (eqGuard op t x y (a.eval x) (a.eval y)).run C.P w' = .ok () w')
    (hx : ∀ k n, a.eval x ≠ .int k n) (hf : ∀ k n, a.eval x ≠ .float k n) (hc : ∀ k m n, a.eval x ≠ .complex k m n) (hs : ∀ k, a.eval x ≠ .string k) :
    ∃ v tv, (∀ w', W w' → (execOp a.eval o).run C.P w' = .ok (.value v) w') ∧ K tv s ∧ tv.rel G γ v := by
 unfold Qq8 at h
 split at h
 ·refine ⟨.bool b, _, fun w' hw => ?_, h, rfl⟩
  simp only [execOp, ho, Sem.run_bind, hg w' hw, Result.andThen_ok, (Qj4 (hrun w' hw) hx hf hc hs).1, Sem.run_pure]
 ·refine ⟨.bool (!b), _, fun w' hw => ?_, h, rfl⟩
  simp only [execOp, ho, Sem.run_bind, hg w' hw, Result.andThen_ok, (Qj4 (hrun w' hw) hx hf hc hs).2, Sem.run_pure]
 ·exact h.elim
def SV.isAgg : SV → Bool
 | .l x => x.isAgg
 | .agg _ => true
theorem SV.agg_val {v : SV} (h : v.isAgg = true) {G : Hp} {γ : Nat → Value} {u : Value} (hv : v.rel G γ u) : ∃ cs : List Value, u = .agg cs.toArray := by
 cases v with
 | agg xs => obtain ⟨cs, _, e⟩ := hv; exact ⟨cs, e⟩
 | l x =>
  cases x <;> simp only [SV.isAgg, LV.isAgg, Bool.false_eq_true] at h
  case dat R y => obtain ⟨cs, _, e⟩ := hv; exact ⟨cs, by rw [e]; simp [Rep.mk, h]⟩
def Rep.slLen : {α : Type} → Rep α → α → Option Nat
 | _, .slice _, l => some l.length
 | _, _, _ => none
def Qsz (C : Ctx) (s : Qan) (op : BinOp) (t : TypeId) (x y : Operand) (K : KT) : Prop := match ev s x with
 | .l (.dat R a) => (match Qem C t with
  | .arr n e => (match Qem C e with
   | .int k => R.agg = true ∧ (ev s y).isAgg = true ∧ asR (.arr n (.int k)) (.l (.dat R a)) fun l => asR (.arr n (.int k)) (ev s y) fun m => Qq8 op (decide (l = m)) s K
   | _ => False)
  | .slice _ => (match R.slLen a, ev s y with
   | some n, .l .nils => (0 < n → Qq8 op false s K) ∧ (n = 0 → ∀ b, Qq8 op b s K)
   | _, _ => False)
  | _ => False)
 | .l (.own id) => (match Qem C t, Qco s.mem id, ev s y with
  | .slice _, some (.arr _ l), .l .nils => (0 < l.length → Qq8 op false s K) ∧ (l.length = 0 → ∀ b, Qq8 op b s K)
  | _, _, _ => False)
 | .l .nils => (match Qem C t, ev s y with
  | .slice _, .l .nils => Qq8 op true s K
  | _, _ => False)
 | _ => Qsu C s op t x y K
theorem Rep.slLen_spec : {α : Type} → (R : Rep α) → {x : α} → {n : Nat} → R.slLen x = some n → {G : Hp} → {cs : List Value} → R.enc G x cs → ∃ a cap, cs = [.slice a n cap] ∧ n ≤ cap ∧ (a = none → cap = 0) ∧ R.agg = false
 | _, .slice A, l, n, h, G, cs, he => by
  simp only [slLen, Option.some.injEq] at h
  subst h
  obtain ⟨a, cap, e, h1, _, h2, _⟩ := (enc_slice A G l cs).1 he
  exact ⟨a, cap, e, h1, h2, rfl⟩
 | _, .int _, _, _, h, _, _, _ => by simp [slLen] at h
 | _, .bool, _, _, h, _, _, _ => by simp [slLen] at h
 | _, .str, _, _, h, _, _, _ => by simp [slLen] at h
 | _, .unit, _, _, h, _, _, _ => by simp [slLen] at h
 | _, .pair _ _, _, _, h, _, _, _ => by simp [slLen] at h
 | _, .arr _ _, _, _, h, _, _, _ => by simp [slLen] at h
 | _, .iso _ _ _ _ _, _, _, h, _, _, _ => by simp [slLen] at h
theorem Qfz {P : Program} {w : World} {t e : TypeId} (hu : P.underlying t = some (.slice e)) (a : Option Addr) (n c m k d : Nat) : (Op.equalIn (d + 1) t (.slice a n c) (.slice none m k)).run P w = .ok a.isNone w := by
 cases a <;> simp [Op.equalIn, Qbd hu]
theorem Qwx {op : BinOp} {t t' : TypeId} {x y : Operand} (ho : o.op = .binOp op t x y t') (h : Qsz C s op t x y K) : Qda C.P o s K := by
 unfold Qsz at h
 have nilk : ∀ {n : Nat} {ad : Option Addr} {cap : Nat} {e : TypeId} {G : Hp} {γ : Nat → Value} {fr : Nat → Hp} {a : Act}, C.P.underlying t = some (.slice e) → a.eval x = .slice ad n cap → a.eval y = .slice none 0 0 → n ≤ cap → (ad = none → cap = 0) →
     ((0 < n → Qq8 op false s K) ∧ (n = 0 → ∀ b, Qq8 op b s K)) → ∃ v tv, (∀ w', (Qvo o.op = true → Agr G fr (Qao s.mem) w') → (execOp a.eval o).run C.P w' = .ok (.value v) w') ∧ K tv s ∧ tv.rel G γ v := by
  intro n ad cap e G γ fr a hu hx hy hle hn h
  have hk : Qq8 op ad.isNone s K := by
   by_cases h0 : n = 0
   ·exact h.2 h0 _
   ·have : ad.isNone = false := by
     cases ad with
     | none => have := hn rfl; omega
     | some _ => rfl
    rw [this]; exact h.1 (by omega)
  refine Qmn ho hk (fun w' _ => by rw [hx, hy]; exact Qfz hu ad n cap 0 0 9999) (fun w' _ => ?_) (by simp [hx]) (by simp [hx]) (by simp [hx]) (by simp [hx])
  rw [hx, hy]
  unfold eqGuard
  cases op <;> rfl
 split at h
 ·rename_i α R0 a0 he
  intro R G γ fr a w hs hm
  have hx := Qb6 hs x
  have hy := Qb6 hs y
  split at h
  ·rename_i n e htd
   have hu : C.P.underlying t = some (.array n e) := by have := Qbj (C := C) (t := t) (by rw [htd]; simp); rw [htd] at this; exact this
   split at h
   ·rename_i k htk
    have hk : C.P.underlying e = some (.int k) := by have := Qbj (C := C) (t := e) (by rw [htk]; simp); rw [htk] at this; exact this
    obtain ⟨hag, hag2, h⟩ := h
    rw [he] at hx
    obtain ⟨l, h, hl⟩ := Qek h hx
    obtain ⟨m, h, hm'⟩ := Qek h hy
    obtain ⟨cs, e1⟩ := SV.agg_val (v := .l (.dat R0 a0)) hag hx
    obtain ⟨ds, e2⟩ := SV.agg_val hag2 hy
    rw [e1] at hl
    rw [e2] at hm'
    obtain ⟨hn1, hl⟩ := (Rep.enc_arr n _ G l _).1 hl
    obtain ⟨hn2, hm'⟩ := (Rep.enc_arr n _ G m _).1 hm'
    have hl' := (Qeg k l G _).1 hl
    have hm2 := (Qeg k m G _).1 hm'
    simp only [Value.cells] at hl' hm2
    have ei : ∃ i, C.ty t = some i ∧ i.desc = .arr n e := by
     unfold Qem at htd
     split at htd
     ·rename_i i hi; exact ⟨i, hi, htd⟩
     ·simp at htd
    obtain ⟨i, hi, hd⟩ := ei
    have hgrd := (C.ok t i hi).grd n e hd
    have ej : ∃ i, C.ty e = some i ∧ i.desc = .int k := by
     unfold Qem at htk
     split at htk
     ·rename_i i hi; exact ⟨i, hi, htk⟩
     ·simp at htk
    obtain ⟨j, hj, hjd⟩ := ej
    have hsz : ∀ w, (sizeOf e).run C.P w = .ok 1 w := fun w => by
     have := Qc3 (w := w) (C.ok e j hj)
     rwa [(C.ok e j hj).one (by rw [hjd]; rfl)] at this
    have ea : a.eval x = .agg (l.map (Value.int k)).toArray := by rw [e1, ← hl'.1]
    have eb : a.eval y = .agg (m.map (Value.int k)).toArray := by rw [e2, ← hm2.1]
    refine Qmn ho h (fun w' _ => by rw [ea, eb]; exact Qqs hu hk hsz 9998 l m hn1 hn2) (fun w' _ => ?_) (by simp [ea]) (by simp [ea]) (by simp [ea]) (by simp [ea])
    rw [ea, eb]
    unfold eqGuard
    cases op <;> simp [hgrd]
   ·exact h.elim
  ·rename_i e htd
   have hu : C.P.underlying t = some (.slice e) := by have := Qbj (C := C) (t := t) (by rw [htd]; simp); rw [htd] at this; exact this
   split at h
   ·rename_i n hn hey
    rw [he] at hx
    rw [hey] at hy
    obtain ⟨cs, hc, e1⟩ := hx
    obtain ⟨ad, cap, rfl, h1, h2, hag⟩ := R0.slLen_spec hn hc
    have hx' : a.eval x = .slice ad n cap := by rw [e1]; simp [Rep.mk, hag]
    have hy' : a.eval y = .slice none 0 0 := by simpa [SV.rel, LV.relV, LV.rel] using hy
    exact nilk hu hx' hy' h1 h2 h
   ·exact h.elim
  ·exact h.elim
 ·rename_i id he
  intro R G γ fr a w hs hm
  have hx := Qb6 hs x
  have hy := Qb6 hs y
  split at h
  ·rename_i e α A l htd hm' hey
   have hu : C.P.underlying t = some (.slice e) := by have := Qbj (C := C) (t := t) (by rw [htd]; simp); rw [htd] at this; exact this
   rw [he] at hx
   rw [hey] at hy
   have hv' : a.eval x = γ id := by have h1 := hx; simp only [SV.rel, LV.relV, LV.rel, List.cons.injEq, and_true] at h1; exact h1.1
   have hy' : a.eval y = .slice none 0 0 := by simpa [SV.rel, LV.relV, LV.rel] using hy
   rcases hm.arr hm' with ⟨rfl, ad, e1⟩ | ⟨b, t2, es, sp, c, e1, _, _, hle, _⟩
   ·exact nilk hu (hv'.trans e1) hy' (Nat.le_refl _) (fun _ => rfl) h
   ·exact nilk hu (hv'.trans e1) hy' hle (by simp) h
  ·exact h.elim
 ·rename_i he
  intro R G γ fr a w hs hm
  have hx := Qb6 hs x
  have hy := Qb6 hs y
  split at h
  ·rename_i e htd hey
   have hu : C.P.underlying t = some (.slice e) := by have := Qbj (C := C) (t := t) (by rw [htd]; simp); rw [htd] at this; exact this
   rw [he] at hx
   rw [hey] at hy
   have hx' : a.eval x = .slice none 0 0 := by simpa [SV.rel, LV.relV, LV.rel] using hx
   have hy' : a.eval y = .slice none 0 0 := by simpa [SV.rel, LV.relV, LV.rel] using hy
   refine Qmn ho h (fun w' _ => by rw [hx', hy']; exact Qfz hu none 0 0 0 0 9999) (fun w' _ => ?_) (by simp [hx']) (by simp [hx']) (by simp [hx']) (by simp [hx'])
   rw [hx', hy']
   unfold eqGuard
   cases op <;> rfl
  ·exact h.elim
 ·exact Qzn ho h
def Rep.u8 : {α : Type} → Rep α → List α → Option (List Int)
 | _, .int .u8, l => some l
 | _, _, _ => none
theorem Rep.u8_spec : {α : Type} → (R : Rep α) → {l : List α} → {m : List Int} → R.u8 l = some m → {G : Hp} → {cs : List Value} → EncL (fun x c => R.enc G x c) l cs → cs = m.map (Value.int .u8) ∧ m.length = l.length ∧ ∀ x ∈ m, inK .u8 x
 | _, .int .u8, l, m, h, G, cs, he => by
  simp only [u8, Option.some.injEq] at h
  subst h
  have := (Qeg .u8 l G cs).1 he
  exact ⟨this.1, rfl, this.2⟩
 | _, .int .i8, _, _, h, _, _, _ => by simp [u8] at h
 | _, .int .i16, _, _, h, _, _, _ => by simp [u8] at h
 | _, .int .i32, _, _, h, _, _, _ => by simp [u8] at h
 | _, .int .i64, _, _, h, _, _, _ => by simp [u8] at h
 | _, .int .u16, _, _, h, _, _, _ => by simp [u8] at h
 | _, .int .u32, _, _, h, _, _, _ => by simp [u8] at h
 | _, .int .u64, _, _, h, _, _, _ => by simp [u8] at h
 | _, .bool, _, _, h, _, _, _ => by simp [u8] at h
 | _, .str, _, _, h, _, _, _ => by simp [u8] at h
 | _, .unit, _, _, h, _, _, _ => by simp [u8] at h
 | _, .slice _, _, _, h, _, _, _ => by simp [u8] at h
 | _, .pair _ _, _, _, h, _, _, _ => by simp [u8] at h
 | _, .arr _ _, _, _, h, _, _, _ => by simp [u8] at h
 | _, .iso _ _ _ _ _, _, _, h, _, _, _ => by simp [u8] at h
def Qcj (l : List Int) : List UInt8 := l.map fun n => UInt8.ofNat n.toNat
theorem Qrf (l : List Int) : ∀ r : ByteArray, l.foldl (fun r n => r.push (UInt8.ofNat n.toNat)) r = ⟨(r.data.toList ++ Qcj l).toArray⟩ := by
 induction l with
 | nil => intro r; simp [Qcj]
 | cons x l ih =>
  intro r
  simp only [List.foldl_cons, ih]
  simp [Qcj]
def Qg9 (C : Ctx) (t : TypeId) : Bool := match Qem C t with
 | .slice e => (match Qem C e with
  | .int .u8 => true
  | _ => false)
 | _ => false
def Qgy (C : Ctx) (s : Qan) (src dst : TypeId) (x : Operand) (K : KT) : Prop := match ev s x with
 | .l (.int k n) => Qg0 C s src dst x K
 | .l (.str b) => Qg0 C s src dst x K
 | .l .nils => Qg9 C src = true ∧ (match Qem C dst with
  | .str => K (.one (.l (.str []))) s
  | _ => False)
 | .l y => Qg9 C src = true ∧ (match Qem C dst with
  | .str => Qv1 s y fun q => (match q with
   | .mk A l => (match A.u8 l with
    | some m => K (.one (.l (.str (Qcj m)))) s
    | none => False))
  | _ => False)
 | _ => False
theorem Qfm {t : TypeId} (h : Qg9 C t = true) : ∃ e, C.P.underlying t = some (.slice e) ∧ C.P.underlying e = some (.int .u8) := by
 unfold Qg9 at h
 split at h
 ·rename_i e htd
  split at h
  ·rename_i htk
   refine ⟨e, ?_, ?_⟩
   ·have := Qbj (C := C) (t := t) (by rw [htd]; simp); rw [htd] at this; exact this
   ·have := Qbj (C := C) (t := e) (by rw [htk]; simp); rw [htk] at this; exact this
  ·simp at h
 ·simp at h
theorem Qqf {src dst : TypeId} {x : Operand} (ho : o.op = .convert src dst x) (h : Qgy C s src dst x K) : Qda C.P o s K := by
 unfold Qgy at h
 split at h
 ·exact Qnn ho h
 ·exact Qnn ho h
 ·rename_i he
  obtain ⟨hb, h⟩ := h
  obtain ⟨e, hu, hk⟩ := Qfm hb
  intro R G γ fr a w hs hm
  have hx := Qb6 hs x
  rw [he] at hx
  have hx' : a.eval x = .slice none 0 0 := by simpa [SV.rel, LV.relV, LV.rel] using hx
  split at h
  ·rename_i htd
   have hd : C.P.underlying dst = some .string := by have := Qbj (C := C) (t := dst) (by rw [htd]; simp); rw [htd] at this; exact this
   refine ⟨.string .empty, _, fun w' _ => ?_, h, rfl, Nat.zero_le _⟩
   simp only [execOp, ho, hx', Sem.run_bind, run_convert_bytes_string w' src dst e none 0 0 hu hk hd, Conv.bytesToString, Sem.run_pure, Result.andThen_ok]
  ·exact h.elim
 ·rename_i y hne1 hne2 hne3 he
  obtain ⟨hb, h⟩ := h
  obtain ⟨e, hu, hk⟩ := Qfm hb
  intro R G γ fr a w hs hm
  have hx := Qb6 hs x
  rw [he] at hx
  split at h
  ·rename_i htd
   have hd : C.P.underlying dst = some .string := by have := Qbj (C := C) (t := dst) (by rw [htd]; simp); rw [htd] at this; exact this
   obtain ⟨α, A, l, es, ad, cap, h, hv, hle, hmx, hn, henc, hcells⟩ := Qjg hm h hx
   simp only at h
   split at h
   ·rename_i m hm8
    obtain ⟨rfl, hml, _⟩ := A.u8_spec hm8 henc
    cases ad with
    | none =>
     have : l.length = 0 := by have := hn rfl; omega
     have hm0 : m = [] := List.length_eq_zero_iff.1 (by omega)
     subst hm0
     refine ⟨.string .empty, _, fun w' _ => ?_, h, rfl, Nat.zero_le _⟩
     simp only [execOp, ho, hv, Sem.run_bind, run_convert_bytes_string w' src dst e none _ _ hu hk hd, Conv.bytesToString, Sem.run_pure, Result.andThen_ok]
    | some ad =>
     refine ⟨.string ⟨(Qcj m).toArray⟩, _, fun w' ha => ?_, h, rfl, by unfold Qcj; rw [List.length_map]; omega⟩
     have hload : (loadCells ad l.length).run C.P w' = .ok (m.map (Value.int .u8)).toArray w' := by
      have := run_loadCells_list (P := C.P) w' ad (m.map (Value.int .u8)) (fun j u hj => by
       obtain ⟨ad', e1, hc⟩ := hcells w' (ha (by rw [ho]; rfl)) j u hj
       cases e1; exact hc)
      rwa [List.length_map, hml] at this
     have hr := run_bytesToString w' ad l.length cap m hload
     rw [Qrf] at hr
     simp only [execOp, ho, hv, Sem.run_bind, run_convert_bytes_string w' src dst e (some ad) _ _ hu hk hd, hr, Result.andThen_ok, Sem.run_pure]
     rfl
   ·exact h.elim
  ·exact h.elim
 ·exact h.elim
def vMM (s : Qan) (mx : Bool) (k : IntKind) : Int → List Operand → (Int → Prop) → Prop
 | a, [], f => f a
 | a, y :: r, f => match ev s y with
  | .l (.int k' b) => k' = k ∧ vMM s mx k (bif mx then max a b else min a b) r f
  | _ => False
def Qjm (s : Qan) (mx : Bool) (xs : List Operand) (K : KT) : Prop := match xs with
 | x :: r => (match ev s x with
  | .l (.int k a) => vMM s mx k a r fun n => K (.one (.l (.int k n))) s
  | _ => False)
 | [] => False
theorem Qp2 {P : Program} {G : Hp} {γ : Nat → Value} {a : Act} (hs : Qb7 G γ s.sl a.tmps) {mx : Bool} {k : IntKind} : ∀ {r : List Operand} {n : Int} {f : Int → Prop}, inK k n → vMM s mx k n r f →
    ∃ m, f m ∧ inK k m ∧ ∀ w, ((r.map a.eval).foldlM (bif mx then Builtin.max2 else Builtin.min2) (.int k n)).run P w = .ok (.int k m) w
 | [], n, f, hk, h => ⟨n, h, hk, fun w => rfl⟩
 | y :: r, n, f, hk, h => by
  unfold vMM at h
  split at h
  ·rename_i k' b he
   have hy := Qb6 hs y
   rw [he] at hy
   obtain ⟨hy', hbk⟩ := (by simpa [SV.rel, LV.relV, LV.rel] using hy : a.eval y = .int k' b ∧ inK k' b)
   obtain ⟨rfl, h⟩ := h
   have hk2 : inK k' (bif mx then max n b else min n b) := by
    unfold inK at *
    cases mx <;> simp only [cond_true, cond_false] <;> omega
   obtain ⟨m, hf, hmk, hrun⟩ := Qp2 (P := P) hs hk2 h
   refine ⟨m, hf, hmk, fun w => ?_⟩
   have h2 : ((bif mx then Builtin.max2 else Builtin.min2) (.int k' n) (.int k' b)).run P w = .ok (.int k' (bif mx then max n b else min n b)) w := by
    cases mx
    ·simp only [cond_false, Builtin.min2, Sem.run_pure]
     congr 2
     by_cases h : b < n <;> simp [h, Int.min_def] <;> omega
    ·simp only [cond_true, Builtin.max2, Sem.run_pure]
     congr 2
     by_cases h : b > n <;> simp [h, Int.max_def] <;> omega
   simp only [List.map_cons, List.foldlM_cons, Sem.run_bind, hy', h2, Result.andThen_ok, hrun w]
  ·exact h.elim
theorem Qp0 {c : Call} {mx : Bool} (ho : o.op = .call c) (hc : c.callee = .builtin (bif mx then .max else .min)) (h : Qjm s mx c.args.toList K) : Qda C.P o s K := by
 intro R G γ fr a w hs hm
 unfold Qjm at h
 split at h
 ·rename_i x r hxr
  have ha' : c.args = (x :: r).toArray := by apply Array.ext'; simpa using hxr
  split at h
  ·rename_i k n he
   have hx := Qb6 hs x
   rw [he] at hx
   obtain ⟨hx', hnk⟩ := (by simpa [SV.rel, LV.relV, LV.rel] using hx : a.eval x = .int k n ∧ inK k n)
   obtain ⟨m, hK, hmk, hrun⟩ := Qp2 (P := C.P) hs hnk h
   refine ⟨.int k m, _, fun w' _ => ?_, hK, rfl, hmk⟩
   have hargs : (c.args.map a.eval).toList = .int k n :: r.map a.eval := by rw [ha']; simp [hx']
   cases mx
   ·simp only [cond_false] at hc hrun
    simp only [execOp, ho, resolve, hc, Sem.run_bind, Sem.run_pure, Result.andThen_ok, invoke, builtin, Builtin.min_, hargs, hrun w']
   ·simp only [cond_true] at hc hrun
    simp only [execOp, ho, resolve, hc, Sem.run_bind, Sem.run_pure, Result.andThen_ok, invoke, builtin, Builtin.max_, hargs, hrun w']
  ·exact h.elim
 ·exact h.elim
def Qm0 (s : Qan) : List Operand → (List Nat → Prop) → Prop
 | [], f => f []
 | x :: r, f => match ev s x with
  | .l (.ptr id [] 0) => Qm0 s r fun l => f (id :: l)
  | _ => False
def Qg4 (s : Qan) (fn : Fn) (first captured : List Operand) (K : KT) : Prop := match fn, first with
 | .func f, [] => Qm0 s captured fun l => K (.one (.l (.clo f l))) s
 | _, _ => False
theorem Qjr {G : Hp} {γ : Nat → Value} {a : Act} (hs : Qb7 G γ s.sl a.tmps) : ∀ {r : List Operand} {f : List Nat → Prop}, Qm0 s r f →
    ∃ l, f l ∧ r.map a.eval = l.map fun i => Value.pointer (some ⟨blk (γ i), 0, none⟩)
 | [], f, h => ⟨[], h, rfl⟩
 | x :: r, f, h => by
  unfold Qm0 at h
  split at h
  ·rename_i id he
   have hx := Qb6 hs x
   rw [he] at hx
   have hx' : a.eval x = .pointer (some ⟨blk (γ id), 0, none⟩) := by simpa [SV.rel, LV.relV, LV.rel, Qdx] using hx
   obtain ⟨l, hf, e⟩ := Qjr hs h
   exact ⟨id :: l, hf, by simp [hx', e]⟩
  ·exact h.elim
theorem Qq5 {fn : Fn} {first captured : Array Operand} (ho : o.op = .makeFunc fn first captured) (h : Qg4 s fn first.toList captured.toList K) : Qda C.P o s K := by
 intro R G γ fr a w hs hm
 unfold Qg4 at h
 split at h
 ·rename_i f hf
  have h0 : first = #[] := by apply Array.ext'; simpa using hf
  obtain ⟨l, hK, e⟩ := Qjr hs h
  refine ⟨_, _, fun w' _ => ?_, hK, rfl⟩
  have e' : captured.map a.eval = (l.map fun i => Value.pointer (some ⟨blk (γ i), 0, none⟩)).toArray := by
   apply Array.ext'
   simpa using e
  simp only [execOp, ho, Instr.makeFunc, h0, e', Array.map_empty, Sem.run_bind, Sem.run_pure, Result.andThen_ok]
 ·exact h.elim
def Qiu (C : Ctx) (s : Qan) (arr : TypeId) (x : Operand) (K : KT) : Prop := match Qem C arr, ev s x with
 | .arr n _, .l (.own id) => (match Qco s.mem id with
  | some (.arr _ l) => 0 < n ∧ n ≤ l.length ∧ K (.one (.l (.ptr id [] 0))) s
  | _ => False)
 | .arr n _, .l (.dat R y) => (match R.slSrc y with
  | some (.mk A l) => 0 < n ∧ n ≤ l.length ∧ K (.one (.l (.eptr (.arr n A) (l.take n) [] 0))) s
  | none => False)
 | _, _ => False
theorem Qso {arr : TypeId} {x : Operand} (ho : o.op = .sliceToArrayPointer arr x) (h : Qiu C s arr x K) : Qda C.P o s K := by
 intro R G γ fr a w hs hm
 unfold Qiu at h
 have hx := Qb6 hs x
 split at h
 ·rename_i n e id htd he
  have hu : C.P.underlying arr = some (.array n e) := by have := Qbj (C := C) (t := arr) (by rw [htd]; simp); rw [htd] at this; exact this
  rw [he] at hx
  have hv' : a.eval x = γ id := by have h1 := hx; simp only [SV.rel, LV.relV, LV.rel, List.cons.injEq, and_true] at h1; exact h1.1
  split at h
  ·rename_i α A l hm'
   obtain ⟨h0, h1, hK⟩ := h
   rcases hm.arr hm' with ⟨rfl, ad, e1⟩ | ⟨b, t2, es, sp, c, e1, _, _, hle, _⟩
   ·simp at h1; omega
   ·refine ⟨.pointer (some ⟨b, 0, none⟩), _, fun w' _ => ?_, hK, ?_⟩
    ·have : ¬ l.length < n := by omega
     simp only [execOp, ho, Instr.arrayAt, Sem.run_bind, Qbd hu, Result.andThen_ok, hv', e1, if_neg this, Sem.run_pure]
    ·simp [TV.rel, SV.rel, LV.relV, LV.rel, e1, blk, Qdx]
  ·exact h.elim
 ·rename_i n e α R0 y htd he
  have hu : C.P.underlying arr = some (.array n e) := by have := Qbj (C := C) (t := arr) (by rw [htd]; simp); rw [htd] at this; exact this
  rw [he] at hx
  split at h
  ·rename_i β A l hsrc
   obtain ⟨h0, h1, hK⟩ := h
   obtain ⟨cs, hc, e1⟩ := hx
   obtain ⟨hc', hag⟩ := R0.slSrc_spec hsrc hc
   obtain ⟨ad, cap, rfl, hle, hmx, hn, hd⟩ := (Rep.enc_slice A G l cs).1 hc'
   have hx' : a.eval x = .slice ad l.length cap := by rw [e1]; simp [Rep.mk, hag]
   rcases hd with rfl | ⟨b, p, es, q, t2, f0, rfl, hb, hl⟩
   ·simp at h1; omega
   ·obtain ⟨p2, e2, q2, rfl, hp2, he2⟩ := Qhn hl 0 n (by omega)
    have hp0 : p2 = [] := List.length_eq_zero_iff.1 (by simpa using hp2)
    subst hp0
    refine ⟨.pointer (some ⟨b, p.length, none⟩), _, fun w' _ => ?_, hK, ?_⟩
    ·have : ¬ l.length < n := by omega
     simp only [execOp, ho, Instr.arrayAt, Sem.run_bind, Qbd hu, Result.andThen_ok, hx', if_neg this, Sem.run_pure]
    ·refine ⟨b, p, e2, q2 ++ q, t2, f0, rfl, by rw [hb]; simp only [List.nil_append, List.append_assoc], ?_⟩
     exact (Rep.enc_arr n A G _ _).2 ⟨by simp; omega, by simpa using he2⟩
  ·exact h.elim
 ·exact h.elim
end
end Go.Proofs.Ytnmjcdlgfimnaaa
namespace Go.Proofs.Ytnmjcdlgfimnaaa
def LV.isOwn (id : Nat) : LV → Bool
 | .own i => i == id
 | _ => false
def LV.frzI (id : Nat) (n : LV) (x : LV) : LV := bif x.isOwn id then n else x.kill id
def SV.frzI (id : Nat) (n : LV) : SV → SV
 | .l x => .l (LV.frzI id n x)
 | .agg xs => .agg (xs.map (LV.frzI id n))
def TV.frzI (id : Nat) (n : LV) : TV → TV
 | .one x => .one (x.frzI id n)
 | .tup xs => .tup (xs.map (SV.frzI id n))
def Box.frzI (id : Nat) (n : LV) : Box → Box
 | .segs l => .segs (l.map (LV.frzI id n))
 | .sarr k l => .sarr k (l.map (LV.frzI id n))
 | b => b
def Qm5 (id : Nat) (n : LV) : List (Nat × TV) → List (Nat × TV)
 | [] => []
 | (j, v) :: r => (j, v.frzI id n) :: Qm5 id n r
def Qf0 (id : Nat) (n : LV) : List (Nat × Box) → List (Nat × Box)
 | [] => []
 | (j, b) :: r => bif j == id then Qf0 id n r else (j, b.frzI id n) :: Qf0 id n r
def Qan.freeze (s : Qan) (id : Nat) (n : LV) : Qan := ⟨Qm5 id n s.sl, Qf0 id n s.mem, s.pins⟩
section
variable {G G' : Hp} {γ : Nat → Value} {id : Nat} {n : LV}
theorem LV.frzI_rel (hg : Hp.le G G') (hn : n.rel G' γ [γ id]) {x : LV} {cs : List Value} (h : x.rel G γ cs) : (LV.frzI id n x).rel G' γ cs := by
 unfold LV.frzI
 cases hi : x.isOwn id
 ·exact LV.rel_mono hg (LV.kill_rel (fun _ _ => rfl) h)
 ·cases x <;> simp only [LV.isOwn, beq_iff_eq, Bool.false_eq_true] at hi
  subst hi
  rw [cond_true, h.1]; exact hn
theorem LV.frzI_relV (hg : Hp.le G G') (hn : n.rel G' γ [γ id]) (hna : n.isAgg = false) {x : LV} {v : Value} (h : x.relV G γ v) : (LV.frzI id n x).relV G' γ v := by
 unfold LV.frzI
 cases hi : x.isOwn id
 ·exact LV.relV_mono hg (LV.kill_relV (fun _ _ => rfl) h)
 ·cases x <;> simp only [LV.isOwn, beq_iff_eq, Bool.false_eq_true] at hi
  subst hi
  have h1 := h
  simp only [LV.relV, LV.rel, List.cons.injEq, and_true] at h1
  rw [cond_true, h1.1]; exact LV.relV_of hna hn
theorem Qb5.frzI (hg : Hp.le G G') (hn : n.rel G' γ [γ id]) : ∀ {l : List LV} {cs : List Value}, Qb5 G γ l cs → Qb5 G' γ (l.map (LV.frzI id n)) cs
 | [], _, h => h
 | _ :: _, _, ⟨c, d, e, hx, hl⟩ => ⟨c, d, e, LV.frzI_rel hg hn hx, Qb5.frzI hg hn hl⟩
theorem SV.frzI_rel (hg : Hp.le G G') (hn : n.rel G' γ [γ id]) (hna : n.isAgg = false) {x : SV} {v : Value} (h : x.rel G γ v) : (x.frzI id n).rel G' γ v := by
 cases x with
 | l x => exact LV.frzI_relV hg hn hna h
 | agg xs => obtain ⟨cs, hc, e⟩ := h; exact ⟨cs, hc.frzI hg hn, e⟩
theorem Qcv.frzI (hg : Hp.le G G') (hn : n.rel G' γ [γ id]) (hna : n.isAgg = false) : ∀ {xs : List SV} {vs : List Value}, Qcv G γ xs vs → Qcv G' γ (xs.map (SV.frzI id n)) vs
 | [], _, h => h
 | _ :: _, _, ⟨v, r, e, hx, hr⟩ => ⟨v, r, e, SV.frzI_rel hg hn hna hx, Qcv.frzI hg hn hna hr⟩
theorem TV.frzI_rel (hg : Hp.le G G') (hn : n.rel G' γ [γ id]) (hna : n.isAgg = false) {x : TV} {v : Value} (h : x.rel G γ v) : (x.frzI id n).rel G' γ v := by
 cases x with
 | one x => exact SV.frzI_rel hg hn hna h
 | tup xs => obtain ⟨vs, hv, e⟩ := h; exact ⟨vs, hv.frzI hg hn hna, e⟩
theorem Box.frzI_at (hg : Hp.le G G') (hn : n.rel G' γ [γ id]) {x : Box} {v : Value} {f : Hp} (h : x.at G γ v f) : (x.frzI id n).at G' γ v f := by
 cases x with
 | segs l => obtain ⟨b, t, cs, e, ef, hl⟩ := h; exact ⟨b, t, cs, e, ef, hl.frzI hg hn⟩
 | arr R l => exact Box.at_mono hg h
 | sarr k l => obtain ⟨b, t, es, sp, c, e, ef, hl, hn'⟩ := h; exact ⟨b, t, es, sp, c, e, ef, hl.frzI hg hn, hn'⟩
 | obj O D => exact Box.at_mono hg h
 | mpr A M V dead => exact Box.at_mono hg h
theorem Qi4 (id : Nat) (n : LV) : ∀ (sl : List (Nat × TV)) (i : Nat), Qd7 (Qm5 id n sl) i = (Qd7 sl i).frzI id n
 | [], i => rfl
 | (j, v) :: r, i => by
  unfold Qm5 Qd7
  cases h : (j == i)
  ·exact Qi4 id n r i
  ·rfl
theorem Qdl {id : Nat} {n : LV} : ∀ {mem : List (Nat × Box)} {e : Nat × Box}, e ∈ Qf0 id n mem → e.1 ≠ id ∧ ∃ b, (e.1, b) ∈ mem ∧ e.2 = b.frzI id n
 | [], _, h => by simp [Qf0] at h
 | (j, b) :: r, e, h => by
  unfold Qf0 at h
  cases hj : (j == id)
  ·rw [hj, cond_false, List.mem_cons] at h
   rcases h with rfl | h
   ·exact ⟨by simpa using hj, b, by simp, rfl⟩
   ·obtain ⟨h1, b', h2, h3⟩ := Qdl h
    exact ⟨h1, b', by simp [h2], h3⟩
  ·rw [hj, cond_true] at h
   obtain ⟨h1, b', h2, h3⟩ := Qdl h
   exact ⟨h1, b', by simp [h2], h3⟩
theorem Qey {id : Nat} {n : LV} : ∀ {mem : List (Nat × Box)}, (Qao mem).Nodup → (Qao (Qf0 id n mem)).Nodup
 | [], _ => by simp [Qf0, Qao]
 | (j, b) :: r, h => by
  simp only [Qao, List.map_cons, List.nodup_cons] at h
  unfold Qf0
  cases hj : (j == id)
  ·simp only [cond_false, Qao, List.map_cons, List.nodup_cons]
   refine ⟨fun hm => h.1 ?_, Qey h.2⟩
   obtain ⟨e, he, rfl⟩ := List.mem_map.1 hm
   obtain ⟨_, b', h2, _⟩ := Qdl he
   exact List.mem_map.2 ⟨_, h2, rfl⟩
  ·exact Qey h.2
end
theorem Qc4.freeze {R : Fr} {G : Hp} {γ : Nat → Value} {s : Qan} {a : Act} {w : World} (hs : Qc4 R G γ s a w) {id : Nat} {α : Type} {A : Rep α} {l : List α} (hm : Qco s.mem id = some (.arr A l)) :
    ∃ G', Hp.le G G' ∧ Qc4 R G' γ (s.freeze id (.dat (.slice A) l)) a w ∧ (LV.dat (.slice A) l).rel G' γ [γ id] := by
 obtain ⟨fr, hnd, hpin, hat, hok⟩ := hs.mem
 have hmem := Qca hm
 have hid : id ∈ Qao s.mem := List.mem_map.2 ⟨_, hmem, rfl⟩
 have hf := hok.freeze hid
 have hg : Hp.le G (fun b => (G b).or (fr id b)) := fun b o h => by simp [h]
 have hg2 : Hp.le (fr id) (fun b => (G b).or (fr id b)) := fun b o h => by
  have := hok.gf id hid b (by simp [h])
  simp [this, h]
 have hn : (LV.dat (.slice A) l).rel (fun b => (G b).or (fr id b)) γ [γ id] := by
  refine (Rep.enc_slice A _ l _).2 ?_
  rcases hat _ hmem with ⟨b, t, es, sp, c, e, ef, hl, hle, hmx, _⟩ | ⟨rfl, ⟨ad, e⟩, _⟩
  ·refine ⟨some ⟨b, 0, none⟩, c, by rw [e], hle, hmx, by simp, .inr ⟨b, [], es, sp, t, (0, 0), rfl, ?_, EncL.mono (fun _ _ h => A.enc_mono hg h) hl⟩⟩
   refine hg2 b _ ?_
   simp only at ef
   rw [ef]; simp [sng]
  ·exact ⟨ad, 0, by rw [e]; rfl, by simp, Nat.zero_le _, fun _ => rfl, .inl rfl⟩
 refine ⟨_, hg, ⟨fun i => ?_, ⟨fr, Qey hnd, hpin, ?_, hf.sub ?_⟩, hs.df, hs.pn⟩, hn⟩
 ·show TV.rel _ _ (Qd7 (Qm5 id _ s.sl) i) _
  rw [Qi4]
  exact TV.frzI_rel hg hn rfl (hs.sl i)
 ·intro e he
  obtain ⟨_, b, h2, h3⟩ := Qdl he
  rw [h3]
  exact Box.frzI_at hg hn (hat _ h2)
 ·intro i hi
  obtain ⟨e, he, rfl⟩ := List.mem_map.1 hi
  obtain ⟨h1, b, h2, _⟩ := Qdl he
  simp only [List.mem_filter, ne_eq, decide_not, Bool.not_eq_true', decide_eq_false_iff_not]
  exact ⟨List.mem_map.2 ⟨_, h2, rfl⟩, h1⟩
def Qvj : List Nat → Qan → (Qan → Prop) → Prop
 | [], s, K => K s
 | id :: r, s, K => match Qco s.mem id with
  | some (.arr A l) => Qvj r (s.freeze id (.dat (.slice A) l)) K
  | _ => Qvj r s K
theorem Qjl {R : Fr} {γ : Nat → Value} {a : Act} {w : World} {K : Qan → Prop} : ∀ {ids : List Nat} {s : Qan} {G : Hp}, Qvj ids s K → Qc4 R G γ s a w → ∃ G' s', Hp.le G G' ∧ K s' ∧ Qc4 R G' γ s' a w
 | [], s, G, h, hs => ⟨G, s, Hp.le_refl G, h, hs⟩
 | id :: r, s, G, h, hs => by
  unfold Qvj at h
  split at h
  ·rename_i α A l hm
   obtain ⟨G1, hg1, hs1, _⟩ := hs.freeze hm
   obtain ⟨G2, s2, hg2, hK, hs2⟩ := Qjl h hs1
   exact ⟨G2, s2, Hp.le_trans hg1 hg2, hK, hs2⟩
  ·exact Qjl h hs
def LV.owns : LV → List Nat
 | .own id => [id]
 | _ => []
def Qsv : List LV → List Nat
 | [] => []
 | x :: r => x.owns ++ Qsv r
def Qvk (s : Qan) : List Operand → List Nat
 | [] => []
 | x :: r => Qsv (ev s x).leaves ++ Qvk s r
theorem Qet.frz {P : Program} {o : Oper} {s : Qan} {K : KT} {ids : List Nat} {Q : Qan → Prop} (h : Qvj ids s Q) (hq : ∀ s', Q s' → Qet P o s' K) : Qet P o s K := by
 intro R G γ a w hs
 obtain ⟨G', s', hg, hQ, hs'⟩ := Qjl h hs
 have := hq s' hQ R G' γ a w hs'
 have up : ∀ v w', Qkt R G' a K v w' → Qkt R G a K v w' := fun v w' ⟨G2, γ2, tv, s2, h1, h2⟩ => ⟨G2, γ2, tv, s2, Hp.le_trans hg h1, h2⟩
 unfold Qfy at this ⊢
 revert this
 generalize (execOp a.eval o).run P w = r
 intro this
 cases r with
 | ok n w' =>
  cases n
  case value v => exact up _ _ this
  case skip => exact up _ _ this
  case enter f args => exact Calls.mono this fun e w'' ⟨v, e1, h⟩ => ⟨v, e1, up _ _ h⟩
  all_goals exact this.elim
 | halt x w' => exact this.elim
section
variable {C : Ctx} {s : Qan} {K : KT} {o : Oper}
def Qsb {α : Type} (A : Rep α) (s : Qan) : List (Nat × Operand) → List α → (List α → Prop) → Prop
 | [], l, f => f l
 | p :: r, l, f => p.1 < l.length ∧ asR A (ev s p.2) fun y => Qsb A s r (l.set p.1 y) f
def Qe7 (C : Ctx) (d : Nat) (s : Qan) (t : TypeId) (len : Nat) (parts : List (Nat × Operand)) (K : KT) : Prop := match Qem C t with
 | .slice e => (match C.ty e with
  | some ei => (match ei.rep with
   | some r => ei.size ≠ 0 ∧ r.A.size = ei.size ∧ len * ei.size ≤ 16777216 ∧ Qvj (Qvk s (parts.map (·.2))) s fun s' => Qsb r.A s' parts (List.replicate len r.A.zero) fun l => l.length = len ∧ s'.room d ∧ K (.one (.l (.own d))) (s'.add d (.arr r.A l))
   | none => False)
  | none => False)
 | _ => False
theorem Qn3 {G : Hp} {γ : Nat → Value} {a : Act} (hs : Qb7 G γ s.sl a.tmps) {α : Type} {A : Rep α} : ∀ {parts : List (Nat × Operand)} {l : List α} {f : List α → Prop} {cs : List Value}, Qsb A s parts l f → EncL (fun x c => A.enc G x c) l cs →
    ∃ l' cs', f l' ∧ EncL (fun x c => A.enc G x c) l' cs' ∧ Instr.fill (fun i => some (i * A.size, A.size)) cs.toArray (parts.map fun p => (p.1, a.eval p.2)) = some cs'.toArray
 | [], l, f, cs, h, hr => ⟨l, cs, h, hr, rfl⟩
 | p :: r, l, f, cs, h, hr => by
  unfold Qsb at h
  obtain ⟨hi, h⟩ := h
  obtain ⟨y, h, hy⟩ := Qek h (Qb6 hs p.2)
  obtain ⟨p1, c1, q1, rfl, hp1, hc1, h1, h2⟩ := EncL.at (fun _ _ h => A.enc_length h) hr p.1 hi
  obtain ⟨l2, cs2, hf2, hr2, hrun⟩ := Qn3 hs h (EncL.set hi h1 hy h2)
  refine ⟨l2, cs2, hf2, hr2, ?_⟩
  have hlen : (a.eval p.2).cells.toList.length = A.size := A.enc_length hy
  have hsize : (a.eval p.2).cells.size = A.size := by simpa using hlen
  have hc : c1.length = A.size := A.enc_length hc1
  simp only [List.map_cons, Instr.fill]
  have hno : (decide ((a.eval p.2).cells.size ≠ A.size) || decide (p.1 * A.size + (a.eval p.2).cells.size > (p1 ++ c1 ++ q1).toArray.size)) = false := by
   have : (p1 ++ c1 ++ q1).toArray.size = p.1 * A.size + A.size + q1.length := by simp only [List.size_toArray, List.length_append]; omega
   rw [this, hsize]; simp
  rw [hno]
  simp only [Bool.false_eq_true, if_false]
  have hfold := Ql2 (off := p.1 * A.size) (a.eval p.2).cells.toList c1 p1 q1 0 (by omega) (by omega)
  have e : (a.eval p.2).cells.zipIdx.foldl (fun (cs : Array Value) (c : Value × Nat) => cs.setIfInBounds (p.1 * A.size + c.2) c.1) (p1 ++ c1 ++ q1).toArray = (p1 ++ (a.eval p.2).cells.toList ++ q1).toArray := by
   rw [← Array.foldl_toList, Array.toList_zipIdx, List.append_assoc, List.append_assoc]
   exact hfold
  rw [e]
  exact hrun
theorem Qpz (l : List Value) (hl : 0 < l.length) : ∀ (n i : Nat), i < n * l.length → (List.replicate n l).flatten[i]? = l[i % l.length]?
 | 0, i, h => by simp at h
 | n + 1, i, h => by
  rw [List.replicate_succ, List.flatten_cons, List.getElem?_append]
  split
  ·rename_i h1; rw [Nat.mod_eq_of_lt h1]
  ·rename_i h1
   rw [Qpz l hl n (i - l.length) (by rw [Nat.succ_mul] at h; omega)]
   congr 1
   exact (Nat.mod_eq_sub_mod (by omega)).symm
theorem Qk7 (z : Array Value) (n : Nat) : ((Array.range (n * z.size)).map (z[· % z.size]!)).toList = (List.replicate n z.toList).flatten := by
 have hz : z.toList.length = z.size := by simp
 apply List.ext_getElem?
 intro i
 by_cases hi : i < n * z.size
 ·have h0 : 0 < z.size := by rcases Nat.eq_zero_or_pos z.size with h | h; rw [h] at hi; simp at hi; exact h
  rw [Qpz z.toList (by omega) n i (by omega), hz]
  have hm : i % z.size < z.size := Nat.mod_lt _ h0
  simp [hi, hm]
 ·have h1 : ((Array.range (n * z.size)).map (z[· % z.size]!)).toList.length ≤ i := by simp; omega
  have h2 : (List.replicate n z.toList).flatten.length ≤ i := by simp; omega
  rw [List.getElem?_eq_none h1, List.getElem?_eq_none h2]
theorem EncL.replicate {α : Type} {A : Rep α} {G : Hp} {z : List Value} (h : A.enc G A.zero z) : ∀ n, EncL (fun x c => A.enc G x c) (List.replicate n A.zero) (List.replicate n z).flatten
 | 0 => rfl
 | n + 1 => ⟨z, (List.replicate n z).flatten, by simp [List.replicate_succ], h, EncL.replicate h n⟩
theorem Qh9 {t : TypeId} {len : Nat} {parts : Array (Nat × Operand)} (ho : o.op = .buildSlice t len parts) (h : Qe7 C (Qdq o) s t len parts.toList K) : Qet C.P o s K := by
 unfold Qe7 at h
 split at h
 ·rename_i e htd
  have hu : C.P.underlying t = some (.slice e) := by have := Qbj (C := C) (t := t) (by rw [htd]; simp); rw [htd] at this; exact this
  split at h
  ·rename_i ei hei
   split at h
   ·rename_i r hr
    obtain ⟨hsz, hA, hmax, h⟩ := h
    refine Qet.frz h ?_
    intro s' h R G γ a w hs
    have hok := C.ok e ei hei
    obtain ⟨x, z, hx, _, _, hz, _⟩ := hok.inf
    have hzr : ∀ w, (zeroValue e).run C.P w = .ok z w := fun w => by simp [zeroValue, Qgj hx, hz]
    have henc := hok.rep r hr G z x hx hz
    have hzs : z.cells.size = ei.size := by have := r.A.enc_length henc; rw [hA] at this; simpa using this
    obtain ⟨l, cs, ⟨hlen, hroom, hK⟩, hl, hfill⟩ := Qn3 hs.sl h (EncL.replicate henc len)
    have hmap : (parts.map fun (p : Nat × Operand) => (p.1, a.eval p.2)).toList = parts.toList.map fun p => (p.1, a.eval p.2) := by simp
    have hcells : (Array.range (len * ei.size)).map ((if len * ei.size = 0 then #[] else z.cells : Array Value)[· % (if len * ei.size = 0 then #[] else z.cells : Array Value).size]!) = ((List.replicate len z.cells.toList).flatten).toArray := by
     by_cases h0 : len * ei.size = 0
     ·have : len = 0 := by rcases Nat.mul_eq_zero.1 h0 with h | h; exact h; exact absurd h hsz
      subst this
      simp
     ·apply Array.ext'
      have := Qk7 z.cells len
      rw [hzs] at this
      simp only [h0, if_false, hzs]
      simpa using this
    have hrun : (execOp a.eval o).run C.P w = .ok (.value (.slice (some ⟨w.heap.size, 0, none⟩) len len)) (Qfb w (.cells cs.toArray e)) := by
     have hno : ¬ len * ei.size > 2 ^ 24 := by omega
     rw [hA] at hfill
     by_cases h0 : len * ei.size = 0
     ·simp only [h0, if_true] at hcells
      simp only [h0] at hno
      simp only [execOp, ho, Instr.buildSlice, Sem.run_bind, Qbd hu, Result.andThen_ok, Qc3 hok, h0, if_neg hno, if_true, Sem.run_pure, hmap, hcells, hfill, newRow, run_newObj]
      rfl
     ·simp only [h0, if_false] at hcells
      simp only [execOp, ho, Instr.buildSlice, Sem.run_bind, Qbd hu, Result.andThen_ok, Qc3 hok, h0, if_neg hno, if_false, hzr, Sem.run_pure, hmap, hcells, hfill, newRow, run_newObj]
      rfl
    refine Qcg hrun ?_
    have hb : (Box.arr r.A l).at G γ (.slice (some ⟨w.heap.size, 0, none⟩) len len) (sng w.heap.size (.cells cs.toArray e (0, 0))) :=
     .inl ⟨w.heap.size, e, cs, [], len, by rw [hlen], by simp, hl, by omega, (by have := Nat.le_mul_of_pos_right len (Nat.pos_of_ne_zero hsz); unfold mxL; omega), by simp [hlen]⟩
    refine ⟨G, _, _, _, Hp.le_refl G, hK, ?_, hs.push (Qdq o) hroom hb⟩
    simp [TV.rel, SV.rel, LV.relV, LV.rel, Qcf, Rep.plainCell]
   ·exact h.elim
  ·exact h.elim
 ·exact h.elim
end
end Go.Proofs.Ytnmjcdlgfimnaaa
namespace Go.Proofs.Ytnmjcdlgfimnaaa
section
variable {C : Ctx} {s : Qan} {K : KT} {o : Oper}
def Qfq (C : Ctx) (d : Nat) (s : Qan) (t : TypeId) (l c : Operand) (K : KT) : Prop := match Qem C t, ev s l, ev s c with
 | .slice e, .l (.int _ n), .l (.int _ m) => (match C.ty e with
  | some ei => (match ei.rep with
   | some r => ei.size ≠ 0 ∧ r.A.size = ei.size ∧ 0 ≤ n ∧ n ≤ m ∧ m ≤ 9223372036854775807 ∧ ei.bytes * m ≤ 281474976710656 ∧ s.room d ∧ K (.one (.l (.own d))) (s.add d (.arr r.A (List.replicate n.toNat r.A.zero)))
   | none => False)
  | none => False)
 | _, _, _ => False
theorem Qju {t : TypeId} {l c : Operand} (ho : o.op = .makeSlice t l c) (h : Qfq C (Qdq o) s t l c K) : Qet C.P o s K := by
 intro R G γ a w hs
 unfold Qfq at h
 have hl := Qb6 hs.sl l
 have hc := Qb6 hs.sl c
 split at h
 ·rename_i e k n k' m htd hel hec
  have hu : C.P.underlying t = some (.slice e) := by have := Qbj (C := C) (t := t) (by rw [htd]; simp); rw [htd] at this; exact this
  rw [hel] at hl
  rw [hec] at hc
  have hl' : a.eval l = .int k n := (by simpa [SV.rel, LV.relV, LV.rel] using hl : a.eval l = .int k n ∧ inK k n).1
  have hc' : a.eval c = .int k' m := (by simpa [SV.rel, LV.relV, LV.rel] using hc : a.eval c = .int k' m ∧ inK k' m).1
  split at h
  ·rename_i ei hei
   split at h
   ·rename_i r hr
    obtain ⟨hsz, hA, h0, h1, h2, h3, hroom, hK⟩ := h
    have hok := C.ok e ei hei
    obtain ⟨x, z, hx, hxs, hxb, hz, _⟩ := hok.inf
    have henc := hok.rep r hr G z x hx hz
    have hzs : z.cells.size = ei.size := by have := r.A.enc_length henc; rw [hA] at this; simpa using this
    have hrun := run_make (P := C.P) w t e x z hu hx hz k k' n m h0 h1 (by rw [hxb]; exact h3) h2
    have hcells : madeCells z.cells (m.toNat * x.size) = ((List.replicate n.toNat z.cells.toList).flatten ++ (List.replicate (m.toNat - n.toNat) z.cells.toList).flatten).toArray := by
     apply Array.ext'
     rw [hxs, ← hzs]
     show ((Array.range (m.toNat * z.cells.size)).map (z.cells[· % z.cells.size]!)).toList = _
     rw [Qk7, ← List.flatten_append, List.replicate_append_replicate]
     have : n.toNat + (m.toNat - n.toNat) = m.toNat := by omega
     rw [this]
    refine Qcg (v := .slice (some ⟨w.heap.size, 0, none⟩) n.toNat m.toNat) (w' := Qfb w (.cells (madeCells z.cells (m.toNat * x.size)) e)) ?_ ?_
    ·simp only [execOp, ho, hl', hc', Sem.run_bind, hrun, Result.andThen_ok, Sem.run_pure]
     rfl
    ·have hlen : (List.replicate n.toNat r.A.zero).length = n.toNat := by simp
     have hb : (Box.arr r.A (List.replicate n.toNat r.A.zero)).at G γ (.slice (some ⟨w.heap.size, 0, none⟩) n.toNat m.toNat) (sng w.heap.size (.cells (madeCells z.cells (m.toNat * x.size)) e (0, 0))) :=
      .inl ⟨w.heap.size, e, _, _, m.toNat, by rw [hlen], by rw [hcells], EncL.replicate henc n.toNat, by rw [hlen]; omega, by unfold mxL; omega, by rw [hlen, hA]; simp [hzs]⟩
     refine ⟨G, _, _, _, Hp.le_refl G, hK, ?_, hs.push (Qdq o) hroom hb⟩
     simp [TV.rel, SV.rel, LV.relV, LV.rel, Qcf, Rep.plainCell]
   ·exact h.elim
  ·exact h.elim
 ·exact h.elim
theorem Qd6 {P : Program} {w : World} {ad : Option Addr} {n size cap : Nat} {es : List Value} (hl : es.length = n * size) (hc : ∀ (j : Nat) (u : Value), es[j]? = some u → ∃ a, ad = some a ∧ w.cell? (a.add j) = some u) :
    (Builtin.firstCells size n (.slice ad n cap)).run P w = .ok es.toArray w := by
 cases ad with
 | none =>
  have : es = [] := by
   cases es with
   | nil => rfl
   | cons u es => obtain ⟨a, e, _⟩ := hc 0 u rfl; simp at e
  subst this
  simp [Builtin.firstCells]
 | some a =>
  exact run_firstCells_some w size n a n cap es hl fun j u hj => by
   obtain ⟨a', e, h⟩ := hc j u hj
   cases e; exact h
structure Qk8 (P : Program) (size : Nat) (xt : TypeId) (x : Value) (n : Nat) (news : List Value) (w : World) : Prop where
 ty : (∃ e, P.underlying xt = some (.slice e)) ∨ P.underlying xt = some .string
 len : ∀ w', (Builtin.lenOf x).run P w' = .ok n w'
 first : (Builtin.firstCells size n x).run P w = .ok news.toArray w
 drew : (Builtin.firstCells size n x).run P w.drew = .ok news.toArray w.drew
 size : news.length = n * size
 plain : ∀ v ∈ news, Rep.plainCell v = true
theorem Qj8 {P : Program} {w : World} {t xt ty e : TypeId} {size : Nat} (hu : P.underlying t = some (.slice e)) (hsz : ∀ w, (sizeOf e).run P w = .ok size w) {x : Value} {n : Nat} {news : List Value} (hs : Qk8 P size xt x n news w)
    {b len cap : Nat} {es old q : List Value} {bt : TypeId} (hb : w.heap[b]? = some (.cells (es ++ (old ++ q)).toArray bt (0, 0))) (he : es.length = len * size) (hold : old.length = news.length) (hroom : len + n ≤ cap) (hne : news ≠ []) :
    (Builtin.append_ #[t, xt] ty #[.slice (some ⟨b, 0, none⟩) len cap, x]).run P w = .ok (.slice (some ⟨b, 0, none⟩) (len + n) cap) (Qfp w b (.cells (es ++ (news ++ q)).toArray bt (0, 0))) := by
 have hst := Qd4 (P := P) (off := len * size) news old es q 0 w hb (by omega) hold.symm hs.plain hne
 have hadd : (⟨b, 0, none⟩ : Addr).add (len * size) = ⟨b, len * size, none⟩ := by rw [Qea]; simp
 rcases hs.ty with ⟨ex, hd⟩ | hd
 all_goals
  unfold Builtin.append_
  simp only [List.getElem?_toArray, List.getElem?_cons_zero, List.getElem?_cons_succ]
  simp only [Sem.run_bind, Qbd hu, Result.andThen_ok, hsz, Qbd hd, Bool.false_eq_true, if_false, hs.len, if_pos hroom, Bool.not_false, if_true, hs.first, hadd, hst, Sem.run_pure]
theorem Qej {P : Program} {w : World} {t xt ty e : TypeId} {size : Nat} (hu : P.underlying t = some (.slice e)) (hsz : ∀ w, (sizeOf e).run P w = .ok size w) {x : Value} {n : Nat} (hs : Qk8 P size xt x n [] w)
    {ad : Option Addr} {len cap : Nat} (hroom : len + n ≤ cap) :
    (Builtin.append_ #[t, xt] ty #[.slice ad len cap, x]).run P w = .ok (.slice ad (len + n) cap) w := by
 have hf := hs.first
 rcases hs.ty with ⟨ex, hd⟩ | hd
 all_goals
  unfold Builtin.append_
  simp only [List.getElem?_toArray, List.getElem?_cons_zero, List.getElem?_cons_succ]
  cases ad with
  | none => simp only [Sem.run_bind, Qbd hu, Result.andThen_ok, hsz, Qbd hd, Bool.false_eq_true, if_false, hs.len, if_pos hroom, Bool.not_false, if_true, hf, Sem.run_pure]
  | some a => simp only [Sem.run_bind, Qbd hu, Result.andThen_ok, hsz, Qbd hd, Bool.false_eq_true, if_false, hs.len, if_pos hroom, Bool.not_false, if_true, hf, storeCells, Sem.run_pure]
theorem Qe9 {P : Program} {w : World} {t xt ty e : TypeId} {size bytes : Nat} (hu : P.underlying t = some (.slice e)) (hsz : ∀ w, (sizeOf e).run P w = .ok size w) {i : TypeInfo} {z : Value} (hi : P.info? e = some i) (hib : i.bytes = bytes) (hiz : i.zero = some z) {x : Value} {n : Nat} {news : List Value} (hs : Qk8 P size xt x n news w)
    {ad : Option Addr} {len cap : Nat} {olds : List Value} (holds : (Builtin.firstCells size len (.slice ad len cap)).run P w.drew = .ok olds.toArray w.drew) (hroom : cap < len + n) (h63 : len + n ≤ 9223372036854775807) (hfit : (len + n) * bytes ≤ 140737488355328) :
    (Builtin.append_ #[t, xt] ty #[.slice ad len cap, x]).run P w = .ok (.slice (some ⟨w.heap.size, 0, none⟩) (len + n) (grownCap w (len + n) cap e))
     (Qfb w.drew (.cells (olds ++ (news ++ (Builtin.zeroCells z.cells (grownCap w (len + n) cap e - (len + n))).toList)).toArray e)) := by
 have hno : ¬ len + n ≤ cap := by omega
 have h48 : ¬ Builtin.nextslicecap (len + n) cap * i.bytes > 2 ^ 48 := by
  have := growslice_fits hroom (hib ▸ hfit)
  omega
 have h63' : ¬ (((len + n : Nat) : Int) > IntKind.i64.max ∧ (false = true ∨ i.bytes = 0)) := by
  have : IntKind.i64.max = 9223372036854775807 := by decide
  omega
 have hinfo : ∀ w, (typeInfo e).run P w = .ok i w := fun w => by simp [typeInfo, hi]
 have hzv : ∀ w, (zeroValue e).run P w = .ok z w := fun w => by simp [zeroValue, typeInfo, hi, hiz]
 have hch : (choose (.appendCap (len + n) cap e)).run P w = .ok (grownCap w (len + n) cap e) w.drew := by
  rw [run_choose]
  simp only [Question.forced, Bool.false_eq_true, if_false, grownCap]
  rfl
 rcases hs.ty with ⟨ex, hd⟩ | hd
 all_goals
  unfold Builtin.append_
  simp only [List.getElem?_toArray, List.getElem?_cons_zero, List.getElem?_cons_succ]
  simp only [Sem.run_bind, Qbd hu, Result.andThen_ok, hsz, Qbd hd, Bool.false_eq_true, if_false, hs.len, if_neg hno, Bool.not_false, if_true, hinfo]
  have e1 : (((len + n : Nat) : Int) > IntKind.i64.max ∧ ((false || decide (i.bytes = 0)) = true)) = False := by
   have : IntKind.i64.max = 9223372036854775807 := by decide
   simp only [eq_iff_iff, iff_false]
   rintro ⟨h, _⟩; omega
  simp only [Bool.false_or] at e1
  have e2 : (((len + n : Nat) : Int) > IntKind.i64.max) = False := by
   have : IntKind.i64.max = 9223372036854775807 := by decide
   simp only [eq_iff_iff, iff_false]
   omega
  simp only [e2, hs.len, if_neg hno, hinfo, Bool.not_false, if_true, decide_false, Bool.false_and, Bool.false_eq_true, false_and, if_false, if_neg h48, decide_eq_true_eq, hch, Result.andThen_ok, Sem.run_bind, run_askRoom, holds, hs.drew, hzv, newRow, run_newObj, Sem.run_pure]
  congr 2
  apply Array.ext'
  simp
end
end Go.Proofs.Ytnmjcdlgfimnaaa
namespace Go.Proofs.Ytnmjcdlgfimnaaa
def rmM : List (Nat × Box) → Nat → List (Nat × Box)
 | [], _ => []
 | (j, b) :: r, i => bif j == i then rmM r i else (j, b) :: rmM r i
def Qan.rm (s : Qan) (id : Nat) : Qan := ⟨s.sl, rmM s.mem id, s.pins⟩
theorem Qdy {id : Nat} : ∀ {mem : List (Nat × Box)} {e : Nat × Box}, e ∈ rmM mem id → e ∈ mem ∧ e.1 ≠ id
 | [], _, h => by simp [rmM] at h
 | (j, b) :: r, e, h => by
  unfold rmM at h
  cases hj : (j == id)
  ·rw [hj, cond_false, List.mem_cons] at h
   rcases h with rfl | h
   ·exact ⟨by simp, by simpa using hj⟩
   ·exact ⟨by simp [(Qdy h).1], (Qdy h).2⟩
  ·rw [hj, cond_true] at h
   exact ⟨by simp [(Qdy h).1], (Qdy h).2⟩
theorem Qfj {id : Nat} : ∀ {mem : List (Nat × Box)}, (Qao mem).Nodup → (Qao (rmM mem id)).Nodup
 | [], _ => by simp [rmM, Qao]
 | (j, b) :: r, h => by
  simp only [Qao, List.map_cons, List.nodup_cons] at h
  unfold rmM
  cases hj : (j == id)
  ·simp only [cond_false, Qao, List.map_cons, List.nodup_cons]
   refine ⟨fun hm => h.1 ?_, Qfj h.2⟩
   obtain ⟨e, he, rfl⟩ := List.mem_map.1 hm
   exact List.mem_map.2 ⟨_, (Qdy he).1, rfl⟩
  ·exact Qfj h.2
theorem Ok.rename {w : World} {G : Hp} {R : Fr} {ids ids' : List Nat} {fr : Nat → Hp} (h : Ok w G R ids fr) {id d : Nat} (hid : id ∈ ids) (hs : ∀ i ∈ ids', i ∈ ids ∧ i ≠ id) (hd : d ∉ ids') :
    Ok w G R (d :: ids') (Qfi fr d (fr id)) := by
 have ne : ∀ i ∈ ids', i ≠ d := fun i hi e => hd (e ▸ hi)
 refine ⟨h.g, h.r, h.gr, ?_, ?_, ?_, ?_, h.os, h.out⟩
 ·intro i hi
  rcases List.mem_cons.1 hi with rfl | hi
  ·rw [Qbc]; exact h.f id hid
  ·rw [Qbh (ne i hi)]; exact h.f i (hs i hi).1
 ·intro i hi b hb
  rcases List.mem_cons.1 hi with rfl | hi
  ·rw [Qbc] at hb; exact h.gf id hid b hb
  ·rw [Qbh (ne i hi)] at hb; exact h.gf i (hs i hi).1 b hb
 ·intro i hi b hb
  rcases List.mem_cons.1 hi with rfl | hi
  ·rw [Qbc] at hb; exact h.rf id hid b hb
  ·rw [Qbh (ne i hi)] at hb; exact h.rf i (hs i hi).1 b hb
 ·intro i hi j hj hij b hb
  rcases List.mem_cons.1 hi with ei | hi' <;> rcases List.mem_cons.1 hj with ej | hj'
  ·exact absurd (ei.trans ej.symm) hij
  ·rw [ei, Qbc] at hb; rw [Qbh (ne j hj')]; exact h.ff id hid j (hs j hj').1 (Ne.symm (hs j hj').2) b hb
  ·rw [Qbh (ne i hi')] at hb; rw [ej, Qbc]; exact h.ff i (hs i hi').1 id hid (hs i hi').2 b hb
  ·rw [Qbh (ne i hi')] at hb; rw [Qbh (ne j hj')]; exact h.ff i (hs i hi').1 j (hs j hj').1 hij b hb
theorem Ok.nothing {w : World} {G : Hp} {R : Fr} {ids : List Nat} {fr : Nat → Hp} (h : Ok w G R ids fr) {d : Nat} (hd : d ∉ ids) : Ok w G R (d :: ids) (Qfi fr d emp) := by
 have ne : ∀ i ∈ ids, i ≠ d := fun i hi e => hd (e ▸ hi)
 refine ⟨h.g, h.r, h.gr, ?_, ?_, ?_, ?_, h.os, h.out⟩
 ·intro i hi
  rcases List.mem_cons.1 hi with rfl | hi
  ·rw [Qbc]; intro b o hb; simp [emp] at hb
  ·rw [Qbh (ne i hi)]; exact h.f i hi
 ·intro i hi b hb
  rcases List.mem_cons.1 hi with rfl | hi
  ·rw [Qbc] at hb; simp [emp] at hb
  ·rw [Qbh (ne i hi)] at hb; exact h.gf i hi b hb
 ·intro i hi b hb
  rcases List.mem_cons.1 hi with rfl | hi
  ·rw [Qbc] at hb; simp [emp] at hb
  ·rw [Qbh (ne i hi)] at hb; exact h.rf i hi b hb
 ·intro i hi j hj hij b hb
  rcases List.mem_cons.1 hi with ei | hi' <;> rcases List.mem_cons.1 hj with ej | hj'
  ·exact absurd (ei.trans ej.symm) hij
  ·rw [ei, Qbc] at hb; simp [emp] at hb
  ·rw [ej, Qbc]; rfl
  ·rw [Qbh (ne i hi')] at hb; rw [Qbh (ne j hj')]; exact h.ff i hi' j hj' hij b hb
theorem Qf4.add {R : Fr} {G : Hp} {γ : Nat → Value} {fr : Nat → Hp} {mem : List (Nat × Box)} {w : World} (hnd : (Qao mem).Nodup) (hpin : ∀ i v, R.pin i = some v → γ i = v) (hat : ∀ e ∈ mem, e.2.at G γ (γ e.1) (fr e.1))
    {d : Nat} {v : Value} {b : Box} {f : Hp} (hd : R.pin d = none) (hb : b.at G γ v f) (hok : Ok w G R (d :: Qao (Qcq d mem)) (Qfi fr d f)) :
    Qdi R G (Qis γ d v) ((d, b.kill d) :: Qcq d mem) w := by
 have hγ : ∀ i, i ≠ d → Qis γ d v i = γ i := fun i hi => Qds hi
 have hid : d ∉ Qao (Qcq d mem) := by
  intro hi
  obtain ⟨e, he, rfl⟩ := List.mem_map.1 hi
  exact (Qc0 he).1 rfl
 refine ⟨Qfi fr d f, ?_, ?_, ?_, hok⟩
 ·simp only [Qao, List.map_cons, List.nodup_cons]
  exact ⟨hid, Qd3 hnd⟩
 ·intro i u hi
  have : i ≠ d := by rintro rfl; rw [hd] at hi; exact absurd hi (by simp)
  rw [Qds this]; exact hpin i u hi
 ·intro e he
  rcases List.mem_cons.1 he with rfl | he
  ·simp only [Qcf, Qbc]
   exact Box.kill_at hγ hb
  ·obtain ⟨hne, b', h2, h3⟩ := Qc0 he
   rw [Qds hne, Qbh hne, h3]
   exact Box.kill_at hγ (hat _ h2)
theorem Qdj {d : Nat} {mem : List (Nat × Box)} : ∀ i ∈ Qao (Qcq d mem), i ∈ Qao mem ∧ i ≠ d := by
 intro i hi
 obtain ⟨e, he, rfl⟩ := List.mem_map.1 hi
 obtain ⟨h1, b', h2, _⟩ := Qc0 he
 exact ⟨List.mem_map.2 ⟨_, h2, rfl⟩, h1⟩
theorem Qmg {id : Nat} {mem : List (Nat × Box)} : ∀ i ∈ Qao (rmM mem id), i ∈ Qao mem ∧ i ≠ id := by
 intro i hi
 obtain ⟨e, he, rfl⟩ := List.mem_map.1 hi
 exact ⟨List.mem_map.2 ⟨_, (Qdy he).1, rfl⟩, (Qdy he).2⟩
theorem Qc4.addNothing {R : Fr} {G : Hp} {γ : Nat → Value} {s : Qan} {a : Act} {w : World} (hs : Qc4 R G γ s a w) {d : Nat} (hr : s.room d) {v : Value} {b : Box} (hb : b.at G γ v emp) : Qc4 R G (Qis γ d v) (s.add d b) a w := by
 obtain ⟨fr, hnd, hpin, hat, hok⟩ := hs.mem
 refine ⟨hs.sl.kill fun _ hi => Qds hi, ?_, hs.df, hs.pn⟩
 refine Qf4.add hnd hpin hat (hs.unpinned hr) hb ((hok.sub fun i hi => (Qdj i hi).1).nothing ?_)
 intro hi
 exact (Qdj _ hi).2 rfl
theorem Qdi.drew {R : Fr} {G : Hp} {γ : Nat → Value} {mem : List (Nat × Box)} {w : World} (h : Qdi R G γ mem w) (n : Nat) : Qdi R G γ mem { w with drawn := n } := by
 obtain ⟨fr, hnd, hpin, hat, hok⟩ := h
 exact ⟨fr, hnd, hpin, hat, hok.drew n⟩
theorem Qc4.rm {R : Fr} {G : Hp} {γ : Nat → Value} {s : Qan} {a : Act} {w : World} (hs : Qc4 R G γ s a w) (id : Nat) : Qc4 R G γ (s.rm id) a w := by
 obtain ⟨fr, hnd, hpin, hat, hok⟩ := hs.mem
 exact ⟨hs.sl, ⟨fr, Qfj hnd, hpin, fun e he => hat e (Qdy he).1, hok.sub fun i hi => (Qmg i hi).1⟩, hs.df, hs.pn⟩
theorem Qc4.drew {R : Fr} {G : Hp} {γ : Nat → Value} {s : Qan} {a : Act} {w : World} (hs : Qc4 R G γ s a w) (n : Nat) : Qc4 R G γ s a { w with drawn := n } := ⟨hs.sl, hs.mem.drew n, hs.df, hs.pn⟩
theorem Qc4.turn {R : Fr} {G : Hp} {γ : Nat → Value} {s : Qan} {a : Act} {w : World} (hs : Qc4 R G γ s a w) {fr : Nat → Hp} (hm : Qf4 R G γ fr s.mem w) {id d : Nat} {b0 : Box} (hg : Qco s.mem id = some b0) (hr : s.room d) {n : Nat} {o o' : Obj} (hf : fr id = sng n o) {v : Value} {b : Box}
    (hb : b.at G γ v (sng n o')) : Qc4 R G (Qis γ d v) ((s.rm id).add d b) a (Qfp w n o') := by
 obtain ⟨hnd, hpin, hat, hok⟩ := hm
 have hid : id ∈ Qao s.mem := List.mem_map.2 ⟨_, Qca hg, rfl⟩
 have h1 := hok.set hid hf o'
 refine ⟨hs.sl.kill fun _ hi => Qds hi, ?_, hs.df, hs.pn⟩
 have h2 : Ok (Qfp w n o') G R (d :: Qao (Qcq d (rmM s.mem id))) (Qfi (Qfi fr id (sng n o')) d ((Qfi fr id (sng n o')) id)) :=
  h1.rename hid (fun i hi => Qmg i (Qdj i hi).1) fun hi => (Qdj _ hi).2 rfl
 rw [Qbc] at h2
 refine Qf4.add (fr := Qfi fr id (sng n o')) (Qfj hnd) hpin ?_ (hs.unpinned hr) hb h2
 intro e he
 obtain ⟨h3, h4⟩ := Qdy he
 rw [Qbh h4]; exact hat e h3
theorem Qc4.turn0 {R : Fr} {G : Hp} {γ : Nat → Value} {s : Qan} {a : Act} {w : World} (hs : Qc4 R G γ s a w) {fr : Nat → Hp} (hm : Qf4 R G γ fr s.mem w) {id d : Nat} {b0 : Box} (hg : Qco s.mem id = some b0) (hr : s.room d) {v : Value} {b : Box}
    (hb : b.at G γ v (fr id)) : Qc4 R G (Qis γ d v) ((s.rm id).add d b) a w := by
 obtain ⟨hnd, hpin, hat, hok⟩ := hm
 have hid : id ∈ Qao s.mem := List.mem_map.2 ⟨_, Qca hg, rfl⟩
 refine ⟨hs.sl.kill fun _ hi => Qds hi, ?_, hs.df, hs.pn⟩
 have h2 : Ok w G R (d :: Qao (Qcq d (rmM s.mem id))) (Qfi fr d (fr id)) :=
  hok.rename hid (fun i hi => Qmg i (Qdj i hi).1) fun hi => (Qdj _ hi).2 rfl
 exact Qf4.add (fr := fr) (Qfj hnd) hpin (fun e he => hat e (Qdy he).1) (hs.unpinned hr) hb h2
section
variable {C : Ctx} {s : Qan} {K : KT} {o : Oper}
def Qv3 {α : Type} (A : Rep α) (q : SL) (f : List α → Prop) : Prop := match q with
 | @SL.mk β B m => ∃ h : β = α, HEq B A ∧ f (cast (congrArg List h) m)
def Qp3 (C : Ctx) (s : Qan) (xt : TypeId) (v : SV) (f : SL → Prop) : Prop := match v with
 | .l (.str b) => Qem C xt = .str ∧ f (.mk (.int .u8) (b.map fun c => (c.toNat : Int)))
 | .l y => (match Qem C xt with
  | .slice _ => Qv1 s y f
  | _ => False)
 | _ => False
def Qjv (C : Ctx) (d : Nat) (s : Qan) (t xt : TypeId) (x y : Operand) (K : KT) : Prop := match Qem C t with
 | .slice e => (match C.ty e with
  | some ei => ei.size ≠ 0 ∧ Qep ei.zero = ei.size ∧ (match ev s y with
   | .l .nils => Qem C xt ≠ .other ∧ (match Qem C xt with | .slice _ => True | _ => False) ∧ (match ev s x with
    | .l .nils => K (.one (.l .nils)) s
    | .l .emps => K (.one (.l .emps)) s
    | .l (.own id) => (match Qco s.mem id with
     | some (.arr A l) => K (.one (.l (.own id))) s
     | _ => False)
    | _ => False)
   | v => Qp3 C s xt v fun q => (match ev s x with
    | .l .nils => (match q with
     | .mk A m => A.size = ei.size ∧ m.length * (ei.bytes + 1) ≤ 140737488355328 ∧ s.room d ∧ K (.one (.l (.own d))) (s.add d (.arr A m)))
    | .l .emps => (match q with
     | .mk A m => A.size = ei.size ∧ m.length * (ei.bytes + 1) ≤ 140737488355328 ∧ s.room d ∧ K (.one (.l (.own d))) (s.add d (.arr A m)))
    | .l (.own id) => (match Qco s.mem id with
     | some (.arr A l) => Qv3 A q fun m => A.size = ei.size ∧ (l.length + m.length) * (ei.bytes + 1) ≤ 140737488355328 ∧ s.room d ∧ K (.one (.l (.own d))) ((s.rm id).add d (.arr A (l ++ m)))
     | _ => False)
    | _ => False))
  | none => False)
 | _ => False
theorem Qo2 {R : Fr} {G : Hp} {γ : Nat → Value} {fr : Nat → Hp} {w : World} (hm : Qf4 R G γ fr s.mem w) {xt : TypeId} {v : SV} {f : SL → Prop} (h : Qp3 C s xt v f) {u : Value} (hv : v.rel G γ u) :
    ∃ (α : Type) (A : Rep α) (m : List α) (news : List Value), f (.mk A m) ∧ EncL (fun x c => A.enc G x c) m news ∧ Qk8 C.P A.size xt u m.length news w := by
 have pl : ∀ {α : Type} {A : Rep α} {m : List α} {news : List Value}, EncL (fun x c => A.enc G x c) m news → (∀ v ∈ news, Rep.plainCell v = true) ∧ news.length = m.length * A.size := fun {α A m news} he =>
  ⟨Rep.EncL.plain (fun _ _ h => A.enc_plain h) he, EncL.length (fun _ _ h => A.enc_length h) he⟩
 unfold Qp3 at h
 split at h
 ·rename_i b
  obtain ⟨htd, h⟩ := h
  have hu : C.P.underlying xt = some .string := by have := Qbj (C := C) (t := xt) (by rw [htd]; simp); rw [htd] at this; exact this
  have hx : u = .string ⟨b.toArray⟩ := (by simpa [SV.rel, LV.relV, LV.rel] using hv : u = .string ⟨b.toArray⟩ ∧ b.length ≤ mxL).1
  have he : EncL (fun x c => (Rep.int .u8).enc G x c) (b.map fun c => (c.toNat : Int)) (b.map fun c => Value.int .u8 c.toNat) := by
   rw [Qeg]; simp only [List.map_map, List.mem_map]; exact ⟨rfl, by rintro x ⟨c, _, rfl⟩; exact Qps c⟩
  obtain ⟨h1, h2⟩ := pl he
  have hsz : (⟨b.toArray⟩ : ByteArray).size = b.length := by simp [ByteArray.size]
  have hfc : ∀ w', (Builtin.firstCells 1 b.length u).run C.P w' = .ok (b.map fun c => Value.int .u8 c.toNat).toArray w' := by
   intro w'
   subst hx
   have e : (⟨b.toArray⟩ : ByteArray).extract 0 b.length = ⟨b.toArray⟩ := by
    apply ByteArray.ext
    rw [ByteArray.data_extract]
    simp
   simp only [Builtin.firstCells, e, Sem.run_pure]
   congr 1
   apply Array.ext'
   simp
  refine ⟨Int, .int .u8, _, _, h, he, ⟨.inr hu, fun w' => ?_, ?_, ?_, h2, h1⟩⟩
  ·subst hx
   simp only [Builtin.lenOf, hsz, Sem.run_pure, List.length_map]
  ·rw [List.length_map]; exact hfc w
  ·rw [List.length_map]; exact hfc w.drew
 ·rename_i y hne
  split at h
  ·rename_i e htd
   have hu : C.P.underlying xt = some (.slice e) := by have := Qbj (C := C) (t := xt) (by rw [htd]; simp); rw [htd] at this; exact this
   obtain ⟨α, A, l, es, ad, cap, hf, hx, hle, hmx, hn, henc, hcells⟩ := Qjg hm h hv
   obtain ⟨h1, h2⟩ := pl henc
   subst hx
   refine ⟨α, A, l, es, hf, henc, ⟨.inl ⟨e, hu⟩, fun w' => rfl, Qd6 h2 (hcells w hm.agr), Qd6 h2 (hcells w.drew ?_), h2, h1⟩⟩
   exact hm.agr
  ·exact h.elim
 ·exact h.elim
theorem Qh5 {c : Call} {x y : Operand} {t xt : TypeId} (ho : o.op = .call c) (hc : c.callee = .builtin .append) (ha : c.args.toList = [x, y]) (ht : c.argTypes.toList = [t, xt]) (h : Qjv C (Qdq o) s t xt x y K) : Qet C.P o s K := by
 intro R G γ a w hs
 have ha' : c.args = #[x, y] := by apply Array.ext'; simpa using ha
 have ht' : c.argTypes = #[t, xt] := by apply Array.ext'; simpa using ht
 have exec : ∀ {v : Value} {w' : World}, (Builtin.append_ #[t, xt] o.type #[a.eval x, a.eval y]).run C.P w = .ok v w' → (execOp a.eval o).run C.P w = .ok (.value v) w' := by
  intro v w' hrun
  simp only [execOp, ho, resolve, hc, ha', ht', List.map_toArray, List.map_cons, List.map_nil, Sem.run_bind, Sem.run_pure, Result.andThen_ok, invoke, builtin, hrun]
 have hx := Qb6 hs.sl x
 have hy := Qb6 hs.sl y
 unfold Qjv at h
 split at h
 ·rename_i e htd
  have hu : C.P.underlying t = some (.slice e) := by have := Qbj (C := C) (t := t) (by rw [htd]; simp); rw [htd] at this; exact this
  split at h
  ·rename_i ei hei
   obtain ⟨hsz0, hzl, h⟩ := h
   have hok := C.ok e ei hei
   have hsz : ∀ w, (sizeOf e).run C.P w = .ok ei.size w := fun w => Qc3 hok
   obtain ⟨xi, z, hxi, hxs, hxb, hz, hzr⟩ := hok.inf
   have hzlen : z.cells.size = ei.size := by
    have := Qb5.length (hzr G γ)
    rw [hzl] at this
    simpa using this
   obtain ⟨fr, hmf⟩ := hs.mem
   have fin : ∀ {s' : Qan} {w' : World} {v : Value} {γ0 : Nat → Value}, K (.one (.l (.own (Qdq o)))) s' → Qc4 R G (Qis γ0 (Qdq o) v) s' a w' → Rep.plainCell v = true → Qkt R G a K v w' := by
    intro s' w' v γ0 hK hs' hp
    refine ⟨G, _, _, s', Hp.le_refl G, hK, ?_, hs'⟩
    simp [TV.rel, SV.rel, LV.relV, LV.rel, Qcf, hp]
   have bound : ∀ {n : Nat}, n * (ei.bytes + 1) ≤ 140737488355328 → n ≤ 9223372036854775807 ∧ n * ei.bytes ≤ 140737488355328 := by
    intro n hn
    rw [Nat.mul_add] at hn
    constructor <;> omega
   have spare : ∀ (n m : Nat), (Builtin.zeroCells z.cells (n - m)).toList.length = (n - m) * ei.size := by
    intro n m
    simp [Builtin.zeroCells, hzlen]
   -- onto nothing
   have fresh : ∀ {α : Type} {A : Rep α} {m : List α} {news : List Value} {s1 : Qan} {ad : Option Addr}, Qc4 R G γ s1 a w → a.eval x = .slice ad 0 0 → EncL (fun x c => A.enc G x c) m news → Qk8 C.P A.size xt (a.eval y) m.length news w →
       A.size = ei.size → m.length * (ei.bytes + 1) ≤ 140737488355328 → s1.room (Qdq o) → K (.one (.l (.own (Qdq o)))) (s1.add (Qdq o) (.arr A m)) → Qfy C.P a.eval o w (Qkt R G a K) := by
    intro α A m news s1 ad hs1 hx' henc hsrc hA hb hroom hK
    have hnl : news.length = m.length * A.size := EncL.length (fun _ _ h => A.enc_length h) henc
    rw [hA] at hsrc
    by_cases hm0 : m = []
    ·subst hm0
     have : news = [] := List.length_eq_zero_iff.1 (by simpa using hnl)
     subst this
     have hrun := Qej (P := C.P) (w := w) (t := t) (xt := xt) (ty := o.type) hu hsz hsrc (ad := ad) (len := 0) (cap := 0) (Nat.le_refl _)
     rw [← hx'] at hrun
     exact Qcg (exec hrun) (fin hK (hs1.addNothing hroom (.inr ⟨rfl, ⟨ad, rfl⟩, rfl⟩)) rfl)
    ·have hpos : 0 < m.length := List.length_pos_iff.2 hm0
     obtain ⟨h63, hfit⟩ := bound hb
     have h0 : (Builtin.firstCells ei.size 0 (.slice ad 0 0)).run C.P w.drew = .ok ([] : List Value).toArray w.drew := Qd6 (by simp) (by simp)
     have hrun := Qe9 (P := C.P) (w := w) (t := t) (xt := xt) (ty := o.type) hu hsz hxi hxb hz hsrc h0 (by omega) (by omega) (by simpa using hfit)
     rw [← hx'] at hrun
     have hge := grownCap_ge w (0 + m.length) 0 e
     refine Qcg (exec hrun) (fin hK ((hs1.drew (w.drawn + 1)).push (Qdq o) hroom ?_) rfl)
     refine .inl ⟨_, e, news, _, grownCap w (0 + m.length) 0 e, by rw [Nat.zero_add], by rw [List.nil_append], henc, by omega, grownCap_le_maxLen _ _ _ _ (by unfold maxLen; omega), ?_⟩
     rw [spare, hA]; simp
   split at h
   ·rename_i hey
    obtain ⟨hxo, hxt, h⟩ := h
    rw [hey] at hy
    have hy' : a.eval y = .slice none 0 0 := by simpa [SV.rel, LV.relV, LV.rel] using hy
    have hux : ∃ ex, C.P.underlying xt = some (.slice ex) := by
     split at hxt
     ·rename_i ex hx2
      have := Qbj (C := C) (t := xt) (by rw [hx2]; simp)
      rw [hx2] at this
      exact ⟨ex, this⟩
     ·exact hxt.elim
    have hsrc : Qk8 C.P ei.size xt (a.eval y) 0 [] w := by
     rw [hy']
     exact ⟨.inl hux, fun _ => rfl, rfl, rfl, by simp, by simp⟩
    have none' : ∀ {ad : Option Addr} {n c : Nat} {tv : TV}, a.eval x = .slice ad n c → n ≤ c → K tv s → tv.rel G γ (.slice ad n c) → Qfy C.P a.eval o w (Qkt R G a K) := by
     intro ad n c tv hx' hle hK hrel
     have hrun := Qej (P := C.P) (w := w) (t := t) (xt := xt) (ty := o.type) hu hsz hsrc (ad := ad) (len := n) (cap := c) hle
     rw [← hx'] at hrun
     exact Qcg (exec hrun) (.of hK hrel hs)
    split at h
    ·rename_i hex
     rw [hex] at hx
     have hx' : a.eval x = .slice none 0 0 := by simpa [SV.rel, LV.relV, LV.rel] using hx
     exact none' hx' (Nat.le_refl _) h rfl
    ·rename_i hex
     rw [hex] at hx
     obtain ⟨ad, hx'⟩ := hx
     exact none' (by simpa using hx') (Nat.le_refl _) h ⟨ad, rfl⟩
    ·rename_i id hex
     rw [hex] at hx
     have hv' : a.eval x = γ id := by have h1 := hx; simp only [SV.rel, LV.relV, LV.rel, List.cons.injEq, and_true] at h1; exact h1.1
     split at h
     ·rename_i α A l hm'
      rcases hmf.arr hm' with ⟨rfl, ad, e1⟩ | ⟨b, t2, es, sp, cp, e1, _, _, hle, _⟩
      ·exact none' (hv'.trans e1) (Nat.le_refl _) h ⟨by rw [e1], by rw [e1]; rfl⟩
      ·exact none' (hv'.trans e1) hle h ⟨by rw [e1], by rw [e1]; rfl⟩
     ·exact h.elim
    ·exact h.elim
   ·obtain ⟨α, A, m, news, h, henc, hsrc⟩ := Qo2 hmf h hy
    split at h
    ·rename_i hex
     rw [hex] at hx
     have hx' : a.eval x = .slice none 0 0 := by simpa [SV.rel, LV.relV, LV.rel] using hx
     obtain ⟨hA, hb, hroom, hK⟩ := h
     exact fresh hs hx' henc hsrc hA hb hroom hK
    ·rename_i hex
     rw [hex] at hx
     obtain ⟨ad, hx'⟩ := hx
     obtain ⟨hA, hb, hroom, hK⟩ := h
     exact fresh hs (by simpa using hx') henc hsrc hA hb hroom hK
    ·rename_i id hex
     rw [hex] at hx
     have hv' : a.eval x = γ id := by have h1 := hx; simp only [SV.rel, LV.relV, LV.rel, List.cons.injEq, and_true] at h1; exact h1.1
     split at h
     ·rename_i β B l hm'
      unfold Qv3 at h
      obtain ⟨rfl, hBA, hA, hb, hroom, hK⟩ := h
      obtain rfl := eq_of_heq hBA
      simp only [cast_eq] at hA hb hK
      have hmem := Qca hm'
      rcases hmf.at' _ hmem with ⟨b, bt, es, sp, cp, e1, ef, hl, hle, hmx, hsp⟩ | ⟨rfl, ⟨ad, e1⟩, _⟩
      ·have hx' : a.eval x = .slice (some ⟨b, 0, none⟩) l.length cp := hv'.trans e1
       simp only at ef e1
       have hnl : news.length = m.length * A.size := EncL.length (fun _ _ h => A.enc_length h) henc
       have hel : es.length = l.length * A.size := EncL.length (fun _ _ h => A.enc_length h) hl
       have hbw : w.heap[b]? = some (.cells (es ++ sp).toArray bt (0, 0)) := hmf.ok.f id (List.mem_map.2 ⟨_, hmem, rfl⟩) b _ (by rw [ef]; simp [sng])
       rw [hA] at hsrc hnl hel hsp
       obtain ⟨h63, hfit⟩ := bound hb
       have hlm : (l ++ m).length = l.length + m.length := List.length_append
       by_cases hroom2 : l.length + m.length ≤ cp
       ·by_cases hm0 : m = []
        ·subst hm0
         have : news = [] := List.length_eq_zero_iff.1 (by simpa using hnl)
         subst this
         have hrun := Qej (P := C.P) (w := w) (t := t) (xt := xt) (ty := o.type) hu hsz hsrc (ad := some ⟨b, 0, none⟩) hroom2
         rw [← hx'] at hrun
         refine Qcg (exec hrun) (fin hK (hs.turn0 hmf hm' hroom ?_) rfl)
         rw [ef]
         exact .inl ⟨b, bt, es, sp, cp, by simp, rfl, by simpa using hl, by simpa using hle, hmx, by simpa [hA] using hsp⟩
        ·have hpos : 0 < m.length := List.length_pos_iff.2 hm0
         have hne : news ≠ [] := by
          intro e2
          rw [e2] at hnl
          have := Nat.mul_pos hpos (Nat.pos_of_ne_zero hsz0)
          simp at hnl; omega
         have hspl : m.length * ei.size ≤ sp.length := by
          rw [hsp]
          exact Nat.mul_le_mul_right _ (by omega)
         have hold : (sp.take (m.length * ei.size)).length = news.length := by simp; omega
         have hbw' : w.heap[b]? = some (.cells (es ++ (sp.take (m.length * ei.size) ++ sp.drop (m.length * ei.size))).toArray bt (0, 0)) := by rw [List.take_append_drop]; exact hbw
         have hrun := Qj8 (P := C.P) (w := w) (t := t) (xt := xt) (ty := o.type) hu hsz hsrc hbw' hel hold hroom2 hne
         rw [← hx'] at hrun
         refine Qcg (exec hrun) (fin hK (hs.turn hmf hm' hroom ef ?_) rfl)
         refine .inl ⟨b, bt, es ++ news, sp.drop (m.length * ei.size), cp, by rw [hlm], by rw [List.append_assoc], EncL.append hl henc, by omega, hmx, ?_⟩
         rw [hlm, List.length_drop, hsp, hA, ← Nat.sub_mul]
         congr 1
         omega
       ·have holds : (Builtin.firstCells ei.size l.length (.slice (some ⟨b, 0, none⟩) l.length cp)).run C.P w.drew = .ok es.toArray w.drew :=
         Qd6 hel fun j u hj => ⟨_, rfl, Qfo (p := []) (q := sp) (t := bt) (fr := (0, 0)) (show w.heap[b]? = _ by simpa using hbw) rfl hj⟩
        have hrun := Qe9 (P := C.P) (w := w) (t := t) (xt := xt) (ty := o.type) hu hsz hxi hxb hz hsrc holds (by omega) h63 hfit
        rw [← hx'] at hrun
        have hge := grownCap_ge w (l.length + m.length) cp e
        refine Qcg (exec hrun) (fin hK (((hs.rm id).drew (w.drawn + 1)).push (Qdq o) hroom ?_) rfl)
        refine .inl ⟨_, e, es ++ news, _, grownCap w (l.length + m.length) cp e, by rw [hlm], by rw [List.append_assoc], EncL.append hl henc, by omega, grownCap_le_maxLen _ _ _ _ (by unfold maxLen; omega), ?_⟩
        rw [spare, hA, hlm]
      ·exact fresh (hs.rm id) (hv'.trans e1) henc hsrc hA (by simpa using hb) hroom (by simpa using hK)
     ·exact h.elim
    ·exact h.elim
  ·exact h.elim
 ·exact h.elim
end
end Go.Proofs.Ytnmjcdlgfimnaaa
namespace Go.Proofs.Ytnmjcdlgfimnaaa
theorem Qgw {ki : IntKind} {k : Int} : ∀ {es : List MapEntry} {i : Nat}, (∀ e ∈ es, ∃ n, e.key = .int .i64 n) →
    (∃ l e r, es = l ++ e :: r ∧ (∀ x ∈ l, Qe3 k x = false) ∧ Qe3 k e = true ∧ Instr.findNow (.int ki) (.int .i64 k) es i = some (some (i + l.length, e.val))) ∨
    ((∀ x ∈ es, Qe3 k x = false) ∧ Instr.findNow (.int ki) (.int .i64 k) es i = some none)
 | [], i, _ => .inr ⟨by simp, rfl⟩
 | e :: es, i, h => by
  obtain ⟨n, hn⟩ := h e (by simp)
  have hk : Qe3 k e = (k == n) := by simp [Qe3, hn]
  have hs : Instr.sameNow (.int ki) (.int .i64 k) e.key = some (k == n) := by simp [Instr.sameNow, hn]
  cases hb : (k == n)
  ·rcases Qgw (ki := ki) (k := k) (es := es) (i := i + 1) (fun x hx => h x (by simp [hx])) with ⟨l, e', r, e1, h1, h2, h3⟩ | ⟨h1, h2⟩
   ·refine .inl ⟨e :: l, e', r, by rw [e1]; rfl, ?_, h2, ?_⟩
    ·intro x hx
     rcases List.mem_cons.1 hx with rfl | hx
     ·rw [hk, hb]
     ·exact h1 x hx
    ·unfold Instr.findNow
     rw [hs, hb]
     simp only [h3, List.length_cons]
     congr 3
     omega
   ·refine .inr ⟨?_, ?_⟩
    ·intro x hx
     rcases List.mem_cons.1 hx with rfl | hx
     ·rw [hk, hb]
     ·exact h1 x hx
    ·unfold Instr.findNow
     rw [hs, hb]
     exact h2
  ·refine .inl ⟨[], e, es, rfl, by simp, by rw [hk, hb], ?_⟩
   unfold Instr.findNow
   rw [hs, hb]
   simp
theorem Qkv {p : MapEntry → Bool} {l r : List MapEntry} {e : MapEntry} (h1 : ∀ x ∈ l, p x = false) (h2 : p e = true) : (l ++ e :: r).find? p = some e := by
 induction l with
 | nil => simp [h2]
 | cons x l ih =>
  rw [List.cons_append, List.find?_cons, h1 x (by simp)]
  exact ih fun y hy => h1 y (by simp [hy])
theorem Qmv {p : MapEntry → Bool} {l : List MapEntry} (h1 : ∀ x ∈ l, p x = false) : l.find? p = none := by
 rw [List.find?_eq_none]
 intro x hx
 simp [h1 x hx]
theorem Qen {P : Program} {w : World} {kt : TypeId} {ki : IntKind} (hk : P.underlying kt = some (.int ki)) (b : Bool) (n : Nat) (v : Value) : (Instr.checkKey b (n + 1) kt v).run P w = .ok () w := by
 simp [Instr.checkKey, Qbd hk]
theorem Qgh {P : Program} {w : World} {kt : TypeId} {ki : IntKind} (hk : P.underlying kt = some (.int ki)) {es : Array MapEntry} {V : Int → Value} (hm : Qqr es V) (k : Int) :
    (∃ i e, es[i]? = some e ∧ Qe3 k e = true ∧ V k = e.val ∧ (∀ j x, j < i → es[j]? = some x → Qe3 k x = false) ∧ (Instr.findKey kt (.int .i64 k) es.toList).run P w = .ok (some (i, e.val)) w) ∨
    ((∀ x ∈ es.toList, Qe3 k x = false) ∧ V k = .slice none 0 0 ∧ (Instr.findKey kt (.int .i64 k) es.toList).run P w = .ok none w) := by
 rcases Qgw (ki := ki) (k := k) (es := es.toList) (i := 0) hm.1 with ⟨l, e, r, e1, h1, h2, h3⟩ | ⟨h1, h2⟩
 ·refine .inl ⟨l.length, e, ?_, h2, ?_, ?_, ?_⟩
  ·have : es.toList[l.length]? = some e := by rw [e1]; simp
   simpa using this
  ·rw [hm.2 k, e1, Qkv h1 h2]; rfl
  ·intro j x hj hx
   have hx' : es.toList[j]? = some x := by simpa using hx
   rw [e1, List.getElem?_append_left hj] at hx'
   exact h1 x (List.mem_of_getElem? hx')
  ·simp [Instr.findKey, Qbd hk, h3]
 ·refine .inr ⟨h1, ?_, ?_⟩
  ·rw [hm.2 k, Qmv h1]; rfl
  ·simp [Instr.findKey, Qbd hk, h2]
theorem Qqt {P : Program} {w : World} {t kt et : TypeId} {ki : IntKind} (ht : P.underlying t = some (.map kt et)) (hk : P.underlying kt = some (.int ki)) (hz : (zeroValue et).run P w = .ok (.slice none 0 0) w)
    {r clock : Nat} {es : Array MapEntry} (hb : w.heap[r]? = some (.map es clock)) {V : Int → Value} (hm : Qqr es V) (k : Int) : (Instr.lookup t (.map (some r)) (.int .i64 k) false).run P w = .ok (V k) w := by
 rcases Qgh (P := P) (w := w) hk hm k with ⟨i, e, _, _, hV, _, hrun⟩ | ⟨_, hV, hrun⟩
 ·simp [Instr.lookup, Qbd ht, MapKept.run_getObj_map hb, Qen hk, hrun, hV]
 ·simp [Instr.lookup, Qbd ht, MapKept.run_getObj_map hb, Qen hk, hrun, hz, hV]
def Qvd (V : Int → Value) (k : Int) (v : Value) : Int → Value := fun j => if j = k then v else V j
theorem Qq1 {P : Program} {w : World} {t kt et : TypeId} {ki : IntKind} (ht : P.underlying t = some (.map kt et)) (hk : P.underlying kt = some (.int ki))
    {r clock : Nat} {es : Array MapEntry} (hb : w.heap[r]? = some (.map es clock)) {V : Int → Value} (hm : Qqr es V) (k : Int) (v : Value) :
    ∃ es' clock', (Instr.mapUpdate t (.map (some r)) (.int .i64 k) v).run P w = .ok () (Qfp w r (.map es' clock')) ∧ Qqr es' (Qvd V k v) := by
 rcases Qgh (P := P) (w := w) hk hm k with ⟨i, e, hi, hke, hV, hbef, hrun⟩ | ⟨hno, hV, hrun⟩
 ·have hkey : e.key = .int .i64 k := by
   have hmem : e ∈ es.toList := by
    have : es.toList[i]? = some e := by simpa using hi
    exact List.mem_of_getElem? this
   obtain ⟨n, hn⟩ := hm.1 e hmem
   have : k = n := by simpa [Qe3, hn] using hke
   rw [hn, this]
  have hstay : (Instr.keyThatStays (((es[i]?).map (·.key)).getD (.int .i64 k)) (.int .i64 k)).run P w = .ok (.int .i64 k) w := by
   rw [hi]
   simp [Instr.keyThatStays, hkey, Instr.sameBits]
  refine ⟨es.modify i fun e => { e with key := .int .i64 k, val := v }, clock, ?_, ?_⟩
  ·simp only [Instr.mapUpdate, Sem.run_bind, Qbd ht, Result.andThen_ok, MapKept.run_getObj_map hb, Qen hk, hrun, hstay, MapKept.run_setObj_map _ hb]
   rfl
  ·have hlt : i < es.size := by
    rcases Nat.lt_or_ge i es.size with h | h
    ·exact h
    ·simp [Array.getElem?_eq_none h] at hi
   have hl : (es.modify i fun e => { e with key := .int .i64 k, val := v }).toList = es.toList.take i ++ { e with key := .int .i64 k, val := v } :: es.toList.drop (i + 1) := by
    have h1 : i < es.toList.length := by simpa using hlt
    rw [Array.toList_modify, List.modify_eq_take_cons_drop h1]
    have he : es.toList[i]? = some e := by simpa using hi
    have h2 : es.toList[i] = e := by
     rw [List.getElem?_eq_getElem h1] at he
     exact Option.some.inj he
    rw [h2]
   have hsplit : es.toList = es.toList.take i ++ e :: es.toList.drop (i + 1) := by
    have gen : ∀ (l : List MapEntry) (i : Nat) (h : i < l.length), l = l.take i ++ l[i] :: l.drop (i + 1) := by intro l i h; simp
    have he : es.toList[i]? = some e := by simpa using hi
    have h1 : i < es.toList.length := by simpa using hlt
    have h2 : es.toList[i] = e := by
     rw [List.getElem?_eq_getElem h1] at he
     exact Option.some.inj he
    have := gen es.toList i h1
    rw [h2] at this
    exact this
   have hfirst : ∀ x ∈ es.toList.take i, Qe3 k x = false := by
    intro x hx
    obtain ⟨j, hj, hjx⟩ := List.getElem_of_mem hx
    have hj' : j < i := by
     have := hj
     simp only [List.length_take] at this
     omega
    refine hbef j x hj' ?_
    have : (es.toList.take i)[j]? = some x := by rw [List.getElem?_eq_getElem hj, hjx]
    rw [List.getElem?_take_of_lt hj'] at this
    simpa using this
   refine ⟨?_, ?_⟩
   ·intro x hx
    rw [hl] at hx
    rcases List.mem_append.1 hx with hx | hx
    ·exact hm.1 x (List.mem_of_mem_take hx)
    ·rcases List.mem_cons.1 hx with rfl | hx
     ·exact ⟨k, rfl⟩
     ·exact hm.1 x (List.mem_of_mem_drop hx)
   ·intro j
    rw [hl]
    unfold Qvd
    by_cases hj : j = k
    ·subst hj
     rw [if_pos rfl, Qkv hfirst (by simp [Qe3])]
     rfl
    ·rw [if_neg hj, hm.2 j, hsplit]
     have h1 : Qe3 j e = false := by simp [Qe3, hkey, hj]
     have h2 : Qe3 j { e with key := .int .i64 k, val := v } = false := by simp [Qe3, hj]
     rw [← hsplit]
     conv => lhs; rw [hsplit]
     rw [List.find?_append, List.find?_append, List.find?_cons, List.find?_cons, h1, h2]
 ·refine ⟨es.push ⟨.int .i64 k, v, clock⟩, clock + 1, ?_, ?_⟩
  ·simp only [Instr.mapUpdate, Sem.run_bind, Qbd ht, Result.andThen_ok, MapKept.run_getObj_map hb, Qen hk, hrun, MapKept.run_setObj_map _ hb]
   rfl
  ·refine ⟨?_, ?_⟩
   ·intro x hx
    rw [Array.toList_push] at hx
    rcases List.mem_append.1 hx with hx | hx
    ·exact hm.1 x hx
    ·simp only [List.mem_singleton] at hx
     subst hx
     exact ⟨k, rfl⟩
   ·intro j
    rw [Array.toList_push, List.find?_append]
    unfold Qvd
    by_cases hj : j = k
    ·subst hj
     rw [if_pos rfl, Qmv hno]
     simp [Qe3]
    ·rw [if_neg hj, hm.2 j]
     have : Qe3 j ⟨.int .i64 k, v, clock⟩ = false := by simp [Qe3, hj]
     simp [this]
end Go.Proofs.Ytnmjcdlgfimnaaa
namespace Go.Proofs.Ytnmjcdlgfimnaaa
theorem Qqe (s : Qan) (d : Nat) (v : TV) (i : Nat) : Qd7 (s.put d v).sl i = if d = i then v else Qd7 s.sl i := by
 simp only [Qan.put, Qd7]
 by_cases h : d = i
 ·simp [h]
 ·have : (d == i) = false := by simpa using h
  simp [h, this]
theorem Qc4.know {R : Fr} {G : Hp} {γ : Nat → Value} {s : Qan} {a : Act} {w : World} (h : Qc4 R G γ s a w) {d : Nat} {tv : TV} (hv : tv.rel G γ (a.tmps.getD d undef)) : Qc4 R G γ (s.put d tv) a w := by
 refine ⟨?_, h.mem, h.df, h.pn⟩
 intro i
 rw [Qqe]
 by_cases e : d = i
 ·subst e; simpa using hv
 ·simp only [if_neg e]; exact h.sl i
theorem Ok.reshape {w : World} {G : Hp} {R : Fr} {ids ids' : List Nat} {fr fr' : Nat → Hp} (h : Ok w G R ids fr) (hsub : ∀ i ∈ ids', ∀ b o, fr' i b = some o → ∃ j ∈ ids, fr j b = some o)
    (hdis : ∀ i ∈ ids', ∀ j ∈ ids', i ≠ j → ∀ b, fr' i b ≠ none → fr' j b = none) : Ok w G R ids' fr' := by
 have key : ∀ i ∈ ids', ∀ b, fr' i b ≠ none → ∃ j ∈ ids, fr j b ≠ none := by
  intro i hi b hb
  obtain ⟨o, ho⟩ := Option.ne_none_iff_exists'.1 hb
  obtain ⟨j, hj, e⟩ := hsub i hi b o ho
  exact ⟨j, hj, by simp [e]⟩
 refine ⟨h.g, h.r, h.gr, ?_, ?_, ?_, hdis, h.os, h.out⟩
 ·intro i hi b o hb
  obtain ⟨j, hj, e⟩ := hsub i hi b o hb
  exact h.f j hj b o e
 ·intro i hi b hb
  obtain ⟨j, hj, e⟩ := key i hi b hb
  exact h.gf j hj b e
 ·intro i hi b hb
  obtain ⟨j, hj, e⟩ := key i hi b hb
  exact h.rf j hj b e
def Qtv (f : Hp) (b : Nat) (o : Obj) : Hp := fun j => if j = b then some o else f j
theorem Ok.set2 {w : World} {G : Hp} {R : Fr} {ids : List Nat} {fr : Nat → Hp} (h : Ok w G R ids fr) {id : Nat} (hid : id ∈ ids) {b : Nat} {o : Obj} (hf : fr id b = some o) (o' : Obj) :
    Ok (Qfp w b o') G R ids (Qfi fr id (Qtv (fr id) b o')) := by
 have hb : fr id b ≠ none := by simp [hf]
 have hw : Qeh w b = some o := h.f id hid b o hf
 have keep : ∀ H : Hp, Hp.le H (Qeh w) → H b = none → Hp.le H (Qeh (Qfp w b o')) := by
  intro H hH hn j x hx
  have : j ≠ b := fun e => by rw [e, hn] at hx; exact absurd hx (by simp)
  rw [Qf6 this]; exact hH j x hx
 have nb : ∀ i ∈ ids, i ≠ id → fr i b = none := fun i hi hne => h.ff id hid i hi (Ne.symm hne) b hb
 have upd : ∀ j, Qtv (fr id) b o' j ≠ none → fr id j ≠ none := by
  intro j hj
  unfold Qtv at hj
  by_cases e : j = b
  ·rw [e]; exact hb
  ·rw [if_neg e] at hj; exact hj
 refine ⟨keep _ h.g (h.gf id hid b hb), keep _ h.r (h.rf id hid b hb), h.gr, ?_, ?_, ?_, ?_, h.os, h.out⟩
 ·intro i hi
  by_cases e : i = id
  ·subst e
   intro j x hx
   rw [Qbc] at hx
   unfold Qtv at hx
   by_cases ej : j = b
   ·rw [if_pos ej] at hx
    simp only [Option.some.injEq] at hx
    subst hx
    subst ej
    exact Qe1 hw
   ·rw [if_neg ej] at hx
    rw [Qf6 ej]; exact h.f i hi j x hx
  ·rw [Qbh e]; exact keep _ (h.f i hi) (nb i hi e)
 ·intro i hi j hj
  by_cases e : i = id
  ·subst e; rw [Qbc] at hj; exact h.gf i hi j (upd j hj)
  ·rw [Qbh e] at hj; exact h.gf i hi j hj
 ·intro i hi j hj
  by_cases e : i = id
  ·subst e; rw [Qbc] at hj; exact h.rf i hi j (upd j hj)
  ·rw [Qbh e] at hj; exact h.rf i hi j hj
 ·intro i hi j hj hij x hx
  by_cases e : i = id
  ·subst e
   rw [Qbc] at hx
   rw [Qbh (Ne.symm hij)]
   exact h.ff i hi j hj hij x (upd x hx)
  ·rw [Qbh e] at hx
   by_cases e' : j = id
   ·subst e'
    rw [Qbc]
    have := h.ff i hi j hj hij x hx
    unfold Qtv
    by_cases ex : x = b
    ·rw [ex] at hx; exact absurd (nb i hi e) hx
    ·rw [if_neg ex]; exact this
   ·rw [Qbh e']; exact h.ff i hi j hj hij x hx
def Qf8 {α : Type} (M : Int → List α) (k : Int) (l : List α) : Int → List α := fun j => if j = k then l else M j
section
variable {C : Ctx} {s : Qan} {K : KT} {o : Oper} {R : Fr} {G : Hp} {γ : Nat → Value} {a : Act} {w : World}
theorem Qf4.mpr {fr : Nat → Hp} {mem : List (Nat × Box)} (hm : Qf4 R G γ fr mem w) {m : Nat} {α : Type} {A : Rep α} {M : Int → List α} {V : Int → Value} {dead : Option (Int × Option Nat)} (hg : Qco mem m = some (.mpr A M V dead)) :
    Qrr A M V (dead.map (·.1)) G (γ m) (fr m) ∧ (∀ k i, dead = some (k, some i) → γ i = V k) ∧ m ∈ Qao mem :=
 ⟨(hm.at' _ (Qca hg)).1, (hm.at' _ (Qca hg)).2, List.mem_map.2 ⟨_, Qca hg, rfl⟩⟩
theorem Qfc.val {α : Type} {A : Rep α} {l : List α} {v : Value} {f : Hp} (h : Qfc A G l v f) : ∃ ad c, v = .slice ad l.length c ∧ l.length ≤ c ∧ (ad = none → c = 0) ∧ ∀ b off sp, ad = some ⟨b, off, sp⟩ → c ≠ 0 → off = 0 ∧ sp = none ∧ f b ≠ none := by
 rcases h with ⟨b, t, es, sp, c, rfl, rfl, _, hn, _⟩ | ⟨rfl, ⟨ad, rfl⟩, _⟩
 ·refine ⟨_, c, rfl, hn, by simp, ?_⟩
  intro b' off sp' e _
  simp only [Option.some.injEq, Addr.mk.injEq] at e
  obtain ⟨rfl, rfl, rfl⟩ := e
  exact ⟨rfl, rfl, by simp [sng]⟩
 ·exact ⟨ad, 0, rfl, Nat.le_refl _, fun _ => rfl, fun _ _ _ _ h => absurd rfl h⟩
theorem Qfc.len {α : Type} {A : Rep α} {l : List α} {v : Value} {f : Hp} (h : Qfc A G l v f) : l.length ≤ mxL := by
 rcases h with ⟨b, t, es, sp, c, rfl, rfl, _, hn, hm, _⟩ | ⟨rfl, ⟨ad, rfl⟩, _⟩
 ·exact Nat.le_trans hn hm
 ·exact Nat.zero_le _
def Qlh (C : Ctx) (s : Qan) (t : TypeId) (x ix : Operand) (K : KT) : Prop := match Qem C t with
 | .map kt et => (match Qem C kt with
  | .int _ => (match ev s x, ev s ix with
   | .l (.mp m), .l (.int kk k) => (match Qco s.mem m with
    | some (.mpr _ _ V none) => kk = .i64 ∧ (C.P.info? et).bind (·.zero) = some (.slice none 0 0) ∧ K (.one (.l (.mrow m V k))) s
    | _ => False)
   | _, _ => False)
  | _ => False)
 | _ => False
theorem Qry {α : Type} {A : Rep α} {l : List α} {v : Value} {f : Hp} (h : Qfc A G l v f) : Rep.plainCell v = true := by
 obtain ⟨ad, c, rfl, _⟩ := h.val
 rfl
theorem Qvl {P : Program} {w : World} {t : TypeId} {v : Value} (h : (P.info? t).bind (·.zero) = some v) : (zeroValue t).run P w = .ok v w := by
 cases hx : P.info? t with
 | none => rw [hx] at h; simp at h
 | some x =>
  rw [hx] at h
  simp only [Option.bind_some] at h
  simp [zeroValue, Qgj hx, h]
theorem Qmu {t : TypeId} {x ix : Operand} (ho : o.op = .lookup t x ix false) (h : Qlh C s t x ix K) : Qet C.P o s K := by
 intro R G γ a w hs
 unfold Qlh at h
 split at h
 ·rename_i kt et htd
  have hu : C.P.underlying t = some (.map kt et) := by have := Qbj (C := C) (t := t) (by rw [htd]; simp); rw [htd] at this; exact this
  split at h
  ·rename_i ki hkd
   have hk : C.P.underlying kt = some (.int ki) := by have := Qbj (C := C) (t := kt) (by rw [hkd]; simp); rw [hkd] at this; exact this
   have hx := Qb6 hs.sl x
   have hix := Qb6 hs.sl ix
   split at h
   ·rename_i m kk k hex hei
    rw [hex] at hx
    rw [hei] at hix
    have hx' : a.eval x = γ m := by have := hx; simp only [SV.rel, LV.relV, LV.rel, List.cons.injEq, and_true] at this; exact this.1
    have hix' : a.eval ix = .int kk k := (by simpa [SV.rel, LV.relV, LV.rel] using hix : a.eval ix = .int kk k ∧ inK kk k).1
    split at h
    ·rename_i α A M V hg
     obtain ⟨rfl, hz, hK⟩ := h
     obtain ⟨fr, hmf⟩ := hs.mem
     obtain ⟨hat, _, hmem⟩ := hmf.mpr hg
     obtain ⟨r, es, clock, F, hv, hmap, hFr, hf, hdis, hrow, _⟩ := hat
     have hb : w.heap[r]? = some (.map es clock) := hmf.ok.f m hmem r _ ((hf r _).2 (.inl ⟨rfl, rfl⟩))
     have hrun := Qqt (P := C.P) (w := w) hu hk (Qvl hz) hb hmap k
     refine Qcg (v := V k) (w' := w) ?_ ⟨G, γ, _, s, Hp.le_refl G, hK, ?_, hs⟩
     ·simp only [execOp, ho, hx', hv, hix', Sem.run_bind, hrun, Result.andThen_ok, Sem.run_pure]
     ·show (LV.mrow m V k).rel G γ [V k]
      exact ⟨rfl, Qry (hrow k (by simp))⟩
    ·exact h.elim
   ·exact h.elim
  ·exact h.elim
 ·exact h.elim
def Qsy (C : Ctx) (s : Qan) (t : TypeId) (x : Operand) (K : KT) : Prop := match ev s x with
 | .l (.mrow m V k) => (match Qco s.mem m, Qem C t with
  | some (.mpr _ M V' none), .slice _ => V' = V ∧ K (.one (.l (.int .i64 (M k).length))) s
  | _, _ => False)
 | _ => Qyb C s t x K
theorem Qwg {c : Call} {x : Operand} {t : TypeId} (ho : o.op = .call c) (hc : c.callee = .builtin .len) (ha : c.args.toList = [x]) (ht : c.argTypes.toList = [t]) (h : Qsy C s t x K) : Qda C.P o s K := by
 unfold Qsy at h
 split at h
 ·rename_i m V k hex
  intro R G γ fr a w hs hmf
  have ha' : c.args = #[x] := by apply Array.ext'; simpa using ha
  have ht' : c.argTypes = #[t] := by apply Array.ext'; simpa using ht
  have hx := Qb6 hs x
  rw [hex] at hx
  have hx' : a.eval x = V k := by have := hx; simp only [SV.rel, LV.relV, LV.rel, List.cons.injEq, and_true] at this; exact this.1
  split at h
  ·rename_i α A M V' e hg htd
   obtain ⟨rfl, hK⟩ := h
   have hu : C.P.underlying t = some (.slice e) := by have := Qbj (C := C) (t := t) (by rw [htd]; simp); rw [htd] at this; exact this
   obtain ⟨⟨r, es, clock, F, hv, hmap, hFr, hf, hdis, hrow, _⟩, _, hmem⟩ := hmf.mpr hg
   obtain ⟨ad, cp, hV, _⟩ := (hrow k (by simp)).val
   refine ⟨.int .i64 (M k).length, _, fun w' _ => ?_, hK, rfl, Qli (hrow k (by simp)).len⟩
   have hrun : (Builtin.len_ #[t] o.type #[a.eval x]).run C.P w' = .ok (goInt (M k).length) w' := by
    rw [hx', hV]
    simp [Builtin.len_, Qbd hu]
   simp [execOp, ho, resolve, hc, ha', ht', invoke, builtin, hrun, goInt]
  ·exact h.elim
 ·exact Qz8 ho hc ha ht h
def Qlx : Option Operand → Bool
 | some (.const (.int _ n)) => n == 0
 | _ => false
def Qf3 : Option Operand → Bool
 | none => true
 | _ => false
def Qlu (C : Ctx) (s : Qan) (t : TypeId) (x : Operand) (lo hi mx : Option Operand) (K : KT) : Prop := match ev s x with
 | .l (.mrow m V k) => (match Qco s.mem m, Qem C t, lo, mx, Qq9 s 0 hi with
  | some (.mpr A M V' none), .slice e, none, none, some h => (match C.ty e with
   | some ei => V' = V ∧ hi ≠ none ∧ 0 ≤ h ∧ h ≤ (M k).length ∧ A.size = ei.size ∧ K (.one (.l (.mcut m V k h.toNat))) s
   | none => False)
  | _, _, _, _, _ => False)
 | .l (.own id) => bif Qlx hi && Qf3 lo && Qf3 mx then (match Qco s.mem id, Qem C t with
  | some (.arr _ _), .slice e => (match C.ty e with
   | some _ => K (.one (.l (.ocut id 0))) s
   | none => False)
  | _, _ => False) else Qm4 C s t x lo hi mx K
 | _ => Qm4 C s t x lo hi mx K
theorem Qs9 {t : TypeId} {x : Operand} {lo hi mx : Option Operand} (ho : o.op = .slice t x lo hi mx) (h : Qlu C s t x lo hi mx K) : Qda C.P o s K := by
 unfold Qlu at h
 split at h
 ·rename_i m V k hex
  intro R G γ fr a w hs hmf
  have hx := Qb6 hs x
  rw [hex] at hx
  have hx' : a.eval x = V k := by have := hx; simp only [SV.rel, LV.relV, LV.rel, List.cons.injEq, and_true] at this; exact this.1
  split at h
  ·rename_i α A M V' e hh hg htd hb
   split at h
   ·rename_i ei hei
    obtain ⟨rfl, hne, h0, hle, hA, hK⟩ := h
    have hu : C.P.underlying t = some (.slice e) := by have := Qbj (C := C) (t := t) (by rw [htd]; simp); rw [htd] at this; exact this
    obtain ⟨⟨r, es, clock, F, hv, hmap, hFr, hf, hdis, hrow, _⟩, _, hmem⟩ := hmf.mpr hg
    obtain ⟨ad, cp, hV, hcp, _⟩ := (hrow k (by simp)).val
    have hhi : Qvq (hi.map a.eval) ((M k).length : Int) hh := by
     cases hi with
     | none => exact absurd rfl hne
     | some y =>
      have := Qd8 hs hb
      rcases this with ⟨h1, _⟩ | h1
      ·simp at h1
      ·exact .inr h1
    have hrun := Qcn (C := C) (lo := none) hu hei (a := ad) (len := (M k).length) (cap := cp) (l := 0) (.inl ⟨rfl, rfl⟩) hhi (Int.le_refl 0) h0 (by omega)
    have e1 : (ad.map fun x => x.add 0) = ad := by cases ad <;> simp [Addr.add]
    refine ⟨.slice ad hh.toNat cp, _, fun w' _ => ?_, hK, ?_⟩
    ·have := hrun w'
     simp only [Int.toNat_zero, Nat.zero_mul, Nat.sub_zero, e1, ite_self] at this
     simp only [execOp, ho, hx', hV, Option.map_none, Sem.run_bind, this, Result.andThen_ok, Sem.run_pure]
    ·exact ⟨ad, (M k).length, cp, hV, by omega, hcp, rfl⟩
   ·exact h.elim
  ·exact h.elim
 ·rename_i id hex
  cases hz : (Qlx hi && Qf3 lo && Qf3 mx)
  ·rw [hz, cond_false] at h; exact Qsr ho h
  ·rw [hz, cond_true] at h
   simp only [Bool.and_eq_true] at hz
   obtain ⟨⟨hz1, hz2⟩, hz3⟩ := hz
   intro R G γ fr a w hs hmf
   have hx := Qb6 hs x
   rw [hex] at hx
   have hx' : a.eval x = γ id := by have := hx; simp only [SV.rel, LV.relV, LV.rel, List.cons.injEq, and_true] at this; exact this.1
   split at h
   ·rename_i α A l e hg htd
    split at h
    ·rename_i ei hei
     have hu : C.P.underlying t = some (.slice e) := by have := Qbj (C := C) (t := t) (by rw [htd]; simp); rw [htd] at this; exact this
     have hrow : Qfc A G l (γ id) (fr id) := hmf.at' _ (Qca hg)
     obtain ⟨ad, cp, hV, hcp, _⟩ := hrow.val
     have hlo : lo = none := by cases lo <;> simp_all [Qf3]
     have hmx : mx = none := by cases mx <;> simp_all [Qf3]
     subst hlo hmx
     have hhi : ∃ k, hi.map a.eval = some (.int k 0) := by
      unfold Qlx at hz1
      split at hz1
      ·rename_i k n
       have : n = 0 := by simpa using hz1
       subst this
       exact ⟨k, rfl⟩
      ·simp at hz1
     obtain ⟨k0, hhi⟩ := hhi
     have hrun := Qcn (C := C) (lo := none) (hi := hi.map a.eval) hu hei (a := ad) (len := l.length) (cap := cp) (l := 0) (h := 0) (.inl ⟨rfl, rfl⟩) (.inr ⟨k0, hhi⟩) (Int.le_refl 0) (Int.le_refl 0) (by omega)
     have e1 : (ad.map fun x => x.add 0) = ad := by cases ad <;> simp [Addr.add]
     refine ⟨.slice ad 0 cp, _, fun w' _ => ?_, h, ?_⟩
     ·have := hrun w'
      simp only [Int.toNat_zero, Nat.zero_mul, Nat.sub_zero, e1, ite_self] at this
      simp only [execOp, ho, hx', hV, Option.map_none, Sem.run_bind, this, Result.andThen_ok, Sem.run_pure]
     ·exact ⟨ad, l.length, cp, hV, Nat.zero_le _, hcp, rfl⟩
    ·exact h.elim
   ·exact h.elim
 ·exact Qsr ho h
def Qan.openR {α : Type} (s : Qan) (m id : Nat) (A : Rep α) (M : Int → List α) (V : Int → Value) (k : Int) : Qan :=
 ⟨Qgn id s.sl, (id, .arr A (M k)) :: Qhg (Qcq id s.mem) m (.mpr A M V (some (k, some id))), s.pins⟩
theorem Qfh {id m : Nat} (hne : m ≠ id) : ∀ {mem : List (Nat × Box)} {b : Box}, Qco mem m = some b → Qco (Qcq id mem) m = some (b.kill id)
 | [], _, h => by simp [Qco] at h
 | (j, x) :: r, b, h => by
  unfold Qco at h
  unfold Qcq
  cases hj : (j == m)
  ·rw [hj, cond_false] at h
   cases hji : (j == id)
   ·simp only [cond_false, Qco, hj]; exact Qfh hne h
   ·exact Qfh hne h
  ·rw [hj, cond_true, Option.some.injEq] at h
   subst h
   have e : j = m := by simpa using hj
   subst e
   have : (j == id) = false := by simpa using hne
   simp [this, Qco]
theorem Qc4.openRow (hs : Qc4 R G γ s a w) {m id : Nat} {α : Type} {A : Rep α} {M : Int → List α} {V : Int → Value} {k : Int} (hg : Qco s.mem m = some (.mpr A M V none)) (hr : s.room id) (hne : m ≠ id) :
    Qc4 R G (Qis γ id (V k)) (s.openR m id A M V k) a w := by
 obtain ⟨fr, hmf⟩ := hs.mem
 obtain ⟨⟨r, es, clock, F, hv, hmap, hFr, hf, hdis, hrow, _⟩, _, hmem⟩ := hmf.mpr hg
 have hγ : ∀ i, i ≠ id → Qis γ id (V k) i = γ i := fun i hi => Qds hi
 refine ⟨hs.sl.kill hγ, ?_, hs.df, hs.pn⟩
 have hg' := Qfh hne hg
 have hnd := Qd3 (id := id) hmf.nd
 have hid : id ∉ Qao (Qhg (Qcq id s.mem) m (.mpr A M V (some (k, some id)))) := by
  rw [Qdn]
  intro hi
  exact (Qdj _ hi).2 rfl
 have hFf : ∀ j b o, F j b = some o → fr m b = some o := fun j b o h => (hf b o).2 (.inr ⟨j, h⟩)
 let f1 : Hp := fun b => if F k b = none then fr m b else none
 have hf1 : ∀ b o, f1 b = some o → fr m b = some o ∧ F k b = none := by
  intro b o h
  simp only [f1] at h
  by_cases e : F k b = none
  ·rw [if_pos e] at h; exact ⟨h, e⟩
  ·rw [if_neg e] at h; simp at h
 refine ⟨Qfi (Qfi fr m f1) id (F k), ?_, ?_, ?_, ?_⟩
 ·show (id :: Qao _).Nodup
  rw [List.nodup_cons]
  exact ⟨hid, by rw [Qdn]; exact hnd⟩
 ·intro i u hi
  have : i ≠ id := by rintro rfl; rw [hs.unpinned hr] at hi; exact absurd hi (by simp)
  rw [hγ i this]; exact hmf.pin i u hi
 ·intro e he
  rcases List.mem_cons.1 he with rfl | he
  ·simp only [Qcf, Qbc]
   exact hrow k (by simp)
  ·rcases Qe0 hnd he with rfl | ⟨he, hem⟩
   ·rw [Qbh hne, Qbc, hγ m hne]
    refine ⟨⟨r, es, clock, fun j => if j = k then emp else F j, hv, hmap, ?_, ?_, ?_, ?_, ?_⟩, ?_⟩
    ·intro j
     simp only
     split
     ·rfl
     ·exact hFr j
    ·intro b o
     simp only [f1]
     constructor
     ·intro h
      by_cases e : F k b = none
      ·rw [if_pos e] at h
       rcases (hf b o).1 h with h | ⟨j, h⟩
       ·exact .inl h
       ·refine .inr ⟨j, ?_⟩
        have : j ≠ k := by rintro rfl; rw [h] at e; simp at e
        rw [if_neg this]; exact h
      ·rw [if_neg e] at h; simp at h
     ·rintro (⟨rfl, rfl⟩ | ⟨j, h⟩)
      ·rw [if_pos (hFr k)]; exact (hf b _).2 (.inl ⟨rfl, rfl⟩)
      ·by_cases ej : j = k
       ·rw [if_pos ej] at h; simp [emp] at h
       ·rw [if_neg ej] at h
        have : F k b = none := hdis j k b ej (by simp [h])
        rw [if_pos this]; exact hFf j b o h
    ·intro i j b hij hb
     simp only at hb ⊢
     by_cases ei : i = k
     ·rw [if_pos ei] at hb; simp [emp] at hb
     ·rw [if_neg ei] at hb
      split
      ·rfl
      ·exact hdis i j b hij hb
    ·intro j hj
     simp only
     have : j ≠ k := by rintro rfl; simp at hj
     rw [if_neg this]
     exact hrow j (by simp)
    ·intro j hj
     simp only [Option.map_some, Option.some.injEq] at hj
     simp [hj.symm]
    ·intro k' i' h
     simp only [Option.some.injEq, Prod.mk.injEq] at h
     obtain ⟨rfl, rfl⟩ := h
     rw [Qcf]
   ·obtain ⟨hne2, b', h2, h3⟩ := Qc0 he
    rw [hγ _ hne2, Qbh hne2, Qbh hem, h3]
    exact Box.kill_at hγ (hmf.at' _ h2)
 ·have hin : ∀ i ∈ Qao (Qhg (Qcq id s.mem) m (.mpr A M V (some (k, some id)))), i ∈ Qao s.mem ∧ i ≠ id := by
   intro i hi
   rw [Qdn] at hi
   exact Qdj i hi
  have hF : ∀ i ∈ Qao (Qhg (Qcq id s.mem) m (.mpr A M V (some (k, some id)))), ∀ b o, Qfi (Qfi fr m f1) id (F k) i b = some o → fr i b = some o ∧ F k b = none := by
   intro i hi b o hb
   obtain ⟨h1, h2⟩ := hin i hi
   rw [Qbh h2] at hb
   by_cases e : i = m
   ·subst e; rw [Qbc] at hb; exact hf1 b o hb
   ·rw [Qbh e] at hb
    refine ⟨hb, ?_⟩
    cases hx : F k b with
    | none => rfl
    | some x =>
     have h3 := hmf.ok.ff m hmem i h1 (Ne.symm e) b (by simp [hFf k b x hx])
     rw [h3] at hb; simp at hb
  refine hmf.ok.reshape ?_ ?_
  ·intro i hi b o hb
   rcases List.mem_cons.1 hi with rfl | hi
   ·rw [Qbc] at hb
    exact ⟨m, hmem, hFf k b o hb⟩
   ·exact ⟨i, (hin i hi).1, (hF i hi b o hb).1⟩
  ·intro i hi j hj hij b hb
   obtain ⟨o, hb⟩ := Option.ne_none_iff_exists'.1 hb
   rcases List.mem_cons.1 hi with ei | hi' <;> rcases List.mem_cons.1 hj with ej | hj'
   ·exact absurd (ei.trans ej.symm) hij
   ·rw [ei, Qbc] at hb
    cases hx : Qfi (Qfi fr m f1) id (F k) j b with
    | none => rfl
    | some x => rw [(hF j hj' b x hx).2] at hb; simp at hb
   ·rw [ej, Qbc]; exact (hF i hi' b o hb).2
   ·cases hx : Qfi (Qfi fr m f1) id (F k) j b with
    | none => rfl
    | some x =>
     have h1 := (hF i hi' b o hb).1
     have h2 := (hF j hj' b x hx).1
     have := hmf.ok.ff i (hin i hi').1 j (hin j hj').1 hij b (by simp [h1])
     rw [this] at h2; simp at h2
def Qit (C : Ctx) (d : Nat) (s : Qan) (t xt : TypeId) (x y : Operand) (K : KT) : Prop := match ev s x with
 | .l (.mrow m V k) => (match Qco s.mem m, x with
  | some (.mpr A M V' none), .tmp j => V' = V ∧ m ≠ d + 5000 ∧ s.room (d + 5000) ∧ Qjv C d ((s.openR m (d + 5000) A M V k).put j (.one (.l (.own (d + 5000))))) t xt x y K
  | _, _ => False)
 | _ => Qjv C d s t xt x y K
theorem Qma {c : Call} {x y : Operand} {t xt : TypeId} (ho : o.op = .call c) (hc : c.callee = .builtin .append) (ha : c.args.toList = [x, y]) (ht : c.argTypes.toList = [t, xt]) (h : Qit C (Qdq o) s t xt x y K) : Qet C.P o s K := by
 unfold Qit at h
 split at h
 ·rename_i m V k hex
  split at h
  ·rename_i α A M V' j hg
   obtain ⟨rfl, hne, hr, h⟩ := h
   intro R G γ a w hs
   have hx := Qb6 hs.sl (.tmp j)
   rw [hex] at hx
   have hx1 : a.eval (.tmp j) = V' k ∧ Rep.plainCell (V' k) = true := by have := hx; simp only [SV.rel, LV.relV, LV.rel, List.cons.injEq, and_true] at this; exact this
   have hs1 := hs.openRow (k := k) hg hr hne
   have hs2 := hs1.know (d := j) (tv := .one (.l (.own (Qdq o + 5000)))) (by
    show (LV.own _).rel G _ [a.tmps.getD j undef]
    have e : a.tmps.getD j undef = V' k := hx1.1
    rw [e]
    exact ⟨by rw [Qcf], by rw [Qcf]; exact hx1.2⟩)
   exact Qh5 ho hc ha ht h R G _ a w hs2
  ·exact h.elim
 ·exact Qh5 ho hc ha ht h
theorem Qo1 {P : Program} {t : TypeId} {w : World} : (Instr.makeMap t none).run P w = .ok (.map (some w.heap.size)) (Qfb w (.map #[] 0)) := rfl
def Qi1 (C : Ctx) (d : Nat) (s : Qan) (t : TypeId) (K : KT) : Prop := match Qem C t with
 | .map _ et => (match Qem C et with
  | .slice e => (match C.ty e with
   | some ei => (match ei.rep with
    | some r => s.room d ∧ ∀ V : Int → Value, K (.one (.l (.mp d))) (s.add d (.mpr r.A (fun _ => []) V none))
    | none => False)
   | none => False)
  | _ => False)
 | _ => False
theorem Qme {t : TypeId} (ho : o.op = .makeMap t none) (h : Qi1 C (Qdq o) s t K) : Qet C.P o s K := by
 intro R G γ a w hs
 unfold Qi1 at h
 split at h
 ·split at h
  ·split at h
   ·split at h
    ·rename_i r _
     obtain ⟨hr, h⟩ := h
     refine Qcg (v := .map (some w.heap.size)) (w' := Qfb w (.map #[] 0)) ?_ ?_
     ·simp only [execOp, ho, Option.map_none, Sem.run_bind, Qo1, Result.andThen_ok, Sem.run_pure]
     ·have hb : (Box.mpr r.A (fun _ => []) (fun _ => .slice none 0 0) none).at G γ (.map (some w.heap.size)) (sng w.heap.size (.map #[] 0)) := by
       refine ⟨⟨w.heap.size, #[], 0, fun _ => emp, rfl, ⟨by simp, by simp⟩, fun _ => rfl, ?_, ?_, ?_, fun _ _ => rfl⟩, fun k i h => by simp at h⟩
       ·intro b o
        constructor
        ·intro h; exact .inl (Qn5 h)
        ·rintro (⟨rfl, rfl⟩ | ⟨k, h⟩)
         ·simp [sng]
         ·simp [emp] at h
       ·intro k k' b _ h; simp [emp] at h
       ·intro k _; exact .inr ⟨rfl, ⟨none, rfl⟩, rfl⟩
      refine ⟨G, _, _, _, Hp.le_refl G, h (fun _ => .slice none 0 0), ?_, hs.push (Qdq o) hr hb⟩
      show (LV.mp (Qdq o)).rel G _ [_]
      exact ⟨by rw [Qcf], by rw [Qcf]; rfl⟩
    ·exact h.elim
   ·exact h.elim
  ·exact h.elim
 ·exact h.elim
def Qfr (C : Ctx) (s : Qan) (t : TypeId) (x ix v : Operand) (K : KT) : Prop := match Qem C t with
 | .map kt _ => (match Qem C kt with
  | .int _ => (match ev s x, ev s ix, ev s v with
   | .l (.mp m), .l (.int kk k), .l (.own d) => (match Qco s.mem m, Qco s.mem d with
    | some (.mpr A M _ dead), some (.arr B l) => kk = .i64 ∧ (match dead with
     | none => True
     | some (k0, _) => k0 = k) ∧ Qv3 A (.mk B l) fun l => ∀ V' : Int → Value, K (.one (.l .undef)) ⟨s.sl, rmM (Qhg s.mem m (.mpr A (Qf8 M k l) V' none)) d, s.pins⟩
    | _, _ => False)
   | .l (.mp m), .l (.int kk k), .l (.mcut _ V k' n) => (match Qco s.mem m with
    | some (.mpr A M V' none) => kk = .i64 ∧ k' = k ∧ V' = V ∧ ∀ V'' : Int → Value, K (.one (.l .undef)) ⟨s.sl, Qhg s.mem m (.mpr A (Qf8 M k ((M k).take n)) V'' none), s.pins⟩
    | _ => False)
   | _, _, _ => False)
  | _ => False)
 | _ => False
theorem Qfc.cut {α : Type} {A : Rep α} {l : List α} {f : Hp} {ad : Option Addr} {len c n : Nat} (h : Qfc A G l (.slice ad len c) f) (hn : n ≤ len) (hc : len ≤ c) : Qfc A G (l.take n) (.slice ad n c) f := by
 rcases h with ⟨b, t, es, sp, c', e, rfl, hl, hle, hmx, hsp⟩ | ⟨rfl, ⟨ad', e⟩, rfl⟩
 ·simp only [Value.slice.injEq] at e
  obtain ⟨rfl, rfl, rfl⟩ := e
  have hes : es.length = l.length * A.size := EncL.length (fun _ _ h => A.enc_length h) hl
  have e0 : l = l.take n ++ l.drop n := by simp
  rw [e0] at hl
  obtain ⟨c1, d1, e1, h1, h2⟩ := EncL.append_inv hl
  have hc1 : c1.length = n * A.size := by
   have := EncL.length (fun _ _ h => A.enc_length h) h1
   rw [this, List.length_take, Nat.min_eq_left hn]
  refine .inl ⟨b, t, c1, d1 ++ sp, c, by rw [List.length_take, Nat.min_eq_left hn], by rw [e1, List.append_assoc], h1, by rw [List.length_take]; omega, hmx, ?_⟩
  have : d1.length = (l.length - n) * A.size := by
   have h3 := EncL.length (fun _ _ h => A.enc_length h) h2
   rw [h3, List.length_drop]
  rw [List.length_append, this, hsp, List.length_take, Nat.min_eq_left hn, ← Nat.add_mul]
  congr 1
  omega
 ·simp only [Value.slice.injEq] at e
  obtain ⟨rfl, rfl, rfl⟩ := e
  have : n = 0 := by omega
  subst this
  exact .inr ⟨by simp, ⟨ad, rfl⟩, rfl⟩
theorem Qj7 {t : TypeId} {x ix v : Operand} (ho : o.op = .mapUpdate t x ix v) (h : Qfr C s t x ix v K) : Qet C.P o s K := by
 intro R G γ a w hs
 unfold Qfr at h
 have hx := Qb6 hs.sl x
 have hix := Qb6 hs.sl ix
 have hv := Qb6 hs.sl v
 split at h
 ·rename_i kt et htd
  have hu : C.P.underlying t = some (.map kt et) := by have := Qbj (C := C) (t := t) (by rw [htd]; simp); rw [htd] at this; exact this
  split at h
  ·rename_i ki hkd
   have hk : C.P.underlying kt = some (.int ki) := by have := Qbj (C := C) (t := kt) (by rw [hkd]; simp); rw [hkd] at this; exact this
   -- the map's own block
   have main : ∀ {m : Nat} {kk : IntKind} {k : Int} {α : Type} {A : Rep α} {M : Int → List α} {V : Int → Value} {dead : Option (Int × Option Nat)} {l : List α} {mem' : List (Nat × Box)} {fr : Nat → Hp}, ev s x = .l (.mp m) → ev s ix = .l (.int kk k) → kk = .i64 →
       Qf4 R G γ fr s.mem w → Qco s.mem m = some (.mpr A M V dead) → (dead.map (·.1) = none ∨ dead.map (·.1) = some k) →
       {r : Nat} → {es : Array MapEntry} → {clock : Nat} → {F : Int → Hp} → γ m = .map (some r) → Qqr es V → (∀ k, F k r = none) → (∀ b o, fr m b = some o ↔ (b = r ∧ o = .map es clock) ∨ ∃ k, F k b = some o) →
       (∀ k k' b, k ≠ k' → F k b ≠ none → F k' b = none) → (∀ k, dead.map (·.1) ≠ some k → Qfc A G (M k) (V k) (F k)) →
       (f2 : Hp) → (ids : List Nat) → (∀ b o, f2 b = some o → (∃ j ∈ ids, fr j b = some o) ∨ fr m b = some o) → (∀ j ∈ ids, j ∈ Qao s.mem) → Qfc A G l (a.eval v) f2 →
       (∀ k' b, k' ≠ k → F k' b ≠ none → f2 b = none) → f2 r = none →
       (∀ e ∈ mem', e = (m, .mpr A (Qf8 M k l) (Qvd V k (a.eval v)) none) ∨ (e ∈ s.mem ∧ e.1 ≠ m ∧ e.1 ∉ ids)) → (Qao mem').Nodup →
       (K (.one (.l .undef)) ⟨s.sl, mem', s.pins⟩) → Qfy C.P a.eval o w (Qkt R G a K) := by
    intro m kk k α A M V dead l mem' fr hex hei hkk hmf hg hdead r es clock F hvm hmap hFr hf hdis hrow f2 ids hf2 hids hrow2 hsep1 hsep2 hmem' hnd' hK
    subst hkk
    rw [hex] at hx
    rw [hei] at hix
    have hx' : a.eval x = γ m := by have := hx; simp only [SV.rel, LV.relV, LV.rel, List.cons.injEq, and_true] at this; exact this.1
    have hix' : a.eval ix = .int .i64 k := (by simpa [SV.rel, LV.relV, LV.rel] using hix : a.eval ix = .int .i64 k ∧ inK .i64 k).1
    have hmem : m ∈ Qao s.mem := (hmf.mpr hg).2.2
    have hb0 : fr m r = some (.map es clock) := (hf r _).2 (.inl ⟨rfl, rfl⟩)
    have hb : w.heap[r]? = some (.map es clock) := hmf.ok.f m hmem r _ hb0
    obtain ⟨es', clock', hrun, hmap'⟩ := Qq1 (P := C.P) (w := w) hu hk hb hmap k (a.eval v)
    refine Qht (w' := Qfp w r (.map es' clock')) ?_ ⟨G, γ, .one (.l .undef), _, Hp.le_refl G, hK, trivial, hs.sl, ?_, hs.df, hs.pn⟩
    ·simp only [execOp, ho, hx', hvm, hix', Sem.run_bind, hrun, Result.andThen_ok, Sem.run_pure]
    ·have h2 := hmf.ok.set2 hmem hb0 (.map es' clock')
     let F2 : Int → Hp := fun j => if j = k then f2 else F j
     let fm : Hp := fun b => if b = r then some (.map es' clock') else if f2 b = none then (if F k b = none then fr m b else none) else f2 b
     have hfm : ∀ b o, fm b = some o ↔ (b = r ∧ o = .map es' clock') ∨ ∃ j, F2 j b = some o := by
      intro b o
      by_cases er : b = r
      ·subst er
       simp only [fm, if_true, Option.some.injEq, true_and]
       constructor
       ·intro h; exact .inl h.symm
       ·rintro (h | ⟨j, h⟩)
        ·exact h.symm
        ·simp only [F2] at h
         by_cases ej : j = k
         ·rw [if_pos ej, hsep2] at h; simp at h
         ·rw [if_neg ej, hFr] at h; simp at h
      ·simp only [fm, if_neg er]
       cases e2 : f2 b with
       | some y =>
        simp only [reduceCtorEq, if_false, Option.some.injEq]
        constructor
        ·rintro rfl; exact .inr ⟨k, by simp [F2, e2]⟩
        ·rintro (⟨h, _⟩ | ⟨j, h⟩)
         ·exact absurd h er
         ·simp only [F2] at h
          by_cases ej : j = k
          ·rw [if_pos ej, e2] at h; simpa using h
          ·rw [if_neg ej] at h
           have := hsep1 j b ej (by simp [h])
           rw [e2] at this; simp at this
       | none =>
        simp only [if_true]
        constructor
        ·intro h
         by_cases ek : F k b = none
         ·rw [if_pos ek] at h
          rcases (hf b o).1 h with ⟨h1, _⟩ | ⟨j, h1⟩
          ·exact absurd h1 er
          ·refine .inr ⟨j, ?_⟩
           have : j ≠ k := by rintro rfl; rw [h1] at ek; simp at ek
           simp only [F2, if_neg this]; exact h1
         ·rw [if_neg ek] at h; simp at h
        ·rintro (⟨h, _⟩ | ⟨j, h⟩)
         ·exact absurd h er
         ·simp only [F2] at h
          by_cases ej : j = k
          ·rw [if_pos ej, e2] at h; simp at h
          ·rw [if_neg ej] at h
           have : F k b = none := hdis j k b ej (by simp [h])
           rw [if_pos this]; exact (hf b o).2 (.inr ⟨j, h⟩)
     have hsub : ∀ b o, fm b = some o → (b = r ∧ o = .map es' clock') ∨ (b ≠ r ∧ ((∃ j ∈ ids, fr j b = some o) ∨ fr m b = some o)) := by
      intro b o h
      rcases (hfm b o).1 h with h | ⟨j, h⟩
      ·exact .inl h
      ·simp only [F2] at h
       by_cases ej : j = k
       ·rw [if_pos ej] at h
        refine .inr ⟨?_, hf2 b o h⟩
        intro er; rw [er, hsep2] at h; simp at h
       ·rw [if_neg ej] at h
        refine .inr ⟨?_, .inr ((hf b o).2 (.inr ⟨j, h⟩))⟩
        intro er; rw [er, hFr] at h; simp at h
     have hold : ∀ i ∈ Qao mem', i ≠ m → i ∈ Qao s.mem ∧ i ∉ ids := by
      intro i hi hne
      obtain ⟨e, he, rfl⟩ := List.mem_map.1 hi
      rcases hmem' e he with rfl | ⟨h1, _, h3⟩
      ·exact absurd rfl hne
      ·exact ⟨List.mem_map.2 ⟨e, h1, rfl⟩, h3⟩
     refine ⟨Qfi fr m fm, hnd', hmf.pin, ?_, ?_⟩
     ·intro e he
      rcases hmem' e he with rfl | ⟨h1, h3, _⟩
      ·rw [Qbc]
       refine ⟨⟨r, es', clock', F2, hvm, hmap', ?_, hfm, ?_, ?_, fun j h => by simp at h⟩, fun j i h => by simp at h⟩
       ·intro j
        simp only [F2]
        split
        ·exact hsep2
        ·exact hFr j
       ·intro i j b hij hb
        simp only [F2] at hb ⊢
        by_cases ei : i = k
        ·rw [if_pos ei] at hb
         have ej : j ≠ k := fun e => hij (ei.trans e.symm)
         rw [if_neg ej]
         cases hx : F j b with
         | none => rfl
         | some y => exact absurd (hsep1 j b ej (by simp [hx])) hb
        ·rw [if_neg ei] at hb
         by_cases ej : j = k
         ·rw [if_pos ej]; exact hsep1 i b ei hb
         ·rw [if_neg ej]; exact hdis i j b hij hb
       ·intro j _
        simp only [F2, Qf8, Qvd]
        by_cases ej : j = k
        ·rw [if_pos ej, if_pos ej, if_pos ej]; exact hrow2
        ·rw [if_neg ej, if_neg ej, if_neg ej]
         refine hrow j ?_
         rcases hdead with h | h
         ·rw [h]; simp
         ·rw [h]; simp [Ne.symm ej]
      ·rw [Qbh h3]; exact hmf.at' e h1
     ·refine h2.reshape ?_ ?_
      ·intro i hi b o' hb'
       by_cases ei : i = m
       ·subst ei
        rw [Qbc] at hb'
        rcases hsub b o' hb' with ⟨rfl, rfl⟩ | ⟨hr, h⟩
        ·exact ⟨i, hmem, by rw [Qbc]; simp [Qtv]⟩
        ·rcases h with ⟨j, hj, h⟩ | h
         ·by_cases ej : j = i
          ·refine ⟨i, hmem, ?_⟩
           rw [Qbc]; simp only [Qtv, if_neg hr]; rw [← ej]; exact h
          ·exact ⟨j, hids j hj, by rw [Qbh ej]; exact h⟩
         ·exact ⟨i, hmem, by rw [Qbc]; simp only [Qtv, if_neg hr]; exact h⟩
       ·rw [Qbh ei] at hb'
        exact ⟨i, (hold i hi ei).1, by rw [Qbh ei]; exact hb'⟩
      ·have one : ∀ i ∈ Qao mem', i ≠ m → ∀ b, fr i b ≠ none → fm b = none := by
        intro i hi hne b hb'
        cases hx : fm b with
        | none => rfl
        | some y =>
         obtain ⟨h1, h3⟩ := hold i hi hne
         rcases hsub b y hx with ⟨rfl, _⟩ | ⟨_, ⟨j, hj, h⟩ | h⟩
         ·have := hmf.ok.ff i h1 m hmem hne b hb'
          rw [hb0] at this; simp at this
         ·have hij : i ≠ j := fun e => h3 (e ▸ hj)
          have := hmf.ok.ff i h1 j (hids j hj) hij b hb'
          rw [h] at this; simp at this
         ·have := hmf.ok.ff i h1 m hmem hne b hb'
          rw [h] at this; simp at this
       intro i hi j hj hij b hb'
       by_cases ei : i = m
       ·subst ei
        rw [Qbc] at hb'
        rw [Qbh (Ne.symm hij)]
        cases hx : fr j b with
        | none => rfl
        | some y => exact absurd (one j hj (Ne.symm hij) b (by simp [hx])) hb'
       ·rw [Qbh ei] at hb'
        by_cases ej : j = m
        ·subst ej; rw [Qbc]; exact one i hi ei b hb'
        ·rw [Qbh ej]; exact hmf.ok.ff i (hold i hi ei).1 j (hold j hj ej).1 hij b hb'
   obtain ⟨fr, hmf⟩ := hs.mem
   split at h
   ·rename_i m kk k d hex hei hev
    split at h
    ·rename_i α A M V dead β B l hg hgd
     obtain ⟨hkk, hdead, e1, e2, h⟩ := h
     subst e1
     have e2' := eq_of_heq e2
     subst e2'
     simp only [cast_eq] at h
     have hne : d ≠ m := by rintro rfl; rw [hg] at hgd; simp at hgd
     have hdm : d ∈ Qao s.mem := List.mem_map.2 ⟨_, Qca hgd, rfl⟩
     have hmm : m ∈ Qao s.mem := List.mem_map.2 ⟨_, Qca hg, rfl⟩
     rw [hev] at hv
     have hv' : a.eval v = γ d := by have := hv; simp only [SV.rel, LV.relV, LV.rel, List.cons.injEq, and_true] at this; exact this.1
     have hrowd : Qfc B G l (γ d) (fr d) := hmf.at' _ (Qca hgd)
     obtain ⟨⟨r, es, clock, F, hvm, hmap, hFr, hf, hdis, hrow, _⟩, _, _⟩ := hmf.mpr hg
     have key : ∀ b, fr m b ≠ none → fr d b = none := fun b hb => hmf.ok.ff m hmm d hdm (Ne.symm hne) b hb
     refine main (l := l) (dead := dead) hex hei hkk hmf hg ?_ hvm hmap hFr hf hdis hrow (fr d) [d] (fun b o h => .inl ⟨d, by simp, h⟩) (by simpa using hdm) (hv' ▸ hrowd) ?_ ?_ ?_ ?_ (h (Qvd V k (a.eval v)))
     ·rcases dead with _ | ⟨k0, i⟩
      ·exact .inl rfl
      ·exact .inr (by simp only [Option.map_some]; exact congrArg some hdead)
     ·intro k' b _ hb
      obtain ⟨o', ho'⟩ := Option.ne_none_iff_exists'.1 hb
      exact key b (by rw [(hf b o').2 (.inr ⟨k', ho'⟩)]; simp)
     ·exact key r (by rw [(hf r _).2 (.inl ⟨rfl, rfl⟩)]; simp)
     ·intro e he
      obtain ⟨h1, h2⟩ := Qdy he
      rcases Qe0 hmf.nd h1 with rfl | ⟨h3, h4⟩
      ·exact .inl rfl
      ·exact .inr ⟨h3, h4, by simpa using h2⟩
     ·exact Qfj (by rw [Qdn]; exact hmf.nd)
    ·exact h.elim
   ·rename_i m kk k m2 V k' n hex hei hev
    split at h
    ·rename_i α A M V' hg
     obtain ⟨hkk, rfl, rfl, h⟩ := h
     rw [hev] at hv
     obtain ⟨ad, len, c, hV, hn, hc, e⟩ := hv
     have hv' : a.eval v = .slice ad n c := by simpa using e
     obtain ⟨⟨r0, es0, clock0, F0, hvm0, hmap0, hFr0, hf0, hdis0, hrow0, _⟩, _, hmem⟩ := hmf.mpr hg
     have hrow1 := hrow0 k' (by simp)
     rw [hV] at hrow1
     have hcut := hrow1.cut hn hc
     refine main (l := (M k').take n) (dead := none) hex hei hkk hmf hg (.inl rfl) hvm0 hmap0 hFr0 hf0 hdis0 hrow0 (F0 k') [] (fun b o h => .inr ((hf0 b o).2 (.inr ⟨k', h⟩))) (by simp) (hv' ▸ hcut) ?_ (hFr0 k') ?_ ?_ (h (Qvd V' k' (a.eval v)))
     ·intro j b hj hb
      exact hdis0 j k' b hj hb
     ·intro e he
      rcases Qe0 hmf.nd he with rfl | ⟨h3, h4⟩
      ·exact .inl rfl
      ·exact .inr ⟨h3, h4, by simp⟩
     ·rw [Qdn]; exact hmf.nd
    ·exact h.elim
   ·exact h.elim
  ·exact h.elim
 ·exact h.elim
theorem Qdi.closeRow {mem : List (Nat × Box)} (hm : Qdi R G γ mem w) {m id : Nat} {α : Type} {A : Rep α} {M : Int → List α} {V : Int → Value} {k : Int} {l : List α} (hg : Qco mem m = some (.mpr A M V (some (k, some id)))) (hgd : Qco mem id = some (.arr A l)) :
    Qdi R G γ (rmM (Qhg mem m (.mpr A (Qf8 M k l) V none)) id) w := by
 obtain ⟨fr, hmf⟩ := hm
 obtain ⟨⟨r, es, clock, F, hvm, hmap, hFr, hf, hdis, hrow, hdk⟩, hval, hmem⟩ := hmf.mpr hg
 have hne : id ≠ m := by rintro rfl; rw [hg] at hgd; simp at hgd
 have hdm : id ∈ Qao mem := List.mem_map.2 ⟨_, Qca hgd, rfl⟩
 have hrowd : Qfc A G l (γ id) (fr id) := hmf.at' _ (Qca hgd)
 rw [hval k id rfl] at hrowd
 have key : ∀ b, fr m b ≠ none → fr id b = none := fun b hb => hmf.ok.ff m hmem id hdm (Ne.symm hne) b hb
 have hFk : F k = emp := hdk k rfl
 let F2 : Int → Hp := fun j => if j = k then fr id else F j
 let fm : Hp := fun b => if fr id b = none then fr m b else fr id b
 have hfm : ∀ b o, fm b = some o ↔ (b = r ∧ o = .map es clock) ∨ ∃ j, F2 j b = some o := by
  intro b o
  simp only [fm]
  constructor
  ·intro h
   by_cases e : fr id b = none
   ·rw [if_pos e] at h
    rcases (hf b o).1 h with h | ⟨j, h⟩
    ·exact .inl h
    ·refine .inr ⟨j, ?_⟩
     have : j ≠ k := by rintro rfl; rw [hFk] at h; simp [emp] at h
     simp only [F2, if_neg this]; exact h
   ·rw [if_neg e] at h
    exact .inr ⟨k, by simp only [F2, if_true]; exact h⟩
  ·rintro (⟨rfl, rfl⟩ | ⟨j, h⟩)
   ·have h1 := (hf b _).2 (.inl ⟨rfl, rfl⟩)
    rw [if_pos (key b (by rw [h1]; simp))]; exact h1
   ·simp only [F2] at h
    by_cases ej : j = k
    ·rw [if_pos ej] at h
     rw [if_neg (by rw [h]; simp)]; exact h
    ·rw [if_neg ej] at h
     have h1 := (hf b o).2 (.inr ⟨j, h⟩)
     rw [if_pos (key b (by rw [h1]; simp))]; exact h1
 have hin : ∀ i ∈ Qao (rmM (Qhg mem m (.mpr A (Qf8 M k l) V none)) id), i ∈ Qao mem ∧ i ≠ id := by
  intro i hi
  obtain ⟨h1, h2⟩ := Qmg i hi
  rw [Qdn] at h1
  exact ⟨h1, h2⟩
 refine ⟨Qfi fr m fm, Qfj (by rw [Qdn]; exact hmf.nd), hmf.pin, ?_, ?_⟩
 ·intro e he
  obtain ⟨h1, h2⟩ := Qdy he
  rcases Qe0 hmf.nd h1 with rfl | ⟨h3, h4⟩
  ·rw [Qbc]
   refine ⟨⟨r, es, clock, F2, hvm, hmap, ?_, hfm, ?_, ?_, fun j h => by simp at h⟩, fun j i h => by simp at h⟩
   ·intro j
    simp only [F2]
    split
    ·exact key r (by rw [(hf r _).2 (.inl ⟨rfl, rfl⟩)]; simp)
    ·exact hFr j
   ·intro i j b hij hb
    have hFm : ∀ i, F i b ≠ none → fr id b = none := by
     intro i hb
     obtain ⟨o', ho'⟩ := Option.ne_none_iff_exists'.1 hb
     exact key b (by rw [(hf b o').2 (.inr ⟨i, ho'⟩)]; simp)
    simp only [F2] at hb ⊢
    by_cases ei : i = k
    ·rw [if_pos ei] at hb
     have ej : j ≠ k := fun e => hij (ei.trans e.symm)
     rw [if_neg ej]
     cases hx : F j b with
     | none => rfl
     | some y => exact absurd (hFm j (by simp [hx])) hb
    ·rw [if_neg ei] at hb
     by_cases ej : j = k
     ·rw [if_pos ej]; exact hFm i hb
     ·rw [if_neg ej]; exact hdis i j b hij hb
   ·intro j _
    simp only [F2, Qf8]
    by_cases ej : j = k
    ·rw [if_pos ej, if_pos ej, ej]; exact hrowd
    ·rw [if_neg ej, if_neg ej]
     exact hrow j (by simp [Ne.symm ej])
  ·rw [Qbh h4]; exact hmf.at' e h3
 ·refine hmf.ok.reshape ?_ ?_
  ·intro i hi b o hb
   by_cases ei : i = m
   ·subst ei
    rw [Qbc] at hb
    simp only [fm] at hb
    split at hb
    ·exact ⟨i, hmem, hb⟩
    ·exact ⟨id, hdm, hb⟩
   ·rw [Qbh ei] at hb
    exact ⟨i, (hin i hi).1, hb⟩
  ·have one : ∀ i ∈ Qao (rmM (Qhg mem m (.mpr A (Qf8 M k l) V none)) id), i ≠ m → ∀ b, fr i b ≠ none → fm b = none := by
    intro i hi hne2 b hb
    obtain ⟨h1, h3⟩ := hin i hi
    have a1 := hmf.ok.ff i h1 m hmem hne2 b hb
    have a2 := hmf.ok.ff i h1 id hdm h3 b hb
    simp only [fm, a2, if_true, a1]
   intro i hi j hj hij b hb
   by_cases ei : i = m
   ·subst ei
    rw [Qbc] at hb
    rw [Qbh (Ne.symm hij)]
    cases hx : fr j b with
    | none => rfl
    | some y => exact absurd (one j hj (Ne.symm hij) b (by simp [hx])) hb
   ·rw [Qbh ei] at hb
    by_cases ej : j = m
    ·subst ej; rw [Qbc]; exact one i hi ei b hb
    ·rw [Qbh ej]; exact hmf.ok.ff i (hin i hi).1 j (hin j hj).1 hij b hb
end
end Go.Proofs.Ytnmjcdlgfimnaaa
namespace Go.Proofs.Ytnmjcdlgfimnaaa
theorem Rep.arrSrc_full : {α : Type} → (R : Rep α) → {x : α} → {β : Type} → {A : Rep β} → {l : List β} → R.arrSrc x = some (.mk A l) → {n sz : Nat} → R.arrOf = some (n, sz) → {G : Hp} → {cs : List Value} → R.enc G x cs →
    EncL (fun x c => A.enc G x c) l cs ∧ l.length = n ∧ sz = A.size
 | _, .arr n A', x, β, A, l, h, n', sz, ha, G, cs, he => by
  simp only [arrSrc, Option.some.injEq, SL.mk.injEq] at h
  obtain ⟨rfl, hA, hx⟩ := h
  obtain rfl := eq_of_heq hA
  obtain rfl := eq_of_heq hx
  simp only [arrOf, Option.some.injEq, Prod.mk.injEq] at ha
  obtain ⟨rfl, rfl⟩ := ha
  have := (enc_arr _ _ G _ cs).1 he
  exact ⟨this.2, this.1, rfl⟩
 | _, .iso A' to of _ _, y, β, A, l, h, n', sz, ha, G, cs, he => A'.arrSrc_full (by simpa only [arrSrc] using h) (by simpa only [arrOf] using ha) (by simpa only [enc] using he)
 | _, .int _, _, _, _, _, h, _, _, _, _, _, _ => by simp [arrSrc] at h
 | _, .bool, _, _, _, _, h, _, _, _, _, _, _ => by simp [arrSrc] at h
 | _, .str, _, _, _, _, h, _, _, _, _, _, _ => by simp [arrSrc] at h
 | _, .unit, _, _, _, _, h, _, _, _, _, _, _ => by simp [arrSrc] at h
 | _, .pair _ _, _, _, _, _, h, _, _, _, _, _, _ => by simp [arrSrc] at h
 | _, .slice _, _, _, _, _, h, _, _, _, _, _, _ => by simp [arrSrc] at h
section
variable {C : Ctx} {s : Qan} {K : KT} {o : Oper}
def Qs3 (C : Ctx) (s : Qan) (t : TypeId) (x y : Operand) (K : KT) : Prop := match Qem C t with
 | .slice e => (match C.ty e with
  | some ei => ei.size ≠ 0 ∧ (match ev s x, ev s y with
   | .l (.view id [] off n lo len), .l b => n = ei.size ∧ (match Qco s.mem id with
    | some (.segs l) => (match Qj2 n 9 l off with
     | some (p, z, q) => (match z.arrSrc, z.arrOf with
      | some (.mk A old), some (nn, _) => A.size = n ∧ lo + len ≤ nn ∧ Qv1 s b fun r => Qv3 A r fun m =>
          K (.one (.l (.int .i64 ((min m.length len : Nat) : Int)))) (s.setBox id (.segs (p ++ .dat (.arr nn A) (old.take lo ++ (m.take len ++ old.drop (lo + min m.length len))) :: q)))
      | _, _ => False)
     | none => False)
    | _ => False)
   | _, _ => False)
  | none => False)
 | _ => False
theorem Qqy {c : Call} {x y : Operand} {t xt : TypeId} (ho : o.op = .call c) (hc : c.callee = .builtin .copy) (ha : c.args.toList = [x, y]) (ht : c.argTypes.toList = [t, xt]) (h : Qs3 C s t x y K) : Qet C.P o s K := by
 intro R G γ a w hs
 have ha' : c.args = #[x, y] := by apply Array.ext'; simpa using ha
 have ht' : c.argTypes = #[t, xt] := by apply Array.ext'; simpa using ht
 have exec : ∀ {v : Value} {w' : World}, (Builtin.copy_ #[t, xt] o.type #[a.eval x, a.eval y]).run C.P w = .ok v w' → (execOp a.eval o).run C.P w = .ok (.value v) w' := by
  intro v w' hrun
  simp only [execOp, ho, resolve, hc, ha', ht', List.map_toArray, List.map_cons, List.map_nil, Sem.run_bind, Sem.run_pure, Result.andThen_ok, invoke, builtin, hrun]
 have hx := Qb6 hs.sl x
 have hy := Qb6 hs.sl y
 unfold Qs3 at h
 split at h
 ·rename_i e htd
  have hu : C.P.underlying t = some (.slice e) := by have := Qbj (C := C) (t := t) (by rw [htd]; simp); rw [htd] at this; exact this
  split at h
  ·rename_i ei hei
   obtain ⟨hsz0, h⟩ := h
   have hok := C.ok e ei hei
   have hsz : ∀ w, (sizeOf e).run C.P w = .ok ei.size w := fun w => Qc3 hok
   split at h
   ·rename_i id off n lo len b hex hey
    obtain ⟨rfl, h⟩ := h
    rw [hex] at hx
    rw [hey] at hy
    obtain ⟨ad, cap, hcap, hmx, e0, had, hnn⟩ := hx
    have hx' : a.eval x = .slice ad len cap := by simpa using e0
    split at h
    ·rename_i l hm
     split at h
     ·rename_i p z q hsk
      split at h
      ·rename_i α A old nn sz hA1 hA2
       obtain ⟨hA, hle, h⟩ := h
       obtain ⟨fr, hmf⟩ := hs.mem
       obtain ⟨β, B, m, es, a2, cap2, h, hy', hle2, hmx2, hn2, henc, hcells⟩ := Qjg hmf h hy
       unfold Qv3 at h
       obtain ⟨rfl, hBA, hK⟩ := h
       obtain rfl := eq_of_heq hBA
       simp only [cast_eq] at hK
       obtain ⟨bk, t', cs, e1, hb, hl, hput⟩ := hs.segs hm
       obtain ⟨hr, hoff⟩ := Qd2 hsk hl
       obtain ⟨c1, d, rfl, h1, c2, c3, rfl, h2, h3⟩ := Qb5.append_inv hr
       -- the array's leaf
       have hz : EncL (fun x c => B.enc G x c) old c2 ∧ old.length = nn := by
        cases z with
        | dat R0 x0 =>
         have := R0.arrSrc_full hA1 hA2 h2
         exact ⟨this.1, this.2.1⟩
        | _ => simp [LV.arrSrc] at hA1
       obtain ⟨hzl, hzn⟩ := hz
       have hel : es.length = m.length * B.size := EncL.length (fun _ _ h => B.enc_length h) henc
       -- the source cut
       have em : m = m.take len ++ m.drop len := by simp
       have henc' := henc
       rw [em] at henc'
       obtain ⟨es1, es2, rfl, hs1, hs2⟩ := EncL.append_inv henc'
       have hes1 : es1.length = min m.length len * B.size := by
        rw [EncL.length (fun _ _ h => B.enc_length h) hs1, List.length_take, Nat.min_comm]
       -- the destination cut
       have eo : old = old.take lo ++ (((old.drop lo).take (min m.length len)) ++ old.drop (lo + min m.length len)) := by
        rw [← List.drop_drop, List.take_append_drop, List.take_append_drop]
       rw [eo] at hzl
       obtain ⟨o1, o23, rfl, ho1, ho23⟩ := EncL.append_inv hzl
       obtain ⟨o2, o3, rfl, ho2, ho3⟩ := EncL.append_inv ho23
       have hlo1 : o1.length = lo * B.size := by
        rw [EncL.length (fun _ _ h => B.enc_length h) ho1, List.length_take, Nat.min_eq_left (by omega)]
       have hlo2 : o2.length = min m.length len * B.size := by
        rw [EncL.length (fun _ _ h => B.enc_length h) ho2, List.length_take, List.length_drop, Nat.min_eq_left (by omega)]
       have hc1 : c1.length = off := by rw [Qb5.length h1, hoff]
       have hnew : Qb5 G γ (p ++ .dat (.arr nn B) (old.take lo ++ (m.take len ++ old.drop (lo + min m.length len))) :: q) (c1 ++ ((o1 ++ (es1 ++ o3)) ++ c3)) := by
        refine Qb5.append h1 ⟨_, _, rfl, ?_, h3⟩
        refine (Rep.enc_arr nn B G _ _).2 ⟨?_, EncL.append ho1 (EncL.append hs1 ho3)⟩
        simp only [List.length_append, List.length_take, List.length_drop]
        omega
       have hfirst : (Builtin.firstCells ei.size (min m.length len) (a.eval y)).run C.P w = .ok es1.toArray w := by
        have hy2 : a.eval y = .slice a2 m.length cap2 := hy'
        rw [hy2, ← hA]
        cases a2 with
        | none =>
         have : es1 = [] := by
          cases es1 with
          | nil => rfl
          | cons u es1 => obtain ⟨a', e', _⟩ := hcells w hmf.agr 0 u rfl; simp at e'
         subst this
         simp [Builtin.firstCells]
        | some a2 =>
         refine run_firstCells_some (w := w) B.size _ a2 m.length cap2 es1 hes1 fun j u hj => ?_
         obtain ⟨a', e', h'⟩ := hcells w hmf.agr j u (by
          obtain ⟨hlt, _⟩ := List.getElem?_eq_some_iff.1 hj
          rw [List.getElem?_append_left hlt]; exact hj)
         cases e'; exact h'
       have hlen : ∀ w, (Builtin.lenOf (a.eval y)).run C.P w = .ok m.length w := by
        intro w
        have hy2 : a.eval y = .slice a2 m.length cap2 := hy'
        rw [hy2]; rfl
       have hmin : Nat.min m.length len = min m.length len := rfl
       have htake : min len m.length = min m.length len := Nat.min_comm _ _
       by_cases hn0 : min m.length len = 0
       ·-- nothing is copied
        have e2 : es1 = [] := List.length_eq_zero_iff.1 (by rw [hes1, hn0]; simp)
        have e3 : o2 = [] := List.length_eq_zero_iff.1 (by rw [hlo2, hn0]; simp)
        subst e2 e3
        have hrun : (Builtin.copy_ #[t, xt] o.type #[a.eval x, a.eval y]).run C.P w = .ok (.int .i64 ((min m.length len : Nat) : Int)) w := by
         unfold Builtin.copy_
         simp only [List.getElem?_toArray, List.getElem?_cons_zero, List.getElem?_cons_succ, hx']
         cases ad with
         | none => simp only [Sem.run_bind, Qbd hu, Result.andThen_ok, hsz, hlen, hmin, hfirst, Sem.run_pure]; rfl
         | some ad => simp only [Sem.run_bind, Qbd hu, Result.andThen_ok, hsz, hlen, hmin, hfirst, storeCells, Sem.run_pure]; rfl
        have hm' := hput hnew
        have hw : Qfp w bk (.cells (c1 ++ ((o1 ++ ([] ++ o3)) ++ c3)).toArray t' (0, 0)) = w := by
         have hb2 : w.heap[bk]? = some (.cells (c1 ++ ((o1 ++ ([] ++ o3)) ++ c3)).toArray t' (0, 0)) := hb
         have hlt := Qee hb2
         unfold Qfp
         have : w.heap.setIfInBounds bk (.cells (c1 ++ ((o1 ++ ([] ++ o3)) ++ c3)).toArray t' (0, 0)) = w.heap := by
          apply Array.ext
          ·simp
          ·intro j h1 h2
           by_cases hj : bk = j
           ·subst hj
            rw [Array.getElem_setIfInBounds_self]
            rw [Array.getElem?_eq_getElem hlt] at hb2
            exact (Option.some.inj hb2).symm
           ·rw [Array.getElem_setIfInBounds_ne (by simpa using h1) hj]
         rw [this]
        rw [hw] at hm'
        refine Qcg (exec hrun) ?_
        refine ⟨G, γ, _, _, Hp.le_refl G, hK, ?_, hs.sl, hm', hs.df, hs.pn⟩
        simp only [TV.rel, SV.rel, LV.relV, LV.rel]
        refine ⟨trivial, ?_⟩
        rw [hn0]
        exact Qm1 rfl
       ·have hlen0 : len ≠ 0 := by omega
        have had' := had hlen0
        have hbw : w.heap[bk]? = some (.cells ((c1 ++ o1) ++ (o2 ++ (o3 ++ c3))).toArray t' (0, 0)) := by
         rw [hb]; simp only [List.append_assoc]
        have hpl : ∀ v ∈ es1, Rep.plainCell v = true := Rep.EncL.plain (fun _ _ h => B.enc_plain h) hs1
        have hne : es1 ≠ [] := by
         intro e2
         rw [e2] at hes1
         have := Nat.mul_pos (Nat.pos_of_ne_zero hn0) (Nat.pos_of_ne_zero (hA ▸ hsz0))
         simp at hes1; omega
        have hst := Qd4 (P := C.P) (off := off + lo * B.size) es1 o2 (c1 ++ o1) (o3 ++ c3) 0 w hbw (by simp only [List.length_append]; omega) (by rw [hes1, hlo2]) hpl hne
        have hadd : ad = some ⟨bk, off + lo * B.size, none⟩ := by
         rw [had', e1]
         simp only [blk, Qdx, hA]
        have hrun : (Builtin.copy_ #[t, xt] o.type #[a.eval x, a.eval y]).run C.P w = .ok (.int .i64 ((min m.length len : Nat) : Int)) (Qfp w bk (.cells ((c1 ++ o1) ++ (es1 ++ (o3 ++ c3))).toArray t' (0, 0))) := by
         unfold Builtin.copy_
         simp only [List.getElem?_toArray, List.getElem?_cons_zero, List.getElem?_cons_succ, hx', hadd]
         simp only [Sem.run_bind, Qbd hu, Result.andThen_ok, hsz, hlen, hmin, hfirst, hst, Sem.run_pure]
         rfl
        have hm' := hput hnew
        refine Qcg (exec hrun) ?_
        refine ⟨G, γ, _, _, Hp.le_refl G, hK, ?_, hs.sl, ?_, hs.df, hs.pn⟩
        ·simp only [TV.rel, SV.rel, LV.relV, LV.rel]
         refine ⟨trivial, ?_⟩
         have h63 : min m.length len ≤ 9223372036854775807 := by unfold mxL at hmx2; omega
         have e1 : IntKind.i64.min = -9223372036854775808 := by decide
         have e2 : IntKind.i64.max = 9223372036854775807 := by decide
         unfold inK
         rw [e1, e2]
         omega
        ·simpa only [List.append_assoc, Qan.setBox] using hm'
      ·exact h.elim
     ·exact h.elim
    ·exact h.elim
   ·exact h.elim
  ·exact h.elim
 ·exact h.elim
def Qr6 (C : Ctx) (s : Qan) (src dst : TypeId) (id : Nat) (K : KT) : Prop := src = dst ∧ Qg9 C dst = true ∧ (match Qco s.mem id with
 | some (.arr A l) => l ≠ [] ∧ K (.one (.l (.dat (.slice A) l))) (s.freeze id (.dat (.slice A) l))
 | _ => False)
theorem Qr5 {P : Program} {w : World} {t e et : TypeId} (hu : P.underlying t = some (.slice e)) (hk : P.underlying e = some (.int .u8)) {b n c : Nat} {cs : Array Value} (hb : w.heap[b]? = some (.cells cs et (0, 0))) :
    (convert t t (.slice (some ⟨b, 0, none⟩) n c)).run P w = .ok (.slice (some ⟨b, 0, none⟩) n c) (Qfp w b (.cells cs et (cs.size, cs.size + 1))) := by
 have hsh : w.shape? b = some (et, cs.size) := by unfold World.shape?; rw [hb]
 have hlt := Qee hb
 have hfr : w.freeze ⟨b, cs.size, none⟩ 1 = Qfp w b (.cells cs et (cs.size, cs.size + 1)) := by
  unfold World.freeze Qfp
  rw [if_neg (by decide)]
  congr 1
  apply Array.ext
  ·simp
  ·intro j h1 h2
   rw [Array.getElem_modify]
   by_cases hj : b = j
   ·subst hj
    rw [if_pos rfl, Array.getElem_setIfInBounds_self]
    rw [Array.getElem?_eq_getElem hlt] at hb
    rw [Option.some.inj hb]
    rfl
   ·rw [if_neg hj, Array.getElem_setIfInBounds_ne (by simpa using h1) hj]
 simp [convert, Qbd hu, Qbd hk, markStringish, hsh]
 exact hfr
theorem Qoy {src dst : TypeId} {x : Operand} {id : Nat} (ho : o.op = .convert src dst x) (he : ev s x = .l (.own id)) (h : Qr6 C s src dst id K) : Qet C.P o s K := by
 intro R G γ a w hs
 obtain ⟨rfl, hb, h⟩ := h
 obtain ⟨e, hu, hk⟩ := Qfm hb
 have hx := Qb6 hs.sl x
 rw [he] at hx
 have hv' : a.eval x = γ id := by have h1 := hx; simp only [SV.rel, LV.relV, LV.rel, List.cons.injEq, and_true] at h1; exact h1.1
 split at h
 ·rename_i α A l hm
  obtain ⟨hne, hK⟩ := h
  obtain ⟨fr, hnd, hpin, hat, hok⟩ := hs.mem
  have hmem := Qca hm
  have hid : id ∈ Qao s.mem := List.mem_map.2 ⟨_, hmem, rfl⟩
  rcases hat _ hmem with ⟨b, t, es, sp, c, e1, ef, hl, hle, hmx, hsp⟩ | ⟨hl0, _⟩
  ·simp only at e1 ef
   have hbw : w.heap[b]? = some (.cells (es ++ sp).toArray t (0, 0)) := hok.f id hid b _ (by rw [ef]; simp [sng])
   have hrun := Qr5 (P := C.P) (n := l.length) (c := c) hu hk hbw
   have hok1 := hok.set hid ef (.cells (es ++ sp).toArray t ((es ++ sp).toArray.size, (es ++ sp).toArray.size + 1))
   have hf := hok1.freeze hid
   have hg : Hp.le G (fun j => (G j).or (Qfi fr id (sng b (.cells (es ++ sp).toArray t ((es ++ sp).toArray.size, (es ++ sp).toArray.size + 1))) id j)) := fun j u hj => by simp [hj]
   have hn : (LV.dat (.slice A) l).rel (fun j => (G j).or (Qfi fr id (sng b (.cells (es ++ sp).toArray t ((es ++ sp).toArray.size, (es ++ sp).toArray.size + 1))) id j)) γ [γ id] := by
    refine (Rep.enc_slice A _ l _).2 ⟨some ⟨b, 0, none⟩, c, by rw [e1], hle, hmx, by simp, .inr ⟨b, [], es, sp, t, ((es ++ sp).toArray.size, (es ++ sp).toArray.size + 1), rfl, ?_, EncL.mono (fun _ _ h => A.enc_mono hg h) hl⟩⟩
    have hgn := hok1.gf id hid b (by rw [Qbc]; simp [sng])
    simp [hgn, Qbc, sng]
   refine Qcg (v := γ id) (w' := Qfp w b (.cells (es ++ sp).toArray t ((es ++ sp).toArray.size, (es ++ sp).toArray.size + 1))) (by simp only [execOp, ho, hv', e1, Sem.run_bind, hrun, Result.andThen_ok, Sem.run_pure]) ?_
   refine ⟨_, γ, _, _, hg, hK, ?_, ⟨fun i => ?_, ⟨_, Qey hnd, hpin, ?_, hf.sub ?_⟩, hs.df, hs.pn⟩⟩
   ·exact LV.relV_of rfl hn
   ·show TV.rel _ _ (Qd7 (Qm5 id _ s.sl) i) _
    rw [Qi4]
    exact TV.frzI_rel hg hn rfl (hs.sl i)
   ·intro e he
    obtain ⟨hne2, b2, h2, h3⟩ := Qdl he
    rw [h3, Qbh hne2]
    exact Box.frzI_at hg hn (hat _ h2)
   ·intro i hi
    obtain ⟨e, he, rfl⟩ := List.mem_map.1 hi
    obtain ⟨h1, b2, h2, _⟩ := Qdl he
    simp only [List.mem_filter, ne_eq, decide_not, Bool.not_eq_true', decide_eq_false_iff_not]
    exact ⟨List.mem_map.2 ⟨_, h2, rfl⟩, h1⟩
  ·exact absurd hl0 hne
 ·exact h.elim
end
end Go.Proofs.Ytnmjcdlgfimnaaa
