/- Operations that turn nothing: equal arrays, no row, bytes as text, least and greatest, closures, a row's array. -/
import Derived.Test.YtnmjcdlgfimnaaaFkb
import Derived.Laws.AppendOwn
import Derived.Laws.MakeOwn
namespace Go.Proofs.Ytnmjcdlgfimnaaa

theorem run_eq_loop {P : Program} {w : World} {e : TypeId} {k : IntKind} (he : P.underlying e = some (.int k)) (hag : ∀ w, (isAgg e).run P w = .ok false w) (d : Nat) :
    ∀ (l m p q : List Int) (i : Nat), p.length = i → q.length = i → l.length = m.length →
    (forIn (List.range' i l.length) ((none : Option Bool), ()) fun i __s => (do
            let __do_lift ← part e ((p ++ l).map (Value.int k)).toArray (i * 1)
            let __do_lift_1 ← part e ((q ++ m).map (Value.int k)).toArray (i * 1)
            let __do_lift ← Op.equalIn (d + 1) e __do_lift __do_lift_1
            if (!__do_lift) = true then pure (ForInStep.done (some false, ())) else pure (ForInStep.yield (none, ())) : Sem (ForInStep (Option Bool × Unit)))).run P w =
      .ok (if l = m then none else some false, ()) w
  | [], [], p, q, i, _, _, _ => by simp
  | [], _ :: _, _, _, _, _, _, h => by simp at h
  | _ :: _, [], _, _, _, _, _, h => by simp at h
  | x :: l, y :: m, p, q, i, hp, hq, h => by
    have ih := run_eq_loop (w := w) he hag d l m (p ++ [x]) (q ++ [y]) (i + 1) (by simp [hp]) (by simp [hq]) (by simpa using h)
    have p1 : (part e ((p ++ x :: l).map (Value.int k)).toArray (i * 1)).run P w = .ok (.int k x) w := by
      simp [part, hag, ← hp]
    have p2 : (part e ((q ++ y :: m).map (Value.int k)).toArray (i * 1)).run P w = .ok (.int k y) w := by
      simp [part, hag, ← hq]
    have p3 : (Op.equalIn (d + 1) e (.int k x) (.int k y)).run P w = .ok (x == y) w := by simp [Op.equalIn, run_under he]
    simp only [List.length_cons, List.range'_succ, List.forIn_cons, Sem.run_bind, p1, p2, p3, Result.andThen_ok]
    by_cases hxy : x = y
    · subst hxy
      simp only [beq_self_eq_true, Bool.not_true, Bool.false_eq_true, if_false, Sem.run_pure, Result.andThen_ok]
      simp only [List.append_assoc, List.singleton_append] at ih
      simpa using ih
    · have : (x == y) = false := by simpa using hxy
      simp [this, hxy]
theorem run_eq_arr {P : Program} {w : World} {t e : TypeId} {n : Nat} {k : IntKind} (hu : P.underlying t = some (.array n e)) (he : P.underlying e = some (.int k)) (hs : ∀ w, (sizeOf e).run P w = .ok 1 w) (d : Nat) (l m : List Int) (hl : l.length = n) (hm : m.length = n) :
    (Op.equalIn (d + 2) t (.agg (l.map (Value.int k)).toArray) (.agg (m.map (Value.int k)).toArray)).run P w = .ok (decide (l = m)) w := by
  have hag : ∀ w, (isAgg e).run P w = .ok false w := fun w => by simp [isAgg, run_under he]
  have := run_eq_loop (w := w) he hag d l m [] [] 0 rfl rfl (by omega)
  unfold Op.equalIn
  simp only [Sem.run_bind, run_under hu, Result.andThen_ok, hs]
  rw [Std.Legacy.Range.forIn_eq_forIn_range']
  simp only [Std.Legacy.Range.size, Nat.sub_zero, Nat.add_sub_cancel, Nat.div_one]
  rw [← hl]
  simp only [List.nil_append] at this
  rw [this]
  by_cases h : l = m <;> simp [h]

section
variable {C : Ctx} {s : SymSt} {K : KT} {o : Oper}

/-- '==' and '!='. -/
def eqKt (op : BinOp) (b : Bool) (s : SymSt) (K : KT) : Prop := match op with
  | .eql => K (.one (.l (.bool b))) s
  | .neq => K (.one (.l (.bool (!b)))) s
  | _ => False
theorem eqKt_run {op : BinOp} {t t' : TypeId} {x y : Operand} (ho : o.op = .binOp op t x y t') {b : Bool} (h : eqKt op b s K) {a : Act} {G : Hp} {γ : Nat → Value}
    {W : World → Prop} (hrun : ∀ w', W w' → (Op.equalIn 10000 t (a.eval x) (a.eval y)).run C.P w' = .ok b w') (hg : ∀ w', W w' → (eqGuard op t x y (a.eval x) (a.eval y)).run C.P w' = .ok () w')
    (hx : ∀ k n, a.eval x ≠ .int k n) (hf : ∀ k n, a.eval x ≠ .float k n) (hc : ∀ k m n, a.eval x ≠ .complex k m n) (hs : ∀ k, a.eval x ≠ .string k) :
    ∃ v tv, (∀ w', W w' → (execOp a.eval o).run C.P w' = .ok (.value v) w') ∧ K tv s ∧ tv.rel G γ v := by
  unfold eqKt at h
  split at h
  · refine ⟨.bool b, _, fun w' hw => ?_, h, rfl⟩
    simp only [execOp, ho, Sem.run_bind, hg w' hw, Result.andThen_ok, (run_eql (hrun w' hw) hx hf hc hs).1, Sem.run_pure]
  · refine ⟨.bool (!b), _, fun w' hw => ?_, h, rfl⟩
    simp only [execOp, ho, Sem.run_bind, hg w' hw, Result.andThen_ok, (run_eql (hrun w' hw) hx hf hc hs).2, Sem.run_pure]
  · exact h.elim

def SV.isAgg : SV → Bool
  | .l x => x.isAgg
  | .agg _ => true
theorem SV.agg_val {v : SV} (h : v.isAgg = true) {G : Hp} {γ : Nat → Value} {u : Value} (hv : v.rel G γ u) : ∃ cs : List Value, u = .agg cs.toArray := by
  cases v with
  | agg xs => obtain ⟨cs, _, e⟩ := hv; exact ⟨cs, e⟩
  | l x =>
    cases x <;> simp only [SV.isAgg, LV.isAgg, Bool.false_eq_true] at h
    case dat R y => obtain ⟨cs, _, e⟩ := hv; exact ⟨cs, by rw [e]; simp [Rep.mk, h]⟩
def Rep.slLen : {α : Type} → Rep α → α → Option Nat
  | _, .slice _, l => some l.length
  | _, _, _ => none
def vBin3 (C : Ctx) (s : SymSt) (op : BinOp) (t : TypeId) (x y : Operand) (K : KT) : Prop := match ev s x with
  | .l (.dat R a) => (match tdOf C t with
    | .arr n e => (match tdOf C e with
      | .int k => R.agg = true ∧ (ev s y).isAgg = true ∧ asR (.arr n (.int k)) (.l (.dat R a)) fun l => asR (.arr n (.int k)) (ev s y) fun m => eqKt op (decide (l = m)) s K
      | _ => False)
    | .slice _ => (match R.slLen a, ev s y with
      | some n, .l .nils => (0 < n → eqKt op false s K) ∧ (n = 0 → ∀ b, eqKt op b s K)
      | _, _ => False)
    | _ => False)
  | .l (.own id) => (match tdOf C t, getM s.mem id, ev s y with
    | .slice _, some (.arr _ l), .l .nils => (0 < l.length → eqKt op false s K) ∧ (l.length = 0 → ∀ b, eqKt op b s K)
    | _, _, _ => False)
  | .l .nils => (match tdOf C t, ev s y with
    | .slice _, .l .nils => eqKt op true s K
    | _, _ => False)
  | _ => vBin2 C s op t x y K

theorem Rep.slLen_spec : {α : Type} → (R : Rep α) → {x : α} → {n : Nat} → R.slLen x = some n → {G : Hp} → {cs : List Value} → R.enc G x cs → ∃ a cap, cs = [.slice a n cap] ∧ n ≤ cap ∧ (a = none → cap = 0) ∧ R.agg = false
  | _, .slice A, l, n, h, G, cs, he => by
    simp only [slLen, Option.some.injEq] at h
    subst h
    obtain ⟨a, cap, e, h1, _, h2, _⟩ := (enc_slice A G l cs).1 he
    exact ⟨a, cap, e, h1, h2, rfl⟩
  | _, .int _, _, _, h, _, _, _ => by simp [slLen] at h
  | _, .bool, _, _, h, _, _, _ => by simp [slLen] at h
  | _, .str, _, _, h, _, _, _ => by simp [slLen] at h
  | _, .unit, _, _, h, _, _, _ => by simp [slLen] at h
  | _, .pair _ _, _, _, h, _, _, _ => by simp [slLen] at h
  | _, .arr _ _, _, _, h, _, _, _ => by simp [slLen] at h
  | _, .iso _ _ _ _ _, _, _, h, _, _, _ => by simp [slLen] at h

theorem eqIn_slice_nil {P : Program} {w : World} {t e : TypeId} (hu : P.underlying t = some (.slice e)) (a : Option Addr) (n c m k d : Nat) : (Op.equalIn (d + 1) t (.slice a n c) (.slice none m k)).run P w = .ok a.isNone w := by
  cases a <;> simp [Op.equalIn, run_under hu]

theorem bin3_q {op : BinOp} {t t' : TypeId} {x y : Operand} (ho : o.op = .binOp op t x y t') (h : vBin3 C s op t x y K) : QSound C.P o s K := by
  unfold vBin3 at h
  have nilk : ∀ {n : Nat} {ad : Option Addr} {cap : Nat} {e : TypeId} {G : Hp} {γ : Nat → Value} {fr : Nat → Hp} {a : Act}, C.P.underlying t = some (.slice e) → a.eval x = .slice ad n cap → a.eval y = .slice none 0 0 → n ≤ cap → (ad = none → cap = 0) →
      ((0 < n → eqKt op false s K) ∧ (n = 0 → ∀ b, eqKt op b s K)) → ∃ v tv, (∀ w', (memOp o.op = true → Agr G fr (idsM s.mem) w') → (execOp a.eval o).run C.P w' = .ok (.value v) w') ∧ K tv s ∧ tv.rel G γ v := by
    intro n ad cap e G γ fr a hu hx hy hle hn h
    have hk : eqKt op ad.isNone s K := by
      by_cases h0 : n = 0
      · exact h.2 h0 _
      · have : ad.isNone = false := by
          cases ad with
          | none => have := hn rfl; omega
          | some _ => rfl
        rw [this]; exact h.1 (by omega)
    refine eqKt_run ho hk (fun w' _ => by rw [hx, hy]; exact eqIn_slice_nil hu ad n cap 0 0 9999) (fun w' _ => ?_) (by simp [hx]) (by simp [hx]) (by simp [hx]) (by simp [hx])
    rw [hx, hy]
    unfold eqGuard
    cases op <;> rfl
  split at h
  · rename_i α R0 a0 he
    intro R G γ fr a w hs hm
    have hx := ev_rel hs x
    have hy := ev_rel hs y
    split at h
    · rename_i n e htd
      have hu : C.P.underlying t = some (.array n e) := by have := tdOf_fits (C := C) (t := t) (by rw [htd]; simp); rw [htd] at this; exact this
      split at h
      · rename_i k htk
        have hk : C.P.underlying e = some (.int k) := by have := tdOf_fits (C := C) (t := e) (by rw [htk]; simp); rw [htk] at this; exact this
        obtain ⟨hag, hag2, h⟩ := h
        rw [he] at hx
        obtain ⟨l, h, hl⟩ := asR_sound h hx
        obtain ⟨m, h, hm'⟩ := asR_sound h hy
        obtain ⟨cs, e1⟩ := SV.agg_val (v := .l (.dat R0 a0)) hag hx
        obtain ⟨ds, e2⟩ := SV.agg_val hag2 hy
        rw [e1] at hl
        rw [e2] at hm'
        obtain ⟨hn1, hl⟩ := (Rep.enc_arr n _ G l _).1 hl
        obtain ⟨hn2, hm'⟩ := (Rep.enc_arr n _ G m _).1 hm'
        have hl' := (encL_ints k l G _).1 hl
        have hm2 := (encL_ints k m G _).1 hm'
        simp only [Value.cells] at hl' hm2
        have ei : ∃ i, C.ty t = some i ∧ i.desc = .arr n e := by
          unfold tdOf at htd
          split at htd
          · rename_i i hi; exact ⟨i, hi, htd⟩
          · simp at htd
        obtain ⟨i, hi, hd⟩ := ei
        have hgrd := (C.ok t i hi).grd n e hd
        have ej : ∃ i, C.ty e = some i ∧ i.desc = .int k := by
          unfold tdOf at htk
          split at htk
          · rename_i i hi; exact ⟨i, hi, htk⟩
          · simp at htk
        obtain ⟨j, hj, hjd⟩ := ej
        have hsz : ∀ w, (sizeOf e).run C.P w = .ok 1 w := fun w => by
          have := run_size (w := w) (C.ok e j hj)
          rwa [(C.ok e j hj).one (by rw [hjd]; rfl)] at this
        have ea : a.eval x = .agg (l.map (Value.int k)).toArray := by rw [e1, ← hl'.1]
        have eb : a.eval y = .agg (m.map (Value.int k)).toArray := by rw [e2, ← hm2.1]
        refine eqKt_run ho h (fun w' _ => by rw [ea, eb]; exact run_eq_arr hu hk hsz 9998 l m hn1 hn2) (fun w' _ => ?_) (by simp [ea]) (by simp [ea]) (by simp [ea]) (by simp [ea])
        rw [ea, eb]
        unfold eqGuard
        cases op <;> simp [hgrd]
      · exact h.elim
    · rename_i e htd
      have hu : C.P.underlying t = some (.slice e) := by have := tdOf_fits (C := C) (t := t) (by rw [htd]; simp); rw [htd] at this; exact this
      split at h
      · rename_i n hn hey
        rw [he] at hx
        rw [hey] at hy
        obtain ⟨cs, hc, e1⟩ := hx
        obtain ⟨ad, cap, rfl, h1, h2, hag⟩ := R0.slLen_spec hn hc
        have hx' : a.eval x = .slice ad n cap := by rw [e1]; simp [Rep.mk, hag]
        have hy' : a.eval y = .slice none 0 0 := by simpa [SV.rel, LV.relV, LV.rel] using hy
        exact nilk hu hx' hy' h1 h2 h
      · exact h.elim
    · exact h.elim
  · rename_i id he
    intro R G γ fr a w hs hm
    have hx := ev_rel hs x
    have hy := ev_rel hs y
    split at h
    · rename_i e α A l htd hm' hey
      have hu : C.P.underlying t = some (.slice e) := by have := tdOf_fits (C := C) (t := t) (by rw [htd]; simp); rw [htd] at this; exact this
      rw [he] at hx
      rw [hey] at hy
      have hv' : a.eval x = γ id := by have h1 := hx; simp only [SV.rel, LV.relV, LV.rel, List.cons.injEq, and_true] at h1; exact h1.1
      have hy' : a.eval y = .slice none 0 0 := by simpa [SV.rel, LV.relV, LV.rel] using hy
      rcases hm.arr hm' with ⟨rfl, ad, e1⟩ | ⟨b, t2, es, sp, c, e1, _, _, hle, _⟩
      · exact nilk hu (hv'.trans e1) hy' (Nat.le_refl _) (fun _ => rfl) h
      · exact nilk hu (hv'.trans e1) hy' hle (by simp) h
    · exact h.elim
  · rename_i he
    intro R G γ fr a w hs hm
    have hx := ev_rel hs x
    have hy := ev_rel hs y
    split at h
    · rename_i e htd hey
      have hu : C.P.underlying t = some (.slice e) := by have := tdOf_fits (C := C) (t := t) (by rw [htd]; simp); rw [htd] at this; exact this
      rw [he] at hx
      rw [hey] at hy
      have hx' : a.eval x = .slice none 0 0 := by simpa [SV.rel, LV.relV, LV.rel] using hx
      have hy' : a.eval y = .slice none 0 0 := by simpa [SV.rel, LV.relV, LV.rel] using hy
      refine eqKt_run ho h (fun w' _ => by rw [hx', hy']; exact eqIn_slice_nil hu none 0 0 0 0 9999) (fun w' _ => ?_) (by simp [hx']) (by simp [hx']) (by simp [hx']) (by simp [hx'])
      rw [hx', hy']
      unfold eqGuard
      cases op <;> rfl
    · exact h.elim
  · exact bin_q ho h

/-- Bytes. -/
def Rep.u8 : {α : Type} → Rep α → List α → Option (List Int)
  | _, .int .u8, l => some l
  | _, _, _ => none
theorem Rep.u8_spec : {α : Type} → (R : Rep α) → {l : List α} → {m : List Int} → R.u8 l = some m → {G : Hp} → {cs : List Value} → EncL (fun x c => R.enc G x c) l cs → cs = m.map (Value.int .u8) ∧ m.length = l.length ∧ ∀ x ∈ m, inK .u8 x
  | _, .int .u8, l, m, h, G, cs, he => by
    simp only [u8, Option.some.injEq] at h
    subst h
    have := (encL_ints .u8 l G cs).1 he
    exact ⟨this.1, rfl, this.2⟩
  | _, .int .i8, _, _, h, _, _, _ => by simp [u8] at h
  | _, .int .i16, _, _, h, _, _, _ => by simp [u8] at h
  | _, .int .i32, _, _, h, _, _, _ => by simp [u8] at h
  | _, .int .i64, _, _, h, _, _, _ => by simp [u8] at h
  | _, .int .u16, _, _, h, _, _, _ => by simp [u8] at h
  | _, .int .u32, _, _, h, _, _, _ => by simp [u8] at h
  | _, .int .u64, _, _, h, _, _, _ => by simp [u8] at h
  | _, .bool, _, _, h, _, _, _ => by simp [u8] at h
  | _, .str, _, _, h, _, _, _ => by simp [u8] at h
  | _, .unit, _, _, h, _, _, _ => by simp [u8] at h
  | _, .slice _, _, _, h, _, _, _ => by simp [u8] at h
  | _, .pair _ _, _, _, h, _, _, _ => by simp [u8] at h
  | _, .arr _ _, _, _, h, _, _, _ => by simp [u8] at h
  | _, .iso _ _ _ _ _, _, _, h, _, _, _ => by simp [u8] at h

def toBytes (l : List Int) : List UInt8 := l.map fun n => UInt8.ofNat n.toNat
theorem fold_push (l : List Int) : ∀ r : ByteArray, l.foldl (fun r n => r.push (UInt8.ofNat n.toNat)) r = ⟨(r.data.toList ++ toBytes l).toArray⟩ := by
  induction l with
  | nil => intro r; simp [toBytes]
  | cons x l ih =>
    intro r
    simp only [List.foldl_cons, ih]
    simp [toBytes]

def isBytes (C : Ctx) (t : TypeId) : Bool := match tdOf C t with
  | .slice e => (match tdOf C e with
    | .int .u8 => true
    | _ => false)
  | _ => false
def vConvert2 (C : Ctx) (s : SymSt) (src dst : TypeId) (x : Operand) (K : KT) : Prop := match ev s x with
  | .l (.int k n) => vConvert C s src dst x K
  | .l (.str b) => vConvert C s src dst x K
  | .l .nils => isBytes C src = true ∧ (match tdOf C dst with
    | .str => K (.one (.l (.str []))) s
    | _ => False)
  | .l y => isBytes C src = true ∧ (match tdOf C dst with
    | .str => vSrc s y fun q => (match q with
      | .mk A l => (match A.u8 l with
        | some m => K (.one (.l (.str (toBytes m)))) s
        | none => False))
    | _ => False)
  | _ => False
theorem isBytes_spec {t : TypeId} (h : isBytes C t = true) : ∃ e, C.P.underlying t = some (.slice e) ∧ C.P.underlying e = some (.int .u8) := by
  unfold isBytes at h
  split at h
  · rename_i e htd
    split at h
    · rename_i htk
      refine ⟨e, ?_, ?_⟩
      · have := tdOf_fits (C := C) (t := t) (by rw [htd]; simp); rw [htd] at this; exact this
      · have := tdOf_fits (C := C) (t := e) (by rw [htk]; simp); rw [htk] at this; exact this
    · simp at h
  · simp at h
theorem convert2_q {src dst : TypeId} {x : Operand} (ho : o.op = .convert src dst x) (h : vConvert2 C s src dst x K) : QSound C.P o s K := by
  unfold vConvert2 at h
  split at h
  · exact convert_q ho h
  · exact convert_q ho h
  · rename_i he
    obtain ⟨hb, h⟩ := h
    obtain ⟨e, hu, hk⟩ := isBytes_spec hb
    intro R G γ fr a w hs hm
    have hx := ev_rel hs x
    rw [he] at hx
    have hx' : a.eval x = .slice none 0 0 := by simpa [SV.rel, LV.relV, LV.rel] using hx
    split at h
    · rename_i htd
      have hd : C.P.underlying dst = some .string := by have := tdOf_fits (C := C) (t := dst) (by rw [htd]; simp); rw [htd] at this; exact this
      refine ⟨.string .empty, _, fun w' _ => ?_, h, rfl, Nat.zero_le _⟩
      simp only [execOp, ho, hx', Sem.run_bind, run_convert_bytes_string w' src dst e none 0 0 hu hk hd, Conv.bytesToString, Sem.run_pure, Result.andThen_ok]
    · exact h.elim
  · rename_i y hne1 hne2 hne3 he
    obtain ⟨hb, h⟩ := h
    obtain ⟨e, hu, hk⟩ := isBytes_spec hb
    intro R G γ fr a w hs hm
    have hx := ev_rel hs x
    rw [he] at hx
    split at h
    · rename_i htd
      have hd : C.P.underlying dst = some .string := by have := tdOf_fits (C := C) (t := dst) (by rw [htd]; simp); rw [htd] at this; exact this
      obtain ⟨α, A, l, es, ad, cap, h, hv, hle, hmx, hn, henc, hcells⟩ := vSrc_spec hm h hx
      simp only at h
      split at h
      · rename_i m hm8
        obtain ⟨rfl, hml, _⟩ := A.u8_spec hm8 henc
        cases ad with
        | none =>
          have : l.length = 0 := by have := hn rfl; omega
          have hm0 : m = [] := List.length_eq_zero_iff.1 (by omega)
          subst hm0
          refine ⟨.string .empty, _, fun w' _ => ?_, h, rfl, Nat.zero_le _⟩
          simp only [execOp, ho, hv, Sem.run_bind, run_convert_bytes_string w' src dst e none _ _ hu hk hd, Conv.bytesToString, Sem.run_pure, Result.andThen_ok]
        | some ad =>
          refine ⟨.string ⟨(toBytes m).toArray⟩, _, fun w' ha => ?_, h, rfl, by unfold toBytes; rw [List.length_map]; omega⟩
          have hload : (loadCells ad l.length).run C.P w' = .ok (m.map (Value.int .u8)).toArray w' := by
            have := run_loadCells_list (P := C.P) w' ad (m.map (Value.int .u8)) (fun j u hj => by
              obtain ⟨ad', e1, hc⟩ := hcells w' (ha (by rw [ho]; rfl)) j u hj
              cases e1; exact hc)
            rwa [List.length_map, hml] at this
          have hr := run_bytesToString w' ad l.length cap m hload
          rw [fold_push] at hr
          simp only [execOp, ho, hv, Sem.run_bind, run_convert_bytes_string w' src dst e (some ad) _ _ hu hk hd, hr, Result.andThen_ok, Sem.run_pure]
          rfl
      · exact h.elim
    · exact h.elim
  · exact h.elim

/-- Least and greatest. -/
def vMM (s : SymSt) (mx : Bool) (k : IntKind) : Int → List Operand → (Int → Prop) → Prop
  | a, [], f => f a
  | a, y :: r, f => match ev s y with
    | .l (.int k' b) => k' = k ∧ vMM s mx k (bif mx then max a b else min a b) r f
    | _ => False
def vMinMax (s : SymSt) (mx : Bool) (xs : List Operand) (K : KT) : Prop := match xs with
  | x :: r => (match ev s x with
    | .l (.int k a) => vMM s mx k a r fun n => K (.one (.l (.int k n))) s
    | _ => False)
  | [] => False
theorem vMM_spec {P : Program} {G : Hp} {γ : Nat → Value} {a : Act} (hs : SlotsOk G γ s.sl a.tmps) {mx : Bool} {k : IntKind} : ∀ {r : List Operand} {n : Int} {f : Int → Prop}, inK k n → vMM s mx k n r f →
    ∃ m, f m ∧ inK k m ∧ ∀ w, ((r.map a.eval).foldlM (bif mx then Builtin.max2 else Builtin.min2) (.int k n)).run P w = .ok (.int k m) w
  | [], n, f, hk, h => ⟨n, h, hk, fun w => rfl⟩
  | y :: r, n, f, hk, h => by
    unfold vMM at h
    split at h
    · rename_i k' b he
      have hy := ev_rel hs y
      rw [he] at hy
      obtain ⟨hy', hbk⟩ := (by simpa [SV.rel, LV.relV, LV.rel] using hy : a.eval y = .int k' b ∧ inK k' b)
      obtain ⟨rfl, h⟩ := h
      have hk2 : inK k' (bif mx then max n b else min n b) := by
        unfold inK at *
        cases mx <;> simp only [cond_true, cond_false] <;> omega
      obtain ⟨m, hf, hmk, hrun⟩ := vMM_spec (P := P) hs hk2 h
      refine ⟨m, hf, hmk, fun w => ?_⟩
      have h2 : ((bif mx then Builtin.max2 else Builtin.min2) (.int k' n) (.int k' b)).run P w = .ok (.int k' (bif mx then max n b else min n b)) w := by
        cases mx
        · simp only [cond_false, Builtin.min2, Sem.run_pure]
          congr 2
          by_cases h : b < n <;> simp [h, Int.min_def] <;> omega
        · simp only [cond_true, Builtin.max2, Sem.run_pure]
          congr 2
          by_cases h : b > n <;> simp [h, Int.max_def] <;> omega
      simp only [List.map_cons, List.foldlM_cons, Sem.run_bind, hy', h2, Result.andThen_ok, hrun w]
    · exact h.elim
theorem minmax_q {c : Call} {mx : Bool} (ho : o.op = .call c) (hc : c.callee = .builtin (bif mx then .max else .min)) (h : vMinMax s mx c.args.toList K) : QSound C.P o s K := by
  intro R G γ fr a w hs hm
  unfold vMinMax at h
  split at h
  · rename_i x r hxr
    have ha' : c.args = (x :: r).toArray := by apply Array.ext'; simpa using hxr
    split at h
    · rename_i k n he
      have hx := ev_rel hs x
      rw [he] at hx
      obtain ⟨hx', hnk⟩ := (by simpa [SV.rel, LV.relV, LV.rel] using hx : a.eval x = .int k n ∧ inK k n)
      obtain ⟨m, hK, hmk, hrun⟩ := vMM_spec (P := C.P) hs hnk h
      refine ⟨.int k m, _, fun w' _ => ?_, hK, rfl, hmk⟩
      have hargs : (c.args.map a.eval).toList = .int k n :: r.map a.eval := by rw [ha']; simp [hx']
      cases mx
      · simp only [cond_false] at hc hrun
        simp only [execOp, ho, resolve, hc, Sem.run_bind, Sem.run_pure, Result.andThen_ok, invoke, builtin, Builtin.min_, hargs, hrun w']
      · simp only [cond_true] at hc hrun
        simp only [execOp, ho, resolve, hc, Sem.run_bind, Sem.run_pure, Result.andThen_ok, invoke, builtin, Builtin.max_, hargs, hrun w']
    · exact h.elim
  · exact h.elim

/-- A closure. -/
def capsOf (s : SymSt) : List Operand → (List Nat → Prop) → Prop
  | [], f => f []
  | x :: r, f => match ev s x with
    | .l (.ptr id [] 0) => capsOf s r fun l => f (id :: l)
    | _ => False
def vMakeFunc (s : SymSt) (fn : Fn) (first captured : List Operand) (K : KT) : Prop := match fn, first with
  | .func f, [] => capsOf s captured fun l => K (.one (.l (.clo f l))) s
  | _, _ => False
theorem capsOf_spec {G : Hp} {γ : Nat → Value} {a : Act} (hs : SlotsOk G γ s.sl a.tmps) : ∀ {r : List Operand} {f : List Nat → Prop}, capsOf s r f →
    ∃ l, f l ∧ r.map a.eval = l.map fun i => Value.pointer (some ⟨blk (γ i), 0, none⟩)
  | [], f, h => ⟨[], h, rfl⟩
  | x :: r, f, h => by
    unfold capsOf at h
    split at h
    · rename_i id he
      have hx := ev_rel hs x
      rw [he] at hx
      have hx' : a.eval x = .pointer (some ⟨blk (γ id), 0, none⟩) := by simpa [SV.rel, LV.relV, LV.rel, poff] using hx
      obtain ⟨l, hf, e⟩ := capsOf_spec hs h
      exact ⟨id :: l, hf, by simp [hx', e]⟩
    · exact h.elim
theorem makeFunc_q {fn : Fn} {first captured : Array Operand} (ho : o.op = .makeFunc fn first captured) (h : vMakeFunc s fn first.toList captured.toList K) : QSound C.P o s K := by
  intro R G γ fr a w hs hm
  unfold vMakeFunc at h
  split at h
  · rename_i f hf
    have h0 : first = #[] := by apply Array.ext'; simpa using hf
    obtain ⟨l, hK, e⟩ := capsOf_spec hs h
    refine ⟨_, _, fun w' _ => ?_, hK, rfl⟩
    have e' : captured.map a.eval = (l.map fun i => Value.pointer (some ⟨blk (γ i), 0, none⟩)).toArray := by
      apply Array.ext'
      simpa using e
    simp only [execOp, ho, Instr.makeFunc, h0, e', Array.map_empty, Sem.run_bind, Sem.run_pure, Result.andThen_ok]
  · exact h.elim

/-- A row's array. -/
def Rep.arrTo : {α : Type} → Rep α → α → Nat → Option LV
  | _, .slice A, l, n => if 0 < n ∧ n ≤ l.length then some (.eptr (.arr n A) (l.take n) [] 0) else none
  | _, _, _, _ => none
def vArrayAt (C : Ctx) (s : SymSt) (arr : TypeId) (x : Operand) (K : KT) : Prop := match tdOf C arr, ev s x with
  | .arr n _, .l (.own id) => (match getM s.mem id with
    | some (.arr _ l) => 0 < n ∧ n ≤ l.length ∧ K (.one (.l (.ptr id [] 0))) s
    | _ => False)
  | .arr n _, .l (.dat R y) => (match R.slSrc y with
    | some (.mk A l) => 0 < n ∧ n ≤ l.length ∧ K (.one (.l (.eptr (.arr n A) (l.take n) [] 0))) s
    | none => False)
  | _, _ => False
theorem arrayAt_q {arr : TypeId} {x : Operand} (ho : o.op = .sliceToArrayPointer arr x) (h : vArrayAt C s arr x K) : QSound C.P o s K := by
  intro R G γ fr a w hs hm
  unfold vArrayAt at h
  have hx := ev_rel hs x
  split at h
  · rename_i n e id htd he
    have hu : C.P.underlying arr = some (.array n e) := by have := tdOf_fits (C := C) (t := arr) (by rw [htd]; simp); rw [htd] at this; exact this
    rw [he] at hx
    have hv' : a.eval x = γ id := by have h1 := hx; simp only [SV.rel, LV.relV, LV.rel, List.cons.injEq, and_true] at h1; exact h1.1
    split at h
    · rename_i α A l hm'
      obtain ⟨h0, h1, hK⟩ := h
      rcases hm.arr hm' with ⟨rfl, ad, e1⟩ | ⟨b, t2, es, sp, c, e1, _, _, hle, _⟩
      · simp at h1; omega
      · refine ⟨.pointer (some ⟨b, 0, none⟩), _, fun w' _ => ?_, hK, ?_⟩
        · have : ¬ l.length < n := by omega
          simp only [execOp, ho, Instr.arrayAt, Sem.run_bind, run_under hu, Result.andThen_ok, hv', e1, if_neg this, Sem.run_pure]
        · simp [TV.rel, SV.rel, LV.relV, LV.rel, e1, blk, poff]
    · exact h.elim
  · rename_i n e α R0 y htd he
    have hu : C.P.underlying arr = some (.array n e) := by have := tdOf_fits (C := C) (t := arr) (by rw [htd]; simp); rw [htd] at this; exact this
    rw [he] at hx
    split at h
    · rename_i β A l hsrc
      obtain ⟨h0, h1, hK⟩ := h
      obtain ⟨cs, hc, e1⟩ := hx
      obtain ⟨hc', hag⟩ := R0.slSrc_spec hsrc hc
      obtain ⟨ad, cap, rfl, hle, hmx, hn, hd⟩ := (Rep.enc_slice A G l cs).1 hc'
      have hx' : a.eval x = .slice ad l.length cap := by rw [e1]; simp [Rep.mk, hag]
      rcases hd with rfl | ⟨b, p, es, q, t2, f0, rfl, hb, hl⟩
      · simp at h1; omega
      · obtain ⟨p2, e2, q2, rfl, hp2, he2⟩ := cut_enc hl 0 n (by omega)
        have hp0 : p2 = [] := List.length_eq_zero_iff.1 (by simpa using hp2)
        subst hp0
        refine ⟨.pointer (some ⟨b, p.length, none⟩), _, fun w' _ => ?_, hK, ?_⟩
        · have : ¬ l.length < n := by omega
          simp only [execOp, ho, Instr.arrayAt, Sem.run_bind, run_under hu, Result.andThen_ok, hx', if_neg this, Sem.run_pure]
        · refine ⟨b, p, e2, q2 ++ q, t2, f0, rfl, by rw [hb]; simp only [List.nil_append, List.append_assoc], ?_⟩
          exact (Rep.enc_arr n A G _ _).2 ⟨by simp; omega, by simpa using he2⟩
    · exact h.elim
  · exact h.elim
end
end Go.Proofs.Ytnmjcdlgfimnaaa
