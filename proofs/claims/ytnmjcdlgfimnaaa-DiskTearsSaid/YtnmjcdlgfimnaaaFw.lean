/- The walk through code, one operation at a time: what comes behind is a letter, and states stay laid open. -/
import Derived.Test.YtnmjcdlgfimnaaaFp
import Derived.Test.YtnmjcdlgfimnaaaFx
import Derived.Laws.BitsLemmas
import Derived.IntWalk
namespace Go.Proofs.Ytnmjcdlgfimnaaa
section
variable {E : Env} {s : SymSt} {K : KC}

def seqK (E : Env) (y : Code) (K : KC) : KC := fun e s => match e with
  | .normal => vcCode E y s K
  | e => K e s
def blockK (id : Nat) (K : KC) : KC := fun e s => match e with
  | .exit i => bif i == id then K .normal s else K (.exit i) s
  | e => K e s
def regK (K : KC) : SymSt → Prop := fun s => ∃ (ι : Type 1) (S : ι → SymSt), GLeI S s ∧ ∀ i, K .normal (S i)
/-- The walk stops here. -/
def regKS (K : KC) : SymSt → Prop := regK K
def loopK {ι : Type} (ok : ι → Prop) (St : ι → SymSt) (μ : ι → Nat) (i : ι) (K : KC) : KC := fun e s => match e with
  | .normal => ∃ j, ok j ∧ μ j < μ i ∧ GLe (St j) s
  | e => K e s
def finK (C : Ctx) (res : List ResultVar) (Z : List SV → SymSt → Prop) : KC := fun e s => match e with
  | .normal => vRes C s res fun vs => Z vs s
  | .ret => vRes C s res fun vs => Z vs s
  | _ => False

theorem go_skip (h : regK K s) : vcCode E .skip s K := h
theorem go_seq {x y : Code} (h : vcCode E x s (seqK E y K)) : vcCode E (.seq x y) s K := h
theorem go_block {id : Nat} {x : Code} (h : vcCode E x s (blockK id K)) : vcCode E (.block id x) s K := h
theorem go_exit {id : Nat} (h : K (.exit id) s) : vcCode E (.exit id) s K := h
theorem go_label {id : Nat} (h : K .normal s) : vcCode E (.label id) s K := h
theorem go_ret (h : K .ret s) : vcCode E .ret s K := h
theorem go_region {id : Nat} {l : List Oper} (h : vcOps E l l s (regK K)) : vcCode E (.region id l.toArray false) s K := by
  rw [vc_region]; exact h
theorem go_region_stop {id : Nat} {l : List Oper} (h : vcOps E l l s (regKS K)) : vcCode E (.region id l.toArray false) s K := by
  rw [vc_region]; exact h
theorem go_cond {c : Operand} {x y : Code} {b : Bool} (hc : ev s c = .l (.bool b)) (h1 : b = true → vcCode E x s K) (h2 : b = false → vcCode E y s K) : vcCode E (.cond c x y) s K := by
  rw [vc_cond, hc]; exact ⟨h1, h2⟩
theorem go_draw {id : Nat} {l : List Oper} (A late Q : List Nat) (sch : Sch) (hm : E.P.follows .mixedOrders = true) (hok : okSch l.toArray A late sch = true)
    (h : vcA E l Q A s fun s' => vcSch E l late Q sch false s' (regK K)) : vcCode E (.region id l.toArray true) s K := by
  refine ⟨fun h => by simp at h, fun _ => ⟨A, late, Q, sch, hm, hok, ?_⟩⟩
  exact h
theorem go_loop {x : Code} {ι : Type} (ok : ι → Prop) (St : ι → SymSt) (μ : ι → Nat) (i0 : ι) (h0 : ok i0) (hle : Le (St i0) s)
    (h : ∀ i, ok i → vcCode E x (St i) (loopK ok St μ i K)) : vcCode E (.loop x) s K := ⟨ι, ok, St, μ, ⟨i0, h0, .of_le hle⟩, fun i hi _ _ => h i hi⟩
theorem vc_congr {c : Code} {K' : KC} (e : ∀ e s, K e s = K' e s) (h : vcCode E c s K) : vcCode E c s K' := by
  have : K = K' := funext fun a => funext fun b => e a b
  exact this ▸ h

theorem seqK_n {y : Code} (h : vcCode E y s K) : seqK E y K .normal s := h
theorem seqK_x {y : Code} {i : Nat} (h : K (.exit i) s) : seqK E y K (.exit i) s := h
theorem seqK_r {y : Code} (h : K .ret s) : seqK E y K .ret s := h
theorem blockK_n {id : Nat} (h : K .normal s) : blockK id K .normal s := h
theorem blockK_r {id : Nat} (h : K .ret s) : blockK id K .ret s := h
theorem blockK_hit {id : Nat} (h : K .normal s) : blockK id K (.exit id) s := by unfold blockK; simpa using h
theorem blockK_miss {id i : Nat} (hi : Nat.beq i id = false) (h : K (.exit i) s) : blockK id K (.exit i) s := by
  unfold blockK
  have : (i == id) = false := by
    have h1 : ¬ i = id := by
      intro e; subst e; simp at hi
    simpa using h1
  simp only [this, cond_false]; exact h
/-- A row is taken out of its map. -/
theorem regK_open {j m id : Nat} {V : Int → Value} {k : Int} {sl sl1 : List (Nat × TV)} {mem mem1 : List (Nat × Box)} {pins : List Nat} {α : Type} {A : Rep α} {M : Int → List α} (hid : j + 6000 = id) (hg : getM mem m = some (.mpr A M V none)) (hr : (pins.contains id) = false) (hne : m ≠ id)
    (h1 : killSl id sl = sl1) (h2 : (id, Box.arr A (M k)) :: setM (killMem id mem) m (.mpr A M V (some (k, some id))) = mem1)
    (h : K .normal ⟨(j, .one (.l (.view id [] 0 A.size 0 (M k).length))) :: (j, .one (.l (.mrow m V k))) :: sl1, mem1, pins⟩) : regK K ⟨(j, .one (.l (.mrow m V k))) :: sl, mem, pins⟩ := by
  subst h1 h2 hid
  refine ⟨_, _, GLe.one ?_, fun _ => h⟩
  refine ⟨rfl, fun R G γ a w hs => ⟨G, updG γ (j + 6000) (V k), Hp.le_refl G, ?_⟩⟩
  have hs1 := hs.openRow (k := k) (id := j + 6000) hg hr hne
  obtain ⟨fr, hmf⟩ := hs.mem
  obtain ⟨⟨r, es, clock, F, hvm, hmap, hFr, hf, hdis, hrow, _⟩, _, _⟩ := hmf.mpr hg
  have hx := hs.sl j
  have e0 : getS ((j, TV.one (.l (.mrow m V k))) :: sl) j = .one (.l (.mrow m V k)) := by simp [getS]
  rw [e0] at hx
  have hx1 : a.tmps.getD j undef = V k := by have := hx; simp only [TV.rel, SV.rel, LV.relV, LV.rel, List.cons.injEq, and_true] at this; exact this.1
  exact hs1.know (d := j) (tv := .one (.l (.view (j + 6000) [] 0 A.size 0 (M k).length))) (by
    show (LV.view _ _ _ _ _ _).rel G _ [a.tmps.getD j undef]
    rw [hx1]
    rcases hrow k (by simp) with ⟨b, t, es, sp, c, e, _, _, hle, hmx, _⟩ | ⟨e0, ⟨ad, e⟩, _⟩
    · refine ⟨some ⟨b, 0, none⟩, c, hle, hmx, by rw [e], fun _ => ?_, by simp⟩
      rw [updG_same, e]
      simp [blk, poff]
    · refine ⟨ad, 0, by simp [e0], Nat.zero_le _, by rw [e, e0]; rfl, fun h => absurd (by simp [e0]) h, fun _ => rfl⟩)
theorem regK_go (h : K .normal s) : regK K s := ⟨_, _, (GLe.refl s).one, fun _ => h⟩
theorem regK_g (s2 : SymSt) (hg : GLe s2 s) (h : K .normal s2) : regK K s := ⟨_, _, hg.one, fun _ => h⟩
theorem regKS_go (h : K .normal s) : regKS K s := regK_go h
theorem regKS_open (h : regK K s) : regKS K s := h
section
variable {ι : Type} {ok : ι → Prop} {St : ι → SymSt} {μ : ι → Nat} {i : ι}
theorem loopK_n (j : ι) (h : ok j) (hm : μ j < μ i) (hl : Le (St j) s) : loopK ok St μ i K .normal s := ⟨j, h, hm, .of_le hl⟩
theorem loopK_g (j : ι) (s2 : SymSt) (h : ok j) (hm : μ j < μ i) (hl : Le (St j) s2) (hg : GLe s2 s) : loopK ok St μ i K .normal s := ⟨j, h, hm, (GLe.of_le hl).trans hg⟩
theorem loopK_x {e : Nat} (h : K (.exit e) s) : loopK ok St μ i K (.exit e) s := h
theorem loopK_r (h : K .ret s) : loopK ok St μ i K .ret s := h
end
section
variable {C : Ctx} {res : List ResultVar} {Z : List SV → SymSt → Prop}
theorem vres_go {f : List SV → Prop} (h : vRes C s res f) : vRes C s res f := h
theorem finK_n (h : vRes C s res fun vs => Z vs s) : finK C res Z .normal s := h
theorem finK_r (h : vRes C s res fun vs => Z vs s) : finK C res Z .ret s := h
end

/-- A number that lies in its kind's bounds. -/
theorem ops_in {ops r : List Oper} {Q : SymSt → Prop} {d : Nat} {k : IntKind} {n : Int} {sl : List (Nat × TV)} {mem : List (Nat × Box)} {pins : List Nat} (h : k.wrap n = n)
    (hv : vcOps E ops r ⟨(d, .one (.l (.int k n))) :: sl, mem, pins⟩ Q) : vcOps E ops r ⟨(d, .one (.l (.int k (k.wrap n)))) :: sl, mem, pins⟩ Q := by rw [h]; exact hv
theorem w_i64 (n : Int) (h0 : -9223372036854775808 ≤ n) (h1 : n ≤ 9223372036854775807) : IntKind.i64.wrap n = n := IntWalk.i64_in n ⟨h0, h1⟩
theorem w_u8 (n : Int) (h0 : 0 ≤ n) (h1 : n ≤ 255) : IntKind.u8.wrap n = n := IntWalk.u8_in n ⟨h0, h1⟩
theorem w_u32 (n : Int) (h0 : 0 ≤ n) (h1 : n ≤ 4294967295) : IntKind.u32.wrap n = n := IntWalk.u32_in n ⟨h0, h1⟩
theorem w_u64 (n : Int) (h0 : 0 ≤ n) (h1 : n ≤ 18446744073709551615) : IntKind.u64.wrap n = n := IntWalk.u64_in n ⟨h0, h1⟩

/-! Regions that draw their order. -/
section
variable {ops : List Oper} {late Q r : List Nat} {i d : Nat} {o : Oper} {x y : Sch} {e : Bool} {sl : List (Nat × TV)} {mem : List (Nat × Box)} {pins : List Nat} {Z : SymSt → Prop}
theorem goA_put (hi : ops[i]? = some o) (hg : o.guard = none) (hd : o.dst = some d)
    (h : ∀ K' : KT, (∀ tv s', vcA E ops Q r ⟨(d, tv) :: sl, mem, pins⟩ Z → K' tv s') → vqVal E.toCtx o ⟨sl, keepM Q mem, pins⟩ K') : vcA E ops Q (i :: r) ⟨sl, mem, pins⟩ Z :=
  A_put hi hg hd h
theorem goA_gb {j d' : Nat} {want b : Bool} (hi : ops[i]? = some o) (hg : o.guard = some (j, want)) (hj : (ops[j]?).bind (·.dst) = some d') (hd : o.dst = some d) (hs : getS sl d' = .one (.l (.bool b)))
    (h1 : b = want → ∀ K' : KT, (∀ tv s', vcA E ops Q r ⟨(d, tv) :: (d', .one (.l (.bool want))) :: sl, mem, pins⟩ Z → K' tv s') → vqVal E.toCtx o ⟨(d', .one (.l (.bool want))) :: sl, keepM Q mem, pins⟩ K')
    (h2 : b = !want → vcA E ops Q r ⟨(d, .tup []) :: (d', .one (.l (.bool (!want)))) :: sl, mem, pins⟩ Z) : vcA E ops Q (i :: r) ⟨sl, mem, pins⟩ Z := by
  unfold vcA vGuard
  rw [hi]
  simp only [hg, hj, hs]
  refine ⟨fun e => h1 e _ fun tv s' h => ?_, fun e => ?_⟩
  · rw [hd]; exact h
  · rw [hd]; exact h2 e
theorem goA_gt {j d' : Nat} {want : Bool} (hi : ops[i]? = some o) (hg : o.guard = some (j, want)) (hj : (ops[j]?).bind (·.dst) = some d') (hd : o.dst = some d) (hs : getS sl d' = .tup [])
    (h : vcA E ops Q r ⟨(d, .tup []) :: sl, mem, pins⟩ Z) : vcA E ops Q (i :: r) ⟨sl, mem, pins⟩ Z := by
  unfold vcA vGuard
  rw [hi]
  simp only [hg, hj, hs]
  rw [hd]; exact h
theorem goA_nil (h : Z s) : vcA E ops Q [] s Z := h
theorem goS_done (h : Z s) : vcSch E ops late Q .done e s Z := h
theorem goS_stop : vcSch E ops late Q .stop e s Z := trivial
theorem goS_free (hi : ops[i]? = some o) (hg : o.guard = none) (hd : o.dst = some d)
    (h : ∀ K' : KT, (∀ tv s', vcSch E ops late Q x e ⟨(d, tv) :: sl, mem, pins⟩ Z → K' tv s') → vqVal E.toCtx o ⟨sl, mem, pins⟩ K') : vcSch E ops late Q (.free i x) e ⟨sl, mem, pins⟩ Z := by
  unfold vcSch vGuard
  rw [hi]
  simp only [hg]
  refine h _ fun tv s' h => ?_
  rw [hd]; exact h
theorem goS_late (hi : ops[i]? = some o) (hg : o.guard = none) (hd : o.dst = some d) (he : (e || late.contains i) = true) (h2 : vcSch E ops late Q y e s Z)
    (h : ∀ K' : KT, (∀ tv sl mem pins, vcSch E ops late Q x true ⟨(d, tv) :: sl, mem, pins⟩ Z → K' tv ⟨sl, mem, pins⟩) → vcVal E o s K') : vcSch E ops late Q (.or i x y) e s Z := by
  unfold vcSch vGuard
  rw [hi]
  simp only [hg, he, cond_true]
  refine ⟨h _ fun tv sl mem pins h => ?_, h2⟩
  rw [hd]; exact h
theorem goS_late' (hi : ops[i]? = some o) (hg : o.guard = none) (hd : o.dst = none) (he : (e || late.contains i) = true) (h2 : vcSch E ops late Q y e s Z)
    (h : ∀ K' : KT, (∀ tv s', vcSch E ops late Q x true s' Z → K' tv s') → vcVal E o s K') : vcSch E ops late Q (.or i x y) e s Z := by
  unfold vcSch vGuard
  rw [hi]
  simp only [hg, he, cond_true]
  refine ⟨h _ fun tv s' h => ?_, h2⟩
  rw [hd]; exact h
theorem goS_hid (hi : ops[i]? = some o) (hg : o.guard = none) (hd : o.dst = some d) (he : (e || late.contains i) = false) (h2 : vcSch E ops late Q y e ⟨sl, mem, pins⟩ Z)
    (h : ∀ K' : KT, (∀ tv sl' mem' pins' m2, backOk Q mem' = true → mem' ++ keepM Q mem = m2 → vcSch E ops late Q x false ⟨(d, tv) :: sl', m2, pins⟩ Z → K' tv ⟨sl', mem', pins'⟩) → vcVal E o (SymSt.hide ⟨sl, mem, pins⟩ Q) K') : vcSch E ops late Q (.or i x y) e ⟨sl, mem, pins⟩ Z := by
  unfold vcSch vGuard
  rw [hi]
  simp only [hg, he, cond_false]
  refine ⟨h _ fun tv sl' mem' pins' m2 hb hm h => ?_, h2⟩
  subst hm
  rw [hd]; exact ⟨hb, h⟩
end

/-! Guarded operations. -/
theorem ops_gb {ops r : List Oper} {o : Oper} {j d d' : Nat} {want b : Bool} {sl : List (Nat × TV)} {mem : List (Nat × Box)} {pins : List Nat} {Z : SymSt → Prop} (hg : o.guard = some (j, want)) (hj : (ops[j]?).bind (·.dst) = some d') (hd : o.dst = some d) (hs : getS sl d' = .one (.l (.bool b)))
    (h1 : b = want → ∀ K' : KT, (∀ tv sl mem pins, vcOps E ops r ⟨(d, tv) :: sl, mem, pins⟩ Z → K' tv ⟨sl, mem, pins⟩) → vcVal E o ⟨(d', .one (.l (.bool want))) :: sl, mem, pins⟩ K')
    (h2 : b = !want → vcOps E ops r ⟨(d, .tup []) :: (d', .one (.l (.bool (!want)))) :: sl, mem, pins⟩ Z) : vcOps E ops (o :: r) ⟨sl, mem, pins⟩ Z := by
  unfold vcOps
  simp only [hg, hj, hs]
  refine ⟨fun e => h1 e _ fun tv sl mem pins h => ?_, fun e => ?_⟩
  · rw [hd]; exact h
  · rw [hd]; exact h2 e
theorem ops_gt {ops r : List Oper} {o : Oper} {j d d' : Nat} {want : Bool} {sl : List (Nat × TV)} {mem : List (Nat × Box)} {pins : List Nat} {Z : SymSt → Prop} (hg : o.guard = some (j, want)) (hj : (ops[j]?).bind (·.dst) = some d') (hd : o.dst = some d) (hs : getS sl d' = .tup [])
    (h : vcOps E ops r ⟨(d, .tup []) :: sl, mem, pins⟩ Z) : vcOps E ops (o :: r) ⟨sl, mem, pins⟩ Z := by
  unfold vcOps
  simp only [hg, hj, hs]
  rw [hd]; exact h
end

theorem Pure.go {E : Env} {f : FuncId} {fn : Func} {args rets : List LV} {body : Code} {res : List ResultVar} (hf : E.P.funcs[f]? = some fn) (hi : IsFn E.P f) (hb : fn.body = some body) (hres : fn.results.toList = res) (hr : noIds rets = true)
    (hfit : codeFits fn.ntmps body = true) (hlen : Nat.ble args.length fn.ntmps = true)
    (h : vcCode E body ⟨parSl 0 (args.map .l), [], []⟩ (finK E.toCtx res fun vs s => RetsOk ((tvOf vs).list.map (SV.frz s.mem)) rets)) : Pure E.P f args rets := by
  refine Pure.of' hf hi hb hres hr hfit hlen ?_
  exact vc_congr (fun e s => by cases e <;> rfl) h
theorem Spec.go {ι : Type 1} {E : Env} {f : FuncId} {fn : Func} {args : List SV} {mem mem' : List (Nat × Box)} {rets : List LV} {body : Code} {res : List ResultVar} (mx : ι → List (Nat × Box)) (hop : Opens mem mx) (hf : E.P.funcs[f]? = some fn) (hi : IsFn E.P f) (hb : fn.body = some body) (hres : fn.results.toList = res)
    (hargs : ∀ i ∈ idsV args, i < 5000) (hlow : ∀ i ∈ idsM mem, i < 5000) (hfit : codeFits fn.ntmps body = true) (hlen : Nat.ble args.length fn.ntmps = true)
    (h : ∀ i, vcCode E body ⟨parSl 0 args, mx i, idsM mem⟩ (finK E.toCtx res fun vs s => Fin rets mem' (tvOf vs) s)) : Spec E.P f args mem (tvL rets) mem' := by
  refine Spec.of' mx hop hargs hlow hf hi hb hres hfit hlen fun i => ?_
  exact vc_congr (fun e s => by cases e <;> rfl) (h i)
attribute [push_cast] con1 rmsM isZeroC isNoneO vLookup vLen2 vSlice2 vAppend2 vMakeMap vMapUpdate SymSt.openR vcDraw vcA vcSch vGuard vcVal vqVal vPick vAlloc vBox vLoad vStore vNilCheck vFieldAddr vField vExtract intBin vBin2 vBin3 eqKt vUn vIndexAddr vConvert vConvert2 vCall vRes vMM vMinMax vLen vIndex vBuild vFill vSlice arrP vSrc vMakeFunc capsOf vArrayAt vFrz vFrz2 packL vBuildSlice vMakeSlice slAs vApSrc vAppend conF conN asArgs rdP wrP wrS asR asRL datAs Rep.setElem LV.setElem ct_with ct_env RetsOk RetOk1 fieldOf isPtr getS getM setM killSl killMem LV.hasId LV.kill SV.kill TV.kill Box.kill SymSt.add SymSt.put SymSt.putO SymSt.setBox ev evT cstV TV.sv dstOf tdOf TD.agg isConst svOk SV.leaves rdS seek seekA takeN LV.size sizeL LV.isAgg LV.arrOf LV.isArr LV.elemLV LV.explode Rep.size Rep.agg Rep.scalar Rep.leaf Rep.explode Rep.arrOf Rep.elemLV Rep.slOf Rep.slPtr Rep.zero TV.list SV.frz LV.frz SV.isAgg tvOf parSl tvL ty_with ty_env Rep.slLen isBytes Rep.u8 lenLV placeOf allKnown svOf bndI Rep.slSrc Rep.arrSrc LV.arrSrc SymSt.freeze frzSl frzMem LV.frzI LV.isOwn SV.frzI TV.frzI Box.frzI LV.owns ownsL ownsO ownsV SymSt.rm rmM SymSt.room SymSt.hide SymSt.unhide hideM keepM memIds backOk Box.ids idsL LV.ids Rep.argL LeS LeM Le idsM
attribute [push_cast] if_true if_false ite_true ite_false Bool.and_true Bool.true_and Bool.and_false Bool.false_and Bool.or_true Bool.or_false Bool.true_or Bool.false_or Bool.not_true Bool.not_false decide_true decide_false true_and and_true false_and and_false true_implies forall_const implies_true eq_self heq_eq_eq exists_const cast_eq List.map_cons List.map_nil List.cons_append List.nil_append List.append_nil List.toList_toArray Option.bind_some Option.bind_none Option.getD_some Option.getD_none Option.map_some List.getElem?_cons_zero List.getElem?_cons_succ List.getElem?_nil beq_self_eq_true List.any_nil List.any_cons List.contains_nil List.contains_cons exists_prop exists_eq_left exists_eq_left' SV.l.injEq SV.agg.injEq LV.int.injEq LV.bool.injEq LV.str.injEq List.cons.injEq TV.one.injEq TV.tup.injEq Option.isSome_some Option.isSome_none List.length_cons List.length_nil List.length_replicate List.length_set List.length_append List.replicate_zero Option.some.injEq Box.segs.injEq Box.arr.injEq Box.obj.injEq LV.dat.injEq LV.ptr.injEq LV.own.injEq decide_eq_true_eq decide_eq_false_iff_not Int.ofNat_zero ne_eq not_false_eq_true not_true_eq_false Nat.add_zero Nat.zero_add List.nodup_cons List.mem_cons List.not_mem_nil or_false or_self List.nodup_nil Int.toNat_natCast List.flatMap_cons List.flatMap_nil
/-- What names nothing beyond 5000. -/
def LV.low (x : LV) : LV := bif x.ids.all fun i => decide (i < 5000) then x else .undef
def SV.low : SV → SV
  | .l x => .l x.low
  | .agg xs => .agg (xs.map LV.low)
def TV.low : TV → TV
  | .one x => .one x.low
  | .tup xs => .tup (xs.map SV.low)
def lowSl : List (Nat × TV) → List (Nat × TV)
  | [] => []
  | (j, v) :: r => (j, v.low) :: lowSl r
theorem LV.low_rel {G : Hp} {γ γ' : Nat → Value} (hγ : ∀ i, i < 5000 → γ' i = γ i) {x : LV} {cs : List Value} (h : x.rel G γ cs) (h1 : cs.length = 1 ∨ x.ids = []) : x.low.rel G γ' cs := by
  unfold LV.low
  cases hb : x.ids.all fun i => decide (i < 5000)
  · rcases h1 with h1 | h1
    · match cs, h1 with
      | [c], _ => exact ⟨c, rfl, LV.rel_plain h c (by simp)⟩
    · rw [h1] at hb; simp at hb
  · refine LV.rel_congr (fun i hi => hγ i ?_) h
    simp only [List.all_eq_true] at hb
    have := hb i hi
    simpa using this
theorem LV.ids_one {x : LV} (h : x.ids ≠ []) : x.size = 1 := by cases x <;> simp_all [LV.ids, LV.size]
theorem RelL.low {G : Hp} {γ γ' : Nat → Value} (hγ : ∀ i, i < 5000 → γ' i = γ i) : ∀ {l : List LV} {cs : List Value}, RelL G γ l cs → RelL G γ' (l.map LV.low) cs
  | [], _, h => h
  | x :: _, _, ⟨c, d, e, hx, hl⟩ => ⟨c, d, e, LV.low_rel hγ hx (by
      by_cases h : x.ids = []
      · exact .inr h
      · exact .inl (by rw [LV.rel_length hx, LV.ids_one h])), RelL.low hγ hl⟩
theorem LV.low_relV {G : Hp} {γ γ' : Nat → Value} (hγ : ∀ i, i < 5000 → γ' i = γ i) {x : LV} {v : Value} (h : x.relV G γ v) : x.low.relV G γ' v := by
  unfold LV.low
  cases hb : x.ids.all fun i => decide (i < 5000)
  · trivial
  · refine LV.relV_congr (fun i hi => hγ i ?_) h
    simp only [List.all_eq_true] at hb
    have := hb i hi
    simpa using this
theorem SV.low_rel {G : Hp} {γ γ' : Nat → Value} (hγ : ∀ i, i < 5000 → γ' i = γ i) {x : SV} {v : Value} (h : x.rel G γ v) : x.low.rel G γ' v := by
  cases x with
  | l x => exact LV.low_relV hγ h
  | agg xs => obtain ⟨cs, hc, e⟩ := h; exact ⟨cs, hc.low hγ, e⟩
theorem RelV.low {G : Hp} {γ γ' : Nat → Value} (hγ : ∀ i, i < 5000 → γ' i = γ i) : ∀ {xs : List SV} {vs : List Value}, RelV G γ xs vs → RelV G γ' (xs.map SV.low) vs
  | [], _, h => h
  | _ :: _, _, ⟨v, r, e, hx, hr⟩ => ⟨v, r, e, SV.low_rel hγ hx, RelV.low hγ hr⟩
theorem TV.low_rel {G : Hp} {γ γ' : Nat → Value} (hγ : ∀ i, i < 5000 → γ' i = γ i) {x : TV} {v : Value} (h : x.rel G γ v) : x.low.rel G γ' v := by
  cases x with
  | one x => exact SV.low_rel hγ h
  | tup xs => obtain ⟨vs, hv, e⟩ := h; exact ⟨vs, hv.low hγ, e⟩
theorem getS_low : ∀ (sl : List (Nat × TV)) (i : Nat), getS (lowSl sl) i = (getS sl i).low
  | [], _ => rfl
  | (j, v) :: r, i => by
    unfold lowSl getS
    cases h : (j == i)
    · exact getS_low r i
    · rfl
/-- Things laid open in the middle of a walk. -/
theorem regK_opens {K : KC} {ι : Type 1} {sl sl1 : List (Nat × TV)} {mem mem1 : List (Nat × Box)} {pins : List Nat} (mx : ι → List (Nat × Box)) (hop : Opens mem1 mx) (hcl : Closes mem mem1) (hp : ∀ i ∈ pins, i < 5000) (hs : lowSl sl = sl1) (h : ∀ i, K .normal ⟨sl1, mx i, pins⟩) : regK K ⟨sl, mem, pins⟩ := by
  subst hs
  refine ⟨ι, fun i => ⟨lowSl sl, mx i, pins⟩, ?_, h⟩
  intro R G γ a w hpin hs
  have hpin5 : ∀ j, 5000 ≤ j → R.pin j = none := fun j hj => hpin j fun h => by have := hp j h; omega
  obtain ⟨γ1, hγ1, hm1⟩ := hcl R G γ w hpin5 hs.mem
  obtain ⟨i, γ2, hγ2, hm2⟩ := hop R G γ1 w hpin5 hm1
  refine ⟨i, G, γ2, Hp.le_refl G, fun j => ?_, hm2, hs.df, hs.pn⟩
  rw [getS_low]
  exact TV.low_rel (fun j hj => (hγ2 j hj).trans (hγ1 j hj)) (hs.sl j)
attribute [push_cast] List.all_cons List.all_nil LV.low SV.low TV.low lowSl
attribute [push_cast] cond_true cond_false fitsB
attribute [irreducible] seqK blockK regK regKS loopK finK
end Go.Proofs.Ytnmjcdlgfimnaaa
