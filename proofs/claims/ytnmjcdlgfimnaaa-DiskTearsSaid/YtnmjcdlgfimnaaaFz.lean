/- The walk's rules, second edition: calls by contracts; loops told by what they turn. -/
import Derived.Test.YtnmjcdlgfimnaaaFw
namespace Go.Proofs.Ytnmjcdlgfimnaaa
theorem factsL_tv {G : Hp} {γ : Nat → Value} {l : List LV} {v : Value} (h : (tvL l).rel G γ v) : factsL l := by
  match l, h with
  | [], _ => trivial
  | [r], h => exact ⟨LV.fact_ofV h, trivial⟩
  | x :: y :: r, h =>
    obtain ⟨vs, hv, _⟩ := h
    exact factsL_ofV hv
/-! Functions of data. -/
theorem Pure.go2 {E : Env} {f : FuncId} {fn : Func} {args rets : List LV} {body : Code} {res : List ResultVar} (hf : E.P.funcs[f]? = some fn) (hi : IsFn E.P f) (hb : fn.body = some body) (hres : fn.results.toList = res) (hr : noIds rets = true)
    (hfit : codeFits fn.ntmps body = true) (hlen : Nat.ble args.length fn.ntmps = true)
    (h : factsL args → vcCode E body ⟨parSl 0 (args.map .l), [], []⟩ (finK E.toCtx res fun vs s => RetsOk ((tvOf vs).list.map (SV.frz s.mem)) rets)) : Pure E.P f args rets := by
  refine ⟨hi, fun R G w vs hok hv => ?_⟩
  exact (Pure.go hf hi hb hres hr hfit hlen (h (factsL_ofV hv))).2 R G w vs hok hv
/-- A contract, for calls. -/
structure Con (P : Program) (f : FuncId) {α : Type} (A : Rep α) (pre : α → Prop) (r : α → List LV) : Prop where
  fn : IsFn P f
  h : ∀ x, pre x → Pure P f (A.argL x) (r x)
/-- Its results lead to no memory: what is the caller's own is lent. -/
theorem call_F {P : Program} {f : FuncId} {α : Type} {A : Rep α} {pre : α → Prop} {r : α → List LV} (c : Con P f A pre r) (hr : ∀ x, (r x).all LV.flat = true) {vs0 : List SV} {s : SymSt} {K : KT}
    (hc : asArgs A (vs0.map (SV.frz s.mem)) fun x => pre x ∧ (factsL (r x) → K (tvL (r x)) s)) : Wc P f vs0 s K := by
  refine ⟨c.fn, ?_⟩
  intro R G γ a w vs hs hv
  obtain ⟨fr, hm⟩ := hs.mem
  obtain ⟨hok, hback⟩ := lend hm
  obtain ⟨hok3, hle⟩ := hm.ok.freezeAll hm.nd
  obtain ⟨x, ⟨hpre, hK⟩, hx⟩ := asArgs_rel A hc (hv.frz hm.at' (unionG_le (idsM s.mem)) hle)
  have hx' : RelV (unionG G fr (idsM s.mem)) (fun _ => undef) ((A.argL x).map .l) vs := hx.congr (by rw [idsV_map (A.argL_noIds x)]; simp)
  refine ((c.h x hpre).2 R _ w vs hok hx').mono ?_
  rintro e w' ⟨v, G', rfl, hg, hrel, hok'⟩
  obtain ⟨G2, hg2, hm2⟩ := hback hg hok'
  exact ⟨v, rfl, G2, γ, _, s, hg2, hK (factsL_tv hrel), tvL_flat (hr x) hrel G2 γ, hs.grow hg2 hm2⟩
/-- Its results may share memory with what it is handed: that is frozen. -/
theorem call_N {P : Program} {f : FuncId} {α : Type} {A : Rep α} {pre : α → Prop} {r : α → List LV} (c : Con P f A pre r) (hr : ∀ x, noIds (r x) = true) {vs0 : List SV} {s : SymSt} {K : KT}
    (hc : vFrz2 (ownsV vs0) s vs0 fun s' as' => asArgs A as' fun x => pre x ∧ (factsL (r x) → K (tvL (r x)) s')) : Wc P f vs0 s K := by
  refine ⟨c.fn, ?_⟩
  intro R G γ a w vs hs hv
  obtain ⟨G1, s1, as1, hg1, hc, hs1, hv1⟩ := vFrz2_spec hc hs hv
  obtain ⟨x, ⟨hpre, hK⟩, hx⟩ := asArgs_rel A hc hv1
  obtain ⟨R', hok, hback⟩ := frame_call hs1.mem
  have hx' : RelV G1 (fun _ => undef) ((A.argL x).map .l) vs := hx.congr (by rw [idsV_map (A.argL_noIds x)]; simp)
  refine ((c.h x hpre).2 R' G1 w vs hok hx').mono ?_
  rintro e w' ⟨v, G', rfl, hg, hrel, hok'⟩
  exact ⟨v, rfl, G', γ, _, s1, Hp.le_trans hg1 hg, hK (factsL_tv hrel), TV.rel_congr (by rw [tvL_ids (hr x)]; simp) hrel, hs1.grow hg (hback hg hok')⟩

/-! Less is told, structs laid open or not. -/
theorem Rep.explode_inv : {α : Type} → (R : Rep α) → {G : Hp} → (γ : Nat → Value) → {x : α} → {cs : List Value} → RelL G γ (R.explode x) cs → R.enc G x cs
  | _, .pair A B, G, γ, x, cs, h => by
    obtain ⟨c, d, e, h1, h2⟩ := h
    exact (enc_pair A B G x cs).2 ⟨c, d, e, (A.leaf_rel G γ _ _).1 h1, B.explode_inv γ h2⟩
  | _, .unit, _, _, _, _, h => h
  | _, .iso A to of h1 h2, G, γ, y, cs, h => (enc_iso A to of h1 h2 G y cs).2 (A.explode_inv γ h)
  | _, .int _, _, _, _, _, h => RelL.one_inv h
  | _, .bool, _, _, _, _, h => RelL.one_inv h
  | _, .str, _, _, _, _, h => RelL.one_inv h
  | _, .arr _ _, _, _, _, _, h => RelL.one_inv h
  | _, .slice _, _, _, _, _, h => RelL.one_inv h
theorem LV.explode_iff {G : Hp} {γ : Nat → Value} {x : LV} {cs : List Value} : RelL G γ x.explode cs ↔ x.rel G γ cs := by
  cases x
  case dat R x => exact ⟨R.explode_inv γ, R.explode_rel γ⟩
  all_goals exact ⟨RelL.one_inv, RelL.one⟩
def exL : List LV → List LV
  | [] => []
  | x :: r => x.explode ++ exL r
theorem exL_iff {G : Hp} {γ : Nat → Value} : ∀ {l : List LV} {cs : List Value}, RelL G γ (exL l) cs ↔ RelL G γ l cs
  | [], _ => Iff.rfl
  | x :: r, cs => by
    unfold exL
    constructor
    · intro h
      obtain ⟨c, d, e, h1, h2⟩ := RelL.append_inv h
      exact ⟨c, d, e, LV.explode_iff.1 h1, exL_iff.1 h2⟩
    · rintro ⟨c, d, rfl, h1, h2⟩
      exact RelL.append (LV.explode_iff.2 h1) (exL_iff.2 h2)
def Box.ex : Box → Box
  | .segs l => .segs (exL l)
  | b => b
theorem Box.ex_at {G : Hp} {γ : Nat → Value} {b : Box} {v : Value} {f : Hp} : b.ex.at G γ v f ↔ b.at G γ v f := by
  cases b with
  | segs l =>
    constructor
    · rintro ⟨b, t, cs, e, ef, hl⟩; exact ⟨b, t, cs, e, ef, exL_iff.1 hl⟩
    · rintro ⟨b, t, cs, e, ef, hl⟩; exact ⟨b, t, cs, e, ef, exL_iff.2 hl⟩
  | _ => exact Iff.rfl
def LeM2 : List (Nat × Box) → List (Nat × Box) → Prop
  | [], _ => True
  | (i, b) :: r, mem => (getM mem i).map Box.ex = some b.ex ∧ LeM2 r mem
def Le2 (s1 s : SymSt) : Prop := LeS s1.sl s.sl ∧ LeM2 s1.mem s.mem ∧ (idsM s1.mem).Nodup ∧ s1.pins = s.pins
theorem LeM2.mem : ∀ {l mem : List (Nat × Box)}, LeM2 l mem → ∀ e ∈ l, ∃ b, (e.1, b) ∈ mem ∧ b.ex = e.2.ex
  | [], _, _, _, h => by simp at h
  | (i, b) :: r, mem, h, e, he => by
    rcases List.mem_cons.1 he with rfl | he
    · obtain ⟨b', h1, h2⟩ := Option.map_eq_some_iff.1 h.1
      exact ⟨b', getM_mem h1, h2⟩
    · exact LeM2.mem h.2 e he
theorem Simm.le2 {R : Fr} {G : Hp} {γ : Nat → Value} {s s1 : SymSt} {a : Act} {w : World} (h : Simm R G γ s a w) (hl : Le2 s1 s) : Simm R G γ s1 a w := by
  refine ⟨?_, ?_, h.df, hl.2.2.2 ▸ h.pn⟩
  · intro i
    rcases hl.1.get i with e | e
    · rw [e]; exact h.sl i
    · rw [e]; trivial
  · obtain ⟨fr, _, hp, hb, hok⟩ := h.mem
    refine ⟨fr, hl.2.2.1, hp, fun e he => ?_, hok.sub fun i hi => ?_⟩
    · obtain ⟨b, h1, h2⟩ := hl.2.1.mem e he
      have := hb _ h1
      exact Box.ex_at.1 (h2 ▸ Box.ex_at.2 this)
    · obtain ⟨e, he, rfl⟩ := List.mem_map.1 hi
      obtain ⟨b, h1, _⟩ := hl.2.1.mem e he
      exact List.mem_map.2 ⟨_, h1, rfl⟩
theorem GLe.of_le2 {s1 s : SymSt} (h : Le2 s1 s) : GLe s1 s := ⟨h.2.2.2, fun _ G γ _ _ hs => ⟨G, γ, Hp.le_refl G, hs.le2 h⟩⟩
/-! Loops, told by what they turn. -/
/-- Slots that are not named; of each slot what it holds now. -/
def hasN : List Nat → Nat → Bool
  | [], _ => false
  | a :: r, j => bif a == j then true else hasN r j
def dropW : List Nat → List (Nat × TV) → List (Nat × TV)
  | _, [] => []
  | W, (j, v) :: r => match hasN W j with
    | true => dropW W r
    | false => (j, v) :: dropW (j :: W) r
def dropM : List Nat → List (Nat × Box) → List (Nat × Box)
  | _, [] => []
  | W, (j, v) :: r => match hasN W j with
    | true => dropM W r
    | false => (j, v) :: dropM W r
section
variable {E : Env} {K : KC} {sl sl1 : List (Nat × TV)} {mem mem1 : List (Nat × Box)} {pins : List Nat}
/-- What the slots of a list hold in a state. -/
def factsAt : List (Nat × TV) → List (Nat × TV) → Prop
  | [], _ => True
  | (j, _) :: r, sl => (getS sl j).fact ∧ factsAt r sl
theorem factsAt_of {sl : List (Nat × TV)} (h : ∀ j, (getS sl j).fact) : ∀ l : List (Nat × TV), factsAt l sl
  | [] => trivial
  | (j, _) :: r => ⟨h j, factsAt_of h r⟩
/-- A loop: W, M: the slots and blocks that it turns; what those that count hold in each round. -/
theorem go_loop2 {x : Code} {ι : Type} (W M : List Nat) (ok : ι → Prop) (ch : ι → List (Nat × TV)) (cm : ι → List (Nat × Box)) (μ : ι → Nat) (i0 : ι) (h0 : ok i0)
    (hsl : dropW W sl = sl1) (hmem : dropM M mem = mem1) (hle : Le2 ⟨ch i0 ++ sl1, cm i0 ++ mem1, pins⟩ ⟨sl, mem, pins⟩)
    (h : ∀ i, ok i → factsAt (ch i) (ch i ++ sl1) ∧ factsM (cm i ++ mem1) → vcCode E x ⟨ch i ++ sl1, cm i ++ mem1, pins⟩ (loopK ok (fun i => ⟨ch i ++ sl1, cm i ++ mem1, pins⟩) μ i K)) : vcCode E (.loop x) ⟨sl, mem, pins⟩ K := by
  subst hsl hmem
  exact ⟨ι, ok, fun i => ⟨ch i ++ dropW W sl, cm i ++ dropM M mem, pins⟩, μ, ⟨i0, h0, .of_le2 hle⟩, fun i hi h1 h2 => by
    have := h i hi ⟨factsAt_of h1 _, h2⟩
    unfold loopK at this
    exact this⟩
/-- Ways that come together. -/
theorem go_join {c y : Code} {ι : Type} (W M : List Nat) (ok : ι → Prop) (ch : ι → List (Nat × TV)) (cm : ι → List (Nat × Box)) (hsl : dropW W sl = sl1) (hmem : dropM M mem = mem1)
    (hc : ∀ K' : KC, (∀ j s', ok j → Le2 ⟨ch j ++ sl1, cm j ++ mem1, pins⟩ s' → regK K' s') → (∀ e s', e ≠ .normal → K e s' → K' e s') → vcCode E c ⟨sl, mem, pins⟩ K')
    (hy : ∀ j, ok j → vcCode E y ⟨ch j ++ sl1, cm j ++ mem1, pins⟩ K) : vcCode E (.seq c y) ⟨sl, mem, pins⟩ K := by
  subst hsl hmem
  refine go_seq (hc _ (fun j s' hj hl => regK_g _ (.of_le2 hl) (seqK_n (hy j hj))) fun e s' he hk => ?_)
  cases e with
  | normal => exact absurd rfl he
  | _ => unfold seqK; exact hk
end
theorem loopK_m {ι : Type} {ok : ι → Prop} {St : ι → SymSt} {μ : ι → Nat} {i : ι} {K : KC} {s : SymSt} (j : ι) (h : ok j) (hm : μ j < μ i) (hl : Le2 (St j) s) : loopK ok St μ i K .normal s := by
  unfold loopK
  exact ⟨j, h, hm, .of_le2 hl⟩
/-! Functions with memory. -/
/-- What stands behind a function, structs laid open or not. -/
def Fin2 (rets : List LV) (mem' : List (Nat × Box)) (tv : TV) (s : SymSt) : Prop :=
  ∃ mx, RetsOk (tv.list.map (SV.frz (rmsM (idsM mx) s.mem))) rets ∧ LeM2 mx s.mem ∧ (idsM mx).Nodup ∧ Closes mx mem' ∧ ∀ i ∈ (tvL rets).ids, i < 5000
theorem Fin2.fin {rets : List LV} {mem' : List (Nat × Box)} {tv : TV} {s : SymSt} (h : Fin2 rets mem' tv s) : Fin rets mem' tv s := by
  obtain ⟨mx, h1, h2, h3, h4, h5⟩ := h
  let g : Nat × Box → Nat × Box := fun e => (e.1, (getM s.mem e.1).getD e.2)
  have hids : idsM (mx.map g) = idsM mx := by simp [idsM, g, Function.comp_def]
  have key : ∀ l : List (Nat × Box), LeM2 l s.mem → LeM (l.map g) s.mem ∧ ∀ e ∈ l, (g e).2.ex = e.2.ex := by
    intro l
    induction l with
    | nil => intro _; exact ⟨trivial, by simp⟩
    | cons e r ih =>
      intro h
      obtain ⟨b, hb⟩ := e
      obtain ⟨hx, hr⟩ := h
      obtain ⟨b', hb1, hb2⟩ := Option.map_eq_some_iff.1 hx
      obtain ⟨i1, i2⟩ := ih hr
      refine ⟨⟨by simp [g, hb1], i1⟩, ?_⟩
      intro e he
      rcases List.mem_cons.1 he with rfl | he
      · simp [g, hb1, hb2]
      · exact i2 e he
  obtain ⟨k1, k2⟩ := key mx h2
  refine ⟨mx.map g, by rw [hids]; exact h1, k1, by rw [hids]; exact h3, Closes.trans ?_ h4, h5⟩
  intro R G γ w _ hm
  refine ⟨γ, fun _ _ => rfl, ?_⟩
  obtain ⟨fr, hn, hp, hb, hok⟩ := hm
  refine ⟨fr, h3, hp, fun e he => ?_, hids ▸ hok⟩
  have := hb (g e) (List.mem_map.2 ⟨e, he, rfl⟩)
  exact Box.ex_at.1 (k2 e he ▸ Box.ex_at.2 this)
def factsV : List SV → Prop
  | [] => True
  | x :: r => x.fact ∧ factsV r
theorem factsV_of {G : Hp} {γ : Nat → Value} : ∀ {l : List SV} {us : List Value}, RelV G γ l us → factsV l
  | [], _, _ => trivial
  | _ :: _, _, ⟨_, _, _, hx, hl⟩ => ⟨SV.fact_of hx, factsV_of hl⟩
theorem Spec.go2 {ι : Type 1} {E : Env} {f : FuncId} {fn : Func} {args : List SV} {mem mem' : List (Nat × Box)} {rets : List LV} {body : Code} {res : List ResultVar} (mx : ι → List (Nat × Box)) (hop : Opens mem mx) (hf : E.P.funcs[f]? = some fn) (hi : IsFn E.P f) (hb : fn.body = some body) (hres : fn.results.toList = res)
    (hargs : ∀ i ∈ idsV args, i < 5000) (hlow : ∀ i ∈ idsM mem, i < 5000) (hfit : codeFits fn.ntmps body = true) (hlen : Nat.ble args.length fn.ntmps = true)
    (h : factsV args ∧ factsM mem → ∀ i, vcCode E body ⟨parSl 0 args, mx i, idsM mem⟩ (finK E.toCtx res fun vs s => Fin rets mem' (tvOf vs) s)) : Spec E.P f args mem (tvL rets) mem' := by
  refine ⟨hi, fun R G γ w vs hpin hm hv => ?_⟩
  have hfm : factsM mem := by
    obtain ⟨fr, _, _, hat, _⟩ := hm
    have : ∀ l : List (Nat × Box), (∀ e ∈ l, e ∈ mem) → factsM l := by
      intro l
      induction l with
      | nil => intro _; trivial
      | cons e l ih => intro h; exact ⟨Box.fact_of (hat e (h e (by simp))), ih fun x hx => h x (by simp [hx])⟩
    exact this _ fun _ h => h
  have h' := h ⟨factsV_of hv, hfm⟩
  exact (Spec.go mx hop hf hi hb hres hargs hlow hfit hlen h').2 R G γ w vs hpin hm hv
/-- A contract: one thing, as a pointer, ahead of data. -/
structure Con1 (P : Program) (f : FuncId) {σ α : Type} (O : σ → ObjP) (A : Rep α) (pre : σ → α → Prop) (r : σ → α → List LV) (u : σ → α → σ) : Prop where
  fn : IsFn P f
  h : ∀ D x, pre D x → Spec P f (.l (.ptr 1 [] 0) :: (A.argL x).map .l) [(1, .obj O D)] (tvL (r D x)) [(1, .obj O (u D x))]
theorem call_1 {P : Program} {f : FuncId} {σ α : Type} {O : σ → ObjP} {A : Rep α} {pre : σ → α → Prop} {r : σ → α → List LV} {u : σ → α → σ} (c : Con1 P f O A pre r u) (hr : ∀ D x, (r D x).all LV.isData = true)
    {vs0 : List SV} {s : SymSt} {K : KT} (hc : con1 O A pre r u vs0 0 s K) : Wc P f vs0 s K := con1_ok c.fn c.h hr vs0 0 s K hc
attribute [push_cast] List.set_cons_zero List.set_cons_succ factsV exL Box.ex LeM2 Le2 mxL LV.fact factsL SV.fact TV.fact factsAt Box.fact factsM hasN dropW dropM inK_i64 inK_i32 inK_u64 inK_u32 inK_u16 inK_u8 Rep.ok
end Go.Proofs.Ytnmjcdlgfimnaaa
