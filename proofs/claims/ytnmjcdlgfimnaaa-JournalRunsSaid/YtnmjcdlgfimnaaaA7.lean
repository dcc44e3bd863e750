/- A row of the call's own gets another name (ahead of a loop that appends). -/
import Derived.Test.YtnmjcdlgfimnaaaA5
namespace Go.Proofs.Ytnmjcdlgfimnaaa
theorem Qc4.ren {R : Fr} {G : Hp} {γ : Nat → Value} {s : Qan} {a : Act} {w : World} (hs : Qc4 R G γ s a w) {id d : Nat} {α : Type} {A : Rep α} {l : List α} (hm : Qco s.mem id = some (.arr A l)) (hr : s.room d) (hne : id ≠ d) :
    Qc4 R G (Qis γ d (γ id)) (((s.rm id).add d (.arr A l)).freeze id (.own d)) a w := by
 obtain ⟨fr, hmf⟩ := hs.mem
 have hpl : Rep.plainCell (γ id) = true := by
  rcases hmf.arr hm with ⟨_, ad, e⟩ | ⟨b, t, es, sp, c, e, _⟩ <;> rw [e] <;> rfl
 have h1 := hs.turn0 hmf hm hr (v := γ id) (b := .arr A l) (hmf.at' _ (Qca hm))
 have hn : (LV.own d).rel G (Qis γ d (γ id)) [Qis γ d (γ id) id] := by
  simp only [LV.rel]
  rw [Qcf, Qds hne]
  exact ⟨rfl, hpl⟩
 obtain ⟨fr1, hnd, hpin, hat, hok⟩ := h1.mem
 refine ⟨fun i => ?_, ⟨fr1, Qey hnd, hpin, ?_, hok.sub ?_⟩, h1.df, h1.pn⟩
 ·show TV.rel _ _ (Qd7 (Qm5 id _ _) i) _
  rw [Qi4]
  exact TV.frzI_rel (Hp.le_refl G) hn rfl (h1.sl i)
 ·intro e he
  obtain ⟨_, b, h2, h3⟩ := Qdl he
  rw [h3]
  exact Box.frzI_at (Hp.le_refl G) hn (hat _ h2)
 ·intro i hi
  obtain ⟨e, he, rfl⟩ := List.mem_map.1 hi
  obtain ⟨h1, b, h2, _⟩ := Qdl he
  exact List.mem_map.2 ⟨_, h2, rfl⟩
theorem GLe.ren {s : Qan} {id d : Nat} {α : Type} {A : Rep α} {l : List α} (hm : Qco s.mem id = some (.arr A l)) (hr : s.room d) (hne : id ≠ d) : GLe (((s.rm id).add d (.arr A l)).freeze id (.own d)) s :=
 ⟨rfl, fun _ G _ _ _ hs => ⟨G, _, Hp.le_refl G, hs.ren hm hr hne⟩⟩
theorem Qg1 {E : Env} {x : Code} {s : Qan} {K : KC} {α : Type} {A : Rep α} {l : List α} (id d : Nat) (hm : Qco s.mem id = some (.arr A l)) (hr : s.room d) (hne : id ≠ d)
    (h : Qa9 E (.loop x) (((s.rm id).add d (.arr A l)).freeze id (.own d)) K) : Qa9 E (.loop x) s K := by
 obtain ⟨ι, ok, St, μ, ⟨i, hi, hle⟩, hro⟩ := h
 exact ⟨ι, ok, St, μ, ⟨i, hi, hle.trans (GLe.ren hm hr hne)⟩, hro⟩
theorem GLe.nil {s : Qan} {t d : Nat} {α : Type} {A : Rep α} (ht : Qd7 s.sl t = .one (.l .nils)) (hr : s.room d) : GLe ((s.add d (.arr A [])).put t (.one (.l (.own d)))) s := by
 refine ⟨rfl, fun R G γ a w hs => ⟨G, Qis γ d (.slice none 0 0), Hp.le_refl G, ?_⟩⟩
 have h1 := hs.addNothing (d := d) hr (v := .slice none 0 0) (b := .arr A []) (.inr ⟨rfl, ⟨none, rfl⟩, rfl⟩)
 refine h1.know ?_
 have h2 := hs.sl t
 rw [ht] at h2
 have h3 : a.tmps.getD t undef = .slice none 0 0 := by simpa [TV.rel, SV.rel, LV.relV, LV.rel] using h2
 rw [h3]
 simp [TV.rel, SV.rel, LV.relV, LV.rel, Qcf, Rep.plainCell]
theorem Qmi {E : Env} {x : Code} {s : Qan} {K : KC} {α : Type} (A : Rep α) (t d : Nat) (ht : Qd7 s.sl t = .one (.l .nils)) (hr : s.room d)
    (h : Qa9 E (.loop x) ((s.add d (.arr A [])).put t (.one (.l (.own d)))) K) : Qa9 E (.loop x) s K := by
 obtain ⟨ι, ok, St, μ, ⟨i, hi, hle⟩, hro⟩ := h
 exact ⟨ι, ok, St, μ, ⟨i, hi, hle.trans (GLe.nil ht hr)⟩, hro⟩
def Qp8 : List SV → Prop
 | [] => True
 | x :: r => x.fact ∧ Qp8 r
def TV.fact2 : TV → Prop
 | .one x => x.fact
 | .tup xs => Qp8 xs
theorem Qnr {G : Hp} {γ : Nat → Value} : ∀ {xs : List SV} {vs : List Value}, Qcv G γ xs vs → Qp8 xs
 | [], _, _ => trivial
 | _ :: _, _, ⟨_, _, _, hx, hr⟩ => ⟨SV.fact_of hx, Qnr hr⟩
theorem TV.fact2_of {G : Hp} {γ : Nat → Value} {x : TV} {v : Value} (h : x.rel G γ v) : x.fact2 := by
 cases x with
 | one x => exact SV.fact_of h
 | tup xs => obtain ⟨vs, hv, _⟩ := h; exact Qnr hv
theorem Qvz {P : Program} {f : FuncId} {xs : List SV} {s : Qan} {K : KT} (h : Wc P f xs s (fun tv s' => tv.fact2 → K tv s')) : Wc P f xs s K :=
 ⟨h.1, fun R G γ a w vs hs hv => (h.2 R G γ a w vs hs hv).mono (by
  rintro e w' ⟨v, rfl, G2, γ2, tv, s2, hg2, hK2, hrel, hs2⟩
  exact ⟨v, rfl, G2, γ2, tv, s2, hg2, hK2 (TV.fact2_of hrel), hrel, hs2⟩)⟩
theorem Qsi {P : Program} {f : FuncId} {σ α : Type} {O : σ → Qst} {A : Rep α} {pre : σ → α → Prop} {r : σ → α → List LV} {u : σ → α → σ} (c : Qkc P f O A pre r u) (hr : ∀ D x, (r D x).all LV.isData = true)
    {vs0 : List SV} {s : Qan} {K : KT} (hc : Qw5 O A pre r u vs0 0 s (fun tv s' => tv.fact2 → K tv s')) : Wc P f vs0 s K := Qvz (Qbr c hr hc)
attribute [push_cast] Qp8 TV.fact2
theorem Qfd {E : Env} {ops : List Oper} {late Q : List Nat} {x y : Sch} {i : Nat} {e : Bool} {o : Oper} {sl : List (Nat × TV)} {mem : List (Nat × Box)} {pins : List Nat} {Z : Qan → Prop} {j d d' : Nat} {want b : Bool}
    (hi : ops[i]? = some o) (hg : o.guard = some (j, want)) (hj : (ops[j]?).bind (·.dst) = some d') (hd : o.dst = some d) (he : (e || late.contains i) = true) (hs : Qd7 sl d' = .one (.l (.bool b)))
    (h1 : b = want → ∀ K' : KT, (∀ tv sl mem pins, Qbp E ops late Q x true ⟨(d, tv) :: sl, mem, pins⟩ Z → K' tv ⟨sl, mem, pins⟩) → Qfl E o ⟨(d', .one (.l (.bool want))) :: sl, mem, pins⟩ K')
    (h2 : b = !want → Qbp E ops late Q x true ⟨(d, .tup []) :: (d', .one (.l (.bool (!want)))) :: sl, mem, pins⟩ Z)
    (h3 : Qbp E ops late Q y e ⟨sl, mem, pins⟩ Z) : Qbp E ops late Q (.or i x y) e ⟨sl, mem, pins⟩ Z := by
 unfold Qbp Qdp
 rw [hi]
 simp only [hg, hj, hs, he, cond_true]
 refine ⟨⟨fun hb => h1 hb _ fun tv sl' mem' pins' h => ?_, fun hb => ?_⟩, h3⟩
 ·rw [hd]; exact h
 ·rw [hd]; exact h2 hb
def Qs5 (mem : List (Nat × Box)) (id off n lo len : Nat) (f : LV → Prop) : Prop := match Qco mem id with
 | some (.segs l) => (match Qj2 n 9 l off with
  | some (_, z, _) => (match z.arrSrc with
   | some (.mk A old) => A.size = n ∧ lo + len ≤ old.length ∧ f (.dat (.slice A) ((old.drop lo).take len))
   | none => False)
  | none => False)
 | some (.arr A old) => off = 0 ∧ A.size = n ∧ lo + len ≤ old.length ∧ f (.dat (.slice A) ((old.drop lo).take len))
 | _ => False
def Qqu (s : Qan) : List SV → (List SV → Prop) → Prop
 | [], f => f []
 | .l (.view id [] off n lo len) :: r, f => Qs5 s.mem id off n lo len fun x => Qqu s r fun ys => f (.l x :: ys)
 | x :: r, f => Qqu s r fun ys => f (x.frz s.mem :: ys)
theorem Qof {G G' : Hp} {γ : Nat → Value} {α : Type} {A : Rep α} {l : List α} {cs pre sp : List Value} {b lo len : Nat} {t : TypeId} {f0 : Nat × Nat} (hg : Hp.le G G') (hl : EncL (fun x c => A.enc G x c) l cs) (hlen : lo + len ≤ l.length)
    {base : Nat} (hpre : pre.length = base) (hb : G' b = some (.cells (pre ++ (cs ++ sp)).toArray t f0)) {v : Value} {a : Option Addr} {cap : Nat} (hcap : len ≤ cap) (hmx : cap ≤ mxL) (hv : v = .slice a len cap) (ha : len ≠ 0 → a = some ⟨b, base + lo * A.size, none⟩) (hn : a = none → cap = 0) :
    (LV.dat (.slice A) ((l.drop lo).take len)).relV G' γ v := by
 obtain ⟨p, es, q, rfl, hp, he⟩ := Qhn hl lo len hlen
 have hl2 : ((l.drop lo).take len).length = len := by simp; omega
 refine ⟨[v], (Rep.enc_slice A G' _ _).2 ⟨a, cap, by rw [hl2, hv], by rw [hl2]; exact hcap, hmx, hn, ?_⟩, by simp [Rep.mk, Rep.agg]⟩
 by_cases h0 : len = 0
 ·subst h0; exact .inl (by simp)
 ·refine .inr ⟨b, pre ++ p, es, q ++ sp, t, f0, by rw [ha h0]; simp only [List.length_append, hpre, hp], ?_, EncL.mono (fun _ _ h => A.enc_mono hg h) he⟩
  rw [hb]; simp only [List.append_assoc]
theorem Qri {G : Hp} {γ : Nat → Value} {mem : List (Nat × Box)} {fr : Nat → Hp} (hat : ∀ e ∈ mem, e.2.at G γ (γ e.1) (fr e.1)) {G' : Hp} (hg : Hp.le G G') (hf : ∀ i ∈ Qao mem, Hp.le (fr i) G')
    {id off n lo len : Nat} {f : LV → Prop} (h : Qs5 mem id off n lo len f) {v : Value} (hv : (LV.view id [] off n lo len).relV G γ v) : ∃ x, f x ∧ x.relV G' γ v := by
 obtain ⟨a, cap, hcap, hmx, e, ha, hn⟩ := hv
 have e' : v = .slice a len cap := by simpa using e
 unfold Qs5 at h
 split at h
 ·rename_i l hm
  have hmem := Qca hm
  have hle := hf id (List.mem_map.2 ⟨_, hmem, rfl⟩)
  obtain ⟨b, t, cs, e1, ef, hr⟩ := hat _ hmem
  split at h
  ·rename_i p z q hs
   obtain ⟨hr, hoff⟩ := Qd2 hs hr
   obtain ⟨c1, d, rfl, h1, c2, c3, rfl, h2, h3⟩ := Qb5.append_inv hr
   split at h
   ·rename_i α A old hsrc
    obtain ⟨rfl, hlen, hK⟩ := h
    have hl : EncL (fun x c => A.enc G x c) old c2 := by
     cases z <;> simp only [LV.arrSrc] at hsrc
     case dat R0 y => exact R0.arrSrc_spec hsrc h2
     all_goals simp at hsrc
    refine ⟨_, hK, Qof hg hl hlen (pre := c1) (sp := c3) (base := off) (by rw [Qb5.length h1, hoff]) (b := b) (t := t) (f0 := (0, 0)) (hle b _ (by simp only at ef; rw [ef]; simp [sng])) hcap hmx e' (fun h0 => ?_) hn⟩
    rw [ha h0]
    simp only at e1
    simp [e1, blk, Qdx]
   ·exact h.elim
  ·exact h.elim
 ·rename_i α A old hm
  obtain ⟨rfl, rfl, hlen, hK⟩ := h
  have hmem := Qca hm
  have hle := hf id (List.mem_map.2 ⟨_, hmem, rfl⟩)
  rcases hat _ hmem with ⟨b, t, es, sp, c, e1, ef, hl, _⟩ | ⟨rfl, ⟨ad, e1⟩, _⟩
  ·refine ⟨_, hK, Qof hg hl hlen (pre := []) (sp := sp) (base := 0) rfl (b := b) (t := t) (f0 := (0, 0)) (hle b _ (by simp only at ef; rw [ef]; simp [sng])) hcap hmx e' (fun h0 => ?_) hn⟩
   rw [ha h0]
   simp only at e1
   simp [e1, blk, Qdx]
  ·have h0 : lo = 0 ∧ len = 0 := by simp at hlen; omega
   obtain ⟨rfl, rfl⟩ := h0
   refine ⟨_, hK, [v], (Rep.enc_slice A G' _ _).2 ⟨a, cap, by simpa using e', by simp, hmx, hn, .inl (by simp)⟩, by simp [Rep.mk, Rep.agg]⟩
 ·exact h.elim
theorem Qjy {G : Hp} {γ : Nat → Value} {s : Qan} {fr : Nat → Hp} (hat : ∀ e ∈ s.mem, e.2.at G γ (γ e.1) (fr e.1)) {G' : Hp} (hg : Hp.le G G') (hf : ∀ i ∈ Qao s.mem, Hp.le (fr i) G') :
    ∀ {xs : List SV} {f : List SV → Prop} {vs : List Value}, Qqu s xs f → Qcv G γ xs vs → ∃ ys, f ys ∧ Qcv G' γ ys vs
 | [], f, vs, h, hv => ⟨[], h, hv⟩
 | x :: r, f, _, h, ⟨v, us, rfl, hx, hr⟩ => by
  unfold Qqu at h
  split at h
  ·rename_i e; simp at e
  ·rename_i id off n lo len r' e
   simp only [List.cons.injEq] at e
   obtain ⟨rfl, rfl⟩ := e
   obtain ⟨y, h, hy⟩ := Qri hat hg hf h hx
   obtain ⟨ys, hf', hys⟩ := Qjy hat hg hf h hr
   exact ⟨_, hf', v, us, rfl, hy, hys⟩
  ·rename_i x' r' _ e
   simp only [List.cons.injEq] at e
   obtain ⟨rfl, rfl⟩ := e
   obtain ⟨ys, hf', hys⟩ := Qjy hat hg hf h hr
   exact ⟨_, hf', v, us, rfl, SV.frz_rel hat hg hf hx, hys⟩
theorem Qpw {P : Program} {f : FuncId} {α : Type} {A : Rep α} {pre : α → Prop} {r : α → List LV} (c : Con P f A pre r) (hr : ∀ x, (r x).all LV.flat = true) {vs0 : List SV} {s : Qan} {K : KT}
    (hc : Qqu s vs0 fun ys => Qdh A ys fun x => pre x ∧ (Qew (r x) → K (tvL (r x)) s)) : Wc P f vs0 s K := by
 refine ⟨c.fn, ?_⟩
 intro R G γ a w vs hs hv
 obtain ⟨fr, hm⟩ := hs.mem
 obtain ⟨hok, hback⟩ := Q0j hm
 obtain ⟨hok3, hle⟩ := hm.ok.freezeAll hm.nd
 obtain ⟨ys, hc, hv2⟩ := Qjy hm.at' (Qei (Qao s.mem)) hle hc hv
 obtain ⟨x, ⟨hpre, hK⟩, hx⟩ := Qcx A hc hv2
 have hx' : Qcv (Qdg G fr (Qao s.mem)) (fun _ => undef) ((A.argL x).map .l) vs := hx.congr (by rw [Qi0 (A.argL_noIds x)]; simp)
 refine ((c.h x hpre).2 R _ w vs hok hx').mono ?_
 rintro e w' ⟨v, G', rfl, hg, hrel, hok'⟩
 obtain ⟨G2, hg2, hm2⟩ := hback hg hok'
 exact ⟨v, rfl, G2, γ, _, s, hg2, hK (Qgz hrel), Qpy (hr x) hrel G2 γ, hs.grow hg2 hm2⟩
attribute [push_cast] Qs5 Qqu
end Go.Proofs.Ytnmjcdlgfimnaaa
