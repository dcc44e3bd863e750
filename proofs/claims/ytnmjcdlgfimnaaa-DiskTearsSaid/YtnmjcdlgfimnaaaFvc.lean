/- Regions that draw their order, on symbolic states: a schedule that is right suffices. -/
import Derived.Test.YtnmjcdlgfimnaaaFvb
namespace Go.Proofs.Ytnmjcdlgfimnaaa

structure Node (R : Fr) (n : Nat) (G0 : Hp) (fr0 : Nat → Hp) (Q Q0 : List Nat) (erl : Bool) (G : Hp) (γ : Nat → Value) (fr : Nat → Hp) (s : SymSt) (a : Act) (w : World) : Prop where
  sl : SlotsOk G γ s.sl a.tmps
  mem : MemF R G γ fr s.mem w
  df : a.defers = []
  pn : ∀ i, R.pin i ≠ none → i ∈ s.pins
  sz : a.tmps.size = n
  g0 : Hp.le G0 G
  q : erl = true → ∀ i ∈ Q0, i ∈ idsM s.mem ∧ i ∈ Q ∧ fr i = fr0 i

def TT (late : List Nat) (G0 : Hp) (fr0 : Nat → Hp) (Q0 : List Nat) (listed : Array Bool) (w : World) : Prop := early late listed = true → Agr G0 fr0 Q0 w

section
variable {E : Env} {ops : Array Oper} {late Q Q0 : List Nat} {G0 : Hp} {fr0 : Nat → Hp} {Qn : Exit → Act → World → Prop} {R : Fr} {n : Nat}

theorem Node.agr {erl : Bool} {G : Hp} {γ : Nat → Value} {fr : Nat → Hp} {s : SymSt} {a : Act} {w : World} (h : Node R n G0 fr0 Q Q0 erl G γ fr s a w) (he : erl = true) : Agr G0 fr0 Q0 w :=
  ⟨Hp.le_trans h.g0 h.mem.ok.g, fun i hi => by
    obtain ⟨h1, _, h3⟩ := h.q he i hi
    rw [← h3]; exact h.mem.ok.f i h1⟩

theorem lt_of_ready {i : Nat} {listed : Array Bool} (h : i ∈ Region.ready .any ops listed) : i < listed.size := by
  have := (mem_ready.1 h).1
  rcases Nat.lt_or_ge i listed.size with h' | h'
  · exact h'
  · simp [Array.getElem?_eq_none h'] at this

theorem early_late {i : Nat} {listed : Array Bool} (hi : i ∈ late) (hl : i < listed.size) : early late (listed.setIfInBounds i true) = false := by
  cases h : early late (listed.setIfInBounds i true) with
  | false => rfl
  | true =>
    unfold early at h
    simp only [List.all_eq_true, Bool.not_eq_true'] at h
    have := h i hi
    simp [hl] at this

theorem wpOp_of {i : Nat} {o : Oper} (hi : ops[i]? = some o) {s : SymSt} {F N : SymSt → Prop} (h : vGuard ops.toList o s F N) {G : Hp} {γ : Nat → Value} {a : Act} {w : World} {Kn : Act → World → Prop} (hs : SlotsOk G γ s.sl a.tmps)
    (hF : ∀ sl', SlotsOk G γ sl' a.tmps → F ⟨sl', s.mem, s.pins⟩ → o.wp E.P a w Kn Qn) (hN : ∀ sl', SlotsOk G γ sl' a.tmps → N ⟨sl', s.mem, s.pins⟩ → Kn (a.put o.dst undef) w) : wpOp E.P ops Qn i Kn a w := by
  unfold wpOp
  simp only [hi]
  rcases guard_cases h hs with ⟨sl', h1, h2, h3⟩ | ⟨sl', h1, h2, h3⟩
  · rw [if_pos h3]; exact .inl (hF sl' h1 h2)
  · rw [h3]; simp only [Bool.false_eq_true, if_false]; exact hN sl' h1 h2

theorem done_any {listed : Array Bool} {a : Act} {w : World} {T : Array Bool → World → Prop} (hr : Region.ready .any ops listed = []) (h : Qn .normal a w) : ∀ fuel, wpAnyT E.P ops Qn T fuel listed a w
  | 0 => ⟨hr, h⟩
  | _ + 1 => ⟨fun _ => h, by rw [hr]; simp⟩

theorem free_of {i : Nat} {oi : Oper} {listed : Array Bool} (hi : ops[i]? = some oi) (h : Region.free .any ops listed i = true) : ∀ j oj, ops[j]? = some oj → j ≠ i → listed.getD j true = false → (∀ e ∈ oj.after, Region.binds .any e = true → e.on ≠ i) → oi.apart ops oj = true :=
  fun j oj hj hne hun hno => Region.free_spec hi h j oj hj hne hun hno

theorem TT_set {i : Nat} (hi : i ∉ late) (listed : Array Bool) (j : Nat) (w : World) (h : TT late G0 fr0 Q0 ((listed.setIfInBounds i true).setIfInBounds j true) w) : TT late G0 fr0 Q0 (listed.setIfInBounds j true) w := by
  intro he
  apply h
  by_cases hij : i = j
  · subst hij
    rw [Array.setIfInBounds_setIfInBounds]; exact he
  · rw [Array.setIfInBounds_comm _ _ hij, early_set hi]; exact he

theorem sch_sound (hsel : Region.noSelect ops = true) (hdst : ∀ o ∈ ops, ∀ d, o.dst = some d → d < n) (hQp : ∀ c a w, ¬ Qn (.panic c) a w) {K : SymSt → Prop}
    (hfin : ∀ {G : Hp} {γ : Nat → Value} {s : SymSt} {a : Act} {w : World}, Hp.le G0 G → K s → Simm R G γ s a w → a.tmps.size = n → Qn .normal a w) :
    ∀ (sch : Sch) (top : Bool) (listed : Array Bool) (fuel : Nat) {s : SymSt} {G : Hp} {γ : Nat → Value} {fr : Nat → Hp} {a : Act} {w : World}, sch.ok ops late top listed = true → Down ops listed → sch.depth ≤ fuel →
      vcSch E ops.toList late Q sch (!early late listed) s K → Node R n G0 fr0 Q Q0 (early late listed) G γ fr s a w →
      (top = true → wpAnyT E.P ops Qn (TT late G0 fr0 Q0) fuel listed a w) ∧
      (top = false → (∀ i ∈ sch.heads, i ∈ Region.ready .any ops listed) → ∀ i ∈ sch.heads, wpOp E.P ops Qn i (fun a' w' => TT late G0 fr0 Q0 (listed.setIfInBounds i true) w' ∧ wpAnyT E.P ops Qn (TT late G0 fr0 Q0) (fuel - 1) (listed.setIfInBounds i true) a' w') a w)
  | .done, top, listed, fuel, s, G, γ, fr, a, w, hok, hd, hfu, hv, hn => by
    simp only [Sch.ok, Bool.and_eq_true, List.isEmpty_iff] at hok
    refine ⟨fun _ => done_any hok.2 (hfin hn.g0 hv ⟨hn.sl, ⟨fr, hn.mem⟩, hn.df, hn.pn⟩ hn.sz) fuel, fun ht => ?_⟩
    rw [ht] at hok; simp at hok
  | .stop, top, listed, fuel, s, G, γ, fr, a, w, hok, hd, hfu, hv, hn => by
    refine ⟨fun ht => ?_, fun _ _ i hi => by simp [Sch.heads] at hi⟩
    simp only [Sch.ok] at hok
    rw [ht] at hok; simp at hok
  | .free i r, top, listed, fuel, s, G, γ, fr, a, w, hok, hd, hfu, hv, hn => by
    simp only [Sch.ok, Bool.and_eq_true, List.contains_eq_mem, decide_eq_true_eq, Bool.not_eq_true', decide_eq_false_iff_not] at hok
    obtain ⟨htop, ⟨⟨⟨⟨hr, hq⟩, hl⟩, hf⟩, hok'⟩⟩ := hok
    refine ⟨fun _ => ?_, fun ht => by rw [ht] at htop; simp at htop⟩
    simp only [Sch.depth] at hfu
    obtain ⟨k, rfl⟩ : ∃ k, fuel = k + 1 := ⟨fuel - 1, by omega⟩
    unfold vcSch at hv
    split at hv
    · rename_i o ho
      have ho' : ops[i]? = some o := by simpa using ho
      have hdo : ∀ d, o.dst = some d → d < a.tmps.size := fun d h => hn.sz ▸ hdst o (Array.mem_of_getElem? ho') d h
      unfold quietAt at hq
      rw [ho'] at hq
      simp only [Bool.false_or, Bool.and_eq_true, Bool.not_eq_true'] at hq
      have hes : early late (listed.setIfInBounds i true) = early late listed := early_set hl
      have go : ∀ {v : Value} {tv : TV} {sl' : List (Nat × TV)}, SlotsOk G γ sl' a.tmps → YieldsIf E.P ops (fun _ => True) o v a → tv.rel G γ v → vcSch E ops.toList late Q r (!early late listed) ((⟨sl', s.mem, s.pins⟩ : SymSt).putO o.dst tv) K →
          wpAnyT E.P ops Qn (TT late G0 fr0 Q0) (k + 1) listed a w := by
        intro v tv sl' hsl hy hrel hv'
        refine wpAnyT_first (S := fun _ => True) ho' (Region.noSelect_spec hsel) (fun c a w h => absurd h (hQp c _ w)) (TT_set hl) (fun _ _ _ _ _ _ _ => trivial) k listed a w hd (free_of ho' hf) hr hy trivial ?_ ?_
        · intro he
          rw [hes] at he
          exact hn.agr he
        · obtain ⟨pm, pp⟩ := putO_mem (⟨sl', s.mem, s.pins⟩ : SymSt) o.dst tv
          have hn' : Node R n G0 fr0 Q Q0 (early late (listed.setIfInBounds i true)) G γ fr ((⟨sl', s.mem, s.pins⟩ : SymSt).putO o.dst tv) (a.put o.dst v) w := ⟨SlotsOk.putO (s := ⟨sl', s.mem, s.pins⟩) hsl hdo hrel, by rw [pm]; exact hn.mem, by rw [put_defers]; exact hn.df, by rw [pp]; exact hn.pn, by rw [put_size]; exact hn.sz, hn.g0, by rw [hes, pm]; exact hn.q⟩
          exact (sch_sound hsel hdst hQp hfin r true (listed.setIfInBounds i true) k hok' (hd.set hr) (by omega) (by rw [hes]; exact hv') hn').1 rfl
      rcases guard_cases hv hn.sl with ⟨sl', h1, h2, h3⟩ | ⟨sl', h1, h2, h3⟩
      · obtain ⟨v, tv, hrun, hK, hrel⟩ := vqVal_sound h2 R G γ fr a w h1 hn.mem
        exact go h1 (.inl ⟨h3, fun w' _ => hrun w' (by rw [hq.2]; simp)⟩) hrel hK
      · exact go h1 (.inr ⟨h3, rfl⟩) undef_rel h2
    · exact hv.elim
  | .or i x y, top, listed, fuel, s, G, γ, fr, a, w, hok, hd, hfu, hv, hn => by
    simp only [Sch.ok, Bool.and_eq_true] at hok
    obtain ⟨htop, hokx, hoky⟩ := hok
    simp only [Sch.depth] at hfu
    obtain ⟨k, rfl⟩ : ∃ k, fuel = k + 1 := ⟨fuel - 1, by omega⟩
    unfold vcSch at hv
    obtain ⟨hvx, hvy⟩ := hv
    have hhead : i ∈ Region.ready .any ops listed → wpOp E.P ops Qn i (fun a' w' => TT late G0 fr0 Q0 (listed.setIfInBounds i true) w' ∧ wpAnyT E.P ops Qn (TT late G0 fr0 Q0) k (listed.setIfInBounds i true) a' w') a w := by
      intro hr
      have hlt := lt_of_ready hr
      split at hvx
      · rename_i o ho
        have ho' : ops[i]? = some o := by simpa using ho
        have hdo : ∀ d, o.dst = some d → d < a.tmps.size := fun d h => hn.sz ▸ hdst o (Array.mem_of_getElem? ho') d h
        have hearly : early late (listed.setIfInBounds i true) = !(!early late listed || late.contains i) := by
          by_cases hil : i ∈ late
          · rw [early_late hil hlt]; simp [hil]
          · rw [early_set hil]; simp [hil]
        have go2 : ∀ {s' : SymSt} {G' : Hp} {γ' : Nat → Value} {fr' : Nat → Hp} {a' : Act} {w' : World}, vcSch E ops.toList late Q x (!early late listed || late.contains i) s' K → Node R n G0 fr0 Q Q0 (early late (listed.setIfInBounds i true)) G' γ' fr' s' a' w' →
            TT late G0 fr0 Q0 (listed.setIfInBounds i true) w' ∧ wpAnyT E.P ops Qn (TT late G0 fr0 Q0) k (listed.setIfInBounds i true) a' w' := by
          intro s' G' γ' fr' a' w' hv' hn'
          exact ⟨fun he => hn'.agr he, (sch_sound hsel hdst hQp hfin x true (listed.setIfInBounds i true) k hokx (hd.set hr) (by omega) (by rw [hearly, Bool.not_not]; exact hv') hn').1 rfl⟩
        refine wpOp_of ho' hvx hn.sl (fun sl' hsl h2 => ?_) (fun sl' hsl h2 => ?_)
        · cases hb : (!early late listed || late.contains i)
          · rw [hb, cond_false] at h2
            rw [hb] at hearly go2
            have hel : early late listed = true := by
              cases h : early late listed with
              | true => rfl
              | false => rw [h] at hb; simp at hb
            have hfr := hide_frame (Q := Q) (K := fun tv s2 => vcSch E ops.toList late Q x false (s2.putO o.dst tv) K) (vcVal_sound h2) (s := ⟨sl', s.mem, s.pins⟩) hsl hn.mem hn.df hn.pn
            refine opSem_upon hfr ?_
            rintro v w' ⟨G', γ', tv, s2, fr', hg, hK, hrel, hsl2, hm2, hkeep, hpin2⟩
            obtain ⟨pm, pp⟩ := putO_mem s2 o.dst tv
            refine go2 hK ⟨SlotsOk.putO hsl2 hdo hrel, by rw [pm]; exact hm2, by rw [put_defers]; exact hn.df, by rw [pp, hpin2]; exact hn.pn, by rw [put_size]; exact hn.sz, Hp.le_trans hn.g0 hg, fun _ j hj => ?_⟩
            obtain ⟨q1, q2, q3⟩ := hn.q hel j hj
            have hk : j ∈ idsM (keepM Q s.mem) := by
              obtain ⟨e, he, rfl⟩ := List.mem_map.1 q1
              have : ∀ {mem : List (Nat × Box)}, e ∈ mem → e.1 ∈ Q → e ∈ keepM Q mem := by
                intro mem
                induction mem with
                | nil => intro h; simp at h
                | cons z r ih =>
                  intro h hq
                  obtain ⟨zi, zb⟩ := z
                  unfold keepM
                  rcases List.mem_cons.1 h with rfl | h
                  · simp [hq]
                  · cases hc : Q.contains zi
                    · exact ih h hq
                    · exact List.mem_cons.2 (.inr (ih h hq))
              exact List.mem_map.2 ⟨e, this he q2, rfl⟩
            obtain ⟨k1, k2⟩ := hkeep j hk
            rw [pm]
            exact ⟨k2, q2, k1.trans q3⟩
          · rw [hb, cond_true] at h2
            rw [hb] at hearly go2
            refine opSem_upon (vcVal_sound h2 R G γ a w ⟨hsl, ⟨fr, hn.mem⟩, hn.df, hn.pn⟩) ?_
            rintro v w' ⟨G', γ', tv, s2, hg, hK, hrel, hs2⟩
            obtain ⟨fr', hm2⟩ := hs2.mem
            obtain ⟨pm, pp⟩ := putO_mem s2 o.dst tv
            refine go2 hK ⟨SlotsOk.putO hs2.sl hdo hrel, by rw [pm]; exact hm2, by rw [put_defers]; exact hn.df, by rw [pp]; exact hs2.pn, by rw [put_size]; exact hn.sz, Hp.le_trans hn.g0 hg, fun he => ?_⟩
            rw [hearly] at he; simp at he
        · obtain ⟨pm, pp⟩ := putO_mem (⟨sl', s.mem, s.pins⟩ : SymSt) o.dst (.tup [])
          refine go2 h2 ⟨SlotsOk.putO (s := ⟨sl', s.mem, s.pins⟩) hsl hdo undef_rel, by rw [pm]; exact hn.mem, by rw [put_defers]; exact hn.df, by rw [pp]; exact hn.pn, by rw [put_size]; exact hn.sz, hn.g0, fun he => ?_⟩
          rw [pm]
          refine hn.q ?_
          exact early_mono he
      · exact hvx.elim
    have hrest := (sch_sound hsel hdst hQp hfin y false listed (k + 1) hoky hd (by omega) hvy hn).2 rfl
    constructor
    · intro ht
      rw [ht] at htop
      simp only [Bool.not_true, Bool.false_or, beq_iff_eq] at htop
      have hin : ∀ j ∈ Sch.heads (.or i x y), j ∈ Region.ready .any ops listed := fun j hj => htop ▸ hj
      refine ⟨fun h0 => ?_, fun j hj => ?_⟩
      · rw [← htop] at h0; simp [Sch.heads] at h0
      · rw [← htop] at hj
        rcases List.mem_cons.1 hj with rfl | hj'
        · exact hhead (hin j hj)
        · exact hrest (fun l hl => hin l (List.mem_cons.2 (.inr hl))) j hj'
    · intro _ hin j hj
      rcases List.mem_cons.1 hj with rfl | hj'
      · exact hhead (hin j hj)
      · exact hrest (fun l hl => hin l (List.mem_cons.2 (.inr hl))) j hj'
end
end Go.Proofs.Ytnmjcdlgfimnaaa
