/- Operations that turn memory: freezing, new rows, appending. -/
import Derived.Test.YtnmjcdlgfimnaaaFkc
namespace Go.Proofs.Ytnmjcdlgfimnaaa

/-! What is the call's own becomes data. -/
def LV.isOwn (id : Nat) : LV → Bool
  | .own i => i == id
  | _ => false
def LV.frzI (id : Nat) (n : LV) (x : LV) : LV := bif x.isOwn id then n else x.kill id
def SV.frzI (id : Nat) (n : LV) : SV → SV
  | .l x => .l (LV.frzI id n x)
  | .agg xs => .agg (xs.map (LV.frzI id n))
def TV.frzI (id : Nat) (n : LV) : TV → TV
  | .one x => .one (x.frzI id n)
  | .tup xs => .tup (xs.map (SV.frzI id n))
def Box.frzI (id : Nat) (n : LV) : Box → Box
  | .segs l => .segs (l.map (LV.frzI id n))
  | .sarr k l => .sarr k (l.map (LV.frzI id n))
  | b => b
def frzSl (id : Nat) (n : LV) : List (Nat × TV) → List (Nat × TV)
  | [] => []
  | (j, v) :: r => (j, v.frzI id n) :: frzSl id n r
def frzMem (id : Nat) (n : LV) : List (Nat × Box) → List (Nat × Box)
  | [] => []
  | (j, b) :: r => bif j == id then frzMem id n r else (j, b.frzI id n) :: frzMem id n r
def SymSt.freeze (s : SymSt) (id : Nat) (n : LV) : SymSt := ⟨frzSl id n s.sl, frzMem id n s.mem, s.pins⟩

section
variable {G G' : Hp} {γ : Nat → Value} {id : Nat} {n : LV}
theorem LV.frzI_rel (hg : Hp.le G G') (hn : n.rel G' γ [γ id]) {x : LV} {cs : List Value} (h : x.rel G γ cs) : (LV.frzI id n x).rel G' γ cs := by
  unfold LV.frzI
  cases hi : x.isOwn id
  · exact LV.rel_mono hg (LV.kill_rel (fun _ _ => rfl) h)
  · cases x <;> simp only [LV.isOwn, beq_iff_eq, Bool.false_eq_true] at hi
    subst hi
    rw [cond_true, h.1]; exact hn
theorem LV.frzI_relV (hg : Hp.le G G') (hn : n.rel G' γ [γ id]) (hna : n.isAgg = false) {x : LV} {v : Value} (h : x.relV G γ v) : (LV.frzI id n x).relV G' γ v := by
  unfold LV.frzI
  cases hi : x.isOwn id
  · exact LV.relV_mono hg (LV.kill_relV (fun _ _ => rfl) h)
  · cases x <;> simp only [LV.isOwn, beq_iff_eq, Bool.false_eq_true] at hi
    subst hi
    have h1 := h
    simp only [LV.relV, LV.rel, List.cons.injEq, and_true] at h1
    rw [cond_true, h1.1]; exact LV.relV_of hna hn
theorem RelL.frzI (hg : Hp.le G G') (hn : n.rel G' γ [γ id]) : ∀ {l : List LV} {cs : List Value}, RelL G γ l cs → RelL G' γ (l.map (LV.frzI id n)) cs
  | [], _, h => h
  | _ :: _, _, ⟨c, d, e, hx, hl⟩ => ⟨c, d, e, LV.frzI_rel hg hn hx, RelL.frzI hg hn hl⟩
theorem SV.frzI_rel (hg : Hp.le G G') (hn : n.rel G' γ [γ id]) (hna : n.isAgg = false) {x : SV} {v : Value} (h : x.rel G γ v) : (x.frzI id n).rel G' γ v := by
  cases x with
  | l x => exact LV.frzI_relV hg hn hna h
  | agg xs => obtain ⟨cs, hc, e⟩ := h; exact ⟨cs, hc.frzI hg hn, e⟩
theorem RelV.frzI (hg : Hp.le G G') (hn : n.rel G' γ [γ id]) (hna : n.isAgg = false) : ∀ {xs : List SV} {vs : List Value}, RelV G γ xs vs → RelV G' γ (xs.map (SV.frzI id n)) vs
  | [], _, h => h
  | _ :: _, _, ⟨v, r, e, hx, hr⟩ => ⟨v, r, e, SV.frzI_rel hg hn hna hx, RelV.frzI hg hn hna hr⟩
theorem TV.frzI_rel (hg : Hp.le G G') (hn : n.rel G' γ [γ id]) (hna : n.isAgg = false) {x : TV} {v : Value} (h : x.rel G γ v) : (x.frzI id n).rel G' γ v := by
  cases x with
  | one x => exact SV.frzI_rel hg hn hna h
  | tup xs => obtain ⟨vs, hv, e⟩ := h; exact ⟨vs, hv.frzI hg hn hna, e⟩
theorem Box.frzI_at (hg : Hp.le G G') (hn : n.rel G' γ [γ id]) {x : Box} {v : Value} {f : Hp} (h : x.at G γ v f) : (x.frzI id n).at G' γ v f := by
  cases x with
  | segs l => obtain ⟨b, t, cs, e, ef, hl⟩ := h; exact ⟨b, t, cs, e, ef, hl.frzI hg hn⟩
  | arr R l => exact Box.at_mono hg h
  | sarr k l => obtain ⟨b, t, es, sp, c, e, ef, hl, hn'⟩ := h; exact ⟨b, t, es, sp, c, e, ef, hl.frzI hg hn, hn'⟩
  | obj O D => exact Box.at_mono hg h
  | mpr A M V dead => exact Box.at_mono hg h
theorem getS_frz (id : Nat) (n : LV) : ∀ (sl : List (Nat × TV)) (i : Nat), getS (frzSl id n sl) i = (getS sl i).frzI id n
  | [], i => rfl
  | (j, v) :: r, i => by
    unfold frzSl getS
    cases h : (j == i)
    · exact getS_frz id n r i
    · rfl
theorem frzMem_mem {id : Nat} {n : LV} : ∀ {mem : List (Nat × Box)} {e : Nat × Box}, e ∈ frzMem id n mem → e.1 ≠ id ∧ ∃ b, (e.1, b) ∈ mem ∧ e.2 = b.frzI id n
  | [], _, h => by simp [frzMem] at h
  | (j, b) :: r, e, h => by
    unfold frzMem at h
    cases hj : (j == id)
    · rw [hj, cond_false, List.mem_cons] at h
      rcases h with rfl | h
      · exact ⟨by simpa using hj, b, by simp, rfl⟩
      · obtain ⟨h1, b', h2, h3⟩ := frzMem_mem h
        exact ⟨h1, b', by simp [h2], h3⟩
    · rw [hj, cond_true] at h
      obtain ⟨h1, b', h2, h3⟩ := frzMem_mem h
      exact ⟨h1, b', by simp [h2], h3⟩
theorem frzMem_ids {id : Nat} {n : LV} : ∀ {mem : List (Nat × Box)}, (idsM mem).Nodup → (idsM (frzMem id n mem)).Nodup
  | [], _ => by simp [frzMem, idsM]
  | (j, b) :: r, h => by
    simp only [idsM, List.map_cons, List.nodup_cons] at h
    unfold frzMem
    cases hj : (j == id)
    · simp only [cond_false, idsM, List.map_cons, List.nodup_cons]
      refine ⟨fun hm => h.1 ?_, frzMem_ids h.2⟩
      obtain ⟨e, he, rfl⟩ := List.mem_map.1 hm
      obtain ⟨_, b', h2, _⟩ := frzMem_mem he
      exact List.mem_map.2 ⟨_, h2, rfl⟩
    · exact frzMem_ids h.2
end

theorem Simm.freeze {R : Fr} {G : Hp} {γ : Nat → Value} {s : SymSt} {a : Act} {w : World} (hs : Simm R G γ s a w) {id : Nat} {α : Type} {A : Rep α} {l : List α} (hm : getM s.mem id = some (.arr A l)) :
    ∃ G', Hp.le G G' ∧ Simm R G' γ (s.freeze id (.dat (.slice A) l)) a w ∧ (LV.dat (.slice A) l).rel G' γ [γ id] := by
  obtain ⟨fr, hnd, hpin, hat, hok⟩ := hs.mem
  have hmem := getM_mem hm
  have hid : id ∈ idsM s.mem := List.mem_map.2 ⟨_, hmem, rfl⟩
  have hf := hok.freeze hid
  have hg : Hp.le G (fun b => (G b).or (fr id b)) := fun b o h => by simp [h]
  have hg2 : Hp.le (fr id) (fun b => (G b).or (fr id b)) := fun b o h => by
    have := hok.gf id hid b (by simp [h])
    simp [this, h]
  have hn : (LV.dat (.slice A) l).rel (fun b => (G b).or (fr id b)) γ [γ id] := by
    refine (Rep.enc_slice A _ l _).2 ?_
    rcases hat _ hmem with ⟨b, t, es, sp, c, e, ef, hl, hle, hmx, _⟩ | ⟨rfl, ⟨ad, e⟩, _⟩
    · refine ⟨some ⟨b, 0, none⟩, c, by rw [e], hle, hmx, by simp, .inr ⟨b, [], es, sp, t, (0, 0), rfl, ?_, EncL.mono (fun _ _ h => A.enc_mono hg h) hl⟩⟩
      refine hg2 b _ ?_
      simp only at ef
      rw [ef]; simp [sng]
    · exact ⟨ad, 0, by rw [e]; rfl, by simp, Nat.zero_le _, fun _ => rfl, .inl rfl⟩
  refine ⟨_, hg, ⟨fun i => ?_, ⟨fr, frzMem_ids hnd, hpin, ?_, hf.sub ?_⟩, hs.df, hs.pn⟩, hn⟩
  · show TV.rel _ _ (getS (frzSl id _ s.sl) i) _
    rw [getS_frz]
    exact TV.frzI_rel hg hn rfl (hs.sl i)
  · intro e he
    obtain ⟨_, b, h2, h3⟩ := frzMem_mem he
    rw [h3]
    exact Box.frzI_at hg hn (hat _ h2)
  · intro i hi
    obtain ⟨e, he, rfl⟩ := List.mem_map.1 hi
    obtain ⟨h1, b, h2, _⟩ := frzMem_mem he
    simp only [List.mem_filter, ne_eq, decide_not, Bool.not_eq_true', decide_eq_false_iff_not]
    exact ⟨List.mem_map.2 ⟨_, h2, rfl⟩, h1⟩

def vFrz : List Nat → SymSt → (SymSt → Prop) → Prop
  | [], s, K => K s
  | id :: r, s, K => match getM s.mem id with
    | some (.arr A l) => vFrz r (s.freeze id (.dat (.slice A) l)) K
    | _ => vFrz r s K
theorem vFrz_spec {R : Fr} {γ : Nat → Value} {a : Act} {w : World} {K : SymSt → Prop} : ∀ {ids : List Nat} {s : SymSt} {G : Hp}, vFrz ids s K → Simm R G γ s a w → ∃ G' s', Hp.le G G' ∧ K s' ∧ Simm R G' γ s' a w
  | [], s, G, h, hs => ⟨G, s, Hp.le_refl G, h, hs⟩
  | id :: r, s, G, h, hs => by
    unfold vFrz at h
    split at h
    · rename_i α A l hm
      obtain ⟨G1, hg1, hs1, _⟩ := hs.freeze hm
      obtain ⟨G2, s2, hg2, hK, hs2⟩ := vFrz_spec h hs1
      exact ⟨G2, s2, Hp.le_trans hg1 hg2, hK, hs2⟩
    · exact vFrz_spec h hs
def LV.owns : LV → List Nat
  | .own id => [id]
  | _ => []
def ownsL : List LV → List Nat
  | [] => []
  | x :: r => x.owns ++ ownsL r
def ownsO (s : SymSt) : List Operand → List Nat
  | [] => []
  | x :: r => ownsL (ev s x).leaves ++ ownsO s r

/-- Behind a freeze. -/
theorem Sound.frz {P : Program} {o : Oper} {s : SymSt} {K : KT} {ids : List Nat} {Q : SymSt → Prop} (h : vFrz ids s Q) (hq : ∀ s', Q s' → Sound P o s' K) : Sound P o s K := by
  intro R G γ a w hs
  obtain ⟨G', s', hg, hQ, hs'⟩ := vFrz_spec h hs
  have := hq s' hQ R G' γ a w hs'
  have up : ∀ v w', After R G' a K v w' → After R G a K v w' := fun v w' ⟨G2, γ2, tv, s2, h1, h2⟩ => ⟨G2, γ2, tv, s2, Hp.le_trans hg h1, h2⟩
  unfold opSem at this ⊢
  revert this
  generalize (execOp a.eval o).run P w = r
  intro this
  cases r with
  | ok n w' =>
    cases n
    case value v => exact up _ _ this
    case skip => exact up _ _ this
    case enter f args => exact Calls.mono this fun e w'' ⟨v, e1, h⟩ => ⟨v, e1, up _ _ h⟩
    all_goals exact this.elim
  | halt x w' => exact this.elim

section
variable {C : Ctx} {s : SymSt} {K : KT} {o : Oper}

/-- Elements of a literal row. -/
def packL {α : Type} (A : Rep α) (s : SymSt) : List (Nat × Operand) → List α → (List α → Prop) → Prop
  | [], l, f => f l
  | p :: r, l, f => p.1 < l.length ∧ asR A (ev s p.2) fun y => packL A s r (l.set p.1 y) f
def vBuildSlice (C : Ctx) (d : Nat) (s : SymSt) (t : TypeId) (len : Nat) (parts : List (Nat × Operand)) (K : KT) : Prop := match tdOf C t with
  | .slice e => (match C.ty e with
    | some ei => (match ei.rep with
      | some r => ei.size ≠ 0 ∧ r.A.size = ei.size ∧ len * ei.size ≤ 16777216 ∧ vFrz (ownsO s (parts.map (·.2))) s fun s' => packL r.A s' parts (List.replicate len r.A.zero) fun l => l.length = len ∧ s'.room d ∧ K (.one (.l (.own d))) (s'.add d (.arr r.A l))
      | none => False)
    | none => False)
  | _ => False

theorem pack_spec {G : Hp} {γ : Nat → Value} {a : Act} (hs : SlotsOk G γ s.sl a.tmps) {α : Type} {A : Rep α} : ∀ {parts : List (Nat × Operand)} {l : List α} {f : List α → Prop} {cs : List Value}, packL A s parts l f → EncL (fun x c => A.enc G x c) l cs →
    ∃ l' cs', f l' ∧ EncL (fun x c => A.enc G x c) l' cs' ∧ Instr.fill (fun i => some (i * A.size, A.size)) cs.toArray (parts.map fun p => (p.1, a.eval p.2)) = some cs'.toArray
  | [], l, f, cs, h, hr => ⟨l, cs, h, hr, rfl⟩
  | p :: r, l, f, cs, h, hr => by
    unfold packL at h
    obtain ⟨hi, h⟩ := h
    obtain ⟨y, h, hy⟩ := asR_sound h (ev_rel hs p.2)
    obtain ⟨p1, c1, q1, rfl, hp1, hc1, h1, h2⟩ := EncL.at (fun _ _ h => A.enc_length h) hr p.1 hi
    obtain ⟨l2, cs2, hf2, hr2, hrun⟩ := pack_spec hs h (EncL.set hi h1 hy h2)
    refine ⟨l2, cs2, hf2, hr2, ?_⟩
    have hlen : (a.eval p.2).cells.toList.length = A.size := A.enc_length hy
    have hsize : (a.eval p.2).cells.size = A.size := by simpa using hlen
    have hc : c1.length = A.size := A.enc_length hc1
    simp only [List.map_cons, Instr.fill]
    have hno : (decide ((a.eval p.2).cells.size ≠ A.size) || decide (p.1 * A.size + (a.eval p.2).cells.size > (p1 ++ c1 ++ q1).toArray.size)) = false := by
      have : (p1 ++ c1 ++ q1).toArray.size = p.1 * A.size + A.size + q1.length := by simp only [List.size_toArray, List.length_append]; omega
      rw [this, hsize]; simp
    rw [hno]
    simp only [Bool.false_eq_true, if_false]
    have hfold := fold_set (off := p.1 * A.size) (a.eval p.2).cells.toList c1 p1 q1 0 (by omega) (by omega)
    have e : (a.eval p.2).cells.zipIdx.foldl (fun (cs : Array Value) (c : Value × Nat) => cs.setIfInBounds (p.1 * A.size + c.2) c.1) (p1 ++ c1 ++ q1).toArray = (p1 ++ (a.eval p.2).cells.toList ++ q1).toArray := by
      rw [← Array.foldl_toList, Array.toList_zipIdx, List.append_assoc, List.append_assoc]
      exact hfold
    rw [e]
    exact hrun

theorem flat_get (l : List Value) (hl : 0 < l.length) : ∀ (n i : Nat), i < n * l.length → (List.replicate n l).flatten[i]? = l[i % l.length]?
  | 0, i, h => by simp at h
  | n + 1, i, h => by
    rw [List.replicate_succ, List.flatten_cons, List.getElem?_append]
    split
    · rename_i h1; rw [Nat.mod_eq_of_lt h1]
    · rename_i h1
      rw [flat_get l hl n (i - l.length) (by rw [Nat.succ_mul] at h; omega)]
      congr 1
      exact (Nat.mod_eq_sub_mod (by omega)).symm
theorem made_cells (z : Array Value) (n : Nat) : ((Array.range (n * z.size)).map (z[· % z.size]!)).toList = (List.replicate n z.toList).flatten := by
  have hz : z.toList.length = z.size := by simp
  apply List.ext_getElem?
  intro i
  by_cases hi : i < n * z.size
  · have h0 : 0 < z.size := by rcases Nat.eq_zero_or_pos z.size with h | h; rw [h] at hi; simp at hi; exact h
    rw [flat_get z.toList (by omega) n i (by omega), hz]
    have hm : i % z.size < z.size := Nat.mod_lt _ h0
    simp [hi, hm]
  · have h1 : ((Array.range (n * z.size)).map (z[· % z.size]!)).toList.length ≤ i := by simp; omega
    have h2 : (List.replicate n z.toList).flatten.length ≤ i := by simp; omega
    rw [List.getElem?_eq_none h1, List.getElem?_eq_none h2]

theorem EncL.replicate {α : Type} {A : Rep α} {G : Hp} {z : List Value} (h : A.enc G A.zero z) : ∀ n, EncL (fun x c => A.enc G x c) (List.replicate n A.zero) (List.replicate n z).flatten
  | 0 => rfl
  | n + 1 => ⟨z, (List.replicate n z).flatten, by simp [List.replicate_succ], h, EncL.replicate h n⟩

theorem buildSlice_sound {t : TypeId} {len : Nat} {parts : Array (Nat × Operand)} (ho : o.op = .buildSlice t len parts) (h : vBuildSlice C (dstOf o) s t len parts.toList K) : Sound C.P o s K := by
  unfold vBuildSlice at h
  split at h
  · rename_i e htd
    have hu : C.P.underlying t = some (.slice e) := by have := tdOf_fits (C := C) (t := t) (by rw [htd]; simp); rw [htd] at this; exact this
    split at h
    · rename_i ei hei
      split at h
      · rename_i r hr
        obtain ⟨hsz, hA, hmax, h⟩ := h
        refine Sound.frz h ?_
        intro s' h R G γ a w hs
        have hok := C.ok e ei hei
        obtain ⟨x, z, hx, _, _, hz, _⟩ := hok.inf
        have hzr : ∀ w, (zeroValue e).run C.P w = .ok z w := fun w => by simp [zeroValue, run_info hx, hz]
        have henc := hok.rep r hr G z x hx hz
        have hzs : z.cells.size = ei.size := by have := r.A.enc_length henc; rw [hA] at this; simpa using this
        obtain ⟨l, cs, ⟨hlen, hroom, hK⟩, hl, hfill⟩ := pack_spec hs.sl h (EncL.replicate henc len)
        have hmap : (parts.map fun (p : Nat × Operand) => (p.1, a.eval p.2)).toList = parts.toList.map fun p => (p.1, a.eval p.2) := by simp
        have hcells : (Array.range (len * ei.size)).map ((if len * ei.size = 0 then #[] else z.cells : Array Value)[· % (if len * ei.size = 0 then #[] else z.cells : Array Value).size]!) = ((List.replicate len z.cells.toList).flatten).toArray := by
          by_cases h0 : len * ei.size = 0
          · have : len = 0 := by rcases Nat.mul_eq_zero.1 h0 with h | h; exact h; exact absurd h hsz
            subst this
            simp
          · apply Array.ext'
            have := made_cells z.cells len
            rw [hzs] at this
            simp only [h0, if_false, hzs]
            simpa using this
        have hrun : (execOp a.eval o).run C.P w = .ok (.value (.slice (some ⟨w.heap.size, 0, none⟩) len len)) (wpush w (.cells cs.toArray e)) := by
          have hno : ¬ len * ei.size > 2 ^ 24 := by omega
          rw [hA] at hfill
          by_cases h0 : len * ei.size = 0
          · simp only [h0, if_true] at hcells
            simp only [h0] at hno
            simp only [execOp, ho, Instr.buildSlice, Sem.run_bind, run_under hu, Result.andThen_ok, run_size hok, h0, if_neg hno, if_true, Sem.run_pure, hmap, hcells, hfill, newRow, run_newObj]
            rfl
          · simp only [h0, if_false] at hcells
            simp only [execOp, ho, Instr.buildSlice, Sem.run_bind, run_under hu, Result.andThen_ok, run_size hok, h0, if_neg hno, if_false, hzr, Sem.run_pure, hmap, hcells, hfill, newRow, run_newObj]
            rfl
        refine opSem_value hrun ?_
        have hb : (Box.arr r.A l).at G γ (.slice (some ⟨w.heap.size, 0, none⟩) len len) (sng w.heap.size (.cells cs.toArray e (0, 0))) :=
          .inl ⟨w.heap.size, e, cs, [], len, by rw [hlen], by simp, hl, by omega, (by have := Nat.le_mul_of_pos_right len (Nat.pos_of_ne_zero hsz); unfold mxL; omega), by simp [hlen]⟩
        refine ⟨G, _, _, _, Hp.le_refl G, hK, ?_, hs.push (dstOf o) hroom hb⟩
        simp [TV.rel, SV.rel, LV.relV, LV.rel, updG_same, Rep.plainCell]
      · exact h.elim
    · exact h.elim
  · exact h.elim
end
end Go.Proofs.Ytnmjcdlgfimnaaa
