/- Appending on symbolic states; bytes of a text; copying into an array. -/
import Derived.Test.YtnmjcdlgfimnaaaFke
namespace Go.Proofs.Ytnmjcdlgfimnaaa

def rmM : List (Nat × Box) → Nat → List (Nat × Box)
  | [], _ => []
  | (j, b) :: r, i => bif j == i then rmM r i else (j, b) :: rmM r i
def SymSt.rm (s : SymSt) (id : Nat) : SymSt := ⟨s.sl, rmM s.mem id, s.pins⟩
theorem rmM_mem {id : Nat} : ∀ {mem : List (Nat × Box)} {e : Nat × Box}, e ∈ rmM mem id → e ∈ mem ∧ e.1 ≠ id
  | [], _, h => by simp [rmM] at h
  | (j, b) :: r, e, h => by
    unfold rmM at h
    cases hj : (j == id)
    · rw [hj, cond_false, List.mem_cons] at h
      rcases h with rfl | h
      · exact ⟨by simp, by simpa using hj⟩
      · exact ⟨by simp [(rmM_mem h).1], (rmM_mem h).2⟩
    · rw [hj, cond_true] at h
      exact ⟨by simp [(rmM_mem h).1], (rmM_mem h).2⟩
theorem rmM_ids {id : Nat} : ∀ {mem : List (Nat × Box)}, (idsM mem).Nodup → (idsM (rmM mem id)).Nodup
  | [], _ => by simp [rmM, idsM]
  | (j, b) :: r, h => by
    simp only [idsM, List.map_cons, List.nodup_cons] at h
    unfold rmM
    cases hj : (j == id)
    · simp only [cond_false, idsM, List.map_cons, List.nodup_cons]
      refine ⟨fun hm => h.1 ?_, rmM_ids h.2⟩
      obtain ⟨e, he, rfl⟩ := List.mem_map.1 hm
      exact List.mem_map.2 ⟨_, (rmM_mem he).1, rfl⟩
    · exact rmM_ids h.2

theorem Ok.rename {w : World} {G : Hp} {R : Fr} {ids ids' : List Nat} {fr : Nat → Hp} (h : Ok w G R ids fr) {id d : Nat} (hid : id ∈ ids) (hs : ∀ i ∈ ids', i ∈ ids ∧ i ≠ id) (hd : d ∉ ids') :
    Ok w G R (d :: ids') (updF fr d (fr id)) := by
  have ne : ∀ i ∈ ids', i ≠ d := fun i hi e => hd (e ▸ hi)
  refine ⟨h.g, h.r, h.gr, ?_, ?_, ?_, ?_, h.os, h.out⟩
  · intro i hi
    rcases List.mem_cons.1 hi with rfl | hi
    · rw [updF_same]; exact h.f id hid
    · rw [updF_ne (ne i hi)]; exact h.f i (hs i hi).1
  · intro i hi b hb
    rcases List.mem_cons.1 hi with rfl | hi
    · rw [updF_same] at hb; exact h.gf id hid b hb
    · rw [updF_ne (ne i hi)] at hb; exact h.gf i (hs i hi).1 b hb
  · intro i hi b hb
    rcases List.mem_cons.1 hi with rfl | hi
    · rw [updF_same] at hb; exact h.rf id hid b hb
    · rw [updF_ne (ne i hi)] at hb; exact h.rf i (hs i hi).1 b hb
  · intro i hi j hj hij b hb
    rcases List.mem_cons.1 hi with ei | hi' <;> rcases List.mem_cons.1 hj with ej | hj'
    · exact absurd (ei.trans ej.symm) hij
    · rw [ei, updF_same] at hb; rw [updF_ne (ne j hj')]; exact h.ff id hid j (hs j hj').1 (Ne.symm (hs j hj').2) b hb
    · rw [updF_ne (ne i hi')] at hb; rw [ej, updF_same]; exact h.ff i (hs i hi').1 id hid (hs i hi').2 b hb
    · rw [updF_ne (ne i hi')] at hb; rw [updF_ne (ne j hj')]; exact h.ff i (hs i hi').1 j (hs j hj').1 hij b hb

/-- Nothing, with a name of its own. -/
theorem Ok.nothing {w : World} {G : Hp} {R : Fr} {ids : List Nat} {fr : Nat → Hp} (h : Ok w G R ids fr) {d : Nat} (hd : d ∉ ids) : Ok w G R (d :: ids) (updF fr d emp) := by
  have ne : ∀ i ∈ ids, i ≠ d := fun i hi e => hd (e ▸ hi)
  refine ⟨h.g, h.r, h.gr, ?_, ?_, ?_, ?_, h.os, h.out⟩
  · intro i hi
    rcases List.mem_cons.1 hi with rfl | hi
    · rw [updF_same]; intro b o hb; simp [emp] at hb
    · rw [updF_ne (ne i hi)]; exact h.f i hi
  · intro i hi b hb
    rcases List.mem_cons.1 hi with rfl | hi
    · rw [updF_same] at hb; simp [emp] at hb
    · rw [updF_ne (ne i hi)] at hb; exact h.gf i hi b hb
  · intro i hi b hb
    rcases List.mem_cons.1 hi with rfl | hi
    · rw [updF_same] at hb; simp [emp] at hb
    · rw [updF_ne (ne i hi)] at hb; exact h.rf i hi b hb
  · intro i hi j hj hij b hb
    rcases List.mem_cons.1 hi with ei | hi' <;> rcases List.mem_cons.1 hj with ej | hj'
    · exact absurd (ei.trans ej.symm) hij
    · rw [ei, updF_same] at hb; simp [emp] at hb
    · rw [ej, updF_same]; rfl
    · rw [updF_ne (ne i hi')] at hb; rw [updF_ne (ne j hj')]; exact h.ff i hi' j hj' hij b hb

theorem MemF.add {R : Fr} {G : Hp} {γ : Nat → Value} {fr : Nat → Hp} {mem : List (Nat × Box)} {w : World} (hnd : (idsM mem).Nodup) (hpin : ∀ i v, R.pin i = some v → γ i = v) (hat : ∀ e ∈ mem, e.2.at G γ (γ e.1) (fr e.1))
    {d : Nat} {v : Value} {b : Box} {f : Hp} (hd : R.pin d = none) (hb : b.at G γ v f) (hok : Ok w G R (d :: idsM (killMem d mem)) (updF fr d f)) :
    MemAt R G (updG γ d v) ((d, b.kill d) :: killMem d mem) w := by
  have hγ : ∀ i, i ≠ d → updG γ d v i = γ i := fun i hi => updG_ne hi
  have hid : d ∉ idsM (killMem d mem) := by
    intro hi
    obtain ⟨e, he, rfl⟩ := List.mem_map.1 hi
    exact (killMem_mem he).1 rfl
  refine ⟨updF fr d f, ?_, ?_, ?_, hok⟩
  · simp only [idsM, List.map_cons, List.nodup_cons]
    exact ⟨hid, killMem_ids hnd⟩
  · intro i u hi
    have : i ≠ d := by rintro rfl; rw [hd] at hi; exact absurd hi (by simp)
    rw [updG_ne this]; exact hpin i u hi
  · intro e he
    rcases List.mem_cons.1 he with rfl | he
    · simp only [updG_same, updF_same]
      exact Box.kill_at hγ hb
    · obtain ⟨hne, b', h2, h3⟩ := killMem_mem he
      rw [updG_ne hne, updF_ne hne, h3]
      exact Box.kill_at hγ (hat _ h2)
theorem killMem_sub {d : Nat} {mem : List (Nat × Box)} : ∀ i ∈ idsM (killMem d mem), i ∈ idsM mem ∧ i ≠ d := by
  intro i hi
  obtain ⟨e, he, rfl⟩ := List.mem_map.1 hi
  obtain ⟨h1, b', h2, _⟩ := killMem_mem he
  exact ⟨List.mem_map.2 ⟨_, h2, rfl⟩, h1⟩
theorem rmM_sub {id : Nat} {mem : List (Nat × Box)} : ∀ i ∈ idsM (rmM mem id), i ∈ idsM mem ∧ i ≠ id := by
  intro i hi
  obtain ⟨e, he, rfl⟩ := List.mem_map.1 hi
  exact ⟨List.mem_map.2 ⟨_, (rmM_mem he).1, rfl⟩, (rmM_mem he).2⟩

/-- Something without memory. -/
theorem Simm.addNothing {R : Fr} {G : Hp} {γ : Nat → Value} {s : SymSt} {a : Act} {w : World} (hs : Simm R G γ s a w) {d : Nat} (hr : s.room d) {v : Value} {b : Box} (hb : b.at G γ v emp) : Simm R G (updG γ d v) (s.add d b) a w := by
  obtain ⟨fr, hnd, hpin, hat, hok⟩ := hs.mem
  refine ⟨hs.sl.kill fun _ hi => updG_ne hi, ?_, hs.df, hs.pn⟩
  refine MemF.add hnd hpin hat (hs.unpinned hr) hb ((hok.sub fun i hi => (killMem_sub i hi).1).nothing ?_)
  intro hi
  exact (killMem_sub _ hi).2 rfl
theorem MemAt.drew {R : Fr} {G : Hp} {γ : Nat → Value} {mem : List (Nat × Box)} {w : World} (h : MemAt R G γ mem w) (n : Nat) : MemAt R G γ mem { w with drawn := n } := by
  obtain ⟨fr, hnd, hpin, hat, hok⟩ := h
  exact ⟨fr, hnd, hpin, hat, hok.drew n⟩
theorem Simm.rm {R : Fr} {G : Hp} {γ : Nat → Value} {s : SymSt} {a : Act} {w : World} (hs : Simm R G γ s a w) (id : Nat) : Simm R G γ (s.rm id) a w := by
  obtain ⟨fr, hnd, hpin, hat, hok⟩ := hs.mem
  exact ⟨hs.sl, ⟨fr, rmM_ids hnd, hpin, fun e he => hat e (rmM_mem he).1, hok.sub fun i hi => (rmM_sub i hi).1⟩, hs.df, hs.pn⟩
theorem Simm.drew {R : Fr} {G : Hp} {γ : Nat → Value} {s : SymSt} {a : Act} {w : World} (hs : Simm R G γ s a w) (n : Nat) : Simm R G γ s a { w with drawn := n } := ⟨hs.sl, hs.mem.drew n, hs.df, hs.pn⟩

/-- A row of the call's own is written, and has another name from here on. -/
theorem Simm.turn {R : Fr} {G : Hp} {γ : Nat → Value} {s : SymSt} {a : Act} {w : World} (hs : Simm R G γ s a w) {fr : Nat → Hp} (hm : MemF R G γ fr s.mem w) {id d : Nat} {b0 : Box} (hg : getM s.mem id = some b0) (hr : s.room d) {n : Nat} {o o' : Obj} (hf : fr id = sng n o) {v : Value} {b : Box}
    (hb : b.at G γ v (sng n o')) : Simm R G (updG γ d v) ((s.rm id).add d b) a (wset w n o') := by
  obtain ⟨hnd, hpin, hat, hok⟩ := hm
  have hid : id ∈ idsM s.mem := List.mem_map.2 ⟨_, getM_mem hg, rfl⟩
  have h1 := hok.set hid hf o'
  refine ⟨hs.sl.kill fun _ hi => updG_ne hi, ?_, hs.df, hs.pn⟩
  have h2 : Ok (wset w n o') G R (d :: idsM (killMem d (rmM s.mem id))) (updF (updF fr id (sng n o')) d ((updF fr id (sng n o')) id)) :=
    h1.rename hid (fun i hi => rmM_sub i (killMem_sub i hi).1) fun hi => (killMem_sub _ hi).2 rfl
  rw [updF_same] at h2
  refine MemF.add (fr := updF fr id (sng n o')) (rmM_ids hnd) hpin ?_ (hs.unpinned hr) hb h2
  intro e he
  obtain ⟨h3, h4⟩ := rmM_mem he
  rw [updF_ne h4]; exact hat e h3

theorem Simm.turn0 {R : Fr} {G : Hp} {γ : Nat → Value} {s : SymSt} {a : Act} {w : World} (hs : Simm R G γ s a w) {fr : Nat → Hp} (hm : MemF R G γ fr s.mem w) {id d : Nat} {b0 : Box} (hg : getM s.mem id = some b0) (hr : s.room d) {v : Value} {b : Box}
    (hb : b.at G γ v (fr id)) : Simm R G (updG γ d v) ((s.rm id).add d b) a w := by
  obtain ⟨hnd, hpin, hat, hok⟩ := hm
  have hid : id ∈ idsM s.mem := List.mem_map.2 ⟨_, getM_mem hg, rfl⟩
  refine ⟨hs.sl.kill fun _ hi => updG_ne hi, ?_, hs.df, hs.pn⟩
  have h2 : Ok w G R (d :: idsM (killMem d (rmM s.mem id))) (updF fr d (fr id)) :=
    hok.rename hid (fun i hi => rmM_sub i (killMem_sub i hi).1) fun hi => (killMem_sub _ hi).2 rfl
  exact MemF.add (fr := fr) (rmM_ids hnd) hpin (fun e he => hat e (rmM_mem he).1) (hs.unpinned hr) hb h2

section
variable {C : Ctx} {s : SymSt} {K : KT} {o : Oper}

def slAs {α : Type} (A : Rep α) (q : SL) (f : List α → Prop) : Prop := match q with
  | @SL.mk β B m => ∃ h : β = α, HEq B A ∧ f (cast (congrArg List h) m)
def vApSrc (C : Ctx) (s : SymSt) (xt : TypeId) (v : SV) (f : SL → Prop) : Prop := match v with
  | .l (.str b) => tdOf C xt = .str ∧ f (.mk (.int .u8) (b.map fun c => (c.toNat : Int)))
  | .l y => (match tdOf C xt with
    | .slice _ => vSrc s y f
    | _ => False)
  | _ => False
def vAppend (C : Ctx) (d : Nat) (s : SymSt) (t xt : TypeId) (x y : Operand) (K : KT) : Prop := match tdOf C t with
  | .slice e => (match C.ty e with
    | some ei => ei.size ≠ 0 ∧ sizeL ei.zero = ei.size ∧ (match ev s y with
      | .l .nils => tdOf C xt ≠ .other ∧ (match tdOf C xt with | .slice _ => True | _ => False) ∧ (match ev s x with
        | .l .nils => K (.one (.l .nils)) s
        | .l .emps => K (.one (.l .emps)) s
        | .l (.own id) => (match getM s.mem id with
          | some (.arr A l) => K (.one (.l (.own id))) s
          | _ => False)
        | _ => False)
      | v => vApSrc C s xt v fun q => (match ev s x with
        | .l .nils => (match q with
          | .mk A m => A.size = ei.size ∧ m.length * (ei.bytes + 1) ≤ 140737488355328 ∧ s.room d ∧ K (.one (.l (.own d))) (s.add d (.arr A m)))
        | .l .emps => (match q with
          | .mk A m => A.size = ei.size ∧ m.length * (ei.bytes + 1) ≤ 140737488355328 ∧ s.room d ∧ K (.one (.l (.own d))) (s.add d (.arr A m)))
        | .l (.own id) => (match getM s.mem id with
          | some (.arr A l) => slAs A q fun m => A.size = ei.size ∧ (l.length + m.length) * (ei.bytes + 1) ≤ 140737488355328 ∧ s.room d ∧ K (.one (.l (.own d))) ((s.rm id).add d (.arr A (l ++ m)))
          | _ => False)
        | _ => False))
    | none => False)
  | _ => False

/-- What is appended, in symbols. -/
theorem vApSrc_spec {R : Fr} {G : Hp} {γ : Nat → Value} {fr : Nat → Hp} {w : World} (hm : MemF R G γ fr s.mem w) {xt : TypeId} {v : SV} {f : SL → Prop} (h : vApSrc C s xt v f) {u : Value} (hv : v.rel G γ u) :
    ∃ (α : Type) (A : Rep α) (m : List α) (news : List Value), f (.mk A m) ∧ EncL (fun x c => A.enc G x c) m news ∧ AppSrc C.P A.size xt u m.length news w := by
  have pl : ∀ {α : Type} {A : Rep α} {m : List α} {news : List Value}, EncL (fun x c => A.enc G x c) m news → (∀ v ∈ news, Rep.plainCell v = true) ∧ news.length = m.length * A.size := fun {α A m news} he =>
    ⟨Rep.EncL.plain (fun _ _ h => A.enc_plain h) he, EncL.length (fun _ _ h => A.enc_length h) he⟩
  unfold vApSrc at h
  split at h
  · rename_i b
    obtain ⟨htd, h⟩ := h
    have hu : C.P.underlying xt = some .string := by have := tdOf_fits (C := C) (t := xt) (by rw [htd]; simp); rw [htd] at this; exact this
    have hx : u = .string ⟨b.toArray⟩ := (by simpa [SV.rel, LV.relV, LV.rel] using hv : u = .string ⟨b.toArray⟩ ∧ b.length ≤ mxL).1
    have he : EncL (fun x c => (Rep.int .u8).enc G x c) (b.map fun c => (c.toNat : Int)) (b.map fun c => Value.int .u8 c.toNat) := by
      rw [encL_ints]; simp only [List.map_map, List.mem_map]; exact ⟨rfl, by rintro x ⟨c, _, rfl⟩; exact inK_byte c⟩
    obtain ⟨h1, h2⟩ := pl he
    have hsz : (⟨b.toArray⟩ : ByteArray).size = b.length := by simp [ByteArray.size]
    have hfc : ∀ w', (Builtin.firstCells 1 b.length u).run C.P w' = .ok (b.map fun c => Value.int .u8 c.toNat).toArray w' := by
      intro w'
      subst hx
      have e : (⟨b.toArray⟩ : ByteArray).extract 0 b.length = ⟨b.toArray⟩ := by
        apply ByteArray.ext
        rw [ByteArray.data_extract]
        simp
      simp only [Builtin.firstCells, e, Sem.run_pure]
      congr 1
      apply Array.ext'
      simp
    refine ⟨Int, .int .u8, _, _, h, he, ⟨.inr hu, fun w' => ?_, ?_, ?_, h2, h1⟩⟩
    · subst hx
      simp only [Builtin.lenOf, hsz, Sem.run_pure, List.length_map]
    · rw [List.length_map]; exact hfc w
    · rw [List.length_map]; exact hfc w.drew
  · rename_i y hne
    split at h
    · rename_i e htd
      have hu : C.P.underlying xt = some (.slice e) := by have := tdOf_fits (C := C) (t := xt) (by rw [htd]; simp); rw [htd] at this; exact this
      obtain ⟨α, A, l, es, ad, cap, hf, hx, hle, hmx, hn, henc, hcells⟩ := vSrc_spec hm h hv
      obtain ⟨h1, h2⟩ := pl henc
      subst hx
      refine ⟨α, A, l, es, hf, henc, ⟨.inl ⟨e, hu⟩, fun w' => rfl, run_firstCells h2 (hcells w hm.agr), run_firstCells h2 (hcells w.drew ?_), h2, h1⟩⟩
      exact hm.agr
    · exact h.elim
  · exact h.elim

theorem append_sound {c : Call} {x y : Operand} {t xt : TypeId} (ho : o.op = .call c) (hc : c.callee = .builtin .append) (ha : c.args.toList = [x, y]) (ht : c.argTypes.toList = [t, xt]) (h : vAppend C (dstOf o) s t xt x y K) : Sound C.P o s K := by
  intro R G γ a w hs
  have ha' : c.args = #[x, y] := by apply Array.ext'; simpa using ha
  have ht' : c.argTypes = #[t, xt] := by apply Array.ext'; simpa using ht
  have exec : ∀ {v : Value} {w' : World}, (Builtin.append_ #[t, xt] o.type #[a.eval x, a.eval y]).run C.P w = .ok v w' → (execOp a.eval o).run C.P w = .ok (.value v) w' := by
    intro v w' hrun
    simp only [execOp, ho, resolve, hc, ha', ht', List.map_toArray, List.map_cons, List.map_nil, Sem.run_bind, Sem.run_pure, Result.andThen_ok, invoke, builtin, hrun]
  have hx := ev_rel hs.sl x
  have hy := ev_rel hs.sl y
  unfold vAppend at h
  split at h
  · rename_i e htd
    have hu : C.P.underlying t = some (.slice e) := by have := tdOf_fits (C := C) (t := t) (by rw [htd]; simp); rw [htd] at this; exact this
    split at h
    · rename_i ei hei
      obtain ⟨hsz0, hzl, h⟩ := h
      have hok := C.ok e ei hei
      have hsz : ∀ w, (sizeOf e).run C.P w = .ok ei.size w := fun w => run_size hok
      obtain ⟨xi, z, hxi, hxs, hxb, hz, hzr⟩ := hok.inf
      have hzlen : z.cells.size = ei.size := by
        have := RelL.length (hzr G γ)
        rw [hzl] at this
        simpa using this
      obtain ⟨fr, hmf⟩ := hs.mem
      have fin : ∀ {s' : SymSt} {w' : World} {v : Value} {γ0 : Nat → Value}, K (.one (.l (.own (dstOf o)))) s' → Simm R G (updG γ0 (dstOf o) v) s' a w' → Rep.plainCell v = true → After R G a K v w' := by
        intro s' w' v γ0 hK hs' hp
        refine ⟨G, _, _, s', Hp.le_refl G, hK, ?_, hs'⟩
        simp [TV.rel, SV.rel, LV.relV, LV.rel, updG_same, hp]
      have bound : ∀ {n : Nat}, n * (ei.bytes + 1) ≤ 140737488355328 → n ≤ 9223372036854775807 ∧ n * ei.bytes ≤ 140737488355328 := by
        intro n hn
        rw [Nat.mul_add] at hn
        constructor <;> omega
      have spare : ∀ (n m : Nat), (Builtin.zeroCells z.cells (n - m)).toList.length = (n - m) * ei.size := by
        intro n m
        simp [Builtin.zeroCells, hzlen]
      -- onto nothing
      have fresh : ∀ {α : Type} {A : Rep α} {m : List α} {news : List Value} {s1 : SymSt} {ad : Option Addr}, Simm R G γ s1 a w → a.eval x = .slice ad 0 0 → EncL (fun x c => A.enc G x c) m news → AppSrc C.P A.size xt (a.eval y) m.length news w →
          A.size = ei.size → m.length * (ei.bytes + 1) ≤ 140737488355328 → s1.room (dstOf o) → K (.one (.l (.own (dstOf o)))) (s1.add (dstOf o) (.arr A m)) → opSem C.P a.eval o w (After R G a K) := by
        intro α A m news s1 ad hs1 hx' henc hsrc hA hb hroom hK
        have hnl : news.length = m.length * A.size := EncL.length (fun _ _ h => A.enc_length h) henc
        rw [hA] at hsrc
        by_cases hm0 : m = []
        · subst hm0
          have : news = [] := List.length_eq_zero_iff.1 (by simpa using hnl)
          subst this
          have hrun := run_append_none (P := C.P) (w := w) (t := t) (xt := xt) (ty := o.type) hu hsz hsrc (ad := ad) (len := 0) (cap := 0) (Nat.le_refl _)
          rw [← hx'] at hrun
          exact opSem_value (exec hrun) (fin hK (hs1.addNothing hroom (.inr ⟨rfl, ⟨ad, rfl⟩, rfl⟩)) rfl)
        · have hpos : 0 < m.length := List.length_pos_iff.2 hm0
          obtain ⟨h63, hfit⟩ := bound hb
          have h0 : (Builtin.firstCells ei.size 0 (.slice ad 0 0)).run C.P w.drew = .ok ([] : List Value).toArray w.drew := run_firstCells (by simp) (by simp)
          have hrun := run_append_there (P := C.P) (w := w) (t := t) (xt := xt) (ty := o.type) hu hsz hxi hxb hz hsrc h0 (by omega) (by omega) (by simpa using hfit)
          rw [← hx'] at hrun
          have hge := grownCap_ge w (0 + m.length) 0 e
          refine opSem_value (exec hrun) (fin hK ((hs1.drew (w.drawn + 1)).push (dstOf o) hroom ?_) rfl)
          refine .inl ⟨_, e, news, _, grownCap w (0 + m.length) 0 e, by rw [Nat.zero_add], by rw [List.nil_append], henc, by omega, grownCap_le_maxLen _ _ _ _ (by unfold maxLen; omega), ?_⟩
          rw [spare, hA]; simp
      split at h
      · rename_i hey
        obtain ⟨hxo, hxt, h⟩ := h
        rw [hey] at hy
        have hy' : a.eval y = .slice none 0 0 := by simpa [SV.rel, LV.relV, LV.rel] using hy
        have hux : ∃ ex, C.P.underlying xt = some (.slice ex) := by
          split at hxt
          · rename_i ex hx2
            have := tdOf_fits (C := C) (t := xt) (by rw [hx2]; simp)
            rw [hx2] at this
            exact ⟨ex, this⟩
          · exact hxt.elim
        have hsrc : AppSrc C.P ei.size xt (a.eval y) 0 [] w := by
          rw [hy']
          exact ⟨.inl hux, fun _ => rfl, rfl, rfl, by simp, by simp⟩
        have none' : ∀ {ad : Option Addr} {n c : Nat} {tv : TV}, a.eval x = .slice ad n c → n ≤ c → K tv s → tv.rel G γ (.slice ad n c) → opSem C.P a.eval o w (After R G a K) := by
          intro ad n c tv hx' hle hK hrel
          have hrun := run_append_none (P := C.P) (w := w) (t := t) (xt := xt) (ty := o.type) hu hsz hsrc (ad := ad) (len := n) (cap := c) hle
          rw [← hx'] at hrun
          exact opSem_value (exec hrun) (.of hK hrel hs)
        split at h
        · rename_i hex
          rw [hex] at hx
          have hx' : a.eval x = .slice none 0 0 := by simpa [SV.rel, LV.relV, LV.rel] using hx
          exact none' hx' (Nat.le_refl _) h rfl
        · rename_i hex
          rw [hex] at hx
          obtain ⟨ad, hx'⟩ := hx
          exact none' (by simpa using hx') (Nat.le_refl _) h ⟨ad, rfl⟩
        · rename_i id hex
          rw [hex] at hx
          have hv' : a.eval x = γ id := by have h1 := hx; simp only [SV.rel, LV.relV, LV.rel, List.cons.injEq, and_true] at h1; exact h1.1
          split at h
          · rename_i α A l hm'
            rcases hmf.arr hm' with ⟨rfl, ad, e1⟩ | ⟨b, t2, es, sp, cp, e1, _, _, hle, _⟩
            · exact none' (hv'.trans e1) (Nat.le_refl _) h ⟨by rw [e1], by rw [e1]; rfl⟩
            · exact none' (hv'.trans e1) hle h ⟨by rw [e1], by rw [e1]; rfl⟩
          · exact h.elim
        · exact h.elim
      · obtain ⟨α, A, m, news, h, henc, hsrc⟩ := vApSrc_spec hmf h hy
        split at h
        · rename_i hex
          rw [hex] at hx
          have hx' : a.eval x = .slice none 0 0 := by simpa [SV.rel, LV.relV, LV.rel] using hx
          obtain ⟨hA, hb, hroom, hK⟩ := h
          exact fresh hs hx' henc hsrc hA hb hroom hK
        · rename_i hex
          rw [hex] at hx
          obtain ⟨ad, hx'⟩ := hx
          obtain ⟨hA, hb, hroom, hK⟩ := h
          exact fresh hs (by simpa using hx') henc hsrc hA hb hroom hK
        · rename_i id hex
          rw [hex] at hx
          have hv' : a.eval x = γ id := by have h1 := hx; simp only [SV.rel, LV.relV, LV.rel, List.cons.injEq, and_true] at h1; exact h1.1
          split at h
          · rename_i β B l hm'
            unfold slAs at h
            obtain ⟨rfl, hBA, hA, hb, hroom, hK⟩ := h
            obtain rfl := eq_of_heq hBA
            simp only [cast_eq] at hA hb hK
            have hmem := getM_mem hm'
            rcases hmf.at' _ hmem with ⟨b, bt, es, sp, cp, e1, ef, hl, hle, hmx, hsp⟩ | ⟨rfl, ⟨ad, e1⟩, _⟩
            · have hx' : a.eval x = .slice (some ⟨b, 0, none⟩) l.length cp := hv'.trans e1
              simp only at ef e1
              have hnl : news.length = m.length * A.size := EncL.length (fun _ _ h => A.enc_length h) henc
              have hel : es.length = l.length * A.size := EncL.length (fun _ _ h => A.enc_length h) hl
              have hbw : w.heap[b]? = some (.cells (es ++ sp).toArray bt (0, 0)) := hmf.ok.f id (List.mem_map.2 ⟨_, hmem, rfl⟩) b _ (by rw [ef]; simp [sng])
              rw [hA] at hsrc hnl hel hsp
              obtain ⟨h63, hfit⟩ := bound hb
              have hlm : (l ++ m).length = l.length + m.length := List.length_append
              by_cases hroom2 : l.length + m.length ≤ cp
              · by_cases hm0 : m = []
                · subst hm0
                  have : news = [] := List.length_eq_zero_iff.1 (by simpa using hnl)
                  subst this
                  have hrun := run_append_none (P := C.P) (w := w) (t := t) (xt := xt) (ty := o.type) hu hsz hsrc (ad := some ⟨b, 0, none⟩) hroom2
                  rw [← hx'] at hrun
                  refine opSem_value (exec hrun) (fin hK (hs.turn0 hmf hm' hroom ?_) rfl)
                  rw [ef]
                  exact .inl ⟨b, bt, es, sp, cp, by simp, rfl, by simpa using hl, by simpa using hle, hmx, by simpa [hA] using hsp⟩
                · have hpos : 0 < m.length := List.length_pos_iff.2 hm0
                  have hne : news ≠ [] := by
                    intro e2
                    rw [e2] at hnl
                    have := Nat.mul_pos hpos (Nat.pos_of_ne_zero hsz0)
                    simp at hnl; omega
                  have hspl : m.length * ei.size ≤ sp.length := by
                    rw [hsp]
                    exact Nat.mul_le_mul_right _ (by omega)
                  have hold : (sp.take (m.length * ei.size)).length = news.length := by simp; omega
                  have hbw' : w.heap[b]? = some (.cells (es ++ (sp.take (m.length * ei.size) ++ sp.drop (m.length * ei.size))).toArray bt (0, 0)) := by rw [List.take_append_drop]; exact hbw
                  have hrun := run_append_here (P := C.P) (w := w) (t := t) (xt := xt) (ty := o.type) hu hsz hsrc hbw' hel hold hroom2 hne
                  rw [← hx'] at hrun
                  refine opSem_value (exec hrun) (fin hK (hs.turn hmf hm' hroom ef ?_) rfl)
                  refine .inl ⟨b, bt, es ++ news, sp.drop (m.length * ei.size), cp, by rw [hlm], by rw [List.append_assoc], EncL.append hl henc, by omega, hmx, ?_⟩
                  rw [hlm, List.length_drop, hsp, hA, ← Nat.sub_mul]
                  congr 1
                  omega
              · have holds : (Builtin.firstCells ei.size l.length (.slice (some ⟨b, 0, none⟩) l.length cp)).run C.P w.drew = .ok es.toArray w.drew :=
                  run_firstCells hel fun j u hj => ⟨_, rfl, cells_at (p := []) (q := sp) (t := bt) (fr := (0, 0)) (show w.heap[b]? = _ by simpa using hbw) rfl hj⟩
                have hrun := run_append_there (P := C.P) (w := w) (t := t) (xt := xt) (ty := o.type) hu hsz hxi hxb hz hsrc holds (by omega) h63 hfit
                rw [← hx'] at hrun
                have hge := grownCap_ge w (l.length + m.length) cp e
                refine opSem_value (exec hrun) (fin hK (((hs.rm id).drew (w.drawn + 1)).push (dstOf o) hroom ?_) rfl)
                refine .inl ⟨_, e, es ++ news, _, grownCap w (l.length + m.length) cp e, by rw [hlm], by rw [List.append_assoc], EncL.append hl henc, by omega, grownCap_le_maxLen _ _ _ _ (by unfold maxLen; omega), ?_⟩
                rw [spare, hA, hlm]
            · exact fresh (hs.rm id) (hv'.trans e1) henc hsrc hA (by simpa using hb) hroom (by simpa using hK)
          · exact h.elim
        · exact h.elim
    · exact h.elim
  · exact h.elim
end
end Go.Proofs.Ytnmjcdlgfimnaaa
