/- Operations that turn nothing: parts of texts, rows and arrays; bytes as text; least and greatest; equal arrays; closures. -/
import Derived.Test.YtnmjcdlgfimnaaaFka
import Derived.Laws.BytesString
import Derived.Laws.Slices
namespace Go.Proofs.Ytnmjcdlgfimnaaa

/-- A row of data, wherever it lies. -/
inductive SL : Type 1
  | mk {α : Type} (A : Rep α) (l : List α)
def Rep.slSrc : {α : Type} → Rep α → α → Option SL
  | _, .slice A, l => some (.mk A l)
  | _, _, _ => none
def Rep.arrSrc : {α : Type} → Rep α → α → Option SL
  | _, .arr _ A, l => some (.mk A l)
  | _, .iso A to _ _ _, y => A.arrSrc (to y)
  | _, _, _ => none
def LV.arrSrc : LV → Option SL
  | .dat R x => R.arrSrc x
  | _ => none

theorem Rep.slSrc_spec : {α : Type} → (R : Rep α) → {x : α} → {β : Type} → {A : Rep β} → {l : List β} → R.slSrc x = some (.mk A l) → {G : Hp} → {cs : List Value} → R.enc G x cs → (Rep.slice A).enc G l cs ∧ R.agg = false
  | _, .slice A', x, β, A, l, h, G, cs, he => by
    simp only [slSrc, Option.some.injEq, SL.mk.injEq] at h
    obtain ⟨rfl, hA, hx⟩ := h
    obtain rfl := eq_of_heq hA
    obtain rfl := eq_of_heq hx
    exact ⟨he, rfl⟩
  | _, .int _, _, _, _, _, h, _, _, _ => by simp [slSrc] at h
  | _, .bool, _, _, _, _, h, _, _, _ => by simp [slSrc] at h
  | _, .str, _, _, _, _, h, _, _, _ => by simp [slSrc] at h
  | _, .unit, _, _, _, _, h, _, _, _ => by simp [slSrc] at h
  | _, .pair _ _, _, _, _, _, h, _, _, _ => by simp [slSrc] at h
  | _, .arr _ _, _, _, _, _, h, _, _, _ => by simp [slSrc] at h
  | _, .iso _ _ _ _ _, _, _, _, _, h, _, _, _ => by simp [slSrc] at h
theorem Rep.arrSrc_spec : {α : Type} → (R : Rep α) → {x : α} → {β : Type} → {A : Rep β} → {l : List β} → R.arrSrc x = some (.mk A l) → {G : Hp} → {cs : List Value} → R.enc G x cs → EncL (fun x c => A.enc G x c) l cs
  | _, .arr n A', x, β, A, l, h, G, cs, he => by
    simp only [arrSrc, Option.some.injEq, SL.mk.injEq] at h
    obtain ⟨rfl, hA, hx⟩ := h
    obtain rfl := eq_of_heq hA
    obtain rfl := eq_of_heq hx
    exact ((enc_arr n A' G x cs).1 he).2
  | _, .iso A' to of _ _, y, β, A, l, h, G, cs, he => A'.arrSrc_spec (by simpa only [arrSrc] using h) (by simpa only [enc] using he)
  | _, .int _, _, _, _, _, h, _, _, _ => by simp [arrSrc] at h
  | _, .bool, _, _, _, _, h, _, _, _ => by simp [arrSrc] at h
  | _, .str, _, _, _, _, h, _, _, _ => by simp [arrSrc] at h
  | _, .unit, _, _, _, _, h, _, _, _ => by simp [arrSrc] at h
  | _, .pair _ _, _, _, _, _, h, _, _, _ => by simp [arrSrc] at h
  | _, .slice _, _, _, _, _, h, _, _, _ => by simp [arrSrc] at h

/-- The array at the end of a way. -/
def arrP (sz : Nat) : Path → List LV → Nat → (LV → Prop) → Prop
  | [], l, off, f => match seekA sz 9 l off with
    | some (_, x, _) => f x
    | none => False
  | (b, sz', i) :: p, l, off, f => match seekA sz' 9 l b with
    | some (_, x, _) => (match x.arrOf with
      | some (len, s2) => s2 = sz' ∧ i.toNat < len ∧ arrP sz p [x.elemLV i.toNat] off f
      | none => False)
    | none => False
theorem arrP_spec {G : Hp} {γ : Nat → Value} {sz : Nat} : ∀ {path : Path} {l : List LV} {off : Nat} {f : LV → Prop} {cs : List Value}, arrP sz path l off f → RelL G γ l cs →
    ∃ x p es q, f x ∧ cs = p ++ (es ++ q) ∧ p.length = poff path off ∧ x.rel G γ es
  | [], l, off, f, cs, h, hr => by
    unfold arrP at h
    split at h
    · rename_i p1 x q1 hs
      obtain ⟨hr, hb⟩ := seekA_spec hs hr
      obtain ⟨c1, d, rfl, h1, c2, c3, rfl, h2, h3⟩ := RelL.append_inv hr
      exact ⟨x, c1, c2, c3, h, rfl, by rw [RelL.length h1, hb]; rfl, h2⟩
    · exact h.elim
  | (b, sz', i) :: path, l, off, f, cs, h, hr => by
    unfold arrP at h
    split at h
    · rename_i p1 x q1 hs
      obtain ⟨hr, hb⟩ := seekA_spec hs hr
      obtain ⟨c1, d, rfl, h1, c2, c3, rfl, h2, h3⟩ := RelL.append_inv hr
      split at h
      · rename_i len s2 ha
        obtain ⟨rfl, hi, h⟩ := h
        obtain ⟨p', c, q', e, hp', hc, hl, _⟩ := LV.elem_spec ha h2 hi
        obtain ⟨y, p2, es, q2, hf, e2, hp2, hg⟩ := arrP_spec h (RelL.one hl)
        refine ⟨y, c1 ++ (p' ++ p2), es, q2 ++ (q' ++ c3), hf, by rw [e, e2]; simp only [List.append_assoc], ?_, hg⟩
        have := RelL.length h1
        simp only [List.length_append, poff]; omega
      · exact h.elim
    · exact h.elim

section
variable {C : Ctx} {s : SymSt} {K : KT} {o : Oper}

/-- What a row holds. -/
def vSrc (s : SymSt) (y : LV) (f : SL → Prop) : Prop := match y with
  | .dat R x => (match R.slSrc x with
    | some q => f q
    | none => False)
  | .own id => (match getM s.mem id with
    | some (.arr A l) => f (.mk A l)
    | _ => False)
  | .view id path off n lo len => (match getM s.mem id with
    | some (.arr A l) => (match path with
      | [] => off = 0 ∧ n = A.size ∧ lo + len ≤ l.length ∧ f (.mk A ((l.drop lo).take len))
      | (0, sz, ix) :: p => sz = A.size ∧ ix.toNat < l.length ∧ arrP n p [A.leaf (l.getD ix.toNat A.zero)] off fun x => match x.arrSrc with
        | some (.mk A l) => A.size = n ∧ lo + len ≤ l.length ∧ f (.mk A ((l.drop lo).take len))
        | none => False
      | _ => False)
    | some (.segs l) => arrP n path l off fun x => match x.arrSrc with
      | some (.mk A l) => A.size = n ∧ lo + len ≤ l.length ∧ f (.mk A ((l.drop lo).take len))
      | none => False
    | _ => False)
  | _ => False

theorem cells_at {w : World} {b off : Nat} {p es q : List Value} {t : TypeId} {fr : Nat × Nat} (h : w.heap[b]? = some (.cells (p ++ (es ++ q)).toArray t fr)) (hp : p.length = off) {j : Nat} {u : Value} (hj : es[j]? = some u) :
    w.cell? ((⟨b, off, none⟩ : Addr).add j) = some u := by
  obtain ⟨hlt, rfl⟩ := List.getElem?_eq_some_iff.1 hj
  rw [add_off]
  have e : es = es.take j ++ es[j] :: es.drop (j + 1) := by simp
  refine cell_at (p := p ++ es.take j) (q := es.drop (j + 1) ++ q) (t := t) (fr := fr) ?_ (by simp; omega)
  rw [h]
  congr 3
  conv => lhs; rw [e]
  simp only [List.append_assoc, List.cons_append]

theorem cut_enc {α : Type} {A : Rep α} {G : Hp} {l : List α} {cs : List Value} (h : EncL (fun x c => A.enc G x c) l cs) (lo len : Nat) (hl : lo + len ≤ l.length) :
    ∃ p es q, cs = p ++ (es ++ q) ∧ p.length = lo * A.size ∧ EncL (fun x c => A.enc G x c) ((l.drop lo).take len) es := by
  have e : l = l.take lo ++ ((l.drop lo).take len ++ (l.drop lo).drop len) := by rw [List.take_append_drop, List.take_append_drop]
  rw [e] at h
  obtain ⟨p, r, e1, hp, hr⟩ := EncL.append_inv h
  obtain ⟨es, q, e2, he, hq⟩ := EncL.append_inv hr
  refine ⟨p, es, q, by rw [e1, e2], ?_, he⟩
  rw [EncL.length (fun _ _ h => A.enc_length h) hp, List.length_take, Nat.min_eq_left (by omega)]

theorem vSrc_spec {R : Fr} {G : Hp} {γ : Nat → Value} {fr : Nat → Hp} {w : World} (hm : MemF R G γ fr s.mem w) {y : LV} {f : SL → Prop} (h : vSrc s y f) {v : Value} (hv : y.relV G γ v) :
    ∃ (α : Type) (A : Rep α) (l : List α) (es : List Value) (a : Option Addr) (cap : Nat), f (.mk A l) ∧ v = .slice a l.length cap ∧ l.length ≤ cap ∧ cap ≤ mxL ∧ (a = none → cap = 0) ∧ EncL (fun x c => A.enc G x c) l es ∧
      ∀ w', Agr G fr (idsM s.mem) w' → ∀ (j : Nat) (u : Value), es[j]? = some u → ∃ ad, a = some ad ∧ w'.cell? (ad.add j) = some u := by
  unfold vSrc at h
  split at h
  · rename_i α0 R0 x
    split at h
    · rename_i q hq
      obtain ⟨A, l⟩ := q
      obtain ⟨cs, hc, e⟩ := hv
      obtain ⟨hc', hag⟩ := R0.slSrc_spec hq hc
      obtain ⟨a, cap, rfl, hle, hmx, hn, h'⟩ := (Rep.enc_slice A G l cs).1 hc'
      have e' : v = .slice a l.length cap := by rw [e]; simp [Rep.mk, hag]
      rcases h' with rfl | ⟨b, p, es, q, t, f0, rfl, hb, hl⟩
      · exact ⟨_, A, [], [], a, cap, h, e', hle, hmx, hn, rfl, fun _ _ j u hj => by simp at hj⟩
      · refine ⟨_, A, l, es, _, cap, h, e', hle, hmx, hn, hl, fun w' ha j u hj => ⟨_, rfl, ?_⟩⟩
        have hb' : hpOf w' b = _ := ha.1 _ _ hb
        exact cells_at (t := t) (fr := f0) (by simpa [hpOf] using hb') rfl hj
    · exact h.elim
  · rename_i id
    have hv' : v = γ id := by have h1 := hv; simp only [LV.relV, LV.rel, List.cons.injEq, and_true] at h1; exact h1.1
    split at h
    · rename_i α A l hm'
      rcases hm.arr hm' with ⟨rfl, a, e⟩ | ⟨b, t, es, sp, c, e, hb, hl, hle, hmx, _⟩
      · exact ⟨_, A, [], [], a, 0, h, by rw [hv', e]; rfl, by simp, Nat.zero_le _, fun _ => rfl, rfl, fun _ _ j u hj => by simp at hj⟩
      · exact ⟨_, A, l, es, some ⟨b, 0, none⟩, c, h, by rw [hv', e], hle, hmx, by simp, hl, fun w' ha j u hj => ⟨_, rfl, cells_at (p := []) (hb w' ha) rfl hj⟩⟩
    · exact h.elim
  · rename_i id path off n lo len
    obtain ⟨a, cap, hcap, hmx, e, hne, hnn⟩ := hv
    have e' : v = .slice a len cap := by simpa using e
    have fin : ∀ {α : Type} {A : Rep α} {l : List α} {es : List Value}, lo + len ≤ l.length → f (.mk A ((l.drop lo).take len)) → EncL (fun x c => A.enc G x c) ((l.drop lo).take len) es →
        (len ≠ 0 → ∀ w', Agr G fr (idsM s.mem) w' → ∀ (j : Nat) (u : Value), es[j]? = some u → w'.cell? ((⟨blk (γ id), poff path off + lo * n, none⟩ : Addr).add j) = some u) →
        ∃ (α : Type) (A : Rep α) (l : List α) (es : List Value) (a : Option Addr) (cap : Nat), f (.mk A l) ∧ v = .slice a l.length cap ∧ l.length ≤ cap ∧ cap ≤ mxL ∧ (a = none → cap = 0) ∧ EncL (fun x c => A.enc G x c) l es ∧
          ∀ w', Agr G fr (idsM s.mem) w' → ∀ (j : Nat) (u : Value), es[j]? = some u → ∃ ad, a = some ad ∧ w'.cell? (ad.add j) = some u := by
      intro α A l es hlen hf he hc
      have hl2 : ((l.drop lo).take len).length = len := by simp; omega
      refine ⟨α, A, (l.drop lo).take len, es, a, cap, hf, by rw [hl2]; exact e', by rw [hl2]; exact hcap, hmx, hnn, he, fun w' ha j u hj => ?_⟩
      by_cases h0 : len = 0
      · subst h0
        simp only [List.take_zero, EncL] at he
        rw [he] at hj; simp at hj
      · exact ⟨_, hne h0, hc h0 w' ha j u hj⟩
    split at h
    · rename_i α A l hm'
      split at h
      · obtain ⟨rfl, rfl, hlen, h⟩ := h
        rcases hm.arr hm' with ⟨rfl, a', e1⟩ | ⟨b, t, es, sp, c, e1, hb, hl, hle, _⟩
        · have hl0 : lo = 0 ∧ len = 0 := by simp at hlen; omega
          obtain ⟨rfl, rfl⟩ := hl0
          exact fin (es := []) hlen h rfl (fun h0 => absurd rfl h0)
        · obtain ⟨p, e2, q, rfl, hp, he⟩ := cut_enc hl lo len hlen
          refine fin hlen h he fun _ w' ha j u hj => ?_
          have := hb w' ha
          simp only [e1, blk]
          exact cells_at (p := p) (q := q ++ sp) (t := t) (fr := (0, 0)) (by rw [this]; simp only [List.append_assoc]) (by simpa [poff] using hp) hj
      · rename_i sz ix pth
        obtain ⟨rfl, hix, h⟩ := h
        rcases hm.arr hm' with ⟨rfl, _⟩ | ⟨b, t, es, sp, c, e1, hb, hl, _, _⟩
        · simp at hix
        · obtain ⟨p1, c1, q1, rfl, hp1, hc1, _, _⟩ := EncL.at (fun _ _ h => A.enc_length h) hl ix.toNat hix
          have hd : l.getD ix.toNat A.zero = l[ix.toNat] := by rw [List.getD_eq_getElem?_getD, List.getElem?_eq_getElem hix]; rfl
          rw [hd] at h
          obtain ⟨x, p3, es3, q3, h1, rfl, hp3, hx⟩ := arrP_spec h (RelL.one ((A.leaf_rel G γ _ _).2 hc1))
          split at h1
          · rename_i β B l2 hsrc
            obtain ⟨hA, hlen, h1⟩ := h1
            subst hA
            have hl : EncL (fun x c => B.enc G x c) l2 es3 := by
              cases x <;> simp only [LV.arrSrc] at hsrc
              case dat R0 y => exact R0.arrSrc_spec hsrc hx
              all_goals simp at hsrc
            obtain ⟨p2, e2, q2, rfl, hp2, he⟩ := cut_enc hl lo len hlen
            refine fin hlen h1 he fun _ w' ha j u hj => ?_
            have := hb w' ha
            simp only [e1, blk]
            exact cells_at (p := p1 ++ (p3 ++ p2)) (q := q2 ++ (q3 ++ (q1 ++ sp))) (t := t) (fr := (0, 0)) (by rw [this]; simp only [List.append_assoc]) (by simp only [List.length_append, poff]; omega) hj
          · exact h1.elim
      · exact h.elim
    · rename_i l hm'
      obtain ⟨b, t, cs, e1, hb, hr⟩ := hm.segs hm'
      obtain ⟨x, p, es, q, h1, rfl, hp, hx⟩ := arrP_spec h hr
      split at h1
      · rename_i α A l2 hsrc
        obtain ⟨hA, hlen, h1⟩ := h1
        subst hA
        have hl : EncL (fun x c => A.enc G x c) l2 es := by
          cases x <;> simp only [LV.arrSrc] at hsrc
          case dat R0 y => exact R0.arrSrc_spec hsrc hx
          all_goals simp at hsrc
        obtain ⟨p2, e2, q2, rfl, hp2, he⟩ := cut_enc hl lo len hlen
        refine fin hlen h1 he fun _ w' ha j u hj => ?_
        have := hb w' ha
        simp only [e1, blk]
        exact cells_at (p := p ++ p2) (q := q2 ++ q) (t := t) (fr := (0, 0)) (by rw [this]; simp only [List.append_assoc]) (by simp only [List.length_append]; omega) hj
      · exact h1.elim
    · exact h.elim
  · exact h.elim

/-- A bound. -/
def bndI (s : SymSt) (d : Int) : Option Operand → Option Int
  | none => some d
  | some x => match ev s x with
    | .l (.int _ n) => some n
    | _ => none
def OptI (v : Option Value) (d n : Int) : Prop := (v = none ∧ n = d) ∨ ∃ k, v = some (.int k n)
theorem bndI_spec {G : Hp} {γ : Nat → Value} {a : Act} (hs : SlotsOk G γ s.sl a.tmps) {d n : Int} {x : Option Operand} (h : bndI s d x = some n) : OptI (x.map a.eval) d n := by
  cases x with
  | none => simp only [bndI, Option.some.injEq] at h; exact .inl ⟨rfl, h.symm⟩
  | some x =>
    simp only [bndI] at h
    split at h
    · rename_i k m he
      simp only [Option.some.injEq] at h
      subst h
      have hx := ev_rel hs x
      rw [he] at hx
      exact .inr ⟨k, by rw [Option.map_some, (by simpa [SV.rel, LV.relV, LV.rel] using hx : a.eval x = .int k m ∧ inK k m).1]⟩
    · simp at h
theorem run_bounds {P : Program} {w : World} {b : Bool} {len cap : Nat} {lo hi : Option Value} {l h : Int} (hlo : OptI lo 0 l) (hhi : OptI hi len h) (h0 : 0 ≤ l) (h1 : l ≤ h) (h2 : h ≤ cap) :
    (Instr.sliceBounds b len cap lo hi none).run P w = .ok (l.toNat, h.toNat, cap) w := by
  have hh : ((h.toNat : Nat) : Int) = h := by omega
  have s1 : ∀ k code, (Instr.sliceBound (.int k h) cap code).run P w = .ok h.toNat w := fun k code => by
    have : 0 ≤ h ∧ h ≤ (cap : Int) := ⟨by omega, h2⟩
    simp [Instr.sliceBound, asIntOf, this]
  have s2 : ∀ k code, (Instr.sliceBound (.int k l) h.toNat code).run P w = .ok l.toNat w := fun k code => by
    have : 0 ≤ l ∧ l ≤ (h.toNat : Int) := ⟨by omega, by omega⟩
    simp only [Instr.sliceBound, asIntOf, Sem.run_bind, Sem.run_pure, Result.andThen_ok, if_pos this]
  rcases hlo with ⟨rfl, rfl⟩ | ⟨k, rfl⟩ <;> rcases hhi with ⟨rfl, rfl⟩ | ⟨k', rfl⟩
  · simp [Instr.sliceBounds]
  · cases b <;> simp [Instr.sliceBounds, s1]
  · simp only [Int.toNat_natCast] at s2
    cases b <;> simp [Instr.sliceBounds, s2]
  · cases b <;> simp [Instr.sliceBounds, s1, s2]
theorem run_bounds3 {P : Program} {w : World} {b : Bool} {len cap : Nat} {lo : Option Value} {l h m : Int} {kh km : IntKind} (hlo : OptI lo 0 l) (h0 : 0 ≤ l) (h1 : l ≤ h) (h2 : h ≤ m) (h3 : m ≤ cap) :
    (Instr.sliceBounds b len cap lo (some (.int kh h)) (some (.int km m))).run P w = .ok (l.toNat, h.toNat, m.toNat) w := by
  have s0 : ∀ k code, (Instr.sliceBound (.int k m) cap code).run P w = .ok m.toNat w := fun k code => by
    have : 0 ≤ m ∧ m ≤ (cap : Int) := ⟨by omega, h3⟩
    simp only [Instr.sliceBound, asIntOf, Sem.run_bind, Sem.run_pure, Result.andThen_ok, if_pos this]
  have s1 : ∀ k code, (Instr.sliceBound (.int k h) m.toNat code).run P w = .ok h.toNat w := fun k code => by
    have : 0 ≤ h ∧ h ≤ (m.toNat : Int) := ⟨by omega, by omega⟩
    simp only [Instr.sliceBound, asIntOf, Sem.run_bind, Sem.run_pure, Result.andThen_ok, if_pos this]
  have s2 : ∀ k code, (Instr.sliceBound (.int k l) h.toNat code).run P w = .ok l.toNat w := fun k code => by
    have : 0 ≤ l ∧ l ≤ (h.toNat : Int) := ⟨by omega, by omega⟩
    simp only [Instr.sliceBound, asIntOf, Sem.run_bind, Sem.run_pure, Result.andThen_ok, if_pos this]
  rcases hlo with ⟨rfl, rfl⟩ | ⟨k, rfl⟩
  · cases b <;> simp [Instr.sliceBounds, s0, s1]
  · cases b <;> simp [Instr.sliceBounds, s0, s1, s2]

/-- A part of a text, a row or an array. -/
def vSlice (C : Ctx) (s : SymSt) (t : TypeId) (x : Operand) (lo hi mx : Option Operand) (K : KT) : Prop := match bndI s 0 lo with
  | none => False
  | some l => match tdOf C t with
    | .str => (match mx, ev s x with
      | none, .l (.str b) => (match bndI s b.length hi with
        | some h => 0 ≤ l ∧ l ≤ h ∧ h ≤ b.length ∧ K (.one (.l (.str ((b.take h.toNat).drop l.toNat)))) s
        | none => False)
      | _, _ => False)
    | .arr n e => (match mx, C.ty e, ev s x, bndI s n hi with
      | none, some ei, .l (.ptr id path off), some h => 0 ≤ l ∧ l ≤ h ∧ h ≤ n ∧ n ≤ 9223372036854775807 ∧ K (.one (.l (.view id path off ei.size l.toNat (h - l).toNat))) s
      | _, _, _, _ => False)
    | .slice e => (match C.ty e, ev s x with
      | some ei, .l (.dat R y) => (match R.slSrc y with
        | some (.mk A lst) => A.size = ei.size ∧ (match bndI s lst.length hi with
          | some h => (match mx with
            | none => 0 ≤ l ∧ l ≤ h ∧ h ≤ lst.length ∧ K (.one (.l (.dat (.slice A) ((lst.take h.toNat).drop l.toNat)))) s
            | some m => (match ev s m with
              | .l (.int _ c) => hi.isSome = true ∧ 0 ≤ l ∧ l ≤ h ∧ h ≤ c ∧ c ≤ lst.length ∧ (l = c → K (.one (.l .emps)) s) ∧ (l ≠ c → K (.one (.l (.dat (.slice A) ((lst.take h.toNat).drop l.toNat)))) s)
              | _ => False))
          | none => False)
        | none => False)
      | some ei, .l (.own id) => (match getM s.mem id, mx with
        | some (.arr A lst), none => A.size = ei.size ∧ (match bndI s lst.length hi with
          | some h => 0 ≤ l ∧ l ≤ h ∧ h ≤ lst.length ∧ K (.one (.l (.view id [] 0 ei.size l.toNat (h - l).toNat))) s
          | none => False)
        | _, _ => False)
      | some ei, .l (.view id path off n lo0 len) => (match mx with
        | none => n = ei.size ∧ (match bndI s len hi with
          | some h => 0 ≤ l ∧ l ≤ h ∧ h ≤ len ∧ K (.one (.l (.view id path off n (lo0 + l.toNat) (h - l).toNat))) s
          | none => False)
        | _ => False)
      | some _, .l .nils => (match mx, bndI s 0 hi with
        | none, some h => l = 0 ∧ h = 0 ∧ K (.one (.l .nils)) s
        | _, _ => False)
      | _, _ => False)
    | _ => False

theorem run_sliceAt_slice' {t e : TypeId} {ei : TyI} (hu : C.P.underlying t = some (.slice e)) (hei : C.ty e = some ei) {a : Option Addr} {len cap : Nat} {lo hi : Option Value} {l h : Int}
    (hlo : OptI lo 0 l) (hhi : OptI hi len h) (h0 : 0 ≤ l) (h1 : l ≤ h) (h2 : h ≤ cap) (w : World) :
    (Instr.sliceAt t (.slice a len cap) lo hi none).run C.P w = .ok (.slice (if cap = l.toNat then a else a.map (·.add (l.toNat * ei.size))) (h.toNat - l.toNat) (cap - l.toNat)) w := by
  simp only [Instr.sliceAt, Instr.slice, Sem.run_bind, run_under hu, Result.andThen_ok, run_bounds hlo hhi h0 h1 h2, run_size (C.ok _ _ hei), Sem.run_pure]

theorem slice_q {t : TypeId} {x : Operand} {lo hi mx : Option Operand} (ho : o.op = .slice t x lo hi mx) (h : vSlice C s t x lo hi mx K) : QSound C.P o s K := by
  intro R G γ fr a w hs hm
  unfold vSlice at h
  have hx := ev_rel hs x
  split at h
  · exact h.elim
  · rename_i l hl
    have hlo := bndI_spec hs hl
    split at h
    · rename_i htd
      have hu : C.P.underlying t = some .string := by have := tdOf_fits (C := C) (t := t) (by rw [htd]; simp); rw [htd] at this; exact this
      split at h
      · rename_i b he
        rw [he] at hx
        have hx' : a.eval x = .string ⟨b.toArray⟩ := (by simpa [SV.rel, LV.relV, LV.rel] using hx : a.eval x = .string ⟨b.toArray⟩ ∧ b.length ≤ mxL).1
        split at h
        · rename_i hh hb
          have hhi := bndI_spec hs hb
          obtain ⟨h0, h1, h2, hK⟩ := h
          have sz : (⟨b.toArray⟩ : ByteArray).size = b.length := by simp [ByteArray.size]
          refine ⟨.string ((⟨b.toArray⟩ : ByteArray).extract l.toNat hh.toNat), _, fun w' _ => ?_, hK, ?_⟩
          · simp only [execOp, ho, hx', Option.map_none, Instr.sliceAt, Instr.slice, Sem.run_bind, run_under hu, Result.andThen_ok, Option.isSome_none, Bool.false_eq_true, if_false, Sem.run_pure, run_bounds hlo (sz ▸ hhi) h0 h1 (sz ▸ h2)]
          · have e : (⟨b.toArray⟩ : ByteArray).extract l.toNat hh.toNat = ⟨((b.take hh.toNat).drop l.toNat).toArray⟩ := by
              apply ByteArray.ext
              rw [ByteArray.data_extract]
              simp [List.drop_take]
            rw [e]
            have hbl := (by simpa [SV.rel, LV.relV, LV.rel] using hx : a.eval x = .string ⟨b.toArray⟩ ∧ b.length ≤ mxL).2
            exact ⟨rfl, Nat.le_trans (by rw [List.length_drop, List.length_take]; omega) hbl⟩
        · exact h.elim
      · exact h.elim
    · rename_i n e htd
      have hu : C.P.underlying t = some (.array n e) := by have := tdOf_fits (C := C) (t := t) (by rw [htd]; simp); rw [htd] at this; exact this
      split at h
      · rename_i ei id path off hh hei he hb
        rw [he] at hx
        have hx' : a.eval x = .pointer (some ⟨blk (γ id), poff path off, none⟩) := by simpa [SV.rel, LV.relV, LV.rel] using hx
        have hhi := bndI_spec hs hb
        obtain ⟨h0, h1, h2, hnm, hK⟩ := h
        refine ⟨.slice (some (if n = l.toNat then ⟨blk (γ id), poff path off, none⟩ else (⟨blk (γ id), poff path off, none⟩ : Addr).add (l.toNat * ei.size))) (hh.toNat - l.toNat) (n - l.toNat), _, fun w' _ => ?_, hK, ?_⟩
        · simp only [execOp, ho, hx', Option.map_none, Instr.sliceAt, Instr.sureAddr, Sem.run_bind, run_under hu, Result.andThen_ok, Sem.run_pure, run_bounds hlo hhi h0 h1 h2, run_size (C.ok _ _ hei)]
        · have e5 : hh.toNat - l.toNat = (hh - l).toNat := by omega
          rw [e5]
          refine ⟨some (if n = l.toNat then ⟨blk (γ id), poff path off, none⟩ else (⟨blk (γ id), poff path off, none⟩ : Addr).add (l.toNat * ei.size)), n - l.toNat, by omega, by unfold mxL; omega, rfl, fun hne => ?_, fun hn => ?_⟩
          · have : ¬ n = l.toNat := by omega
            rw [if_neg this, add_off]
          · simp at hn
      · exact h.elim
    · rename_i e htd
      have hu : C.P.underlying t = some (.slice e) := by have := tdOf_fits (C := C) (t := t) (by rw [htd]; simp); rw [htd] at this; exact this
      split at h
      · rename_i ei α R0 y hei he
        rw [he] at hx
        split at h
        · rename_i β A lst hsrc
          obtain ⟨hA, h⟩ := h
          obtain ⟨cs, hc, e1⟩ := hx
          obtain ⟨hc', hag⟩ := R0.slSrc_spec hsrc hc
          obtain ⟨ad, cap, rfl, hle, hmx, hn, hd⟩ := (Rep.enc_slice A G lst cs).1 hc'
          have hx' : a.eval x = .slice ad lst.length cap := by rw [e1]; simp [Rep.mk, hag]
          have cut : ∀ (m : Nat) (l h : Int), 0 ≤ l → l ≤ h → h ≤ lst.length → h ≤ m → m ≤ cap → (l = m → l = h) →
              (SV.l (.dat (.slice A) ((lst.take h.toNat).drop l.toNat))).rel G γ (.slice (if m = l.toNat then ad else ad.map (·.add (l.toNat * ei.size))) (h.toNat - l.toNat) (m - l.toNat)) := by
            intro m l h h0 h1 h2 h3 h4 h5
            have hlen : ((lst.take h.toNat).drop l.toNat).length = h.toNat - l.toNat := by simp; omega
            refine ⟨_, (Rep.enc_slice A G _ _).2 ⟨(if m = l.toNat then ad else ad.map (·.add (l.toNat * ei.size))), m - l.toNat, rfl, by rw [hlen]; omega, by omega, ?_, ?_⟩, ?_⟩
            · intro hnone
              by_cases hm : m = l.toNat
              · omega
              · rw [if_neg hm] at hnone
                have := hn (by simpa using hnone)
                omega
            · by_cases hlh : l = h
              · left
                exact List.length_eq_zero_iff.1 (by rw [hlen]; omega)
              · right
                have hm : ¬ m = l.toNat := fun e => hlh (h5 (by omega))
                rcases hd with rfl | ⟨b, p, es, q, t', f0, rfl, hb, hl⟩
                · simp at h2; omega
                · obtain ⟨p2, e2, q2, rfl, hp2, he2⟩ := cut_enc hl l.toNat (h.toNat - l.toNat) (by omega)
                  refine ⟨b, p ++ p2, e2, q2 ++ q, t', f0, ?_, by rw [hb]; simp only [List.append_assoc], ?_⟩
                  · rw [if_neg hm]
                    simp [add_off, hp2, hA]
                  · rwa [List.drop_take]
            · rw [hlen]; rfl
          split at h
          · rename_i hh hb
            have hhi := bndI_spec hs hb
            split at h
            · obtain ⟨h0, h1, h2, hK⟩ := h
              have h3 : hh ≤ (cap : Int) := by omega
              refine ⟨_, _, fun w' _ => ?_, hK, cut cap l hh h0 h1 h2 h3 (Nat.le_refl _) (by omega)⟩
              simp only [execOp, ho, hx', Option.map_none, Sem.run_bind, run_sliceAt_slice' hu hei hlo hhi h0 h1 h3, Result.andThen_ok, Sem.run_pure]
            · rename_i m
              split at h
              · rename_i km c hc2
                have hm2 := ev_rel hs m
                rw [hc2] at hm2
                have hm' : a.eval m = .int km c := (by simpa [SV.rel, LV.relV, LV.rel] using hm2 : a.eval m = .int km c ∧ inK km c).1
                obtain ⟨hsome, h0, h1, h2, h3, hK1, hK2⟩ := h
                obtain ⟨hi', rfl⟩ := Option.isSome_iff_exists.1 hsome
                have hhi' : ∃ kh, a.eval hi' = .int kh hh := by
                  rcases hhi with ⟨h, _⟩ | ⟨kh, h⟩
                  · simp at h
                  · exact ⟨kh, by simpa using h⟩
                obtain ⟨kh, hhi'⟩ := hhi'
                have hrun : ∀ w', (execOp a.eval o).run C.P w' = .ok (.value (.slice (if c.toNat = l.toNat then ad else ad.map (·.add (l.toNat * ei.size))) (hh.toNat - l.toNat) (c.toNat - l.toNat))) w' := by
                  intro w'
                  simp only [execOp, ho, hx', Option.map_some, hhi', hm', Instr.sliceAt, Instr.slice, Sem.run_bind, run_under hu, Result.andThen_ok, run_bounds3 (b := true) (len := lst.length) (cap := cap) hlo h0 h1 h2 (show c ≤ (cap : Int) by omega), run_size (C.ok _ _ hei), Sem.run_pure]
                by_cases hlc : l = c
                · refine ⟨_, _, fun w' _ => hrun w', hK1 hlc, ?_⟩
                  have e1 : c.toNat = l.toNat := by omega
                  have e2 : hh.toNat - l.toNat = 0 := by omega
                  rw [if_pos e1, e1, e2, Nat.sub_self]
                  exact ⟨_, rfl⟩
                · exact ⟨_, _, fun w' _ => hrun w', hK2 hlc, cut c.toNat l hh h0 h1 (by omega) (by omega) (by omega) (by omega)⟩
              · exact h.elim
          · exact h.elim
        · exact h.elim
      · rename_i ei id hei he
        rw [he] at hx
        have hv' : a.eval x = γ id := by have h1 := hx; simp only [SV.rel, LV.relV, LV.rel, List.cons.injEq, and_true] at h1; exact h1.1
        split at h
        · rename_i α A lst hm'
          obtain ⟨hA, h⟩ := h
          split at h
          · rename_i hh hb
            have hhi := bndI_spec hs hb
            obtain ⟨h0, h1, h2, hK⟩ := h
            rcases hm.arr hm' with ⟨rfl, ad, e1⟩ | ⟨b, t', es, sp, c, e1, hbk, hl, hle, hmx, _⟩
            · have hl0 : l = 0 ∧ hh = 0 := by simp at h2; omega
              obtain ⟨rfl, rfl⟩ := hl0
              refine ⟨?_, _, fun w' _ => ?_, hK, ?_⟩
              · exact .slice ad 0 0
              · have := run_sliceAt_slice' hu hei hlo (len := 0) (by simpa using hhi) h0 h1 (cap := 0) (by simp) w' (a := ad)
                simp only [execOp, ho, hv', e1, Option.map_none, Sem.run_bind, this, Result.andThen_ok, Sem.run_pure]
                simp
              · exact ⟨ad, 0, by simp, Nat.zero_le _, by simp, by simp, fun _ => rfl⟩
            · have h3 : hh ≤ (c : Int) := by omega
              refine ⟨?_, _, fun w' _ => ?_, hK, ?_⟩
              · exact .slice (if c = l.toNat then some ⟨b, 0, none⟩ else (some (⟨b, 0, none⟩ : Addr)).map (·.add (l.toNat * ei.size))) (hh.toNat - l.toNat) (c - l.toNat)
              · simp only [execOp, ho, hv', e1, Option.map_none, Sem.run_bind, run_sliceAt_slice' hu hei hlo hhi h0 h1 h3, Result.andThen_ok, Sem.run_pure]
              · have e5 : hh.toNat - l.toNat = (hh - l).toNat := by omega
                rw [e5]
                refine ⟨(if c = l.toNat then some ⟨b, 0, none⟩ else (some (⟨b, 0, none⟩ : Addr)).map (·.add (l.toNat * ei.size))), c - l.toNat, by omega, by omega, rfl, fun hne => ?_, fun hn => ?_⟩
                · have : ¬ c = l.toNat := by omega
                  rw [if_neg this]
                  simp [add_off, e1, blk, poff]
                · by_cases hcl : c = l.toNat
                  · rw [if_pos hcl] at hn; simp at hn
                  · rw [if_neg hcl] at hn; simp at hn
          · exact h.elim
        · exact h.elim
      · rename_i ei id path off n lo0 len hei he
        rw [he] at hx
        obtain ⟨ad, cap, hcap, hmx, e0, ha, hnn⟩ := hx
        have hx' : a.eval x = .slice ad len cap := by simpa using e0
        split at h
        · obtain ⟨hn, h⟩ := h
          subst hn
          split at h
          · rename_i hh hb
            have hhi := bndI_spec hs hb
            obtain ⟨h0, h1, h2, hK⟩ := h
            have h3 : hh ≤ (cap : Int) := by omega
            refine ⟨?_, _, fun w' _ => ?_, hK, ?_⟩
            · exact .slice (if cap = l.toNat then ad else ad.map (·.add (l.toNat * ei.size))) (hh.toNat - l.toNat) (cap - l.toNat)
            · simp only [execOp, ho, hx', Option.map_none, Sem.run_bind, run_sliceAt_slice' hu hei hlo hhi h0 h1 h3, Result.andThen_ok, Sem.run_pure]
            · have e5 : hh.toNat - l.toNat = (hh - l).toNat := by omega
              rw [e5]
              refine ⟨(if cap = l.toNat then ad else ad.map (·.add (l.toNat * ei.size))), cap - l.toNat, by omega, by omega, rfl, fun hne => ?_, fun hn => ?_⟩
              · have h4 : ¬ cap = l.toNat := by omega
                rw [if_neg h4, ha (by omega)]
                simp only [Option.map_some, add_off]
                rw [Nat.add_mul, Nat.add_assoc]
              · by_cases hcl : cap = l.toNat
                · omega
                · rw [if_neg hcl] at hn
                  have := hnn (by simpa using hn)
                  omega
          · exact h.elim
        · exact h.elim
      · rename_i ei hei he
        rw [he] at hx
        have hx' : a.eval x = .slice none 0 0 := by simpa [SV.rel, LV.relV, LV.rel] using hx
        split at h
        · rename_i hh hb
          have hhi := bndI_spec hs hb
          obtain ⟨rfl, rfl, hK⟩ := h
          refine ⟨.slice none 0 0, _, fun w' _ => ?_, hK, rfl⟩
          have := run_sliceAt_slice' hu hei hlo (len := 0) (by simpa using hhi) (Int.le_refl _) (Int.le_refl _) (cap := 0) (by simp) w' (a := none)
          simp only [execOp, ho, hx', Option.map_none, Sem.run_bind, this, Result.andThen_ok, Sem.run_pure]
          simp
        · exact h.elim
      · exact h.elim
    · exact h.elim
end
end Go.Proofs.Ytnmjcdlgfimnaaa
