/- Maps from numbers to rows: one is made, asked, written; a row of one is taken out, and put back. -/
import Derived.Test.YtnmjcdlgfimnaaaFkf
import Derived.MapKept
namespace Go.Proofs.Ytnmjcdlgfimnaaa

/-- The entries of a map as they are looked for. -/
theorem findNow_cases {ki : IntKind} {k : Int} : ∀ {es : List MapEntry} {i : Nat}, (∀ e ∈ es, ∃ n, e.key = .int .i64 n) →
    (∃ l e r, es = l ++ e :: r ∧ (∀ x ∈ l, isKey k x = false) ∧ isKey k e = true ∧ Instr.findNow (.int ki) (.int .i64 k) es i = some (some (i + l.length, e.val))) ∨
    ((∀ x ∈ es, isKey k x = false) ∧ Instr.findNow (.int ki) (.int .i64 k) es i = some none)
  | [], i, _ => .inr ⟨by simp, rfl⟩
  | e :: es, i, h => by
    obtain ⟨n, hn⟩ := h e (by simp)
    have hk : isKey k e = (k == n) := by simp [isKey, hn]
    have hs : Instr.sameNow (.int ki) (.int .i64 k) e.key = some (k == n) := by simp [Instr.sameNow, hn]
    cases hb : (k == n)
    · rcases findNow_cases (ki := ki) (k := k) (es := es) (i := i + 1) (fun x hx => h x (by simp [hx])) with ⟨l, e', r, e1, h1, h2, h3⟩ | ⟨h1, h2⟩
      · refine .inl ⟨e :: l, e', r, by rw [e1]; rfl, ?_, h2, ?_⟩
        · intro x hx
          rcases List.mem_cons.1 hx with rfl | hx
          · rw [hk, hb]
          · exact h1 x hx
        · unfold Instr.findNow
          rw [hs, hb]
          simp only [h3, List.length_cons]
          congr 3
          omega
      · refine .inr ⟨?_, ?_⟩
        · intro x hx
          rcases List.mem_cons.1 hx with rfl | hx
          · rw [hk, hb]
          · exact h1 x hx
        · unfold Instr.findNow
          rw [hs, hb]
          exact h2
    · refine .inl ⟨[], e, es, rfl, by simp, by rw [hk, hb], ?_⟩
      unfold Instr.findNow
      rw [hs, hb]
      simp

theorem find_first {p : MapEntry → Bool} {l r : List MapEntry} {e : MapEntry} (h1 : ∀ x ∈ l, p x = false) (h2 : p e = true) : (l ++ e :: r).find? p = some e := by
  induction l with
  | nil => simp [h2]
  | cons x l ih =>
    rw [List.cons_append, List.find?_cons, h1 x (by simp)]
    exact ih fun y hy => h1 y (by simp [hy])
theorem find_none {p : MapEntry → Bool} {l : List MapEntry} (h1 : ∀ x ∈ l, p x = false) : l.find? p = none := by
  rw [List.find?_eq_none]
  intro x hx
  simp [h1 x hx]

theorem checkKey_int {P : Program} {w : World} {kt : TypeId} {ki : IntKind} (hk : P.underlying kt = some (.int ki)) (b : Bool) (n : Nat) (v : Value) : (Instr.checkKey b (n + 1) kt v).run P w = .ok () w := by
  simp [Instr.checkKey, run_under hk]

theorem findKey_cases {P : Program} {w : World} {kt : TypeId} {ki : IntKind} (hk : P.underlying kt = some (.int ki)) {es : Array MapEntry} {V : Int → Value} (hm : MapIs es V) (k : Int) :
    (∃ i e, es[i]? = some e ∧ isKey k e = true ∧ V k = e.val ∧ (∀ j x, j < i → es[j]? = some x → isKey k x = false) ∧ (Instr.findKey kt (.int .i64 k) es.toList).run P w = .ok (some (i, e.val)) w) ∨
    ((∀ x ∈ es.toList, isKey k x = false) ∧ V k = .slice none 0 0 ∧ (Instr.findKey kt (.int .i64 k) es.toList).run P w = .ok none w) := by
  rcases findNow_cases (ki := ki) (k := k) (es := es.toList) (i := 0) hm.1 with ⟨l, e, r, e1, h1, h2, h3⟩ | ⟨h1, h2⟩
  · refine .inl ⟨l.length, e, ?_, h2, ?_, ?_, ?_⟩
    · have : es.toList[l.length]? = some e := by rw [e1]; simp
      simpa using this
    · rw [hm.2 k, e1, find_first h1 h2]; rfl
    · intro j x hj hx
      have hx' : es.toList[j]? = some x := by simpa using hx
      rw [e1, List.getElem?_append_left hj] at hx'
      exact h1 x (List.mem_of_getElem? hx')
    · simp [Instr.findKey, run_under hk, h3]
  · refine .inr ⟨h1, ?_, ?_⟩
    · rw [hm.2 k, find_none h1]; rfl
    · simp [Instr.findKey, run_under hk, h2]

/-- What a key leads to. -/
theorem run_lookup {P : Program} {w : World} {t kt et : TypeId} {ki : IntKind} (ht : P.underlying t = some (.map kt et)) (hk : P.underlying kt = some (.int ki)) (hz : (zeroValue et).run P w = .ok (.slice none 0 0) w)
    {r clock : Nat} {es : Array MapEntry} (hb : w.heap[r]? = some (.map es clock)) {V : Int → Value} (hm : MapIs es V) (k : Int) : (Instr.lookup t (.map (some r)) (.int .i64 k) false).run P w = .ok (V k) w := by
  rcases findKey_cases (P := P) (w := w) hk hm k with ⟨i, e, _, _, hV, _, hrun⟩ | ⟨_, hV, hrun⟩
  · simp [Instr.lookup, run_under ht, MapKept.run_getObj_map hb, checkKey_int hk, hrun, hV]
  · simp [Instr.lookup, run_under ht, MapKept.run_getObj_map hb, checkKey_int hk, hrun, hz, hV]

def updV (V : Int → Value) (k : Int) (v : Value) : Int → Value := fun j => if j = k then v else V j

/-- A key leads to something else. -/
theorem run_update {P : Program} {w : World} {t kt et : TypeId} {ki : IntKind} (ht : P.underlying t = some (.map kt et)) (hk : P.underlying kt = some (.int ki))
    {r clock : Nat} {es : Array MapEntry} (hb : w.heap[r]? = some (.map es clock)) {V : Int → Value} (hm : MapIs es V) (k : Int) (v : Value) :
    ∃ es' clock', (Instr.mapUpdate t (.map (some r)) (.int .i64 k) v).run P w = .ok () (wset w r (.map es' clock')) ∧ MapIs es' (updV V k v) := by
  rcases findKey_cases (P := P) (w := w) hk hm k with ⟨i, e, hi, hke, hV, hbef, hrun⟩ | ⟨hno, hV, hrun⟩
  · have hkey : e.key = .int .i64 k := by
      have hmem : e ∈ es.toList := by
        have : es.toList[i]? = some e := by simpa using hi
        exact List.mem_of_getElem? this
      obtain ⟨n, hn⟩ := hm.1 e hmem
      have : k = n := by simpa [isKey, hn] using hke
      rw [hn, this]
    have hstay : (Instr.keyThatStays (((es[i]?).map (·.key)).getD (.int .i64 k)) (.int .i64 k)).run P w = .ok (.int .i64 k) w := by
      rw [hi]
      simp [Instr.keyThatStays, hkey, Instr.sameBits]
    refine ⟨es.modify i fun e => { e with key := .int .i64 k, val := v }, clock, ?_, ?_⟩
    · simp only [Instr.mapUpdate, Sem.run_bind, run_under ht, Result.andThen_ok, MapKept.run_getObj_map hb, checkKey_int hk, hrun, hstay, MapKept.run_setObj_map _ hb]
      rfl
    · have hlt : i < es.size := by
        rcases Nat.lt_or_ge i es.size with h | h
        · exact h
        · simp [Array.getElem?_eq_none h] at hi
      have hl : (es.modify i fun e => { e with key := .int .i64 k, val := v }).toList = es.toList.take i ++ { e with key := .int .i64 k, val := v } :: es.toList.drop (i + 1) := by
        have h1 : i < es.toList.length := by simpa using hlt
        rw [Array.toList_modify, List.modify_eq_take_cons_drop h1]
        have he : es.toList[i]? = some e := by simpa using hi
        have h2 : es.toList[i] = e := by
          rw [List.getElem?_eq_getElem h1] at he
          exact Option.some.inj he
        rw [h2]
      have hsplit : es.toList = es.toList.take i ++ e :: es.toList.drop (i + 1) := by
        have gen : ∀ (l : List MapEntry) (i : Nat) (h : i < l.length), l = l.take i ++ l[i] :: l.drop (i + 1) := by intro l i h; simp
        have he : es.toList[i]? = some e := by simpa using hi
        have h1 : i < es.toList.length := by simpa using hlt
        have h2 : es.toList[i] = e := by
          rw [List.getElem?_eq_getElem h1] at he
          exact Option.some.inj he
        have := gen es.toList i h1
        rw [h2] at this
        exact this
      have hfirst : ∀ x ∈ es.toList.take i, isKey k x = false := by
        intro x hx
        obtain ⟨j, hj, hjx⟩ := List.getElem_of_mem hx
        have hj' : j < i := by
          have := hj
          simp only [List.length_take] at this
          omega
        refine hbef j x hj' ?_
        have : (es.toList.take i)[j]? = some x := by rw [List.getElem?_eq_getElem hj, hjx]
        rw [List.getElem?_take_of_lt hj'] at this
        simpa using this
      refine ⟨?_, ?_⟩
      · intro x hx
        rw [hl] at hx
        rcases List.mem_append.1 hx with hx | hx
        · exact hm.1 x (List.mem_of_mem_take hx)
        · rcases List.mem_cons.1 hx with rfl | hx
          · exact ⟨k, rfl⟩
          · exact hm.1 x (List.mem_of_mem_drop hx)
      · intro j
        rw [hl]
        unfold updV
        by_cases hj : j = k
        · subst hj
          rw [if_pos rfl, find_first hfirst (by simp [isKey])]
          rfl
        · rw [if_neg hj, hm.2 j, hsplit]
          have h1 : isKey j e = false := by simp [isKey, hkey, hj]
          have h2 : isKey j { e with key := .int .i64 k, val := v } = false := by simp [isKey, hj]
          rw [← hsplit]
          conv => lhs; rw [hsplit]
          rw [List.find?_append, List.find?_append, List.find?_cons, List.find?_cons, h1, h2]
  · refine ⟨es.push ⟨.int .i64 k, v, clock⟩, clock + 1, ?_, ?_⟩
    · simp only [Instr.mapUpdate, Sem.run_bind, run_under ht, Result.andThen_ok, MapKept.run_getObj_map hb, checkKey_int hk, hrun, MapKept.run_setObj_map _ hb]
      rfl
    · refine ⟨?_, ?_⟩
      · intro x hx
        rw [Array.toList_push] at hx
        rcases List.mem_append.1 hx with hx | hx
        · exact hm.1 x hx
        · simp only [List.mem_singleton] at hx
          subst hx
          exact ⟨k, rfl⟩
      · intro j
        rw [Array.toList_push, List.find?_append]
        unfold updV
        by_cases hj : j = k
        · subst hj
          rw [if_pos rfl, find_none hno]
          simp [isKey]
        · rw [if_neg hj, hm.2 j]
          have : isKey j ⟨.int .i64 k, v, clock⟩ = false := by simp [isKey, hj]
          simp [this]
end Go.Proofs.Ytnmjcdlgfimnaaa
