/- From the row's own reading of an argument to a datum; and back from a contract to the row. -/
import Derived.Test.YtnmjcdlgfimnaaaA5
import Derived.WalkKit
import Derived.ProofKit
import Derived.OpenShut
import Derived.ChangeOld
import Derived.ChangeAlike
import Derived.Below
namespace Go.Proofs.Ytnmjcdlgfimnaaa
open Go.RowKit
def Rep.fits (P : Program) : {α : Type} → Rep α → (TypeId → Prop) × (List Field → Nat → Prop)
 | _, .int k => ⟨fun t => P.underlying t = some (.int k), fun _ _ => False⟩
 | _, .bool => ⟨fun t => P.underlying t = some .bool, fun _ _ => False⟩
 | _, .str => ⟨fun t => P.underlying t = some .string, fun _ _ => False⟩
 | _, .unit => ⟨fun t => P.underlying t = some (.struct #[]) ∧ P.cellsOf t = 0, fun fs _ => fs = []⟩
 | _, .pair A B => ⟨fun t => ∃ fs, P.underlying t = some (.struct fs) ∧ P.cellsOf t = (Rep.pair A B).size ∧ ∃ f r, fs.toList = f :: r ∧ f.offset = 0 ∧ P.cellsOf f.type = A.size ∧ (A.fits P).1 f.type ∧ (B.fits P).2 r A.size,
     fun fs off => ∃ f r, fs = f :: r ∧ f.offset = off ∧ P.cellsOf f.type = A.size ∧ (A.fits P).1 f.type ∧ (B.fits P).2 r (off + A.size)⟩
 | _, .arr n A => ⟨fun t => ∃ e, P.underlying t = some (.array n e) ∧ P.cellsOf t = n * A.size ∧ P.cellsOf e = A.size ∧ (A.fits P).1 e, fun _ _ => False⟩
 | _, .slice A => ⟨fun t => ∃ e, P.underlying t = some (.slice e) ∧ P.cellsOf e = A.size ∧ A.size ≠ 0 ∧ (A.fits P).1 e, fun _ _ => False⟩
 | _, .iso A _ _ _ _ => ⟨fun t => (A.fits P).1 t, fun fs off => (A.fits P).2 fs off⟩
section
variable {H : Type} {enc : TypeId × Value → H} {P : Program} {w : World} {base : Nat} {spare : Nat → Bool} {held : Bool}
theorem Qhh {α : Type} {E : α → List Value → Prop} {sz : Nat} : ∀ (n : Nat) (cs : List Value), cs.length = n * sz → (∀ i, i < n → ∃ a, E a ((cs.drop (i * sz)).take sz)) → ∃ l : List α, l.length = n ∧ EncL E l cs
 | 0, cs, h, _ => ⟨[], rfl, by simpa [EncL] using h⟩
 | n + 1, cs, h, hE => by
  obtain ⟨a, ha⟩ := hE 0 (by omega)
  have hl : (cs.drop sz).length = n * sz := by rw [List.length_drop, h, Nat.succ_mul]; omega
  obtain ⟨l, hn, hl2⟩ := Qhh n (cs.drop sz) hl fun i hi => by
   obtain ⟨b, hb⟩ := hE (i + 1) (by omega)
   refine ⟨b, ?_⟩
   rw [List.drop_drop]
   have e : sz + i * sz = (i + 1) * sz := by rw [Nat.succ_mul]; omega
   rw [e]; exact hb
  exact ⟨a :: l, by simp [hn], cs.take sz, cs.drop sz, by simp, by simpa using ha, hl2⟩
theorem Qnz {a : Addr} {n : Nat} {cs : List Value} (h : w.cells? base a n = some cs) : cs.length = n ∧ ∀ i, i < n → w.cell? (a.add i) = cs[i]? := by
 unfold World.cells? at h
 split at h
 ·exact ⟨by simpa using mapM_some_length h, fun i hi => mapM_some_get h i i (by simp [hi])⟩
 ·simp at h
theorem Qsg (a : Addr) (m n : Nat) : (a.add m).add n = a.add (m + n) := by
 unfold Addr.add
 by_cases h1 : m = 0
 ·subst h1; simp
 ·by_cases h2 : n = 0
  ·subst h2; simp [h1]
  ·simp [h1, h2, Nat.add_assoc]
theorem Rep.read : {α : Type} → (R : Rep α) →
    (∀ (t : TypeId) (fuel : Nat) (cs : List Value) (x : DataW H × List MemPlace), (R.fits P).1 t → DataW.trod enc P w base spare held fuel t cs = some x → ∃ a, R.enc (Qeh w) a cs) ∧
    (∀ (fs : List Field) (off n : Nat) (cs : List Value), (R.fits P).2 fs off → cs.length = off + R.size → (∀ f ∈ fs, ∃ x, DataW.trod enc P w base spare held n f.type ((cs.drop f.offset).take (P.cellsOf f.type)) = some x) → ∃ a, R.enc (Qeh w) a (cs.drop off))
 | _, .int k => ⟨fun t fuel cs x hf h => by
     obtain ⟨n, rfl, _, hw⟩ := DataW.trod_int hf h
     refine ⟨n, rfl, ?_⟩
     simpa [Lit.wf, inK] using hw, fun _ _ _ _ h => h.elim⟩
 | _, .bool => ⟨fun t fuel cs x hf h => by
     obtain ⟨b, rfl, _⟩ := DataW.trod_bool hf h
     exact ⟨b, rfl⟩, fun _ _ _ _ h => h.elim⟩
 | _, .str => ⟨fun t fuel cs x hf h => by
     obtain ⟨s, rfl, _, hs⟩ := DataW.trod_string hf h
     refine ⟨s.data.toList, by simp, ?_⟩
     have h1 : maxLen = mxL := by rfl
     have h2 : s.data.toList.length = s.size := by simp only [ByteArray.size, Array.length_toList]
     rw [← h1, h2]
     exact hs, fun _ _ _ _ h => h.elim⟩
 | _, .unit => ⟨fun t fuel cs x hf h => by
     obtain ⟨xs, n, _, _, hl, _, _⟩ := DataW.trod_struct hf.1 h
     rw [hf.2] at hl
     exact ⟨(), by simpa [Rep.enc] using hl⟩, fun fs off n cs _ hl _ => by
     refine ⟨(), ?_⟩
     simp only [Rep.enc, List.drop_eq_nil_iff]
     simp only [Rep.size] at hl
     omega⟩
 | _, .pair A B => by
  have key : ∀ (fs : List Field) (off n : Nat) (cs : List Value), (∃ f r, fs = f :: r ∧ f.offset = off ∧ P.cellsOf f.type = A.size ∧ (A.fits P).1 f.type ∧ (B.fits P).2 r (off + A.size)) → cs.length = off + (Rep.pair A B).size →
      (∀ f ∈ fs, ∃ x, DataW.trod enc P w base spare held n f.type ((cs.drop f.offset).take (P.cellsOf f.type)) = some x) → ∃ a, (Rep.pair A B).enc (Qeh w) a (cs.drop off) := by
   rintro fs off n cs ⟨f, r, rfl, ho, hc, hA, hB⟩ hl hx
   obtain ⟨x, hx0⟩ := hx f (by simp)
   obtain ⟨a, ha⟩ := (A.read).1 _ _ _ _ hA hx0
   have hs : (Rep.pair A B).size = A.size + B.size := rfl
   obtain ⟨b, hb⟩ := (B.read).2 r (off + A.size) n cs hB (by rw [hl, hs]; omega) fun g hg => hx g (by simp [hg])
   refine ⟨(a, b), _, _, ?_, ha, hb⟩
   rw [ho, hc, ← List.drop_drop, List.take_append_drop]
  refine ⟨fun t fuel cs x hf h => ?_, fun fs off n cs hf hl hx => key fs off n cs hf hl hx⟩
  obtain ⟨fs, hu, hc, f, r, e, ho, hcA, hA, hB⟩ := hf
  obtain ⟨xs, n, _, _, hl, hn, hg⟩ := DataW.trod_struct hu h
  have := key fs.toList 0 n cs ⟨f, r, e, ho, hcA, hA, by simpa using hB⟩ (by rw [hl, hc]; omega) (fun g hg' => by
   obtain ⟨i, hi, rfl⟩ := List.getElem_of_mem hg'
   have hi' : i < fs.size := by simpa using hi
   have h1 := hg i fs[i] (by simp [hi'])
   refine ⟨xs[i]'(by omega), ?_⟩
   have h2 : xs[i]? = some (xs[i]'(by omega)) := List.getElem?_eq_getElem (by omega)
   rw [← h2, ← h1]
   simp)
  simpa using this
 | _, .arr n A => ⟨fun t fuel cs x hf h => by
     obtain ⟨e, hu, hc, hce, hA⟩ := hf
     obtain ⟨xs, m, _, _, hl, hn, hg⟩ := DataW.trod_array hu h
     obtain ⟨l, h1, h2⟩ := Qhh (E := fun x c => A.enc (Qeh w) x c) n cs (by rw [hl, hc]) fun i hi => by
      have h3 := hg i hi
      rw [hce, List.getElem?_eq_getElem (by omega)] at h3
      exact (A.read).1 _ _ _ _ hA h3
     exact ⟨l, h1, h2⟩, fun _ _ _ _ h => h.elim⟩
 | _, .slice A => ⟨fun t fuel cs x hf h => by
     obtain ⟨e, hu, hce, hne, hA⟩ := hf
     rcases DataW.trod_slice hu h with ⟨rfl, _⟩ | ⟨a, len, cap, elems, rest, n, _, rfl, _, _, hle, hmx, hlen, hel, _, _⟩
     ·exact ⟨[], none, 0, rfl, Nat.le_refl _, by simp [mxL], fun _ => rfl, .inl rfl⟩
     ·by_cases h0 : len = 0
      ·subst h0
       exact ⟨[], some a, cap, rfl, Nat.zero_le _, hmx, by simp, .inl rfl⟩
      ·have hci : ∀ i, i < len → ∃ ci y, w.cells? base (a.add (i * A.size)) A.size = some ci ∧ DataW.trod enc P w base spare held n e ci = some y := by
        intro i hi
        have h1 := hel i hi
        rw [hce, List.getElem?_eq_getElem (by omega), Option.bind_eq_some_iff] at h1
        obtain ⟨ci, h2, h3⟩ := h1
        exact ⟨ci, _, h2, h3⟩
       have hcell : ∀ i, i < len → ∀ j, j < A.size → ∃ v, w.cell? (a.add (i * A.size + j)) = some v := by
        intro i hi j hj
        obtain ⟨ci, y, h1, _⟩ := hci i hi
        obtain ⟨h2, h3⟩ := Qnz h1
        have h4 := h3 j hj
        rw [Qsg, List.getElem?_eq_getElem (by omega)] at h4
        exact ⟨_, h4⟩
       obtain ⟨v0, hv0⟩ := hcell 0 (by omega) 0 (by omega)
       obtain ⟨c, t', fr, hb, hsp⟩ : ∃ c t' fr, w.heap[a.block]? = some (.cells c t' fr) ∧ a.spot = none := by
        simp only [Nat.zero_mul, Nat.add_zero, Addr.add, if_true, World.cell?] at hv0
        split at hv0
        ·rename_i c t' fr hb
         split at hv0
         ·simp at hv0
         ·rename_i hs
          exact ⟨c, t', fr, hb, by simpa using hs⟩
        ·simp at hv0
       have hget : ∀ k, w.cell? (a.add k) = c[a.off + k]? := by
        intro k
        unfold Addr.add
        by_cases hk : k = 0
        ·subst hk; simp [World.cell?, hb, hsp]
        ·simp [hk, World.cell?, hb]
       have hlc : a.off + len * A.size ≤ c.size := by
        obtain ⟨v, hv⟩ := hcell (len - 1) (by omega) (A.size - 1) (by omega)
        rw [hget] at hv
        have h1 := (Array.getElem?_eq_some_iff.1 hv).1
        have h2 : (len - 1) * A.size + A.size = len * A.size := by
         rw [← Nat.succ_mul]; congr 1; omega
        omega
       let es := (c.toList.drop a.off).take (len * A.size)
       have hes : es.length = len * A.size := by simp only [es, List.length_take, List.length_drop, Array.length_toList]; omega
       obtain ⟨l, h1, h2⟩ := Qhh (E := fun x c => A.enc (Qeh w) x c) len es hes fun i hi => by
        obtain ⟨ci, y, h3, h4⟩ := hci i hi
        obtain ⟨h5, h6⟩ := Qnz h3
        have hi2 : i * A.size + A.size ≤ len * A.size := by
         rw [← Nat.succ_mul]; exact Nat.mul_le_mul_right _ hi
        have e1 : (es.drop (i * A.size)).take A.size = ci := by
         apply List.ext_getElem?
         intro j
         by_cases hj : j < A.size
         ·have h7 := h6 j hj
          rw [Qsg, hget] at h7
          rw [← h7, List.getElem?_take, if_pos hj, List.getElem?_drop]
          simp only [es, List.getElem?_take, List.getElem?_drop]
          rw [if_pos (by omega), Array.getElem?_toList]
         ·rw [List.getElem?_eq_none (by rw [List.length_take]; omega), List.getElem?_eq_none (by omega)]
        rw [e1]
        exact (A.read).1 _ _ _ _ hA h4
       refine ⟨l, some a, cap, by rw [h1], by omega, hmx, by simp, .inr ⟨a.block, c.toList.take a.off, es, c.toList.drop (a.off + len * A.size), t', fr, ?_, ?_, h2⟩⟩
       ·have : (c.toList.take a.off).length = a.off := by rw [List.length_take, Array.length_toList]; omega
        rw [this, ← hsp]
       ·show w.heap[a.block]? = _
        rw [hb]
        congr 2
        have e2 : c.toList.take a.off ++ es ++ c.toList.drop (a.off + len * A.size) = c.toList := by
         simp only [es]
         rw [List.append_assoc, ← List.drop_drop, List.take_append_drop, List.take_append_drop]
        rw [e2], fun _ _ _ _ h => h.elim⟩
 | _, .iso A to of h1 h2 => ⟨fun t fuel cs x hf h => by
     obtain ⟨a, ha⟩ := (A.read).1 t fuel cs x hf h
     exact ⟨of a, (enc_iso A to of h1 h2 _ _ _).2 (by rw [h2]; exact ha)⟩, fun fs off n cs hf hl hx => by
     obtain ⟨a, ha⟩ := (A.read).2 fs off n cs hf hl hx
     exact ⟨of a, (enc_iso A to of h1 h2 _ _ _).2 (by rw [h2]; exact ha)⟩⟩
theorem Qll {r : Reach} {b0 : Nat} {t : TypeId} {v : Value} {d : DataW H} {p : List MemPlace} {α : Type} (R : Rep α) (hf : (R.fits P).1 t) (hk : R.agg = (match P.underlying t with | some (.struct _) | some (.array _ _) => true | _ => false))
    (hv : Value.okWide P w r b0 t v) (h : DataW.Trod enc P w base spare held t v d p) : ∃ a : α, (LV.dat R a).relV (Qeh w) (fun _ => undef) v := by
 obtain ⟨fuel, h⟩ := h
 obtain ⟨a, ha⟩ := (R.read (w := w)).1 t fuel _ _ hf h
 refine ⟨a, _, ha, ?_⟩
 unfold Rep.mk
 rw [hk]
 unfold Value.okWide at hv
 split at hv
 ·rename_i hu
  obtain ⟨cs, rfl, _, _⟩ := hv
  simp [hu, Value.cells]
 ·rename_i hu
  obtain ⟨cs, rfl, _, _⟩ := hv
  simp [hu, Value.cells]
 ·rename_i h1 h2
  have hna : ∀ cs, v ≠ .agg cs := by
   rintro cs rfl
   unfold Cell.okWide at hv
   simp at hv
   try cases hu : P.underlying t <;> simp_all [Cell.ok]
  split
  ·rename_i fs hu; exact absurd hu (h1 fs)
  ·rename_i n e hu; exact absurd hu (h2 n e)
  ·cases v <;> simp_all [Value.cells]
end
structure Qy5 (w w' : World) : Prop where
 os : w'.os = w.os
 output : w'.output = w.output
 size : w.heap.size ≤ w'.heap.size
 block : ∀ k, k < w.heap.size → w'.heap[k]? = w.heap[k]?
theorem Qy5.below {w w' : World} (h : Qy5 w w') : Below w.heap.size w { w' with tape := w.tape } := ⟨h.os, rfl, h.output, h.size, h.block⟩
theorem Qck.calls {P : Program} {f : FuncId} {args : List LV} {b : Bool} (h : Qck P f args [.bool b]) {w : World} {vs : List Value} (hv : Qcv (Qeh w) (fun _ => undef) (args.map .l) vs) :
    Calls P f vs.toArray w fun e w' => e = .returned (.bool b) ∧ Qy5 w w' := by
 refine (h.2 ⟨emp, w.os, w.output, fun _ => none⟩ (Qeh w) w vs ⟨Hp.le_refl _, fun _ _ h => by simp [emp] at h, fun _ _ => rfl, by simp, by simp, by simp, by simp, rfl, rfl⟩ hv).mono ?_
 rintro e w' ⟨v, G', rfl, hg, hr, hok⟩
 have hv' : v = .bool b := by simpa [tvL, TV.rel, SV.rel, LV.relV, LV.rel] using hr
 subst hv'
 have hb : ∀ k, k < w.heap.size → w'.heap[k]? = w.heap[k]? := by
  intro k hk
  have h1 : Qeh w k = some w.heap[k] := Array.getElem?_eq_getElem hk
  have h2 : w'.heap[k]? = some w.heap[k] := hok.g _ _ (hg _ _ h1)
  rw [h2]; exact h1.symm
 refine ⟨rfl, hok.os, hok.out, ?_, hb⟩
 by_cases h0 : w.heap.size = 0
 ·omega
 ·have h1 := hb (w.heap.size - 1) (by omega)
  have h2 : w.heap[w.heap.size - 1]? = some (w.heap[w.heap.size - 1]'(by omega)) := Array.getElem?_eq_getElem _
  rw [h2] at h1
  have := (Array.getElem?_eq_some_iff.1 h1).1
  omega
end Go.Proofs.Ytnmjcdlgfimnaaa
