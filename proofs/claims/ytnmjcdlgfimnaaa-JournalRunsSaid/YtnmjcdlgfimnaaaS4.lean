/- Chapter 7 in the document: a register bit by bit, and what the code has for it. -/
import Derived.Test.YtnmjcdlgfimnaaaS3
import Derived.Test.YtnmjcdlgfimnaaaC11d
import Derived.Test.YtnmjcdlgfimnaaaS9h
import Derived.Test.YtnmjcdlgfimnaaaS9j
namespace Go.Proofs.Ytnmjcdlgfimnaaa
def stR (D : Qab) (k z i : Int) : List Int × Int :=
 if (sRead D k (k + z)).2.2.2 ≠ 0 ∨ (openN (sRead D k (k + z)).1).2 = false ∨ (sRead D k (k + z)).2.1.tmod 2 ≠ i then ([], 0)
 else ((openN (sRead D k (k + z)).1).1, (sRead D k (k + z)).2.1)
theorem num_nn {D : Qab} (hG : ∀ k, SecOk (dGet D k).1) (k : Int) : 0 ≤ numK (secAt D k) 8 := (numK_bd (hG k).2 8).1
theorem read_pos {D : Qab} (hG : ∀ k, SecOk (dGet D k).1) {k e : Int} (h : (sRead D k e).2.2.2 = 0) : 0 < (sRead D k e).2.1 := by
 obtain ⟨h1, h2⟩ := read_inv h
 have h3 := num_nn hG k
 have h4 := h1.1
 rw [h2]
 simp only
 omega
theorem ref_read {D : Qab} (hG : ∀ k, SecOk (dGet D k).1) (k z : Int) : slRead D k z = if rightB D k z = true then
    (if (stR D k z 0).2 = 0 ∧ (stR D (k + z) z 1).2 = 0 then ([], 0, 111) else if (stR D (k + z) z 1).2 < (stR D k z 0).2 then ((stR D k z 0).1, (stR D k z 0).2, 0) else ((stR D (k + z) z 1).1, (stR D (k + z) z 1).2, 0)) else ([], 0, 111) := by
 have e0 : standS D k z 0 ([], 0) = stR D k z 0 := by
  unfold standS stR
  have e : k + z * 0 = k := by omega
  rw [e]
  by_cases h : (sRead D k (k + z)).2.2.2 = 0 ∧ (openN (sRead D k (k + z)).1).2 = true ∧ (sRead D k (k + z)).2.1.tmod 2 = 0
  ·have hp := read_pos hG h.1
   rw [if_pos ⟨h.1, h.2.1, h.2.2, hp⟩, if_neg]
   rintro (h1 | h1 | h1)
   ·exact h1 h.1
   ·rw [h.2.1] at h1; simp at h1
   ·exact h1 h.2.2
  ·rw [if_neg (fun h1 => h ⟨h1.1, h1.2.1, h1.2.2.1⟩), if_pos]
   refine Classical.byContradiction fun h1 => h ⟨?_, ?_, ?_⟩
   ·exact Classical.byContradiction fun h2 => h1 (.inl h2)
   ·cases h3 : (openN (sRead D k (k + z)).1).2
    ·exact absurd (.inr (.inl h3)) h1
    ·rfl
   ·exact Classical.byContradiction fun h2 => h1 (.inr (.inr h2))
 have epar : (stR D k z 0).2 % 2 = 0 ∧ 0 ≤ (stR D k z 0).2 := by
  unfold stR
  split
  ·exact ⟨rfl, Int.le_refl 0⟩
  ·rename_i h
   have h0 : (sRead D k (k + z)).2.2.2 = 0 := Classical.byContradiction fun h2 => h (.inl h2)
   have hp := read_pos hG h0
   have h3 : (sRead D k (k + z)).2.1.tmod 2 = 0 := Classical.byContradiction fun h2 => h (.inr (.inr h2))
   rw [Int.tmod_eq_emod_of_nonneg (by omega)] at h3
   exact ⟨h3, by simp only; omega⟩
 have e1 : ∀ q : List Int × Int, q.2 % 2 = 0 → 0 ≤ q.2 → standS D k z 1 q = if (stR D (k + z) z 1).2 = 0 ∨ (stR D (k + z) z 1).2 < q.2 then q else stR D (k + z) z 1 := by
  intro q hq hq0
  unfold standS stR
  have e : k + z * 1 = k + z := by omega
  rw [e]
  by_cases h : (sRead D (k + z) (k + z + z)).2.2.2 = 0 ∧ (openN (sRead D (k + z) (k + z + z)).1).2 = true ∧ (sRead D (k + z) (k + z + z)).2.1.tmod 2 = 1
  ·have hp := read_pos hG h.1
   have h3 := h.2.2
   rw [Int.tmod_eq_emod_of_nonneg (by omega)] at h3
   have hn : ¬ ((sRead D (k + z) (k + z + z)).2.2.2 ≠ 0 ∨ (openN (sRead D (k + z) (k + z + z)).1).2 = false ∨ (sRead D (k + z) (k + z + z)).2.1.tmod 2 ≠ 1) := by
    rintro (h1 | h1 | h1)
    ·exact h1 h.1
    ·rw [h.2.1] at h1; simp at h1
    ·exact h1 h.2.2
   rw [if_neg hn]
   simp only
   by_cases hlt : q.2 < (sRead D (k + z) (k + z + z)).2.1
   ·rw [if_pos ⟨h.1, h.2.1, h.2.2, hlt⟩, if_neg (by omega)]
   ·rw [if_neg (fun h1 => hlt h1.2.2.2), if_pos (by omega)]
  ·rw [if_neg (fun h1 => h ⟨h1.1, h1.2.1, h1.2.2.1⟩)]
   have hn : (sRead D (k + z) (k + z + z)).2.2.2 ≠ 0 ∨ (openN (sRead D (k + z) (k + z + z)).1).2 = false ∨ (sRead D (k + z) (k + z + z)).2.1.tmod 2 ≠ 1 := by
    refine Classical.byContradiction fun h1 => h ⟨?_, ?_, ?_⟩
    ·exact Classical.byContradiction fun h2 => h1 (.inl h2)
    ·cases h3 : (openN (sRead D (k + z) (k + z + z)).1).2
     ·exact absurd (.inr (.inl h3)) h1
     ·rfl
    ·exact Classical.byContradiction fun h2 => h1 (.inr (.inr h2))
   rw [if_pos hn, if_pos (.inl rfl)]
 have hacc : accS D k z 2 = if (stR D (k + z) z 1).2 = 0 ∨ (stR D (k + z) z 1).2 < (stR D k z 0).2 then stR D k z 0 else stR D (k + z) z 1 := by
  show standS D k z 1 (standS D k z 0 ([], 0)) = _
  rw [e0, e1 _ epar.1 epar.2]
 have hb0 : 0 ≤ (stR D (k + z) z 1).2 := by
  unfold stR
  split
  ·exact Int.le_refl 0
  ·rename_i h
   have h0 : (sRead D (k + z) (k + z + z)).2.2.2 = 0 := Classical.byContradiction fun h2 => h (.inl h2)
   have hp := read_pos hG h0
   simp only; omega
 unfold slRead
 rw [hacc]
 split
 ·generalize stR D k z 0 = p at *
  generalize stR D (k + z) z 1 = q at *
  by_cases h1 : q.2 = 0 ∨ q.2 < p.2
  ·rw [if_pos h1]
   by_cases h2 : p.2 = 0
   ·have h3 : q.2 = 0 := by omega
    rw [if_pos h2, if_pos ⟨h2, h3⟩]
   ·rw [if_neg h2, if_neg (fun h => h2 h.1), if_pos (by omega)]
  ·rw [if_neg h1, if_neg (fun h => h1 (.inl h)), if_neg (fun h => h1 (.inl h.2)), if_neg (fun h => h1 (.inr h))]
 ·rfl
section
set_option linter.unusedSimpArgs false
set_option linter.unusedVariables false
set_option maxRecDepth 20000
attribute [local irreducible] Qb3 Qa9 vcA Qbp Wc
set_option maxHeartbeats 8000000
theorem r11Right_fn (d : Qab) (k : Int) (z : Int) (hpre : d.Base.length ≤ 1000000) : Qck Cx.P 99 [.dat Qa2 d, .int .i64 k, .int .i64 z] [.bool (rightB d k z)] := by
 refine Qck.go2 (E := Cx.env) (fn := Try.f99) (res := [_]) Try.func99 Qtj rfl rfl rfl (by kernel_rfl) rfl ?_
 push_cast
 try intro hf
 have h1 : 0 ≤ k → 1 ≤ z → z ≤ 255 → k ≤ (d.Base.length : Int) → rightB d k z = decide (k + 2 * z ≤ (d.Base.length : Int)) := fun a b c _ => by
  simp only [rightB, a, b, c, decide_true, Bool.true_and]
  congr 1
  exact propext ⟨fun _ => by omega, fun _ => by omega⟩
 have h2 : ¬ (0 ≤ k ∧ 1 ≤ z ∧ z ≤ 255 ∧ k ≤ (d.Base.length : Int) - 2 * z) → rightB d k z = false := fun h => by
  cases hr : rightB d k z
  ·rfl
  ·exact absurd (rightB_iff.1 hr) h
 repeat' (first
 | (intro (K' : KT) hK'; push_cast; (repeat' refine And.intro ?_ ?_); all_goals (first | (apply hK'; clear hK' K') | (refine ⟨trivial, trivial, ?_⟩; apply hK'; clear hK' K') | (intro hb; (try push_cast at hb); all_goals (intros; apply hK'; clear hK' K')) | (clear hK' K'; first | omega | skip)))
 | apply Qar | apply Qac | apply Qah | apply Qaj | apply Qau
 | apply Qap | apply Qax | apply Qas | apply Qam | apply Qaz | apply Qay
 | (refine Qaf ?_; push_cast) | apply Qag | refine Qaa (Qa3 _ (by omega) (by omega)) ?_ | refine Qaa (Qb0 _ (by omega) (by omega)) ?_ | refine Qaa (Qba _ (by omega) (by omega)) ?_ | refine Qaa (Qa5 _ (by omega) (by omega)) ?_
 | refine Qai rfl rfl ?_ | refine Qat rfl rfl ?_
 | (refine Qak (by push_cast; first | done | rfl) ?_ ?_ <;> intro hc <;> (try push_cast at hc))
 | refine Qaw rfl rfl rfl (by push_cast; first | done | rfl) ?_
 | refine Qav rfl rfl rfl (by push_cast; first | done | rfl) ?_ ?_
 | (intro (hc : (_ : Prop)); (try push_cast at hc)) | intro (hc : Qad) | intro (hc : Int) | intro (hc : Nat))
 all_goals first | rw [h1 (by omega) (by omega) (by omega) (by omega)] | rw [h2 (by omega)]
theorem r11Right_con : Con Cx.P 99 (.pair Qa2 (.pair (.int .i64) (.pair (.int .i64) (.unit)))) (fun x => (fun (d : Qab) (k : Int) (z : Int) => d.Base.length ≤ 1000000) x.1 x.2.1 x.2.2.1) (fun x => (fun (d : Qab) (k : Int) (z : Int) => [.bool (rightB d k z)]) x.1 x.2.1 x.2.2.1) := ⟨Qtj, fun x h => r11Right_fn x.1 x.2.1 x.2.2.1 h⟩
theorem r11stands_fn (d : Qab) (k : Int) (z : Int) (i : Int) (hpre : 0 ≤ k ∧ k ≤ 1000000000 ∧ 0 ≤ z ∧ z ≤ 1000000) : Qck Cx.P 100 [.dat Qa2 d, .int .i64 k, .int .i64 z, .int .i64 i] [.dat (.slice (.int .u8)) (stR d k z i).1, .int .u64 (stR d k z i).2] := by
 refine Qck.go2 (E := Cx.env) (fn := Try.f100) (res := [_, _]) Try.func100 Qsc rfl rfl rfl (by kernel_rfl) rfl ?_
 push_cast
 try intro hf
 have hG : ∀ j, SecOk (dGet d j).1 := dGet_ok (fun y hy => hf.1.1.2 y hy) (fun y hy => (hf.1.2.1.2 y hy).1)
 have hle := sRead_le hG k (k + z)
 have hno : ((sRead d k (k + z)).2.2.2 ≠ 0 ∨ (openN (sRead d k (k + z)).1).2 = false ∨ (sRead d k (k + z)).2.1.tmod 2 ≠ i) → stR d k z i = ([], 0) := fun h => by unfold stR; rw [if_pos h]
 have hyes : (sRead d k (k + z)).2.2.2 = 0 → (openN (sRead d k (k + z)).1).2 = true → (sRead d k (k + z)).2.1.tmod 2 = i → stR d k z i = ((openN (sRead d k (k + z)).1).1, (sRead d k (k + z)).2.1) := fun h1 h2 h3 => by
  unfold stR
  rw [if_neg]
  rintro (h | h | h)
  ·exact h h1
  ·rw [h2] at h; simp at h
  ·exact h h3
 have hwt : 0 < (sRead d k (k + z)).2.1 → IntKind.i64.wrap ((sRead d k (k + z)).2.1.tmod 2) = (sRead d k (k + z)).2.1.tmod 2 := fun h => by
  rw [Int.tmod_eq_emod_of_nonneg (by omega)]
  exact Qa3 _ (by omega) (by omega)
 repeat' (first
 | (intro (K' : KT) hK'; push_cast; (repeat' refine And.intro ?_ ?_); all_goals (first | (apply hK'; clear hK' K') | (refine ⟨trivial, trivial, ?_⟩; apply hK'; clear hK' K') | (intro hb; (try push_cast at hb); all_goals (intros; apply hK'; clear hK' K')) | ((first | refine Qbg r09Read_con (fun _ => rfl) ?_ | refine Qbg r07Open_con (fun _ => rfl) ?_); push_cast; (repeat' refine And.intro ?_ ?_); all_goals (first | (apply hK'; clear hK' K') | (intros; apply hK'; clear hK' K') | (clear hK' K'; first | omega | skip))) | (clear hK' K'; first | omega | skip)))
 | apply Qar | apply Qac | apply Qah | apply Qaj | apply Qau
 | apply Qap | apply Qax | apply Qas | apply Qam | apply Qaz | apply Qay
 | (refine Qaf ?_; push_cast) | apply Qag | refine Qaa (Qa3 _ (by omega) (by omega)) ?_ | refine Qaa (Qb0 _ (by omega) (by omega)) ?_ | refine Qaa (Qba _ (by omega) (by omega)) ?_ | refine Qaa (Qa5 _ (by omega) (by omega)) ?_
 | refine Qai rfl rfl ?_ | refine Qat rfl rfl ?_
 | (refine Qak (by push_cast; first | done | rfl) ?_ ?_ <;> intro hc <;> (try push_cast at hc))
 | refine Qaw rfl rfl rfl (by push_cast; first | done | rfl) ?_
 | refine Qav rfl rfl rfl (by push_cast; first | done | rfl) ?_ ?_
 | (intro (hc : (_ : Prop)); (try push_cast at hc)) | intro (hc : Qad) | intro (hc : Int) | intro (hc : Nat))
 ·have h0 : (sRead d k (k + z)).2.2.2 = 0 := by simpa using ‹(!decide ((sRead d k (k + z)).2.2.2 = 0)) = false›
  rw [hwt (read_pos hG h0)] at hc
  rw [hno (.inr (.inr (by simpa using hc)))]
  exact ⟨rfl, rfl⟩
 ·have h0 : (sRead d k (k + z)).2.2.2 = 0 := by simpa using ‹(!decide ((sRead d k (k + z)).2.2.2 = 0)) = false›
  rw [hwt (read_pos hG h0)] at hc
  rw [hyes h0 (by simpa using ‹(!(openN (sRead d k (k + z)).1).2) = false›) (by simpa using hc)]
  exact ⟨rfl, rfl⟩
 ·rw [hno (.inr (.inl (by simpa using ‹(!(openN (sRead d k (k + z)).1).2) = true›)))]
  exact ⟨rfl, rfl⟩
 ·rw [hno (.inl (by simpa using ‹(!decide ((sRead d k (k + z)).2.2.2 = 0)) = true›))]
  exact ⟨rfl, rfl⟩
theorem r11stands_con : Con Cx.P 100 (.pair Qa2 (.pair (.int .i64) (.pair (.int .i64) (.pair (.int .i64) (.unit))))) (fun x => (fun (d : Qab) (k : Int) (z : Int) (i : Int) => 0 ≤ k ∧ k ≤ 1000000000 ∧ 0 ≤ z ∧ z ≤ 1000000) x.1 x.2.1 x.2.2.1 x.2.2.2.1) (fun x => (fun (d : Qab) (k : Int) (z : Int) (i : Int) => [.dat (.slice (.int .u8)) (stR d k z i).1, .int .u64 (stR d k z i).2]) x.1 x.2.1 x.2.2.1 x.2.2.2.1) := ⟨Qsc, fun x h => r11stands_fn x.1 x.2.1 x.2.2.1 x.2.2.2.1 h⟩
theorem r11Read_fn (d : Qab) (k : Int) (z : Int) (hpre : d.Base.length ≤ 1000000) : Qck Cx.P 64 [.dat Qa2 d, .int .i64 k, .int .i64 z] [.dat (.slice (.int .u8)) (slRead d k z).1, .int .u64 (slRead d k z).2.1, .int .i64 (slRead d k z).2.2] := by
 refine Qck.go2 (E := Cx.env) (fn := Try.f64) (res := [_, _, _]) Try.func64 Qti rfl rfl rfl (by kernel_rfl) rfl ?_
 push_cast
 try intro hf
 have hG : ∀ j, SecOk (dGet d j).1 := dGet_ok (fun y hy => hf.1.1.2 y hy) (fun y hy => (hf.1.2.1.2 y hy).1)
 have hrd := ref_read hG k z
 cases hr : rightB d k z
 ·rw [hr] at hrd
  simp only [Bool.false_eq_true, if_false] at hrd
  repeat' (first
 | (intro (K' : KT) hK'; push_cast; (repeat' refine And.intro ?_ ?_); all_goals (first | (apply hK'; clear hK' K') | (refine ⟨trivial, trivial, ?_⟩; apply hK'; clear hK' K') | (intro hb; (try push_cast at hb); all_goals (intros; apply hK'; clear hK' K')) | ((first | refine Qbi r11Right_con (fun _ => rfl) ?_); push_cast; (repeat' refine And.intro ?_ ?_); all_goals (first | (apply hK'; clear hK' K') | (intros; apply hK'; clear hK' K') | (clear hK' K'; first | omega | skip))) | (clear hK' K'; first | omega | skip)))
 | apply Qar | apply Qac | apply Qah | apply Qaj | apply Qau
 | apply Qap | apply Qax | apply Qas | apply Qam | apply Qaz | apply Qay
 | (refine Qaf ?_; push_cast) | apply Qag | refine Qaa (Qa3 _ (by omega) (by omega)) ?_ | refine Qaa (Qb0 _ (by omega) (by omega)) ?_ | refine Qaa (Qba _ (by omega) (by omega)) ?_ | refine Qaa (Qa5 _ (by omega) (by omega)) ?_
 | refine Qai rfl rfl ?_ | refine Qat rfl rfl ?_
 | (refine Qak (by push_cast; first | done | rfl) ?_ ?_ <;> intro hc <;> (try push_cast at hc))
 | refine Qaw rfl rfl rfl (by push_cast; first | done | rfl) ?_
 | refine Qav rfl rfl rfl (by push_cast; first | done | rfl) ?_ ?_
 | (intro (hc : (_ : Prop)); (try push_cast at hc)) | intro (hc : Qad) | intro (hc : Int) | intro (hc : Nat))
  ·rw [hrd]; exact ⟨rfl, rfl, rfl⟩
  ·rw [hr] at hc; simp at hc
 ·have hr2 := rightB_iff.1 hr
  rw [hr] at hrd
  simp only [if_true] at hrd
  repeat' (first
 | (intro (K' : KT) hK'; push_cast; (repeat' refine And.intro ?_ ?_); all_goals (first | (apply hK'; clear hK' K') | (refine ⟨trivial, trivial, ?_⟩; apply hK'; clear hK' K') | (intro hb; (try push_cast at hb); all_goals (intros; apply hK'; clear hK' K')) | ((first | refine Qbi r11Right_con (fun _ => rfl) ?_ | refine Qbg r11stands_con (fun _ => rfl) ?_); push_cast; (repeat' refine And.intro ?_ ?_); all_goals (first | (apply hK'; clear hK' K') | (intros; apply hK'; clear hK' K') | (clear hK' K'; first | omega | skip))) | (clear hK' K'; first | omega | skip)))
 | apply Qar | apply Qac | apply Qah | apply Qaj | apply Qau
 | apply Qap | apply Qax | apply Qas | apply Qam | apply Qaz | apply Qay
 | (refine Qaf ?_; push_cast) | apply Qag | refine Qaa (Qa3 _ (by omega) (by omega)) ?_ | refine Qaa (Qb0 _ (by omega) (by omega)) ?_ | refine Qaa (Qba _ (by omega) (by omega)) ?_ | refine Qaa (Qa5 _ (by omega) (by omega)) ?_
 | refine Qai rfl rfl ?_ | refine Qat rfl rfl ?_
 | (refine Qak (by push_cast; first | done | rfl) ?_ ?_ <;> intro hc <;> (try push_cast at hc))
 | refine Qaw rfl rfl rfl (by push_cast; first | done | rfl) ?_
 | refine Qav rfl rfl rfl (by push_cast; first | done | rfl) ?_ ?_
 | (intro (hc : (_ : Prop)); (try push_cast at hc)) | intro (hc : Qad) | intro (hc : Int) | intro (hc : Nat))
  ·rw [hr] at hc; simp at hc
  ·rw [hrd, if_pos ⟨‹_›, ‹_›⟩]; exact ⟨rfl, rfl, rfl⟩
  ·rw [hrd, if_neg (fun h => absurd h.2 ‹_›), if_pos ‹_›]; exact ⟨rfl, rfl, rfl⟩
  ·rw [hrd, if_neg (fun h => absurd h.2 ‹_›), if_neg ‹_›]; exact ⟨rfl, rfl, rfl⟩
  ·rw [hrd, if_neg (fun h => absurd h.1 ‹_›), if_pos ‹_›]; exact ⟨rfl, rfl, rfl⟩
  ·rw [hrd, if_neg (fun h => absurd h.1 ‹_›), if_neg ‹_›]; exact ⟨rfl, rfl, rfl⟩
theorem r11Read_con : Con Cx.P 64 (.pair Qa2 (.pair (.int .i64) (.pair (.int .i64) (.unit)))) (fun x => (fun (d : Qab) (k : Int) (z : Int) => d.Base.length ≤ 1000000) x.1 x.2.1 x.2.2.1) (fun x => (fun (d : Qab) (k : Int) (z : Int) => [.dat (.slice (.int .u8)) (slRead d k z).1, .int .u64 (slRead d k z).2.1, .int .i64 (slRead d k z).2.2]) x.1 x.2.1 x.2.2.1) := ⟨Qti, fun x h => r11Read_fn x.1 x.2.1 x.2.2.1 h⟩
theorem wrap_two (a : Int) : IntKind.u64.wrap (IntKind.u64.wrap (a + 1) + 1) = IntKind.u64.wrap (a + 2) := by
 have hw : ∀ n : Int, IntKind.u64.wrap n = n % 18446744073709551616 := fun n => rfl
 rw [hw, hw, hw]
 omega
theorem r11Next_fn (d : Qab) (k : Int) (z : Int) (hpre : d.Base.length ≤ 1000000) : Qck Cx.P 65 [.dat Qa2 d, .int .i64 k, .int .i64 z] [.int .u64 (slNext d k z).1, .int .i64 (slNext d k z).2] := by
 refine Qck.go2 (E := Cx.env) (fn := Try.f65) (res := [_, _]) Try.func65 Qt0 rfl rfl rfl (by kernel_rfl) rfl ?_
 push_cast
 try intro hf
 cases hr : rightB d k z
 ·have e : slNext d k z = (0, 111) := by unfold slNext; rw [if_neg (by rw [hr]; simp)]
  repeat' (first
 | (intro (K' : KT) hK'; push_cast; (repeat' refine And.intro ?_ ?_); all_goals (first | (apply hK'; clear hK' K') | (refine ⟨trivial, trivial, ?_⟩; apply hK'; clear hK' K') | (intro hb; (try push_cast at hb); all_goals (intros; apply hK'; clear hK' K')) | ((first | refine Qbi r11Right_con (fun _ => rfl) ?_); push_cast; (repeat' refine And.intro ?_ ?_); all_goals (first | (apply hK'; clear hK' K') | (intros; apply hK'; clear hK' K') | (clear hK' K'; first | omega | skip))) | (clear hK' K'; first | omega | skip)))
 | apply Qar | apply Qac | apply Qah | apply Qaj | apply Qau
 | apply Qap | apply Qax | apply Qas | apply Qam | apply Qaz | apply Qay
 | (refine Qaf ?_; push_cast) | apply Qag | refine Qaa (Qa3 _ (by omega) (by omega)) ?_ | refine Qaa (Qb0 _ (by omega) (by omega)) ?_ | refine Qaa (Qba _ (by omega) (by omega)) ?_ | refine Qaa (Qa5 _ (by omega) (by omega)) ?_
 | refine Qai rfl rfl ?_ | refine Qat rfl rfl ?_
 | (refine Qak (by push_cast; first | done | rfl) ?_ ?_ <;> intro hc <;> (try push_cast at hc))
 | refine Qaw rfl rfl rfl (by push_cast; first | done | rfl) ?_
 | refine Qav rfl rfl rfl (by push_cast; first | done | rfl) ?_ ?_
 | (intro (hc : (_ : Prop)); (try push_cast at hc)) | intro (hc : Qad) | intro (hc : Int) | intro (hc : Nat))
  ·rw [e]; exact ⟨rfl, rfl⟩
  ·rw [hr] at hc; simp at hc
 ·have hr2 := rightB_iff.1 hr
  have e : slNext d k z = (nextG d k z, 0) := by unfold slNext; rw [if_pos hr]
  repeat' (first
 | (intro (K' : KT) hK'; push_cast; (repeat' refine And.intro ?_ ?_); all_goals (first | (apply hK'; clear hK' K') | (refine ⟨trivial, trivial, ?_⟩; apply hK'; clear hK' K') | (intro hb; (try push_cast at hb); all_goals (intros; apply hK'; clear hK' K')) | ((first | refine Qbi r11Right_con (fun _ => rfl) ?_ | refine Qbi r09Top_con (fun _ => rfl) ?_ | refine Qbg r11Read_con (fun _ => rfl) ?_); push_cast; (repeat' refine And.intro ?_ ?_); all_goals (first | (apply hK'; clear hK' K') | (intros; apply hK'; clear hK' K') | (clear hK' K'; first | omega | skip))) | (clear hK' K'; first | omega | skip)))
 | apply Qar | apply Qac | apply Qah | apply Qaj | apply Qau
 | apply Qap | apply Qax | apply Qas | apply Qam | apply Qaz | apply Qay
 | (refine Qaf ?_; push_cast) | apply Qag | refine Qaa (Qa3 _ (by omega) (by omega)) ?_ | refine Qaa (Qb0 _ (by omega) (by omega)) ?_ | refine Qaa (Qba _ (by omega) (by omega)) ?_ | refine Qaa (Qa5 _ (by omega) (by omega)) ?_
 | refine Qai rfl rfl ?_ | refine Qat rfl rfl ?_
 | (refine Qak (by push_cast; first | done | rfl) ?_ ?_ <;> intro hc <;> (try push_cast at hc))
 | refine Qaw rfl rfl rfl (by push_cast; first | done | rfl) ?_
 | refine Qav rfl rfl rfl (by push_cast; first | done | rfl) ?_ ?_
 | (intro (hc : (_ : Prop)); (try push_cast at hc)) | intro (hc : Qad) | intro (hc : Int) | intro (hc : Nat))
  ·rw [hr] at hc; simp at hc
  ·have e2 : nextG d k z = IntKind.u64.wrap (IntKind.u64.wrap ((topN d k (k + 2 * z)).1 + 1) + 1) := by unfold nextG; rw [if_pos ⟨‹_›, ‹_›⟩]
   rw [e, e2, wrap_two]; exact ⟨rfl, rfl⟩
  ·have e2 : nextG d k z = IntKind.u64.wrap ((topN d k (k + 2 * z)).1 + 1) := by unfold nextG; rw [if_neg (fun h => absurd h.2 ‹_›)]
   rw [e, e2]; exact ⟨rfl, rfl⟩
  ·have e2 : nextG d k z = IntKind.u64.wrap ((topN d k (k + 2 * z)).1 + 1) := by unfold nextG; rw [if_neg (fun h => absurd h.1 ‹_›)]
   rw [e, e2]; exact ⟨rfl, rfl⟩
theorem r11Next_con : Con Cx.P 65 (.pair Qa2 (.pair (.int .i64) (.pair (.int .i64) (.unit)))) (fun x => (fun (d : Qab) (k : Int) (z : Int) => d.Base.length ≤ 1000000) x.1 x.2.1 x.2.2.1) (fun x => (fun (d : Qab) (k : Int) (z : Int) => [.int .u64 (slNext d k z).1, .int .i64 (slNext d k z).2]) x.1 x.2.1 x.2.2.1) := ⟨Qt0, fun x h => r11Next_fn x.1 x.2.1 x.2.2.1 h⟩
end
end Go.Proofs.Ytnmjcdlgfimnaaa
