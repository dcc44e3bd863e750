/- Chapter 10: the records that stand from a sector on; a log is opened. -/
import Derived.Test.YtnmjcdlgfimnaaaC10c
import Derived.Test.YtnmjcdlgfimnaaaS2
namespace Go.Proofs.Ytnmjcdlgfimnaaa
def recEnd (D : Qab) (k e last : Int) : Prop := ¬ (sRead D k e).2.2.2 = 0 ∨ (openN (sRead D k e).1).2 = false ∨ (sRead D k e).2.1 ≤ last
instance (D : Qab) (k e last : Int) : Decidable (recEnd D k e last) := by unfold recEnd; exact inferInstance
def recN (D : Qab) (e : Int) : Nat → Int → Int → List (List Int) × Int
 | 0, k, _ => ([], k)
 | n + 1, k, last => if recEnd D k e last then ([], k) else ((openN (sRead D k e).1).1 :: (recN D e n (k + (sRead D k e).2.2.1) (sRead D k e).2.1).1, (recN D e n (k + (sRead D k e).2.2.1) (sRead D k e).2.1).2)
def recsN (D : Qab) (k e last : Int) : List (List Int) × Int := recN D e ((e - k).toNat + 1) k last
theorem readB_le {D : Qab} (k : Int) (h : totOf (secAt D k) ≤ 255) : (readB D k).length ≤ 13515 := by
 rw [readB_flat]
 have := flatF_le (fun (i : Nat) => pieceOf (secAt D (k + i))) (fun i => pieceOf_le _) (totOf (secAt D k)).toNat
 omega
theorem sRead_le {D : Qab} (hG : ∀ k, SecOk (dGet D k).1) (k e : Int) : (sRead D k e).1.length ≤ 13515 := by
 unfold sRead
 split
 ·simp
 ·split
  ·simp
  ·split
   ·exact readB_le k ((hG k).at 1).2
   ·simp
theorem sRead_ok {D : Qab} {k e : Int} (hG : ∀ k, SecOk (dGet D k).1) (h : (sRead D k e).2.2.2 = 0) : 0 ≤ k ∧ e ≤ D.Base.length ∧ 1 ≤ (sRead D k e).2.2.1 ∧ k + (sRead D k e).2.2.1 ≤ e := by
 obtain ⟨hok, he⟩ := read_inv h
 have h1 : ¬ (k < 0 ∨ (D.Base.length : Int) < e) := by
  intro h2
  unfold sRead at h
  rw [if_pos h2] at h
  simp at h
 rw [he]
 have h3 := hok.2.1
 have h4 := hok.2.2.1
 have h5 : 0 ≤ totOf (secAt D k) := ((hG k).at 1).1
 simp only
 omega
structure RecTo (D : Qab) (k0 e l0 : Int) (out : List (List Int)) (k last : Int) (n : Nat) : Prop where
 lo : k0 ≤ k
 fuel : e - k < n
 q : (out.length : Int) ≤ k - k0
 st : (out.length = 0 ∧ k = k0) ∨ 0 ≤ k0
 eq : recsN D k0 e l0 = (out ++ (recN D e n k last).1, (recN D e n k last).2)
theorem recTo_0 (D : Qab) (k e l : Int) : RecTo D k e l [] k l ((e - k).toNat + 1) := ⟨Int.le_refl _, by omega, by simp, .inl ⟨rfl, rfl⟩, by simp [recsN]⟩
theorem recTo_end {D : Qab} {k0 e l0 : Int} {out : List (List Int)} {k last : Int} {n : Nat} (h : RecTo D k0 e l0 out k last n) (hn : 0 < n ∨ True) (he : recEnd D k e last) : recsN D k0 e l0 = (out, k) := by
 rw [h.eq]
 cases n with
 | zero => simp [recN]
 | succ n => simp [recN, he]
theorem recTo_step {D : Qab} (hG : ∀ k, SecOk (dGet D k).1) {k0 e l0 : Int} {out : List (List Int)} {k last : Int} {n : Nat} (h : RecTo D k0 e l0 out k last n) (he : ¬ recEnd D k e last) :
    RecTo D k0 e l0 (out ++ [(openN (sRead D k e).1).1]) (k + (sRead D k e).2.2.1) (sRead D k e).2.1 (n - 1) ∧ 0 < n := by
 have h0 : (sRead D k e).2.2.2 = 0 := Classical.byContradiction fun hc => he (.inl hc)
 obtain ⟨h9, _, h1, h2⟩ := sRead_ok hG h0
 have hst := h.st
 have hf := h.fuel
 have hn : 0 < n := by omega
 refine ⟨⟨by have := h.lo; omega, by omega, by have := h.q; simp only [List.length_append, List.length_singleton]; omega, .inr (by omega), ?_⟩, hn⟩
 rw [h.eq]
 obtain ⟨m, rfl⟩ : ∃ m, n = m + 1 := ⟨n - 1, by omega⟩
 simp [recN, he]
set_option linter.unusedSimpArgs false
set_option linter.unusedVariables false
set_option maxRecDepth 20000
attribute [local irreducible] Qb3 Qa9 vcA Qbp Wc
set_option maxHeartbeats 8000000
theorem records_fn (D : Qab) (k e l : Int) :
    Qcs Cx.P 93 [.l (.ptr 1 [] 0), .l (.int .i64 k), .l (.int .i64 e), .l (.int .u64 l)] [(1, .obj DiskO D)] (tvL [.dat (.slice (.slice (.int .u8))) (recsN D k e l).1, .int .i64 (recsN D k e l).2]) [(1, .obj DiskO D)] := by
 refine Spec_disk Qr8 fun hw hG => ?_
 have hbase := hw.many
 refine Qcs.go2 (E := Cx.env) (fn := Try.f93) (res := [_, _]) _ (Qc2.refl _) Try.func93 Qr8 rfl rfl (by simp [Qb1, SV.ids, LV.ids]) (by simp [Qao]) (by kernel_rfl) rfl ?_
 intro hf
 try push_cast at hf
 intro _
 repeat' (first
 | (intro (K' : KT) hK'; push_cast; (repeat' refine And.intro ?_ ?_); all_goals (first | (apply hK'; clear hK' K') | (refine ⟨trivial, trivial, ?_⟩; apply hK'; clear hK' K') | (intro hb; (try push_cast at hb); all_goals (intros; apply hK'; clear hK' K')) | (clear hK' K'; first | omega | skip)))
 | apply Qar | apply Qa0 | apply Qac | apply Qah | apply Qaj | apply Qau
 | apply Qap | apply Qax | apply Qas | apply Qaq | apply Qa1 | apply Qal | apply Qae rfl | apply Qa6 | apply Qa7 | apply Qam | apply Qaz | apply Qay
 | (refine Qaf ?_; push_cast) | apply Qag | refine Qaa (Qa3 _ (by omega) (by omega)) ?_ | refine Qaa (Qb0 _ (by omega) (by omega)) ?_ | refine Qaa (Qba _ (by omega) (by omega)) ?_ | refine Qaa (Qa5 _ (by omega) (by omega)) ?_
 | refine Qai rfl rfl ?_ | refine Qat rfl rfl ?_
 | (refine Qak (by push_cast; first | done | rfl) ?_ ?_ <;> intro hc <;> (try push_cast at hc))
 | refine Qaw rfl rfl rfl (by push_cast; first | done | rfl) ?_
 | refine Qav rfl rfl rfl (by push_cast; first | done | rfl) ?_ ?_
 | (intro (hc : (_ : Prop)); (try push_cast at hc)) | intro (hc : Qad) | intro (hc : Int) | intro (hc : Nat))
 refine Qmi (.slice (.int .u8)) 10 47 rfl (by push_cast) ?_
 push_cast
 refine Qbu [1, 3, 8, 9, 10, 11, 12, 13, 14, 15, 16, 17, 18, 19, 20, 21, 22, 23, 24, 25, 26, 27, 28, 29, 30, 31, 32, 33, 34, 35, 36, 37, 38, 39, 40, 41, 42, 43, 44, 45, 46, 47, 48, 49, 50, 51] [21, 28, 46, 47] (fun (p : List (List Int) × Int × Int × Nat) => RecTo D k e l p.1 p.2.1 p.2.2.1 p.2.2.2) (fun (p : List (List Int) × Int × Int × Nat) => [(1, .one (.l (.int .i64 p.2.1))), (3, .one (.l (.int .u64 p.2.2.1))), (10, .one (.l (.own 47)))]) (fun (p : List (List Int) × Int × Int × Nat) => [(47, .arr (.slice (.int .u8)) p.1)]) (fun (p : List (List Int) × Int × Int × Nat) => p.2.2.2) ([], k, l, (e - k).toNat + 1) ?_ (by push_cast; first | done | rfl) (by push_cast; first | done | rfl) ?_ ?_
 ·exact recTo_0 D k e l
 ·push_cast
 ·rintro ⟨out, k1, l1, n⟩ hr
  simp only at hr
  push_cast
  intro hg
  have hle := sRead_le hG k1 e
  have hq := hr.q
  have hlo := hr.lo
  by_cases h0 : (sRead D k1 e).2.2.2 = 0
  ·obtain ⟨ho1, ho2, ho3, ho4⟩ := sRead_ok (k := k1) (e := e) hG h0
   repeat' (first
 | (intro (K' : KT) hK'; push_cast; (repeat' refine And.intro ?_ ?_); all_goals (first | (apply hK'; clear hK' K') | (refine ⟨trivial, trivial, ?_⟩; apply hK'; clear hK' K') | (intro hb; (try push_cast at hb); all_goals (intros; apply hK'; clear hK' K')) | ((first | refine Qsi Read_con (fun _ _ => rfl) ?_ | refine Qbg crcOpen_con (fun _ => rfl) ?_); push_cast; (repeat' refine And.intro ?_ ?_); all_goals (first | (apply hK'; clear hK' K') | (intros; apply hK'; clear hK' K') | (clear hK' K'; first | omega | skip))) | (clear hK' K'; first | omega | skip)))
 | apply Qar | apply Qa0 | apply Qac | apply Qah | apply Qaj | apply Qau
 | apply Qap | apply Qax | apply Qas | apply Qaq | apply Qa1 | apply Qal | apply Qae rfl | apply Qa6 | apply Qa7 | apply Qam | apply Qaz | apply Qay
 | (refine Qaf ?_; push_cast) | apply Qag | refine Qaa (Qa3 _ (by omega) (by omega)) ?_ | refine Qaa (Qb0 _ (by omega) (by omega)) ?_ | refine Qaa (Qba _ (by omega) (by omega)) ?_ | refine Qaa (Qa5 _ (by omega) (by omega)) ?_
 | refine Qai rfl rfl ?_ | refine Qat rfl rfl ?_
 | (refine Qak (by push_cast; first | done | rfl) ?_ ?_ <;> intro hc <;> (try push_cast at hc))
 | refine Qaw rfl rfl rfl (by push_cast; first | done | rfl) ?_
 | refine Qav rfl rfl rfl (by push_cast; first | done | rfl) ?_ ?_
 | (intro (hc : (_ : Prop)); (try push_cast at hc)) | intro (hc : Qad) | intro (hc : Int) | intro (hc : Nat))
   ·rw [recTo_end hr (.inr trivial) (.inr (.inr ‹_›))]
    (refine Qc9.fin ⟨[(1, .obj DiskO D)], ?_, ?_, ?_, Qbb.refl _, ?_⟩
     ·push_cast
     ·push_cast
     ·simp [Qao]
     ·simp [tvL, TV.ids, SV.ids, LV.ids, Qb1])
   ·have := hr.st
    omega
   ·have he : ¬ recEnd D k1 e l1 := by
     rintro (h | h | h)
     ·exact h h0
     ·have := ‹(!(openN (sRead D k1 e).1).2) = false›
      rw [h] at this; simp at this
     ·omega
    obtain ⟨h1, h2⟩ := recTo_step hG hr he
    refine Qbv (_, _, _, n - 1) h1 (by simp only; omega) ?_
    push_cast
   ·rw [recTo_end hr (.inr trivial) (.inr (.inl (by simpa using ‹(!(openN (sRead D k1 e).1).2) = true›)))]
    (refine Qc9.fin ⟨[(1, .obj DiskO D)], ?_, ?_, ?_, Qbb.refl _, ?_⟩
     ·push_cast
     ·push_cast
     ·simp [Qao]
     ·simp [tvL, TV.ids, SV.ids, LV.ids, Qb1])
   ·exfalso
    have h9 := ‹(!decide ((sRead D k1 e).2.2.2 = 0)) = true›
    rw [h0] at h9; simp at h9
  ·have hb : (!decide ((sRead D k1 e).2.2.2 = 0)) = false → False := fun h => by simp [h0] at h
   repeat' (first
 | (intro (K' : KT) hK'; push_cast; (repeat' refine And.intro ?_ ?_); all_goals (first | (apply hK'; clear hK' K') | (refine ⟨trivial, trivial, ?_⟩; apply hK'; clear hK' K') | (intro hb; (try push_cast at hb); all_goals (intros; apply hK'; clear hK' K')) | ((first | refine Qsi Read_con (fun _ _ => rfl) ?_ | refine Qbg crcOpen_con (fun _ => rfl) ?_); push_cast; (repeat' refine And.intro ?_ ?_); all_goals (first | (apply hK'; clear hK' K') | (intros; apply hK'; clear hK' K') | (clear hK' K'; first | omega | skip))) | (clear hK' K'; first | omega | skip)))
 | apply Qar | apply Qa0 | apply Qac | apply Qah | apply Qaj | apply Qau
 | apply Qap | apply Qax | apply Qas | apply Qaq | apply Qa1 | apply Qal | apply Qae rfl | apply Qa6 | apply Qa7 | apply Qam | apply Qaz | apply Qay
 | (refine Qaf ?_; push_cast) | apply Qag | refine Qaa (Qa3 _ (by omega) (by omega)) ?_ | refine Qaa (Qb0 _ (by omega) (by omega)) ?_ | refine Qaa (Qba _ (by omega) (by omega)) ?_ | refine Qaa (Qa5 _ (by omega) (by omega)) ?_
 | refine Qai rfl rfl ?_ | refine Qat rfl rfl ?_
 | (refine Qak (by push_cast; first | done | rfl) ?_ ?_ <;> intro hc <;> (try push_cast at hc))
 | refine Qaw rfl rfl rfl (by push_cast; first | done | rfl) ?_
 | refine Qav rfl rfl rfl (by push_cast; first | done | rfl) ?_ ?_
 | (intro (hc : (_ : Prop)); (try push_cast at hc)) | intro (hc : Qad) | intro (hc : Int) | intro (hc : Nat))
   all_goals
    first
    | (exfalso; exact hb ‹_›)
    | (rw [recTo_end hr (.inr trivial) (.inl h0)]
       (refine Qc9.fin ⟨[(1, .obj DiskO D)], ?_, ?_, ?_, Qbb.refl _, ?_⟩
        ·push_cast
        ·push_cast
        ·simp [Qao]
        ·simp [tvL, TV.ids, SV.ids, LV.ids, Qb1]))
theorem records_con : Qkc Cx.P 93 DiskO (.pair (.int .i64) (.pair (.int .i64) (.pair (.int .u64) .unit))) (fun _ _ => True)
    (fun D x => [.dat (.slice (.slice (.int .u8))) (recsN D x.1 x.2.1 x.2.2.1).1, .int .i64 (recsN D x.1 x.2.1 x.2.2.1).2]) (fun D _ => D) := ⟨Qr8, fun D x _ => records_fn D x.1 x.2.1 x.2.2.1⟩
end Go.Proofs.Ytnmjcdlgfimnaaa
