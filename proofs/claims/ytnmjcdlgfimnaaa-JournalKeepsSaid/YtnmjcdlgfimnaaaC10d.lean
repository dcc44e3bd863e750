/- Chapter 10: the records that stand from a sector on; a log is opened. -/
import Derived.Test.YtnmjcdlgfimnaaaC10c
import Derived.Test.YtnmjcdlgfimnaaaS9m
namespace Go.Proofs.Ytnmjcdlgfimnaaa
def recEnd (D : R08Disk) (k e last : Int) : Prop := ¬ (sRead D k e).2.2.2 = 0 ∨ (openN (sRead D k e).1).2 = false ∨ (sRead D k e).2.1 ≤ last
instance (D : R08Disk) (k e last : Int) : Decidable (recEnd D k e last) := by unfold recEnd; exact inferInstance
def recN (D : R08Disk) (e : Int) : Nat → Int → Int → List (List Int) × Int
  | 0, k, _ => ([], k)
  | n + 1, k, last => if recEnd D k e last then ([], k) else ((openN (sRead D k e).1).1 :: (recN D e n (k + (sRead D k e).2.2.1) (sRead D k e).2.1).1, (recN D e n (k + (sRead D k e).2.2.1) (sRead D k e).2.1).2)
def recsN (D : R08Disk) (k e last : Int) : List (List Int) × Int := recN D e ((e - k).toNat + 1) k last
theorem readB_le {D : R08Disk} (k : Int) (h : totOf (secAt D k) ≤ 255) : (readB D k).length ≤ 13515 := by
  rw [readB_flat]
  have := flatF_le (fun (i : Nat) => pieceOf (secAt D (k + i))) (fun i => pieceOf_le _) (totOf (secAt D k)).toNat
  omega
theorem sRead_le {D : R08Disk} (hG : ∀ k, SecOk (dGet D k).1) (k e : Int) : (sRead D k e).1.length ≤ 13515 := by
  unfold sRead
  split
  · simp
  · split
    · simp
    · split
      · exact readB_le k ((hG k).at 1).2
      · simp
theorem sRead_ok {D : R08Disk} {k e : Int} (hG : ∀ k, SecOk (dGet D k).1) (h : (sRead D k e).2.2.2 = 0) : 0 ≤ k ∧ e ≤ D.Base.length ∧ 1 ≤ (sRead D k e).2.2.1 ∧ k + (sRead D k e).2.2.1 ≤ e := by
  obtain ⟨hok, he⟩ := read_inv h
  have h1 : ¬ (k < 0 ∨ (D.Base.length : Int) < e) := by
    intro h2
    unfold sRead at h
    rw [if_pos h2] at h
    simp at h
  rw [he]
  have h3 := hok.2.1
  have h4 := hok.2.2.1
  have h5 : 0 ≤ totOf (secAt D k) := ((hG k).at 1).1
  simp only
  omega
structure RecTo (D : R08Disk) (k0 e l0 : Int) (out : List (List Int)) (k last : Int) (n : Nat) : Prop where
  lo : k0 ≤ k
  fuel : e - k < n
  q : (out.length : Int) ≤ k - k0
  st : (out.length = 0 ∧ k = k0) ∨ 0 ≤ k0
  eq : recsN D k0 e l0 = (out ++ (recN D e n k last).1, (recN D e n k last).2)
theorem recTo_0 (D : R08Disk) (k e l : Int) : RecTo D k e l [] k l ((e - k).toNat + 1) := ⟨Int.le_refl _, by omega, by simp, .inl ⟨rfl, rfl⟩, by simp [recsN]⟩
theorem recTo_end {D : R08Disk} {k0 e l0 : Int} {out : List (List Int)} {k last : Int} {n : Nat} (h : RecTo D k0 e l0 out k last n) (hn : 0 < n ∨ True) (he : recEnd D k e last) : recsN D k0 e l0 = (out, k) := by
  rw [h.eq]
  cases n with
  | zero => simp [recN]
  | succ n => simp [recN, he]
theorem recTo_step {D : R08Disk} (hG : ∀ k, SecOk (dGet D k).1) {k0 e l0 : Int} {out : List (List Int)} {k last : Int} {n : Nat} (h : RecTo D k0 e l0 out k last n) (he : ¬ recEnd D k e last) :
    RecTo D k0 e l0 (out ++ [(openN (sRead D k e).1).1]) (k + (sRead D k e).2.2.1) (sRead D k e).2.1 (n - 1) ∧ 0 < n := by
  have h0 : (sRead D k e).2.2.2 = 0 := Classical.byContradiction fun hc => he (.inl hc)
  obtain ⟨h9, _, h1, h2⟩ := sRead_ok hG h0
  have hst := h.st
  have hf := h.fuel
  have hn : 0 < n := by omega
  refine ⟨⟨by have := h.lo; omega, by omega, by have := h.q; simp only [List.length_append, List.length_singleton]; omega, .inr (by omega), ?_⟩, hn⟩
  rw [h.eq]
  obtain ⟨m, rfl⟩ : ∃ m, n = m + 1 := ⟨n - 1, by omega⟩
  simp [recN, he]
set_option linter.unusedSimpArgs false
set_option linter.unusedVariables false
set_option maxRecDepth 20000
attribute [local irreducible] vcOps vcCode vcA vcSch Wc
set_option maxHeartbeats 8000000
theorem records_fn (D : R08Disk) (k e l : Int) :
    Spec Cx.P 93 [.l (.ptr 1 [] 0), .l (.int .i64 k), .l (.int .i64 e), .l (.int .u64 l)] [(1, .obj DiskO D)] (tvL [.dat (.slice (.slice (.int .u8))) (recsN D k e l).1, .int .i64 (recsN D k e l).2]) [(1, .obj DiskO D)] := by
  refine Spec_disk isfn93 fun hw hG => ?_
  have hbase := hw.many
  refine Spec.go2 (E := Cx.env) (fn := Try.f93) (res := [_, _]) _ (Opens.refl _) Try.func93 isfn93 rfl rfl (by simp [idsV, SV.ids, LV.ids]) (by simp [idsM]) (by kernel_rfl) rfl ?_
  intro hf
  try push_cast at hf
  intro _
  repeat' (first
    | (intro (K' : KT) hK'; push_cast; (repeat' refine And.intro ?_ ?_); all_goals (first | (apply hK'; clear hK' K') | (refine ⟨trivial, trivial, ?_⟩; apply hK'; clear hK' K') | (intro hb; (try push_cast at hb); all_goals (intros; apply hK'; clear hK' K')) | (clear hK' K'; first | omega | skip)))
    | apply go_seq | apply go_block | apply go_region | apply go_skip | apply go_exit | apply go_ret
    | apply seqK_n | apply seqK_x | apply seqK_r | apply blockK_n | apply blockK_r | apply blockK_hit | apply blockK_miss rfl | apply loopK_x | apply loopK_r | apply regK_go | apply finK_n | apply finK_r
    | (refine vres_go ?_; push_cast) | apply ops_nil | refine ops_in (w_i64 _ (by omega) (by omega)) ?_ | refine ops_in (w_u8 _ (by omega) (by omega)) ?_ | refine ops_in (w_u32 _ (by omega) (by omega)) ?_ | refine ops_in (w_u64 _ (by omega) (by omega)) ?_
    | refine ops_put rfl rfl ?_ | refine ops_no rfl rfl ?_
    | (refine go_cond (by push_cast; first | done | rfl) ?_ ?_ <;> intro hc <;> (try push_cast at hc))
    | refine ops_gt rfl rfl rfl (by push_cast; first | done | rfl) ?_
    | refine ops_gb rfl rfl rfl (by push_cast; first | done | rfl) ?_ ?_
    | (intro (hc : (_ : Prop)); (try push_cast at hc)) | intro (hc : R08Item) | intro (hc : Int) | intro (hc : Nat))
  refine loop_nil (.slice (.int .u8)) 10 47 rfl (by push_cast) ?_
  push_cast
  refine go_loop2 [1, 3, 8, 9, 10, 11, 12, 13, 14, 15, 16, 17, 18, 19, 20, 21, 22, 23, 24, 25, 26, 27, 28, 29, 30, 31, 32, 33, 34, 35, 36, 37, 38, 39, 40, 41, 42, 43, 44, 45, 46, 47, 48, 49, 50, 51] [21, 28, 46, 47] (fun (p : List (List Int) × Int × Int × Nat) => RecTo D k e l p.1 p.2.1 p.2.2.1 p.2.2.2) (fun (p : List (List Int) × Int × Int × Nat) => [(1, .one (.l (.int .i64 p.2.1))), (3, .one (.l (.int .u64 p.2.2.1))), (10, .one (.l (.own 47)))]) (fun (p : List (List Int) × Int × Int × Nat) => [(47, .arr (.slice (.int .u8)) p.1)]) (fun (p : List (List Int) × Int × Int × Nat) => p.2.2.2) ([], k, l, (e - k).toNat + 1) ?_ (by push_cast; first | done | rfl) (by push_cast; first | done | rfl) ?_ ?_
  · exact recTo_0 D k e l
  · push_cast
  · rintro ⟨out, k1, l1, n⟩ hr
    simp only at hr
    push_cast
    intro hg
    have hle := sRead_le hG k1 e
    have hq := hr.q
    have hlo := hr.lo
    by_cases h0 : (sRead D k1 e).2.2.2 = 0
    · obtain ⟨ho1, ho2, ho3, ho4⟩ := sRead_ok (k := k1) (e := e) hG h0
      repeat' (first
    | (intro (K' : KT) hK'; push_cast; (repeat' refine And.intro ?_ ?_); all_goals (first | (apply hK'; clear hK' K') | (refine ⟨trivial, trivial, ?_⟩; apply hK'; clear hK' K') | (intro hb; (try push_cast at hb); all_goals (intros; apply hK'; clear hK' K')) | ((first | refine call_1f Read_con (fun _ _ => rfl) ?_ | refine call_N crcOpen_con (fun _ => rfl) ?_); push_cast; (repeat' refine And.intro ?_ ?_); all_goals (first | (apply hK'; clear hK' K') | (intros; apply hK'; clear hK' K') | (clear hK' K'; first | omega | skip))) | (clear hK' K'; first | omega | skip)))
    | apply go_seq | apply go_block | apply go_region | apply go_skip | apply go_exit | apply go_ret
    | apply seqK_n | apply seqK_x | apply seqK_r | apply blockK_n | apply blockK_r | apply blockK_hit | apply blockK_miss rfl | apply loopK_x | apply loopK_r | apply regK_go | apply finK_n | apply finK_r
    | (refine vres_go ?_; push_cast) | apply ops_nil | refine ops_in (w_i64 _ (by omega) (by omega)) ?_ | refine ops_in (w_u8 _ (by omega) (by omega)) ?_ | refine ops_in (w_u32 _ (by omega) (by omega)) ?_ | refine ops_in (w_u64 _ (by omega) (by omega)) ?_
    | refine ops_put rfl rfl ?_ | refine ops_no rfl rfl ?_
    | (refine go_cond (by push_cast; first | done | rfl) ?_ ?_ <;> intro hc <;> (try push_cast at hc))
    | refine ops_gt rfl rfl rfl (by push_cast; first | done | rfl) ?_
    | refine ops_gb rfl rfl rfl (by push_cast; first | done | rfl) ?_ ?_
    | (intro (hc : (_ : Prop)); (try push_cast at hc)) | intro (hc : R08Item) | intro (hc : Int) | intro (hc : Nat))
      · rw [recTo_end hr (.inr trivial) (.inr (.inr ‹_›))]
        (refine Fin2.fin ⟨[(1, .obj DiskO D)], ?_, ?_, ?_, Closes.refl _, ?_⟩
         · push_cast
         · push_cast
         · simp [idsM]
         · simp [tvL, TV.ids, SV.ids, LV.ids, idsV])
      · have := hr.st
        omega
      · have he : ¬ recEnd D k1 e l1 := by
          rintro (h | h | h)
          · exact h h0
          · have := ‹(!(openN (sRead D k1 e).1).2) = false›
            rw [h] at this; simp at this
          · omega
        obtain ⟨h1, h2⟩ := recTo_step hG hr he
        refine loopK_m (_, _, _, n - 1) h1 (by simp only; omega) ?_
        push_cast
      · rw [recTo_end hr (.inr trivial) (.inr (.inl (by simpa using ‹(!(openN (sRead D k1 e).1).2) = true›)))]
        (refine Fin2.fin ⟨[(1, .obj DiskO D)], ?_, ?_, ?_, Closes.refl _, ?_⟩
         · push_cast
         · push_cast
         · simp [idsM]
         · simp [tvL, TV.ids, SV.ids, LV.ids, idsV])
      · exfalso
        have h9 := ‹(!decide ((sRead D k1 e).2.2.2 = 0)) = true›
        rw [h0] at h9; simp at h9
    · have hb : (!decide ((sRead D k1 e).2.2.2 = 0)) = false → False := fun h => by simp [h0] at h
      repeat' (first
    | (intro (K' : KT) hK'; push_cast; (repeat' refine And.intro ?_ ?_); all_goals (first | (apply hK'; clear hK' K') | (refine ⟨trivial, trivial, ?_⟩; apply hK'; clear hK' K') | (intro hb; (try push_cast at hb); all_goals (intros; apply hK'; clear hK' K')) | ((first | refine call_1f Read_con (fun _ _ => rfl) ?_ | refine call_N crcOpen_con (fun _ => rfl) ?_); push_cast; (repeat' refine And.intro ?_ ?_); all_goals (first | (apply hK'; clear hK' K') | (intros; apply hK'; clear hK' K') | (clear hK' K'; first | omega | skip))) | (clear hK' K'; first | omega | skip)))
    | apply go_seq | apply go_block | apply go_region | apply go_skip | apply go_exit | apply go_ret
    | apply seqK_n | apply seqK_x | apply seqK_r | apply blockK_n | apply blockK_r | apply blockK_hit | apply blockK_miss rfl | apply loopK_x | apply loopK_r | apply regK_go | apply finK_n | apply finK_r
    | (refine vres_go ?_; push_cast) | apply ops_nil | refine ops_in (w_i64 _ (by omega) (by omega)) ?_ | refine ops_in (w_u8 _ (by omega) (by omega)) ?_ | refine ops_in (w_u32 _ (by omega) (by omega)) ?_ | refine ops_in (w_u64 _ (by omega) (by omega)) ?_
    | refine ops_put rfl rfl ?_ | refine ops_no rfl rfl ?_
    | (refine go_cond (by push_cast; first | done | rfl) ?_ ?_ <;> intro hc <;> (try push_cast at hc))
    | refine ops_gt rfl rfl rfl (by push_cast; first | done | rfl) ?_
    | refine ops_gb rfl rfl rfl (by push_cast; first | done | rfl) ?_ ?_
    | (intro (hc : (_ : Prop)); (try push_cast at hc)) | intro (hc : R08Item) | intro (hc : Int) | intro (hc : Nat))
      all_goals
        first
        | (exfalso; exact hb ‹_›)
        | (rw [recTo_end hr (.inr trivial) (.inl h0)]
           (refine Fin2.fin ⟨[(1, .obj DiskO D)], ?_, ?_, ?_, Closes.refl _, ?_⟩
            · push_cast
            · push_cast
            · simp [idsM]
            · simp [tvL, TV.ids, SV.ids, LV.ids, idsV]))
theorem records_con : Con1 Cx.P 93 DiskO (.pair (.int .i64) (.pair (.int .i64) (.pair (.int .u64) .unit))) (fun _ _ => True)
    (fun D x => [.dat (.slice (.slice (.int .u8))) (recsN D x.1 x.2.1 x.2.2.1).1, .int .i64 (recsN D x.1 x.2.1 x.2.2.1).2]) (fun D _ => D) := ⟨isfn93, fun D x _ => records_fn D x.1 x.2.1 x.2.2.1⟩
end Go.Proofs.Ytnmjcdlgfimnaaa
