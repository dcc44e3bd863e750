/- Chapter 9: bytes put over sectors: the document's and the code's. -/
import Derived.Test.YtnmjcdlgfimnaaaS9q
import Derived.Test.YtnmjcdlgfimnaaaS9d
import Derived.Test.YtnmjcdlgfimnaaaS9e
import Derived.Test.YtnmjcdlgfimnaaaB2
namespace Go.Proofs.Ytnmjcdlgfimnaaa
set_option linter.unusedSimpArgs false
set_option linter.unusedVariables false
set_option maxRecDepth 20000
attribute [local irreducible] vcOps vcCode vcA vcSch Wc
set_option maxHeartbeats 8000000
theorem r09Put_fn (d : R08Disk) (k : Int) (st : Int) (b : List Int) (hpre : d.Queue.length ≤ 999000) : Pure Cx.P 42 [.dat rR08Disk d, .int .i64 k, .int .u64 st, .dat (.slice (.int .u8)) b] [.dat rR08Disk (sPut d k st b).1, .int .i64 (sPut d k st b).2] := by
  refine Pure.go2 (E := Cx.env) (fn := Try.f42) (res := [_, _]) Try.func42 isfn42 rfl rfl rfl (by kernel_rfl) rfl ?_
  push_cast
  try intro hf
  have hT := spanN_bd b.length
  have hL := secsN_len st b
  have h91 : st = 0 ∨ spanN b.length = 0 → sPut d k st b = (d, 91) := fun h => by unfold sPut; rw [if_pos h]
  have h81 : ¬ st = 0 → ¬ spanN b.length = 0 → (k < 0 ∨ (d.Base.length : Int) - spanN b.length < k) → sPut d k st b = (d, 81) := fun h1 h2 h => by unfold sPut; rw [if_neg (by omega), if_pos h]
  have hgo : ¬ st = 0 → ¬ spanN b.length = 0 → ¬ (k < 0 ∨ (d.Base.length : Int) - spanN b.length < k) → sPut d k st b = putAll d k (secsN st b) := fun h1 h2 h => by unfold sPut; rw [if_neg (by omega), if_neg h]
  repeat' (first
    | (intro (K' : KT) hK'; push_cast; (repeat' refine And.intro ?_ ?_); all_goals (first | (apply hK'; clear hK' K') | (refine ⟨trivial, trivial, ?_⟩; apply hK'; clear hK' K') | (intro hb; (try push_cast at hb); all_goals (intros; apply hK'; clear hK' K')) | ((first | refine call_F r09Span_con (fun _ => rfl) ?_ | refine call_N r09Sectors_con (fun _ => rfl) ?_); push_cast; (repeat' refine And.intro ?_ ?_); all_goals (first | (apply hK'; clear hK' K') | (intros; apply hK'; clear hK' K') | (clear hK' K'; first | omega | skip))) | (clear hK' K'; first | omega | skip)))
    | apply go_seq | apply go_block | apply go_region | apply go_skip | apply go_exit | apply go_ret
    | apply seqK_n | apply seqK_x | apply seqK_r | apply blockK_n | apply blockK_r | apply blockK_hit | apply blockK_miss rfl | apply loopK_x | apply loopK_r | apply regK_go | apply finK_n | apply finK_r
    | (refine vres_go ?_; push_cast) | apply ops_nil | refine ops_in (w_i64 _ (by omega) (by omega)) ?_ | refine ops_in (w_u8 _ (by omega) (by omega)) ?_ | refine ops_in (w_u32 _ (by omega) (by omega)) ?_ | refine ops_in (w_u64 _ (by omega) (by omega)) ?_
    | refine ops_put rfl rfl ?_ | refine ops_no rfl rfl ?_
    | (refine go_cond (by push_cast; first | done | rfl) ?_ ?_ <;> intro hc <;> (try push_cast at hc))
    | refine ops_gt rfl rfl rfl (by push_cast; first | done | rfl) ?_
    | refine ops_gb rfl rfl rfl (by push_cast; first | done | rfl) ?_ ?_
    | (intro (hc : (_ : Prop)); (try push_cast at hc)) | intro (hc : R08Item) | intro (hc : Int) | intro (hc : Nat))
  · rw [h91 (.inr ‹_›)]; exact ⟨rfl, rfl⟩
  · rw [h81 ‹_› ‹_› (.inr (by omega))]; exact ⟨rfl, rfl⟩
  · have hp := hgo ‹_› ‹_› (by omega)
    clear hgo h81 h91
    refine go_loop2 [9, 11, 12, 13, 14, 42, 43, 44, 45, 46, 47, 48, 49, 50, 51, 52, 53, 54, 55, 56, 57, 58, 59, 60, 61] [4, 12, 13, 53] (fun (p : R08Disk × Nat) => PutTo d k (secsN st b) p.1 p.2) (fun (p : R08Disk × Nat) => [(42, .one (.l (.int .i64 p.2)))]) (fun (p : R08Disk × Nat) => [(4, .segs [.dat rR08Disk p.1])]) (fun (p : R08Disk × Nat) => (secsN st b).length - p.2) (d, 0) ?_ (by push_cast; first | done | rfl) (by push_cast; first | done | rfl) ?_ ?_
    · exact putTo_0 _ _ _
    · push_cast
    · rintro ⟨F, i⟩ hi
      simp only at hi
      push_cast
      intro hg
      have hq := hi.q
      have hle := hi.le
      repeat' (first
    | (intro (K' : KT) hK'; push_cast; (repeat' refine And.intro ?_ ?_); all_goals (first | (apply hK'; clear hK' K') | (refine ⟨trivial, trivial, ?_⟩; apply hK'; clear hK' K') | (intro hb; (try push_cast at hb); all_goals (intros; apply hK'; clear hK' K')) | ((first | refine call_N r08Put_con (fun _ => rfl) ?_); push_cast; (repeat' refine And.intro ?_ ?_); all_goals (first | (apply hK'; clear hK' K') | (intros; apply hK'; clear hK' K') | (clear hK' K'; first | omega | skip))) | (clear hK' K'; first | omega | skip)))
    | apply go_seq | apply go_block | apply go_region | apply go_skip | apply go_exit | apply go_ret
    | apply seqK_n | apply seqK_x | apply seqK_r | apply blockK_n | apply blockK_r | apply blockK_hit | apply blockK_miss rfl | apply loopK_x | apply loopK_r | apply regK_go | apply finK_n | apply finK_r
    | (refine vres_go ?_; push_cast) | apply ops_nil | refine ops_in (w_i64 _ (by omega) (by omega)) ?_ | refine ops_in (w_u8 _ (by omega) (by omega)) ?_ | refine ops_in (w_u32 _ (by omega) (by omega)) ?_ | refine ops_in (w_u64 _ (by omega) (by omega)) ?_
    | refine ops_put rfl rfl ?_ | refine ops_no rfl rfl ?_
    | (refine go_cond (by push_cast; first | done | rfl) ?_ ?_ <;> intro hc <;> (try push_cast at hc))
    | refine ops_gt rfl rfl rfl (by push_cast; first | done | rfl) ?_
    | refine ops_gb rfl rfl rfl (by push_cast; first | done | rfl) ?_ ?_
    | (intro (hc : (_ : Prop)); (try push_cast at hc)) | intro (hc : R08Item) | intro (hc : Int) | intro (hc : Nat))
      · rw [hp, putTo_e hi (getD_some (repl 64 0) (by omega)) (by simpa using hc)]; exact ⟨rfl, rfl⟩
      · refine loopK_m (_, i + 1) (putTo_s hi (getD_some (repl 64 0) (by omega)) (by simpa using hc)) (by simp only; omega) ?_
        push_cast
      · have e : i = (secsN st b).length := by omega
        subst e
        rw [hp, putTo_all hi]; exact ⟨rfl, rfl⟩
  · rw [h81 ‹_› ‹_› (.inl ‹_›)]; exact ⟨rfl, rfl⟩
  · rw [h91 (.inl ‹_›)]; exact ⟨rfl, rfl⟩
theorem r09Put_con : Con Cx.P 42 (.pair rR08Disk (.pair (.int .i64) (.pair (.int .u64) (.pair (.slice (.int .u8)) (.unit))))) (fun x => (fun (d : R08Disk) (k : Int) (st : Int) (b : List Int) => d.Queue.length ≤ 999000) x.1 x.2.1 x.2.2.1 x.2.2.2.1) (fun x => (fun (d : R08Disk) (k : Int) (st : Int) (b : List Int) => [.dat rR08Disk (sPut d k st b).1, .int .i64 (sPut d k st b).2]) x.1 x.2.1 x.2.2.1 x.2.2.2.1) := ⟨isfn42, fun x h => r09Put_fn x.1 x.2.1 x.2.2.1 x.2.2.2.1 h⟩
end Go.Proofs.Ytnmjcdlgfimnaaa
