/- Chapter 12's statements: records of one state are never those of another one. -/
import Derived.Test.YtnmjcdlgfimnaaaL12a
namespace Go.Proofs.Ytnmjcdlgfimnaaa
theorem need_pos12 {n : Int} (h : 0 ≤ n) (h2 : n ≤ 600) : needN n ≠ 0 := by
  unfold needN
  rw [if_neg (by omega), Ne, spanN_zero]
  omega
theorem span6 {n : Nat} {c : List Int} (hn : n < 2 ^ 64) (hc : c.length ≤ 200) : spanN (closeN (numB n ++ c)).length ≠ 0 ∧ spanN (closeN (numB n ++ c)).length ≤ 6 := by
  have := numB_len hn
  rw [close_len, List.length_append]
  unfold spanN
  rw [if_neg (by omega)]
  omega
section
set_option linter.unusedSimpArgs false
set_option linter.unusedVariables false
set_option maxRecDepth 20000
attribute [local irreducible] vcOps vcCode vcA vcSch Wc
set_option maxHeartbeats 8000000
attribute [local push_cast] same_self12 slWrite_len
theorem jFloors_fn (states : List (List Int)) (records : List (List Int)) : Pure Cx.P 20 [.dat (.slice (.slice (.int .u8))) states, .dat (.slice (.slice (.int .u8))) records] [.bool true] := by
  refine Pure.go2 (E := Cx.env) (fn := Try.f20) (res := [_]) Try.func20 isfn20 rfl rfl rfl (by kernel_rfl) rfl ?_
  push_cast
  try intro hf
  have hb60 : ((dBlank 60).Base.length : Int) = 60 := by decide
  have hq60 : (dBlank 60).Queue.length = 0 := rfl
  obtain ⟨h1, h2, h3, h4⟩ := jok_new (n := 60) (z := 6) (by decide) (by decide) [] (span6 (by decide) (by decide))
  have e12 : (2 * 6 : Int) = 12 := by decide
  rw [e12] at h1 h2 h4
  have hz : (jNew (dBlank 60) 6 []).z = 6 := rfl
  repeat' (first
    | (intro (K' : KT) hK'; push_cast; (repeat' refine And.intro ?_ ?_); all_goals (first | (apply hK'; clear hK' K') | (refine ⟨trivial, trivial, ?_⟩; apply hK'; clear hK' K') | (intro hb; (try push_cast at hb); all_goals (intros; apply hK'; clear hK' K')) | ((first | refine call_F jAlive_con (fun _ => rfl) ?_ | refine call_new Blank_con 9100 ?_ | refine call_Fo 9300 9200 ?_); push_cast; (repeat' refine And.intro ?_ ?_); all_goals (first | (apply hK'; clear hK' K') | (intros; apply hK'; clear hK' K') | (clear hK' K'; first | omega | skip))) | (clear hK' K'; first | omega | skip)))
    | apply go_seq | apply go_block | refine go_region_stop (id := 6) ?_ | apply go_region | apply go_skip | apply go_exit | apply go_ret
    | apply seqK_n | apply seqK_x | apply seqK_r | apply blockK_n | apply blockK_r | apply blockK_hit | apply blockK_miss rfl | apply loopK_x | apply loopK_r | apply regK_go | apply finK_n | apply finK_r
    | (refine vres_go ?_; push_cast) | apply ops_nil | refine ops_in (w_i64 _ (by omega) (by omega)) ?_ | refine ops_in (w_u8 _ (by omega) (by omega)) ?_ | refine ops_in (w_u32 _ (by omega) (by omega)) ?_ | refine ops_in (w_u64 _ (by omega) (by omega)) ?_
    | refine ops_put rfl rfl ?_ | refine ops_no rfl rfl ?_
    | (refine go_cond (by push_cast; first | done | rfl) ?_ ?_ <;> intro hc <;> (try push_cast at hc))
    | refine ops_gt rfl rfl rfl (by push_cast; first | done | rfl) ?_
    | refine ops_gb rfl rfl rfl (by push_cast; first | done | rfl) ?_ ?_
    | (intro (hc : (_ : Prop)); (try push_cast at hc)) | intro (hc : R08Item) | intro (hc : Int) | intro (hc : Nat))
  · rw [List.append_nil] at h2; exact h2
  generalize jNew (dBlank 60) 6 [] = J at *
  obtain ⟨L0, z, b⟩ := J
  simp only at h4 hz
  subst hz
  have hb : b = true := h3.r
  subst hb
  have h3 : JOk ⟨L0, 6, true⟩ 60 1 0 [] [] := h3
  clear h1 h2 hb60 hq60
  apply regKS_go
  push_cast
  repeat' (first
    | (intro (K' : KT) hK'; push_cast; (repeat' refine And.intro ?_ ?_); all_goals (first | (apply hK'; clear hK' K') | (refine ⟨trivial, trivial, ?_⟩; apply hK'; clear hK' K') | (intro hb; (try push_cast at hb); all_goals (intros; apply hK'; clear hK' K')) | (clear hK' K'; first | omega | skip)))
    | apply go_seq | apply go_block | apply go_region | apply go_skip | apply go_exit | apply go_ret
    | apply seqK_n | apply seqK_x | apply seqK_r | apply blockK_n | apply blockK_r | apply blockK_hit | apply blockK_miss rfl | apply loopK_x | apply loopK_r | apply regK_go | apply finK_n | apply finK_r
    | (refine vres_go ?_; push_cast) | apply ops_nil | refine ops_in (w_i64 _ (by omega) (by omega)) ?_ | refine ops_in (w_u8 _ (by omega) (by omega)) ?_ | refine ops_in (w_u32 _ (by omega) (by omega)) ?_ | refine ops_in (w_u64 _ (by omega) (by omega)) ?_
    | refine ops_put rfl rfl ?_ | refine ops_no rfl rfl ?_
    | (refine go_cond (by push_cast; first | done | rfl) ?_ ?_ <;> intro hc <;> (try push_cast at hc))
    | refine ops_gt rfl rfl rfl (by push_cast; first | done | rfl) ?_
    | refine ops_gb rfl rfl rfl (by push_cast; first | done | rfl) ?_ ?_
    | (intro (hc : (_ : Prop)); (try push_cast at hc)) | intro (hc : R08Item) | intro (hc : Int) | intro (hc : Nat))
  refine go_loop2 [4, 9, 10, 12, 13, 14, 15, 16, 17, 18, 19, 20, 45, 46, 47, 48, 49, 50, 51, 52, 53, 54, 55, 56, 57, 58, 59, 60, 61, 62, 63, 64, 65, 66, 67, 68, 69, 70, 71, 72, 73, 74, 75, 76, 77, 78, 79, 80, 81, 82, 83, 84, 85, 86, 87, 88, 89, 90, 91, 92, 93, 94, 95, 96, 97, 98, 99, 100, 101, 102, 103, 104, 105, 106, 107, 108, 109, 110, 111, 112, 113, 114, 115, 116, 117, 118, 119] [50, 52, 54, 60, 64, 68, 69, 70, 74, 84, 90, 95, 104, 109, 111, 116, 9100, 9200, 9300] (fun (p : LogS × Int × List Int × Nat) => p.2.2.2 ≤ states.length ∧ JOk ⟨p.1, 6, true⟩ 60 (p.2.2.2 + 1) p.2.1 p.2.2.1 [] ∧ p.2.1 ≤ 10 * p.2.2.2 ∧ p.2.2.1.length ≤ 200) (fun (p : LogS × Int × List Int × Nat) => [(45, .one (.l (.int .i64 p.2.2.2)))]) (fun (p : LogS × Int × List Int × Nat) => [(9100, .obj DiskO p.1.D), (9200, .segs [.ptr 9100 [] 0, .int .i64 p.1.a, .int .i64 p.1.e, .int .u64 p.1.st]), (9300, .segs [.ptr 9100 [] 0, .int .i64 6, .ptr 9200 [] 0, .bool true])]) (fun (p : LogS × Int × List Int × Nat) => states.length - p.2.2.2) (L0, 0, [], 0) ?_ (by push_cast; first | done | rfl) (by push_cast; first | done | rfl) ?_ ?_
  · exact ⟨Nat.zero_le _, h3, by simp, by simp⟩
  · push_cast
    first | done | rfl
  · rintro ⟨⟨D0, a0, e0, st0⟩, fl, c, i⟩ ⟨hi, hj0, hfl, hcl⟩
    simp only at hi hfl hcl
    push_cast
    intro hg
    have hj0 : JOk ⟨⟨D0, a0, e0, st0⟩, 6, true⟩ 60 (i + 1) fl c [] := hj0
    have he0 : e0 = 60 := hj0.e
    subst he0
    have hflb := hj0.b
    repeat' (first
    | (intro (K' : KT) hK'; push_cast; (repeat' refine And.intro ?_ ?_); all_goals (first | (apply hK'; clear hK' K') | (refine ⟨trivial, trivial, ?_⟩; apply hK'; clear hK' K') | (intro hb; (try push_cast at hb); all_goals (intros; apply hK'; clear hK' K')) | (clear hK' K'; first | omega | skip)))
    | apply go_seq | apply go_block | apply go_region | apply go_skip | apply go_exit | apply go_ret
    | apply seqK_n | apply seqK_x | apply seqK_r | apply blockK_n | apply blockK_r | apply blockK_hit | apply blockK_miss rfl | apply loopK_x | apply loopK_r | apply regK_go | apply finK_n | apply finK_r
    | (refine vres_go ?_; push_cast) | apply ops_nil | refine ops_in (w_i64 _ (by omega) (by omega)) ?_ | refine ops_in (w_u8 _ (by omega) (by omega)) ?_ | refine ops_in (w_u32 _ (by omega) (by omega)) ?_ | refine ops_in (w_u64 _ (by omega) (by omega)) ?_
    | refine ops_put rfl rfl ?_ | refine ops_no rfl rfl ?_
    | (refine go_cond (by push_cast; first | done | rfl) ?_ ?_ <;> intro hc <;> (try push_cast at hc))
    | refine ops_gt rfl rfl rfl (by push_cast; first | done | rfl) ?_
    | refine ops_gb rfl rfl rfl (by push_cast; first | done | rfl) ?_ ?_
    | (intro (hc : (_ : Prop)); (try push_cast at hc)) | intro (hc : R08Item) | intro (hc : Int) | intro (hc : Nat))
    refine loop_ren 52 70 rfl (by push_cast) (by decide) ?_
    push_cast
    refine go_loop2 [4, 10, 12, 52, 55, 56, 57, 58, 59, 60, 61, 62, 63, 64, 65, 66, 67, 68, 69, 70, 71] [60, 64, 68, 69, 70, 9100, 9200, 9300] (fun (p : LogS × List (List Int) × Nat) => p.2.2 ≤ records.length ∧ JOk ⟨p.1, 6, true⟩ 60 (i + 1) fl c p.2.1 ∧ p.2.1.length ≤ p.2.2) (fun (p : LogS × List (List Int) × Nat) => [(55, .one (.l (.int .i64 p.2.2))), (10, .one (.l (.own 70)))]) (fun (p : LogS × List (List Int) × Nat) => [(9100, .obj DiskO p.1.D), (9200, .segs [.ptr 9100 [] 0, .int .i64 p.1.a, .int .i64 p.1.e, .int .u64 p.1.st]), (9300, .segs [.ptr 9100 [] 0, .int .i64 6, .ptr 9200 [] 0, .bool true]), (70, .arr .str (p.2.1.map toBytes))]) (fun (p : LogS × List (List Int) × Nat) => records.length - p.2.2) (⟨D0, a0, 60, st0⟩, [], 0) ?_ (by push_cast; first | done | rfl) (by push_cast; first | done | rfl) ?_ ?_
    · exact ⟨Nat.zero_le _, hj0, Nat.le_refl _⟩
    · push_cast
      first | done | rfl | simp
    · rintro ⟨⟨D, a, e, st⟩, done, k⟩ ⟨hk, hj, hd⟩
      simp only at hk hd
      push_cast
      intro hg2
      have hj : JOk ⟨⟨D, a, e, st⟩, 6, true⟩ 60 (i + 1) fl c done := hj
      have he : e = 60 := hj.e
      subst he
      have hq : D.Queue.length = 0 := by have := hj.log.quiet.q; simp only at this; rw [this]; rfl
      have hbl : D.Base.length = 60 := hj.log.quiet.base
      have ha0 := endPos_le done (2 * 6)
      have ha : a = endPos (2 * 6) done := hj.log.a
      have hae : a ≤ 60 := hj.log.le
      have hst : st = fl + 1 + done.length := hj.log.st
      have hlm : (done.map toBytes).length = done.length := List.length_map _
      have hread := jok_read hj
      have hrecs := jok_recs hj
      simp only at hread hrecs
      repeat' (first
    | (intro (K' : KT) hK'; push_cast; (repeat' refine And.intro ?_ ?_); all_goals (first | (apply hK'; clear hK' K') | (refine ⟨trivial, trivial, ?_⟩; apply hK'; clear hK' K') | (intro hb; (try push_cast at hb); all_goals (intros; apply hK'; clear hK' K')) | ((first | refine call_J jApp_con (fun _ _ => rfl) ?_); push_cast; (repeat' refine And.intro ?_ ?_); all_goals (first | (apply hK'; clear hK' K') | (intros; apply hK'; clear hK' K') | (clear hK' K'; first | omega | skip))) | (clear hK' K'; first | omega | skip)))
    | apply go_seq | apply go_block | refine go_region_stop (id := 20) ?_ | refine go_region_stop (id := 23) ?_ | apply go_region | apply go_skip | apply go_exit | apply go_ret
    | apply seqK_n | apply seqK_x | apply seqK_r | apply blockK_n | apply blockK_r | apply blockK_hit | apply blockK_miss rfl | apply loopK_x | apply loopK_r | apply regK_go | apply finK_n | apply finK_r
    | (refine vres_go ?_; push_cast) | apply ops_nil | refine ops_in (w_i64 _ (by omega) (by omega)) ?_ | refine ops_in (w_u8 _ (by omega) (by omega)) ?_ | refine ops_in (w_u32 _ (by omega) (by omega)) ?_ | refine ops_in (w_u64 _ (by omega) (by omega)) ?_
    | refine ops_put rfl rfl ?_ | refine ops_no rfl rfl ?_
    | (refine go_cond (by push_cast; first | done | rfl) ?_ ?_ <;> intro hc <;> (try push_cast at hc))
    | refine ops_gt rfl rfl rfl (by push_cast; first | done | rfl) ?_
    | refine ops_gb rfl rfl rfl (by push_cast; first | done | rfl) ?_ ?_
    | (intro (hc : (_ : Prop)); (try push_cast at hc)) | intro (hc : R08Item) | intro (hc : Int) | intro (hc : Nat))
      · obtain ⟨_, p2, p3⟩ := jok_app hj (records.getD k []) (by omega)
        have hn := need_pos12 (n := (records.getD k []).length) (by omega) (by omega)
        generalize records.getD k [] = r at *
        by_cases hfit : 60 - a < needN r.length
        · rw [p2 hn hfit]
          apply regKS_go
          push_cast
          repeat' (first
    | (intro (K' : KT) hK'; push_cast; (repeat' refine And.intro ?_ ?_); all_goals (first | (apply hK'; clear hK' K') | (refine ⟨trivial, trivial, ?_⟩; apply hK'; clear hK' K') | (intro hb; (try push_cast at hb); all_goals (intros; apply hK'; clear hK' K')) | (clear hK' K'; first | omega | skip)))
    | apply go_seq | apply go_block | apply go_region | apply go_skip | apply go_exit | apply go_ret
    | apply seqK_n | apply seqK_x | apply seqK_r | apply blockK_n | apply blockK_r | apply blockK_hit | apply blockK_miss rfl | apply loopK_x | apply loopK_r | apply regK_go | apply finK_n | apply finK_r
    | (refine vres_go ?_; push_cast) | apply ops_nil | refine ops_in (w_i64 _ (by omega) (by omega)) ?_ | refine ops_in (w_u8 _ (by omega) (by omega)) ?_ | refine ops_in (w_u32 _ (by omega) (by omega)) ?_ | refine ops_in (w_u64 _ (by omega) (by omega)) ?_
    | refine ops_put rfl rfl ?_ | refine ops_no rfl rfl ?_
    | (refine go_cond (by push_cast; first | done | rfl) ?_ ?_ <;> intro hc <;> (try push_cast at hc))
    | refine ops_gt rfl rfl rfl (by push_cast; first | done | rfl) ?_
    | refine ops_gb rfl rfl rfl (by push_cast; first | done | rfl) ?_ ?_
    | (intro (hc : (_ : Prop)); (try push_cast at hc)) | intro (hc : R08Item) | intro (hc : Int) | intro (hc : Nat))
          refine loopK_m (⟨D, a, 60, st⟩, done, k + 1) ⟨by simp only; omega, hj, by simp only; omega⟩ (by simp only; omega) ?_
          push_cast
        · obtain ⟨p4, p5, p6⟩ := p3 hn hfit
          have e1 : jApp ⟨⟨D, a, 60, st⟩, 6, true⟩ r = ((jApp ⟨⟨D, a, 60, st⟩, 6, true⟩ r).1, 0) := Prod.ext rfl p4
          rw [e1]
          clear e1 p4 p2 p3
          generalize (jApp ⟨⟨D, a, 60, st⟩, 6, true⟩ r).1 = J at *
          obtain ⟨⟨D2, a2, e2, st2⟩, z, b⟩ := J
          simp only at p6
          subst p6
          have hb : b = true := p5.r
          subst hb
          apply regKS_go
          push_cast
          repeat' (first
    | (intro (K' : KT) hK'; push_cast; (repeat' refine And.intro ?_ ?_); all_goals (first | (apply hK'; clear hK' K') | (refine ⟨trivial, trivial, ?_⟩; apply hK'; clear hK' K') | (intro hb; (try push_cast at hb); all_goals (intros; apply hK'; clear hK' K')) | (clear hK' K'; first | omega | skip)))
    | apply go_seq | apply go_block | apply go_region | apply go_skip | apply go_exit | apply go_ret
    | apply seqK_n | apply seqK_x | apply seqK_r | apply blockK_n | apply blockK_r | apply blockK_hit | apply blockK_miss rfl | apply loopK_x | apply loopK_r | apply regK_go | apply finK_n | apply finK_r
    | (refine vres_go ?_; push_cast) | apply ops_nil | refine ops_in (w_i64 _ (by omega) (by omega)) ?_ | refine ops_in (w_u8 _ (by omega) (by omega)) ?_ | refine ops_in (w_u32 _ (by omega) (by omega)) ?_ | refine ops_in (w_u64 _ (by omega) (by omega)) ?_
    | refine ops_put rfl rfl ?_ | refine ops_no rfl rfl ?_
    | (refine go_cond (by push_cast; first | done | rfl) ?_ ?_ <;> intro hc <;> (try push_cast at hc))
    | refine ops_gt rfl rfl rfl (by push_cast; first | done | rfl) ?_
    | refine ops_gb rfl rfl rfl (by push_cast; first | done | rfl) ?_ ?_
    | (intro (hc : (_ : Prop)); (try push_cast at hc)) | intro (hc : R08Item) | intro (hc : Int) | intro (hc : Nat))
          refine loopK_m (⟨D2, a2, e2, st2⟩, done ++ [r], k + 1) ⟨by simp only; omega, p5, by simp only [List.length_append, List.length_singleton]; omega⟩ (by simp only; omega) ?_
          push_cast
          simp
      · have hsl : (states.getD i []).length ≤ 200 := by omega
        obtain ⟨q1, q2, q3⟩ := jok_com hj (by omega) (states.getD i []) (span6 (by omega) hsl)
        simp only at q1
        have hfn : (fl.toNat : Int) = fl := by omega
        have hr1 : recsN D 12 D.Base.length (fl.toNat : Int) = (done, a) := by rw [hbl, hfn]; exact hrecs
        clear hrecs
        repeat' (first
    | (intro (K' : KT) hK'; push_cast; (repeat' refine And.intro ?_ ?_); all_goals (first | (apply hK'; clear hK' K') | (refine ⟨trivial, trivial, ?_⟩; apply hK'; clear hK' K') | (intro hb; (try push_cast at hb); all_goals (intros; apply hK'; clear hK' K')) | ((first | refine call_Jo 9301 9201 _ _ _ rfl hread ?_); push_cast; (repeat' refine And.intro ?_ ?_); all_goals (first | (apply hK'; clear hK' K') | (intros; apply hK'; clear hK' K') | (clear hK' K'; first | omega | skip))) | (clear hK' K'; first | omega | skip)))
    | apply go_seq | apply go_block | apply go_region | apply go_skip | apply go_exit | apply go_ret
    | apply seqK_n | apply seqK_x | apply seqK_r | apply blockK_n | apply blockK_r | apply blockK_hit | apply blockK_miss rfl | apply loopK_x | apply loopK_r | apply regK_go | apply finK_n | apply finK_r
    | (refine vres_go ?_; push_cast) | apply ops_nil | refine ops_in (w_i64 _ (by omega) (by omega)) ?_ | refine ops_in (w_u8 _ (by omega) (by omega)) ?_ | refine ops_in (w_u32 _ (by omega) (by omega)) ?_ | refine ops_in (w_u64 _ (by omega) (by omega)) ?_
    | refine ops_put rfl rfl ?_ | refine ops_no rfl rfl ?_
    | (refine go_cond (by push_cast; first | done | rfl) ?_ ?_ <;> intro hc <;> (try push_cast at hc))
    | refine ops_gt rfl rfl rfl (by push_cast; first | done | rfl) ?_
    | refine ops_gb rfl rfl rfl (by push_cast; first | done | rfl) ?_ ?_
    | (intro (hc : (_ : Prop)); (try push_cast at hc)) | intro (hc : R08Item) | intro (hc : Int) | intro (hc : Nat))
        rw [hr1]
        apply regKS_go
        push_cast
        repeat' (first
    | (intro (K' : KT) hK'; push_cast; (repeat' refine And.intro ?_ ?_); all_goals (first | (apply hK'; clear hK' K') | (refine ⟨trivial, trivial, ?_⟩; apply hK'; clear hK' K') | (intro hb; (try push_cast at hb); all_goals (intros; apply hK'; clear hK' K')) | ((first | refine call_F same10_con (fun _ => rfl) ?_ | refine call_JN jCom_con 9200 (fun _ _ => rfl) ?_); push_cast; (repeat' refine And.intro ?_ ?_); all_goals (first | (apply hK'; clear hK' K') | (intros; apply hK'; clear hK' K') | (clear hK' K'; first | omega | skip))) | (clear hK' K'; first | omega | skip)))
    | apply go_seq | apply go_block | refine go_region_stop (id := 24) ?_ | apply go_region | apply go_skip | apply go_exit | apply go_ret
    | apply seqK_n | apply seqK_x | apply seqK_r | apply blockK_n | apply blockK_r | apply blockK_hit | apply blockK_miss rfl | apply loopK_x | apply loopK_r | apply regK_go | apply finK_n | apply finK_r
    | (refine vres_go ?_; push_cast) | apply ops_nil | refine ops_in (w_i64 _ (by omega) (by omega)) ?_ | refine ops_in (w_u8 _ (by omega) (by omega)) ?_ | refine ops_in (w_u32 _ (by omega) (by omega)) ?_ | refine ops_in (w_u64 _ (by omega) (by omega)) ?_
    | refine ops_put rfl rfl ?_ | refine ops_no rfl rfl ?_
    | (refine go_cond (by push_cast; first | done | rfl) ?_ ?_ <;> intro hc <;> (try push_cast at hc))
    | refine ops_gt rfl rfl rfl (by push_cast; first | done | rfl) ?_
    | refine ops_gb rfl rfl rfl (by push_cast; first | done | rfl) ?_ ?_
    | (intro (hc : (_ : Prop)); (try push_cast at hc)) | intro (hc : R08Item) | intro (hc : Int) | intro (hc : Nat))
        have hz2 : (jCom ⟨⟨D, a, 60, st⟩, 6, true⟩ (states.getD i [])).z = 6 := rfl
        generalize jCom ⟨⟨D, a, 60, st⟩, 6, true⟩ (states.getD i []) = J at *
        obtain ⟨⟨D3, a3, e3, st3⟩, z3, b3⟩ := J
        simp only at hz2 q3
        subst hz2
        have hb3 : b3 = true := q2.r
        subst hb3
        have he3 : e3 = 60 := q2.e
        subst he3
        have hread2 := jok_read q2
        have hrecs2 := jok_recs q2
        simp only at hread2 hrecs2
        have hbl3 : D3.Base.length = 60 := q2.log.quiet.base
        have hf2 : ((fl + (done.length : Int)).toNat : Int) = fl + done.length := by omega
        have hr2 : recsN D3 12 D3.Base.length ((fl + (done.length : Int)).toNat : Int) = ([], a3) := by rw [hbl3, hf2]; exact hrecs2
        have hroom : jRoom ⟨⟨D3, a3, 60, st3⟩, 6, true⟩ = 48 := by
          show (if true = true then 60 - a3 else 0) = 48
          rw [if_pos rfl]
          omega
        clear hrecs2 hr1 hread hj q1
        apply regKS_go
        push_cast
        repeat' (first
    | (intro (K' : KT) hK'; push_cast; (repeat' refine And.intro ?_ ?_); all_goals (first | (apply hK'; clear hK' K') | (refine ⟨trivial, trivial, ?_⟩; apply hK'; clear hK' K') | (intro hb; (try push_cast at hb); all_goals (intros; apply hK'; clear hK' K')) | ((first | refine call_Jo 9302 9202 _ _ _ rfl hread2 ?_); push_cast; (repeat' refine And.intro ?_ ?_); all_goals (first | (apply hK'; clear hK' K') | (intros; apply hK'; clear hK' K') | (clear hK' K'; first | omega | skip))) | (clear hK' K'; first | omega | skip)))
    | apply go_seq | apply go_block | refine go_region_stop (id := 26) ?_ | apply go_region | apply go_skip | apply go_exit | apply go_ret
    | apply seqK_n | apply seqK_x | apply seqK_r | apply blockK_n | apply blockK_r | apply blockK_hit | apply blockK_miss rfl | apply loopK_x | apply loopK_r | apply regK_go | apply finK_n | apply finK_r
    | (refine vres_go ?_; push_cast) | apply ops_nil | refine ops_in (w_i64 _ (by omega) (by omega)) ?_ | refine ops_in (w_u8 _ (by omega) (by omega)) ?_ | refine ops_in (w_u32 _ (by omega) (by omega)) ?_ | refine ops_in (w_u64 _ (by omega) (by omega)) ?_
    | refine ops_put rfl rfl ?_ | refine ops_no rfl rfl ?_
    | (refine go_cond (by push_cast; first | done | rfl) ?_ ?_ <;> intro hc <;> (try push_cast at hc))
    | refine ops_gt rfl rfl rfl (by push_cast; first | done | rfl) ?_
    | refine ops_gb rfl rfl rfl (by push_cast; first | done | rfl) ?_ ?_
    | (intro (hc : (_ : Prop)); (try push_cast at hc)) | intro (hc : R08Item) | intro (hc : Int) | intro (hc : Nat))
        rw [hr2]
        apply regKS_go
        push_cast
        repeat' (first
    | (intro (K' : KT) hK'; push_cast; (repeat' refine And.intro ?_ ?_); all_goals (first | (apply hK'; clear hK' K') | (refine ⟨trivial, trivial, ?_⟩; apply hK'; clear hK' K') | (intro hb; (try push_cast at hb); all_goals (intros; apply hK'; clear hK' K')) | ((first | refine call_J jRoom_con (fun _ _ => rfl) ?_); push_cast; (repeat' refine And.intro ?_ ?_); all_goals (first | (apply hK'; clear hK' K') | (intros; apply hK'; clear hK' K') | (clear hK' K'; first | omega | skip))) | (clear hK' K'; first | omega | skip)))
    | apply go_seq | apply go_block | apply go_region | apply go_skip | apply go_exit | apply go_ret
    | apply seqK_n | apply seqK_x | apply seqK_r | apply blockK_n | apply blockK_r | apply blockK_hit | apply blockK_miss rfl | apply loopK_x | apply loopK_r | apply regK_go | apply finK_n | apply finK_r
    | (refine vres_go ?_; push_cast) | apply ops_nil | refine ops_in (w_i64 _ (by omega) (by omega)) ?_ | refine ops_in (w_u8 _ (by omega) (by omega)) ?_ | refine ops_in (w_u32 _ (by omega) (by omega)) ?_ | refine ops_in (w_u64 _ (by omega) (by omega)) ?_
    | refine ops_put rfl rfl ?_ | refine ops_no rfl rfl ?_
    | (refine go_cond (by push_cast; first | done | rfl) ?_ ?_ <;> intro hc <;> (try push_cast at hc))
    | refine ops_gt rfl rfl rfl (by push_cast; first | done | rfl) ?_
    | refine ops_gb rfl rfl rfl (by push_cast; first | done | rfl) ?_ ?_
    | (intro (hc : (_ : Prop)); (try push_cast at hc)) | intro (hc : R08Item) | intro (hc : Int) | intro (hc : Nat))
        · exfalso
          rw [hroom] at hc
          simp at hc
        · refine loopK_m (⟨D3, a3, 60, st3⟩, fl + done.length, states.getD i [], i + 1) ⟨by simp only; omega, ?_, by simp only; omega, hsl⟩ (by simp only; omega) ?_
          · have ei : (((i + 1 : Nat) : Int) + 1) = (i : Int) + 1 + 1 := by omega
            show JOk ⟨⟨D3, a3, 60, st3⟩, 6, true⟩ 60 (((i + 1 : Nat) : Int) + 1) (fl + done.length) (states.getD i []) []
            rw [ei]
            exact q2
          · push_cast
theorem jFloors_con : Con Cx.P 20 (.pair (.slice (.slice (.int .u8))) (.pair (.slice (.slice (.int .u8))) (.unit))) (fun x => (fun (states : List (List Int)) (records : List (List Int)) => True) x.1 x.2.1) (fun x => (fun (states : List (List Int)) (records : List (List Int)) => [.bool true]) x.1 x.2.1) := ⟨isfn20, fun x h => jFloors_fn x.1 x.2.1⟩
end
end Go.Proofs.Ytnmjcdlgfimnaaa
