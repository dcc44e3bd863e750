/- Chapter 12: a journal's small methods. -/
import Derived.Test.YtnmjcdlgfimnaaaJ12c
namespace Go.Proofs.Ytnmjcdlgfimnaaa
def jrightB (D : R08Disk) (z : Int) : Bool := decide (1 ≤ z) && decide (z ≤ 255) && decide (2 * z < (D.Base.length : Int))
theorem jrightB_iff {D : R08Disk} {z : Int} : jrightB D z = true ↔ 1 ≤ z ∧ z ≤ 255 ∧ 2 * z < D.Base.length := by
  simp only [jrightB, Bool.and_eq_true, decide_eq_true_eq, and_assoc]
/-- A record more. -/
def jApp (J : JourS) (r : List Int) : JourS × Int :=
  if J.r = true then (⟨(appN J.L r).1, J.z, decide ((appN J.L r).2 ≠ 82)⟩, (appN J.L r).2) else (J, 121)
def jRoom (J : JourS) : Int := if J.r = true then J.L.e - J.L.a else 0
section
set_option linter.unusedSimpArgs false
set_option linter.unusedVariables false
set_option maxRecDepth 20000
attribute [local irreducible] vcOps vcCode vcA vcSch Wc
set_option maxHeartbeats 8000000
theorem jRight_fn (D : R08Disk) (z : Int) :
    Spec Cx.P 101 [.l (.ptr 1 [] 0), .l (.int .i64 z)] [(1, .obj DiskO D)] (tvL [.bool (jrightB D z)]) [(1, .obj DiskO D)] := by
  refine Spec_disk isfn101 fun hw hG => ?_
  have hbase := hw.many
  have h1 : 1 ≤ z → z ≤ 255 → jrightB D z = decide (2 * z < (D.Base.length : Int)) := fun a b => by simp [jrightB, a, b]
  have h2 : ¬ (1 ≤ z ∧ z ≤ 255 ∧ 2 * z < (D.Base.length : Int)) → jrightB D z = false := fun h => by
    cases hr : jrightB D z
    · rfl
    · exact absurd (jrightB_iff.1 hr) h
  refine Spec.go2 (E := Cx.env) (fn := Try.f101) (res := [_]) _ (Opens.refl _) Try.func101 isfn101 rfl rfl (by simp [idsV, SV.ids, LV.ids]) (by simp [idsM]) (by kernel_rfl) rfl ?_
  intro hf
  try push_cast at hf
  intro _
  repeat' (first
    | (intro (K' : KT) hK'; push_cast; (repeat' refine And.intro ?_ ?_); all_goals (first | (apply hK'; clear hK' K') | (refine ⟨trivial, trivial, ?_⟩; apply hK'; clear hK' K') | (intro hb; (try push_cast at hb); all_goals (intros; apply hK'; clear hK' K')) | ((first | refine call_1 Size_con (fun _ _ => rfl) ?_); push_cast; (repeat' refine And.intro ?_ ?_); all_goals (first | (apply hK'; clear hK' K') | (intros; apply hK'; clear hK' K') | (clear hK' K'; first | omega | skip))) | (clear hK' K'; first | omega | skip)))
    | apply go_seq | apply go_region | apply go_skip | apply go_exit | apply go_ret
    | apply seqK_n | apply seqK_x | apply seqK_r | apply regK_go | apply finK_n | apply finK_r
    | (refine vres_go ?_; push_cast) | apply ops_nil | refine ops_in (w_i64 _ (by omega) (by omega)) ?_ | refine ops_in (w_u8 _ (by omega) (by omega)) ?_ | refine ops_in (w_u32 _ (by omega) (by omega)) ?_ | refine ops_in (w_u64 _ (by omega) (by omega)) ?_
    | refine ops_put rfl rfl ?_ | refine ops_no rfl rfl ?_
    | (refine go_cond (by push_cast; first | done | rfl) ?_ ?_ <;> intro hc <;> (try push_cast at hc))
    | refine ops_gt rfl rfl rfl (by push_cast; first | done | rfl) ?_
    | refine ops_gb rfl rfl rfl (by push_cast; first | done | rfl) ?_ ?_
    | (intro (hc : (_ : Prop)); (try push_cast at hc)) | intro (hc : R08Item) | intro (hc : Int) | intro (hc : Nat))
  · rw [h1 ‹_› ‹_›]
    (refine Fin2.fin ⟨[(1, .obj DiskO D)], ?_, ?_, ?_, Closes.refl _, ?_⟩
     · push_cast
     · push_cast
     · simp [idsM]
     · simp [tvL, TV.ids, SV.ids, LV.ids, idsV])
  · rw [h2 (by omega)]
    (refine Fin2.fin ⟨[(1, .obj DiskO D)], ?_, ?_, ?_, Closes.refl _, ?_⟩
     · push_cast
     · push_cast
     · simp [idsM]
     · simp [tvL, TV.ids, SV.ids, LV.ids, idsV])
  · rw [h2 (by omega)]
    (refine Fin2.fin ⟨[(1, .obj DiskO D)], ?_, ?_, ?_, Closes.refl _, ?_⟩
     · push_cast
     · push_cast
     · simp [idsM]
     · simp [tvL, TV.ids, SV.ids, LV.ids, idsV])
theorem jRight_con : Con1 Cx.P 101 DiskO (.pair (.int .i64) .unit) (fun _ _ => True) (fun D x => [.bool (jrightB D x.1)]) (fun D _ => D) := ⟨isfn101, fun D x _ => jRight_fn D x.1⟩
theorem jTold_fn (J : JourS) (e : Int) : Spec Cx.P 107 [.l (.ptr 3 [] 0), .l (.int .i64 e)] (jMem J.L J.z J.r) (tvL [.int .i64 e]) (jMem J.L J.z (if e = 82 then false else J.r)) := by
  unfold jMem
  refine Spec.go2 (E := Cx.env) (fn := Try.f107) (res := [_]) _ (Opens.refl _) Try.func107 isfn107 rfl rfl (by simp [idsV, SV.ids, LV.ids]) (by simp [idsM]) (by kernel_rfl) rfl ?_
  intro hf
  try push_cast at hf
  intro _
  simp only [mmD, parSl, idsM, List.map_cons, List.map_nil, List.cons_append, List.nil_append]
  repeat' (first
    | (intro (K' : KT) hK'; push_cast; (repeat' refine And.intro ?_ ?_); all_goals (first | (apply hK'; clear hK' K') | (refine ⟨trivial, trivial, ?_⟩; apply hK'; clear hK' K') | (intro hb; (try push_cast at hb); all_goals (intros; apply hK'; clear hK' K')) | (clear hK' K'; first | omega | skip)))
    | apply go_seq | apply go_region | apply go_skip | apply go_exit | apply go_ret
    | apply seqK_n | apply seqK_x | apply seqK_r | apply regK_go | apply finK_n | apply finK_r
    | (refine vres_go ?_; push_cast) | apply ops_nil | refine ops_in (w_i64 _ (by omega) (by omega)) ?_ | refine ops_in (w_u8 _ (by omega) (by omega)) ?_ | refine ops_in (w_u32 _ (by omega) (by omega)) ?_ | refine ops_in (w_u64 _ (by omega) (by omega)) ?_
    | refine ops_put rfl rfl ?_ | refine ops_no rfl rfl ?_
    | (refine go_cond (by push_cast; first | done | rfl) ?_ ?_ <;> intro hc <;> (try push_cast at hc))
    | refine ops_gt rfl rfl rfl (by push_cast; first | done | rfl) ?_
    | refine ops_gb rfl rfl rfl (by push_cast; first | done | rfl) ?_ ?_
    | (intro (hc : (_ : Prop)); (try push_cast at hc)) | intro (hc : R08Item) | intro (hc : Int) | intro (hc : Nat))
  · rw [if_pos ‹_›]
    (refine Fin2.fin ⟨[(1, .obj DiskO J.L.D), (2, .segs [.ptr 1 [] 0, .int .i64 J.L.a, .int .i64 J.L.e, .int .u64 J.L.st]), (3, .segs [.ptr 1 [] 0, .int .i64 J.z, .ptr 2 [] 0, .bool false])], ?_, ?_, ?_, Closes.refl _, ?_⟩
     · push_cast
     · push_cast
     · simp [idsM]
     · simp [tvL, TV.ids, SV.ids, LV.ids, idsV])
  · rw [if_neg ‹_›]
    (refine Fin2.fin ⟨[(1, .obj DiskO J.L.D), (2, .segs [.ptr 1 [] 0, .int .i64 J.L.a, .int .i64 J.L.e, .int .u64 J.L.st]), (3, .segs [.ptr 1 [] 0, .int .i64 J.z, .ptr 2 [] 0, .bool J.r])], ?_, ?_, ?_, Closes.refl _, ?_⟩
     · push_cast
     · push_cast
     · simp [idsM]
     · simp [tvL, TV.ids, SV.ids, LV.ids, idsV])
theorem jTold_con : ConJ 107 (.pair (.int .i64) .unit) (fun _ _ => True) (fun _ x => [.int .i64 x.1]) (fun J x => ⟨J.L, J.z, if x.1 = 82 then false else J.r⟩) := ⟨isfn107, fun _ _ => rfl, fun J x _ => jTold_fn J x.1⟩
theorem jRoom_fn (J : JourS) (h : 0 ≤ J.L.a ∧ 0 ≤ J.L.e) : Spec Cx.P 71 [.l (.ptr 3 [] 0)] (jMem J.L J.z J.r) (tvL [.int .i64 (jRoom J)]) (jMem J.L J.z J.r) := by
  unfold jMem
  refine Spec.go2 (E := Cx.env) (fn := Try.f71) (res := [_]) _ (Opens.refl _) Try.func71 isfn71 rfl rfl (by simp [idsV, SV.ids, LV.ids]) (by simp [idsM]) (by kernel_rfl) rfl ?_
  intro hf
  try push_cast at hf
  intro _
  simp only [mmD, parSl, idsM, List.map_cons, List.map_nil, List.cons_append, List.nil_append]
  repeat' (first
    | (intro (K' : KT) hK'; push_cast; (repeat' refine And.intro ?_ ?_); all_goals (first | (apply hK'; clear hK' K') | (refine ⟨trivial, trivial, ?_⟩; apply hK'; clear hK' K') | (intro hb; (try push_cast at hb); all_goals (intros; apply hK'; clear hK' K')) | ((first | refine call_L logRoom_con (fun _ _ => rfl) ?_); push_cast; (repeat' refine And.intro ?_ ?_); all_goals (first | (apply hK'; clear hK' K') | (intros; apply hK'; clear hK' K') | (clear hK' K'; first | omega | skip))) | (clear hK' K'; first | omega | skip)))
    | apply go_seq | apply go_region | apply go_skip | apply go_exit | apply go_ret
    | apply seqK_n | apply seqK_x | apply seqK_r | apply regK_go | apply finK_n | apply finK_r
    | (refine vres_go ?_; push_cast) | apply ops_nil | refine ops_in (w_i64 _ (by omega) (by omega)) ?_ | refine ops_in (w_u8 _ (by omega) (by omega)) ?_ | refine ops_in (w_u32 _ (by omega) (by omega)) ?_ | refine ops_in (w_u64 _ (by omega) (by omega)) ?_
    | refine ops_put rfl rfl ?_ | refine ops_no rfl rfl ?_
    | (refine go_cond (by push_cast; first | done | rfl) ?_ ?_ <;> intro hc <;> (try push_cast at hc))
    | refine ops_gt rfl rfl rfl (by push_cast; first | done | rfl) ?_
    | refine ops_gb rfl rfl rfl (by push_cast; first | done | rfl) ?_ ?_
    | (intro (hc : (_ : Prop)); (try push_cast at hc)) | intro (hc : R08Item) | intro (hc : Int) | intro (hc : Nat))
  · have e : jRoom J = 0 := by unfold jRoom; rw [if_neg (by simpa using hc)]
    rw [e]
    (refine Fin2.fin ⟨[(1, .obj DiskO J.L.D), (2, .segs [.ptr 1 [] 0, .int .i64 J.L.a, .int .i64 J.L.e, .int .u64 J.L.st]), (3, .segs [.ptr 1 [] 0, .int .i64 J.z, .ptr 2 [] 0, .bool J.r])], ?_, ?_, ?_, Closes.refl _, ?_⟩
     · push_cast
     · push_cast
     · simp [idsM]
     · simp [tvL, TV.ids, SV.ids, LV.ids, idsV])
  · have e : jRoom J = J.L.e - J.L.a := by unfold jRoom; rw [if_pos (by simpa using hc)]
    rw [e]
    (refine Fin2.fin ⟨[(1, .obj DiskO J.L.D), (2, .segs [.ptr 1 [] 0, .int .i64 J.L.a, .int .i64 J.L.e, .int .u64 J.L.st]), (3, .segs [.ptr 1 [] 0, .int .i64 J.z, .ptr 2 [] 0, .bool J.r])], ?_, ?_, ?_, Closes.refl _, ?_⟩
     · push_cast
     · push_cast
     · simp [idsM]
     · simp [tvL, TV.ids, SV.ids, LV.ids, idsV])
theorem jRoom_con : ConJ 71 .unit (fun J _ => 0 ≤ J.L.a ∧ 0 ≤ J.L.e) (fun J _ => [.int .i64 (jRoom J)]) (fun J _ => J) := ⟨isfn71, fun _ _ => rfl, fun J _ h => jRoom_fn J h⟩
theorem jApp_fn (J : JourS) (r : List Int) (h : 0 ≤ J.L.a ∧ J.L.a ≤ J.L.e ∧ J.L.e ≤ 4096) (hb : J.L.D.Base.length ≤ 4096) (hq : J.L.D.Queue.length ≤ 900000) (hr : r.length ≤ 900000) :
    Spec Cx.P 70 [.l (.ptr 3 [] 0), .l (.dat (.slice (.int .u8)) r)] (jMem J.L J.z J.r) (tvL [.int .i64 (jApp J r).2]) (jMem (jApp J r).1.L J.z (jApp J r).1.r) := by
  obtain ⟨⟨D, a, e0, st⟩, z, r0⟩ := J
  simp only at h hb hq
  unfold jMem
  refine Spec.go2 (E := Cx.env) (fn := Try.f70) (res := [_]) _ (Opens.refl _) Try.func70 isfn70 rfl rfl (by simp [idsV, SV.ids, LV.ids]) (by simp [idsM]) (by kernel_rfl) rfl ?_
  intro hf
  try push_cast at hf
  intro _
  simp only [mmD, parSl, idsM, List.map_cons, List.map_nil, List.cons_append, List.nil_append]
  repeat' (first
    | (intro (K' : KT) hK'; push_cast; (repeat' refine And.intro ?_ ?_); all_goals (first | (apply hK'; clear hK' K') | (refine ⟨trivial, trivial, ?_⟩; apply hK'; clear hK' K') | (intro hb; (try push_cast at hb); all_goals (intros; apply hK'; clear hK' K')) | ((first | refine call_L logAppend_con (fun _ _ => rfl) ?_ | refine call_J jTold_con (fun _ _ => rfl) ?_); push_cast; (repeat' refine And.intro ?_ ?_); all_goals (first | (apply hK'; clear hK' K') | (intros; apply hK'; clear hK' K') | (clear hK' K'; first | omega | skip))) | (clear hK' K'; first | omega | skip)))
    | apply go_seq | apply go_region | apply go_skip | apply go_exit | apply go_ret
    | apply seqK_n | apply seqK_x | apply seqK_r | apply regK_go | apply finK_n | apply finK_r
    | (refine vres_go ?_; push_cast) | apply ops_nil | refine ops_in (w_i64 _ (by omega) (by omega)) ?_ | refine ops_in (w_u8 _ (by omega) (by omega)) ?_ | refine ops_in (w_u32 _ (by omega) (by omega)) ?_ | refine ops_in (w_u64 _ (by omega) (by omega)) ?_
    | refine ops_put rfl rfl ?_ | refine ops_no rfl rfl ?_
    | (refine go_cond (by push_cast; first | done | rfl) ?_ ?_ <;> intro hc <;> (try push_cast at hc))
    | refine ops_gt rfl rfl rfl (by push_cast; first | done | rfl) ?_
    | refine ops_gb rfl rfl rfl (by push_cast; first | done | rfl) ?_ ?_
    | (intro (hc : (_ : Prop)); (try push_cast at hc)) | intro (hc : R08Item) | intro (hc : Int) | intro (hc : Nat))
  · have e : jApp ⟨⟨D, a, e0, st⟩, z, r0⟩ r = (⟨⟨D, a, e0, st⟩, z, r0⟩, 121) := by unfold jApp; rw [if_neg (by simpa using hc)]
    rw [e]
    (refine Fin2.fin ⟨[(1, .obj DiskO D), (2, .segs [.ptr 1 [] 0, .int .i64 a, .int .i64 e0, .int .u64 st]), (3, .segs [.ptr 1 [] 0, .int .i64 z, .ptr 2 [] 0, .bool r0])], ?_, ?_, ?_, Closes.refl _, ?_⟩
     · push_cast
     · push_cast
     · simp [idsM]
     · simp [tvL, TV.ids, SV.ids, LV.ids, idsV])
  · have hr1 : r0 = true := by simpa using hc
    have e : jApp ⟨⟨D, a, e0, st⟩, z, r0⟩ r = (⟨(appN ⟨D, a, e0, st⟩ r).1, z, decide ((appN ⟨D, a, e0, st⟩ r).2 ≠ 82)⟩, (appN ⟨D, a, e0, st⟩ r).2) := by unfold jApp; rw [if_pos hr1]
    have eb : (if (appN ⟨D, a, e0, st⟩ r).2 = 82 then false else r0) = decide ((appN ⟨D, a, e0, st⟩ r).2 ≠ 82) := by
      rw [hr1]
      by_cases h8 : (appN ⟨D, a, e0, st⟩ r).2 = 82 <;> simp [h8]
    rw [e]
    simp only [eb]
    generalize appN ⟨D, a, e0, st⟩ r = X
    (refine Fin2.fin ⟨[(1, .obj DiskO X.1.D), (2, .segs [.ptr 1 [] 0, .int .i64 X.1.a, .int .i64 X.1.e, .int .u64 X.1.st]), (3, .segs [.ptr 1 [] 0, .int .i64 z, .ptr 2 [] 0, .bool (decide (X.2 ≠ 82))])], ?_, ?_, ?_, Closes.refl _, ?_⟩
     · push_cast
     · push_cast
     · simp [idsM]
     · simp [tvL, TV.ids, SV.ids, LV.ids, idsV])
theorem jApp_con : ConJ 70 (.pair (.slice (.int .u8)) .unit) (fun J x => (0 ≤ J.L.a ∧ J.L.a ≤ J.L.e ∧ J.L.e ≤ 4096) ∧ J.L.D.Base.length ≤ 4096 ∧ J.L.D.Queue.length ≤ 900000 ∧ x.1.length ≤ 900000)
    (fun J x => [.int .i64 (jApp J x.1).2]) (fun J x => (jApp J x.1).1) := ⟨isfn70, fun J x => by unfold jApp; split <;> rfl, fun J x h => by
      have h9 := jApp_fn J x.1 h.1 h.2.1 h.2.2.1 h.2.2.2
      have hz : (jApp J x.1).1.z = J.z := by unfold jApp; split <;> rfl
      unfold jMem at h9
      unfold jM
      rw [hz]
      exact h9⟩
end
end Go.Proofs.Ytnmjcdlgfimnaaa
