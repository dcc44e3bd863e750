/- Chapter 12: a journal's log is opened. -/
import Derived.Test.YtnmjcdlgfimnaaaJ12d
namespace Go.Proofs.Ytnmjcdlgfimnaaa
theorem Spec_disk3 {f : FuncId} {args : List SV} {D : R08Disk} {rest : List (Nat × Box)} {tv : TV} {mem' : List (Nat × Box)} (hi : IsFn Cx.P f) (h : DWf D → (∀ k, SecOk (dGet D k).1) → Spec Cx.P f args ((1, .obj DiskO D) :: rest) tv mem') : Spec Cx.P f args ((1, .obj DiskO D) :: rest) tv mem' := by
  refine ⟨hi, fun R G γ w vs hpin hm hv => ?_⟩
  obtain ⟨fr, _, _, hat, _⟩ := id hm
  obtain ⟨h1, h2⟩ := disk_facts (hat (1, .obj DiskO D) (by simp))
  exact (h h1 h2).2 R G γ w vs hpin hm hv
section
set_option linter.unusedSimpArgs false
set_option linter.unusedVariables false
set_option maxRecDepth 20000
attribute [local irreducible] vcOps vcCode vcA vcSch Wc
set_option maxHeartbeats 8000000
attribute [local push_cast] openL
theorem jOpen_fn (L : LogS) (z : Int) (r : Bool) (fl : Int) (h : 1 ≤ z ∧ z ≤ 255 ∧ 2 * z < L.D.Base.length) :
    Spec Cx.P 102 [.l (.ptr 3 [] 0), .l (.int .u64 fl)] (jMem L z r) (tvL [.dat (.slice (.slice (.int .u8))) (recsN L.D (2 * z) L.D.Base.length fl).1, .int .i64 0]) (jM 4 ⟨openL L.D (2 * z) L.D.Base.length fl, z, r⟩) := by
  obtain ⟨D, a, e0, st⟩ := L
  simp only at h
  unfold jMem openL
  refine Spec_disk3 isfn102 fun hw hG => ?_
  have hbase := hw.many
  have hw2 : IntKind.i64.wrap (2 * z) = 2 * z := w_i64 _ (by omega) (by omega)
  refine Spec.go2 (E := Cx.env) (fn := Try.f102) (res := [_, _]) _ (Opens.refl _) Try.func102 isfn102 rfl rfl (by simp [idsV, SV.ids, LV.ids]) (by simp [idsM]) (by kernel_rfl) rfl ?_
  intro hf
  try push_cast at hf
  intro _
  simp only [mmD, parSl, idsM, List.map_cons, List.map_nil, List.cons_append, List.nil_append]
  repeat' (first
    | (intro (K' : KT) hK'; push_cast; (repeat' refine And.intro ?_ ?_); all_goals (first | (apply hK'; clear hK' K') | (refine ⟨trivial, trivial, ?_⟩; apply hK'; clear hK' K') | (intro hb; (try push_cast at hb); all_goals (intros; apply hK'; clear hK' K')) | ((first | refine call_1 Size_con (fun _ _ => rfl) ?_ | refine call_O 4 ?_); push_cast; (repeat' refine And.intro ?_ ?_); all_goals (first | (apply hK'; clear hK' K') | (intros; apply hK'; clear hK' K') | (clear hK' K'; first | omega | skip))) | (clear hK' K'; first | omega | skip)))
    | apply go_seq | apply go_region | apply go_skip | apply go_exit | apply go_ret
    | apply seqK_n | apply seqK_x | apply seqK_r | apply regK_go | apply finK_n | apply finK_r
    | (refine vres_go ?_; push_cast) | apply ops_nil | refine ops_in (w_i64 _ (by omega) (by omega)) ?_ | refine ops_in (w_u8 _ (by omega) (by omega)) ?_ | refine ops_in (w_u32 _ (by omega) (by omega)) ?_ | refine ops_in (w_u64 _ (by omega) (by omega)) ?_
    | refine ops_put rfl rfl ?_ | refine ops_no rfl rfl ?_
    | (refine go_cond (by push_cast; first | done | rfl) ?_ ?_ <;> intro hc <;> (try push_cast at hc))
    | refine ops_gt rfl rfl rfl (by push_cast; first | done | rfl) ?_
    | refine ops_gb rfl rfl rfl (by push_cast; first | done | rfl) ?_ ?_
    | refine go_draw (id := 1) [0, 1, 2, 3, 4, 5, 6, 7, 8, 9, 10, 11, 12, 14] [15] [3] (.or 13 (.or 15 (.free 16 (.free 17 (.free 18 (.free 19 (.free 20 (.free 21 (.free 22 (.done)))))))) (.stop)) (.stop)) wide (by kernel_rfl) ?_
    | apply goA_nil | apply goS_done | apply goS_stop
    | refine goA_put rfl rfl rfl ?_ | refine goS_free rfl rfl rfl ?_
    | (refine goS_late rfl rfl rfl rfl ?_ ?_; rotate_left) | (refine goS_late' rfl rfl rfl rfl ?_ ?_; rotate_left)
    | (refine goS_hid rfl rfl rfl rfl ?_ ?_; rotate_left; focus (intro K' hK'; push_cast; (repeat' refine And.intro ?_ ?_); all_goals (first | (refine hK' _ _ _ _ _ (by push_cast) (by push_cast; first | done | rfl) ?_; clear hK' K') | ((first | refine call_1 Size_con (fun _ _ => rfl) ?_ | refine call_O 4 ?_); push_cast; (repeat' refine And.intro ?_ ?_); all_goals (first | (refine hK' _ _ _ _ _ (by push_cast) (by push_cast; first | done | rfl) ?_; clear hK' K') | (intros; refine hK' _ _ _ _ _ (by push_cast) (by push_cast; first | done | rfl) ?_; clear hK' K') | (clear hK' K'; first | omega | skip))) | (clear hK' K'; first | omega | skip))))
    | refine goA_gt rfl rfl rfl rfl (by push_cast; first | done | rfl) ?_
    | refine goA_gb rfl rfl rfl rfl (by push_cast; first | done | rfl) ?_ ?_
    | (intro (hc : (_ : Prop)); (try push_cast at hc)) | intro (hc : R08Item) | intro (hc : Int) | intro (hc : Nat))
  all_goals (try (rw [hw2]; first | omega | exact Int.le_of_lt h.2.2))
  simp only [hw2]
  unfold jM logB jB
  simp only
  generalize recsN D (2 * z) (D.Base.length) fl = q
  generalize IntKind.u64.wrap (max fl (topN D (2 * z) D.Base.length).1 + 1) = t
  (refine Fin2.fin ⟨[(1, .obj DiskO D), (4, .segs [.ptr 1 [] 0, .int .i64 q.2, .int .i64 D.Base.length, .int .u64 t]), (3, .segs [.ptr 1 [] 0, .int .i64 z, .ptr 4 [] 0, .bool r])], ?_, ?_, ?_, Closes.refl _, ?_⟩
   · push_cast
   · push_cast
   · simp [idsM]
   · simp [tvL, TV.ids, SV.ids, LV.ids, idsV])
theorem jOpen0_fn (D : R08Disk) (z : Int) (r : Bool) (fl : Int) (h : 1 ≤ z ∧ z ≤ 255 ∧ 2 * z < D.Base.length) :
    Spec Cx.P 102 [.l (.ptr 3 [] 0), .l (.int .u64 fl)] [(1, .obj DiskO D), (3, .segs [.ptr 1 [] 0, .int .i64 z, .nilp, .bool r])] (tvL [.dat (.slice (.slice (.int .u8))) (recsN D (2 * z) D.Base.length fl).1, .int .i64 0]) (jM 4 ⟨openL D (2 * z) D.Base.length fl, z, r⟩) := by
  unfold openL
  refine Spec_disk3 isfn102 fun hw hG => ?_
  have hbase := hw.many
  have hw2 : IntKind.i64.wrap (2 * z) = 2 * z := w_i64 _ (by omega) (by omega)
  refine Spec.go2 (E := Cx.env) (fn := Try.f102) (res := [_, _]) _ (Opens.refl _) Try.func102 isfn102 rfl rfl (by simp [idsV, SV.ids, LV.ids]) (by simp [idsM]) (by kernel_rfl) rfl ?_
  intro hf
  try push_cast at hf
  intro _
  simp only [mmD, parSl, idsM, List.map_cons, List.map_nil, List.cons_append, List.nil_append]
  repeat' (first
    | (intro (K' : KT) hK'; push_cast; (repeat' refine And.intro ?_ ?_); all_goals (first | (apply hK'; clear hK' K') | (refine ⟨trivial, trivial, ?_⟩; apply hK'; clear hK' K') | (intro hb; (try push_cast at hb); all_goals (intros; apply hK'; clear hK' K')) | ((first | refine call_1 Size_con (fun _ _ => rfl) ?_ | refine call_O 4 ?_); push_cast; (repeat' refine And.intro ?_ ?_); all_goals (first | (apply hK'; clear hK' K') | (intros; apply hK'; clear hK' K') | (clear hK' K'; first | omega | skip))) | (clear hK' K'; first | omega | skip)))
    | apply go_seq | apply go_region | apply go_skip | apply go_exit | apply go_ret
    | apply seqK_n | apply seqK_x | apply seqK_r | apply regK_go | apply finK_n | apply finK_r
    | (refine vres_go ?_; push_cast) | apply ops_nil | refine ops_in (w_i64 _ (by omega) (by omega)) ?_ | refine ops_in (w_u8 _ (by omega) (by omega)) ?_ | refine ops_in (w_u32 _ (by omega) (by omega)) ?_ | refine ops_in (w_u64 _ (by omega) (by omega)) ?_
    | refine ops_put rfl rfl ?_ | refine ops_no rfl rfl ?_
    | (refine go_cond (by push_cast; first | done | rfl) ?_ ?_ <;> intro hc <;> (try push_cast at hc))
    | refine ops_gt rfl rfl rfl (by push_cast; first | done | rfl) ?_
    | refine ops_gb rfl rfl rfl (by push_cast; first | done | rfl) ?_ ?_
    | refine go_draw (id := 1) [0, 1, 2, 3, 4, 5, 6, 7, 8, 9, 10, 11, 12, 14] [15] [3] (.or 13 (.or 15 (.free 16 (.free 17 (.free 18 (.free 19 (.free 20 (.free 21 (.free 22 (.done)))))))) (.stop)) (.stop)) wide (by kernel_rfl) ?_
    | apply goA_nil | apply goS_done | apply goS_stop
    | refine goA_put rfl rfl rfl ?_ | refine goS_free rfl rfl rfl ?_
    | (refine goS_late rfl rfl rfl rfl ?_ ?_; rotate_left) | (refine goS_late' rfl rfl rfl rfl ?_ ?_; rotate_left)
    | (refine goS_hid rfl rfl rfl rfl ?_ ?_; rotate_left; focus (intro K' hK'; push_cast; (repeat' refine And.intro ?_ ?_); all_goals (first | (refine hK' _ _ _ _ _ (by push_cast) (by push_cast; first | done | rfl) ?_; clear hK' K') | ((first | refine call_1 Size_con (fun _ _ => rfl) ?_ | refine call_O 4 ?_); push_cast; (repeat' refine And.intro ?_ ?_); all_goals (first | (refine hK' _ _ _ _ _ (by push_cast) (by push_cast; first | done | rfl) ?_; clear hK' K') | (intros; refine hK' _ _ _ _ _ (by push_cast) (by push_cast; first | done | rfl) ?_; clear hK' K') | (clear hK' K'; first | omega | skip))) | (clear hK' K'; first | omega | skip))))
    | refine goA_gt rfl rfl rfl rfl (by push_cast; first | done | rfl) ?_
    | refine goA_gb rfl rfl rfl rfl (by push_cast; first | done | rfl) ?_ ?_
    | (intro (hc : (_ : Prop)); (try push_cast at hc)) | intro (hc : R08Item) | intro (hc : Int) | intro (hc : Nat))
  all_goals (try (rw [hw2]; first | omega | exact Int.le_of_lt h.2.2))
  simp only [hw2]
  unfold jM logB jB
  simp only
  generalize recsN D (2 * z) (D.Base.length) fl = q
  generalize IntKind.u64.wrap (max fl (topN D (2 * z) D.Base.length).1 + 1) = t
  (refine Fin2.fin ⟨[(1, .obj DiskO D), (4, .segs [.ptr 1 [] 0, .int .i64 q.2, .int .i64 D.Base.length, .int .u64 t]), (3, .segs [.ptr 1 [] 0, .int .i64 z, .ptr 4 [] 0, .bool r])], ?_, ?_, ?_, Closes.refl _, ?_⟩
   · push_cast
   · push_cast
   · simp [idsM]
   · simp [tvL, TV.ids, SV.ids, LV.ids, idsV])
theorem jOpen_con : ConJN 102 (.pair (.int .u64) .unit) (fun J _ => 1 ≤ J.z ∧ J.z ≤ 255 ∧ 2 * J.z < J.L.D.Base.length)
    (fun J x => [.dat (.slice (.slice (.int .u8))) (recsN J.L.D (2 * J.z) J.L.D.Base.length x.1).1, .int .i64 0]) (fun J x => ⟨openL J.L.D (2 * J.z) J.L.D.Base.length x.1, J.z, J.r⟩) :=
  ⟨isfn102, fun _ _ => rfl, fun J x h => jOpen_fn J.L J.z J.r x.1 h⟩
end
/-- 'open' of a journal that has no log yet, as a call: the log is named. -/
def conJ0 (nm : Nat) (vs0 : List SV) (s : SymSt) (K : KT) : Prop := match vs0 with
  | [.l (.ptr id [] 0), .l (.int .u64 fl)] => (match getM s.mem id with
    | some (.segs [.ptr d [] 0, .int .i64 z, .nilp, .bool b]) => (match getM s.mem d with
      | some (@Box.obj τ O' D) => d ≠ id ∧ d ≠ nm ∧ nm ≠ id ∧ s.room nm ∧ ∃ h : τ = R08Disk, HEq O' DiskO ∧ (1 ≤ z ∧ z ≤ 255 ∧ 2 * z < (cast h D).Base.length) ∧
          K (.tup [.l (.dat (.slice (.slice (.int .u8))) (recsN (cast h D) (2 * z) (cast h D).Base.length fl).1), .l (.int .i64 0)])
            (s.back [d, id] [nm] [(d, .obj DiskO (cast h D)), (nm, logB d (openL (cast h D) (2 * z) (cast h D).Base.length fl)), (id, jB d nm z b)])
      | _ => False)
    | _ => False)
  | _ => False
theorem call_J0 (nm : Nat) {vs0 : List SV} {s : SymSt} {K : KT} (hc : conJ0 nm vs0 s K) : Wc Cx.P 102 vs0 s K := by
  unfold conJ0 at hc
  split at hc
  · rename_i id fl
    split at hc
    · rename_i d z b hgj
      split at hc
      · rename_i τ O' D hgd
        obtain ⟨n2, n4, n5, hroom, eq, hO, hz, hK⟩ := hc
        subst eq
        have hO := eq_of_heq hO
        subst hO
        simp only [cast_eq] at hz hK
        refine Wc_spec (jOpen0_fn D z b fl hz) (fun i => if i = 1 then d else if i = 3 then id else nm) [nm] (by simp [idsM]) ?_ ?_ ?_ ?_ ?_ (jM_clb _ _) ?_ ?_ ?_
        · simp only [idsM, List.map_cons, List.map_nil, List.mem_cons, List.not_mem_nil, or_false]
          rintro i (rfl | rfl) j (rfl | rfl) <;> simp [n2, Ne.symm n2]
        · rw [jM_ids]
          simp only [List.mem_cons, List.not_mem_nil, or_false]
          rintro i (rfl | rfl | rfl) j (rfl | rfl | rfl) <;> simp [n2, n4, n5, Ne.symm n2, Ne.symm n4, Ne.symm n5]
        · rw [jM_ids]
          simp only [idsM, List.map_cons, List.map_nil, List.mem_cons, List.not_mem_nil, or_false, not_or]
          rintro j (rfl | rfl | rfl) h <;> simp at h ⊢
        · intro i hi
          simp only [List.mem_cons, List.not_mem_nil, or_false] at hi
          subst hi
          have : s.pins.contains i = false := hroom
          simpa using this
        · simp [tvL, TV.ids, idsV, SV.ids, LV.ids]
        · intro e' he
          simp only [List.mem_cons, List.not_mem_nil, or_false] at he
          rcases he with rfl | rfl
          · exact hgd
          · exact hgj
        · intro G γ us h
          simpa [SV.ren, LV.ren] using h
        · have e9 : renM (fun i => if i = 1 then d else if i = 3 then id else nm) (jM 4 ⟨openL D (2 * z) D.Base.length fl, z, b⟩) =
              [(d, .obj DiskO D), (nm, logB d (openL D (2 * z) D.Base.length fl)), (id, jB d nm z b)] := by
            simp [jM, renM, Box.ren, LV.ren, logB, jB, openL]
          rw [e9]
          exact hK
      · exact hc.elim
    · exact hc.elim
  · exact hc.elim
attribute [push_cast] conJ0
end Go.Proofs.Ytnmjcdlgfimnaaa
