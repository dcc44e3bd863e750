/- Chapter 12: the state is another one. -/
import Derived.Test.YtnmjcdlgfimnaaaJ12e
namespace Go.Proofs.Ytnmjcdlgfimnaaa
/-- 'pack.Num' of one number, as a call: its row is named. -/
def conPN (nm : Nat) (vs0 : List SV) (s : SymSt) (K : KT) : Prop := match vs0 with
  | .l .nils :: rest => vFrz2 (ownsV rest) s rest fun s' rest' => asArgs (.pair (.slice (.int .u64)) .unit) rest' fun x => x.1.length = 1 ∧ (0 ≤ x.1.getD 0 0 ∧ x.1.getD 0 0 ≤ 18446744073709551615) ∧ s'.room nm ∧
      K (.one (.l (.own nm))) (s'.back [] [nm] [(nm, .arr (.int .u8) (numB (x.1.getD 0 0).toNat))])
  | _ => False
theorem call_PN (nm : Nat) {vs0 : List SV} {s : SymSt} {K : KT} (hc : conPN nm vs0 s K) : Wc Cx.P 106 vs0 s K := by
  refine ⟨isfn106, ?_⟩
  intro R G γ a w vs hs hv
  unfold conPN at hc
  split at hc
  · rename_i rest
    obtain ⟨v0, vs0, rfl, hv0, hvr⟩ := hv
    obtain ⟨G1, s1, as1, hg1, hc, hs1, hv1⟩ := vFrz2_spec hc hs hvr
    obtain ⟨x, ⟨h1, h2, hroom, hK⟩, hx⟩ := asArgs_rel (.pair (.slice (.int .u64)) .unit) hc hv1
    obtain ⟨n, hn⟩ : ∃ n : Nat, x.1.getD 0 0 = n := ⟨(x.1.getD 0 0).toNat, by omega⟩
    have ex : x.1 = [(n : Int)] := by
      match hxx : x.1, h1 with
      | [y], _ =>
        rw [hxx] at hn
        simp at hn
        rw [hn]
    have hv0' : (SV.l LV.nils).rel G1 γ v0 := SV.rel_mono hg1 hv0
    rw [hn, Int.toNat_natCast] at hK
    have hw : Wc Cx.P 106 (.l .nils :: (Rep.argL (.pair (.slice (.int .u64)) .unit) x).map .l) s1 K := by
      refine Wc_spec (pkNum_fn n (by omega)) (fun _ => nm) [nm] (by simp [idsM]) (by simp [idsM]) (by simp [idsM]) (by simp [idsM]) ?_ (by simp [tvL, TV.ids, SV.ids, LV.ids, idsM]) (by simp [Box.ids]) (by simp) ?_ ?_
      · intro i hi
        simp only [List.mem_cons, List.not_mem_nil, or_false] at hi
        subst hi
        have : s1.pins.contains i = false := hroom
        simpa using this
      · intro G γ us h
        have : Rep.argL (.pair (.slice (.int .u64)) .unit) x = [.dat (.slice (.int .u64)) [(n : Int)]] := by rw [← ex]; rfl
        rw [this] at h
        simpa [SV.ren, LV.ren] using h
      · simpa [tvL, TV.ren, SV.ren, LV.ren, idsM, renM, Box.ren] using hK
    refine (hw.2 R G1 γ _ w _ hs1 ⟨v0, vs0, rfl, hv0', hx⟩).mono ?_
    rintro e w' ⟨v, rfl, G2, γ2, tv, s2, hg2, hK2, hrel, hs2⟩
    exact ⟨v, rfl, G2, γ2, tv, s2, Hp.le_trans hg1 hg2, hK2, hrel, hs2⟩
  · exact hc.elim
attribute [push_cast] conPN
/-- The journal with another state, where that is written. -/
def jCom (J : JourS) (c : List Int) : JourS := ⟨openL (slWrite J.L.D 0 J.z (numB (J.L.st - 1).toNat ++ c)).1 (2 * J.z) (slWrite J.L.D 0 J.z (numB (J.L.st - 1).toNat ++ c)).1.Base.length (J.L.st - 1), J.z, true⟩
theorem sing_getD (x : Int) : [x].getD 0 0 = x := rfl
section
set_option linter.unusedSimpArgs false
set_option linter.unusedVariables false
set_option maxRecDepth 20000
attribute [local irreducible] vcOps vcCode vcA vcSch Wc
set_option maxHeartbeats 8000000
attribute [local push_cast] sing_getD
theorem jCom_fn (J : JourS) (c : List Int) (h : 1 ≤ J.z ∧ J.z ≤ 255 ∧ 2 * J.z < (slWrite J.L.D 0 J.z (numB (J.L.st - 1).toNat ++ c)).1.Base.length) (hst : 1 ≤ J.L.st ∧ J.L.st ≤ 1152921504606846977) (hc0 : c.length ≤ 12288) (hq : J.L.D.Queue.length ≤ 900000)
    (hw : (slWrite J.L.D 0 J.z (numB (J.L.st - 1).toNat ++ c)).2.2 = 0) :
    Spec Cx.P 69 [.l (.ptr 3 [] 0), .l (.dat (.slice (.int .u8)) c)] (jMem J.L J.z J.r) (tvL [.int .i64 0]) (jM 4 (jCom J c)) := by
  obtain ⟨⟨D, a, e0, st⟩, z, r⟩ := J
  unfold jCom
  simp only at h hst hq hw ⊢
  have hnl := numB_len (n := (st - 1).toNat) (by omega)
  unfold jMem
  refine Spec.go2 (E := Cx.env) (fn := Try.f69) (res := [_]) _ (Opens.refl _) Try.func69 isfn69 rfl rfl (by simp [idsV, SV.ids, LV.ids]) (by simp [idsM]) (by kernel_rfl) rfl ?_
  intro hf
  try push_cast at hf
  intro _
  simp only [mmD, parSl, idsM, List.map_cons, List.map_nil, List.cons_append, List.nil_append]
  repeat' (first
    | (intro (K' : KT) hK'; push_cast; (repeat' refine And.intro ?_ ?_); all_goals (first | (apply hK'; clear hK' K') | (refine ⟨trivial, trivial, ?_⟩; apply hK'; clear hK' K') | (intro hb; (try push_cast at hb); all_goals (intros; apply hK'; clear hK' K')) | ((first | refine call_L logStamp_con (fun _ _ => rfl) ?_ | refine call_PN 34 ?_ | refine call_1 slWrite_con (fun _ _ => rfl) ?_ | refine call_J jTold_con (fun _ _ => rfl) ?_ | refine call_JN jOpen_con 4 (fun _ _ => rfl) ?_); push_cast; (repeat' refine And.intro ?_ ?_); all_goals (first | (apply hK'; clear hK' K') | (intros; apply hK'; clear hK' K') | (clear hK' K'; first | omega | skip))) | (clear hK' K'; first | omega | skip)))
    | apply go_seq | apply go_region | apply go_skip | apply go_exit | apply go_ret
    | apply seqK_n | apply seqK_x | apply seqK_r | apply regK_go | apply finK_n | apply finK_r
    | (refine vres_go ?_; push_cast) | apply ops_nil | refine ops_in (w_i64 _ (by omega) (by omega)) ?_ | refine ops_in (w_u8 _ (by omega) (by omega)) ?_ | refine ops_in (w_u32 _ (by omega) (by omega)) ?_ | refine ops_in (w_u64 _ (by omega) (by omega)) ?_
    | refine ops_put rfl rfl ?_ | refine ops_no rfl rfl ?_
    | (refine go_cond (by push_cast; first | done | rfl) ?_ ?_ <;> intro hc <;> (try push_cast at hc))
    | refine ops_gt rfl rfl rfl (by push_cast; first | done | rfl) ?_
    | refine ops_gb rfl rfl rfl (by push_cast; first | done | rfl) ?_ ?_
    | refine go_draw (id := 4) [0, 1, 2, 3, 4, 5, 6, 7, 8, 11] [13] [3] (.or 9 (.or 10 (.or 12 (.or 13 (.free 14 (.free 15 (.free 16 (.free 17 (.free 18 (.done)))))) (.stop)) (.stop)) (.stop)) (.stop)) wide (by kernel_rfl) ?_
    | apply goA_nil | apply goS_done | apply goS_stop
    | refine goA_put rfl rfl rfl ?_ | refine goS_free rfl rfl rfl ?_
    | (refine goS_late rfl rfl rfl rfl ?_ ?_; rotate_left) | (refine goS_late' rfl rfl rfl rfl ?_ ?_; rotate_left)
    | (refine goS_hid rfl rfl rfl rfl ?_ ?_; rotate_left; focus (intro K' hK'; push_cast; (repeat' refine And.intro ?_ ?_); all_goals (first | (refine hK' _ _ _ _ _ (by push_cast) (by push_cast; first | done | rfl) ?_; clear hK' K') | ((first | refine call_L logStamp_con (fun _ _ => rfl) ?_ | refine call_PN 34 ?_ | refine call_1 slWrite_con (fun _ _ => rfl) ?_ | refine call_J jTold_con (fun _ _ => rfl) ?_ | refine call_JN jOpen_con 4 (fun _ _ => rfl) ?_); push_cast; (repeat' refine And.intro ?_ ?_); all_goals (first | (refine hK' _ _ _ _ _ (by push_cast) (by push_cast; first | done | rfl) ?_; clear hK' K') | (intros; refine hK' _ _ _ _ _ (by push_cast) (by push_cast; first | done | rfl) ?_; clear hK' K') | (clear hK' K'; first | omega | skip))) | (clear hK' K'; first | omega | skip))))
    | (refine goS_hid' rfl rfl rfl rfl ?_ ?_; rotate_left; focus (intro K' hK'; push_cast; (repeat' refine And.intro ?_ ?_); all_goals (first | (refine hK' _ _ _ _ _ (by push_cast) (by push_cast; first | done | rfl) ?_; clear hK' K') | ((first | refine call_L logStamp_con (fun _ _ => rfl) ?_ | refine call_PN 34 ?_ | refine call_1 slWrite_con (fun _ _ => rfl) ?_ | refine call_J jTold_con (fun _ _ => rfl) ?_ | refine call_JN jOpen_con 4 (fun _ _ => rfl) ?_); push_cast; (repeat' refine And.intro ?_ ?_); all_goals (first | (refine hK' _ _ _ _ _ (by push_cast) (by push_cast; first | done | rfl) ?_; clear hK' K') | (intros; refine hK' _ _ _ _ _ (by push_cast) (by push_cast; first | done | rfl) ?_; clear hK' K') | (clear hK' K'; first | omega | skip))) | (clear hK' K'; first | omega | skip))))
    | (refine goS_freet rfl rfl rfl rfl (by push_cast; first | done | rfl) ?_)
    | refine goS_freeb rfl rfl rfl rfl (by push_cast; first | done | rfl) ?_ ?_
    | (refine goS_hidt rfl rfl rfl rfl (by push_cast; first | done | rfl) ?_ ?_)
    | (refine goS_hidb rfl rfl rfl rfl rfl (by push_cast; first | done | rfl) ?_ ?_ ?_; focus (intro hc; (try push_cast at hc); all_goals (intro K' hK'; push_cast; (repeat' refine And.intro ?_ ?_); all_goals (first | (refine hK' _ _ _ _ _ (by push_cast) (by push_cast; first | done | rfl) ?_; clear hK' K') | ((first | refine call_L logStamp_con (fun _ _ => rfl) ?_ | refine call_PN 34 ?_ | refine call_1 slWrite_con (fun _ _ => rfl) ?_ | refine call_J jTold_con (fun _ _ => rfl) ?_ | refine call_JN jOpen_con 4 (fun _ _ => rfl) ?_); push_cast; (repeat' refine And.intro ?_ ?_); all_goals (first | (refine hK' _ _ _ _ _ (by push_cast) (by push_cast; first | done | rfl) ?_; clear hK' K') | (intros; refine hK' _ _ _ _ _ (by push_cast) (by push_cast; first | done | rfl) ?_; clear hK' K') | (clear hK' K'; first | omega | skip))) | (clear hK' K'; first | omega | skip)))))
    | refine goA_gt rfl rfl rfl rfl (by push_cast; first | done | rfl) ?_
    | refine goA_gb rfl rfl rfl rfl (by push_cast; first | done | rfl) ?_ ?_
    | (intro (hc : (_ : Prop)); (try push_cast at hc)) | intro (hc : R08Item) | intro (hc : Int) | intro (hc : Nat))
  all_goals (try (exfalso; omega))
  all_goals (try omega)
  all_goals (try (exfalso; rw [hw] at hc; simp at hc; done))
  generalize (slWrite D 0 z (numB (st - 1).toNat ++ c)).1 = W at *
  unfold jM logB jB
  simp only
  generalize hL : openL W (2 * z) W.Base.length (st - 1) = L2 at *
  have hLD : L2.D = W := by rw [← hL]; rfl
  rw [← hLD]
  (refine Fin2.fin ⟨[(1, .obj DiskO L2.D), (4, .segs [.ptr 1 [] 0, .int .i64 L2.a, .int .i64 L2.e, .int .u64 L2.st]), (3, .segs [.ptr 1 [] 0, .int .i64 z, .ptr 4 [] 0, .bool true])], ?_, ?_, ?_, Closes.refl _, ?_⟩
   · push_cast
   · push_cast
   · simp [idsM]
   · simp [tvL, TV.ids, SV.ids, LV.ids, idsV])
theorem jComF_fn (J : JourS) (c : List Int) (hst : 1 ≤ J.L.st ∧ J.L.st ≤ 1152921504606846977) (hc0 : c.length ≤ 12288) (hq : J.L.D.Queue.length ≤ 900000)
    (hw : (slWrite J.L.D 0 J.z (numB (J.L.st - 1).toNat ++ c)).2.2 ≠ 0) :
    Spec Cx.P 69 [.l (.ptr 3 [] 0), .l (.dat (.slice (.int .u8)) c)] (jMem J.L J.z J.r) (tvL [.int .i64 (slWrite J.L.D 0 J.z (numB (J.L.st - 1).toNat ++ c)).2.2])
      (jM 2 ⟨⟨(slWrite J.L.D 0 J.z (numB (J.L.st - 1).toNat ++ c)).1, J.L.a, J.L.e, J.L.st⟩, J.z, if (slWrite J.L.D 0 J.z (numB (J.L.st - 1).toNat ++ c)).2.2 = 82 then false else J.r⟩) := by
  obtain ⟨⟨D, a, e0, st⟩, z, r⟩ := J
  simp only at hst hq hw ⊢
  have hnl := numB_len (n := (st - 1).toNat) (by omega)
  unfold jMem
  refine Spec.go2 (E := Cx.env) (fn := Try.f69) (res := [_]) _ (Opens.refl _) Try.func69 isfn69 rfl rfl (by simp [idsV, SV.ids, LV.ids]) (by simp [idsM]) (by kernel_rfl) rfl ?_
  intro hf
  try push_cast at hf
  intro _
  simp only [mmD, parSl, idsM, List.map_cons, List.map_nil, List.cons_append, List.nil_append]
  repeat' (first
    | (intro (K' : KT) hK'; push_cast; (repeat' refine And.intro ?_ ?_); all_goals (first | (apply hK'; clear hK' K') | (refine ⟨trivial, trivial, ?_⟩; apply hK'; clear hK' K') | (intro hb; (try push_cast at hb); all_goals (intros; apply hK'; clear hK' K')) | ((first | refine call_L logStamp_con (fun _ _ => rfl) ?_ | refine call_PN 34 ?_ | refine call_1 slWrite_con (fun _ _ => rfl) ?_ | refine call_J jTold_con (fun _ _ => rfl) ?_); push_cast; (repeat' refine And.intro ?_ ?_); all_goals (first | (apply hK'; clear hK' K') | (intros; apply hK'; clear hK' K') | (clear hK' K'; first | omega | skip))) | (clear hK' K'; first | omega | skip)))
    | apply go_seq | apply go_region | apply go_skip | apply go_exit | apply go_ret
    | apply seqK_n | apply seqK_x | apply seqK_r | apply regK_go | apply finK_n | apply finK_r
    | (refine vres_go ?_; push_cast) | apply ops_nil | refine ops_in (w_i64 _ (by omega) (by omega)) ?_ | refine ops_in (w_u8 _ (by omega) (by omega)) ?_ | refine ops_in (w_u32 _ (by omega) (by omega)) ?_ | refine ops_in (w_u64 _ (by omega) (by omega)) ?_
    | refine ops_put rfl rfl ?_ | refine ops_no rfl rfl ?_
    | (refine go_cond (by push_cast; first | done | rfl) ?_ ?_ <;> intro hc <;> (try push_cast at hc))
    | refine ops_gt rfl rfl rfl (by push_cast; first | done | rfl) ?_
    | refine ops_gb rfl rfl rfl (by push_cast; first | done | rfl) ?_ ?_
    | refine go_draw (id := 4) [0, 1, 2, 3, 4, 5, 6, 7, 8, 11] [13] [3] (.or 9 (.or 10 (.or 12 (.or 13 (.free 14 (.free 15 (.free 16 (.free 17 (.free 18 (.done)))))) (.stop)) (.stop)) (.stop)) (.stop)) wide (by kernel_rfl) ?_
    | apply goA_nil | apply goS_done | apply goS_stop
    | refine goA_put rfl rfl rfl ?_ | refine goS_free rfl rfl rfl ?_
    | (refine goS_late rfl rfl rfl rfl ?_ ?_; rotate_left) | (refine goS_late' rfl rfl rfl rfl ?_ ?_; rotate_left)
    | (refine goS_hid rfl rfl rfl rfl ?_ ?_; rotate_left; focus (intro K' hK'; push_cast; (repeat' refine And.intro ?_ ?_); all_goals (first | (refine hK' _ _ _ _ _ (by push_cast) (by push_cast; first | done | rfl) ?_; clear hK' K') | ((first | refine call_L logStamp_con (fun _ _ => rfl) ?_ | refine call_PN 34 ?_ | refine call_1 slWrite_con (fun _ _ => rfl) ?_ | refine call_J jTold_con (fun _ _ => rfl) ?_); push_cast; (repeat' refine And.intro ?_ ?_); all_goals (first | (refine hK' _ _ _ _ _ (by push_cast) (by push_cast; first | done | rfl) ?_; clear hK' K') | (intros; refine hK' _ _ _ _ _ (by push_cast) (by push_cast; first | done | rfl) ?_; clear hK' K') | (clear hK' K'; first | omega | skip))) | (clear hK' K'; first | omega | skip))))
    | (refine goS_hid' rfl rfl rfl rfl ?_ ?_; rotate_left; focus (intro K' hK'; push_cast; (repeat' refine And.intro ?_ ?_); all_goals (first | (refine hK' _ _ _ _ _ (by push_cast) (by push_cast; first | done | rfl) ?_; clear hK' K') | ((first | refine call_L logStamp_con (fun _ _ => rfl) ?_ | refine call_PN 34 ?_ | refine call_1 slWrite_con (fun _ _ => rfl) ?_ | refine call_J jTold_con (fun _ _ => rfl) ?_); push_cast; (repeat' refine And.intro ?_ ?_); all_goals (first | (refine hK' _ _ _ _ _ (by push_cast) (by push_cast; first | done | rfl) ?_; clear hK' K') | (intros; refine hK' _ _ _ _ _ (by push_cast) (by push_cast; first | done | rfl) ?_; clear hK' K') | (clear hK' K'; first | omega | skip))) | (clear hK' K'; first | omega | skip))))
    | (refine goS_freet rfl rfl rfl rfl (by push_cast; first | done | rfl) ?_)
    | refine goS_freeb rfl rfl rfl rfl (by push_cast; first | done | rfl) ?_ ?_
    | (refine goS_hidt rfl rfl rfl rfl (by push_cast; first | done | rfl) ?_ ?_)
    | (refine goS_hidb rfl rfl rfl rfl rfl (by push_cast; first | done | rfl) ?_ ?_ ?_; focus (intro hc; (try push_cast at hc); all_goals (intro K' hK'; push_cast; (repeat' refine And.intro ?_ ?_); all_goals (first | (refine hK' _ _ _ _ _ (by push_cast) (by push_cast; first | done | rfl) ?_; clear hK' K') | ((first | refine call_L logStamp_con (fun _ _ => rfl) ?_ | refine call_PN 34 ?_ | refine call_1 slWrite_con (fun _ _ => rfl) ?_ | refine call_J jTold_con (fun _ _ => rfl) ?_); push_cast; (repeat' refine And.intro ?_ ?_); all_goals (first | (refine hK' _ _ _ _ _ (by push_cast) (by push_cast; first | done | rfl) ?_; clear hK' K') | (intros; refine hK' _ _ _ _ _ (by push_cast) (by push_cast; first | done | rfl) ?_; clear hK' K') | (clear hK' K'; first | omega | skip))) | (clear hK' K'; first | omega | skip)))))
    | refine goA_gt rfl rfl rfl rfl (by push_cast; first | done | rfl) ?_
    | refine goA_gb rfl rfl rfl rfl (by push_cast; first | done | rfl) ?_ ?_
    | (intro (hc : (_ : Prop)); (try push_cast at hc)) | intro (hc : R08Item) | intro (hc : Int) | intro (hc : Nat))
  all_goals (try (exfalso; omega))
  all_goals (try omega)
  all_goals (try (exfalso; exact hw (by simpa using hc)))
  generalize slWrite D 0 z (numB (st - 1).toNat ++ c) = W at *
  unfold jM logB jB
  simp only
  (refine Fin2.fin ⟨[(1, .obj DiskO W.1), (2, .segs [.ptr 1 [] 0, .int .i64 a, .int .i64 e0, .int .u64 st]), (3, .segs [.ptr 1 [] 0, .int .i64 z, .ptr 2 [] 0, .bool (if W.2.2 = 82 then false else r)])], ?_, ?_, ?_, Closes.refl _, ?_⟩
   · push_cast
   · push_cast
   · simp [idsM]
   · simp [tvL, TV.ids, SV.ids, LV.ids, idsV])
theorem jCom_con : ConJN 69 (.pair (.slice (.int .u8)) .unit)
    (fun J x => (1 ≤ J.z ∧ J.z ≤ 255 ∧ 2 * J.z < (slWrite J.L.D 0 J.z (numB (J.L.st - 1).toNat ++ x.1)).1.Base.length) ∧ (1 ≤ J.L.st ∧ J.L.st ≤ 1152921504606846977) ∧ x.1.length ≤ 12288 ∧ J.L.D.Queue.length ≤ 900000 ∧ (slWrite J.L.D 0 J.z (numB (J.L.st - 1).toNat ++ x.1)).2.2 = 0)
    (fun _ _ => [.int .i64 0]) (fun J x => jCom J x.1) := ⟨isfn69, fun _ _ => rfl, fun J x h => jCom_fn J x.1 h.1 h.2.1 h.2.2.1 h.2.2.2.1 h.2.2.2.2⟩
theorem jComF_con : ConJ 69 (.pair (.slice (.int .u8)) .unit)
    (fun J x => (1 ≤ J.L.st ∧ J.L.st ≤ 1152921504606846977) ∧ x.1.length ≤ 12288 ∧ J.L.D.Queue.length ≤ 900000 ∧ (slWrite J.L.D 0 J.z (numB (J.L.st - 1).toNat ++ x.1)).2.2 ≠ 0)
    (fun J x => [.int .i64 (slWrite J.L.D 0 J.z (numB (J.L.st - 1).toNat ++ x.1)).2.2])
    (fun J x => ⟨⟨(slWrite J.L.D 0 J.z (numB (J.L.st - 1).toNat ++ x.1)).1, J.L.a, J.L.e, J.L.st⟩, J.z, if (slWrite J.L.D 0 J.z (numB (J.L.st - 1).toNat ++ x.1)).2.2 = 82 then false else J.r⟩) :=
  ⟨isfn69, fun _ _ => rfl, fun J x h => jComF_fn J x.1 h.1 h.2.1 h.2.2.1 h.2.2.2⟩
end
end Go.Proofs.Ytnmjcdlgfimnaaa
