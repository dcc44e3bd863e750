/- Chapter 12: a journal is made; a journal is opened. -/
import Derived.Test.YtnmjcdlgfimnaaaJ12f
import Derived.Test.YtnmjcdlgfimnaaaC10h
namespace Go.Proofs.Ytnmjcdlgfimnaaa
/-- 'pack.New', as a call: the reader is named. -/
def conRd (nm : Nat) (vs0 : List SV) (s : SymSt) (K : KT) : Prop := vFrz2 (ownsV vs0) s vs0 fun s' rest' => asArgs (.pair (.slice (.int .u8)) .unit) rest' fun x => x.1.length ≤ 1000000 ∧ s'.room nm ∧
  K (.one (.l (.ptr nm [] 0))) (s'.back [] [nm] [(nm, .segs [.dat (.slice (.int .u8)) x.1, .bool false])])
theorem call_Rd (nm : Nat) {vs0 : List SV} {s : SymSt} {K : KT} (hc : conRd nm vs0 s K) : Wc Cx.P 103 vs0 s K := by
  refine ⟨isfn103, ?_⟩
  intro R G γ a w vs hs hv
  unfold conRd at hc
  obtain ⟨G1, s1, as1, hg1, hc, hs1, hv1⟩ := vFrz2_spec hc hs hv
  obtain ⟨x, ⟨h1, hroom, hK⟩, hx⟩ := asArgs_rel (.pair (.slice (.int .u8)) .unit) hc hv1
  have hw : Wc Cx.P 103 ((Rep.argL (.pair (.slice (.int .u8)) .unit) x).map .l) s1 K := by
    refine Wc_spec (pkNew_fn x.1 h1) (fun _ => nm) [nm] (by simp [idsM]) (by simp [idsM]) (by simp [idsM]) (by simp [idsM]) ?_ (by simp [tvL, TV.ids, SV.ids, LV.ids, idsM]) (by simp [Box.ids, idsL, LV.ids]) (by simp) ?_ ?_
    · intro i hi
      simp only [List.mem_cons, List.not_mem_nil, or_false] at hi
      subst hi
      have : s1.pins.contains i = false := hroom
      simpa using this
    · intro G γ us h
      have : Rep.argL (.pair (.slice (.int .u8)) .unit) x = [.dat (.slice (.int .u8)) x.1] := rfl
      rw [this] at h
      simpa [SV.ren, LV.ren] using h
    · simpa [tvL, TV.ren, SV.ren, LV.ren, idsM, renM, Box.ren] using hK
  refine (hw.2 R G1 γ _ w _ hs1 hx).mono ?_
  rintro e w' ⟨v, rfl, G2, γ2, tv, s2, hg2, hK2, hrel, hs2⟩
  exact ⟨v, rfl, G2, γ2, tv, s2, Hp.le_trans hg1 hg2, hK2, hrel, hs2⟩
/-- A number is taken from a reader whose bytes begin with it. -/
theorem call_RN (n : Nat) (l : List Int) (hn : n < 128 ^ 9) {id : Nat} {s : SymSt} {K : KT} (hm : getM s.mem id = some (.segs [.dat (.slice (.int .u8)) (numB n ++ l), .bool false]))
    (hK : K (.one (.l (.int .u64 n))) (s.back [id] [] [(id, .segs [.dat (.slice (.int .u8)) l, .bool false])])) : Wc Cx.P 104 [.l (.ptr id [] 0)] s K := by
  refine Wc_spec (rdNum_fn n l hn) (fun _ => id) [] (by simp [idsM]) (by simp [idsM]) (by simp [idsM]) (by simp [idsM]) (by simp) (by simp [tvL, TV.ids, SV.ids, LV.ids, idsM]) (by simp [Box.ids, idsL, LV.ids]) ?_ ?_ ?_
  · intro e he
    simp only [List.mem_cons, List.not_mem_nil, or_false] at he
    subst he
    exact hm
  · intro G γ us h
    simpa [SV.ren, LV.ren] using h
  · simpa [tvL, TV.ren, SV.ren, LV.ren, idsM, renM, Box.ren] using hK
theorem call_RL (l : List Int) {id : Nat} {s : SymSt} {K : KT} (hm : getM s.mem id = some (.segs [.dat (.slice (.int .u8)) l, .bool false]))
    (hK : K (.one (.l (.int .i64 l.length))) (s.back [id] [] [(id, .segs [.dat (.slice (.int .u8)) l, .bool false])])) : Wc Cx.P 105 [.l (.ptr id [] 0)] s K := by
  refine Wc_spec (rdLeft_fn l) (fun _ => id) [] (by simp [idsM]) (by simp [idsM]) (by simp [idsM]) (by simp [idsM]) (by simp) (by simp [tvL, TV.ids, SV.ids, LV.ids, idsM]) (by simp [Box.ids, idsL, LV.ids]) ?_ ?_ ?_
  · intro e he
    simp only [List.mem_cons, List.not_mem_nil, or_false] at he
    subst he
    exact hm
  · intro G γ us h
    simpa [SV.ren, LV.ren] using h
  · simpa [tvL, TV.ren, SV.ren, LV.ren, idsM, renM, Box.ren] using hK
attribute [push_cast] conRd
theorem base_len_put (D : R08Disk) (k st : Int) (b : List Int) : (sPut D k st b).1.Base.length = D.Base.length := (sPut_q D k st b).2
theorem base_len_flush (D : R08Disk) : (dFlush D).1.Base.length = D.Base.length := by
  rcases flush_gen D with ⟨_, h, _⟩ | ⟨_, h, _⟩
  · rw [h, landAll_len]
  · rw [h]
theorem slWrite_len (D : R08Disk) (k z : Int) (c : List Int) : (slWrite D k z c).1.Base.length = D.Base.length := by
  unfold slWrite slPutD
  split
  · split
    · exact base_len_put _ _ _ _
    · split
      · rw [base_len_flush, base_len_put]
      · rw [base_len_flush, base_len_put]
  · rfl
/-- A new journal in memory: the disk is 1, the log k, the journal j. -/
def jMj (k j : Nat) (J : JourS) : List (Nat × Box) := [(1, .obj DiskO J.L.D), (k, logB 1 J.L), (j, jB 1 k J.z J.r)]
/-- The journal that 'Format' makes, where it does. -/
def jNew (D : R08Disk) (z : Int) (c : List Int) : JourS := jCom ⟨openL D (2 * z) D.Base.length 0, z, false⟩ c
section
set_option linter.unusedSimpArgs false
set_option linter.unusedVariables false
set_option maxRecDepth 20000
attribute [local irreducible] vcOps vcCode vcA vcSch Wc
set_option maxHeartbeats 8000000
attribute [local push_cast] slWrite_len sing_getD
theorem jFormat_fn (D : R08Disk) (z : Int) (c : List Int) (h : 1 ≤ z ∧ z ≤ 255 ∧ 2 * z < D.Base.length) (hst : 1 ≤ (openL D (2 * z) D.Base.length 0).st ∧ (openL D (2 * z) D.Base.length 0).st ≤ 1152921504606846977) (hc0 : c.length ≤ 12288) (hq : D.Queue.length ≤ 900000)
    (hw : (slWrite D 0 z (numB ((openL D (2 * z) D.Base.length 0).st - 1).toNat ++ c)).2.2 = 0) :
    Spec Cx.P 67 [.l (.ptr 1 [] 0), .l (.int .i64 z), .l (.dat (.slice (.int .u8)) c)] [(1, .obj DiskO D)] (tvL [.ptr 19 [] 0, .int .i64 0]) (jMj 4 19 (jNew D z c)) := by
  have hr : jrightB D z = true := jrightB_iff.2 h
  unfold jNew
  refine Spec.go2 (E := Cx.env) (fn := Try.f67) (res := [_, _]) _ (Opens.refl _) Try.func67 isfn67 rfl rfl (by simp [idsV, SV.ids, LV.ids]) (by simp [idsM]) (by kernel_rfl) rfl ?_
  intro hf
  try push_cast at hf
  intro _
  simp only [mmD, parSl, idsM, List.map_cons, List.map_nil, List.cons_append, List.nil_append]
  repeat' (first
    | (intro (K' : KT) hK'; push_cast; (repeat' refine And.intro ?_ ?_); all_goals (first | (apply hK'; clear hK' K') | (refine ⟨trivial, trivial, ?_⟩; apply hK'; clear hK' K') | (intro hb; (try push_cast at hb); all_goals (intros; apply hK'; clear hK' K')) | ((first | refine call_1 jRight_con (fun _ _ => rfl) ?_ | refine call_J0 4 ?_ | refine call_JN jCom_con 4 (fun _ _ => rfl) ?_); push_cast; (repeat' refine And.intro ?_ ?_); all_goals (first | (apply hK'; clear hK' K') | (intros; apply hK'; clear hK' K') | (clear hK' K'; first | omega | skip))) | (clear hK' K'; first | omega | skip)))
    | apply go_seq | apply go_region | apply go_skip | apply go_exit | apply go_ret
    | apply seqK_n | apply seqK_x | apply seqK_r | apply regK_go | apply finK_n | apply finK_r
    | (refine vres_go ?_; push_cast) | apply ops_nil | refine ops_in (w_i64 _ (by omega) (by omega)) ?_ | refine ops_in (w_u8 _ (by omega) (by omega)) ?_ | refine ops_in (w_u32 _ (by omega) (by omega)) ?_ | refine ops_in (w_u64 _ (by omega) (by omega)) ?_
    | refine ops_put rfl rfl ?_ | refine ops_no rfl rfl ?_
    | (refine go_cond (by push_cast; first | done | rfl) ?_ ?_ <;> intro hc <;> (try push_cast at hc))
    | refine ops_gt rfl rfl rfl (by push_cast; first | done | rfl) ?_
    | refine ops_gb rfl rfl rfl (by push_cast; first | done | rfl) ?_ ?_
    | (intro (hc : (_ : Prop)); (try push_cast at hc)) | intro (hc : R08Item) | intro (hc : Int) | intro (hc : Nat))
  · exfalso; rw [hr] at hc; simp at hc
  · have eL : (⟨D, (openL D (2 * z) D.Base.length 0).a, (openL D (2 * z) D.Base.length 0).e, (openL D (2 * z) D.Base.length 0).st⟩ : LogS) = openL D (2 * z) D.Base.length 0 := rfl
    rw [eL]
    have hz : (jCom ⟨openL D (2 * z) D.Base.length 0, z, false⟩ c).z = z := rfl
    generalize jCom ⟨openL D (2 * z) D.Base.length 0, z, false⟩ c = J at *
    unfold jMj logB jB
    rw [hz]
    (refine Fin2.fin ⟨[(1, .obj DiskO J.L.D), (4, .segs [.ptr 1 [] 0, .int .i64 J.L.a, .int .i64 J.L.e, .int .u64 J.L.st]), (19, .segs [.ptr 1 [] 0, .int .i64 z, .ptr 4 [] 0, .bool J.r])], ?_, ?_, ?_, Closes.refl _, ?_⟩
     · push_cast
     · push_cast
     · simp [idsM]
     · simp [tvL, TV.ids, SV.ids, LV.ids, idsV])
/-- The journal that 'Open' makes, where all is as it was written. -/
theorem jOpn_fn (D : R08Disk) (z : Int) (n : Nat) (c : List Int) (g : Int) (h : 1 ≤ z ∧ z ≤ 255 ∧ 2 * z < D.Base.length) (hn : n ≤ 1152921504606846976) (hc0 : c.length ≤ 900000) (hs : slRead D 0 z = (numB n ++ c, g, 0)) :
    Spec Cx.P 68 [.l (.ptr 1 [] 0), .l (.int .i64 z)] [(1, .obj DiskO D)] (tvL [.ptr 58 [] 0, .dat (.slice (.int .u8)) c, .dat (.slice (.slice (.int .u8))) (recsN D (2 * z) D.Base.length n).1, .int .i64 0]) (jMj 4 58 ⟨openL D (2 * z) D.Base.length n, z, false⟩) := by
  have hr : jrightB D z = true := jrightB_iff.2 h
  have hnl := numB_len (n := n) (by omega)
  have hn9 : n < 128 ^ 9 := by have : (128 : Nat) ^ 9 = 2 ^ 63 := by decide
                               omega
  have happ : (numB n ++ c).length = (numB n).length + c.length := List.length_append
  have hdrop : List.drop (((numB n).length : Int) + c.length - c.length).toNat (List.take (((numB n).length : Int) + c.length).toNat (numB n ++ c)) = c := by
    rw [List.take_of_length_le (by rw [happ]; omega)]
    have : (((numB n).length : Int) + c.length - c.length).toNat = (numB n).length := by omega
    rw [this, List.drop_left]
  refine Spec.go2 (E := Cx.env) (fn := Try.f68) (res := [_, _, _, _]) _ (Opens.refl _) Try.func68 isfn68 rfl rfl (by simp [idsV, SV.ids, LV.ids]) (by simp [idsM]) (by kernel_rfl) rfl ?_
  intro hf
  try push_cast at hf
  intro _
  simp only [mmD, parSl, idsM, List.map_cons, List.map_nil, List.cons_append, List.nil_append]
  repeat' (first
    | (intro (K' : KT) hK'; push_cast; (repeat' refine And.intro ?_ ?_); all_goals (first | (apply hK'; clear hK' K') | (refine ⟨trivial, trivial, ?_⟩; apply hK'; clear hK' K') | (intro hb; (try push_cast at hb); all_goals (intros; apply hK'; clear hK' K')) | ((first | refine call_1 jRight_con (fun _ _ => rfl) ?_ | refine call_1 slRead_con (fun _ _ => rfl) ?_); push_cast; (repeat' refine And.intro ?_ ?_); all_goals (first | (apply hK'; clear hK' K') | (intros; apply hK'; clear hK' K') | (clear hK' K'; first | omega | skip))) | (clear hK' K'; first | omega | skip)))
    | apply go_seq | refine go_region_stop (id := 3) ?_ | apply go_region | apply go_skip | apply go_exit | apply go_ret
    | apply seqK_n | apply seqK_x | apply seqK_r | apply regK_go | apply finK_n | apply finK_r
    | (refine vres_go ?_; push_cast) | apply ops_nil | refine ops_in (w_i64 _ (by omega) (by omega)) ?_ | refine ops_in (w_u8 _ (by omega) (by omega)) ?_ | refine ops_in (w_u32 _ (by omega) (by omega)) ?_ | refine ops_in (w_u64 _ (by omega) (by omega)) ?_
    | refine ops_put rfl rfl ?_ | refine ops_no rfl rfl ?_
    | (refine go_cond (by push_cast; first | done | rfl) ?_ ?_ <;> intro hc <;> (try push_cast at hc))
    | refine ops_gt rfl rfl rfl (by push_cast; first | done | rfl) ?_
    | refine ops_gb rfl rfl rfl (by push_cast; first | done | rfl) ?_ ?_
    | (intro (hc : (_ : Prop)); (try push_cast at hc)) | intro (hc : R08Item) | intro (hc : Int) | intro (hc : Nat))
  · exfalso; rw [hr] at hc; simp at hc
  · rw [hs]
    apply regKS_go
    push_cast
    repeat' (first
    | (intro (K' : KT) hK'; push_cast; (repeat' refine And.intro ?_ ?_); all_goals (first | (apply hK'; clear hK' K') | (refine ⟨trivial, trivial, ?_⟩; apply hK'; clear hK' K') | (intro hb; (try push_cast at hb); all_goals (intros; apply hK'; clear hK' K')) | ((first | refine call_Rd 31 ?_ | refine call_RN n c hn9 rfl ?_ | refine call_RL c rfl ?_ | refine call_PN 46 ?_ | refine call_J0 4 ?_); push_cast; (repeat' refine And.intro ?_ ?_); all_goals (first | (apply hK'; clear hK' K') | (intros; apply hK'; clear hK' K') | (clear hK' K'; first | omega | skip))) | (clear hK' K'; first | omega | skip)))
    | apply go_seq | apply go_region | apply go_skip | apply go_exit | apply go_ret
    | apply seqK_n | apply seqK_x | apply seqK_r | apply regK_go | apply finK_n | apply finK_r
    | (refine vres_go ?_; push_cast) | apply ops_nil | refine ops_in (w_i64 _ (by omega) (by omega)) ?_ | refine ops_in (w_u8 _ (by omega) (by omega)) ?_ | refine ops_in (w_u32 _ (by omega) (by omega)) ?_ | refine ops_in (w_u64 _ (by omega) (by omega)) ?_
    | refine ops_put rfl rfl ?_ | refine ops_no rfl rfl ?_
    | (refine go_cond (by push_cast; first | done | rfl) ?_ ?_ <;> intro hc <;> (try push_cast at hc))
    | refine ops_gt rfl rfl rfl (by push_cast; first | done | rfl) ?_
    | refine ops_gb rfl rfl rfl (by push_cast; first | done | rfl) ?_ ?_
    | (intro (hc : (_ : Prop)); (try push_cast at hc)) | intro (hc : R08Item) | intro (hc : Int) | intro (hc : Nat))
    · exfalso
      rw [hdrop, w_i64 _ (by omega) (by omega)] at hc
      simp at hc
    · simp only [hdrop]
      generalize (recsN D (2 * z) D.Base.length n).1 = rs
      have hz : (openL D (2 * z) D.Base.length n).D = D := rfl
      generalize openL D (2 * z) D.Base.length n = L at *
      unfold jMj logB jB
      simp only [hz]
      (refine Fin2.fin ⟨[(1, .obj DiskO D), (4, .segs [.ptr 1 [] 0, .int .i64 L.a, .int .i64 L.e, .int .u64 L.st]), (58, .segs [.ptr 1 [] 0, .int .i64 z, .ptr 4 [] 0, .bool false])], ?_, ?_, ?_, Closes.refl _, ?_⟩
       · push_cast
       · push_cast
       · simp [idsM]
       · simp [tvL, TV.ids, SV.ids, LV.ids, idsV])
    · exfalso; omega
end
/-- 'Format' that succeeds, as a call: journal and log are named. -/
def conFo (nm nl : Nat) (vs0 : List SV) (s : SymSt) (K : KT) : Prop := match vs0 with
  | .l (.ptr d [] 0) :: rest => vFrz2 (ownsV rest) s rest fun s' rest' => (match getM s'.mem d with
    | some (@Box.obj τ O' D) => d ≠ nm ∧ d ≠ nl ∧ nm ≠ nl ∧ s'.room nm ∧ s'.room nl ∧ ∃ h : τ = R08Disk, HEq O' DiskO ∧ asArgs (.pair (.int .i64) (.pair (.slice (.int .u8)) .unit)) rest' fun x =>
        (1 ≤ x.1 ∧ x.1 ≤ 255 ∧ 2 * x.1 < (cast h D).Base.length) ∧ (1 ≤ (openL (cast h D) (2 * x.1) (cast h D).Base.length 0).st ∧ (openL (cast h D) (2 * x.1) (cast h D).Base.length 0).st ≤ 1152921504606846977) ∧ x.2.1.length ≤ 12288 ∧ (cast h D).Queue.length ≤ 900000 ∧
        (slWrite (cast h D) 0 x.1 (numB ((openL (cast h D) (2 * x.1) (cast h D).Base.length 0).st - 1).toNat ++ x.2.1)).2.2 = 0 ∧
        K (.tup [.l (.ptr nm [] 0), .l (.int .i64 0)]) (s'.back [d] [nl, nm] [(d, .obj DiskO (jNew (cast h D) x.1 x.2.1).L.D), (nl, logB d (jNew (cast h D) x.1 x.2.1).L), (nm, jB d nl x.1 true)])
    | _ => False)
  | _ => False
theorem call_Fo (nm nl : Nat) {vs0 : List SV} {s : SymSt} {K : KT} (hc : conFo nm nl vs0 s K) : Wc Cx.P 67 vs0 s K := by
  refine ⟨isfn67, ?_⟩
  intro R G γ a w vs hs hv
  unfold conFo at hc
  split at hc
  · rename_i d rest
    obtain ⟨v0, vs0, rfl, hv0, hvr⟩ := hv
    obtain ⟨G1, s1, as1, hg1, hc, hs1, hv1⟩ := vFrz2_spec hc hs hvr
    split at hc
    · rename_i τ O' D hgd
      obtain ⟨n1, n2, n3, hr1, hr2, eq, hO, hc⟩ := hc
      subst eq
      have hO := eq_of_heq hO
      subst hO
      simp only [cast_eq] at hc
      obtain ⟨x, ⟨h1, h2, h3, h4, h5, hK⟩, hx⟩ := asArgs_rel (.pair (.int .i64) (.pair (.slice (.int .u8)) .unit)) hc hv1
      have hv0' : (SV.l (.ptr d [] 0)).rel G1 γ v0 := SV.rel_mono hg1 hv0
      have hw : Wc Cx.P 67 (.l (.ptr d [] 0) :: (Rep.argL (.pair (.int .i64) (.pair (.slice (.int .u8)) .unit)) x).map .l) s1 K := by
        refine Wc_spec (jFormat_fn D x.1 x.2.1 h1 h2 h3 h4 h5) (fun i => if i = 1 then d else if i = 4 then nl else nm) [nl, nm] (by simp [idsM]) (by simp [idsM]) ?_ ?_ ?_ ?_ ?_ ?_ ?_ ?_
        · simp only [jMj, idsM, List.map_cons, List.map_nil, List.mem_cons, List.not_mem_nil, or_false]
          rintro i (rfl | rfl | rfl) j (rfl | rfl | rfl) <;> simp [n1, n2, n3, Ne.symm n1, Ne.symm n2, Ne.symm n3]
        · simp only [jMj, idsM, List.map_cons, List.map_nil, List.mem_cons, List.not_mem_nil, or_false]
          rintro j (rfl | rfl | rfl) h <;> simp at h ⊢
        · intro i hi
          have q1 : s1.pins.contains nm = false := hr1
          have q2 : s1.pins.contains nl = false := hr2
          simp only [List.mem_cons, List.not_mem_nil, or_false] at hi
          rcases hi with rfl | rfl
          · simpa using q2
          · simpa using q1
        · simp [tvL, TV.ids, idsV, SV.ids, LV.ids, jMj, idsM]
        · intro b hb i hi
          simp only [jMj, List.mem_cons, List.not_mem_nil, or_false] at hb
          rcases hb with rfl | rfl | rfl
          · simp [Box.ids] at hi
          · simp [logB, Box.ids, idsL, LV.ids] at hi
            subst hi
            simp [jMj, idsM]
          · simp [jB, Box.ids, idsL, LV.ids] at hi
            rcases hi with rfl | rfl <;> simp [jMj, idsM]
        · intro b hb
          simp only [List.mem_cons, List.not_mem_nil, or_false] at hb
          subst hb
          exact hgd
        · intro G γ us h
          simp only [List.map_cons, List.map_nil]
          have e : Rep.argL (.pair (.int .i64) (.pair (.slice (.int .u8)) .unit)) x = [.int .i64 x.1, .dat (.slice (.int .u8)) x.2.1] := rfl
          rw [e] at h
          simpa [SV.ren, LV.ren] using h
        · have e9 : renM (fun i => if i = 1 then d else if i = 4 then nl else nm) (jMj 4 19 (jNew D x.1 x.2.1)) = [(d, .obj DiskO (jNew D x.1 x.2.1).L.D), (nl, logB d (jNew D x.1 x.2.1).L), (nm, jB d nl x.1 true)] := by
            have q : (jNew D x.1 x.2.1).z = x.1 := rfl
            have q2 : (jNew D x.1 x.2.1).r = true := rfl
            simp [jMj, renM, Box.ren, LV.ren, logB, jB, q, q2]
          rw [e9]
          simpa [tvL, TV.ren, SV.ren, LV.ren, idsM] using hK
      refine (hw.2 R G1 γ _ w _ hs1 ⟨v0, vs0, rfl, hv0', hx⟩).mono ?_
      rintro e' w' ⟨v, rfl, G2, γ2, tv, s2, hg2, hK2, hrel, hs2⟩
      exact ⟨v, rfl, G2, γ2, tv, s2, Hp.le_trans hg1 hg2, hK2, hrel, hs2⟩
    · exact hc.elim
  · exact hc.elim
/-- 'Open' of a journal whose slot holds what was written, as a call: journal and log are named. -/
theorem call_Jo (nm nl : Nat) (n : Nat) (c : List Int) (g : Int) {d : Nat} {D : R08Disk} {z : Int} {s : SymSt} {K : KT} (hg : getM s.mem d = some (.obj DiskO D)) (hs : slRead D 0 z = (numB n ++ c, g, 0))
    (hc : (1 ≤ z ∧ z ≤ 255 ∧ 2 * z < D.Base.length) ∧ n ≤ 1152921504606846976 ∧ c.length ≤ 900000 ∧ (¬ d = nm ∧ ¬ d = nl ∧ ¬ nm = nl) ∧ s.room nm ∧ s.room nl ∧
      K (.tup [.l (.ptr nm [] 0), .l (.dat (.slice (.int .u8)) c), .l (.dat (.slice (.slice (.int .u8))) (recsN D (2 * z) D.Base.length n).1), .l (.int .i64 0)])
        (s.back [d] [nl, nm] [(d, .obj DiskO D), (nl, logB d (openL D (2 * z) D.Base.length n)), (nm, jB d nl z false)])) :
    Wc Cx.P 68 [.l (.ptr d [] 0), .l (.int .i64 z)] s K := by
  obtain ⟨h1, h2, h3, ⟨n1, n2, n3⟩, hr1, hr2, hK⟩ := hc
  have n1 : d ≠ nm := n1
  have n2 : d ≠ nl := n2
  have n3 : nm ≠ nl := n3
  refine Wc_spec (jOpn_fn D z n c g h1 h2 h3 hs) (fun i => if i = 1 then d else if i = 4 then nl else nm) [nl, nm] (by simp [idsM]) (by simp [idsM]) ?_ ?_ ?_ ?_ ?_ ?_ ?_ ?_
  · simp only [jMj, idsM, List.map_cons, List.map_nil, List.mem_cons, List.not_mem_nil, or_false]
    rintro i (rfl | rfl | rfl) j (rfl | rfl | rfl) <;> simp [n1, n2, n3, Ne.symm n1, Ne.symm n2, Ne.symm n3]
  · simp only [jMj, idsM, List.map_cons, List.map_nil, List.mem_cons, List.not_mem_nil, or_false]
    rintro j (rfl | rfl | rfl) h <;> simp at h ⊢
  · intro i hi
    have q1 : s.pins.contains nm = false := hr1
    have q2 : s.pins.contains nl = false := hr2
    simp only [List.mem_cons, List.not_mem_nil, or_false] at hi
    rcases hi with rfl | rfl
    · simpa using q2
    · simpa using q1
  · simp [tvL, TV.ids, idsV, SV.ids, LV.ids, jMj, idsM]
  · intro b hb i hi
    simp only [jMj, List.mem_cons, List.not_mem_nil, or_false] at hb
    rcases hb with rfl | rfl | rfl
    · simp [Box.ids] at hi
    · simp [logB, Box.ids, idsL, LV.ids] at hi
      subst hi
      simp [jMj, idsM]
    · simp [jB, Box.ids, idsL, LV.ids] at hi
      rcases hi with rfl | rfl <;> simp [jMj, idsM]
  · intro b hb
    simp only [List.mem_cons, List.not_mem_nil, or_false] at hb
    subst hb
    exact hg
  · intro G γ us h
    simpa [SV.ren, LV.ren] using h
  · have e9 : renM (fun i => if i = 1 then d else if i = 4 then nl else nm) (jMj 4 58 ⟨openL D (2 * z) D.Base.length n, z, false⟩) = [(d, .obj DiskO D), (nl, logB d (openL D (2 * z) D.Base.length n)), (nm, jB d nl z false)] := by
      simp [jMj, renM, Box.ren, LV.ren, logB, jB, openL]
    rw [e9]
    simpa [tvL, TV.ren, SV.ren, LV.ren, idsM] using hK
attribute [push_cast] conFo
end Go.Proofs.Ytnmjcdlgfimnaaa
