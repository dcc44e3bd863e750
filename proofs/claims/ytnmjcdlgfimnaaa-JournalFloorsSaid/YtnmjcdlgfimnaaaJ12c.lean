/- Chapter 12: a journal: how it lies in memory, how it is handed on; its small methods. -/
import Derived.Test.YtnmjcdlgfimnaaaJ12b
namespace Go.Proofs.Ytnmjcdlgfimnaaa
/-- A journal, as it stands in memory: its log (with the disk), how many sectors each place has, whether it is ready. -/
structure JourS where
  L : LogS
  z : Int
  r : Bool
def jB (d l : Nat) (z : Int) (r : Bool) : Box := .segs [.ptr d [] 0, .int .i64 z, .ptr l [] 0, .bool r]
/-- A journal in memory: the disk is 1, the journal 3, the log k. -/
def jM (k : Nat) (J : JourS) : List (Nat × Box) := [(1, .obj DiskO J.L.D), (k, logB 1 J.L), (3, jB 1 k J.z J.r)]
theorem jM_ids (k : Nat) (J : JourS) : idsM (jM k J) = [1, k, 3] := rfl
theorem jM_clb (k : Nat) (J : JourS) : ∀ e ∈ jM k J, ∀ i ∈ e.2.ids, i ∈ idsM (jM k J) := by
  intro e he i hi
  simp only [jM, List.mem_cons, List.not_mem_nil, or_false] at he
  rcases he with rfl | rfl | rfl
  · simp [Box.ids] at hi
  · simp [logB, Box.ids, idsL, LV.ids] at hi
    subst hi
    simp [jM, idsM]
  · simp [jB, Box.ids, idsL, LV.ids] at hi
    rcases hi with rfl | rfl <;> simp [jM, idsM]
structure ConJ (f : FuncId) {α : Type} (A : Rep α) (pre : JourS → α → Prop) (r : JourS → α → List LV) (u : JourS → α → JourS) : Prop where
  fn : IsFn Cx.P f
  z : ∀ J x, (u J x).z = J.z
  h : ∀ J x, pre J x → Spec Cx.P f (.l (.ptr 3 [] 0) :: (A.argL x).map .l) (jM 2 J) (tvL (r J x)) (jM 2 (u J x))
def conJ {α : Type} (A : Rep α) (pre : JourS → α → Prop) (r : JourS → α → List LV) (u : JourS → α → JourS) (vs0 : List SV) (s : SymSt) (K : KT) : Prop := match vs0 with
  | .l (.ptr id [] 0) :: rest => vFrz2 (ownsV rest) s rest fun s' rest' => (match getM s'.mem id with
    | some (.segs [.ptr d [] 0, .int .i64 z, .ptr l [] 0, .bool b]) => (match getM s'.mem l with
      | some (.segs [.ptr d2 [] 0, .int .i64 a, .int .i64 e, .int .u64 st]) => (match getM s'.mem d with
        | some (@Box.obj τ O' D) => d2 = d ∧ d ≠ l ∧ d ≠ id ∧ l ≠ id ∧ ∃ h : τ = R08Disk, HEq O' DiskO ∧ asArgs A rest' fun x => pre ⟨⟨cast h D, a, e, st⟩, z, b⟩ x ∧
            K (tvL (r ⟨⟨cast h D, a, e, st⟩, z, b⟩ x)) (s'.back [d, l, id] [] [(d, .obj DiskO (u ⟨⟨cast h D, a, e, st⟩, z, b⟩ x).L.D), (l, logB d (u ⟨⟨cast h D, a, e, st⟩, z, b⟩ x).L), (id, jB d l z (u ⟨⟨cast h D, a, e, st⟩, z, b⟩ x).r)])
        | _ => False)
      | _ => False)
    | _ => False)
  | _ => False
theorem j_inj {d l id k : Nat} (n1 : d ≠ l) (n2 : d ≠ id) (n3 : l ≠ id) (hk : k = 2 ∨ k = 4) : ∀ i ∈ [1, k, 3], ∀ j ∈ [1, k, 3], (if i = 1 then d else if i = 3 then id else l) = (if j = 1 then d else if j = 3 then id else l) → i = j := by
  rcases hk with rfl | rfl <;>
  · simp only [List.mem_cons, List.not_mem_nil, or_false]
    rintro i (rfl | rfl | rfl) j (rfl | rfl | rfl) <;> simp [n1, n2, n3, Ne.symm n1, Ne.symm n2, Ne.symm n3]
theorem call_J {f : FuncId} {α : Type} {A : Rep α} {pre : JourS → α → Prop} {r : JourS → α → List LV} {u : JourS → α → JourS} (c : ConJ f A pre r u) (hr : ∀ J x, (r J x).all LV.isData = true) {vs0 : List SV} {s : SymSt} {K : KT}
    (hc : conJ A pre r u vs0 s K) : Wc Cx.P f vs0 s K := by
  refine ⟨c.fn, ?_⟩
  intro R G γ a w vs hs hv
  unfold conJ at hc
  split at hc
  · rename_i id rest
    obtain ⟨v0, vs0, rfl, hv0, hvr⟩ := hv
    obtain ⟨G1, s1, as1, hg1, hc, hs1, hv1⟩ := vFrz2_spec hc hs hvr
    split at hc
    · rename_i d z l b hgj
      split at hc
      · rename_i d2 la e st hgl
        split at hc
        · rename_i τ O' D hgd
          obtain ⟨hd2, n1, n2, n3, eq, hO, hc⟩ := hc
          subst eq
          subst hd2
          have hO := eq_of_heq hO
          subst hO
          simp only [cast_eq] at hc
          obtain ⟨x, ⟨hpre, hK⟩, hx⟩ := asArgs_rel A hc hv1
          have hsp := c.h ⟨⟨D, la, e, st⟩, z, b⟩ x hpre
          have hzz := c.z ⟨⟨D, la, e, st⟩, z, b⟩ x
          have hv0' : (SV.l (.ptr id [] 0)).rel G1 γ v0 := SV.rel_mono hg1 hv0
          have hw : Wc Cx.P f (.l (.ptr id [] 0) :: (A.argL x).map .l) s1 K := by
            refine Wc_spec hsp (fun i => if i = 1 then d2 else if i = 3 then id else l) [] (by rw [jM_ids]; decide) (by rw [jM_ids]; exact j_inj n1 n2 n3 (.inl rfl)) (by rw [jM_ids]; exact j_inj n1 n2 n3 (.inl rfl)) ?_ (by simp) ?_ (jM_clb _ _) ?_ ?_ ?_
            · rw [jM_ids, jM_ids]
              intro j hj hn
              exact absurd hj hn
            · intro i hi
              rw [tvL_ids (data_noIds (hr _ x))] at hi
              simp at hi
            · intro e' he
              simp only [jM, List.mem_cons, List.not_mem_nil, or_false] at he
              rcases he with rfl | rfl | rfl
              · exact hgd
              · exact hgl
              · exact hgj
            · intro G γ us hu
              simp only [List.map_cons]
              rw [map_ren_data (A.argL_data x)]
              exact hu
            · rw [tvL_ren (hr _ x)]
              have e9 : renM (fun i => if i = 1 then d2 else if i = 3 then id else l) (jM 2 (u ⟨⟨D, la, e, st⟩, z, b⟩ x)) =
                  [(d2, .obj DiskO (u ⟨⟨D, la, e, st⟩, z, b⟩ x).L.D), (l, logB d2 (u ⟨⟨D, la, e, st⟩, z, b⟩ x).L), (id, jB d2 l z (u ⟨⟨D, la, e, st⟩, z, b⟩ x).r)] := by
                simp [jM, renM, Box.ren, LV.ren, logB, jB, hzz]
              rw [e9]
              exact hK
          refine (hw.2 R G1 γ _ w _ hs1 ⟨v0, vs0, rfl, hv0', hx⟩).mono ?_
          rintro e' w' ⟨v, rfl, G2, γ2, tv, s2, hg2, hK2, hrel, hs2⟩
          exact ⟨v, rfl, G2, γ2, tv, s2, Hp.le_trans hg1 hg2, hK2, hrel, hs2⟩
        · exact hc.elim
      · exact hc.elim
    · exact hc.elim
  · exact hc.elim
theorem j_inj2 {d l id nm : Nat} (n1 : d ≠ l) (n2 : d ≠ id) (n3 : l ≠ id) : ∀ i ∈ [1, 2, 3], ∀ j ∈ [1, 2, 3], (if i = 1 then d else if i = 3 then id else if i = 4 then nm else l) = (if j = 1 then d else if j = 3 then id else if j = 4 then nm else l) → i = j := by
  simp only [List.mem_cons, List.not_mem_nil, or_false]
  rintro i (rfl | rfl | rfl) j (rfl | rfl | rfl) <;> simp [n1, n2, n3, Ne.symm n1, Ne.symm n2, Ne.symm n3]
theorem j_inj4 {d l id nm : Nat} (n1 : d ≠ nm) (n2 : d ≠ id) (n3 : nm ≠ id) : ∀ i ∈ [1, 4, 3], ∀ j ∈ [1, 4, 3], (if i = 1 then d else if i = 3 then id else if i = 4 then nm else l) = (if j = 1 then d else if j = 3 then id else if j = 4 then nm else l) → i = j := by
  simp only [List.mem_cons, List.not_mem_nil, or_false]
  rintro i (rfl | rfl | rfl) j (rfl | rfl | rfl) <;> simp [n1, n2, n3, Ne.symm n1, Ne.symm n2, Ne.symm n3]
structure ConJN (f : FuncId) {α : Type} (A : Rep α) (pre : JourS → α → Prop) (r : JourS → α → List LV) (u : JourS → α → JourS) : Prop where
  fn : IsFn Cx.P f
  z : ∀ J x, (u J x).z = J.z
  h : ∀ J x, pre J x → Spec Cx.P f (.l (.ptr 3 [] 0) :: (A.argL x).map .l) (jM 2 J) (tvL (r J x)) (jM 4 (u J x))
def conJN (nm : Nat) {α : Type} (A : Rep α) (pre : JourS → α → Prop) (r : JourS → α → List LV) (u : JourS → α → JourS) (vs0 : List SV) (s : SymSt) (K : KT) : Prop := match vs0 with
  | .l (.ptr id [] 0) :: rest => vFrz2 (ownsV rest) s rest fun s' rest' => (match getM s'.mem id with
    | some (.segs [.ptr d [] 0, .int .i64 z, .ptr l [] 0, .bool b]) => (match getM s'.mem l with
      | some (.segs [.ptr d2 [] 0, .int .i64 a, .int .i64 e, .int .u64 st]) => (match getM s'.mem d with
        | some (@Box.obj τ O' D) => d2 = d ∧ d ≠ l ∧ d ≠ id ∧ l ≠ id ∧ d ≠ nm ∧ nm ≠ id ∧ s'.room nm ∧ ∃ h : τ = R08Disk, HEq O' DiskO ∧ asArgs A rest' fun x => pre ⟨⟨cast h D, a, e, st⟩, z, b⟩ x ∧
            K (tvL (r ⟨⟨cast h D, a, e, st⟩, z, b⟩ x)) (s'.back [d, l, id] [nm] [(d, .obj DiskO (u ⟨⟨cast h D, a, e, st⟩, z, b⟩ x).L.D), (nm, logB d (u ⟨⟨cast h D, a, e, st⟩, z, b⟩ x).L), (id, jB d nm z (u ⟨⟨cast h D, a, e, st⟩, z, b⟩ x).r)])
        | _ => False)
      | _ => False)
    | _ => False)
  | _ => False
theorem call_JN {f : FuncId} {α : Type} {A : Rep α} {pre : JourS → α → Prop} {r : JourS → α → List LV} {u : JourS → α → JourS} (c : ConJN f A pre r u) (nm : Nat) (hr : ∀ J x, (r J x).all LV.isData = true) {vs0 : List SV} {s : SymSt} {K : KT}
    (hc : conJN nm A pre r u vs0 s K) : Wc Cx.P f vs0 s K := by
  refine ⟨c.fn, ?_⟩
  intro R G γ a w vs hs hv
  unfold conJN at hc
  split at hc
  · rename_i id rest
    obtain ⟨v0, vs0, rfl, hv0, hvr⟩ := hv
    obtain ⟨G1, s1, as1, hg1, hc, hs1, hv1⟩ := vFrz2_spec hc hs hvr
    split at hc
    · rename_i d z l b hgj
      split at hc
      · rename_i d2 la e st hgl
        split at hc
        · rename_i τ O' D hgd
          obtain ⟨hd2, n1, n2, n3, n4, n5, hroom, eq, hO, hc⟩ := hc
          subst eq
          subst hd2
          have hO := eq_of_heq hO
          subst hO
          simp only [cast_eq] at hc
          obtain ⟨x, ⟨hpre, hK⟩, hx⟩ := asArgs_rel A hc hv1
          have hsp := c.h ⟨⟨D, la, e, st⟩, z, b⟩ x hpre
          have hzz := c.z ⟨⟨D, la, e, st⟩, z, b⟩ x
          have hv0' : (SV.l (.ptr id [] 0)).rel G1 γ v0 := SV.rel_mono hg1 hv0
          have hw : Wc Cx.P f (.l (.ptr id [] 0) :: (A.argL x).map .l) s1 K := by
            refine Wc_spec hsp (fun i => if i = 1 then d2 else if i = 3 then id else if i = 4 then nm else l) [nm] (by rw [jM_ids]; decide) (by rw [jM_ids]; exact j_inj2 n1 n2 n3) (by rw [jM_ids]; exact j_inj4 n4 n2 n5) ?_ ?_ ?_ (jM_clb _ _) ?_ ?_ ?_
            · rw [jM_ids, jM_ids]
              intro j hj hn
              simp only [List.mem_cons, List.not_mem_nil, or_false, not_or] at hj hn
              rcases hj with rfl | rfl | rfl
              · exact absurd rfl hn.1
              · simp
              · exact absurd rfl hn.2.2
            · intro i hi
              simp only [List.mem_cons, List.not_mem_nil, or_false] at hi
              subst hi
              have : s1.pins.contains i = false := hroom
              simpa using this
            · intro i hi
              rw [tvL_ids (data_noIds (hr _ x))] at hi
              simp at hi
            · intro e' he
              simp only [jM, List.mem_cons, List.not_mem_nil, or_false] at he
              rcases he with rfl | rfl | rfl
              · exact hgd
              · exact hgl
              · exact hgj
            · intro G γ us hu
              simp only [List.map_cons]
              rw [map_ren_data (A.argL_data x)]
              exact hu
            · rw [tvL_ren (hr _ x)]
              have e9 : renM (fun i => if i = 1 then d2 else if i = 3 then id else if i = 4 then nm else l) (jM 4 (u ⟨⟨D, la, e, st⟩, z, b⟩ x)) =
                  [(d2, .obj DiskO (u ⟨⟨D, la, e, st⟩, z, b⟩ x).L.D), (nm, logB d2 (u ⟨⟨D, la, e, st⟩, z, b⟩ x).L), (id, jB d2 nm z (u ⟨⟨D, la, e, st⟩, z, b⟩ x).r)] := by
                simp [jM, renM, Box.ren, LV.ren, logB, jB, hzz]
              rw [e9]
              exact hK
          refine (hw.2 R G1 γ _ w _ hs1 ⟨v0, vs0, rfl, hv0', hx⟩).mono ?_
          rintro e' w' ⟨v, rfl, G2, γ2, tv, s2, hg2, hK2, hrel, hs2⟩
          exact ⟨v, rfl, G2, γ2, tv, s2, Hp.le_trans hg1 hg2, hK2, hrel, hs2⟩
        · exact hc.elim
      · exact hc.elim
    · exact hc.elim
  · exact hc.elim
attribute [push_cast] conJ conJN jB
section
set_option linter.unusedSimpArgs false
set_option linter.unusedVariables false
set_option maxRecDepth 20000
attribute [local irreducible] vcOps vcCode vcA vcSch Wc
set_option maxHeartbeats 8000000
def jMem (L : LogS) (z : Int) (r : Bool) : List (Nat × Box) := [(1, .obj DiskO L.D), (2, .segs [.ptr 1 [] 0, .int .i64 L.a, .int .i64 L.e, .int .u64 L.st]), (3, .segs [.ptr 1 [] 0, .int .i64 z, .ptr 2 [] 0, .bool r])]
theorem jReady_fn (J : JourS) : Spec Cx.P 72 [.l (.ptr 3 [] 0)] (jMem J.L J.z J.r) (tvL [.bool J.r]) (jMem J.L J.z J.r) := by
  unfold jMem
  refine Spec.go2 (E := Cx.env) (fn := Try.f72) (res := [_]) _ (Opens.refl _) Try.func72 isfn72 rfl rfl (by simp [idsV, SV.ids, LV.ids]) (by simp [idsM]) (by kernel_rfl) rfl ?_
  intro hf
  try push_cast at hf
  intro _
  simp only [mmD, parSl, idsM, List.map_cons, List.map_nil, List.cons_append, List.nil_append]
  repeat' (first
    | (intro (K' : KT) hK'; push_cast; (repeat' refine And.intro ?_ ?_); all_goals (first | (apply hK'; clear hK' K') | (refine ⟨trivial, trivial, ?_⟩; apply hK'; clear hK' K') | (intro hb; (try push_cast at hb); all_goals (intros; apply hK'; clear hK' K')) | (clear hK' K'; first | omega | skip)))
    | apply go_seq | apply go_region | apply go_skip | apply go_exit | apply go_ret
    | apply seqK_n | apply seqK_x | apply seqK_r | apply regK_go | apply finK_n | apply finK_r
    | (refine vres_go ?_; push_cast) | apply ops_nil | refine ops_in (w_i64 _ (by omega) (by omega)) ?_ | refine ops_in (w_u8 _ (by omega) (by omega)) ?_ | refine ops_in (w_u32 _ (by omega) (by omega)) ?_ | refine ops_in (w_u64 _ (by omega) (by omega)) ?_
    | refine ops_put rfl rfl ?_ | refine ops_no rfl rfl ?_
    | (refine go_cond (by push_cast; first | done | rfl) ?_ ?_ <;> intro hc <;> (try push_cast at hc))
    | refine ops_gt rfl rfl rfl (by push_cast; first | done | rfl) ?_
    | refine ops_gb rfl rfl rfl (by push_cast; first | done | rfl) ?_ ?_
    | (intro (hc : (_ : Prop)); (try push_cast at hc)) | intro (hc : R08Item) | intro (hc : Int) | intro (hc : Nat))
  (refine Fin2.fin ⟨[(1, .obj DiskO J.L.D), (2, .segs [.ptr 1 [] 0, .int .i64 J.L.a, .int .i64 J.L.e, .int .u64 J.L.st]), (3, .segs [.ptr 1 [] 0, .int .i64 J.z, .ptr 2 [] 0, .bool J.r])], ?_, ?_, ?_, Closes.refl _, ?_⟩
   · push_cast
   · push_cast
   · simp [idsM]
   · simp [tvL, TV.ids, SV.ids, LV.ids, idsV])
theorem jReady_con : ConJ 72 .unit (fun _ _ => True) (fun J _ => [.bool J.r]) (fun J _ => J) := ⟨isfn72, fun _ _ => rfl, fun J _ _ => jReady_fn J⟩
end
end Go.Proofs.Ytnmjcdlgfimnaaa
