/- Chapter 10: a log: a disk, and where the next record goes: how it is handed on. -/
import Derived.Test.YtnmjcdlgfimnaaaC10b
import Derived.Test.YtnmjcdlgfimnaaaB2
import Derived.Test.YtnmjcdlgfimnaaaS9i
import Derived.Test.YtnmjcdlgfimnaaaS9j
namespace Go.Proofs.Ytnmjcdlgfimnaaa
structure LogS where
 D : Qab
 a : Int
 e : Int
 st : Int
def logB (d : Nat) (L : LogS) : Box := .segs [.ptr d [] 0, .int .i64 L.a, .int .i64 L.e, .int .u64 L.st]
def logM (L : LogS) : List (Nat × Box) := [(1, .obj DiskO L.D), (2, logB 1 L)]
structure ConL (f : FuncId) {α : Type} (A : Rep α) (pre : LogS → α → Prop) (r : LogS → α → List LV) (u : LogS → α → LogS) : Prop where
 fn : Qcp Cx.P f
 h : ∀ L x, pre L x → Qcs Cx.P f (.l (.ptr 2 [] 0) :: (A.argL x).map .l) (logM L) (tvL (r L x)) (logM (u L x))
def conL {α : Type} (A : Rep α) (pre : LogS → α → Prop) (r : LogS → α → List LV) (u : LogS → α → LogS) (vs0 : List SV) (s : Qan) (K : KT) : Prop := match vs0 with
 | .l (.ptr id [] 0) :: rest => Qg7 (Qkl rest) s rest fun s' rest' => (match Qco s'.mem id with
  | some (.segs [.ptr d [] 0, .int .i64 a, .int .i64 e, .int .u64 st]) => (match Qco s'.mem d with
   | some (@Box.obj τ O' D) => d ≠ id ∧ ∃ h : τ = Qab, HEq O' DiskO ∧ Qdh A rest' fun x => pre ⟨cast h D, a, e, st⟩ x ∧
       K (tvL (r ⟨cast h D, a, e, st⟩ x)) (s'.back [d, id] [] [(d, .obj DiskO (u ⟨cast h D, a, e, st⟩ x).D), (id, logB d (u ⟨cast h D, a, e, st⟩ x))])
   | _ => False)
  | _ => False)
 | _ => False
theorem logM_ids (L : LogS) : Qao (logM L) = [1, 2] := rfl
theorem log_inj {d id : Nat} (hne : d ≠ id) : ∀ i ∈ [1, 2], ∀ j ∈ [1, 2], (if i = 1 then d else id) = (if j = 1 then d else id) → i = j := by
 simp only [List.mem_cons, List.not_mem_nil, or_false]
 rintro i (rfl | rfl) j (rfl | rfl) <;> simp [hne, Ne.symm hne]
theorem log_clb (L : LogS) : ∀ e ∈ logM L, ∀ i ∈ e.2.ids, i ∈ Qao (logM L) := by
 intro e he i hi
 simp only [logM, List.mem_cons, List.not_mem_nil, or_false] at he
 rcases he with rfl | rfl
 ·simp [Box.ids] at hi
 ·simp [logB, Box.ids, Qez, LV.ids] at hi
  subst hi
  simp [logM, Qao]
theorem call_L {f : FuncId} {α : Type} {A : Rep α} {pre : LogS → α → Prop} {r : LogS → α → List LV} {u : LogS → α → LogS} (c : ConL f A pre r u) (hr : ∀ L x, (r L x).all LV.isData = true) {vs0 : List SV} {s : Qan} {K : KT}
    (hc : conL A pre r u vs0 s K) : Wc Cx.P f vs0 s K := by
 refine ⟨c.fn, ?_⟩
 intro R G γ a w vs hs hv
 unfold conL at hc
 split at hc
 ·rename_i id rest
  obtain ⟨v0, vs0, rfl, hv0, hvr⟩ := hv
  obtain ⟨G1, s1, as1, hg1, hc, hs1, hv1⟩ := Qdc hc hs hvr
  split at hc
  ·rename_i d a e st hgl
   split at hc
   ·rename_i τ O' D hgd
    obtain ⟨hne, eq, hO, hc⟩ := hc
    subst eq
    have hO := eq_of_heq hO
    subst hO
    simp only [cast_eq] at hc
    obtain ⟨x, ⟨hpre, hK⟩, hx⟩ := Qcx A hc hv1
    have hsp := c.h ⟨D, a, e, st⟩ x hpre
    have hv0' : (SV.l (.ptr id [] 0)).rel G1 γ v0 := SV.rel_mono hg1 hv0
    have hw : Wc Cx.P f (.l (.ptr id [] 0) :: (A.argL x).map .l) s1 K := by
     refine Qde hsp (fun i => if i = 1 then d else id) [] (by rw [logM_ids]; decide) (by rw [logM_ids]; exact log_inj hne) (by rw [logM_ids]; exact log_inj hne) ?_ (by simp) ?_ (log_clb _) ?_ ?_ ?_
     ·rw [logM_ids, logM_ids]
      intro j hj hn
      exact absurd hj hn
     ·intro i hi
      rw [Qf9 (Qev (hr _ x))] at hi
      simp at hi
     ·intro e he
      simp only [logM, List.mem_cons, List.not_mem_nil, or_false] at he
      rcases he with rfl | rfl
      ·exact hgd
      ·exact hgl
     ·intro G γ us hu
      simp only [List.map_cons]
      rw [Qdf (A.argL_data x)]
      exact hu
     ·rw [Qjk (hr _ x)]
      exact hK
    refine (hw.2 R G1 γ _ w _ hs1 ⟨v0, vs0, rfl, hv0', hx⟩).mono ?_
    rintro e w' ⟨v, rfl, G2, γ2, tv, s2, hg2, hK2, hrel, hs2⟩
    exact ⟨v, rfl, G2, γ2, tv, s2, Hp.le_trans hg1 hg2, hK2, hrel, hs2⟩
   ·exact hc.elim
  ·exact hc.elim
 ·exact hc.elim
attribute [push_cast] conL logB
set_option linter.unusedSimpArgs false
set_option linter.unusedVariables false
set_option maxRecDepth 20000
attribute [local irreducible] Qb3 Qa9 vcA Qbp Wc
set_option maxHeartbeats 8000000
def needN (n : Int) : Int := if n < 0 ∨ 4096 < n then 0 else spanN (n + 4)
theorem logNeed_fn (n : Int) : Qck Cx.P 53 [.int .i64 n] [.int .i64 (needN n)] := by
 refine Qck.go2 (E := Cx.env) (fn := Try.f53) (res := [_]) Try.func53 Qus rfl rfl rfl (by kernel_rfl) rfl ?_
 push_cast
 try intro hf
 repeat' (first
 | (intro (K' : KT) hK'; push_cast; (repeat' refine And.intro ?_ ?_); all_goals (first | (apply hK'; clear hK' K') | (refine ⟨trivial, trivial, ?_⟩; apply hK'; clear hK' K') | (intro hb; (try push_cast at hb); all_goals (intros; apply hK'; clear hK' K')) | ((first | refine Qbi span_con (fun _ => rfl) ?_); push_cast; (repeat' refine And.intro ?_ ?_); all_goals (first | (apply hK'; clear hK' K') | (intros; apply hK'; clear hK' K') | (clear hK' K'; first | omega | skip))) | (clear hK' K'; first | omega | skip)))
 | apply Qar | apply Qac | apply Qah | apply Qaj | apply Qau
 | apply Qap | apply Qax | apply Qas | apply Qam | apply Qaz | apply Qay
 | (refine Qaf ?_; push_cast) | apply Qag | refine Qaa (Qa3 _ (by omega) (by omega)) ?_ | refine Qaa (Qb0 _ (by omega) (by omega)) ?_ | refine Qaa (Qba _ (by omega) (by omega)) ?_ | refine Qaa (Qa5 _ (by omega) (by omega)) ?_
 | refine Qai rfl rfl ?_ | refine Qat rfl rfl ?_
 | (refine Qak (by push_cast; first | done | rfl) ?_ ?_ <;> intro hc <;> (try push_cast at hc))
 | refine Qaw rfl rfl rfl (by push_cast; first | done | rfl) ?_
 | refine Qav rfl rfl rfl (by push_cast; first | done | rfl) ?_ ?_
 | (intro (hc : (_ : Prop)); (try push_cast at hc)) | intro (hc : Qad) | intro (hc : Int) | intro (hc : Nat))
 ·unfold needN
  rw [if_pos (.inr ‹_›)]
 ·unfold needN
  rw [if_neg (by omega)]
 ·unfold needN
  rw [if_pos (.inl ‹_›)]
theorem logNeed_con : Con Cx.P 53 (.pair (.int .i64) (.unit)) (fun x => (fun (n : Int) => True) x.1) (fun x => (fun (n : Int) => [.int .i64 (needN n)]) x.1) := ⟨Qus, fun x h => logNeed_fn x.1⟩
end Go.Proofs.Ytnmjcdlgfimnaaa
