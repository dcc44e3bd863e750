/- Chapter 10: a log is opened; its methods. -/
import Derived.Test.YtnmjcdlgfimnaaaC10d
import Derived.Test.YtnmjcdlgfimnaaaS9t
namespace Go.Proofs.Ytnmjcdlgfimnaaa
def openL (D : Qab) (k e fl : Int) : LogS := ⟨D, (recsN D k e fl).2, e, IntKind.u64.wrap (max fl (topN D k e).1 + 1)⟩
section
set_option linter.unusedSimpArgs false
set_option linter.unusedVariables false
set_option maxRecDepth 20000
attribute [local irreducible] Qb3 Qa9 vcA Qbp Wc
set_option maxHeartbeats 8000000
attribute [local push_cast] openL
theorem logOpen_fn (D : Qab) (k e fl : Int) (h1 : 0 ≤ k) (h2 : k ≤ e) (h3 : e ≤ D.Base.length) :
    Qcs Cx.P 50 [.l (.ptr 1 [] 0), .l (.int .i64 k), .l (.int .i64 e), .l (.int .u64 fl)] [(1, .obj DiskO D)] (tvL [.ptr 54 [] 0, .dat (.slice (.slice (.int .u8))) (recsN D k e fl).1, .int .i64 0]) [(1, .obj DiskO D), (54, logB 1 (openL D k e fl))] := by
 refine Spec_disk Quu fun hw hG => ?_
 have hbase := hw.many
 have htop := (sTop_ok (D := D) (e - k).toNat k 0 h1 (by omega)).1
 refine Qcs.go2 (E := Cx.env) (fn := Try.f50) (res := [_, _, _]) _ (Qc2.refl _) Try.func50 Quu rfl rfl (by simp [Qb1, SV.ids, LV.ids]) (by simp [Qao]) (by kernel_rfl) rfl ?_
 intro hf
 try push_cast at hf
 intro _
 repeat' (first
 | (intro (K' : KT) hK'; push_cast; (repeat' refine And.intro ?_ ?_); all_goals (first | (apply hK'; clear hK' K') | (refine ⟨trivial, trivial, ?_⟩; apply hK'; clear hK' K') | (intro hb; (try push_cast at hb); all_goals (intros; apply hK'; clear hK' K')) | ((first | refine Qbr Size_con (fun _ _ => rfl) ?_ | refine Qbr Top_con (fun _ _ => rfl) ?_ | refine Qbr records_con (fun _ _ => rfl) ?_); push_cast; (repeat' refine And.intro ?_ ?_); all_goals (first | (apply hK'; clear hK' K') | (intros; apply hK'; clear hK' K') | (clear hK' K'; first | omega | skip))) | (clear hK' K'; first | omega | skip)))
 | apply Qar | apply Qac | apply Qah | apply Qaj | apply Qau
 | apply Qap | apply Qax | apply Qas | apply Qam | apply Qaz | apply Qay
 | (refine Qaf ?_; push_cast) | apply Qag | refine Qaa (Qa3 _ (by omega) (by omega)) ?_ | refine Qaa (Qb0 _ (by omega) (by omega)) ?_ | refine Qaa (Qba _ (by omega) (by omega)) ?_ | refine Qaa (Qa5 _ (by omega) (by omega)) ?_
 | refine Qai rfl rfl ?_ | refine Qat rfl rfl ?_
 | (refine Qak (by push_cast; first | done | rfl) ?_ ?_ <;> intro hc <;> (try push_cast at hc))
 | refine Qaw rfl rfl rfl (by push_cast; first | done | rfl) ?_
 | refine Qav rfl rfl rfl (by push_cast; first | done | rfl) ?_ ?_
 | (intro (hc : (_ : Prop)); (try push_cast at hc)) | intro (hc : Qad) | intro (hc : Int) | intro (hc : Nat))
 ·exfalso; omega
 ·exfalso
  have : (topN D k e).2 = 0 := htop
  rw [this] at hc
  simp at hc
 ·(refine Qc9.fin ⟨[(1, .obj DiskO D), (54, .segs [.ptr 1 [] 0, .int .i64 (recsN D k e fl).2, .int .i64 e, .int .u64 (IntKind.u64.wrap (max fl (topN D k e).1 + 1))])], ?_, ?_, ?_, Qbb.refl _, ?_⟩
   ·push_cast
   ·push_cast
   ·simp [Qao]
   ·simp [tvL, TV.ids, SV.ids, LV.ids, Qb1])
 ·exfalso; omega
 ·exfalso; omega
end
def conO (id : Nat) (vs0 : List SV) (s : Qan) (K : KT) : Prop := match vs0 with
 | [.l (.ptr d [] 0), .l (.int .i64 k), .l (.int .i64 e), .l (.int .u64 fl)] => (match Qco s.mem d with
  | some (@Box.obj τ O' D) => d ≠ id ∧ s.room id ∧ ∃ h : τ = Qab, HEq O' DiskO ∧ 0 ≤ k ∧ k ≤ e ∧ e ≤ ((cast h D).Base.length : Int) ∧
      K (.tup [.l (.ptr id [] 0), .l (.dat (.slice (.slice (.int .u8))) (recsN (cast h D) k e fl).1), .l (.int .i64 0)]) (s.back [d] [id] [(d, .obj DiskO (cast h D)), (id, logB d (openL (cast h D) k e fl))])
  | _ => False)
 | _ => False
theorem call_O (id : Nat) {vs0 : List SV} {s : Qan} {K : KT} (hc : conO id vs0 s K) : Wc Cx.P 50 vs0 s K := by
 unfold conO at hc
 split at hc
 ·rename_i d k e fl
  split at hc
  ·rename_i τ O' D hgd
   obtain ⟨hne, hroom, eq, hO, h1, h2, h3, hK⟩ := hc
   subst eq
   have hO := eq_of_heq hO
   subst hO
   simp only [cast_eq] at h3 hK
   refine Qde (logOpen_fn D k e fl h1 h2 h3) (fun i => if i = 1 then d else id) [id] (by simp [Qao]) ?_ ?_ ?_ ?_ ?_ ?_ ?_ ?_ hK
   ·simp only [Qao, List.map_cons, List.map_nil, List.mem_cons, List.not_mem_nil, or_false]
    rintro i rfl j rfl _; rfl
   ·simp only [Qao, List.map_cons, List.map_nil, List.mem_cons, List.not_mem_nil, or_false]
    rintro i (rfl | rfl) j (rfl | rfl) <;> simp [hne, Ne.symm hne]
   ·simp only [Qao, List.map_cons, List.map_nil, List.mem_cons, List.not_mem_nil, or_false]
    rintro j (rfl | rfl) h <;> simp at h ⊢
   ·intro i hi
    simp only [List.mem_cons, List.not_mem_nil, or_false] at hi
    subst hi
    have : s.pins.contains i = false := hroom
    simpa using this
   ·simp [tvL, TV.ids, Qb1, SV.ids, LV.ids, Qao]
   ·intro b hb i hi
    simp only [List.mem_cons, List.not_mem_nil, or_false] at hb
    rcases hb with rfl | rfl
    ·simp [Box.ids] at hi
    ·simp [logB, Box.ids, Qez, LV.ids] at hi
     subst hi
     simp [Qao]
   ·intro b hb
    simp only [List.mem_cons, List.not_mem_nil, or_false] at hb
    subst hb
    exact hgd
   ·intro G γ us h
    simpa [SV.ren, LV.ren] using h
  ·exact hc.elim
 ·exact hc.elim
attribute [push_cast] conO
section
set_option linter.unusedSimpArgs false
set_option linter.unusedVariables false
set_option maxRecDepth 20000
attribute [local irreducible] Qb3 Qa9 vcA Qbp Wc
set_option maxHeartbeats 8000000
def logMem (L : LogS) : List (Nat × Box) := [(1, .obj DiskO L.D), (2, .segs [.ptr 1 [] 0, .int .i64 L.a, .int .i64 L.e, .int .u64 L.st])]
theorem logRoom_fn (L : LogS) (h : 0 ≤ L.a ∧ 0 ≤ L.e) : Qcs Cx.P 54 [.l (.ptr 2 [] 0)] (logMem L) (tvL [.int .i64 (L.e - L.a)]) (logMem L) := by
 unfold logMem
 refine Qcs.go2 (E := Cx.env) (fn := Try.f54) (res := [_]) _ (Qc2.refl _) Try.func54 Qte rfl rfl (by simp [Qb1, SV.ids, LV.ids]) (by simp [Qao]) (by kernel_rfl) rfl ?_
 intro hf
 try push_cast at hf
 intro _
 simp only [mmD, Qcu, Qao, List.map_cons, List.map_nil, List.cons_append, List.nil_append]
 repeat' (first
 | (intro (K' : KT) hK'; push_cast; (repeat' refine And.intro ?_ ?_); all_goals (first | (apply hK'; clear hK' K') | (refine ⟨trivial, trivial, ?_⟩; apply hK'; clear hK' K') | (intro hb; (try push_cast at hb); all_goals (intros; apply hK'; clear hK' K')) | (clear hK' K'; first | omega | skip)))
 | apply Qar | apply Qac | apply Qah | apply Qaj | apply Qau
 | apply Qap | apply Qax | apply Qas | apply Qam | apply Qaz | apply Qay
 | (refine Qaf ?_; push_cast) | apply Qag | refine Qaa (Qa3 _ (by omega) (by omega)) ?_ | refine Qaa (Qb0 _ (by omega) (by omega)) ?_ | refine Qaa (Qba _ (by omega) (by omega)) ?_ | refine Qaa (Qa5 _ (by omega) (by omega)) ?_
 | refine Qai rfl rfl ?_ | refine Qat rfl rfl ?_
 | (refine Qak (by push_cast; first | done | rfl) ?_ ?_ <;> intro hc <;> (try push_cast at hc))
 | refine Qaw rfl rfl rfl (by push_cast; first | done | rfl) ?_
 | refine Qav rfl rfl rfl (by push_cast; first | done | rfl) ?_ ?_
 | refine Qbf (id := 1) [0, 1, 2, 3, 4, 5, 6, 7, 8, 9] [] [2] (.done) wide (by kernel_rfl) ?_
 | apply Qby | apply Qbk | apply Qbn
 | refine Qbx rfl rfl rfl ?_ | refine Qbl rfl rfl rfl ?_
 | (refine Qbm rfl rfl rfl rfl ?_ ?_; rotate_left) | (refine Qbe rfl rfl rfl rfl ?_ ?_; rotate_left)
 | (refine Qbz rfl rfl rfl rfl ?_ ?_; rotate_left; focus (intro K' hK'; push_cast; (repeat' refine And.intro ?_ ?_); all_goals (first | (refine hK' _ _ _ _ _ (by push_cast) (by push_cast; first | done | rfl) ?_; clear hK' K') | (clear hK' K'; first | omega | skip))))
 | refine Qcc rfl rfl rfl rfl (by push_cast; first | done | rfl) ?_
 | refine Qcd rfl rfl rfl rfl (by push_cast; first | done | rfl) ?_ ?_
 | (intro (hc : (_ : Prop)); (try push_cast at hc)) | intro (hc : Qad) | intro (hc : Int) | intro (hc : Nat))
 rw [Qa3 _ (by omega) (by omega)]
 (refine Qc9.fin ⟨[(1, .obj DiskO L.D), (2, .segs [.ptr 1 [] 0, .int .i64 L.a, .int .i64 L.e, .int .u64 L.st])], ?_, ?_, ?_, Qbb.refl _, ?_⟩
  ·push_cast
  ·push_cast
  ·simp [Qao]
  ·simp [tvL, TV.ids, SV.ids, LV.ids, Qb1])
theorem logRoom_con : ConL 54 .unit (fun L _ => 0 ≤ L.a ∧ 0 ≤ L.e) (fun L _ => [.int .i64 (L.e - L.a)]) (fun L _ => L) := ⟨Qte, fun L _ h => logRoom_fn L h⟩
theorem logStamp_fn (L : LogS) : Qcs Cx.P 55 [.l (.ptr 2 [] 0)] (logMem L) (tvL [.int .u64 L.st]) (logMem L) := by
 unfold logMem
 refine Qcs.go2 (E := Cx.env) (fn := Try.f55) (res := [_]) _ (Qc2.refl _) Try.func55 Quh rfl rfl (by simp [Qb1, SV.ids, LV.ids]) (by simp [Qao]) (by kernel_rfl) rfl ?_
 intro hf
 try push_cast at hf
 intro _
 simp only [mmD, Qcu, Qao, List.map_cons, List.map_nil, List.cons_append, List.nil_append]
 repeat' (first
 | (intro (K' : KT) hK'; push_cast; (repeat' refine And.intro ?_ ?_); all_goals (first | (apply hK'; clear hK' K') | (refine ⟨trivial, trivial, ?_⟩; apply hK'; clear hK' K') | (intro hb; (try push_cast at hb); all_goals (intros; apply hK'; clear hK' K')) | (clear hK' K'; first | omega | skip)))
 | apply Qar | apply Qac | apply Qah | apply Qaj | apply Qau
 | apply Qap | apply Qax | apply Qas | apply Qam | apply Qaz | apply Qay
 | (refine Qaf ?_; push_cast) | apply Qag | refine Qaa (Qa3 _ (by omega) (by omega)) ?_ | refine Qaa (Qb0 _ (by omega) (by omega)) ?_ | refine Qaa (Qba _ (by omega) (by omega)) ?_ | refine Qaa (Qa5 _ (by omega) (by omega)) ?_
 | refine Qai rfl rfl ?_ | refine Qat rfl rfl ?_
 | (refine Qak (by push_cast; first | done | rfl) ?_ ?_ <;> intro hc <;> (try push_cast at hc))
 | refine Qaw rfl rfl rfl (by push_cast; first | done | rfl) ?_
 | refine Qav rfl rfl rfl (by push_cast; first | done | rfl) ?_ ?_
 | (intro (hc : (_ : Prop)); (try push_cast at hc)) | intro (hc : Qad) | intro (hc : Int) | intro (hc : Nat))
 (refine Qc9.fin ⟨[(1, .obj DiskO L.D), (2, .segs [.ptr 1 [] 0, .int .i64 L.a, .int .i64 L.e, .int .u64 L.st])], ?_, ?_, ?_, Qbb.refl _, ?_⟩
  ·push_cast
  ·push_cast
  ·simp [Qao]
  ·simp [tvL, TV.ids, SV.ids, LV.ids, Qb1])
theorem logStamp_con : ConL 55 .unit (fun _ _ => True) (fun L _ => [.int .u64 L.st]) (fun L _ => L) := ⟨Quh, fun L _ _ => logStamp_fn L⟩
end
def appN (L : LogS) (r : List Int) : LogS × Int :=
 if needN r.length = 0 then (L, 101)
 else if L.e - L.a < needN r.length then (L, 102)
 else if (sPut L.D L.a L.st (closeN r)).2 ≠ 0 then (⟨(sPut L.D L.a L.st (closeN r)).1, L.a, L.e, L.st⟩, (sPut L.D L.a L.st (closeN r)).2)
 else if (dFlush (sPut L.D L.a L.st (closeN r)).1).2 ≠ 0 then (⟨(dFlush (sPut L.D L.a L.st (closeN r)).1).1, L.a, L.e, L.st⟩, (dFlush (sPut L.D L.a L.st (closeN r)).1).2)
 else (⟨(dFlush (sPut L.D L.a L.st (closeN r)).1).1, L.a + needN r.length, L.e, IntKind.u64.wrap (L.st + 1)⟩, 0)
section
set_option linter.unusedSimpArgs false
set_option linter.unusedVariables false
set_option maxRecDepth 20000
attribute [local irreducible] Qb3 Qa9 vcA Qbp Wc
set_option maxHeartbeats 8000000
theorem logAppend_fn (L : LogS) (r : List Int) (h : 0 ≤ L.a ∧ L.a ≤ L.e ∧ L.e ≤ 4096) (hb : L.D.Base.length ≤ 4096) (hq : L.D.Queue.length ≤ 900000) (hr : r.length ≤ 900000) :
    Qcs Cx.P 52 [.l (.ptr 2 [] 0), .l (.dat (.slice (.int .u8)) r)] (logMem L) (tvL [.int .i64 (appN L r).2]) (logMem (appN L r).1) := by
 have hn : 0 ≤ needN r.length ∧ needN r.length ≤ 255 := by
  unfold needN
  have := spanN_bd (r.length + 4)
  split <;> omega
 have hn2 : 1 ≤ needN r.length ∨ needN r.length = 0 := by omega
 have h101 : needN r.length = 0 → appN L r = (L, 101) := fun h1 => by unfold appN; rw [if_pos h1]
 have h102 : ¬ needN r.length = 0 → L.e - L.a < needN r.length → appN L r = (L, 102) := fun h1 h2 => by unfold appN; rw [if_neg h1, if_pos h2]
 have hput : ¬ needN r.length = 0 → ¬ L.e - L.a < needN r.length → ¬ (sPut L.D L.a L.st (closeN r)).2 = 0 → appN L r = (⟨(sPut L.D L.a L.st (closeN r)).1, L.a, L.e, L.st⟩, (sPut L.D L.a L.st (closeN r)).2) := fun h1 h2 h3 => by
  unfold appN; rw [if_neg h1, if_neg h2, if_pos h3]
 have hfl : ¬ needN r.length = 0 → ¬ L.e - L.a < needN r.length → (sPut L.D L.a L.st (closeN r)).2 = 0 → ¬ (dFlush (sPut L.D L.a L.st (closeN r)).1).2 = 0 → appN L r = (⟨(dFlush (sPut L.D L.a L.st (closeN r)).1).1, L.a, L.e, L.st⟩, (dFlush (sPut L.D L.a L.st (closeN r)).1).2) := fun h1 h2 h3 h4 => by
  unfold appN; rw [if_neg h1, if_neg h2, if_neg (by simpa using h3), if_pos h4]
 have hok : ¬ needN r.length = 0 → ¬ L.e - L.a < needN r.length → (sPut L.D L.a L.st (closeN r)).2 = 0 → (dFlush (sPut L.D L.a L.st (closeN r)).1).2 = 0 → appN L r = (⟨(dFlush (sPut L.D L.a L.st (closeN r)).1).1, L.a + needN r.length, L.e, IntKind.u64.wrap (L.st + 1)⟩, 0) := fun h1 h2 h3 h4 => by
  unfold appN; rw [if_neg h1, if_neg h2, if_neg (by simpa using h3), if_neg (by simpa using h4)]
 unfold logMem
 refine Qcs.go2 (E := Cx.env) (fn := Try.f52) (res := [_]) _ (Qc2.refl _) Try.func52 Quk rfl rfl (by simp [Qb1, SV.ids, LV.ids]) (by simp [Qao]) (by kernel_rfl) rfl ?_
 intro hf
 try push_cast at hf
 intro _
 simp only [mmD, Qcu, Qao, List.map_cons, List.map_nil, List.cons_append, List.nil_append]
 repeat' (first
 | (intro (K' : KT) hK'; push_cast; (repeat' refine And.intro ?_ ?_); all_goals (first | (apply hK'; clear hK' K') | (refine ⟨trivial, trivial, ?_⟩; apply hK'; clear hK' K') | (intro hb; (try push_cast at hb); all_goals (intros; apply hK'; clear hK' K')) | ((first | refine Qbi logNeed_con (fun _ => rfl) ?_ | refine call_L logRoom_con (fun _ _ => rfl) ?_ | refine Qbg crcClose_con (fun _ => rfl) ?_ | refine Qbr Write_con (fun _ _ => rfl) ?_ | refine Qbr Flush_con (fun _ _ => rfl) ?_); push_cast; (repeat' refine And.intro ?_ ?_); all_goals (first | (apply hK'; clear hK' K') | (intros; apply hK'; clear hK' K') | (clear hK' K'; first | omega | skip))) | (clear hK' K'; first | omega | skip)))
 | apply Qar | apply Qa0 | apply Qac | apply Qah | apply Qaj | apply Qau
 | apply Qap | apply Qax | apply Qas | apply Qaq | apply Qa1 | apply Qal | apply Qae rfl | apply Qam | apply Qaz | apply Qay
 | (refine Qaf ?_; push_cast) | apply Qag | refine Qaa (Qa3 _ (by omega) (by omega)) ?_ | refine Qaa (Qb0 _ (by omega) (by omega)) ?_ | refine Qaa (Qba _ (by omega) (by omega)) ?_ | refine Qaa (Qa5 _ (by omega) (by omega)) ?_
 | refine Qai rfl rfl ?_ | refine Qat rfl rfl ?_
 | (refine Qak (by push_cast; first | done | rfl) ?_ ?_ <;> intro hc <;> (try push_cast at hc))
 | refine Qaw rfl rfl rfl (by push_cast; first | done | rfl) ?_
 | refine Qav rfl rfl rfl (by push_cast; first | done | rfl) ?_ ?_
 | refine Qbf (id := 6) [0, 1, 2, 3, 4, 5, 6, 7, 8, 9, 10, 11, 12] [14] [2] (.or 13 (.or 14 (.free 15 (.done)) (.stop)) (.stop)) wide (by kernel_rfl) ?_
 | apply Qby | apply Qbk | apply Qbn
 | refine Qbx rfl rfl rfl ?_ | refine Qbl rfl rfl rfl ?_
 | (refine Qbm rfl rfl rfl rfl ?_ ?_; rotate_left) | (refine Qbe rfl rfl rfl rfl ?_ ?_; rotate_left)
 | (refine Qbz rfl rfl rfl rfl ?_ ?_; rotate_left; focus (intro K' hK'; push_cast; (repeat' refine And.intro ?_ ?_); all_goals (first | (refine hK' _ _ _ _ _ (by push_cast) (by push_cast; first | done | rfl) ?_; clear hK' K') | ((first | refine Qbi logNeed_con (fun _ => rfl) ?_ | refine call_L logRoom_con (fun _ _ => rfl) ?_ | refine Qbg crcClose_con (fun _ => rfl) ?_ | refine Qbr Write_con (fun _ _ => rfl) ?_ | refine Qbr Flush_con (fun _ _ => rfl) ?_); push_cast; (repeat' refine And.intro ?_ ?_); all_goals (first | (refine hK' _ _ _ _ _ (by push_cast) (by push_cast; first | done | rfl) ?_; clear hK' K') | (intros; refine hK' _ _ _ _ _ (by push_cast) (by push_cast; first | done | rfl) ?_; clear hK' K') | (clear hK' K'; first | omega | skip))) | (clear hK' K'; first | omega | skip))))
 | (refine Qec rfl rfl rfl rfl ?_ ?_; rotate_left; focus (intro K' hK'; push_cast; (repeat' refine And.intro ?_ ?_); all_goals (first | (refine hK' _ _ _ _ _ (by push_cast) (by push_cast; first | done | rfl) ?_; clear hK' K') | ((first | refine Qbi logNeed_con (fun _ => rfl) ?_ | refine call_L logRoom_con (fun _ _ => rfl) ?_ | refine Qbg crcClose_con (fun _ => rfl) ?_ | refine Qbr Write_con (fun _ _ => rfl) ?_ | refine Qbr Flush_con (fun _ _ => rfl) ?_); push_cast; (repeat' refine And.intro ?_ ?_); all_goals (first | (refine hK' _ _ _ _ _ (by push_cast) (by push_cast; first | done | rfl) ?_; clear hK' K') | (intros; refine hK' _ _ _ _ _ (by push_cast) (by push_cast; first | done | rfl) ?_; clear hK' K') | (clear hK' K'; first | omega | skip))) | (clear hK' K'; first | omega | skip))))
 | (refine Qdv rfl rfl rfl rfl (by push_cast; first | done | rfl) ?_)
 | refine Qdt rfl rfl rfl rfl (by push_cast; first | done | rfl) ?_ ?_
 | (refine Qed rfl rfl rfl rfl (by push_cast; first | done | rfl) ?_ ?_)
 | (refine Qeb rfl rfl rfl rfl rfl (by push_cast; first | done | rfl) ?_ ?_ ?_; focus (intro hc; (try push_cast at hc); all_goals (intro K' hK'; push_cast; (repeat' refine And.intro ?_ ?_); all_goals (first | (refine hK' _ _ _ _ _ (by push_cast) (by push_cast; first | done | rfl) ?_; clear hK' K') | ((first | refine Qbi logNeed_con (fun _ => rfl) ?_ | refine call_L logRoom_con (fun _ _ => rfl) ?_ | refine Qbg crcClose_con (fun _ => rfl) ?_ | refine Qbr Write_con (fun _ _ => rfl) ?_ | refine Qbr Flush_con (fun _ _ => rfl) ?_); push_cast; (repeat' refine And.intro ?_ ?_); all_goals (first | (refine hK' _ _ _ _ _ (by push_cast) (by push_cast; first | done | rfl) ?_; clear hK' K') | (intros; refine hK' _ _ _ _ _ (by push_cast) (by push_cast; first | done | rfl) ?_; clear hK' K') | (clear hK' K'; first | omega | skip))) | (clear hK' K'; first | omega | skip)))))
 | refine Qfd rfl rfl rfl rfl rfl (by push_cast; first | done | rfl) ?_ ?_ ?_
 | refine Qcc rfl rfl rfl rfl (by push_cast; first | done | rfl) ?_
 | refine Qcd rfl rfl rfl rfl (by push_cast; first | done | rfl) ?_ ?_
 | (intro (hc : (_ : Prop)); (try push_cast at hc)) | intro (hc : Qad) | intro (hc : Int) | intro (hc : Nat))
 ·rw [h101 ‹_›]
  (refine Qc9.fin ⟨[(1, .obj DiskO L.D), (2, .segs [.ptr 1 [] 0, .int .i64 L.a, .int .i64 L.e, .int .u64 L.st])], ?_, ?_, ?_, Qbb.refl _, ?_⟩
   ·push_cast
   ·push_cast
   ·simp [Qao]
   ·simp [tvL, TV.ids, SV.ids, LV.ids, Qb1])
 ·rw [h102 ‹_› ‹_›]
  (refine Qc9.fin ⟨[(1, .obj DiskO L.D), (2, .segs [.ptr 1 [] 0, .int .i64 L.a, .int .i64 L.e, .int .u64 L.st])], ?_, ?_, ?_, Qbb.refl _, ?_⟩
   ·push_cast
   ·push_cast
   ·simp [Qao]
   ·simp [tvL, TV.ids, SV.ids, LV.ids, Qb1])
 ·rw [hput ‹_› ‹_› (by simpa using hc)]
  (refine Qc9.fin ⟨[(1, .obj DiskO (sPut L.D L.a L.st (closeN r)).1), (2, .segs [.ptr 1 [] 0, .int .i64 L.a, .int .i64 L.e, .int .u64 L.st])], ?_, ?_, ?_, Qbb.refl _, ?_⟩
   ·push_cast
   ·push_cast
   ·simp [Qao]
   ·simp [tvL, TV.ids, SV.ids, LV.ids, Qb1])
 ·rw [hfl ‹_› ‹_› (by simpa using ‹(!decide ((sPut L.D L.a L.st (closeN r)).2 = 0)) = false›) (by simpa using hc)]
  (refine Qc9.fin ⟨[(1, .obj DiskO (dFlush (sPut L.D L.a L.st (closeN r)).1).1), (2, .segs [.ptr 1 [] 0, .int .i64 L.a, .int .i64 L.e, .int .u64 L.st])], ?_, ?_, ?_, Qbb.refl _, ?_⟩
   ·push_cast
   ·push_cast
   ·simp [Qao]
   ·simp [tvL, TV.ids, SV.ids, LV.ids, Qb1])
 ·rw [hok ‹_› ‹_› (by simpa using ‹(!decide ((sPut L.D L.a L.st (closeN r)).2 = 0)) = false›) (by simpa using ‹(!decide ((dFlush (sPut L.D L.a L.st (closeN r)).1).2 = 0)) = false›)]
  (refine Qc9.fin ⟨[(1, .obj DiskO (dFlush (sPut L.D L.a L.st (closeN r)).1).1), (2, .segs [.ptr 1 [] 0, .int .i64 (L.a + needN r.length), .int .i64 L.e, .int .u64 (IntKind.u64.wrap (L.st + 1))])], ?_, ?_, ?_, Qbb.refl _, ?_⟩
   ·push_cast
   ·push_cast
   ·simp [Qao]
   ·simp [tvL, TV.ids, SV.ids, LV.ids, Qb1])
 all_goals trace_state
theorem logAppend_con : ConL 52 (.pair (.slice (.int .u8)) .unit) (fun L x => (0 ≤ L.a ∧ L.a ≤ L.e ∧ L.e ≤ 4096) ∧ L.D.Base.length ≤ 4096 ∧ L.D.Queue.length ≤ 900000 ∧ x.1.length ≤ 900000)
    (fun L x => [.int .i64 (appN L x.1).2]) (fun L x => (appN L x.1).1) := ⟨Quk, fun L x h => logAppend_fn L x.1 h.1 h.2.1 h.2.2.1 h.2.2.2⟩
end
end Go.Proofs.Ytnmjcdlgfimnaaa
