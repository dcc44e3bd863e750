/- Chapter 12's statements: what a journal should have. -/
import Derived.Test.YtnmjcdlgfimnaaaL12a
import Derived.Test.YtnmjcdlgfimnaaaJ2
namespace Go.Proofs.Ytnmjcdlgfimnaaa
def bigA12 (a : L12Act) : Bool := decide (5000 < (a.Bytes.length : Int)) || decide (400 < (a.Keep.length : Int))
def greatB12 (l : List L12Act) : Bool := decide (40 < (l.length : Int)) || l.any bigA12
theorem great12_len {l : List L12Act} (h : greatB12 l = false) : l.length ≤ 40 := by
  simp only [greatB12, Bool.or_eq_false_iff, decide_eq_false_iff_not] at h
  omega
theorem any_take12 {l : List L12Act} {i : Nat} (h : (l.take i).any bigA12 = false) (hi : i < l.length) (hb : bigA12 (l.getD i ⟨0, 0, [], []⟩) = false) : (l.take (i + 1)).any bigA12 = false := by
  rw [take_succ_getD l i ⟨0, 0, [], []⟩ hi, List.any_append, h]
  simpa using hb
theorem great12_hit {l : List L12Act} {i : Nat} (hi : i < l.length) (hb : bigA12 (l.getD i ⟨0, 0, [], []⟩) = true) : greatB12 l = true := by
  simp only [greatB12, Bool.or_eq_true]
  exact .inr (List.any_eq_true.2 ⟨_, getD_mem l i _ hi, hb⟩)
theorem great12_small {l : List L12Act} (h : greatB12 l = false) {x : L12Act} (hx : x ∈ l) : x.Bytes.length ≤ 5000 := by
  simp only [greatB12, Bool.or_eq_false_iff] at h
  have := List.any_eq_false.1 h.2 x hx
  simp only [bigA12, Bool.or_eq_true, decide_eq_true_eq, not_or] at this
  omega
def fits12 (p : L12Past) (s : List Int) (rs : List (List Int)) : Bool := (toBytes s == p.state) && sameR rs p.records
section
set_option linter.unusedSimpArgs false
set_option linter.unusedVariables false
set_option maxRecDepth 20000
attribute [local irreducible] vcOps vcCode vcA vcSch Wc
set_option maxHeartbeats 8000000
theorem great12_fn (acts : List L12Act) : Pure Cx.P 73 [.dat (.slice rL12Act) acts] [.bool (greatB12 acts)] := by
  refine Pure.go2 (E := Cx.env) (fn := Try.f73) (res := [_]) Try.func73 isfn73 rfl rfl rfl (by kernel_rfl) rfl ?_
  push_cast
  try intro hf
  repeat' (first
    | (intro (K' : KT) hK'; push_cast; (repeat' refine And.intro ?_ ?_); all_goals (first | (apply hK'; clear hK' K') | (refine ⟨trivial, trivial, ?_⟩; apply hK'; clear hK' K') | (intro hb; (try push_cast at hb); all_goals (intros; apply hK'; clear hK' K')) | (clear hK' K'; first | omega | skip)))
    | apply go_seq | apply go_block | apply go_region | apply go_skip | apply go_exit | apply go_ret
    | apply seqK_n | apply seqK_x | apply seqK_r | apply blockK_n | apply blockK_r | apply blockK_hit | apply blockK_miss rfl | apply loopK_x | apply loopK_r | apply regK_go | apply finK_n | apply finK_r
    | (refine vres_go ?_; push_cast) | apply ops_nil | refine ops_in (w_i64 _ (by omega) (by omega)) ?_ | refine ops_in (w_u8 _ (by omega) (by omega)) ?_ | refine ops_in (w_u32 _ (by omega) (by omega)) ?_ | refine ops_in (w_u64 _ (by omega) (by omega)) ?_
    | refine ops_put rfl rfl ?_ | refine ops_no rfl rfl ?_
    | (refine go_cond (by push_cast; first | done | rfl) ?_ ?_ <;> intro hc <;> (try push_cast at hc))
    | refine ops_gt rfl rfl rfl (by push_cast; first | done | rfl) ?_
    | refine ops_gb rfl rfl rfl (by push_cast; first | done | rfl) ?_ ?_
    | (intro (hc : (_ : Prop)); (try push_cast at hc)) | intro (hc : R08Item) | intro (hc : Int) | intro (hc : Nat))
  · simp [greatB12, ‹(40 : Int) < acts.length›]
  · refine go_loop2 [2, 4, 10, 11, 12, 13, 14, 15, 16, 17, 18, 19, 20, 21, 22, 23, 24] [4, 16, 21] (fun (i : Nat) => i ≤ acts.length ∧ (acts.take i).any bigA12 = false) (fun (i : Nat) => [(10, .one (.l (.int .i64 i)))]) (fun (i : Nat) => []) (fun (i : Nat) => acts.length - i) 0 ?_ (by push_cast; first | done | rfl) (by push_cast; first | done | rfl) ?_ ?_
    · exact ⟨Nat.zero_le _, by simp⟩
    · push_cast
    · rintro i ⟨hi, hall⟩
      push_cast
      intro hg
      repeat' (first
    | (intro (K' : KT) hK'; push_cast; (repeat' refine And.intro ?_ ?_); all_goals (first | (apply hK'; clear hK' K') | (refine ⟨trivial, trivial, ?_⟩; apply hK'; clear hK' K') | (intro hb; (try push_cast at hb); all_goals (intros; apply hK'; clear hK' K')) | (clear hK' K'; first | omega | skip)))
    | apply go_seq | apply go_block | apply go_region | apply go_skip | apply go_exit | apply go_ret
    | apply seqK_n | apply seqK_x | apply seqK_r | apply blockK_n | apply blockK_r | apply blockK_hit | apply blockK_miss rfl | apply loopK_x | apply loopK_r | apply regK_go | apply finK_n | apply finK_r
    | (refine vres_go ?_; push_cast) | apply ops_nil | refine ops_in (w_i64 _ (by omega) (by omega)) ?_ | refine ops_in (w_u8 _ (by omega) (by omega)) ?_ | refine ops_in (w_u32 _ (by omega) (by omega)) ?_ | refine ops_in (w_u64 _ (by omega) (by omega)) ?_
    | refine ops_put rfl rfl ?_ | refine ops_no rfl rfl ?_
    | (refine go_cond (by push_cast; first | done | rfl) ?_ ?_ <;> intro hc <;> (try push_cast at hc))
    | refine ops_gt rfl rfl rfl (by push_cast; first | done | rfl) ?_
    | refine ops_gb rfl rfl rfl (by push_cast; first | done | rfl) ?_ ?_
    | (intro (hc : (_ : Prop)); (try push_cast at hc)) | intro (hc : R08Item) | intro (hc : Int) | intro (hc : Nat))
      · rw [great12_hit (i := i) (by omega) (by simp [bigA12, -List.getD_eq_getElem?_getD, hc])]
      · refine loopK_m (i + 1) ⟨by omega, any_take12 hall (by omega) (by
          simp only [bigA12, Bool.or_eq_false_iff, decide_eq_false_iff_not]
          exact ⟨‹_›, ‹_›⟩)⟩ (by omega) ?_
        push_cast
      · rw [great12_hit (i := i) (by omega) (by
          simp only [bigA12, Bool.or_eq_true, decide_eq_true_eq]
          exact .inl ‹_›)]
      · have e : acts.take i = acts := List.take_of_length_le (by omega)
        rw [e] at hall
        simp only [greatB12, hall, Bool.or_false]
        simp [‹¬ (40 : Int) < acts.length›]
theorem great12_con : Con Cx.P 73 (.pair (.slice rL12Act) (.unit)) (fun x => (fun (acts : List L12Act) => True) x.1) (fun x => (fun (acts : List L12Act) => [.bool (greatB12 acts)]) x.1) := ⟨isfn73, fun x h => great12_fn x.1⟩
theorem fits_fn (p : L12Past) (s : List Int) (rs : List (List Int)) : Pure Cx.P 74 [.dat rL12Past p, .dat (.slice (.int .u8)) s, .dat (.slice (.slice (.int .u8))) rs] [.bool (fits12 p s rs)] := by
  refine Pure.go2 (E := Cx.env) (fn := Try.f74) (res := [_]) Try.func74 isfn74 rfl rfl rfl (by kernel_rfl) rfl ?_
  push_cast
  try intro hf
  repeat' (first
    | (intro (K' : KT) hK'; push_cast; (repeat' refine And.intro ?_ ?_); all_goals (first | (apply hK'; clear hK' K') | (refine ⟨trivial, trivial, ?_⟩; apply hK'; clear hK' K') | (intro hb; (try push_cast at hb); all_goals (intros; apply hK'; clear hK' K')) | ((first | refine call_F same10_con (fun _ => rfl) ?_); push_cast; (repeat' refine And.intro ?_ ?_); all_goals (first | (apply hK'; clear hK' K') | (intros; apply hK'; clear hK' K') | (clear hK' K'; first | omega | skip))) | (clear hK' K'; first | omega | skip)))
    | apply go_seq | apply go_region | apply go_skip | apply go_exit | apply go_ret
    | apply seqK_n | apply seqK_x | apply seqK_r | apply regK_go | apply finK_n | apply finK_r
    | (refine vres_go ?_; push_cast) | apply ops_nil | refine ops_in (w_i64 _ (by omega) (by omega)) ?_ | refine ops_in (w_u8 _ (by omega) (by omega)) ?_ | refine ops_in (w_u32 _ (by omega) (by omega)) ?_ | refine ops_in (w_u64 _ (by omega) (by omega)) ?_
    | refine ops_put rfl rfl ?_ | refine ops_no rfl rfl ?_
    | (refine go_cond (by push_cast; first | done | rfl) ?_ ?_ <;> intro hc <;> (try push_cast at hc))
    | refine ops_gt rfl rfl rfl (by push_cast; first | done | rfl) ?_
    | refine ops_gb rfl rfl rfl (by push_cast; first | done | rfl) ?_ ?_
    | (intro (hc : (_ : Prop)); (try push_cast at hc)) | intro (hc : R08Item) | intro (hc : Int) | intro (hc : Nat))
  · rw [fits12, ‹(toBytes s == p.state) = true›, Bool.true_and]
  · rw [fits12, ‹(toBytes s == p.state) = false›, Bool.false_and]
theorem fits_con : Con Cx.P 74 (.pair rL12Past (.pair (.slice (.int .u8)) (.pair (.slice (.slice (.int .u8))) (.unit)))) (fun x => (fun (p : L12Past) (s : List Int) (rs : List (List Int)) => True) x.1 x.2.1 x.2.2.1) (fun x => (fun (p : L12Past) (s : List Int) (rs : List (List Int)) => [.bool (fits12 p s rs)]) x.1 x.2.1 x.2.2.1) := ⟨isfn74, fun x h => fits_fn x.1 x.2.1 x.2.2.1⟩
end
end Go.Proofs.Ytnmjcdlgfimnaaa
namespace Go.Proofs.Ytnmjcdlgfimnaaa
def bytesOk (c : List Int) : Prop := (∀ x ∈ c, 0 ≤ x ∧ x ≤ 255) ∧ c.length ≤ 5000
def pastOf (c : List Int) (rs : List (List Int)) : L12Past := ⟨toBytes c, rs.map toBytes⟩
structure KS where
  L : LogS
  b : Bool
  now : L12Past
  may : L12Past
  i : Nat
def KAlive (m : Nat) (L : LogS) (now : L12Past) (i : Nat) : Prop := ∃ g fl c rs, JF ⟨L, 4, true⟩ m g fl c rs ∧ now = pastOf c rs ∧ bytesOk c ∧ (∀ r ∈ rs, bytesOk r) ∧ g ≤ 3 * i + 1 ∧ fl + rs.length ≤ 200 * i
def KFound (E : R08Disk) (m : Nat) (now may : L12Past) (i : Nat) : Prop := ∃ g fl c rs, Finds E m 4 (200 * i) (3 * i + 1) g fl c rs ∧ (pastOf c rs = now ∨ pastOf c rs = may) ∧ bytesOk c ∧ (∀ r ∈ rs, bytesOk r) ∧ rs.length ≤ 61
def KDead (m : Nat) (D : R08Disk) (now may : L12Past) (i : Nat) : Prop := D.Base.length = m ∧ D.Queue.length ≤ 1000 ∧ now.records.length ≤ 61 ∧ ∀ keep, KFound (dPower D keep) m now may i
def KInv (m : Nat) (p : KS) : Prop := (p.b = true ∧ p.may = p.now ∧ KAlive m p.L p.now p.i) ∨ (p.b = false ∧ p.L.D.Dead = true ∧ (0 ≤ p.L.a ∧ p.L.a ≤ p.L.e ∧ p.L.e ≤ 4096) ∧ KDead m p.L.D p.now p.may p.i)
theorem kfound_up {m : Nat} {E : R08Disk} {now may : L12Past} {i j : Nat} (h : KFound E m now may i) (hij : i ≤ j) : KFound E m now may j := by
  obtain ⟨g, fl, c, rs, h1, h2⟩ := h
  exact ⟨g, fl, c, rs, finds_up h1 (by omega) (by omega), h2⟩
theorem kdead_up {m : Nat} {D : R08Disk} {now may : L12Past} {i j : Nat} (h : KDead m D now may i) (hij : i ≤ j) : KDead m D now may j :=
  ⟨h.1, h.2.1, h.2.2.1, fun keep => kfound_up (h.2.2.2 keep) hij⟩
theorem kinv_power {m : Nat} {p : KS} (hm : m ≤ 60) (h : KInv m p) (keep : List Int) : KFound (dPower p.L.D keep) m p.now p.may p.i := by
  rcases h with ⟨_, h2, g, fl, c, rs, hJ, hnow, hcb, hrb, hgb, hflb⟩ | ⟨_, _, _, h3⟩
  · have := jf_len hJ
    exact ⟨g, fl, c, rs, finds_up (finds_power hJ keep) hflb hgb, .inl hnow.symm, hcb, hrb, by omega⟩
  · exact h3.2.2.2 keep
theorem kinv_alive {m : Nat} {p : KS} (hm : m ≤ 60) (h : KInv m p) (hd : p.L.D.Dead = false) : KFound p.L.D m p.now p.may p.i := by
  rcases h with ⟨_, h2, g, fl, c, rs, hJ, hnow, hcb, hrb, hgb, hflb⟩ | ⟨_, h2, _⟩
  · have := jf_len hJ
    exact ⟨g, fl, c, rs, finds_up (finds_alive hJ) hflb hgb, .inl hnow.symm, hcb, hrb, by omega⟩
  · rw [h2] at hd
    exact absurd hd (by decide)
theorem kinv_len {m : Nat} {p : KS} (h : KInv m p) : p.L.D.Base.length = m ∧ p.L.D.Queue.length ≤ 1000 := by
  rcases h with ⟨_, _, g, fl, c, rs, hJ, _⟩ | ⟨_, _, _, h3⟩
  · have hlog := jf_log hJ
    have hq := hlog.q
    simp only at hq
    exact ⟨hlog.base, by rw [hq]; exact Nat.zero_le _⟩
  · exact ⟨h3.1, h3.2.1⟩
theorem fits_self (c : List Int) (rs : List (List Int)) : fits12 (pastOf c rs) c rs = true := by simp [fits12, pastOf, sameR]
theorem jApp_at {J : JourS} {r : List Int} (h : (jApp J r).2 = 82) : (jApp J r).1.L.a = J.L.a ∧ (jApp J r).1.L.e = J.L.e := by
  revert h
  unfold jApp appN
  repeat' split
  all_goals
    intro h
    first
      | exact ⟨rfl, rfl⟩
      | exact absurd (show (0 : Int) = 82 from h) (by decide)
theorem go_joinK {E : Env} {K : KC} {sl sl1 : List (Nat × TV)} {mem mem1 : List (Nat × Box)} {pins : List Nat} {c : Code} {ι : Type} (W M : List Nat) (ok : ι → Prop) (ch : ι → List (Nat × TV)) (cm : ι → List (Nat × Box)) (hsl : dropW W sl = sl1) (hmem : dropM M mem = mem1)
    (hc : ∀ K' : KC, (∀ j s', ok j → Le2 ⟨ch j ++ sl1, cm j ++ mem1, pins⟩ s' → regK K' s') → (∀ e s', e ≠ .normal → K e s' → K' e s') → vcCode E c ⟨sl, mem, pins⟩ K')
    (hy : ∀ j, ok j → K .normal ⟨ch j ++ sl1, cm j ++ mem1, pins⟩) : vcCode E c ⟨sl, mem, pins⟩ K := by
  subst hsl hmem
  exact hc K (fun j s' hj hl => regK_g _ (.of_le2 hl) (hy j hj)) fun _ _ _ hk => hk
end Go.Proofs.Ytnmjcdlgfimnaaa
