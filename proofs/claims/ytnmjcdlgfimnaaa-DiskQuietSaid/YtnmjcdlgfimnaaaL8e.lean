/- Chapter 8's statements: with nothing on its way power changes nothing. -/
import Derived.Test.YtnmjcdlgfimnaaaL8a
import Derived.Test.YtnmjcdlgfimnaaaFze
namespace Go.Proofs.Ytnmjcdlgfimnaaa
set_option linter.unusedSimpArgs false
set_option linter.unusedVariables false
set_option maxRecDepth 20000
attribute [local irreducible] vcOps vcCode vcA vcSch Wc
set_option maxHeartbeats 8000000
structure QI (D : R08Disk) (k : Nat) : Prop where
  base : D.Base.length = 4
  q : D.Queue.length ≤ k
  to : ∀ y ∈ D.Queue, y.Sector.length = 64 ∧ 0 ≤ y.To ∧ y.To < D.Base.length
  sec : ∀ s ∈ D.Base, s.length = 64
  burns : D.Burns = -1
  dead : D.Dead = false
theorem QI.mono {D : R08Disk} {k j : Nat} (h : QI D k) (hk : k ≤ j) : QI D j := ⟨h.base, Nat.le_trans h.q hk, h.to, h.sec, h.burns, h.dead⟩
theorem qi_spend {D : R08Disk} (h1 : D.Burns = -1) (h2 : D.Dead = false) : dSpend D = (D, true) := by simp [dSpend, h1, h2]
theorem qi_blank : QI (dBlank 4) 0 := ⟨by simp only [dBlank, List.length_replicate]; omega, by simp [dBlank], by simp [dBlank], fun s hs => by
  simp only [dBlank] at hs
  rw [List.eq_of_mem_replicate hs]; simp [zeros, repl], rfl, rfl⟩
theorem qi_put {D : R08Disk} {k : Nat} (h : QI D k) (n c : Int) : QI (dPut D n (paintL c)).1 (k + 1) := by
  obtain ⟨h1, h2, h3, h4, h5, h6⟩ := h
  unfold dPut
  split
  · rename_i ht
    have ht := there_iff ht
    rw [qi_spend h5 h6]
    simp only [if_true]
    refine ⟨h1, by simp only [List.length_append, List.length_singleton]; omega, ?_, h4, h5, h6⟩
    intro y hy
    simp only [List.mem_append, List.mem_singleton] at hy
    rcases hy with hy | rfl
    · exact h3 y hy
    · exact ⟨paintL_len c, ht⟩
  · exact ⟨h1, by simp only; omega, h3, h4, h5, h6⟩
theorem qi_land {D : R08Disk} {k : Nat} (h : QI D k) (f : Nat → Int) : QI ⟨landAll f 0 D.Queue D.Base, [], -1, false⟩ 0 :=
  ⟨by simp only [landAll_len]; exact h.base, by simp, by simp, landAll_sec h.sec h.to, rfl, rfl⟩
theorem qi_power {D : R08Disk} {k : Nat} (h : QI D k) (keep : List Int) : QI (dPower D keep) 0 := qi_land h _
theorem qi_flush {D : R08Disk} {k : Nat} (h : QI D k) : dFlush D = (⟨landAll (fun _ => 64) 0 D.Queue D.Base, [], -1, false⟩, 0) := by
  simp [dFlush, qi_spend h.burns h.dead, h.burns, h.dead]
theorem land64 : ∀ (q : List R08Item) (i : Nat) (base : List (List Int)) (k : Int), 0 ≤ k → k < base.length → (∀ s ∈ base, s.length = 64) → (∀ y ∈ q, y.Sector.length = 64 ∧ 0 ≤ y.To ∧ y.To < base.length) →
    (landAll (fun _ => 64) i q base).getD k.toNat [] = (qTo q k).getLast?.getD (base.getD k.toNat [])
  | [], _, _, _, _, _, _, _ => by simp [landAll, qTo]
  | x :: r, i, base, k, h0, h1, hs, hq => by
    obtain ⟨a1, a2, a3⟩ := hq x (by simp)
    have hx : (base.getD x.To.toNat []).length = 64 := hs _ (getD_mem _ _ _ (by omega))
    have hb : landL base x 64 = base.set x.To.toNat x.Sector := by
      have e : min (64 : Int).toNat 64 = 64 := by decide
      simp only [landL, landN, e, mixTo]
      rw [List.take_of_length_le (by omega), List.drop_eq_nil_of_le (by omega), List.append_nil]
    rw [landAll, hb, land64 r (i + 1) _ k h0 (by simpa using h1) ?_ (by simpa using fun y hy => hq y (by simp [hy]))]
    · by_cases e : x.To = k
      · have e1 : qTo (x :: r) k = x.Sector :: qTo r k := by rw [← e]; exact qTo_cons_self x r
        have e2 : (base.set x.To.toNat x.Sector).getD k.toNat [] = x.Sector := by
          rw [e, List.getD_eq_getElem?_getD, List.getElem?_set_self (by omega)]; rfl
        rw [e1, e2, List.getLast?_cons]
        cases (qTo r k).getLast? <;> simp
      · have e1 : qTo (x :: r) k = qTo r k := by simp [qTo, e]
        have e2 : (base.set x.To.toNat x.Sector).getD k.toNat [] = base.getD k.toNat [] := by
          rw [List.getD_eq_getElem?_getD, List.getD_eq_getElem?_getD, List.getElem?_set_ne (by omega)]
        rw [e1, e2]
    · intro s hs2
      rcases List.mem_or_eq_of_mem_set hs2 with h | rfl
      · exact hs s h
      · exact a1
/-- What is got is the same behind flushes and power. -/
theorem qi_get {D : R08Disk} {k : Nat} (h : QI D k) (keep : List Int) (n : Int) (h0 : 0 ≤ n) (h1 : n < 4) :
    dGet (dPower (dFlush (dFlush D).1).1 keep) n = ((dGet D n).1, 0) := by
  have hb := h.base
  have e1 : dThere D n = true := by simp [dThere, h0, hb]; omega
  rw [qi_flush h]
  have h2 := qi_land h (fun _ => 64)
  rw [qi_flush h2]
  have e2 : dThere (dPower ⟨landAll (fun _ => 64) 0 [] (landAll (fun _ => 64) 0 D.Queue D.Base), [], -1, false⟩ keep) n = true := by
    simp [dThere, dPower, landAll, landAll_len, h0, hb]; omega
  unfold dGet
  rw [e1, e2]
  simp only [if_true, dPower, landAll, qTo, List.filter_nil, List.map_nil, List.getLast?_nil, Option.getD_none]
  rw [land64 D.Queue 0 D.Base n h0 (by omega) h.sec h.to]
  rfl
theorem set_range {α : Type} (f : Nat → α) (z : α) (n i : Nat) (h : i < n) : ((List.range i).map f ++ repl (n - i) z).set i (f i) = (List.range (i + 1)).map f ++ repl (n - (i + 1)) z := by
  have e : n - i = (n - (i + 1)) + 1 := by omega
  rw [List.range_succ, List.map_append, List.append_assoc, List.set_append_right _ _ (by simp), e]
  simp [repl, List.replicate_succ]
theorem range_get {α : Type} (f : Nat → α) (n : Nat) (t : List α) (d : α) (j : Nat) (h : j < n) : ((List.range n).map f ++ t).getD j d = f j := by
  rw [List.getD_eq_getElem?_getD, List.getElem?_append_left (by simpa using h)]
  simp [h]
theorem quiet_fn (deeds : List L08Deed) (keep : List Int) : Pure Cx.P 6 [.dat (.slice rL08Deed) deeds, .dat (.slice (.int .i64)) keep] [.bool true] := by
  refine Pure.go2 (E := Cx.env) (fn := Try.f6) (res := [_]) Try.func6 isfn6 rfl rfl rfl (by kernel_rfl) rfl ?_
  push_cast
  try intro hf
  repeat' (first
    | apply go_seq | apply go_block | apply go_region | apply go_skip | apply go_exit | apply go_label | apply go_ret
    | apply seqK_n | apply seqK_x | apply seqK_r | apply blockK_n | apply blockK_r | apply blockK_hit | apply blockK_miss rfl | apply loopK_x | apply loopK_r | apply regK_go | apply finK_n | apply finK_r
    | (refine vres_go ?_; push_cast) | apply ops_nil | refine ops_in (w_i64 _ (by omega) (by omega)) ?_ | refine ops_in (w_u8 _ (by omega) (by omega)) ?_ | refine ops_in (w_u32 _ (by omega) (by omega)) ?_ | refine ops_in (w_u64 _ (by omega) (by omega)) ?_
    | (refine ops_put rfl rfl ?_; intro K' hK'; push_cast; (repeat' refine And.intro ?_ ?_); all_goals (first | (apply hK'; clear hK' K') | (refine ⟨trivial, trivial, ?_⟩; apply hK'; clear hK' K') | (intro hb; (try push_cast at hb); all_goals (intros; apply hK'; clear hK' K')) | ((first | refine call_F alive_con (fun _ => rfl) ?_ | refine call_new Blank_con 9100 ?_); push_cast; (repeat' refine And.intro ?_ ?_); all_goals (first | (apply hK'; clear hK' K') | (intros; apply hK'; clear hK' K') | (clear hK' K'; first | omega | skip))) | (clear hK' K'; first | omega | skip)))
    | (refine ops_no rfl rfl ?_; intro K' hK'; push_cast; (repeat' refine And.intro ?_ ?_); all_goals (first | (apply hK'; clear hK' K') | (refine ⟨trivial, trivial, ?_⟩; apply hK'; clear hK' K') | (intro hb; (try push_cast at hb); all_goals (intros; apply hK'; clear hK' K')) | ((first | refine call_F alive_con (fun _ => rfl) ?_ | refine call_new Blank_con 9100 ?_); push_cast; (repeat' refine And.intro ?_ ?_); all_goals (first | (apply hK'; clear hK' K') | (intros; apply hK'; clear hK' K') | (clear hK' K'; first | omega | skip))) | (clear hK' K'; first | omega | skip)))
    | (refine go_cond (by push_cast; first | done | rfl) ?_ ?_ <;> intro hc <;> (try push_cast at hc))
    | (refine ops_gt rfl rfl rfl (by push_cast; first | done | rfl) ?_)
    | (refine ops_gb rfl rfl rfl (by push_cast; first | done | rfl) ?_ ?_; focus (intro hc; (try push_cast at hc); all_goals (intro K' hK'; push_cast; (repeat' refine And.intro ?_ ?_); all_goals (first | (apply hK'; clear hK' K') | (refine ⟨trivial, trivial, ?_⟩; apply hK'; clear hK' K') | (intro hb; (try push_cast at hb); all_goals (intros; apply hK'; clear hK' K')) | ((first | refine call_F alive_con (fun _ => rfl) ?_ | refine call_new Blank_con 9100 ?_); push_cast; (repeat' refine And.intro ?_ ?_); all_goals (first | (apply hK'; clear hK' K') | (intros; apply hK'; clear hK' K') | (clear hK' K'; first | omega | skip))) | (clear hK' K'; first | omega | skip)))))
    | refine go_draw (id := 10) [0, 1, 2, 3, 4] [6] [7] (.or 5 (.or 6 (.done) (.stop)) (.stop)) wide (by kernel_rfl) ?_
    | refine go_draw (id := 27) [0, 1, 2, 3, 4, 5, 6, 7, 8] [] [8, 11] (.done) wide (by kernel_rfl) ?_
    | apply goA_nil | apply goS_done | apply goS_stop
    | (refine goA_put rfl rfl rfl ?_; intro K' hK'; push_cast; (repeat' refine And.intro ?_ ?_); all_goals (first | (apply hK'; clear hK' K') | (refine ⟨trivial, trivial, ?_⟩; apply hK'; clear hK' K') | (intro hb; (try push_cast at hb); all_goals (intros; apply hK'; clear hK' K')) | ((first | refine call_F alive_con (fun _ => rfl) ?_ | refine call_new Blank_con 9100 ?_); push_cast; (repeat' refine And.intro ?_ ?_); all_goals (first | (apply hK'; clear hK' K') | (intros; apply hK'; clear hK' K') | (clear hK' K'; first | omega | skip))) | (clear hK' K'; first | omega | skip)))
    | (refine goS_free rfl rfl rfl ?_; intro K' hK'; push_cast; (repeat' refine And.intro ?_ ?_); all_goals (first | (apply hK'; clear hK' K') | (refine ⟨trivial, trivial, ?_⟩; apply hK'; clear hK' K') | (intro hb; (try push_cast at hb); all_goals (intros; apply hK'; clear hK' K')) | ((first | refine call_F alive_con (fun _ => rfl) ?_ | refine call_new Blank_con 9100 ?_); push_cast; (repeat' refine And.intro ?_ ?_); all_goals (first | (apply hK'; clear hK' K') | (intros; apply hK'; clear hK' K') | (clear hK' K'; first | omega | skip))) | (clear hK' K'; first | omega | skip)))
    | (refine goS_late rfl rfl rfl rfl ?_ ?_; rotate_left; focus (intro K' hK'; push_cast; (repeat' refine And.intro ?_ ?_); all_goals (first | (apply hK'; clear hK' K') | (refine ⟨trivial, trivial, ?_⟩; apply hK'; clear hK' K') | (intro hb; (try push_cast at hb); all_goals (intros; apply hK'; clear hK' K')) | ((first | refine call_F alive_con (fun _ => rfl) ?_ | refine call_new Blank_con 9100 ?_); push_cast; (repeat' refine And.intro ?_ ?_); all_goals (first | (apply hK'; clear hK' K') | (intros; apply hK'; clear hK' K') | (clear hK' K'; first | omega | skip))) | (clear hK' K'; first | omega | skip))))
    | (refine goS_late' rfl rfl rfl rfl ?_ ?_; rotate_left; focus (intro K' hK'; push_cast; (repeat' refine And.intro ?_ ?_); all_goals (first | (apply hK'; clear hK' K') | (refine ⟨trivial, trivial, ?_⟩; apply hK'; clear hK' K') | (intro hb; (try push_cast at hb); all_goals (intros; apply hK'; clear hK' K')) | ((first | refine call_F alive_con (fun _ => rfl) ?_ | refine call_new Blank_con 9100 ?_); push_cast; (repeat' refine And.intro ?_ ?_); all_goals (first | (apply hK'; clear hK' K') | (intros; apply hK'; clear hK' K') | (clear hK' K'; first | omega | skip))) | (clear hK' K'; first | omega | skip))))
    | (refine goS_hid rfl rfl rfl rfl ?_ ?_; rotate_left; focus (intro K' hK'; push_cast; (repeat' refine And.intro ?_ ?_); all_goals (first | (refine hK' _ _ _ _ _ (by push_cast) (by push_cast; first | done | rfl) ?_; clear hK' K') | ((first | refine call_F alive_con (fun _ => rfl) ?_ | refine call_new Blank_con 9100 ?_); push_cast; (repeat' refine And.intro ?_ ?_); all_goals (first | (refine hK' _ _ _ _ _ (by push_cast) (by push_cast; first | done | rfl) ?_; clear hK' K') | (intros; refine hK' _ _ _ _ _ (by push_cast) (by push_cast; first | done | rfl) ?_; clear hK' K') | (clear hK' K'; first | omega | skip))) | (clear hK' K'; first | omega | skip))))
    | (refine goA_gt rfl rfl rfl rfl (by push_cast; first | done | rfl) ?_)
    | (refine goA_gb rfl rfl rfl rfl (by push_cast; first | done | rfl) ?_ ?_; focus (intro hc; (try push_cast at hc); all_goals (intro K' hK'; push_cast; (repeat' refine And.intro ?_ ?_); all_goals (first | (apply hK'; clear hK' K') | (refine ⟨trivial, trivial, ?_⟩; apply hK'; clear hK' K') | (intro hb; (try push_cast at hb); all_goals (intros; apply hK'; clear hK' K')) | ((first | refine call_F alive_con (fun _ => rfl) ?_ | refine call_new Blank_con 9100 ?_); push_cast; (repeat' refine And.intro ?_ ?_); all_goals (first | (apply hK'; clear hK' K') | (intros; apply hK'; clear hK' K') | (clear hK' K'; first | omega | skip))) | (clear hK' K'; first | omega | skip)))))
    | (intro hc; (try push_cast at hc)))
  refine go_loop2 [7, 26, 27, 28, 29, 30, 31, 32, 33, 34, 35, 36, 37, 38, 39, 40, 41, 42, 43, 44, 45, 46, 47] [7, 38, 39, 46, 9100] (fun (p : R08Disk × Nat) => p.2 ≤ deeds.length ∧ QI p.1 p.2) (fun (p : R08Disk × Nat) => [(26, .one (.l (.int .i64 p.2)))]) (fun (p : R08Disk × Nat) => [(9100, .obj DiskO p.1)]) (fun (p : R08Disk × Nat) => deeds.length - p.2) (dBlank 4, 0) ?_ (by push_cast; first | done | rfl) (by push_cast; first | done | rfl) ?_ ?_
  · exact ⟨Nat.zero_le _, qi_blank⟩
  · push_cast
  · rintro ⟨D, k⟩ ⟨hk, hb⟩
    simp only at hk hb
    push_cast
    intro hg
    have hq := hb.q
    repeat' (first
    | apply go_seq | apply go_block | apply go_region | apply go_skip | apply go_exit | apply go_label | apply go_ret
    | apply seqK_n | apply seqK_x | apply seqK_r | apply blockK_n | apply blockK_r | apply blockK_hit | apply blockK_miss rfl | apply loopK_x | apply loopK_r | apply regK_go | apply finK_n | apply finK_r
    | (refine vres_go ?_; push_cast) | apply ops_nil | refine ops_in (w_i64 _ (by omega) (by omega)) ?_ | refine ops_in (w_u8 _ (by omega) (by omega)) ?_ | refine ops_in (w_u32 _ (by omega) (by omega)) ?_ | refine ops_in (w_u64 _ (by omega) (by omega)) ?_
    | (refine ops_put rfl rfl ?_; intro K' hK'; push_cast; (repeat' refine And.intro ?_ ?_); all_goals (first | (apply hK'; clear hK' K') | (refine ⟨trivial, trivial, ?_⟩; apply hK'; clear hK' K') | (intro hb; (try push_cast at hb); all_goals (intros; apply hK'; clear hK' K')) | ((first | refine call_F painted_con (fun _ => rfl) ?_ | refine call_1 Put_con (fun _ _ => rfl) ?_ | refine call_1 Power_con (fun _ _ => rfl) ?_ | refine call_1 Get_con (fun _ _ => rfl) ?_ | refine call_1 Flush_con (fun _ _ => rfl) ?_ | refine call_1 Queue_con (fun _ _ => rfl) ?_); push_cast; (repeat' refine And.intro ?_ ?_); all_goals (first | (apply hK'; clear hK' K') | (intros; apply hK'; clear hK' K') | (clear hK' K'; first | omega | skip))) | (clear hK' K'; first | omega | skip)))
    | (refine ops_no rfl rfl ?_; intro K' hK'; push_cast; (repeat' refine And.intro ?_ ?_); all_goals (first | (apply hK'; clear hK' K') | (refine ⟨trivial, trivial, ?_⟩; apply hK'; clear hK' K') | (intro hb; (try push_cast at hb); all_goals (intros; apply hK'; clear hK' K')) | ((first | refine call_F painted_con (fun _ => rfl) ?_ | refine call_1 Put_con (fun _ _ => rfl) ?_ | refine call_1 Power_con (fun _ _ => rfl) ?_ | refine call_1 Get_con (fun _ _ => rfl) ?_ | refine call_1 Flush_con (fun _ _ => rfl) ?_ | refine call_1 Queue_con (fun _ _ => rfl) ?_); push_cast; (repeat' refine And.intro ?_ ?_); all_goals (first | (apply hK'; clear hK' K') | (intros; apply hK'; clear hK' K') | (clear hK' K'; first | omega | skip))) | (clear hK' K'; first | omega | skip)))
    | (refine go_cond (by push_cast; first | done | rfl) ?_ ?_ <;> intro hc <;> (try push_cast at hc))
    | (refine ops_gt rfl rfl rfl (by push_cast; first | done | rfl) ?_)
    | (refine ops_gb rfl rfl rfl (by push_cast; first | done | rfl) ?_ ?_; focus (intro hc; (try push_cast at hc); all_goals (intro K' hK'; push_cast; (repeat' refine And.intro ?_ ?_); all_goals (first | (apply hK'; clear hK' K') | (refine ⟨trivial, trivial, ?_⟩; apply hK'; clear hK' K') | (intro hb; (try push_cast at hb); all_goals (intros; apply hK'; clear hK' K')) | ((first | refine call_F painted_con (fun _ => rfl) ?_ | refine call_1 Put_con (fun _ _ => rfl) ?_ | refine call_1 Power_con (fun _ _ => rfl) ?_ | refine call_1 Get_con (fun _ _ => rfl) ?_ | refine call_1 Flush_con (fun _ _ => rfl) ?_ | refine call_1 Queue_con (fun _ _ => rfl) ?_); push_cast; (repeat' refine And.intro ?_ ?_); all_goals (first | (apply hK'; clear hK' K') | (intros; apply hK'; clear hK' K') | (clear hK' K'; first | omega | skip))) | (clear hK' K'; first | omega | skip)))))
    | refine go_draw (id := 10) [0, 1, 2, 3, 4] [6] [7] (.or 5 (.or 6 (.done) (.stop)) (.stop)) wide (by kernel_rfl) ?_
    | refine go_draw (id := 27) [0, 1, 2, 3, 4, 5, 6, 7, 8] [] [8, 11] (.done) wide (by kernel_rfl) ?_
    | apply goA_nil | apply goS_done | apply goS_stop
    | (refine goA_put rfl rfl rfl ?_; intro K' hK'; push_cast; (repeat' refine And.intro ?_ ?_); all_goals (first | (apply hK'; clear hK' K') | (refine ⟨trivial, trivial, ?_⟩; apply hK'; clear hK' K') | (intro hb; (try push_cast at hb); all_goals (intros; apply hK'; clear hK' K')) | ((first | refine call_F painted_con (fun _ => rfl) ?_ | refine call_1 Put_con (fun _ _ => rfl) ?_ | refine call_1 Power_con (fun _ _ => rfl) ?_ | refine call_1 Get_con (fun _ _ => rfl) ?_ | refine call_1 Flush_con (fun _ _ => rfl) ?_ | refine call_1 Queue_con (fun _ _ => rfl) ?_); push_cast; (repeat' refine And.intro ?_ ?_); all_goals (first | (apply hK'; clear hK' K') | (intros; apply hK'; clear hK' K') | (clear hK' K'; first | omega | skip))) | (clear hK' K'; first | omega | skip)))
    | (refine goS_free rfl rfl rfl ?_; intro K' hK'; push_cast; (repeat' refine And.intro ?_ ?_); all_goals (first | (apply hK'; clear hK' K') | (refine ⟨trivial, trivial, ?_⟩; apply hK'; clear hK' K') | (intro hb; (try push_cast at hb); all_goals (intros; apply hK'; clear hK' K')) | ((first | refine call_F painted_con (fun _ => rfl) ?_ | refine call_1 Put_con (fun _ _ => rfl) ?_ | refine call_1 Power_con (fun _ _ => rfl) ?_ | refine call_1 Get_con (fun _ _ => rfl) ?_ | refine call_1 Flush_con (fun _ _ => rfl) ?_ | refine call_1 Queue_con (fun _ _ => rfl) ?_); push_cast; (repeat' refine And.intro ?_ ?_); all_goals (first | (apply hK'; clear hK' K') | (intros; apply hK'; clear hK' K') | (clear hK' K'; first | omega | skip))) | (clear hK' K'; first | omega | skip)))
    | (refine goS_late rfl rfl rfl rfl ?_ ?_; rotate_left; focus (intro K' hK'; push_cast; (repeat' refine And.intro ?_ ?_); all_goals (first | (apply hK'; clear hK' K') | (refine ⟨trivial, trivial, ?_⟩; apply hK'; clear hK' K') | (intro hb; (try push_cast at hb); all_goals (intros; apply hK'; clear hK' K')) | ((first | refine call_F painted_con (fun _ => rfl) ?_ | refine call_1 Put_con (fun _ _ => rfl) ?_ | refine call_1 Power_con (fun _ _ => rfl) ?_ | refine call_1 Get_con (fun _ _ => rfl) ?_ | refine call_1 Flush_con (fun _ _ => rfl) ?_ | refine call_1 Queue_con (fun _ _ => rfl) ?_); push_cast; (repeat' refine And.intro ?_ ?_); all_goals (first | (apply hK'; clear hK' K') | (intros; apply hK'; clear hK' K') | (clear hK' K'; first | omega | skip))) | (clear hK' K'; first | omega | skip))))
    | (refine goS_late' rfl rfl rfl rfl ?_ ?_; rotate_left; focus (intro K' hK'; push_cast; (repeat' refine And.intro ?_ ?_); all_goals (first | (apply hK'; clear hK' K') | (refine ⟨trivial, trivial, ?_⟩; apply hK'; clear hK' K') | (intro hb; (try push_cast at hb); all_goals (intros; apply hK'; clear hK' K')) | ((first | refine call_F painted_con (fun _ => rfl) ?_ | refine call_1 Put_con (fun _ _ => rfl) ?_ | refine call_1 Power_con (fun _ _ => rfl) ?_ | refine call_1 Get_con (fun _ _ => rfl) ?_ | refine call_1 Flush_con (fun _ _ => rfl) ?_ | refine call_1 Queue_con (fun _ _ => rfl) ?_); push_cast; (repeat' refine And.intro ?_ ?_); all_goals (first | (apply hK'; clear hK' K') | (intros; apply hK'; clear hK' K') | (clear hK' K'; first | omega | skip))) | (clear hK' K'; first | omega | skip))))
    | (refine goS_hid rfl rfl rfl rfl ?_ ?_; rotate_left; focus (intro K' hK'; push_cast; (repeat' refine And.intro ?_ ?_); all_goals (first | (refine hK' _ _ _ _ _ (by push_cast) (by push_cast; first | done | rfl) ?_; clear hK' K') | ((first | refine call_F painted_con (fun _ => rfl) ?_ | refine call_1 Put_con (fun _ _ => rfl) ?_ | refine call_1 Power_con (fun _ _ => rfl) ?_ | refine call_1 Get_con (fun _ _ => rfl) ?_ | refine call_1 Flush_con (fun _ _ => rfl) ?_ | refine call_1 Queue_con (fun _ _ => rfl) ?_); push_cast; (repeat' refine And.intro ?_ ?_); all_goals (first | (refine hK' _ _ _ _ _ (by push_cast) (by push_cast; first | done | rfl) ?_; clear hK' K') | (intros; refine hK' _ _ _ _ _ (by push_cast) (by push_cast; first | done | rfl) ?_; clear hK' K') | (clear hK' K'; first | omega | skip))) | (clear hK' K'; first | omega | skip))))
    | (refine goA_gt rfl rfl rfl rfl (by push_cast; first | done | rfl) ?_)
    | (refine goA_gb rfl rfl rfl rfl (by push_cast; first | done | rfl) ?_ ?_; focus (intro hc; (try push_cast at hc); all_goals (intro K' hK'; push_cast; (repeat' refine And.intro ?_ ?_); all_goals (first | (apply hK'; clear hK' K') | (refine ⟨trivial, trivial, ?_⟩; apply hK'; clear hK' K') | (intro hb; (try push_cast at hb); all_goals (intros; apply hK'; clear hK' K')) | ((first | refine call_F painted_con (fun _ => rfl) ?_ | refine call_1 Put_con (fun _ _ => rfl) ?_ | refine call_1 Power_con (fun _ _ => rfl) ?_ | refine call_1 Get_con (fun _ _ => rfl) ?_ | refine call_1 Flush_con (fun _ _ => rfl) ?_ | refine call_1 Queue_con (fun _ _ => rfl) ?_); push_cast; (repeat' refine And.intro ?_ ?_); all_goals (first | (apply hK'; clear hK' K') | (intros; apply hK'; clear hK' K') | (clear hK' K'; first | omega | skip))) | (clear hK' K'; first | omega | skip)))))
    | (intro hc; (try push_cast at hc)))
    all_goals
      first
      | (exfalso; omega)
      | (refine loopK_m ((dPut D (deeds.getD k ⟨0, 0, 0, []⟩).N (paintL (deeds.getD k ⟨0, 0, 0, []⟩).Paint)).1, k + 1) ⟨by push_cast; omega, qi_put hb _ _⟩ (by push_cast; omega) ?_; focus (push_cast; done))
      | (refine loopK_m (dPower D (deeds.getD k ⟨0, 0, 0, []⟩).Keep, k + 1) ⟨by push_cast; omega, (qi_power hb _).mono (Nat.zero_le _)⟩ (by push_cast; omega) ?_; focus (push_cast; done))
      | (refine loopK_m (D, k + 1) ⟨by push_cast; omega, hb.mono (Nat.le_succ _)⟩ (by push_cast; omega) ?_; focus (push_cast; done))
      | skip
    have hlen : k = deeds.length := by omega
    refine go_loop2 [9, 49, 50, 51, 52, 53, 54, 55, 56, 57, 58, 59, 60] [8, 56] (fun (i : Nat) => i ≤ 4) (fun (i : Nat) => [(49, .one (.l (.int .i64 i)))]) (fun (i : Nat) => [(8, .segs [.dat (.arr 4 (.arr 64 (.int .u8))) ((List.range i).map (fun (j : Nat) => (dGet D j).1) ++ repl (4 - i) (repl 64 0))])]) (fun (i : Nat) => 4 - i) 0 ?_ (by push_cast; first | done | rfl) (by push_cast; first | done | rfl) ?_ ?_
    · omega
    · push_cast
      simp
    · intro i hi
      push_cast
      intro hg2
      have g1 : (dFlush D).2 = 0 := by rw [qi_flush hb]
      have g2 : (dFlush (dFlush D).1).2 = 0 := by rw [qi_flush hb, qi_flush (qi_land hb _)]
      have g3 : (dFlush (dFlush D).1).1.Queue.length = 0 := by rw [qi_flush hb, qi_flush (qi_land hb _)]; rfl
      repeat' (first
    | apply go_seq | apply go_block | apply go_region | apply go_skip | apply go_exit | apply go_label | apply go_ret
    | apply seqK_n | apply seqK_x | apply seqK_r | apply blockK_n | apply blockK_r | apply blockK_hit | apply blockK_miss rfl | apply loopK_x | apply loopK_r | apply regK_go | apply finK_n | apply finK_r
    | (refine vres_go ?_; push_cast) | apply ops_nil | refine ops_in (w_i64 _ (by omega) (by omega)) ?_ | refine ops_in (w_u8 _ (by omega) (by omega)) ?_ | refine ops_in (w_u32 _ (by omega) (by omega)) ?_ | refine ops_in (w_u64 _ (by omega) (by omega)) ?_
    | (refine ops_put rfl rfl ?_; intro K' hK'; push_cast; (repeat' refine And.intro ?_ ?_); all_goals (first | (apply hK'; clear hK' K') | (refine ⟨trivial, trivial, ?_⟩; apply hK'; clear hK' K') | (intro hb; (try push_cast at hb); all_goals (intros; apply hK'; clear hK' K')) | ((first | refine call_F painted_con (fun _ => rfl) ?_ | refine call_1 Put_con (fun _ _ => rfl) ?_ | refine call_1 Power_con (fun _ _ => rfl) ?_ | refine call_1 Get_con (fun _ _ => rfl) ?_ | refine call_1 Flush_con (fun _ _ => rfl) ?_ | refine call_1 Queue_con (fun _ _ => rfl) ?_); push_cast; (repeat' refine And.intro ?_ ?_); all_goals (first | (apply hK'; clear hK' K') | (intros; apply hK'; clear hK' K') | (clear hK' K'; first | omega | skip))) | (clear hK' K'; first | omega | skip)))
    | (refine ops_no rfl rfl ?_; intro K' hK'; push_cast; (repeat' refine And.intro ?_ ?_); all_goals (first | (apply hK'; clear hK' K') | (refine ⟨trivial, trivial, ?_⟩; apply hK'; clear hK' K') | (intro hb; (try push_cast at hb); all_goals (intros; apply hK'; clear hK' K')) | ((first | refine call_F painted_con (fun _ => rfl) ?_ | refine call_1 Put_con (fun _ _ => rfl) ?_ | refine call_1 Power_con (fun _ _ => rfl) ?_ | refine call_1 Get_con (fun _ _ => rfl) ?_ | refine call_1 Flush_con (fun _ _ => rfl) ?_ | refine call_1 Queue_con (fun _ _ => rfl) ?_); push_cast; (repeat' refine And.intro ?_ ?_); all_goals (first | (apply hK'; clear hK' K') | (intros; apply hK'; clear hK' K') | (clear hK' K'; first | omega | skip))) | (clear hK' K'; first | omega | skip)))
    | (refine go_cond (by push_cast; first | done | rfl) ?_ ?_ <;> intro hc <;> (try push_cast at hc))
    | (refine ops_gt rfl rfl rfl (by push_cast; first | done | rfl) ?_)
    | (refine ops_gb rfl rfl rfl (by push_cast; first | done | rfl) ?_ ?_; focus (intro hc; (try push_cast at hc); all_goals (intro K' hK'; push_cast; (repeat' refine And.intro ?_ ?_); all_goals (first | (apply hK'; clear hK' K') | (refine ⟨trivial, trivial, ?_⟩; apply hK'; clear hK' K') | (intro hb; (try push_cast at hb); all_goals (intros; apply hK'; clear hK' K')) | ((first | refine call_F painted_con (fun _ => rfl) ?_ | refine call_1 Put_con (fun _ _ => rfl) ?_ | refine call_1 Power_con (fun _ _ => rfl) ?_ | refine call_1 Get_con (fun _ _ => rfl) ?_ | refine call_1 Flush_con (fun _ _ => rfl) ?_ | refine call_1 Queue_con (fun _ _ => rfl) ?_); push_cast; (repeat' refine And.intro ?_ ?_); all_goals (first | (apply hK'; clear hK' K') | (intros; apply hK'; clear hK' K') | (clear hK' K'; first | omega | skip))) | (clear hK' K'; first | omega | skip)))))
    | refine go_draw (id := 10) [0, 1, 2, 3, 4] [6] [7] (.or 5 (.or 6 (.done) (.stop)) (.stop)) wide (by kernel_rfl) ?_
    | refine go_draw (id := 27) [0, 1, 2, 3, 4, 5, 6, 7, 8] [] [8, 11] (.done) wide (by kernel_rfl) ?_
    | apply goA_nil | apply goS_done | apply goS_stop
    | (refine goA_put rfl rfl rfl ?_; intro K' hK'; push_cast; (repeat' refine And.intro ?_ ?_); all_goals (first | (apply hK'; clear hK' K') | (refine ⟨trivial, trivial, ?_⟩; apply hK'; clear hK' K') | (intro hb; (try push_cast at hb); all_goals (intros; apply hK'; clear hK' K')) | ((first | refine call_F painted_con (fun _ => rfl) ?_ | refine call_1 Put_con (fun _ _ => rfl) ?_ | refine call_1 Power_con (fun _ _ => rfl) ?_ | refine call_1 Get_con (fun _ _ => rfl) ?_ | refine call_1 Flush_con (fun _ _ => rfl) ?_ | refine call_1 Queue_con (fun _ _ => rfl) ?_); push_cast; (repeat' refine And.intro ?_ ?_); all_goals (first | (apply hK'; clear hK' K') | (intros; apply hK'; clear hK' K') | (clear hK' K'; first | omega | skip))) | (clear hK' K'; first | omega | skip)))
    | (refine goS_free rfl rfl rfl ?_; intro K' hK'; push_cast; (repeat' refine And.intro ?_ ?_); all_goals (first | (apply hK'; clear hK' K') | (refine ⟨trivial, trivial, ?_⟩; apply hK'; clear hK' K') | (intro hb; (try push_cast at hb); all_goals (intros; apply hK'; clear hK' K')) | ((first | refine call_F painted_con (fun _ => rfl) ?_ | refine call_1 Put_con (fun _ _ => rfl) ?_ | refine call_1 Power_con (fun _ _ => rfl) ?_ | refine call_1 Get_con (fun _ _ => rfl) ?_ | refine call_1 Flush_con (fun _ _ => rfl) ?_ | refine call_1 Queue_con (fun _ _ => rfl) ?_); push_cast; (repeat' refine And.intro ?_ ?_); all_goals (first | (apply hK'; clear hK' K') | (intros; apply hK'; clear hK' K') | (clear hK' K'; first | omega | skip))) | (clear hK' K'; first | omega | skip)))
    | (refine goS_late rfl rfl rfl rfl ?_ ?_; rotate_left; focus (intro K' hK'; push_cast; (repeat' refine And.intro ?_ ?_); all_goals (first | (apply hK'; clear hK' K') | (refine ⟨trivial, trivial, ?_⟩; apply hK'; clear hK' K') | (intro hb; (try push_cast at hb); all_goals (intros; apply hK'; clear hK' K')) | ((first | refine call_F painted_con (fun _ => rfl) ?_ | refine call_1 Put_con (fun _ _ => rfl) ?_ | refine call_1 Power_con (fun _ _ => rfl) ?_ | refine call_1 Get_con (fun _ _ => rfl) ?_ | refine call_1 Flush_con (fun _ _ => rfl) ?_ | refine call_1 Queue_con (fun _ _ => rfl) ?_); push_cast; (repeat' refine And.intro ?_ ?_); all_goals (first | (apply hK'; clear hK' K') | (intros; apply hK'; clear hK' K') | (clear hK' K'; first | omega | skip))) | (clear hK' K'; first | omega | skip))))
    | (refine goS_late' rfl rfl rfl rfl ?_ ?_; rotate_left; focus (intro K' hK'; push_cast; (repeat' refine And.intro ?_ ?_); all_goals (first | (apply hK'; clear hK' K') | (refine ⟨trivial, trivial, ?_⟩; apply hK'; clear hK' K') | (intro hb; (try push_cast at hb); all_goals (intros; apply hK'; clear hK' K')) | ((first | refine call_F painted_con (fun _ => rfl) ?_ | refine call_1 Put_con (fun _ _ => rfl) ?_ | refine call_1 Power_con (fun _ _ => rfl) ?_ | refine call_1 Get_con (fun _ _ => rfl) ?_ | refine call_1 Flush_con (fun _ _ => rfl) ?_ | refine call_1 Queue_con (fun _ _ => rfl) ?_); push_cast; (repeat' refine And.intro ?_ ?_); all_goals (first | (apply hK'; clear hK' K') | (intros; apply hK'; clear hK' K') | (clear hK' K'; first | omega | skip))) | (clear hK' K'; first | omega | skip))))
    | (refine goS_hid rfl rfl rfl rfl ?_ ?_; rotate_left; focus (intro K' hK'; push_cast; (repeat' refine And.intro ?_ ?_); all_goals (first | (refine hK' _ _ _ _ _ (by push_cast) (by push_cast; first | done | rfl) ?_; clear hK' K') | ((first | refine call_F painted_con (fun _ => rfl) ?_ | refine call_1 Put_con (fun _ _ => rfl) ?_ | refine call_1 Power_con (fun _ _ => rfl) ?_ | refine call_1 Get_con (fun _ _ => rfl) ?_ | refine call_1 Flush_con (fun _ _ => rfl) ?_ | refine call_1 Queue_con (fun _ _ => rfl) ?_); push_cast; (repeat' refine And.intro ?_ ?_); all_goals (first | (refine hK' _ _ _ _ _ (by push_cast) (by push_cast; first | done | rfl) ?_; clear hK' K') | (intros; refine hK' _ _ _ _ _ (by push_cast) (by push_cast; first | done | rfl) ?_; clear hK' K') | (clear hK' K'; first | omega | skip))) | (clear hK' K'; first | omega | skip))))
    | (refine goA_gt rfl rfl rfl rfl (by push_cast; first | done | rfl) ?_)
    | (refine goA_gb rfl rfl rfl rfl (by push_cast; first | done | rfl) ?_ ?_; focus (intro hc; (try push_cast at hc); all_goals (intro K' hK'; push_cast; (repeat' refine And.intro ?_ ?_); all_goals (first | (apply hK'; clear hK' K') | (refine ⟨trivial, trivial, ?_⟩; apply hK'; clear hK' K') | (intro hb; (try push_cast at hb); all_goals (intros; apply hK'; clear hK' K')) | ((first | refine call_F painted_con (fun _ => rfl) ?_ | refine call_1 Put_con (fun _ _ => rfl) ?_ | refine call_1 Power_con (fun _ _ => rfl) ?_ | refine call_1 Get_con (fun _ _ => rfl) ?_ | refine call_1 Flush_con (fun _ _ => rfl) ?_ | refine call_1 Queue_con (fun _ _ => rfl) ?_); push_cast; (repeat' refine And.intro ?_ ?_); all_goals (first | (apply hK'; clear hK' K') | (intros; apply hK'; clear hK' K') | (clear hK' K'; first | omega | skip))) | (clear hK' K'; first | omega | skip)))))
    | (intro hc; (try push_cast at hc)))
      all_goals first | (exfalso; simp [g1, g2, g3] at *; done) | (exfalso; simp [g1] at *; done) | skip
      · refine loopK_m (i + 1) (by omega) (by omega) ?_
        push_cast
        have e := set_range (fun (j : Nat) => (dGet D j).1) (repl 64 0) 4 i (by omega)
        simpa using e
      · have e : i = 4 := by omega
        subst e
        refine go_loop2 [4, 10, 11, 12, 78, 79, 80, 81, 82, 83, 84, 85, 86, 87, 88, 89, 90, 91, 92, 93, 94, 95, 96] [11, 84] (fun (j : Nat) => j ≤ 4) (fun (j : Nat) => [(78, .one (.l (.int .i64 j)))]) (fun (j : Nat) => []) (fun (j : Nat) => 4 - j) 0 ?_ (by push_cast; first | done | rfl) (by push_cast; first | done | rfl) ?_ ?_
        · omega
        · push_cast
        · intro j hj
          push_cast
          intro hg3
          have hgt := fun h0 h1 => qi_get hb keep (j : Int) h0 h1
          repeat' (first
    | apply go_seq | apply go_block | apply go_region | apply go_skip | apply go_exit | apply go_label | apply go_ret
    | apply seqK_n | apply seqK_x | apply seqK_r | apply blockK_n | apply blockK_r | apply blockK_hit | apply blockK_miss rfl | apply loopK_x | apply loopK_r | apply regK_go | apply finK_n | apply finK_r
    | (refine vres_go ?_; push_cast) | apply ops_nil | refine ops_in (w_i64 _ (by omega) (by omega)) ?_ | refine ops_in (w_u8 _ (by omega) (by omega)) ?_ | refine ops_in (w_u32 _ (by omega) (by omega)) ?_ | refine ops_in (w_u64 _ (by omega) (by omega)) ?_
    | (refine ops_put rfl rfl ?_; intro K' hK'; push_cast; (repeat' refine And.intro ?_ ?_); all_goals (first | (apply hK'; clear hK' K') | (refine ⟨trivial, trivial, ?_⟩; apply hK'; clear hK' K') | (intro hb; (try push_cast at hb); all_goals (intros; apply hK'; clear hK' K')) | ((first | refine call_F painted_con (fun _ => rfl) ?_ | refine call_1 Put_con (fun _ _ => rfl) ?_ | refine call_1 Power_con (fun _ _ => rfl) ?_ | refine call_1 Get_con (fun _ _ => rfl) ?_ | refine call_1 Flush_con (fun _ _ => rfl) ?_ | refine call_1 Queue_con (fun _ _ => rfl) ?_); push_cast; (repeat' refine And.intro ?_ ?_); all_goals (first | (apply hK'; clear hK' K') | (intros; apply hK'; clear hK' K') | (clear hK' K'; first | omega | skip))) | (clear hK' K'; first | omega | skip)))
    | (refine ops_no rfl rfl ?_; intro K' hK'; push_cast; (repeat' refine And.intro ?_ ?_); all_goals (first | (apply hK'; clear hK' K') | (refine ⟨trivial, trivial, ?_⟩; apply hK'; clear hK' K') | (intro hb; (try push_cast at hb); all_goals (intros; apply hK'; clear hK' K')) | ((first | refine call_F painted_con (fun _ => rfl) ?_ | refine call_1 Put_con (fun _ _ => rfl) ?_ | refine call_1 Power_con (fun _ _ => rfl) ?_ | refine call_1 Get_con (fun _ _ => rfl) ?_ | refine call_1 Flush_con (fun _ _ => rfl) ?_ | refine call_1 Queue_con (fun _ _ => rfl) ?_); push_cast; (repeat' refine And.intro ?_ ?_); all_goals (first | (apply hK'; clear hK' K') | (intros; apply hK'; clear hK' K') | (clear hK' K'; first | omega | skip))) | (clear hK' K'; first | omega | skip)))
    | (refine go_cond (by push_cast; first | done | rfl) ?_ ?_ <;> intro hc <;> (try push_cast at hc))
    | (refine ops_gt rfl rfl rfl (by push_cast; first | done | rfl) ?_)
    | (refine ops_gb rfl rfl rfl (by push_cast; first | done | rfl) ?_ ?_; focus (intro hc; (try push_cast at hc); all_goals (intro K' hK'; push_cast; (repeat' refine And.intro ?_ ?_); all_goals (first | (apply hK'; clear hK' K') | (refine ⟨trivial, trivial, ?_⟩; apply hK'; clear hK' K') | (intro hb; (try push_cast at hb); all_goals (intros; apply hK'; clear hK' K')) | ((first | refine call_F painted_con (fun _ => rfl) ?_ | refine call_1 Put_con (fun _ _ => rfl) ?_ | refine call_1 Power_con (fun _ _ => rfl) ?_ | refine call_1 Get_con (fun _ _ => rfl) ?_ | refine call_1 Flush_con (fun _ _ => rfl) ?_ | refine call_1 Queue_con (fun _ _ => rfl) ?_); push_cast; (repeat' refine And.intro ?_ ?_); all_goals (first | (apply hK'; clear hK' K') | (intros; apply hK'; clear hK' K') | (clear hK' K'; first | omega | skip))) | (clear hK' K'; first | omega | skip)))))
    | refine go_draw (id := 10) [0, 1, 2, 3, 4] [6] [7] (.or 5 (.or 6 (.done) (.stop)) (.stop)) wide (by kernel_rfl) ?_
    | refine go_draw (id := 27) [0, 1, 2, 3, 4, 5, 6, 7, 8] [] [8, 11] (.done) wide (by kernel_rfl) ?_
    | apply goA_nil | apply goS_done | apply goS_stop
    | (refine goA_put rfl rfl rfl ?_; intro K' hK'; push_cast; (repeat' refine And.intro ?_ ?_); all_goals (first | (apply hK'; clear hK' K') | (refine ⟨trivial, trivial, ?_⟩; apply hK'; clear hK' K') | (intro hb; (try push_cast at hb); all_goals (intros; apply hK'; clear hK' K')) | ((first | refine call_F painted_con (fun _ => rfl) ?_ | refine call_1 Put_con (fun _ _ => rfl) ?_ | refine call_1 Power_con (fun _ _ => rfl) ?_ | refine call_1 Get_con (fun _ _ => rfl) ?_ | refine call_1 Flush_con (fun _ _ => rfl) ?_ | refine call_1 Queue_con (fun _ _ => rfl) ?_); push_cast; (repeat' refine And.intro ?_ ?_); all_goals (first | (apply hK'; clear hK' K') | (intros; apply hK'; clear hK' K') | (clear hK' K'; first | omega | skip))) | (clear hK' K'; first | omega | skip)))
    | (refine goS_free rfl rfl rfl ?_; intro K' hK'; push_cast; (repeat' refine And.intro ?_ ?_); all_goals (first | (apply hK'; clear hK' K') | (refine ⟨trivial, trivial, ?_⟩; apply hK'; clear hK' K') | (intro hb; (try push_cast at hb); all_goals (intros; apply hK'; clear hK' K')) | ((first | refine call_F painted_con (fun _ => rfl) ?_ | refine call_1 Put_con (fun _ _ => rfl) ?_ | refine call_1 Power_con (fun _ _ => rfl) ?_ | refine call_1 Get_con (fun _ _ => rfl) ?_ | refine call_1 Flush_con (fun _ _ => rfl) ?_ | refine call_1 Queue_con (fun _ _ => rfl) ?_); push_cast; (repeat' refine And.intro ?_ ?_); all_goals (first | (apply hK'; clear hK' K') | (intros; apply hK'; clear hK' K') | (clear hK' K'; first | omega | skip))) | (clear hK' K'; first | omega | skip)))
    | (refine goS_late rfl rfl rfl rfl ?_ ?_; rotate_left; focus (intro K' hK'; push_cast; (repeat' refine And.intro ?_ ?_); all_goals (first | (apply hK'; clear hK' K') | (refine ⟨trivial, trivial, ?_⟩; apply hK'; clear hK' K') | (intro hb; (try push_cast at hb); all_goals (intros; apply hK'; clear hK' K')) | ((first | refine call_F painted_con (fun _ => rfl) ?_ | refine call_1 Put_con (fun _ _ => rfl) ?_ | refine call_1 Power_con (fun _ _ => rfl) ?_ | refine call_1 Get_con (fun _ _ => rfl) ?_ | refine call_1 Flush_con (fun _ _ => rfl) ?_ | refine call_1 Queue_con (fun _ _ => rfl) ?_); push_cast; (repeat' refine And.intro ?_ ?_); all_goals (first | (apply hK'; clear hK' K') | (intros; apply hK'; clear hK' K') | (clear hK' K'; first | omega | skip))) | (clear hK' K'; first | omega | skip))))
    | (refine goS_late' rfl rfl rfl rfl ?_ ?_; rotate_left; focus (intro K' hK'; push_cast; (repeat' refine And.intro ?_ ?_); all_goals (first | (apply hK'; clear hK' K') | (refine ⟨trivial, trivial, ?_⟩; apply hK'; clear hK' K') | (intro hb; (try push_cast at hb); all_goals (intros; apply hK'; clear hK' K')) | ((first | refine call_F painted_con (fun _ => rfl) ?_ | refine call_1 Put_con (fun _ _ => rfl) ?_ | refine call_1 Power_con (fun _ _ => rfl) ?_ | refine call_1 Get_con (fun _ _ => rfl) ?_ | refine call_1 Flush_con (fun _ _ => rfl) ?_ | refine call_1 Queue_con (fun _ _ => rfl) ?_); push_cast; (repeat' refine And.intro ?_ ?_); all_goals (first | (apply hK'; clear hK' K') | (intros; apply hK'; clear hK' K') | (clear hK' K'; first | omega | skip))) | (clear hK' K'; first | omega | skip))))
    | (refine goS_hid rfl rfl rfl rfl ?_ ?_; rotate_left; focus (intro K' hK'; push_cast; (repeat' refine And.intro ?_ ?_); all_goals (first | (refine hK' _ _ _ _ _ (by push_cast) (by push_cast; first | done | rfl) ?_; clear hK' K') | ((first | refine call_F painted_con (fun _ => rfl) ?_ | refine call_1 Put_con (fun _ _ => rfl) ?_ | refine call_1 Power_con (fun _ _ => rfl) ?_ | refine call_1 Get_con (fun _ _ => rfl) ?_ | refine call_1 Flush_con (fun _ _ => rfl) ?_ | refine call_1 Queue_con (fun _ _ => rfl) ?_); push_cast; (repeat' refine And.intro ?_ ?_); all_goals (first | (refine hK' _ _ _ _ _ (by push_cast) (by push_cast; first | done | rfl) ?_; clear hK' K') | (intros; refine hK' _ _ _ _ _ (by push_cast) (by push_cast; first | done | rfl) ?_; clear hK' K') | (clear hK' K'; first | omega | skip))) | (clear hK' K'; first | omega | skip))))
    | (refine goS_hid' rfl rfl rfl rfl ?_ ?_; rotate_left; focus (intro K' hK'; push_cast; (repeat' refine And.intro ?_ ?_); all_goals (first | (refine hK' _ _ _ _ _ (by push_cast) (by push_cast; first | done | rfl) ?_; clear hK' K') | ((first | refine call_F painted_con (fun _ => rfl) ?_ | refine call_1 Put_con (fun _ _ => rfl) ?_ | refine call_1 Power_con (fun _ _ => rfl) ?_ | refine call_1 Get_con (fun _ _ => rfl) ?_ | refine call_1 Flush_con (fun _ _ => rfl) ?_ | refine call_1 Queue_con (fun _ _ => rfl) ?_); push_cast; (repeat' refine And.intro ?_ ?_); all_goals (first | (refine hK' _ _ _ _ _ (by push_cast) (by push_cast; first | done | rfl) ?_; clear hK' K') | (intros; refine hK' _ _ _ _ _ (by push_cast) (by push_cast; first | done | rfl) ?_; clear hK' K') | (clear hK' K'; first | omega | skip))) | (clear hK' K'; first | omega | skip))))
    | (refine goS_freet rfl rfl rfl rfl (by push_cast; first | done | rfl) ?_)
    | (refine goS_freeb rfl rfl rfl rfl (by push_cast; first | done | rfl) ?_ ?_; focus (intro hc; (try push_cast at hc); all_goals (intro K' hK'; push_cast; (repeat' refine And.intro ?_ ?_); all_goals (first | (apply hK'; clear hK' K') | (refine ⟨trivial, trivial, ?_⟩; apply hK'; clear hK' K') | (intro hb; (try push_cast at hb); all_goals (intros; apply hK'; clear hK' K')) | ((first | refine call_F painted_con (fun _ => rfl) ?_ | refine call_1 Put_con (fun _ _ => rfl) ?_ | refine call_1 Power_con (fun _ _ => rfl) ?_ | refine call_1 Get_con (fun _ _ => rfl) ?_ | refine call_1 Flush_con (fun _ _ => rfl) ?_ | refine call_1 Queue_con (fun _ _ => rfl) ?_); push_cast; (repeat' refine And.intro ?_ ?_); all_goals (first | (apply hK'; clear hK' K') | (intros; apply hK'; clear hK' K') | (clear hK' K'; first | omega | skip))) | (clear hK' K'; first | omega | skip)))))
    | (refine goS_hidt rfl rfl rfl rfl (by push_cast; first | done | rfl) ?_ ?_)
    | (refine goS_hidb rfl rfl rfl rfl rfl (by push_cast; first | done | rfl) ?_ ?_ ?_; focus (intro hc; (try push_cast at hc); all_goals (intro K' hK'; push_cast; (repeat' refine And.intro ?_ ?_); all_goals (first | (refine hK' _ _ _ _ _ (by push_cast) (by push_cast; first | done | rfl) ?_; clear hK' K') | ((first | refine call_F painted_con (fun _ => rfl) ?_ | refine call_1 Put_con (fun _ _ => rfl) ?_ | refine call_1 Power_con (fun _ _ => rfl) ?_ | refine call_1 Get_con (fun _ _ => rfl) ?_ | refine call_1 Flush_con (fun _ _ => rfl) ?_ | refine call_1 Queue_con (fun _ _ => rfl) ?_); push_cast; (repeat' refine And.intro ?_ ?_); all_goals (first | (refine hK' _ _ _ _ _ (by push_cast) (by push_cast; first | done | rfl) ?_; clear hK' K') | (intros; refine hK' _ _ _ _ _ (by push_cast) (by push_cast; first | done | rfl) ?_; clear hK' K') | (clear hK' K'; first | omega | skip))) | (clear hK' K'; first | omega | skip)))))
    | (refine goA_gt rfl rfl rfl rfl (by push_cast; first | done | rfl) ?_)
    | (refine goA_gb rfl rfl rfl rfl (by push_cast; first | done | rfl) ?_ ?_; focus (intro hc; (try push_cast at hc); all_goals (intro K' hK'; push_cast; (repeat' refine And.intro ?_ ?_); all_goals (first | (apply hK'; clear hK' K') | (refine ⟨trivial, trivial, ?_⟩; apply hK'; clear hK' K') | (intro hb; (try push_cast at hb); all_goals (intros; apply hK'; clear hK' K')) | ((first | refine call_F painted_con (fun _ => rfl) ?_ | refine call_1 Put_con (fun _ _ => rfl) ?_ | refine call_1 Power_con (fun _ _ => rfl) ?_ | refine call_1 Get_con (fun _ _ => rfl) ?_ | refine call_1 Flush_con (fun _ _ => rfl) ?_ | refine call_1 Queue_con (fun _ _ => rfl) ?_); push_cast; (repeat' refine And.intro ?_ ?_); all_goals (first | (apply hK'; clear hK' K') | (intros; apply hK'; clear hK' K') | (clear hK' K'; first | omega | skip))) | (clear hK' K'; first | omega | skip)))))
    | (intro hc; (try push_cast at hc)))
          all_goals
            first
            | (refine loopK_m (j + 1) (by omega) (by omega) ?_; focus (push_cast; done))
            | (exfalso
               have h := hgt (by omega) (by omega)
               have hl := range_get (fun (i : Nat) => (dGet D i).1) 4 (repl 0 (repl 64 0)) (repl 64 0) j (by omega)
               simp only [h, hl] at *
               simp at *
               done)
            | trace_state
theorem quiet_con : Con Cx.P 6 (.pair (.slice rL08Deed) (.pair (.slice (.int .i64)) (.unit))) (fun x => (fun (deeds : List L08Deed) (keep : List Int) => True) x.1 x.2.1) (fun x => (fun (deeds : List L08Deed) (keep : List Int) => [.bool true]) x.1 x.2.1) := ⟨isfn6, fun x h => quiet_fn x.1 x.2.1⟩
end Go.Proofs.Ytnmjcdlgfimnaaa
