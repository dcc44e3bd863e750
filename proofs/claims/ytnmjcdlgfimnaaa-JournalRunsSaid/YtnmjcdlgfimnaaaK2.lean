/- Chapters 6 and 10 in the document, as chapter 12 uses them. -/
import Derived.Test.YtnmjcdlgfimnaaaS5
import Derived.Test.YtnmjcdlgfimnaaaJ1
namespace Go.Proofs.Ytnmjcdlgfimnaaa
def logR (L : LogS) : Qdb := ⟨L.D, L.a, L.e, L.st⟩
def logO (l : Qdb) : LogS := ⟨l.Disk, l.At, l.End, l.Stamp⟩
def oneB (b : Int) : Nat → Int
 | 0 => 0
 | _ + 1 => b
section
set_option linter.unusedSimpArgs false
set_option linter.unusedVariables false
set_option maxRecDepth 20000
attribute [local irreducible] Qb3 Qa9 vcA Qbp Wc
set_option maxHeartbeats 8000000
theorem r06Num_fn (n : Int) (hpre : n < 128) : Qck Cx.P 111 [.int .u64 n] [.dat (.slice (.int .u8)) [n]] := by
 refine Qck.go2 (E := Cx.env) (fn := Try.f111) (res := [_]) Try.func111 Qpi rfl rfl rfl (by kernel_rfl) rfl ?_
 push_cast
 try intro hf
 have hw : IntKind.u8.wrap n = n := Qb0 _ (by omega) (by omega)
 repeat' (first
 | (intro (K' : KT) hK'; push_cast; (repeat' refine And.intro ?_ ?_); all_goals (first | (apply hK'; clear hK' K') | (refine ⟨trivial, trivial, ?_⟩; apply hK'; clear hK' K') | (intro hb; (try push_cast at hb); all_goals (intros; apply hK'; clear hK' K')) | (clear hK' K'; first | omega | skip)))
 | apply Qar | apply Qac | apply Qah | apply Qaj | apply Qau
 | apply Qap | apply Qax | apply Qas | apply Qam | apply Qaz | apply Qay
 | (refine Qaf ?_; push_cast) | apply Qag | refine Qaa (Qa3 _ (by omega) (by omega)) ?_ | refine Qaa (Qb0 _ (by omega) (by omega)) ?_ | refine Qaa (Qba _ (by omega) (by omega)) ?_ | refine Qaa (Qa5 _ (by omega) (by omega)) ?_
 | refine Qai rfl rfl ?_ | refine Qat rfl rfl ?_
 | (refine Qak (by push_cast; first | done | rfl) ?_ ?_ <;> intro hc <;> (try push_cast at hc))
 | refine Qaw rfl rfl rfl (by push_cast; first | done | rfl) ?_
 | refine Qav rfl rfl rfl (by push_cast; first | done | rfl) ?_ ?_
 | (intro (hc : (_ : Prop)); (try push_cast at hc)) | intro (hc : Qad) | intro (hc : Int) | intro (hc : Nat))
 exfalso; omega
theorem r06Num_con : Con Cx.P 111 (.pair (.int .u64) (.unit)) (fun x => (fun (n : Int) => n < 128) x.1) (fun x => (fun (n : Int) => [.dat (.slice (.int .u8)) [n]]) x.1) := ⟨Qpi, fun x h => r06Num_fn x.1 h⟩
theorem r06TakeNum_fn (r : Qcl) (hpre : 0 < r.Bytes.length ∧ r.Bytes.length ≤ 1000000 ∧ r.Bytes.getD 0 0 < 128) : Qck Cx.P 112 [.dat Qbs r] [.dat Qbs ⟨r.Bytes.drop 1, false⟩, .int .u64 (r.Bytes.getD 0 0)] := by
 refine Qck.go2 (E := Cx.env) (fn := Try.f112) (res := [_, _]) Try.func112 Qsk rfl rfl rfl (by kernel_rfl) rfl ?_
 push_cast
 try intro hf
 obtain ⟨l, fl⟩ := r
 simp only at hpre ⊢
 have hfb : 0 ≤ l.getD 0 0 ∧ l.getD 0 0 ≤ 255 := by
  have := hf.2 _ (getD_mem l 0 0 (by omega))
  exact ⟨this.1, this.2⟩
 have htk : l.take 1 = [l.getD 0 0] := by
  match l, hpre.1 with
  | x :: t, _ => rfl
 repeat' (first
 | (intro (K' : KT) hK'; push_cast; (repeat' refine And.intro ?_ ?_); all_goals (first | (apply hK'; clear hK' K') | (refine ⟨trivial, trivial, ?_⟩; apply hK'; clear hK' K') | (intro hb; (try push_cast at hb); all_goals (intros; apply hK'; clear hK' K')) | (clear hK' K'; first | omega | skip)))
 | apply Qar | apply Qa0 | apply Qac | apply Qah | apply Qaj | apply Qau
 | apply Qap | apply Qax | apply Qas | apply Qaq | apply Qa1 | apply Qal | apply Qae rfl | apply Qa6 | apply Qa7 | apply Qam | apply Qaz | apply Qay
 | (refine Qaf ?_; push_cast) | apply Qag | refine Qaa (Qa3 _ (by omega) (by omega)) ?_ | refine Qaa (Qb0 _ (by omega) (by omega)) ?_ | refine Qaa (Qba _ (by omega) (by omega)) ?_ | refine Qaa (Qa5 _ (by omega) (by omega)) ?_
 | refine Qai rfl rfl ?_ | refine Qat rfl rfl ?_
 | (refine Qak (by push_cast; first | done | rfl) ?_ ?_ <;> intro hc <;> (try push_cast at hc))
 | refine Qaw rfl rfl rfl (by push_cast; first | done | rfl) ?_
 | refine Qav rfl rfl rfl (by push_cast; first | done | rfl) ?_ ?_
 | refine Qbf (id := 9) [0, 3, 4, 5, 6, 7] [] [1] (.or 1 (.or 2 (.free 8 (.done)) (.stop)) (.stop)) wide (by kernel_rfl) ?_
 | apply Qby | apply Qbk | apply Qbn
 | refine Qbx rfl rfl rfl ?_ | refine Qbl rfl rfl rfl ?_
 | (refine Qbm rfl rfl rfl rfl ?_ ?_; rotate_left) | (refine Qbe rfl rfl rfl rfl ?_ ?_; rotate_left)
 | (refine Qbz rfl rfl rfl rfl ?_ ?_; rotate_left; focus (intro K' hK'; push_cast; (repeat' refine And.intro ?_ ?_); all_goals (first | (refine hK' _ _ _ _ _ (by push_cast) (by push_cast; first | done | rfl) ?_; clear hK' K') | (clear hK' K'; first | omega | skip))))
 | refine Qcc rfl rfl rfl rfl (by push_cast; first | done | rfl) ?_
 | refine Qcd rfl rfl rfl rfl (by push_cast; first | done | rfl) ?_ ?_
 | (intro (hc : (_ : Prop)); (try push_cast at hc)) | intro (hc : Qad) | intro (hc : Int) | intro (hc : Nat))
 refine Qbu [3, 4, 5, 6, 7, 8, 9, 10, 11, 12, 13, 14, 15, 16, 17, 18, 19, 20, 21, 22, 23, 24, 25, 26, 27, 28, 29, 30, 31, 32, 33, 34, 35, 36, 37, 38, 39, 40, 41, 42, 43, 44, 45, 46, 47, 48] [13, 32, 35, 36, 41] (fun (i : Nat) => i = 0) (fun (i : Nat) => [(4, .one (.l (.int .i64 1)))]) (fun (i : Nat) => []) (fun (i : Nat) => 1) 0 ?_ (by push_cast; first | done | rfl) (by push_cast; first | done | rfl) ?_ ?_
 ·rfl
 ·push_cast
  first | done | rfl
 ·rintro i rfl
  push_cast
  intro hg
  repeat' (first
 | (intro (K' : KT) hK'; push_cast; (repeat' refine And.intro ?_ ?_); all_goals (first | (apply hK'; clear hK' K') | (refine ⟨trivial, trivial, ?_⟩; apply hK'; clear hK' K') | (intro hb; (try push_cast at hb); all_goals (intros; apply hK'; clear hK' K')) | (clear hK' K'; first | omega | skip)))
 | apply Qar | apply Qa0 | apply Qac | apply Qah | apply Qaj | apply Qau
 | apply Qap | apply Qax | apply Qas | apply Qaq | apply Qa1 | apply Qal | apply Qae rfl | apply Qa6 | apply Qa7 | apply Qam | apply Qaz | apply Qay
 | (refine Qaf ?_; push_cast) | apply Qag | refine Qaa (Qa3 _ (by omega) (by omega)) ?_ | refine Qaa (Qb0 _ (by omega) (by omega)) ?_ | refine Qaa (Qba _ (by omega) (by omega)) ?_ | refine Qaa (Qa5 _ (by omega) (by omega)) ?_
 | refine Qai rfl rfl ?_ | refine Qat rfl rfl ?_
 | (refine Qak (by push_cast; first | done | rfl) ?_ ?_ <;> intro hc <;> (try push_cast at hc))
 | refine Qaw rfl rfl rfl (by push_cast; first | done | rfl) ?_
 | refine Qav rfl rfl rfl (by push_cast; first | done | rfl) ?_ ?_
 | refine Qbf (id := 9) [0, 3, 4, 5, 6, 7] [] [1] (.or 1 (.or 2 (.free 8 (.done)) (.stop)) (.stop)) wide (by kernel_rfl) ?_
 | apply Qby | apply Qbk | apply Qbn
 | refine Qbx rfl rfl rfl ?_ | refine Qbl rfl rfl rfl ?_
 | (refine Qbm rfl rfl rfl rfl ?_ ?_; rotate_left) | (refine Qbe rfl rfl rfl rfl ?_ ?_; rotate_left)
 | (refine Qbz rfl rfl rfl rfl ?_ ?_; rotate_left; focus (intro K' hK'; push_cast; (repeat' refine And.intro ?_ ?_); all_goals (first | (refine hK' _ _ _ _ _ (by push_cast) (by push_cast; first | done | rfl) ?_; clear hK' K') | (clear hK' K'; first | omega | skip))))
 | refine Qcc rfl rfl rfl rfl (by push_cast; first | done | rfl) ?_
 | refine Qcd rfl rfl rfl rfl (by push_cast; first | done | rfl) ?_ ?_
 | (intro (hc : (_ : Prop)); (try push_cast at hc)) | intro (hc : Qad) | intro (hc : Int) | intro (hc : Nat))
  refine Qbu [5, 6, 20, 21, 22, 23, 24, 25, 26, 27, 28, 29, 30, 31, 32, 33] [32] (fun (k : Nat) => k ≤ 1) (fun (k : Nat) => [(6, .one (.l (.int .i64 (-(k : Int))))), (5, .one (.l (.int .u64 (oneB (l.getD 0 0) k))))]) (fun (k : Nat) => []) (fun (k : Nat) => 1 - k) 0 ?_ (by push_cast; first | done | rfl) (by push_cast; first | done | rfl) ?_ ?_
  ·omega
  ·push_cast
   first | done | rfl
  ·intro k hk
   push_cast
   intro hg2
   have hk1 : ¬ 0 ≤ -(k : Int) → oneB (l.getD 0 0) k = l.getD 0 0 := fun h => by
    have : k = 1 := by omega
    rw [this]
    rfl
   repeat' (first
 | (intro (K' : KT) hK'; push_cast; (repeat' refine And.intro ?_ ?_); all_goals (first | (apply hK'; clear hK' K') | (refine ⟨trivial, trivial, ?_⟩; apply hK'; clear hK' K') | (intro hb; (try push_cast at hb); all_goals (intros; apply hK'; clear hK' K')) | ((first | refine Qbg r06Num_con (fun _ => rfl) ?_); push_cast; (repeat' refine And.intro ?_ ?_); all_goals (first | (apply hK'; clear hK' K') | (intros; apply hK'; clear hK' K') | (clear hK' K'; first | omega | skip))) | (clear hK' K'; first | omega | skip)))
 | apply Qar | apply Qa0 | apply Qac | apply Qah | apply Qaj | apply Qau
 | apply Qap | apply Qax | apply Qas | apply Qaq | apply Qa1 | apply Qal | apply Qae rfl | apply Qa6 | apply Qa7 | apply Qam | apply Qaz | apply Qay
 | (refine Qaf ?_; push_cast) | apply Qag | refine Qaa (Qa3 _ (by omega) (by omega)) ?_ | refine Qaa (Qb0 _ (by omega) (by omega)) ?_ | refine Qaa (Qba _ (by omega) (by omega)) ?_ | refine Qaa (Qa5 _ (by omega) (by omega)) ?_
 | refine Qai rfl rfl ?_ | refine Qat rfl rfl ?_
 | (refine Qak (by push_cast; first | done | rfl) ?_ ?_ <;> intro hc <;> (try push_cast at hc))
 | refine Qaw rfl rfl rfl (by push_cast; first | done | rfl) ?_
 | refine Qav rfl rfl rfl (by push_cast; first | done | rfl) ?_ ?_
 | refine Qbf (id := 9) [0, 3, 4, 5, 6, 7] [] [1] (.or 1 (.or 2 (.free 8 (.done)) (.stop)) (.stop)) wide (by kernel_rfl) ?_
 | apply Qby | apply Qbk | apply Qbn
 | refine Qbx rfl rfl rfl ?_ | refine Qbl rfl rfl rfl ?_
 | (refine Qbm rfl rfl rfl rfl ?_ ?_; rotate_left) | (refine Qbe rfl rfl rfl rfl ?_ ?_; rotate_left)
 | (refine Qbz rfl rfl rfl rfl ?_ ?_; rotate_left; focus (intro K' hK'; push_cast; (repeat' refine And.intro ?_ ?_); all_goals (first | (refine hK' _ _ _ _ _ (by push_cast) (by push_cast; first | done | rfl) ?_; clear hK' K') | ((first | refine Qbg r06Num_con (fun _ => rfl) ?_); push_cast; (repeat' refine And.intro ?_ ?_); all_goals (first | (refine hK' _ _ _ _ _ (by push_cast) (by push_cast; first | done | rfl) ?_; clear hK' K') | (intros; refine hK' _ _ _ _ _ (by push_cast) (by push_cast; first | done | rfl) ?_; clear hK' K') | (clear hK' K'; first | omega | skip))) | (clear hK' K'; first | omega | skip))))
 | refine Qcc rfl rfl rfl rfl (by push_cast; first | done | rfl) ?_
 | refine Qcd rfl rfl rfl rfl (by push_cast; first | done | rfl) ?_ ?_
 | (intro (hc : (_ : Prop)); (try push_cast at hc)) | intro (hc : Qad) | intro (hc : Int) | intro (hc : Nat))
   ·have ek : k = 0 := by omega
    subst ek
    have e1 : (l.getD 0 0).tmod 128 = l.getD 0 0 := Int.tmod_eq_of_lt hfb.1 hpre.2.2
    have e0 : IntKind.u64.wrap (IntKind.u64.wrap (oneB (l.getD 0 0) 0 * 128) + IntKind.u64.wrap ((l.getD (-((0 : Nat) : Int)).toNat 0).tmod 128)) = oneB (l.getD 0 0) 1 := by
     show IntKind.u64.wrap (IntKind.u64.wrap (0 * 128) + IntKind.u64.wrap ((l.getD 0 0).tmod 128)) = l.getD 0 0
     rw [e1, Qa5 (l.getD 0 0) (by omega) (by omega), Qa5 (0 * 128) (by decide) (by decide), Qa5 _ (by omega) (by omega)]
     omega
    rw [e0]
    refine Qbv 1 (by omega) (by omega) ?_
    push_cast
   ·rw [List.take_length]
    exact ⟨rfl, hk1 ‹_›⟩
   ·exfalso
    rw [hk1 ‹_›, htk] at hc
    simp at hc
  ·exfalso; omega
theorem r06TakeNum_con : Con Cx.P 112 (.pair Qbs (.unit)) (fun x => (fun (r : Qcl) => 0 < r.Bytes.length ∧ r.Bytes.length ≤ 1000000 ∧ r.Bytes.getD 0 0 < 128) x.1) (fun x => (fun (r : Qcl) => [.dat Qbs ⟨r.Bytes.drop 1, false⟩, .int .u64 (r.Bytes.getD 0 0)]) x.1) := ⟨Qsk, fun x h => r06TakeNum_fn x.1 h⟩
end
end Go.Proofs.Ytnmjcdlgfimnaaa
namespace Go.Proofs.Ytnmjcdlgfimnaaa
section
set_option linter.unusedSimpArgs false
set_option linter.unusedVariables false
set_option maxRecDepth 20000
attribute [local irreducible] Qb3 Qa9 vcA Qbp Wc
set_option maxHeartbeats 8000000
attribute [local push_cast] openL
theorem r10Need_fn (n : Int) : Qck Cx.P 121 [.int .i64 n] [.int .i64 (needN n)] := by
 refine Qck.go2 (E := Cx.env) (fn := Try.f121) (res := [_]) Try.func121 Qrl rfl rfl rfl (by kernel_rfl) rfl ?_
 push_cast
 try intro hf
 repeat' (first
 | (intro (K' : KT) hK'; push_cast; (repeat' refine And.intro ?_ ?_); all_goals (first | (apply hK'; clear hK' K') | (refine ⟨trivial, trivial, ?_⟩; apply hK'; clear hK' K') | (intro hb; (try push_cast at hb); all_goals (intros; apply hK'; clear hK' K')) | ((first | refine Qbi r09Span_con (fun _ => rfl) ?_); push_cast; (repeat' refine And.intro ?_ ?_); all_goals (first | (apply hK'; clear hK' K') | (intros; apply hK'; clear hK' K') | (clear hK' K'; first | omega | skip))) | (clear hK' K'; first | omega | skip)))
 | apply Qar | apply Qac | apply Qah | apply Qaj | apply Qau
 | apply Qap | apply Qax | apply Qas | apply Qam | apply Qaz | apply Qay
 | (refine Qaf ?_; push_cast) | apply Qag | refine Qaa (Qa3 _ (by omega) (by omega)) ?_ | refine Qaa (Qb0 _ (by omega) (by omega)) ?_ | refine Qaa (Qba _ (by omega) (by omega)) ?_ | refine Qaa (Qa5 _ (by omega) (by omega)) ?_
 | refine Qai rfl rfl ?_ | refine Qat rfl rfl ?_
 | (refine Qak (by push_cast; first | done | rfl) ?_ ?_ <;> intro hc <;> (try push_cast at hc))
 | refine Qaw rfl rfl rfl (by push_cast; first | done | rfl) ?_
 | refine Qav rfl rfl rfl (by push_cast; first | done | rfl) ?_ ?_
 | (intro (hc : (_ : Prop)); (try push_cast at hc)) | intro (hc : Qad) | intro (hc : Int) | intro (hc : Nat))
 ·unfold needN
  rw [if_pos (by omega)]
 ·unfold needN
  rw [if_neg (by omega)]
 all_goals (unfold needN; rw [if_pos (by omega)])
theorem r10Need_con : Con Cx.P 121 (.pair (.int .i64) (.unit)) (fun x => (fun (n : Int) => True) x.1) (fun x => (fun (n : Int) => [.int .i64 (needN n)]) x.1) := ⟨Qrl, fun x h => r10Need_fn x.1⟩
theorem r10Open_fn (d : Qab) (k : Int) (e : Int) (fl : Int) (hpre : 0 ≤ k ∧ k ≤ e ∧ e ≤ d.Base.length ∧ d.Base.length ≤ 4096) : Qck Cx.P 109 [.dat Qa2 d, .int .i64 k, .int .i64 e, .int .u64 fl] [.dat Qb9 (logR (openL d k e fl)), .dat (.slice .str) ((recsN d k e fl).1.map Qcj), .int .i64 0] := by
 refine Qck.go2 (E := Cx.env) (fn := Try.f109) (res := [_, _, _]) Try.func109 Qrk rfl rfl rfl (by kernel_rfl) rfl ?_
 push_cast
 try intro hf
 have hG : ∀ j, SecOk (dGet d j).1 := dGet_ok (fun y hy => hf.1.1.2 y hy) (fun y hy => (hf.1.2.1.2 y hy).1)
 repeat' (first
 | (intro (K' : KT) hK'; push_cast; (repeat' refine And.intro ?_ ?_); all_goals (first | (apply hK'; clear hK' K') | (refine ⟨trivial, trivial, ?_⟩; apply hK'; clear hK' K') | (intro hb; (try push_cast at hb); all_goals (intros; apply hK'; clear hK' K')) | ((first | refine Qbi r09Top_con (fun _ => rfl) ?_); push_cast; (repeat' refine And.intro ?_ ?_); all_goals (first | (apply hK'; clear hK' K') | (intros; apply hK'; clear hK' K') | (clear hK' K'; first | omega | skip))) | (clear hK' K'; first | omega | skip)))
 | apply Qar | apply Qa0 | apply Qac | apply Qah | apply Qaj | apply Qau
 | apply Qap | apply Qax | apply Qas | apply Qaq | apply Qa1 | apply Qal | apply Qae rfl | apply Qa6 | apply Qa7 | apply Qam | apply Qaz | apply Qay
 | (refine Qaf ?_; push_cast) | apply Qag | refine Qaa (Qa3 _ (by omega) (by omega)) ?_ | refine Qaa (Qb0 _ (by omega) (by omega)) ?_ | refine Qaa (Qba _ (by omega) (by omega)) ?_ | refine Qaa (Qa5 _ (by omega) (by omega)) ?_
 | refine Qai rfl rfl ?_ | refine Qat rfl rfl ?_
 | (refine Qak (by push_cast; first | done | rfl) ?_ ?_ <;> intro hc <;> (try push_cast at hc))
 | refine Qaw rfl rfl rfl (by push_cast; first | done | rfl) ?_
 | refine Qav rfl rfl rfl (by push_cast; first | done | rfl) ?_ ?_
 | (intro (hc : (_ : Prop)); (try push_cast at hc)) | intro (hc : Qad) | intro (hc : Int) | intro (hc : Nat))
 all_goals (try (exfalso; omega))
 refine Qg1 44 85 rfl (by push_cast) (by decide) ?_
 push_cast
 refine Qbu [9, 10, 13, 14, 15, 16, 17, 18, 19, 20, 21, 44, 47, 48, 49, 50, 51, 52, 53, 54, 55, 56, 57, 58, 59, 60, 61, 62, 63, 64, 65, 66, 67, 68, 69, 70, 71, 72, 73, 74, 75, 76, 77, 78, 79, 80, 81, 82, 83, 84, 85, 86, 87, 88, 89] [51, 58, 77, 83, 84, 85] (fun (p : List (List Int) × Int × Int × Nat) => RecTo d k e fl p.1 p.2.1 p.2.2.1 p.2.2.2) (fun (p : List (List Int) × Int × Int × Nat) => [(14, .one (.l (.int .i64 p.2.1))), (15, .one (.l (.int .u64 p.2.2.1))), (13, .one (.l (.own 85)))]) (fun (p : List (List Int) × Int × Int × Nat) => [(85, .arr .str (p.1.map Qcj))]) (fun (p : List (List Int) × Int × Int × Nat) => p.2.2.2) ([], k, fl, (e - k).toNat + 1) ?_ (by push_cast; first | done | rfl) (by push_cast; first | done | rfl) ?_ ?_
 ·exact recTo_0 d k e fl
 ·push_cast
  first | done | rfl
 ·rintro ⟨out, k1, l1, n⟩ hr
  simp only at hr
  push_cast
  intro hg
  have hle := sRead_le hG k1 e
  have hq := hr.q
  have hlo := hr.lo
  have hmap : (out.map Qcj).length = out.length := List.length_map _
  by_cases h0 : (sRead d k1 e).2.2.2 = 0
  ·obtain ⟨ho1, ho2, ho3, ho4⟩ := sRead_ok (k := k1) (e := e) hG h0
   repeat' (first
 | (intro (K' : KT) hK'; push_cast; (repeat' refine And.intro ?_ ?_); all_goals (first | (apply hK'; clear hK' K') | (refine ⟨trivial, trivial, ?_⟩; apply hK'; clear hK' K') | (intro hb; (try push_cast at hb); all_goals (intros; apply hK'; clear hK' K')) | ((first | refine Qbg r09Read_con (fun _ => rfl) ?_ | refine Qbg r07Open_con (fun _ => rfl) ?_); push_cast; (repeat' refine And.intro ?_ ?_); all_goals (first | (apply hK'; clear hK' K') | (intros; apply hK'; clear hK' K') | (clear hK' K'; first | omega | skip))) | (clear hK' K'; first | omega | skip)))
 | apply Qar | apply Qa0 | apply Qac | apply Qah | apply Qaj | apply Qau
 | apply Qap | apply Qax | apply Qas | apply Qaq | apply Qa1 | apply Qal | apply Qae rfl | apply Qa6 | apply Qa7 | apply Qam | apply Qaz | apply Qay
 | (refine Qaf ?_; push_cast) | apply Qag | refine Qaa (Qa3 _ (by omega) (by omega)) ?_ | refine Qaa (Qb0 _ (by omega) (by omega)) ?_ | refine Qaa (Qba _ (by omega) (by omega)) ?_ | refine Qaa (Qa5 _ (by omega) (by omega)) ?_
 | refine Qai rfl rfl ?_ | refine Qat rfl rfl ?_
 | (refine Qak (by push_cast; first | done | rfl) ?_ ?_ <;> intro hc <;> (try push_cast at hc))
 | refine Qaw rfl rfl rfl (by push_cast; first | done | rfl) ?_
 | refine Qav rfl rfl rfl (by push_cast; first | done | rfl) ?_ ?_
 | (intro (hc : (_ : Prop)); (try push_cast at hc)) | intro (hc : Qad) | intro (hc : Int) | intro (hc : Nat))
   ·rw [recTo_end hr (.inr trivial) (.inr (.inr ‹_›))]
    exact ⟨rfl, rfl⟩
   ·have he : ¬ recEnd d k1 e l1 := by
     rintro (h | h | h)
     ·exact h h0
     ·have := ‹(!(openN (sRead d k1 e).1).2) = false›
      rw [h] at this; simp at this
     ·omega
    obtain ⟨h1, h2⟩ := recTo_step hG hr he
    refine Qbv (_, _, _, n - 1) h1 (by simp only; omega) ?_
    push_cast
    rw [List.map_append]
    rfl
   ·rw [recTo_end hr (.inr trivial) (.inr (.inl (by simpa using ‹(!(openN (sRead d k1 e).1).2) = true›)))]
    exact ⟨rfl, rfl⟩
   ·exfalso
    have h9 := ‹(!decide ((sRead d k1 e).2.2.2 = 0)) = true›
    rw [h0] at h9; simp at h9
  ·have hb : (!decide ((sRead d k1 e).2.2.2 = 0)) = false → False := fun h => by simp [h0] at h
   repeat' (first
 | (intro (K' : KT) hK'; push_cast; (repeat' refine And.intro ?_ ?_); all_goals (first | (apply hK'; clear hK' K') | (refine ⟨trivial, trivial, ?_⟩; apply hK'; clear hK' K') | (intro hb; (try push_cast at hb); all_goals (intros; apply hK'; clear hK' K')) | ((first | refine Qbg r09Read_con (fun _ => rfl) ?_ | refine Qbg r07Open_con (fun _ => rfl) ?_); push_cast; (repeat' refine And.intro ?_ ?_); all_goals (first | (apply hK'; clear hK' K') | (intros; apply hK'; clear hK' K') | (clear hK' K'; first | omega | skip))) | (clear hK' K'; first | omega | skip)))
 | apply Qar | apply Qa0 | apply Qac | apply Qah | apply Qaj | apply Qau
 | apply Qap | apply Qax | apply Qas | apply Qaq | apply Qa1 | apply Qal | apply Qae rfl | apply Qa6 | apply Qa7 | apply Qam | apply Qaz | apply Qay
 | (refine Qaf ?_; push_cast) | apply Qag | refine Qaa (Qa3 _ (by omega) (by omega)) ?_ | refine Qaa (Qb0 _ (by omega) (by omega)) ?_ | refine Qaa (Qba _ (by omega) (by omega)) ?_ | refine Qaa (Qa5 _ (by omega) (by omega)) ?_
 | refine Qai rfl rfl ?_ | refine Qat rfl rfl ?_
 | (refine Qak (by push_cast; first | done | rfl) ?_ ?_ <;> intro hc <;> (try push_cast at hc))
 | refine Qaw rfl rfl rfl (by push_cast; first | done | rfl) ?_
 | refine Qav rfl rfl rfl (by push_cast; first | done | rfl) ?_ ?_
 | (intro (hc : (_ : Prop)); (try push_cast at hc)) | intro (hc : Qad) | intro (hc : Int) | intro (hc : Nat))
   all_goals
    first
    | (exfalso; exact hb ‹_›)
    | (rw [recTo_end hr (.inr trivial) (.inl h0)]
       exact ⟨rfl, rfl⟩)
theorem r10Open_con : Con Cx.P 109 (.pair Qa2 (.pair (.int .i64) (.pair (.int .i64) (.pair (.int .u64) (.unit))))) (fun x => (fun (d : Qab) (k : Int) (e : Int) (fl : Int) => 0 ≤ k ∧ k ≤ e ∧ e ≤ d.Base.length ∧ d.Base.length ≤ 4096) x.1 x.2.1 x.2.2.1 x.2.2.2.1) (fun x => (fun (d : Qab) (k : Int) (e : Int) (fl : Int) => [.dat Qb9 (logR (openL d k e fl)), .dat (.slice .str) ((recsN d k e fl).1.map Qcj), .int .i64 0]) x.1 x.2.1 x.2.2.1 x.2.2.2.1) := ⟨Qrk, fun x h => r10Open_fn x.1 x.2.1 x.2.2.1 x.2.2.2.1 h⟩
end
end Go.Proofs.Ytnmjcdlgfimnaaa
namespace Go.Proofs.Ytnmjcdlgfimnaaa
section
set_option linter.unusedSimpArgs false
set_option linter.unusedVariables false
set_option maxRecDepth 20000
attribute [local irreducible] Qb3 Qa9 vcA Qbp Wc
set_option maxHeartbeats 8000000
theorem r10Append_fn (l : Qdb) (r : List Int) (hpre : (0 ≤ l.At ∧ l.At ≤ l.End ∧ l.End ≤ 4096) ∧ l.Disk.Base.length ≤ 4096 ∧ l.Disk.Queue.length ≤ 900000 ∧ r.length ≤ 900000 ∧ ∀ y ∈ l.Disk.Queue, 0 ≤ y.To ∧ y.To < l.Disk.Base.length) : Qck Cx.P 110 [.dat Qb9 l, .dat (.slice (.int .u8)) r] [.dat Qb9 (logR (appN (logO l) r).1), .int .i64 (appN (logO l) r).2] := by
 refine Qck.go2 (E := Cx.env) (fn := Try.f110) (res := [_, _]) Try.func110 Qsp rfl rfl rfl (by kernel_rfl) rfl ?_
 push_cast
 try intro hf
 obtain ⟨D, a, e0, st⟩ := l
 simp only at hpre ⊢
 have hsq := sPut_q D a st (closeN r)
 have hto := sPut_to hpre.2.2.2.2 a st (closeN r)
 have hcl : (closeN r).length = r.length + 4 := by simp [closeN, crcN_len]
 repeat' (first
 | (intro (K' : KT) hK'; push_cast; (repeat' refine And.intro ?_ ?_); all_goals (first | (apply hK'; clear hK' K') | (refine ⟨trivial, trivial, ?_⟩; apply hK'; clear hK' K') | (intro hb; (try push_cast at hb); all_goals (intros; apply hK'; clear hK' K')) | ((first | refine Qbi r10Need_con (fun _ => rfl) ?_ | refine Qbg r07Close_con (fun _ => rfl) ?_ | refine Qbg r09Put_con (fun _ => rfl) ?_ | refine Qbg r08Flush_con (fun _ => rfl) ?_); push_cast; (repeat' refine And.intro ?_ ?_); all_goals (first | (apply hK'; clear hK' K') | (intros; apply hK'; clear hK' K') | (clear hK' K'; first | omega | skip))) | (clear hK' K'; first | omega | skip)))
 | apply Qar | apply Qac | apply Qah | apply Qaj | apply Qau
 | apply Qap | apply Qax | apply Qas | apply Qam | apply Qaz | apply Qay
 | (refine Qaf ?_; push_cast) | apply Qag | refine Qaa (Qa3 _ (by omega) (by omega)) ?_ | refine Qaa (Qb0 _ (by omega) (by omega)) ?_ | refine Qaa (Qba _ (by omega) (by omega)) ?_ | refine Qaa (Qa5 _ (by omega) (by omega)) ?_
 | refine Qai rfl rfl ?_ | refine Qat rfl rfl ?_
 | (refine Qak (by push_cast; first | done | rfl) ?_ ?_ <;> intro hc <;> (try push_cast at hc))
 | refine Qaw rfl rfl rfl (by push_cast; first | done | rfl) ?_
 | refine Qav rfl rfl rfl (by push_cast; first | done | rfl) ?_ ?_
 | refine Qbf (id := 6) [0, 1, 2, 3, 4, 5, 6] [8, 13] [2] (.or 7 (.or 8 (.free 9 (.free 10 (.free 11 (.or 12 (.or 13 (.free 14 (.done)) (.stop)) (.stop))))) (.or 12 (.or 8 (.free 9 (.free 10 (.free 11 (.or 13 (.free 14 (.done)) (.stop))))) (.stop)) (.stop))) (.or 12 (.or 7 (.or 8 (.free 9 (.free 10 (.free 11 (.or 13 (.free 14 (.done)) (.stop))))) (.stop)) (.stop)) (.stop))) wide (by kernel_rfl) ?_
 | apply Qby | apply Qbk | apply Qbn
 | refine Qbx rfl rfl rfl ?_ | refine Qbl rfl rfl rfl ?_
 | (refine Qbm rfl rfl rfl rfl ?_ ?_; rotate_left) | (refine Qbe rfl rfl rfl rfl ?_ ?_; rotate_left)
 | (refine Qbz rfl rfl rfl rfl ?_ ?_; rotate_left; focus (intro K' hK'; push_cast; (repeat' refine And.intro ?_ ?_); all_goals (first | (refine hK' _ _ _ _ _ (by push_cast) (by push_cast; first | done | rfl) ?_; clear hK' K') | ((first | refine Qbi r10Need_con (fun _ => rfl) ?_ | refine Qbg r07Close_con (fun _ => rfl) ?_ | refine Qbg r09Put_con (fun _ => rfl) ?_ | refine Qbg r08Flush_con (fun _ => rfl) ?_); push_cast; (repeat' refine And.intro ?_ ?_); all_goals (first | (refine hK' _ _ _ _ _ (by push_cast) (by push_cast; first | done | rfl) ?_; clear hK' K') | (intros; refine hK' _ _ _ _ _ (by push_cast) (by push_cast; first | done | rfl) ?_; clear hK' K') | (clear hK' K'; first | omega | skip))) | (clear hK' K'; first | omega | skip))))
 | refine Qcc rfl rfl rfl rfl (by push_cast; first | done | rfl) ?_
 | refine Qcd rfl rfl rfl rfl (by push_cast; first | done | rfl) ?_ ?_
 | (intro (hc : (_ : Prop)); (try push_cast at hc)) | intro (hc : Qad) | intro (hc : Int) | intro (hc : Nat))
 all_goals first
  | (rw [hsq.2]; exact hto _ ‹_›)
  | (unfold appN logO
     rw [if_pos ‹needN r.length = 0›]
     exact ⟨rfl, rfl⟩)
  | (unfold appN logO
     rw [if_neg ‹¬ needN r.length = 0›, if_pos ‹e0 - a < needN r.length›]
     exact ⟨rfl, rfl⟩)
  | (have h1 : (sPut D a st (closeN r)).2 ≠ 0 := by simpa using ‹(!decide ((sPut D a st (closeN r)).2 = 0)) = true›
     unfold appN logO
     simp only
     rw [if_neg ‹¬ needN r.length = 0›, if_neg ‹_›, if_pos h1]
     exact ⟨rfl, rfl⟩)
  | (have h1 : (sPut D a st (closeN r)).2 = 0 := by simpa using ‹(!decide ((sPut D a st (closeN r)).2 = 0)) = false›
     have h2 : (dFlush (sPut D a st (closeN r)).1).2 ≠ 0 := by simpa using hc
     unfold appN logO
     simp only
     rw [if_neg ‹¬ needN r.length = 0›, if_neg ‹_›, if_neg (by simpa using h1), if_pos h2]
     exact ⟨rfl, rfl⟩)
  | (have h1 : (sPut D a st (closeN r)).2 = 0 := by simpa using ‹(!decide ((sPut D a st (closeN r)).2 = 0)) = false›
     have h2 : (dFlush (sPut D a st (closeN r)).1).2 = 0 := by simpa using hc
     unfold appN logO
     simp only
     rw [if_neg ‹¬ needN r.length = 0›, if_neg ‹_›, if_neg (by simpa using h1), if_neg (by simpa using h2)]
     exact ⟨rfl, rfl⟩)
  | trace_state
theorem r10Append_con : Con Cx.P 110 (.pair Qb9 (.pair (.slice (.int .u8)) (.unit))) (fun x => (fun (l : Qdb) (r : List Int) => (0 ≤ l.At ∧ l.At ≤ l.End ∧ l.End ≤ 4096) ∧ l.Disk.Base.length ≤ 4096 ∧ l.Disk.Queue.length ≤ 900000 ∧ r.length ≤ 900000 ∧ ∀ y ∈ l.Disk.Queue, 0 ≤ y.To ∧ y.To < l.Disk.Base.length) x.1 x.2.1) (fun x => (fun (l : Qdb) (r : List Int) => [.dat Qb9 (logR (appN (logO l) r).1), .int .i64 (appN (logO l) r).2]) x.1 x.2.1) := ⟨Qsp, fun x h => r10Append_fn x.1 x.2.1 h⟩
end
end Go.Proofs.Ytnmjcdlgfimnaaa
