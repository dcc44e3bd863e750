/- Layer 7 as the code has it: what a register says of bytes. -/
import Derived.Test.YtnmjcdlgfimnaaaA7
namespace Go.Proofs.Ytnmjcdlgfimnaaa
set_option linter.unusedSimpArgs false
set_option linter.unusedVariables false
set_option maxRecDepth 20000
attribute [local irreducible] Qb3 Qa9 vcA Qbp Wc
set_option maxHeartbeats 8000000
def shiftN (r : Int) : Int := if r.tmod 2 = 1 then Qcz .xor .u32 (Qc8 .u32 r 1) 3988292384 else Qc8 .u32 r 1
def shiftK : Nat → Int → Int
 | 0, r => r
 | n + 1, r => shiftK n (shiftN r)
def addN : Int → List Int → Int
 | r, [] => r
 | r, c :: l => addN (shiftK 8 (Qcz .xor .u32 r (IntKind.u32.wrap c))) l
theorem crcShift_fn (r : Int) : Qck Cx.P 123 [.int .u32 r] [.int .u32 (shiftN r)] := by
 refine Qck.go2 (E := Cx.env) (fn := Try.f123) (res := [_]) Try.func123 Qrs rfl rfl rfl (by kernel_rfl) rfl ?_
 push_cast
 try intro hf
 repeat' (first
 | (intro (K' : KT) hK'; push_cast; (repeat' refine And.intro ?_ ?_); all_goals (first | (apply hK'; clear hK' K') | (refine ⟨trivial, trivial, ?_⟩; apply hK'; clear hK' K') | (intro hb; (try push_cast at hb); all_goals (intros; apply hK'; clear hK' K')) | (clear hK' K'; first | omega | skip)))
 | apply Qar | apply Qac | apply Qah | apply Qaj | apply Qau
 | apply Qap | apply Qax | apply Qas | apply Qam | apply Qaz | apply Qay
 | (refine Qaf ?_; push_cast) | apply Qag | refine Qaa (Qa3 _ (by omega) (by omega)) ?_ | refine Qaa (Qb0 _ (by omega) (by omega)) ?_ | refine Qaa (Qba _ (by omega) (by omega)) ?_ | refine Qaa (Qa5 _ (by omega) (by omega)) ?_
 | refine Qai rfl rfl ?_ | refine Qat rfl rfl ?_
 | (refine Qak (by push_cast; first | done | rfl) ?_ ?_ <;> intro hc <;> (try push_cast at hc))
 | refine Qaw rfl rfl rfl (by push_cast; first | done | rfl) ?_
 | refine Qav rfl rfl rfl (by push_cast; first | done | rfl) ?_ ?_
 | (intro (hc : (_ : Prop)); (try push_cast at hc)) | intro (hc : Qad) | intro (hc : Int) | intro (hc : Nat))
 ·unfold shiftN; rw [if_pos ‹_›]
 ·unfold shiftN; rw [if_neg ‹_›]
theorem crcShift_con : Con Cx.P 123 (.pair (.int .u32) (.unit)) (fun x => (fun (r : Int) => True) x.1) (fun x => (fun (r : Int) => [.int .u32 (shiftN r)]) x.1) := ⟨Qrs, fun x h => crcShift_fn x.1⟩
theorem crcStart_fn : Qck Cx.P 114 [] [.int .u32 4294967295] := by
 refine Qck.go2 (E := Cx.env) (fn := Try.f114) (res := [_]) Try.func114 Qrt rfl rfl rfl (by kernel_rfl) rfl ?_
 push_cast
 try intro hf
 repeat' (first
 | (intro (K' : KT) hK'; push_cast; (repeat' refine And.intro ?_ ?_); all_goals (first | (apply hK'; clear hK' K') | (refine ⟨trivial, trivial, ?_⟩; apply hK'; clear hK' K') | (intro hb; (try push_cast at hb); all_goals (intros; apply hK'; clear hK' K')) | (clear hK' K'; first | omega | skip)))
 | apply Qar | apply Qac | apply Qah | apply Qaj | apply Qau
 | apply Qap | apply Qax | apply Qas | apply Qam | apply Qaz | apply Qay
 | (refine Qaf ?_; push_cast) | apply Qag | refine Qaa (Qa3 _ (by omega) (by omega)) ?_ | refine Qaa (Qb0 _ (by omega) (by omega)) ?_ | refine Qaa (Qba _ (by omega) (by omega)) ?_ | refine Qaa (Qa5 _ (by omega) (by omega)) ?_
 | refine Qai rfl rfl ?_ | refine Qat rfl rfl ?_
 | (refine Qak (by push_cast; first | done | rfl) ?_ ?_ <;> intro hc <;> (try push_cast at hc))
 | refine Qaw rfl rfl rfl (by push_cast; first | done | rfl) ?_
 | refine Qav rfl rfl rfl (by push_cast; first | done | rfl) ?_ ?_
 | (intro (hc : (_ : Prop)); (try push_cast at hc)) | intro (hc : Qad) | intro (hc : Int) | intro (hc : Nat))
theorem crcStart_con : Con Cx.P 114 (.unit) (fun x => True) (fun x => [.int .u32 4294967295]) := ⟨Qrt, fun x h => crcStart_fn ⟩
theorem crcAdd_fn (r : Int) (b : List Int) : Qck Cx.P 115 [.int .u32 r, .dat (.slice (.int .u8)) b] [.int .u32 (addN r b)] := by
 refine Qck.go2 (E := Cx.env) (fn := Try.f115) (res := [_]) Try.func115 Qrw rfl rfl rfl (by kernel_rfl) rfl ?_
 push_cast
 try intro hf
 repeat' (first
 | (intro (K' : KT) hK'; push_cast; (repeat' refine And.intro ?_ ?_); all_goals (first | (apply hK'; clear hK' K') | (refine ⟨trivial, trivial, ?_⟩; apply hK'; clear hK' K') | (intro hb; (try push_cast at hb); all_goals (intros; apply hK'; clear hK' K')) | (clear hK' K'; first | omega | skip)))
 | apply Qar | apply Qac | apply Qah | apply Qfn | apply Qhq | apply Qaj | apply Qau
 | apply Qap | apply Qax | apply Qas | apply Qla | apply Qho | apply Qhi | apply Qhm | apply Qhe | apply Qhj | apply Qhv | apply Qd0 | apply Qdz | apply Qd1 | apply Qam | apply Qaz | apply Qay
 | (refine Qaf ?_; push_cast) | apply Qag | refine Qaa (Qa3 _ (by omega) (by omega)) ?_ | refine Qaa (Qb0 _ (by omega) (by omega)) ?_ | refine Qaa (Qba _ (by omega) (by omega)) ?_ | refine Qaa (Qa5 _ (by omega) (by omega)) ?_
 | refine Qai rfl rfl ?_ | refine Qat rfl rfl ?_
 | (refine Qak (by push_cast; first | done | rfl) ?_ ?_ <;> intro hc <;> (try push_cast at hc))
 | refine Qaw rfl rfl rfl (by push_cast; first | done | rfl) ?_
 | refine Qav rfl rfl rfl (by push_cast; first | done | rfl) ?_ ?_
 | (intro (hc : (_ : Prop)); (try push_cast at hc)) | intro (hc : Qad) | intro (hc : Int) | intro (hc : Nat))
 refine Qro (ι := Int × Nat × Nat) 0 rfl [0, 5, 6, 7, 8, 9, 10, 11, 12, 13, 14, 15, 16, 17, 18, 19, 20, 21, 22, 23, 24, 25, 26] [] (fun p => p.2.1 ≤ b.length ∧ p.2.2 ≤ 8 ∧ addN (shiftK p.2.2 p.1) (b.drop p.2.1) = addN r b)
  (fun p => [(0, .one (.l (.int .u32 p.1))), (5, .one (.l (.int .i64 p.2.1))), (6, .one (.l (.int .i64 p.2.2)))]) (fun _ => []) (fun p => 9 * (b.length - p.2.1) + p.2.2) (by push_cast; first | done | rfl) (by push_cast; first | done | rfl) ?_ ?_
 ·repeat' (first
 | (intro (K' : KT) hK'; push_cast; (repeat' refine And.intro ?_ ?_); all_goals (first | (apply hK'; clear hK' K') | (refine ⟨trivial, trivial, ?_⟩; apply hK'; clear hK' K') | (intro hb; (try push_cast at hb); all_goals (intros; apply hK'; clear hK' K')) | ((first | refine Qbi crcShift_con (fun _ => rfl) ?_); push_cast; (repeat' refine And.intro ?_ ?_); all_goals (first | (apply hK'; clear hK' K') | (intros; apply hK'; clear hK' K') | (clear hK' K'; first | omega | skip))) | (clear hK' K'; first | omega | skip)))
 | apply Qar | apply Qac | apply Qah | apply Qfn | apply Qhq | apply Qaj | apply Qau
 | apply Qap | apply Qax | apply Qas | apply Qla | apply Qho | apply Qhi | apply Qhm | apply Qhe | apply Qhj | apply Qhv | apply Qd0 | apply Qdz | apply Qd1 | apply Qam | apply Qaz | apply Qay
 | (refine Qaf ?_; push_cast) | apply Qag | refine Qaa (Qa3 _ (by omega) (by omega)) ?_ | refine Qaa (Qb0 _ (by omega) (by omega)) ?_ | refine Qaa (Qba _ (by omega) (by omega)) ?_ | refine Qaa (Qa5 _ (by omega) (by omega)) ?_
 | refine Qai rfl rfl ?_ | refine Qat rfl rfl ?_
 | (refine Qak (by push_cast; first | done | rfl) ?_ ?_ <;> intro hc <;> (try push_cast at hc))
 | refine Qaw rfl rfl rfl (by push_cast; first | done | rfl) ?_
 | refine Qav rfl rfl rfl (by push_cast; first | done | rfl) ?_ ?_
 | (intro (hc : (_ : Prop)); (try push_cast at hc)) | intro (hc : Qad) | intro (hc : Int) | intro (hc : Nat))
  ·have e : b = [] := List.length_eq_zero_iff.1 (by omega)
   subst e; rfl
  ·refine Qvf (shiftN (Qcz .xor .u32 r (IntKind.u32.wrap (b.getD 0 0))), 1, 7) ⟨by simp only; omega, by simp only; omega, ?_⟩ ?_
   ·cases b with
    | nil => simp at hc
    | cons c l => rfl
   ·push_cast
 ·rintro ⟨q, i, j⟩ ⟨h1, h2, h3⟩
  simp only at h1 h2 h3
  push_cast
  intro hg
  repeat' (first
 | (intro (K' : KT) hK'; push_cast; (repeat' refine And.intro ?_ ?_); all_goals (first | (apply hK'; clear hK' K') | (refine ⟨trivial, trivial, ?_⟩; apply hK'; clear hK' K') | (intro hb; (try push_cast at hb); all_goals (intros; apply hK'; clear hK' K')) | ((first | refine Qbi crcShift_con (fun _ => rfl) ?_); push_cast; (repeat' refine And.intro ?_ ?_); all_goals (first | (apply hK'; clear hK' K') | (intros; apply hK'; clear hK' K') | (clear hK' K'; first | omega | skip))) | (clear hK' K'; first | omega | skip)))
 | apply Qar | apply Qac | apply Qah | apply Qfn | apply Qhq | apply Qaj | apply Qau
 | apply Qap | apply Qax | apply Qas | apply Qla | apply Qho | apply Qhi | apply Qhm | apply Qhe | apply Qhj | apply Qhv | apply Qd0 | apply Qdz | apply Qd1 | apply Qam | apply Qaz | apply Qay
 | (refine Qaf ?_; push_cast) | apply Qag | refine Qaa (Qa3 _ (by omega) (by omega)) ?_ | refine Qaa (Qb0 _ (by omega) (by omega)) ?_ | refine Qaa (Qba _ (by omega) (by omega)) ?_ | refine Qaa (Qa5 _ (by omega) (by omega)) ?_
 | refine Qai rfl rfl ?_ | refine Qat rfl rfl ?_
 | (refine Qak (by push_cast; first | done | rfl) ?_ ?_ <;> intro hc <;> (try push_cast at hc))
 | refine Qaw rfl rfl rfl (by push_cast; first | done | rfl) ?_
 | refine Qav rfl rfl rfl (by push_cast; first | done | rfl) ?_ ?_
 | (intro (hc : (_ : Prop)); (try push_cast at hc)) | intro (hc : Qad) | intro (hc : Int) | intro (hc : Nat))
  ·have ej : j = 0 := by omega
   have ei : i = b.length := by omega
   subst ej ei
   rw [List.drop_length] at h3
   exact h3
  ·have ej : j = 0 := by omega
   subst ej
   refine Qr1 (shiftN (Qcz .xor .u32 q (IntKind.u32.wrap (b.getD i 0))), i + 1, 7) ⟨by simp only; omega, by simp only; omega, ?_⟩ (by simp only; omega) ?_
   ·rw [← h3, List.drop_eq_getElem_cons (by omega : i < b.length)]
    have e : b.getD i 0 = b[i]'(by omega) := by rw [List.getD_eq_getElem?_getD, List.getElem?_eq_getElem (by omega)]; rfl
    simp only [e]
    rfl
   ·push_cast
  ·obtain ⟨k, rfl⟩ : ∃ k, j = k + 1 := ⟨j - 1, by omega⟩
   refine Qr1 (shiftN q, i, k) ⟨h1, by simp only; omega, h3⟩ (by simp only; omega) ?_
   push_cast
   omega
theorem crcAdd_con : Con Cx.P 115 (.pair (.int .u32) (.pair (.slice (.int .u8)) (.unit))) (fun x => (fun (r : Int) (b : List Int) => True) x.1 x.2.1) (fun x => (fun (r : Int) (b : List Int) => [.int .u32 (addN r b)]) x.1 x.2.1) := ⟨Qrw, fun x h => crcAdd_fn x.1 x.2.1⟩
def sumN (r : Int) : Int := Qcz .xor .u32 (if IntKind.u32.signed = true then -1 else IntKind.u32.max) r
theorem crcSum_fn (r : Int) : Qck Cx.P 116 [.int .u32 r] [.int .u32 (sumN r)] := by
 refine Qck.go2 (E := Cx.env) (fn := Try.f116) (res := [_]) Try.func116 Qsq rfl rfl rfl (by kernel_rfl) rfl ?_
 push_cast
 try intro hf
 repeat' (first
 | (intro (K' : KT) hK'; push_cast; (repeat' refine And.intro ?_ ?_); all_goals (first | (apply hK'; clear hK' K') | (refine ⟨trivial, trivial, ?_⟩; apply hK'; clear hK' K') | (intro hb; (try push_cast at hb); all_goals (intros; apply hK'; clear hK' K')) | (clear hK' K'; first | omega | skip)))
 | apply Qar | apply Qac | apply Qah | apply Qaj | apply Qau
 | apply Qap | apply Qax | apply Qas | apply Qam | apply Qaz | apply Qay
 | (refine Qaf ?_; push_cast) | apply Qag | refine Qaa (Qa3 _ (by omega) (by omega)) ?_ | refine Qaa (Qb0 _ (by omega) (by omega)) ?_ | refine Qaa (Qba _ (by omega) (by omega)) ?_ | refine Qaa (Qa5 _ (by omega) (by omega)) ?_
 | refine Qai rfl rfl ?_ | refine Qat rfl rfl ?_
 | (refine Qak (by push_cast; first | done | rfl) ?_ ?_ <;> intro hc <;> (try push_cast at hc))
 | refine Qaw rfl rfl rfl (by push_cast; first | done | rfl) ?_
 | refine Qav rfl rfl rfl (by push_cast; first | done | rfl) ?_ ?_
 | (intro (hc : (_ : Prop)); (try push_cast at hc)) | intro (hc : Qad) | intro (hc : Int) | intro (hc : Nat))
 rfl
theorem crcSum_con : Con Cx.P 116 (.pair (.int .u32) (.unit)) (fun x => (fun (r : Int) => True) x.1) (fun x => (fun (r : Int) => [.int .u32 (sumN r)]) x.1) := ⟨Qsq, fun x h => crcSum_fn x.1⟩
def tailN (s : Int) : List Int := [IntKind.u8.wrap s, IntKind.u8.wrap (Qc8 .u32 s 8), IntKind.u8.wrap (Qc8 .u32 s 16), IntKind.u8.wrap (Qc8 .u32 s 24)]
theorem crcTail_fn (s : Int) : Qck Cx.P 113 [.int .u32 s] [.dat (.slice (.int .u8)) (tailN s)] := by
 refine Qck.go2 (E := Cx.env) (fn := Try.f113) (res := [_]) Try.func113 Qr3 rfl rfl rfl (by kernel_rfl) rfl ?_
 push_cast
 try intro hf
 repeat' (first
 | (intro (K' : KT) hK'; push_cast; (repeat' refine And.intro ?_ ?_); all_goals (first | (apply hK'; clear hK' K') | (refine ⟨trivial, trivial, ?_⟩; apply hK'; clear hK' K') | (intro hb; (try push_cast at hb); all_goals (intros; apply hK'; clear hK' K')) | (clear hK' K'; first | omega | skip)))
 | apply Qar | apply Qac | apply Qah | apply Qaj | apply Qau
 | apply Qap | apply Qax | apply Qas | apply Qam | apply Qaz | apply Qay
 | (refine Qaf ?_; push_cast) | apply Qag | refine Qaa (Qa3 _ (by omega) (by omega)) ?_ | refine Qaa (Qb0 _ (by omega) (by omega)) ?_ | refine Qaa (Qba _ (by omega) (by omega)) ?_ | refine Qaa (Qa5 _ (by omega) (by omega)) ?_
 | refine Qai rfl rfl ?_ | refine Qat rfl rfl ?_
 | (refine Qak (by push_cast; first | done | rfl) ?_ ?_ <;> intro hc <;> (try push_cast at hc))
 | refine Qaw rfl rfl rfl (by push_cast; first | done | rfl) ?_
 | refine Qav rfl rfl rfl (by push_cast; first | done | rfl) ?_ ?_
 | (intro (hc : (_ : Prop)); (try push_cast at hc)) | intro (hc : Qad) | intro (hc : Int) | intro (hc : Nat))
 all_goals rfl
theorem crcTail_con : Con Cx.P 113 (.pair (.int .u32) (.unit)) (fun x => (fun (s : Int) => True) x.1) (fun x => (fun (s : Int) => [.dat (.slice (.int .u8)) (tailN s)]) x.1) := ⟨Qr3, fun x h => crcTail_fn x.1⟩
def crcN (b : List Int) : List Int := tailN (sumN (addN 4294967295 b))
def closeN (b : List Int) : List Int := b ++ crcN b
theorem tailN_len (s : Int) : (tailN s).length = 4 := rfl
theorem crcN_len (b : List Int) : (crcN b).length = 4 := rfl
theorem crcClose_fn (b : List Int) (hpre : b.length ≤ 1000000) : Qck Cx.P 94 [.dat (.slice (.int .u8)) b] [.dat (.slice (.int .u8)) (closeN b)] := by
 refine Qck.go2 (E := Cx.env) (fn := Try.f94) (res := [_]) Try.func94 Quj rfl rfl rfl (by kernel_rfl) rfl ?_
 push_cast
 try intro hf
 have h4 := tailN_len (sumN (addN 4294967295 b))
 repeat' (first
 | (intro (K' : KT) hK'; push_cast; (repeat' refine And.intro ?_ ?_); all_goals (first | (apply hK'; clear hK' K') | (refine ⟨trivial, trivial, ?_⟩; apply hK'; clear hK' K') | (intro hb; (try push_cast at hb); all_goals (intros; apply hK'; clear hK' K')) | ((first | refine Qbi crcStart_con (fun _ => rfl) ?_ | refine Qbi crcAdd_con (fun _ => rfl) ?_ | refine Qbi crcSum_con (fun _ => rfl) ?_ | refine Qbg crcTail_con (fun _ => rfl) ?_); push_cast; (repeat' refine And.intro ?_ ?_); all_goals (first | (apply hK'; clear hK' K') | (intros; apply hK'; clear hK' K') | (clear hK' K'; first | omega | skip))) | (clear hK' K'; first | omega | skip)))
 | apply Qar | apply Qac | apply Qah | apply Qaj | apply Qau
 | apply Qap | apply Qax | apply Qas | apply Qam | apply Qaz | apply Qay
 | (refine Qaf ?_; push_cast) | apply Qag | refine Qaa (Qa3 _ (by omega) (by omega)) ?_ | refine Qaa (Qb0 _ (by omega) (by omega)) ?_ | refine Qaa (Qba _ (by omega) (by omega)) ?_ | refine Qaa (Qa5 _ (by omega) (by omega)) ?_
 | refine Qai rfl rfl ?_ | refine Qat rfl rfl ?_
 | (refine Qak (by push_cast; first | done | rfl) ?_ ?_ <;> intro hc <;> (try push_cast at hc))
 | refine Qaw rfl rfl rfl (by push_cast; first | done | rfl) ?_
 | refine Qav rfl rfl rfl (by push_cast; first | done | rfl) ?_ ?_
 | (intro (hc : (_ : Prop)); (try push_cast at hc)) | intro (hc : Qad) | intro (hc : Int) | intro (hc : Nat))
 rfl
theorem crcClose_con : Con Cx.P 94 (.pair (.slice (.int .u8)) (.unit)) (fun x => (fun (b : List Int) => b.length ≤ 1000000) x.1) (fun x => (fun (b : List Int) => [.dat (.slice (.int .u8)) (closeN b)]) x.1) := ⟨Quj, fun x h => crcClose_fn x.1 h⟩
end Go.Proofs.Ytnmjcdlgfimnaaa
