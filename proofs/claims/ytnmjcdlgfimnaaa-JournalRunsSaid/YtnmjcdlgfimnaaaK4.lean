/- Chapters 6 and 10 in the document, as chapter 12 uses them. -/
import Derived.Test.YtnmjcdlgfimnaaaK2
import Derived.Test.YtnmjcdlgfimnaaaJ2
namespace Go.Proofs.Ytnmjcdlgfimnaaa
def jourR (J : JourS) : Qbw := ⟨logR J.L, J.z, J.r⟩
def jourO (w : Qbw) : JourS := ⟨logO w.Log, w.Size, w.Ready⟩
theorem put2_rR12Journal (y : Qab) (q : List LV) (f : Qbw → List LV → Prop) : Qdd Qa4 (.dat Qa2 y :: q) f = Qdd Qe4 (.dat Qa2 y :: q) fun t r => f ⟨t.1, t.2.1, t.2.2.1⟩ r := rfl
attribute [push_cast] put2_rR12Journal
def jComX (J : JourS) (c : List Int) : JourS × Int := if (slWrite J.L.D 0 J.z (numB (J.L.st - 1).toNat ++ c)).2.2 = 0 then (jCom J c, 0) else (jComG J c, (slWrite J.L.D 0 J.z (numB (J.L.st - 1).toNat ++ c)).2.2)
section
set_option linter.unusedSimpArgs false
set_option linter.unusedVariables false
set_option maxRecDepth 20000
attribute [local irreducible] Qb3 Qa9 vcA Qbp Wc
set_option maxHeartbeats 8000000
theorem r06NumO_fn (n : Int) (h0 : 0 ≤ n) (h : n < 128) :
    Qcs Cx.P 111 [.l (.int .u64 n)] [] (tvL [.own 7]) [(7, .arr (.int .u8) [n])] := by
 have hw : IntKind.u8.wrap n = n := Qb0 _ (by omega) (by omega)
 refine Qcs.go2 (E := Cx.env) (fn := Try.f111) (res := [_]) _ (Qc2.refl _) Try.func111 Qpi rfl rfl (by simp [Qb1, SV.ids, LV.ids]) (by simp [Qao]) (by kernel_rfl) rfl ?_
 intro hf
 try push_cast at hf
 intro _
 simp only [mmD, Qcu, Qao, List.map_cons, List.map_nil, List.cons_append, List.nil_append]
 repeat' (first
 | (intro (K' : KT) hK'; push_cast; (repeat' refine And.intro ?_ ?_); all_goals (first | (apply hK'; clear hK' K') | (refine ⟨trivial, trivial, ?_⟩; apply hK'; clear hK' K') | (intro hb; (try push_cast at hb); all_goals (intros; apply hK'; clear hK' K')) | (clear hK' K'; first | omega | skip)))
 | apply Qar | apply Qac | apply Qah | apply Qaj | apply Qau
 | apply Qap | apply Qax | apply Qas | apply Qam | apply Qaz | apply Qay
 | (refine Qaf ?_; push_cast) | apply Qag | refine Qaa (Qa3 _ (by omega) (by omega)) ?_ | refine Qaa (Qb0 _ (by omega) (by omega)) ?_ | refine Qaa (Qba _ (by omega) (by omega)) ?_ | refine Qaa (Qa5 _ (by omega) (by omega)) ?_
 | refine Qai rfl rfl ?_ | refine Qat rfl rfl ?_
 | (refine Qak (by push_cast; first | done | rfl) ?_ ?_ <;> intro hc <;> (try push_cast at hc))
 | refine Qaw rfl rfl rfl (by push_cast; first | done | rfl) ?_
 | refine Qav rfl rfl rfl (by push_cast; first | done | rfl) ?_ ?_
 | (intro (hc : (_ : Prop)); (try push_cast at hc)) | intro (hc : Qad) | intro (hc : Int) | intro (hc : Nat))
 ·(refine Qc9.fin ⟨[(7, .arr (.int .u8) [n])], ?_, ?_, ?_, Qbb.refl _, ?_⟩
   ·push_cast
   ·push_cast
   ·simp [Qao]
   ·simp [tvL, TV.ids, SV.ids, LV.ids, Qb1])
 ·exfalso; omega
end
def conR6 (nm : Nat) (vs0 : List SV) (s : Qan) (K : KT) : Prop := match vs0 with
 | [.l (.int .u64 n)] => (0 ≤ n ∧ n < 128) ∧ s.room nm ∧ K (.one (.l (.own nm))) (s.back [] [nm] [(nm, .arr (.int .u8) [n])])
 | _ => False
theorem call_R6 (nm : Nat) {vs0 : List SV} {s : Qan} {K : KT} (hc : conR6 nm vs0 s K) : Wc Cx.P 111 vs0 s K := by
 unfold conR6 at hc
 split at hc
 ·rename_i n
  obtain ⟨⟨h0, h1⟩, hroom, hK⟩ := hc
  refine Qde (r06NumO_fn n h0 h1) (fun _ => nm) [nm] (by simp [Qao]) (by simp [Qao]) (by simp [Qao]) (by simp [Qao]) ?_ (by simp [tvL, TV.ids, SV.ids, LV.ids, Qao]) (by simp [Box.ids]) (by simp) ?_ ?_
  ·intro i hi
   simp only [List.mem_cons, List.not_mem_nil, or_false] at hi
   subst hi
   have : s.pins.contains i = false := hroom
   simpa using this
  ·intro G γ us h
   simpa [SV.ren, LV.ren] using h
  ·simpa [tvL, TV.ren, SV.ren, LV.ren, Qao, Qer, Box.ren] using hK
 ·exact hc.elim
attribute [push_cast] conR6
section
set_option linter.unusedSimpArgs false
set_option linter.unusedVariables false
set_option maxRecDepth 20000
attribute [local irreducible] Qb3 Qa9 vcA Qbp Wc
set_option maxHeartbeats 8000000
theorem r12Append_fn (w : Qbw) (r : List Int) (hpre : (0 ≤ w.Log.At ∧ w.Log.At ≤ w.Log.End ∧ w.Log.End ≤ 4096) ∧ w.Log.Disk.Base.length ≤ 4096 ∧ w.Log.Disk.Queue.length ≤ 900000 ∧ r.length ≤ 900000 ∧ ∀ y ∈ w.Log.Disk.Queue, 0 ≤ y.To ∧ y.To < w.Log.Disk.Base.length) : Qck Cx.P 76 [.dat Qa4 w, .dat (.slice (.int .u8)) r] [.dat Qa4 (jourR (jApp (jourO w) r).1), .int .i64 (jApp (jourO w) r).2] := by
 refine Qck.go2 (E := Cx.env) (fn := Try.f76) (res := [_, _]) Try.func76 Qut rfl rfl rfl (by kernel_rfl) rfl ?_
 push_cast
 try intro hf
 obtain ⟨⟨D, a, e0, st⟩, z, b⟩ := w
 simp only at hpre ⊢
 repeat' (first
 | (intro (K' : KT) hK'; push_cast; (repeat' refine And.intro ?_ ?_); all_goals (first | (apply hK'; clear hK' K') | (refine ⟨trivial, trivial, ?_⟩; apply hK'; clear hK' K') | (intro hb; (try push_cast at hb); all_goals (intros; apply hK'; clear hK' K')) | ((first | refine Qbg r10Append_con (fun _ => rfl) ?_); push_cast; (repeat' refine And.intro ?_ ?_); all_goals (first | (apply hK'; clear hK' K') | (intros; apply hK'; clear hK' K') | (clear hK' K'; first | omega | skip))) | (clear hK' K'; first | omega | skip)))
 | apply Qar | apply Qac | apply Qah | apply Qaj | apply Qau
 | apply Qap | apply Qax | apply Qas | apply Qam | apply Qaz | apply Qay
 | (refine Qaf ?_; push_cast) | apply Qag | refine Qaa (Qa3 _ (by omega) (by omega)) ?_ | refine Qaa (Qb0 _ (by omega) (by omega)) ?_ | refine Qaa (Qba _ (by omega) (by omega)) ?_ | refine Qaa (Qa5 _ (by omega) (by omega)) ?_
 | refine Qai rfl rfl ?_ | refine Qat rfl rfl ?_
 | (refine Qak (by push_cast; first | done | rfl) ?_ ?_ <;> intro hc <;> (try push_cast at hc))
 | refine Qaw rfl rfl rfl (by push_cast; first | done | rfl) ?_
 | refine Qav rfl rfl rfl (by push_cast; first | done | rfl) ?_ ?_
 | (intro (hc : (_ : Prop)); (try push_cast at hc)) | intro (hc : Qad) | intro (hc : Int) | intro (hc : Nat))
 ·have hb : b = false := by simpa using hc
  subst hb
  exact ⟨rfl, rfl⟩
 ·exact hpre.2.2.2.2 _ ‹_›
 ·have hb : b = true := by simpa using hc
  subst hb
  have e : jApp (jourO ⟨⟨D, a, e0, st⟩, z, true⟩) r = (⟨(appN (logO ⟨D, a, e0, st⟩) r).1, z, decide ((appN (logO ⟨D, a, e0, st⟩) r).2 ≠ 82)⟩, (appN (logO ⟨D, a, e0, st⟩) r).2) := rfl
  rw [e]
  refine ⟨?_, rfl⟩
  unfold jourR
  simp
theorem r12Append_con : Con Cx.P 76 (.pair Qa4 (.pair (.slice (.int .u8)) (.unit))) (fun x => (fun (w : Qbw) (r : List Int) => (0 ≤ w.Log.At ∧ w.Log.At ≤ w.Log.End ∧ w.Log.End ≤ 4096) ∧ w.Log.Disk.Base.length ≤ 4096 ∧ w.Log.Disk.Queue.length ≤ 900000 ∧ r.length ≤ 900000 ∧ ∀ y ∈ w.Log.Disk.Queue, 0 ≤ y.To ∧ y.To < w.Log.Disk.Base.length) x.1 x.2.1) (fun x => (fun (w : Qbw) (r : List Int) => [.dat Qa4 (jourR (jApp (jourO w) r).1), .int .i64 (jApp (jourO w) r).2]) x.1 x.2.1) := ⟨Qut, fun x h => r12Append_fn x.1 x.2.1 h⟩
theorem r12Room_fn (w : Qbw) (hpre : 0 ≤ w.Log.At ∧ 0 ≤ w.Log.End) : Qck Cx.P 79 [.dat Qa4 w] [.int .i64 (jRoom (jourO w))] := by
 refine Qck.go2 (E := Cx.env) (fn := Try.f79) (res := [_]) Try.func79 Quq rfl rfl rfl (by kernel_rfl) rfl ?_
 push_cast
 try intro hf
 obtain ⟨⟨D, a, e0, st⟩, z, b⟩ := w
 simp only at hpre ⊢
 have hf1 := hf.1.2.1
 have hf2 := hf.1.2.2.1
 simp only at hf1 hf2
 repeat' (first
 | (intro (K' : KT) hK'; push_cast; (repeat' refine And.intro ?_ ?_); all_goals (first | (apply hK'; clear hK' K') | (refine ⟨trivial, trivial, ?_⟩; apply hK'; clear hK' K') | (intro hb; (try push_cast at hb); all_goals (intros; apply hK'; clear hK' K')) | (clear hK' K'; first | omega | skip)))
 | apply Qar | apply Qac | apply Qah | apply Qaj | apply Qau
 | apply Qap | apply Qax | apply Qas | apply Qam | apply Qaz | apply Qay
 | (refine Qaf ?_; push_cast) | apply Qag | refine Qaa (Qa3 _ (by omega) (by omega)) ?_ | refine Qaa (Qb0 _ (by omega) (by omega)) ?_ | refine Qaa (Qba _ (by omega) (by omega)) ?_ | refine Qaa (Qa5 _ (by omega) (by omega)) ?_
 | refine Qai rfl rfl ?_ | refine Qat rfl rfl ?_
 | (refine Qak (by push_cast; first | done | rfl) ?_ ?_ <;> intro hc <;> (try push_cast at hc))
 | refine Qaw rfl rfl rfl (by push_cast; first | done | rfl) ?_
 | refine Qav rfl rfl rfl (by push_cast; first | done | rfl) ?_ ?_
 | (intro (hc : (_ : Prop)); (try push_cast at hc)) | intro (hc : Qad) | intro (hc : Int) | intro (hc : Nat))
 ·have hb : b = false := by simpa using hc
  subst hb
  rfl
 ·have hb : b = true := by simpa using hc
  subst hb
  first
   | rfl
   | (rw [Qa3 (e0 - a) (by omega) (by omega)]; rfl)
theorem r12Room_con : Con Cx.P 79 (.pair Qa4 (.unit)) (fun x => (fun (w : Qbw) => 0 ≤ w.Log.At ∧ 0 ≤ w.Log.End) x.1) (fun x => (fun (w : Qbw) => [.int .i64 (jRoom (jourO w))]) x.1) := ⟨Quq, fun x h => r12Room_fn x.1 h⟩
theorem r12Right_fn (d : Qab) (z : Int) (hpre : d.Base.length ≤ 100000) : Qck Cx.P 108 [.dat Qa2 d, .int .i64 z] [.bool (jrightB d z)] := by
 refine Qck.go2 (E := Cx.env) (fn := Try.f108) (res := [_]) Try.func108 Qr0 rfl rfl rfl (by kernel_rfl) rfl ?_
 push_cast
 try intro hf
 have h1 : 1 ≤ z → z ≤ 255 → jrightB d z = decide (2 * z + 1 ≤ (d.Base.length : Int)) := fun a b => by
  simp only [jrightB, a, b, decide_true, Bool.true_and]
  congr 1
 have h2 : ¬ (1 ≤ z ∧ z ≤ 255 ∧ 2 * z < (d.Base.length : Int)) → jrightB d z = false := fun h => by
  cases hr : jrightB d z
  ·rfl
  ·exact absurd (jrightB_iff.1 hr) h
 repeat' (first
 | (intro (K' : KT) hK'; push_cast; (repeat' refine And.intro ?_ ?_); all_goals (first | (apply hK'; clear hK' K') | (refine ⟨trivial, trivial, ?_⟩; apply hK'; clear hK' K') | (intro hb; (try push_cast at hb); all_goals (intros; apply hK'; clear hK' K')) | (clear hK' K'; first | omega | skip)))
 | apply Qar | apply Qac | apply Qah | apply Qaj | apply Qau
 | apply Qap | apply Qax | apply Qas | apply Qam | apply Qaz | apply Qay
 | (refine Qaf ?_; push_cast) | apply Qag | refine Qaa (Qa3 _ (by omega) (by omega)) ?_ | refine Qaa (Qb0 _ (by omega) (by omega)) ?_ | refine Qaa (Qba _ (by omega) (by omega)) ?_ | refine Qaa (Qa5 _ (by omega) (by omega)) ?_
 | refine Qai rfl rfl ?_ | refine Qat rfl rfl ?_
 | (refine Qak (by push_cast; first | done | rfl) ?_ ?_ <;> intro hc <;> (try push_cast at hc))
 | refine Qaw rfl rfl rfl (by push_cast; first | done | rfl) ?_
 | refine Qav rfl rfl rfl (by push_cast; first | done | rfl) ?_ ?_
 | (intro (hc : (_ : Prop)); (try push_cast at hc)) | intro (hc : Qad) | intro (hc : Int) | intro (hc : Nat))
 all_goals first
  | rw [h1 (by omega) (by omega)]
  | rw [h2 (by omega)]
theorem r12Right_con : Con Cx.P 108 (.pair Qa2 (.pair (.int .i64) (.unit))) (fun x => (fun (d : Qab) (z : Int) => d.Base.length ≤ 100000) x.1 x.2.1) (fun x => (fun (d : Qab) (z : Int) => [.bool (jrightB d z)]) x.1 x.2.1) := ⟨Qr0, fun x h => r12Right_fn x.1 x.2.1 h⟩
theorem r12Compact_fn (w : Qbw) (c : List Int) (hpre : (1 ≤ w.Size ∧ w.Size ≤ 255 ∧ 2 * w.Size < w.Log.Disk.Base.length) ∧ w.Log.Disk.Base.length ≤ 4096 ∧ w.Log.Disk.Queue.length ≤ 900000 ∧ c.length ≤ 12288 ∧ (1 ≤ w.Log.Stamp ∧ w.Log.Stamp ≤ 128) ∧ ∀ y ∈ w.Log.Disk.Queue, 0 ≤ y.To ∧ y.To < w.Log.Disk.Base.length) : Qck Cx.P 77 [.dat Qa4 w, .dat (.slice (.int .u8)) c] [.dat Qa4 (jourR (jComX (jourO w) c).1), .int .i64 (jComX (jourO w) c).2] := by
 refine Qck.go2 (E := Cx.env) (fn := Try.f77) (res := [_, _]) Try.func77 Qt1 rfl rfl rfl (by kernel_rfl) rfl ?_
 push_cast
 try intro hf
 obtain ⟨⟨D, a, e0, st⟩, z, b⟩ := w
 simp only at hpre ⊢
 have hnb : numB (st - 1).toNat ++ c = (st - 1) :: c := by
  have : numB (st - 1).toNat = [st - 1] := by
   rw [numB_low (by omega)]
   congr 1
   omega
  rw [this]
  rfl
 have hX0 : (slWrite D 0 z ((st - 1) :: c)).2.2 = 0 → jComX (jourO ⟨⟨D, a, e0, st⟩, z, b⟩) c = (⟨openL (slWrite D 0 z ((st - 1) :: c)).1 (2 * z) (slWrite D 0 z ((st - 1) :: c)).1.Base.length (st - 1), z, true⟩, 0) := fun h => by
  unfold jComX jCom jourO logO
  simp only
  rw [hnb, if_pos h]
 have hX1 : (slWrite D 0 z ((st - 1) :: c)).2.2 ≠ 0 → jComX (jourO ⟨⟨D, a, e0, st⟩, z, b⟩) c = (⟨⟨(slWrite D 0 z ((st - 1) :: c)).1, a, e0, st⟩, z, if (slWrite D 0 z ((st - 1) :: c)).2.2 = 82 then false else b⟩, (slWrite D 0 z ((st - 1) :: c)).2.2) := fun h => by
  unfold jComX jComG jourO logO
  simp only
  rw [hnb, if_neg h]
 have hW := slWrite_len D 0 z ((st - 1) :: c)
 generalize hWW : slWrite D 0 z ((st - 1) :: c) = W at *
 have h82 : ∀ e : Int, (!decide (e = 82)) = if e = 82 then false else true := fun e => by by_cases h : e = 82 <;> simp [h]
 repeat' (first
 | (intro (K' : KT) hK'; push_cast; (repeat' refine And.intro ?_ ?_); all_goals (first | (apply hK'; clear hK' K') | (refine ⟨trivial, trivial, ?_⟩; apply hK'; clear hK' K') | (intro hb; (try push_cast at hb); all_goals (intros; apply hK'; clear hK' K')) | ((first | refine call_R6 29 ?_ | refine Qbg r11Put_con (fun _ => rfl) ?_ | refine Qbg r10Open_con (fun _ => rfl) ?_); push_cast; (repeat' refine And.intro ?_ ?_); all_goals (first | (apply hK'; clear hK' K') | (intros; apply hK'; clear hK' K') | (clear hK' K'; first | omega | skip))) | (clear hK' K'; first | omega | skip)))
 | apply Qar | apply Qac | apply Qah | apply Qaj | apply Qau
 | apply Qap | apply Qax | apply Qas | apply Qam | apply Qaz | apply Qay
 | (refine Qaf ?_; push_cast) | apply Qag | refine Qaa (Qa3 _ (by omega) (by omega)) ?_ | refine Qaa (Qb0 _ (by omega) (by omega)) ?_ | refine Qaa (Qba _ (by omega) (by omega)) ?_ | refine Qaa (Qa5 _ (by omega) (by omega)) ?_
 | refine Qai rfl rfl ?_ | refine Qat rfl rfl ?_
 | (refine Qak (by push_cast; first | done | rfl) ?_ ?_ <;> intro hc <;> (try push_cast at hc))
 | refine Qaw rfl rfl rfl (by push_cast; first | done | rfl) ?_
 | refine Qav rfl rfl rfl (by push_cast; first | done | rfl) ?_ ?_
 | refine Qbf (id := 4) [0, 1, 2, 3, 4, 5, 7] [9, 15] [2] (.or 6 (.or 8 (.or 9 (.free 10 (.free 11 (.free 12 (.free 13 (.or 14 (.or 15 (.free 16 (.free 17 (.done))) (.stop)) (.stop)))))) (.or 14 (.or 9 (.free 10 (.free 11 (.free 12 (.free 13 (.or 15 (.free 16 (.free 17 (.done))) (.stop)))))) (.stop)) (.stop))) (.or 14 (.or 8 (.or 9 (.free 10 (.free 11 (.free 12 (.free 13 (.or 15 (.free 16 (.free 17 (.done))) (.stop)))))) (.stop)) (.stop)) (.stop))) (.or 14 (.or 6 (.or 8 (.or 9 (.free 10 (.free 11 (.free 12 (.free 13 (.or 15 (.free 16 (.free 17 (.done))) (.stop)))))) (.stop)) (.stop)) (.stop)) (.stop))) wide (by kernel_rfl) ?_
 | apply Qby | apply Qbk | apply Qbn
 | refine Qbx rfl rfl rfl ?_ | refine Qbl rfl rfl rfl ?_
 | (refine Qbm rfl rfl rfl rfl ?_ ?_; rotate_left) | (refine Qbe rfl rfl rfl rfl ?_ ?_; rotate_left)
 | (refine Qbz rfl rfl rfl rfl ?_ ?_; rotate_left; focus (intro K' hK'; push_cast; (repeat' refine And.intro ?_ ?_); all_goals (first | (refine hK' _ _ _ _ _ (by push_cast) (by push_cast; first | done | rfl) ?_; clear hK' K') | ((first | refine call_R6 29 ?_ | refine Qbg r11Put_con (fun _ => rfl) ?_ | refine Qbg r10Open_con (fun _ => rfl) ?_); push_cast; (repeat' refine And.intro ?_ ?_); all_goals (first | (refine hK' _ _ _ _ _ (by push_cast) (by push_cast; first | done | rfl) ?_; clear hK' K') | (intros; refine hK' _ _ _ _ _ (by push_cast) (by push_cast; first | done | rfl) ?_; clear hK' K') | (clear hK' K'; first | omega | skip))) | (clear hK' K'; first | omega | skip))))
 | refine Qcc rfl rfl rfl rfl (by push_cast; first | done | rfl) ?_
 | refine Qcd rfl rfl rfl rfl (by push_cast; first | done | rfl) ?_ ?_
 | (intro (hc : (_ : Prop)); (try push_cast at hc)) | intro (hc : Qad) | intro (hc : Int) | intro (hc : Nat))
 all_goals first
  | (exfalso; omega)
  | exact hpre.2.2.2.2.2 _ ‹_›
  | (simp only [hWW] at *
     have h1 : W.2.2 ≠ 0 := by simpa using ‹(!decide (W.2.2 = 0)) = true›
     rw [hX1 h1]
     have h2 := ‹b = true›
     subst h2
     refine ⟨?_, rfl⟩
     rw [h82]
     rfl)
  | (simp only [hWW] at *
     have h1 : W.2.2 ≠ 0 := by simpa using ‹(!decide (W.2.2 = 0)) = true›
     rw [hX1 h1]
     have h2 := ‹b = false›
     subst h2
     refine ⟨?_, rfl⟩
     rw [ite_self]
     rfl)
  | (simp only [hWW] at *
     have h1 : W.2.2 = 0 := by simpa using ‹(!decide (W.2.2 = 0)) = false›
     rw [hX0 h1]
     exact ⟨rfl, rfl⟩)
  | (simp only [hWW] at *; omega)
  | trace_state
theorem r12Compact_con : Con Cx.P 77 (.pair Qa4 (.pair (.slice (.int .u8)) (.unit))) (fun x => (fun (w : Qbw) (c : List Int) => (1 ≤ w.Size ∧ w.Size ≤ 255 ∧ 2 * w.Size < w.Log.Disk.Base.length) ∧ w.Log.Disk.Base.length ≤ 4096 ∧ w.Log.Disk.Queue.length ≤ 900000 ∧ c.length ≤ 12288 ∧ (1 ≤ w.Log.Stamp ∧ w.Log.Stamp ≤ 128) ∧ ∀ y ∈ w.Log.Disk.Queue, 0 ≤ y.To ∧ y.To < w.Log.Disk.Base.length) x.1 x.2.1) (fun x => (fun (w : Qbw) (c : List Int) => [.dat Qa4 (jourR (jComX (jourO w) c).1), .int .i64 (jComX (jourO w) c).2]) x.1 x.2.1) := ⟨Qt1, fun x h => r12Compact_fn x.1 x.2.1 h⟩
end
end Go.Proofs.Ytnmjcdlgfimnaaa
namespace Go.Proofs.Ytnmjcdlgfimnaaa
theorem openN_sub {b : List Int} {x : Int} (h : x ∈ (openN b).1) : x ∈ b := by
 unfold openN at h
 split at h
 ·simp at h
 ·split at h
  ·exact List.mem_of_mem_take h
  ·simp at h
theorem readB_bytes {D : Qab} (hG : ∀ k, SecOk (dGet D k).1) (k : Int) : ∀ x ∈ readB D k, 0 ≤ x ∧ x ≤ 255 := by
 intro x hx
 simp only [readB, secsAt, List.mem_flatten, List.mem_map, List.mem_range] at hx
 obtain ⟨l, ⟨s, ⟨i, _, rfl⟩, rfl⟩, hx⟩ := hx
 exact (hG _).2 x (List.mem_of_mem_drop (List.mem_of_mem_take hx))
theorem sRead_bytes {D : Qab} (hG : ∀ k, SecOk (dGet D k).1) (k e : Int) : ∀ x ∈ (sRead D k e).1, 0 ≤ x ∧ x ≤ 255 := by
 unfold sRead
 split
 ·simp
 ·split
  ·simp
  ·split
   ·exact readB_bytes hG k
   ·simp
theorem slRead_bytes {D : Qab} (hG : ∀ k, SecOk (dGet D k).1) (k z : Int) : ∀ x ∈ (slRead D k z).1, 0 ≤ x ∧ x ≤ 255 := by
 have hst : ∀ (i : Int) (q : List Int × Int), (∀ x ∈ q.1, 0 ≤ x ∧ x ≤ 255) → ∀ x ∈ (standS D k z i q).1, 0 ≤ x ∧ x ≤ 255 := fun i q hq => by
  unfold standS
  split
  ·exact fun x hx => sRead_bytes hG _ _ x (openN_sub hx)
  ·exact hq
 have hacc : ∀ x ∈ (accS D k z 2).1, 0 ≤ x ∧ x ≤ 255 := hst 1 _ (hst 0 ([], 0) (by simp))
 unfold slRead
 split
 ·split
  ·simp
  ·exact hacc
 ·simp
section
set_option linter.unusedSimpArgs false
set_option linter.unusedVariables false
set_option maxRecDepth 20000
attribute [local irreducible] Qb3 Qa9 vcA Qbp Wc
set_option maxHeartbeats 8000000
theorem r12FormatN_fn (d : Qab) (z : Int) (c : List Int) (hpre : d.Base.length ≤ 100000 ∧ jrightB d z = false) : Qck Cx.P 75 [.dat Qa2 d, .int .i64 z, .dat (.slice (.int .u8)) c] [.dat Qa4 ⟨⟨⟨[], [], 0, false⟩, 0, 0, 0⟩, 0, false⟩, .int .i64 121] := by
 refine Qck.go2 (E := Cx.env) (fn := Try.f75) (res := [_, _]) Try.func75 Qp5 rfl rfl rfl (by kernel_rfl) rfl ?_
 push_cast
 try intro hf
 repeat' (first
 | (intro (K' : KT) hK'; push_cast; (repeat' refine And.intro ?_ ?_); all_goals (first | (apply hK'; clear hK' K') | (refine ⟨trivial, trivial, ?_⟩; apply hK'; clear hK' K') | (intro hb; (try push_cast at hb); all_goals (intros; apply hK'; clear hK' K')) | ((first | refine Qbi r12Right_con (fun _ => rfl) ?_); push_cast; (repeat' refine And.intro ?_ ?_); all_goals (first | (apply hK'; clear hK' K') | (intros; apply hK'; clear hK' K') | (clear hK' K'; first | omega | skip))) | (clear hK' K'; first | omega | skip)))
 | apply Qar | apply Qac | apply Qah | apply Qaj | apply Qau
 | apply Qap | apply Qax | apply Qas | apply Qam | apply Qaz | apply Qay
 | (refine Qaf ?_; push_cast) | apply Qag | refine Qaa (Qa3 _ (by omega) (by omega)) ?_ | refine Qaa (Qb0 _ (by omega) (by omega)) ?_ | refine Qaa (Qba _ (by omega) (by omega)) ?_ | refine Qaa (Qa5 _ (by omega) (by omega)) ?_
 | refine Qai rfl rfl ?_ | refine Qat rfl rfl ?_
 | (refine Qak (by push_cast; first | done | rfl) ?_ ?_ <;> intro hc <;> (try push_cast at hc))
 | refine Qaw rfl rfl rfl (by push_cast; first | done | rfl) ?_
 | refine Qav rfl rfl rfl (by push_cast; first | done | rfl) ?_ ?_
 | (intro (hc : (_ : Prop)); (try push_cast at hc)) | intro (hc : Qad) | intro (hc : Int) | intro (hc : Nat))
 exfalso
 have h9 := ‹(!jrightB d z) = false›
 rw [hpre.2] at h9
 simp at h9
theorem r12FormatN_con : Con Cx.P 75 (.pair Qa2 (.pair (.int .i64) (.pair (.slice (.int .u8)) (.unit)))) (fun x => (fun (d : Qab) (z : Int) (c : List Int) => d.Base.length ≤ 100000 ∧ jrightB d z = false) x.1 x.2.1 x.2.2.1) (fun x => (fun (d : Qab) (z : Int) (c : List Int) => [.dat Qa4 ⟨⟨⟨[], [], 0, false⟩, 0, 0, 0⟩, 0, false⟩, .int .i64 121]) x.1 x.2.1 x.2.2.1) := ⟨Qp5, fun x h => r12FormatN_fn x.1 x.2.1 x.2.2.1 h⟩
theorem r12FormatY_fn (d : Qab) (z : Int) (c : List Int) (hpre : (1 ≤ z ∧ z ≤ 255 ∧ 2 * z < d.Base.length) ∧ d.Base.length ≤ 4096 ∧ d.Queue.length ≤ 900000 ∧ c.length ≤ 12288 ∧ (1 ≤ (openL d (2 * z) d.Base.length 0).st ∧ (openL d (2 * z) d.Base.length 0).st ≤ 128) ∧ ∀ y ∈ d.Queue, 0 ≤ y.To ∧ y.To < d.Base.length) : Qck Cx.P 75 [.dat Qa2 d, .int .i64 z, .dat (.slice (.int .u8)) c] [.dat Qa4 (jourR (jComX ⟨openL d (2 * z) d.Base.length 0, z, false⟩ c).1), .int .i64 (jComX ⟨openL d (2 * z) d.Base.length 0, z, false⟩ c).2] := by
 refine Qck.go2 (E := Cx.env) (fn := Try.f75) (res := [_, _]) Try.func75 Qp5 rfl rfl rfl (by kernel_rfl) rfl ?_
 push_cast
 try intro hf
 have hr : jrightB d z = true := jrightB_iff.2 hpre.1
 have hD : (logR (openL d (2 * z) d.Base.length 0)).Disk = d := rfl
 have hS : (logR (openL d (2 * z) d.Base.length 0)).Stamp = (openL d (2 * z) d.Base.length 0).st := rfl
 repeat' (first
 | (intro (K' : KT) hK'; push_cast; (repeat' refine And.intro ?_ ?_); all_goals (first | (apply hK'; clear hK' K') | (refine ⟨trivial, trivial, ?_⟩; apply hK'; clear hK' K') | (intro hb; (try push_cast at hb); all_goals (intros; apply hK'; clear hK' K')) | ((first | refine Qbi r12Right_con (fun _ => rfl) ?_ | refine Qbg r10Open_con (fun _ => rfl) ?_ | refine Qbg r12Compact_con (fun _ => rfl) ?_); push_cast; (repeat' refine And.intro ?_ ?_); all_goals (first | (apply hK'; clear hK' K') | (intros; apply hK'; clear hK' K') | (clear hK' K'; first | omega | skip))) | (clear hK' K'; first | omega | skip)))
 | apply Qar | apply Qac | apply Qah | apply Qaj | apply Qau
 | apply Qap | apply Qax | apply Qas | apply Qam | apply Qaz | apply Qay
 | (refine Qaf ?_; push_cast) | apply Qag | refine Qaa (Qa3 _ (by omega) (by omega)) ?_ | refine Qaa (Qb0 _ (by omega) (by omega)) ?_ | refine Qaa (Qba _ (by omega) (by omega)) ?_ | refine Qaa (Qa5 _ (by omega) (by omega)) ?_
 | refine Qai rfl rfl ?_ | refine Qat rfl rfl ?_
 | (refine Qak (by push_cast; first | done | rfl) ?_ ?_ <;> intro hc <;> (try push_cast at hc))
 | refine Qaw rfl rfl rfl (by push_cast; first | done | rfl) ?_
 | refine Qav rfl rfl rfl (by push_cast; first | done | rfl) ?_ ?_
 | (intro (hc : (_ : Prop)); (try push_cast at hc)) | intro (hc : Qad) | intro (hc : Int) | intro (hc : Nat))
 all_goals first
  | (exfalso; have h9 := ‹(!jrightB d z) = true›; rw [hr] at h9; simp at h9; done)
  | exact hpre.1.2.2
  | exact hpre.2.1
  | exact hpre.2.2.1
  | exact hpre.2.2.2.2.1.1
  | exact hpre.2.2.2.2.1.2
  | exact hpre.2.2.2.2.2 _ ‹_›
  | exact ⟨rfl, rfl⟩
  | trace_state
theorem r12FormatY_con : Con Cx.P 75 (.pair Qa2 (.pair (.int .i64) (.pair (.slice (.int .u8)) (.unit)))) (fun x => (fun (d : Qab) (z : Int) (c : List Int) => (1 ≤ z ∧ z ≤ 255 ∧ 2 * z < d.Base.length) ∧ d.Base.length ≤ 4096 ∧ d.Queue.length ≤ 900000 ∧ c.length ≤ 12288 ∧ (1 ≤ (openL d (2 * z) d.Base.length 0).st ∧ (openL d (2 * z) d.Base.length 0).st ≤ 128) ∧ ∀ y ∈ d.Queue, 0 ≤ y.To ∧ y.To < d.Base.length) x.1 x.2.1 x.2.2.1) (fun x => (fun (d : Qab) (z : Int) (c : List Int) => [.dat Qa4 (jourR (jComX ⟨openL d (2 * z) d.Base.length 0, z, false⟩ c).1), .int .i64 (jComX ⟨openL d (2 * z) d.Base.length 0, z, false⟩ c).2]) x.1 x.2.1 x.2.2.1) := ⟨Qp5, fun x h => r12FormatY_fn x.1 x.2.1 x.2.2.1 h⟩
theorem r12Open_fn (d : Qab) (z : Int) (hpre : (1 ≤ z ∧ z ≤ 255 ∧ 2 * z < d.Base.length) ∧ d.Base.length ≤ 4096 ∧ (slRead d 0 z).2.2 = 0 ∧ (0 < (slRead d 0 z).1.length ∧ (slRead d 0 z).1.length ≤ 1000000) ∧ (slRead d 0 z).1.getD 0 0 < 128) : Qck Cx.P 78 [.dat Qa2 d, .int .i64 z] [.dat Qa4 (jourR ⟨openL d (2 * z) d.Base.length ((slRead d 0 z).1.getD 0 0), z, false⟩), .str (Qcj ((slRead d 0 z).1.drop 1)), .dat (.slice .str) ((recsN d (2 * z) d.Base.length ((slRead d 0 z).1.getD 0 0)).1.map Qcj), .int .i64 0] := by
 refine Qck.go2 (E := Cx.env) (fn := Try.f78) (res := [_, _, _, _]) Try.func78 Qtp rfl rfl rfl (by kernel_rfl) rfl ?_
 push_cast
 try intro hf
 have hr : jrightB d z = true := jrightB_iff.2 hpre.1
 have hG : ∀ j, SecOk (dGet d j).1 := dGet_ok (fun y hy => hf.1.1.2 y hy) (fun y hy => (hf.1.2.1.2 y hy).1)
 have hbyt := slRead_bytes hG 0 z
 have hb0 : 0 ≤ (slRead d 0 z).1.getD 0 0 := (hbyt _ (getD_mem _ 0 0 (by omega))).1
 repeat' (first
 | (intro (K' : KT) hK'; push_cast; (repeat' refine And.intro ?_ ?_); all_goals (first | (apply hK'; clear hK' K') | (refine ⟨trivial, trivial, ?_⟩; apply hK'; clear hK' K') | (intro hb; (try push_cast at hb); all_goals (intros; apply hK'; clear hK' K')) | ((first | refine Qbi r12Right_con (fun _ => rfl) ?_ | refine Qbg r11Read_con (fun _ => rfl) ?_); push_cast; (repeat' refine And.intro ?_ ?_); all_goals (first | (apply hK'; clear hK' K') | (intros; apply hK'; clear hK' K') | (clear hK' K'; first | omega | skip))) | (clear hK' K'; first | omega | skip)))
 | apply Qar | refine Qbo (id := 3) ?_ | apply Qac | apply Qah | apply Qaj | apply Qau
 | apply Qap | apply Qax | apply Qas | apply Qam | apply Qaz | apply Qay
 | (refine Qaf ?_; push_cast) | apply Qag | refine Qaa (Qa3 _ (by omega) (by omega)) ?_ | refine Qaa (Qb0 _ (by omega) (by omega)) ?_ | refine Qaa (Qba _ (by omega) (by omega)) ?_ | refine Qaa (Qa5 _ (by omega) (by omega)) ?_
 | refine Qai rfl rfl ?_ | refine Qat rfl rfl ?_
 | (refine Qak (by push_cast; first | done | rfl) ?_ ?_ <;> intro hc <;> (try push_cast at hc))
 | refine Qaw rfl rfl rfl (by push_cast; first | done | rfl) ?_
 | refine Qav rfl rfl rfl (by push_cast; first | done | rfl) ?_ ?_
 | refine Qbf (id := 10) [0, 1, 2, 3, 4, 5, 6] [] [11, 13] (.or 7 (.free 8 (.free 9 (.free 10 (.done)))) (.stop)) wide (by kernel_rfl) ?_
 | apply Qby | apply Qbk | apply Qbn
 | refine Qbx rfl rfl rfl ?_ | refine Qbl rfl rfl rfl ?_
 | (refine Qbm rfl rfl rfl rfl ?_ ?_; rotate_left) | (refine Qbe rfl rfl rfl rfl ?_ ?_; rotate_left)
 | (refine Qbz rfl rfl rfl rfl ?_ ?_; rotate_left; focus (intro K' hK'; push_cast; (repeat' refine And.intro ?_ ?_); all_goals (first | (refine hK' _ _ _ _ _ (by push_cast) (by push_cast; first | done | rfl) ?_; clear hK' K') | ((first | refine Qbi r12Right_con (fun _ => rfl) ?_ | refine Qbg r11Read_con (fun _ => rfl) ?_); push_cast; (repeat' refine And.intro ?_ ?_); all_goals (first | (refine hK' _ _ _ _ _ (by push_cast) (by push_cast; first | done | rfl) ?_; clear hK' K') | (intros; refine hK' _ _ _ _ _ (by push_cast) (by push_cast; first | done | rfl) ?_; clear hK' K') | (clear hK' K'; first | omega | skip))) | (clear hK' K'; first | omega | skip))))
 | refine Qcc rfl rfl rfl rfl (by push_cast; first | done | rfl) ?_
 | refine Qcd rfl rfl rfl rfl (by push_cast; first | done | rfl) ?_ ?_
 | (intro (hc : (_ : Prop)); (try push_cast at hc)) | intro (hc : Qad) | intro (hc : Int) | intro (hc : Nat))
 ·exfalso; rw [hr] at hc; simp at hc
 ·have h0 : (slRead d 0 z).2.2 = 0 := hpre.2.2.1
  rw [h0]
  generalize slRead d 0 z = R at *
  apply Qc5
  push_cast
  repeat' (first
 | (intro (K' : KT) hK'; push_cast; (repeat' refine And.intro ?_ ?_); all_goals (first | (apply hK'; clear hK' K') | (refine ⟨trivial, trivial, ?_⟩; apply hK'; clear hK' K') | (intro hb; (try push_cast at hb); all_goals (intros; apply hK'; clear hK' K')) | ((first | refine Qbg r06TakeNum_con (fun _ => rfl) ?_ | refine Qbg r10Open_con (fun _ => rfl) ?_); push_cast; (repeat' refine And.intro ?_ ?_); all_goals (first | (apply hK'; clear hK' K') | (intros; apply hK'; clear hK' K') | (clear hK' K'; first | omega | skip))) | (clear hK' K'; first | omega | skip)))
 | apply Qar | apply Qac | apply Qah | apply Qaj | apply Qau
 | apply Qap | apply Qax | apply Qas | apply Qam | apply Qaz | apply Qay
 | (refine Qaf ?_; push_cast) | apply Qag | refine Qaa (Qa3 _ (by omega) (by omega)) ?_ | refine Qaa (Qb0 _ (by omega) (by omega)) ?_ | refine Qaa (Qba _ (by omega) (by omega)) ?_ | refine Qaa (Qa5 _ (by omega) (by omega)) ?_
 | refine Qai rfl rfl ?_ | refine Qat rfl rfl ?_
 | (refine Qak (by push_cast; first | done | rfl) ?_ ?_ <;> intro hc <;> (try push_cast at hc))
 | refine Qaw rfl rfl rfl (by push_cast; first | done | rfl) ?_
 | refine Qav rfl rfl rfl (by push_cast; first | done | rfl) ?_ ?_
 | refine Qbf (id := 10) [0, 1, 2, 3, 4, 5, 6] [] [11, 13] (.or 7 (.free 8 (.free 9 (.free 10 (.done)))) (.stop)) wide (by kernel_rfl) ?_
 | apply Qby | apply Qbk | apply Qbn
 | refine Qbx rfl rfl rfl ?_ | refine Qbl rfl rfl rfl ?_
 | (refine Qbm rfl rfl rfl rfl ?_ ?_; rotate_left) | (refine Qbe rfl rfl rfl rfl ?_ ?_; rotate_left)
 | (refine Qbz rfl rfl rfl rfl ?_ ?_; rotate_left; focus (intro K' hK'; push_cast; (repeat' refine And.intro ?_ ?_); all_goals (first | (refine hK' _ _ _ _ _ (by push_cast) (by push_cast; first | done | rfl) ?_; clear hK' K') | ((first | refine Qbg r06TakeNum_con (fun _ => rfl) ?_ | refine Qbg r10Open_con (fun _ => rfl) ?_); push_cast; (repeat' refine And.intro ?_ ?_); all_goals (first | (refine hK' _ _ _ _ _ (by push_cast) (by push_cast; first | done | rfl) ?_; clear hK' K') | (intros; refine hK' _ _ _ _ _ (by push_cast) (by push_cast; first | done | rfl) ?_; clear hK' K') | (clear hK' K'; first | omega | skip))) | (clear hK' K'; first | omega | skip))))
 | (refine Qec rfl rfl rfl rfl ?_ ?_; rotate_left; focus (intro K' hK'; push_cast; (repeat' refine And.intro ?_ ?_); all_goals (first | (refine hK' _ _ _ _ _ (by push_cast) (by push_cast; first | done | rfl) ?_; clear hK' K') | ((first | refine Qbg r06TakeNum_con (fun _ => rfl) ?_ | refine Qbg r10Open_con (fun _ => rfl) ?_); push_cast; (repeat' refine And.intro ?_ ?_); all_goals (first | (refine hK' _ _ _ _ _ (by push_cast) (by push_cast; first | done | rfl) ?_; clear hK' K') | (intros; refine hK' _ _ _ _ _ (by push_cast) (by push_cast; first | done | rfl) ?_; clear hK' K') | (clear hK' K'; first | omega | skip))) | (clear hK' K'; first | omega | skip))))
 | (refine Qdv rfl rfl rfl rfl (by push_cast; first | done | rfl) ?_)
 | refine Qdt rfl rfl rfl rfl (by push_cast; first | done | rfl) ?_ ?_
 | (refine Qed rfl rfl rfl rfl (by push_cast; first | done | rfl) ?_ ?_)
 | (refine Qeb rfl rfl rfl rfl rfl (by push_cast; first | done | rfl) ?_ ?_ ?_; focus (intro hc; (try push_cast at hc); all_goals (intro K' hK'; push_cast; (repeat' refine And.intro ?_ ?_); all_goals (first | (refine hK' _ _ _ _ _ (by push_cast) (by push_cast; first | done | rfl) ?_; clear hK' K') | ((first | refine Qbg r06TakeNum_con (fun _ => rfl) ?_ | refine Qbg r10Open_con (fun _ => rfl) ?_); push_cast; (repeat' refine And.intro ?_ ?_); all_goals (first | (refine hK' _ _ _ _ _ (by push_cast) (by push_cast; first | done | rfl) ?_; clear hK' K') | (intros; refine hK' _ _ _ _ _ (by push_cast) (by push_cast; first | done | rfl) ?_; clear hK' K') | (clear hK' K'; first | omega | skip))) | (clear hK' K'; first | omega | skip)))))
 | refine Qcc rfl rfl rfl rfl (by push_cast; first | done | rfl) ?_
 | refine Qcd rfl rfl rfl rfl (by push_cast; first | done | rfl) ?_ ?_
 | (intro (hc : (_ : Prop)); (try push_cast at hc)) | intro (hc : Qad) | intro (hc : Int) | intro (hc : Nat))
  all_goals first
   | (exfalso; omega)
   | rfl
   | trace_state
theorem r12Open_con : Con Cx.P 78 (.pair Qa2 (.pair (.int .i64) (.unit))) (fun x => (fun (d : Qab) (z : Int) => (1 ≤ z ∧ z ≤ 255 ∧ 2 * z < d.Base.length) ∧ d.Base.length ≤ 4096 ∧ (slRead d 0 z).2.2 = 0 ∧ (0 < (slRead d 0 z).1.length ∧ (slRead d 0 z).1.length ≤ 1000000) ∧ (slRead d 0 z).1.getD 0 0 < 128) x.1 x.2.1) (fun x => (fun (d : Qab) (z : Int) => [.dat Qa4 (jourR ⟨openL d (2 * z) d.Base.length ((slRead d 0 z).1.getD 0 0), z, false⟩), .str (Qcj ((slRead d 0 z).1.drop 1)), .dat (.slice .str) ((recsN d (2 * z) d.Base.length ((slRead d 0 z).1.getD 0 0)).1.map Qcj), .int .i64 0]) x.1 x.2.1) := ⟨Qtp, fun x h => r12Open_fn x.1 x.2.1 h⟩
end
end Go.Proofs.Ytnmjcdlgfimnaaa
