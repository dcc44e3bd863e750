/- Chapter 12's statements: whatever is done with a journal. -/
import Derived.Test.YtnmjcdlgfimnaaaJ3
import Derived.Test.YtnmjcdlgfimnaaaK1
import Derived.Test.YtnmjcdlgfimnaaaK4
namespace Go.Proofs.Ytnmjcdlgfimnaaa
theorem jourR_mk (D : Qab) (a e st z : Int) (b : Bool) : jourR ⟨⟨D, a, e, st⟩, z, b⟩ = ⟨⟨D, a, e, st⟩, z, b⟩ := rfl
theorem jourO_mk (D : Qab) (a e st z : Int) (b : Bool) : jourO ⟨⟨D, a, e, st⟩, z, b⟩ = ⟨⟨D, a, e, st⟩, z, b⟩ := rfl
theorem blank_st {n z : Int} (h : jrightB (dBlank n) z = true) (hn : n ≤ 60) : 0 ≤ n ∧ ((dBlank n).Base.length : Int) = n ∧ openL (dBlank n) (2 * z) (dBlank n).Base.length 0 = ⟨dBlank n, 2 * z, n, 1⟩ := by
 obtain ⟨h1, h2, h3⟩ := jrightB_iff.1 h
 have hl : (dBlank n).Base.length = (max 0 (min n 2048)).toNat := by simp only [dBlank, List.length_replicate]
 have h0 : 0 ≤ n := by omega
 have hb := blank_len h0 (by omega)
 exact ⟨h0, hb, by rw [hb]; exact openL_new (by omega) (by omega) (by omega) (by omega) 0 (by decide)⟩
theorem finds_small {E : Qab} {m i : Nat} {z G : Int} (h : Holds E m z i G) (hz : 1 ≤ z ∧ z ≤ 255 ∧ 2 * z < m) (hi : i ≤ 100) :
    ∃ (f : Nat) (c : List Int) (g : Int), slRead E 0 z = (numB f ++ c, g, 0) ∧ f ≤ i ∧ c.length ≤ 13515 ∧ (slRead E 0 z).1.drop 1 = c ∧ (slRead E 0 z).1.getD 0 0 = (f : Int) ∧ (slRead E 0 z).1.length = c.length + 1 := by
 obtain ⟨f, c, g, hs, hf0, hf1, _⟩ := holds_read h ⟨hz.1, hz.2.1, by omega⟩
 have e : numB f.toNat = [f] := by
  rw [numB_low (by omega)]
  congr 1
  omega
 have hle := slRead_le (D := E) h.sec 0 z
 rw [hs] at hle
 simp only [List.length_cons] at hle
 refine ⟨f.toNat, c, g, by rw [hs, e]; rfl, by omega, by omega, by rw [hs]; rfl, by rw [hs]; show f = _; omega, by rw [hs]; rfl⟩
theorem regK_gs {E : Env} {y : Code} {K : KC} {s : Qan} (h : Qs2 E y K .normal s) : Qpn (Qs2 E y K) s := Qam h
theorem regK_j {K : KC} {S s : Qan} (hl : Le2 S s) (h : K .normal S) : Qpn K s := Qqa S (.of_le2 hl) h
theorem regKS_j {K : KC} {S s : Qan} (hl : Le2 S s) (h : K .normal S) : Qm6 K s := by
 unfold Qm6
 exact regK_j hl h
theorem GLe.swp {s : Qan} {id : Nat} {b b' : Box} (hm : Qco s.mem id = some b) (h : ∀ G γ v f, b.at G γ v f → b'.at G γ v f) : GLe (s.setBox id b') s :=
 ⟨rfl, fun _ G γ _ _ hs => ⟨G, γ, Hp.le_refl G, hs.swap hm (h G γ)⟩⟩
theorem jour_shut {E : Qab} {a e st z : Int} {b : Bool} {G : Hp} {γ : Nat → Value} {v : Value} {f : Hp} (h : (Box.segs [.dat Qa2 E, .int .i64 a, .int .i64 e, .int .u64 st, .int .i64 z, .bool b]).at G γ v f) : (Box.segs [.dat Qa4 ⟨⟨E, a, e, st⟩, z, b⟩]).at G γ v f :=
 (Box.ex_at (b := Box.segs [.dat Qa4 ⟨⟨E, a, e, st⟩, z, b⟩])).1 ((Box.ex_at (b := Box.segs [.dat Qb9 ⟨E, a, e, st⟩, .int .i64 z, .bool b])).1 h)
theorem regK_w {K : KC} {S s : Qan} {E : Qab} {a e st z : Int} {b : Bool} (id : Nat) (hm : Qco s.mem id = some (.segs [.dat Qa2 E, .int .i64 a, .int .i64 e, .int .u64 st, .int .i64 z, .bool b])) (hl : Le2 S (s.setBox id (.segs [.dat Qa4 ⟨⟨E, a, e, st⟩, z, b⟩]))) (h : K .normal S) : Qpn K s :=
 Qqa S ((GLe.of_le2 hl).trans (GLe.swp hm fun _ _ _ _ => jour_shut)) h
theorem regKS_w {K : KC} {S s : Qan} {E : Qab} {a e st z : Int} {b : Bool} (id : Nat) (hm : Qco s.mem id = some (.segs [.dat Qa2 E, .int .i64 a, .int .i64 e, .int .u64 st, .int .i64 z, .bool b])) (hl : Le2 S (s.setBox id (.segs [.dat Qa4 ⟨⟨E, a, e, st⟩, z, b⟩]))) (h : K .normal S) : Qm6 K s := by
 unfold Qm6
 exact regK_w id hm hl h
theorem go_joinB {E : Env} {K : KC} {sl sl1 : List (Nat × TV)} {mem mem1 : List (Nat × Box)} {pins : List Nat} {c : Code} {ι : Type} (W M : List Nat) (ok : ι → Prop) (ch : ι → List (Nat × TV)) (cm : ι → List (Nat × Box)) (hsl : Qkj W sl = sl1) (hmem : Qkg M mem = mem1)
    (hc : ∀ K' : KC, (∀ j, ok j → K' .normal ⟨ch j ++ sl1, cm j ++ mem1, pins⟩) → Qa9 E c ⟨sl, mem, pins⟩ K')
    (hy : ∀ j, ok j → K .normal ⟨ch j ++ sl1, cm j ++ mem1, pins⟩) : Qa9 E c ⟨sl, mem, pins⟩ K := by
 subst hsl hmem
 exact hc K hy
section
set_option linter.unusedSimpArgs false
set_option linter.unusedVariables false
set_option maxRecDepth 20000
attribute [local irreducible] Qb3 Qa9 vcA Qbp Wc
set_option maxHeartbeats 8000000
attribute [local push_cast] jourR_mk jourO_mk slWrite_len
theorem jRuns_fn (place : List Int) (state : List Int) (acts : List Qct) : Qck Cx.P 22 [.dat (.arr 2 (.int .i64)) place, .dat (.slice (.int .u8)) state, .dat (.slice Qce) acts] [.bool true] := by
 refine Qck.go2 (E := Cx.env) (fn := Try.f22) (res := [_]) Try.func22 Qux rfl rfl rfl (by kernel_rfl) rfl ?_
 push_cast
 try intro hf
 repeat' (first
 | (intro (K' : KT) hK'; push_cast; (repeat' refine And.intro ?_ ?_); all_goals (first | (apply hK'; clear hK' K') | (refine ⟨trivial, trivial, ?_⟩; apply hK'; clear hK' K') | (intro hb; (try push_cast at hb); all_goals (intros; apply hK'; clear hK' K')) | ((first | refine Qbi jAlive_con (fun _ => rfl) ?_ | refine Qbi great12_con (fun _ => rfl) ?_ | refine Qqd Blank_con 9100 ?_); push_cast; (repeat' refine And.intro ?_ ?_); all_goals (first | (apply hK'; clear hK' K') | (intros; apply hK'; clear hK' K') | (clear hK' K'; first | omega | skip))) | (clear hK' K'; first | omega | skip)))
 | apply Qar | apply Qa0 | refine Qbo (id := 5) ?_ | apply Qac | apply Qah | apply Qaj | apply Qau
 | apply Qap | apply Qax | apply Qas | apply Qaq | apply Qa1 | apply Qal | apply Qae rfl | apply Qa6 | apply Qa7 | apply Qam | apply Qaz | apply Qay
 | (refine Qaf ?_; push_cast) | apply Qag | refine Qaa (Qa3 _ (by omega) (by omega)) ?_ | refine Qaa (Qb0 _ (by omega) (by omega)) ?_ | refine Qaa (Qba _ (by omega) (by omega)) ?_ | refine Qaa (Qa5 _ (by omega) (by omega)) ?_
 | refine Qai rfl rfl ?_ | refine Qat rfl rfl ?_
 | (refine Qak (by push_cast; first | done | rfl) ?_ ?_ <;> intro hc <;> (try push_cast at hc))
 | refine Qaw rfl rfl rfl (by push_cast; first | done | rfl) ?_
 | refine Qav rfl rfl rfl (by push_cast; first | done | rfl) ?_ ?_
 | (intro (hc : (_ : Prop)); (try push_cast at hc)) | intro (hc : Qad) | intro (hc : Int) | intro (hc : Nat))
 have hlen := great12_len ‹greatB12 acts = false›
 have hn : place.getD 0 0 ≤ 60 := by omega
 have hsb : ∀ x ∈ state, 0 ≤ x ∧ x ≤ 255 := hf.2.1.2
 by_cases hR : jrightB (dBlank (place.getD 0 0)) (place.getD 1 0) = true
 ·obtain ⟨z1, z2, z3⟩ := jrightB_iff.1 hR
  obtain ⟨hn0, hbl, ho⟩ := blank_st hR hn
  have hq0 : (dBlank (place.getD 0 0)).Queue.length ≤ 900000 := by show (0 : Nat) ≤ _; omega
  have hto0 : ∀ y ∈ (dBlank (place.getD 0 0)).Queue, 0 ≤ y.To ∧ y.To < (dBlank (place.getD 0 0)).Base.length := by intro y hy; simp [dBlank] at hy
  have hst1 : (openL (dBlank (place.getD 0 0)) (2 * place.getD 1 0) (dBlank (place.getD 0 0)).Base.length 0).st = 1 := by rw [ho]
  have hbn : (dBlank (place.getD 0 0)).Base.length ≤ 60 := by omega
  have hJe : ∀ c : List Int, jComX ⟨openL (dBlank (place.getD 0 0)) (2 * place.getD 1 0) (dBlank (place.getD 0 0)).Base.length 0, place.getD 1 0, false⟩ c = if (slWrite (dBlank (place.getD 0 0)) 0 (place.getD 1 0) (numB ((openL (dBlank (place.getD 0 0)) (2 * place.getD 1 0) (dBlank (place.getD 0 0)).Base.length 0).st - 1).toNat ++ c)).2.2 = 0 then (jNew (dBlank (place.getD 0 0)) (place.getD 1 0) c, 0) else (jComG ⟨openL (dBlank (place.getD 0 0)) (2 * place.getD 1 0) (dBlank (place.getD 0 0)).Base.length 0, place.getD 1 0, false⟩ c, (slWrite (dBlank (place.getD 0 0)) 0 (place.getD 1 0) (numB ((openL (dBlank (place.getD 0 0)) (2 * place.getD 1 0) (dBlank (place.getD 0 0)).Base.length 0).st - 1).toNat ++ c)).2.2) := fun _ => rfl
  have hX := hJe state
  clear hJe
  by_cases hW : (slWrite (dBlank (place.getD 0 0)) 0 (place.getD 1 0) (numB ((openL (dBlank (place.getD 0 0)) (2 * place.getD 1 0) (dBlank (place.getD 0 0)).Base.length 0).st - 1).toNat ++ state)).2.2 = 0
  ·rw [if_pos hW] at hX
   apply Qc5
   push_cast
   repeat' (first
 | (intro (K' : KT) hK'; push_cast; (repeat' refine And.intro ?_ ?_); all_goals (first | (apply hK'; clear hK' K') | (refine ⟨trivial, trivial, ?_⟩; apply hK'; clear hK' K') | (intro hb; (try push_cast at hb); all_goals (intros; apply hK'; clear hK' K')) | ((first | refine call_Fo 9300 9200 ?_); push_cast; (repeat' refine And.intro ?_ ?_); all_goals (first | (apply hK'; clear hK' K') | (intros; apply hK'; clear hK' K') | (clear hK' K'; first | omega | skip))) | (clear hK' K'; first | omega | skip)))
 | apply Qar | apply Qa0 | refine Qbo (id := 6) ?_ | apply Qac | apply Qah | apply Qaj | apply Qau
 | apply Qap | apply Qax | apply Qas | apply Qaq | apply Qa1 | apply Qal | apply Qae rfl | apply Qa6 | apply Qa7 | apply Qam | apply Qaz | apply Qay
 | (refine Qaf ?_; push_cast) | apply Qag | refine Qaa (Qa3 _ (by omega) (by omega)) ?_ | refine Qaa (Qb0 _ (by omega) (by omega)) ?_ | refine Qaa (Qba _ (by omega) (by omega)) ?_ | refine Qaa (Qa5 _ (by omega) (by omega)) ?_
 | refine Qai rfl rfl ?_ | refine Qat rfl rfl ?_
 | (refine Qak (by push_cast; first | done | rfl) ?_ ?_ <;> intro hc <;> (try push_cast at hc))
 | refine Qaw rfl rfl rfl (by push_cast; first | done | rfl) ?_
 | refine Qav rfl rfl rfl (by push_cast; first | done | rfl) ?_ ?_
 | (intro (hc : (_ : Prop)); (try push_cast at hc)) | intro (hc : Qad) | intro (hc : Int) | intro (hc : Nat))
   generalize hJ0 : jNew (dBlank (place.getD 0 0)) (place.getD 1 0) state = J0 at *
   apply Qc5
   apply Qap
   repeat apply Qar
   refine go_joinK [10, 11, 49, 50, 51, 52, 53, 54, 55, 56, 57, 58] [10] (fun _ : Unit => True) (fun _ => [(10, .one (.l (.ptr 10 [] 0))), (11, .one (.l (.int .i64 0)))]) (fun _ => [(10, .segs [.dat Qa4 (jourR J0)])]) (by push_cast; first | done | rfl) (by push_cast; first | done | rfl) ?_ ?_
   ·intro K' hj' hx'
    repeat' (first
 | (intro (K' : KT) hK'; push_cast; (repeat' refine And.intro ?_ ?_); all_goals (first | (apply hK'; clear hK' K') | (refine ⟨trivial, trivial, ?_⟩; apply hK'; clear hK' K') | (intro hb; (try push_cast at hb); all_goals (intros; apply hK'; clear hK' K')) | ((first | refine Qbg r08Blank_con (fun _ => rfl) ?_ | refine Qbg r12FormatY_con (fun _ => rfl) ?_); push_cast; (repeat' refine And.intro ?_ ?_); all_goals (first | (apply hK'; clear hK' K') | (intros; apply hK'; clear hK' K') | (clear hK' K'; first | omega | skip))) | (clear hK' K'; first | omega | skip)))
 | apply Qar | apply Qa0 | apply Qac | apply Qah | apply Qaj | apply Qau
 | apply Qap | apply Qax | apply Qas | apply Qaq | apply Qa1 | apply Qal | apply Qae rfl | apply Qa6 | apply Qa7 | apply Qaz | apply Qay
 | (refine Qaf ?_; push_cast) | apply Qag | refine Qaa (Qa3 _ (by omega) (by omega)) ?_ | refine Qaa (Qb0 _ (by omega) (by omega)) ?_ | refine Qaa (Qba _ (by omega) (by omega)) ?_ | refine Qaa (Qa5 _ (by omega) (by omega)) ?_
 | refine Qai rfl rfl ?_ | refine Qat rfl rfl ?_
 | (refine Qak (by push_cast; first | done | rfl) ?_ ?_ <;> intro hc <;> (try push_cast at hc))
 | refine Qaw rfl rfl rfl (by push_cast; first | done | rfl) ?_
 | refine Qav rfl rfl rfl (by push_cast; first | done | rfl) ?_ ?_
 | refine Qbf (id := 7) [0, 1, 3, 4, 5] [6, 11] [3] (.or 2 (.or 6 (.free 7 (.free 8 (.free 9 (.or 10 (.or 11 (.free 12 (.done)) (.stop)) (.stop))))) (.or 10 (.or 6 (.free 7 (.free 8 (.free 9 (.or 11 (.free 12 (.done)) (.stop))))) (.stop)) (.stop))) (.or 10 (.or 2 (.or 6 (.free 7 (.free 8 (.free 9 (.or 11 (.free 12 (.done)) (.stop))))) (.stop)) (.stop)) (.stop))) wide (by kernel_rfl) ?_
 | apply Qby | apply Qbk | apply Qbn
 | refine Qbx rfl rfl rfl ?_ | refine Qbl rfl rfl rfl ?_
 | (refine Qbm rfl rfl rfl rfl ?_ ?_; rotate_left) | (refine Qbe rfl rfl rfl rfl ?_ ?_; rotate_left)
 | (refine Qbz rfl rfl rfl rfl ?_ ?_; rotate_left; focus (intro K' hK'; push_cast; (repeat' refine And.intro ?_ ?_); all_goals (first | (refine hK' _ _ _ _ _ (by push_cast) (by push_cast; first | done | rfl) ?_; clear hK' K') | ((first | refine Qbg r08Blank_con (fun _ => rfl) ?_ | refine Qbg r12FormatY_con (fun _ => rfl) ?_); push_cast; (repeat' refine And.intro ?_ ?_); all_goals (first | (refine hK' _ _ _ _ _ (by push_cast) (by push_cast; first | done | rfl) ?_; clear hK' K') | (intros; refine hK' _ _ _ _ _ (by push_cast) (by push_cast; first | done | rfl) ?_; clear hK' K') | (clear hK' K'; first | omega | skip))) | (clear hK' K'; first | omega | skip))))
 | refine Qcc rfl rfl rfl rfl (by push_cast; first | done | rfl) ?_
 | refine Qcd rfl rfl rfl rfl (by push_cast; first | done | rfl) ?_ ?_
 | (intro (hc : (_ : Prop)); (try push_cast at hc)) | intro (hc : Qad) | intro (hc : Int) | intro (hc : Nat))
    all_goals first
     | omega
     | (simp only [hX]; refine hj' () _ trivial ?_; push_cast; done)
     | exact hto0 _ ‹_›
     | trace_state
   rintro ⟨⟩ _
   have hzz : J0.z = place.getD 1 0 := by rw [← hJ0]; rfl
   have hrr : J0.r = true := by rw [← hJ0]; rfl
   have hfit : spanN (closeN (numB 0 ++ state)).length ≠ 0 ∧ spanN (closeN (numB 0 ++ state)).length ≤ place.getD 1 0 := by
    refine Classical.byContradiction fun h => ?_
    rw [hst1] at hW
    have e0 : numB ((1 : Int) - 1).toNat = numB 0 := rfl
    rw [e0] at hW
    have h9 : slWrite (dBlank (place.getD 0 0)) 0 (place.getD 1 0) (numB 0 ++ state) = (dBlank (place.getD 0 0), 0, 111) := by
     unfold slWrite
     rw [if_neg (fun h5 => h h5.2)]
    rw [h9] at hW
    simp at hW
   have hinv0 : RInv J0 (place.getD 0 0).toNat 0 := by rw [← hJ0]; exact rinv_new ⟨z1, z2, by omega⟩ hn hsb hfit
   clear hX hJ0 hW hfit
   obtain ⟨⟨D0, a0, e0, st0⟩, z0, b0⟩ := J0
   simp only at hzz hrr
   subst hzz hrr
   apply Qap
   push_cast
   repeat' (first
 | (intro (K' : KT) hK'; push_cast; (repeat' refine And.intro ?_ ?_); all_goals (first | (apply hK'; clear hK' K') | (refine ⟨trivial, trivial, ?_⟩; apply hK'; clear hK' K') | (intro hb; (try push_cast at hb); all_goals (intros; apply hK'; clear hK' K')) | (clear hK' K'; first | omega | skip)))
 | apply Qar | apply Qa0 | apply Qac | apply Qah | apply Qaj | apply Qau
 | apply Qap | apply Qax | apply Qas | apply Qaq | apply Qa1 | apply Qal | apply Qae rfl | apply Qa6 | apply Qa7 | apply Qam | apply Qaz | apply Qay
 | (refine Qaf ?_; push_cast) | apply Qag | refine Qaa (Qa3 _ (by omega) (by omega)) ?_ | refine Qaa (Qb0 _ (by omega) (by omega)) ?_ | refine Qaa (Qba _ (by omega) (by omega)) ?_ | refine Qaa (Qa5 _ (by omega) (by omega)) ?_
 | refine Qai rfl rfl ?_ | refine Qat rfl rfl ?_
 | (refine Qak (by push_cast; first | done | rfl) ?_ ?_ <;> intro hc <;> (try push_cast at hc))
 | refine Qaw rfl rfl rfl (by push_cast; first | done | rfl) ?_
 | refine Qav rfl rfl rfl (by push_cast; first | done | rfl) ?_ ?_
 | (intro (hc : (_ : Prop)); (try push_cast at hc)) | intro (hc : Qad) | intro (hc : Int) | intro (hc : Nat))
   refine Qbu [6, 8, 13, 14, 15, 16, 17, 18, 19, 20, 21, 22, 23, 41, 46, 47, 63, 73, 74, 75, 76, 77, 78, 79, 80, 81, 82, 83, 84, 85, 86, 87, 88, 89, 90, 91, 92, 93, 94, 95, 96, 97, 98, 99, 100, 101, 102, 103, 104, 105, 106, 107, 108, 109, 110, 111, 112, 113, 114, 115, 116, 117, 118, 119, 120, 121, 122, 123, 124, 125, 126, 127, 128, 129, 130, 131, 132, 133, 134, 135, 136, 137, 138, 139, 140, 141, 142, 143, 144, 145, 146, 147, 148, 149, 150, 151, 152, 153, 154, 155, 156, 157, 158, 159, 160, 161, 162, 163, 164, 165, 166, 167, 168, 169, 170, 171, 172, 173, 174, 175, 176, 177, 178, 179, 180, 181, 182, 183, 184, 185, 186, 187, 188, 189, 190, 191, 192, 193, 194, 195, 196, 197, 198, 199, 200] [10, 13, 20, 82, 85, 86, 91, 97, 99, 102, 103, 108, 120, 126, 133, 144, 157, 164, 174, 180, 188, 190, 195, 9100, 9200, 9300] (fun (p : LogS × Bool × Nat) => p.2.2 ≤ acts.length ∧ RInv ⟨p.1, place.getD 1 0, p.2.1⟩ (place.getD 0 0).toNat p.2.2) (fun (p : LogS × Bool × Nat) => [(73, .one (.l (.int .i64 p.2.2))), (8, .one (.l (.ptr 9300 [] 0)))]) (fun (p : LogS × Bool × Nat) => [(9100, .obj DiskO p.1.D), (9200, .segs [.ptr 9100 [] 0, .int .i64 p.1.a, .int .i64 p.1.e, .int .u64 p.1.st]), (9300, .segs [.ptr 9100 [] 0, .int .i64 (place.getD 1 0), .ptr 9200 [] 0, .bool p.2.1]), (10, .segs [.dat Qa4 ⟨⟨p.1.D, p.1.a, p.1.e, p.1.st⟩, place.getD 1 0, p.2.1⟩])]) (fun (p : LogS × Bool × Nat) => acts.length - p.2.2) (⟨D0, a0, e0, st0⟩, true, 0) ?_ (by push_cast; first | done | rfl) (by push_cast; first | done | rfl) ?_ ?_
   ·exact ⟨Nat.zero_le _, hinv0⟩
   ·push_cast
    first | done | rfl
   ·rintro ⟨⟨D, a, e, st⟩, b, i⟩ ⟨hi, hinv⟩
    simp only at hi hinv
    push_cast
    intro hg
    clear hinv0
    have hbase : D.Base.length = (place.getD 0 0).toNat := hinv.vis.base
    have hq : D.Queue.length ≤ 255 := hinv.q
    have hto : ∀ y ∈ D.Queue, 0 ≤ y.To ∧ y.To < D.Base.length := by rw [hbase]; exact hinv.to
    have hat : 2 * place.getD 1 0 ≤ a ∧ a ≤ e ∧ e = (place.getD 0 0).toNat := hinv.at_
    have hst : 1 ≤ st ∧ st ≤ i + 1 := hinv.st
    by_cases hil : (i : Int) < acts.length
    rotate_left
    ·repeat' (first
 | (intro (K' : KT) hK'; push_cast; (repeat' refine And.intro ?_ ?_); all_goals (first | (apply hK'; clear hK' K') | (refine ⟨trivial, trivial, ?_⟩; apply hK'; clear hK' K') | (intro hb; (try push_cast at hb); all_goals (intros; apply hK'; clear hK' K')) | (clear hK' K'; first | omega | skip)))
 | apply Qar | apply Qa0 | apply Qac | apply Qah | apply Qaj | apply Qau
 | apply Qap | apply Qax | apply Qas | apply Qaq | apply Qa1 | apply Qal | apply Qae rfl | apply Qa6 | apply Qa7 | apply Qam | apply Qaz | apply Qay
 | (refine Qaf ?_; push_cast) | apply Qag | refine Qaa (Qa3 _ (by omega) (by omega)) ?_ | refine Qaa (Qb0 _ (by omega) (by omega)) ?_ | refine Qaa (Qba _ (by omega) (by omega)) ?_ | refine Qaa (Qa5 _ (by omega) (by omega)) ?_
 | refine Qai rfl rfl ?_ | refine Qat rfl rfl ?_
 | (refine Qak (by push_cast; first | done | rfl) ?_ ?_ <;> intro hc <;> (try push_cast at hc))
 | refine Qaw rfl rfl rfl (by push_cast; first | done | rfl) ?_
 | refine Qav rfl rfl rfl (by push_cast; first | done | rfl) ?_ ?_
 | (intro (hc : (_ : Prop)); (try push_cast at hc)) | intro (hc : Qad) | intro (hc : Int) | intro (hc : Nat))
     all_goals first
      | omega
      | trace_state
    have hx : (acts.getD i ⟨0, 0, [], []⟩).Bytes.length ≤ 5000 ∧ bytesOk (acts.getD i ⟨0, 0, [], []⟩).Bytes ∧ (acts.getD i ⟨0, 0, [], []⟩).At ≤ 9223372036854775807 := by
     have hmem := getD_mem acts i ⟨0, 0, [], []⟩ (by omega)
     have := hf.2.2.2 _ hmem
     exact ⟨great12_small ‹greatB12 acts = false› hmem, ⟨this.2.2.1.2, great12_small ‹greatB12 acts = false› hmem⟩, this.2.1.2⟩
    have hzr : 1 ≤ place.getD 1 0 ∧ place.getD 1 0 ≤ 255 ∧ 2 * place.getD 1 0 < (D.Base.length : Int) := by rw [hbase]; exact hinv.zz
    have hb60 : D.Base.length ≤ 60 := by rw [hbase]; exact hinv.mm
    repeat' (first
 | (intro (K' : KT) hK'; push_cast; (repeat' refine And.intro ?_ ?_); all_goals (first | (apply hK'; clear hK' K') | (refine ⟨trivial, trivial, ?_⟩; apply hK'; clear hK' K') | (intro hb; (try push_cast at hb); all_goals (intros; apply hK'; clear hK' K')) | (clear hK' K'; first | omega | skip)))
 | apply Qar | apply Qa0 | refine Qbo (id := 14) ?_ | apply Qac | apply Qah | apply Qaj | apply Qau
 | apply Qap | apply Qax | apply Qas | apply Qaq | apply Qa1 | apply Qal | apply Qae rfl | apply Qa6 | apply Qa7 | apply Qam | apply Qaz | apply Qay
 | (refine Qaf ?_; push_cast) | apply Qag | refine Qaa (Qa3 _ (by omega) (by omega)) ?_ | refine Qaa (Qb0 _ (by omega) (by omega)) ?_ | refine Qaa (Qba _ (by omega) (by omega)) ?_ | refine Qaa (Qa5 _ (by omega) (by omega)) ?_
 | refine Qai rfl rfl ?_ | refine Qat rfl rfl ?_
 | (refine Qak (by push_cast; first | done | rfl) ?_ ?_ <;> intro hc <;> (try push_cast at hc))
 | refine Qaw rfl rfl rfl (by push_cast; first | done | rfl) ?_
 | refine Qav rfl rfl rfl (by push_cast; first | done | rfl) ?_ ?_
 | (intro (hc : (_ : Prop)); (try push_cast at hc)) | intro (hc : Qad) | intro (hc : Int) | intro (hc : Nat))
    all_goals (try (exfalso; omega))
    generalize acts.getD i ⟨0, 0, [], []⟩ = x at *
    obtain ⟨K, A, B, Kp⟩ := x
    simp only at hx
    obtain ⟨hx1, hx2, hx3⟩ := hx
    apply Qc5
    push_cast
    repeat' (first
 | (intro (K' : KT) hK'; push_cast; (repeat' refine And.intro ?_ ?_); all_goals (first | (apply hK'; clear hK' K') | (refine ⟨trivial, trivial, ?_⟩; apply hK'; clear hK' K') | (intro hb; (try push_cast at hb); all_goals (intros; apply hK'; clear hK' K')) | (clear hK' K'; first | omega | skip)))
 | apply Qar | apply Qa0 | refine Qbo (id := 16) ?_ | apply Qac | apply Qah | apply Qaj | apply Qau
 | apply Qap | apply Qax | apply Qas | apply Qaq | apply Qa1 | apply Qal | apply Qae rfl | apply Qa6 | apply Qa7 | apply Qam | apply Qaz | apply Qay
 | (refine Qaf ?_; push_cast) | apply Qag | refine Qaa (Qa3 _ (by omega) (by omega)) ?_ | refine Qaa (Qb0 _ (by omega) (by omega)) ?_ | refine Qaa (Qba _ (by omega) (by omega)) ?_ | refine Qaa (Qa5 _ (by omega) (by omega)) ?_
 | refine Qai rfl rfl ?_ | refine Qat rfl rfl ?_
 | (refine Qak (by push_cast; first | done | rfl) ?_ ?_ <;> intro hc <;> (try push_cast at hc))
 | refine Qaw rfl rfl rfl (by push_cast; first | done | rfl) ?_
 | refine Qav rfl rfl rfl (by push_cast; first | done | rfl) ?_ ?_
 | (intro (hc : (_ : Prop)); (try push_cast at hc)) | intro (hc : Qad) | intro (hc : Int) | intro (hc : Nat))
    by_cases hdd : K = 1 ∧ D.Dead = true
    ·obtain ⟨rfl, hd⟩ := hdd
     apply Qc5
     push_cast
     repeat' (first
 | (intro (K' : KT) hK'; push_cast; (repeat' refine And.intro ?_ ?_); all_goals (first | (apply hK'; clear hK' K') | (refine ⟨trivial, trivial, ?_⟩; apply hK'; clear hK' K') | (intro hb; (try push_cast at hb); all_goals (intros; apply hK'; clear hK' K')) | ((first | refine Qbr Dead_con (fun _ _ => rfl) ?_); push_cast; (repeat' refine And.intro ?_ ?_); all_goals (first | (apply hK'; clear hK' K') | (intros; apply hK'; clear hK' K') | (clear hK' K'; first | omega | skip))) | (clear hK' K'; first | omega | skip)))
 | apply Qar | apply Qa0 | refine Qbo (id := 22) ?_ | apply Qac | apply Qah | apply Qaj | apply Qau
 | apply Qap | apply Qax | apply Qas | apply Qaq | apply Qa1 | apply Qal | apply Qae rfl | apply Qa6 | apply Qa7 | apply Qam | apply Qaz | apply Qay
 | (refine Qaf ?_; push_cast) | apply Qag | refine Qaa (Qa3 _ (by omega) (by omega)) ?_ | refine Qaa (Qb0 _ (by omega) (by omega)) ?_ | refine Qaa (Qba _ (by omega) (by omega)) ?_ | refine Qaa (Qa5 _ (by omega) (by omega)) ?_
 | refine Qai rfl rfl ?_ | refine Qat rfl rfl ?_
 | (refine Qak (by push_cast; first | done | rfl) ?_ ?_ <;> intro hc <;> (try push_cast at hc))
 | refine Qaw rfl rfl rfl (by push_cast; first | done | rfl) ?_
 | refine Qav rfl rfl rfl (by push_cast; first | done | rfl) ?_ ?_
 | (intro (hc : (_ : Prop)); (try push_cast at hc)) | intro (hc : Qad) | intro (hc : Int) | intro (hc : Nat))
     all_goals first
      | omega
      | (refine Qbv (⟨D, a, e, st⟩, b, i + 1) ⟨by simp only; omega, rinv_up hinv⟩ (by simp only; omega) ?_; push_cast; done)
      | (exfalso; have h9 := ‹D.Dead = false›; rw [hd] at h9; simp at h9; done)
      | trace_state
    apply Qc5
    apply Qap
    repeat apply Qar
    refine go_joinB [8, 14, 15, 16, 17, 18, 19, 20, 21, 22, 23, 79, 80, 81, 82, 83, 84, 85, 86, 87, 88, 89, 90, 91, 92, 93, 94, 95, 96, 97, 98, 99, 100, 101, 102, 103, 104, 105, 106, 107, 108, 109, 110, 111, 112, 113, 114, 115, 116, 117, 118, 119, 120, 121, 122, 123, 124, 125, 126, 127, 128, 129, 130, 131, 132, 133, 134, 135, 136, 137, 138, 139, 140, 141, 142, 143, 144, 145, 146, 147, 148, 149, 150, 151, 152, 153, 154, 155, 156, 157, 158, 159, 160, 161, 162, 163, 164, 165, 166, 167, 168, 169, 170, 171, 172, 173, 174, 175, 176, 177, 178, 179, 180, 181, 182] [9100, 9200, 9300, 10]
     (fun p : LogS × Bool × Int => RInv ⟨p.1, place.getD 1 0, p.2.1⟩ (place.getD 0 0).toNat (i + 1)) (fun p => [(8, .one (.l (.ptr 9300 [] 0))), (14, .one (.l (.int .i64 p.2.2))), (15, .one (.l (.int .i64 p.2.2)))])
     (fun p => [(9100, .obj DiskO p.1.D), (9200, .segs [.ptr 9100 [] 0, .int .i64 p.1.a, .int .i64 p.1.e, .int .u64 p.1.st]), (9300, .segs [.ptr 9100 [] 0, .int .i64 (place.getD 1 0), .ptr 9200 [] 0, .bool p.2.1]), (10, .segs [.dat Qa4 ⟨⟨p.1.D, p.1.a, p.1.e, p.1.st⟩, place.getD 1 0, p.2.1⟩])]) (by push_cast; first | done | rfl) (by push_cast; first | done | rfl) ?_ ?_
    rotate_left
    ·rintro ⟨⟨D2, a2, e2, st2⟩, b2, er⟩ hnew
     simp only at hnew
     have hA2 := hnew.at_
     simp only at hA2
     clear hinv
     apply Qap
     push_cast
     repeat' (first
 | (intro (K' : KT) hK'; push_cast; (repeat' refine And.intro ?_ ?_); all_goals (first | (apply hK'; clear hK' K') | (refine ⟨trivial, trivial, ?_⟩; apply hK'; clear hK' K') | (intro hb; (try push_cast at hb); all_goals (intros; apply hK'; clear hK' K')) | ((first | refine call_J jRoom_con (fun _ _ => rfl) ?_ | refine Qbi r12Room_con (fun _ => rfl) ?_ | refine call_J jReady_con (fun _ _ => rfl) ?_); push_cast; (repeat' refine And.intro ?_ ?_); all_goals (first | (apply hK'; clear hK' K') | (intros; apply hK'; clear hK' K') | (clear hK' K'; first | omega | skip))) | (clear hK' K'; first | omega | skip)))
 | apply Qar | apply Qa0 | apply Qac | apply Qah | apply Qaj | apply Qau
 | apply Qap | apply Qax | apply Qas | apply Qaq | apply Qa1 | apply Qal | apply Qae rfl | apply Qa6 | apply Qa7 | apply Qam | apply Qaz | apply Qay
 | (refine Qaf ?_; push_cast) | apply Qag | refine Qaa (Qa3 _ (by omega) (by omega)) ?_ | refine Qaa (Qb0 _ (by omega) (by omega)) ?_ | refine Qaa (Qba _ (by omega) (by omega)) ?_ | refine Qaa (Qa5 _ (by omega) (by omega)) ?_
 | refine Qai rfl rfl ?_ | refine Qat rfl rfl ?_
 | (refine Qak (by push_cast; first | done | rfl) ?_ ?_ <;> intro hc <;> (try push_cast at hc))
 | refine Qaw rfl rfl rfl (by push_cast; first | done | rfl) ?_
 | refine Qav rfl rfl rfl (by push_cast; first | done | rfl) ?_ ?_
 | refine Qbf (id := 38) [0, 1, 2, 3, 4, 6] [7, 12, 14] [10] (.or 5 (.or 7 (.free 8 (.free 9 (.free 10 (.free 11 (.free 13 (.or 12 (.or 14 (.free 15 (.free 16 (.done))) (.stop)) (.or 14 (.or 12 (.free 15 (.free 16 (.done))) (.stop)) (.stop)))))))) (.stop)) (.stop)) wide (by kernel_rfl) ?_
 | apply Qby | apply Qbk | apply Qbn
 | refine Qbx rfl rfl rfl ?_ | refine Qbl rfl rfl rfl ?_
 | (refine Qbm rfl rfl rfl rfl ?_ ?_; rotate_left) | (refine Qbe rfl rfl rfl rfl ?_ ?_; rotate_left)
 | (refine Qbz rfl rfl rfl rfl ?_ ?_; rotate_left; focus (intro K' hK'; push_cast; (repeat' refine And.intro ?_ ?_); all_goals (first | (refine hK' _ _ _ _ _ (by push_cast) (by push_cast; first | done | rfl) ?_; clear hK' K') | ((first | refine call_J jRoom_con (fun _ _ => rfl) ?_ | refine Qbi r12Room_con (fun _ => rfl) ?_ | refine call_J jReady_con (fun _ _ => rfl) ?_); push_cast; (repeat' refine And.intro ?_ ?_); all_goals (first | (refine hK' _ _ _ _ _ (by push_cast) (by push_cast; first | done | rfl) ?_; clear hK' K') | (intros; refine hK' _ _ _ _ _ (by push_cast) (by push_cast; first | done | rfl) ?_; clear hK' K') | (clear hK' K'; first | omega | skip))) | (clear hK' K'; first | omega | skip))))
 | (refine Qec rfl rfl rfl rfl ?_ ?_; rotate_left; focus (intro K' hK'; push_cast; (repeat' refine And.intro ?_ ?_); all_goals (first | (refine hK' _ _ _ _ _ (by push_cast) (by push_cast; first | done | rfl) ?_; clear hK' K') | ((first | refine call_J jRoom_con (fun _ _ => rfl) ?_ | refine Qbi r12Room_con (fun _ => rfl) ?_ | refine call_J jReady_con (fun _ _ => rfl) ?_); push_cast; (repeat' refine And.intro ?_ ?_); all_goals (first | (refine hK' _ _ _ _ _ (by push_cast) (by push_cast; first | done | rfl) ?_; clear hK' K') | (intros; refine hK' _ _ _ _ _ (by push_cast) (by push_cast; first | done | rfl) ?_; clear hK' K') | (clear hK' K'; first | omega | skip))) | (clear hK' K'; first | omega | skip))))
 | (refine Qdv rfl rfl rfl rfl (by push_cast; first | done | rfl) ?_)
 | refine Qdt rfl rfl rfl rfl (by push_cast; first | done | rfl) ?_ ?_
 | (refine Qed rfl rfl rfl rfl (by push_cast; first | done | rfl) ?_ ?_)
 | (refine Qeb rfl rfl rfl rfl rfl (by push_cast; first | done | rfl) ?_ ?_ ?_; focus (intro hc; (try push_cast at hc); all_goals (intro K' hK'; push_cast; (repeat' refine And.intro ?_ ?_); all_goals (first | (refine hK' _ _ _ _ _ (by push_cast) (by push_cast; first | done | rfl) ?_; clear hK' K') | ((first | refine call_J jRoom_con (fun _ _ => rfl) ?_ | refine Qbi r12Room_con (fun _ => rfl) ?_ | refine call_J jReady_con (fun _ _ => rfl) ?_); push_cast; (repeat' refine And.intro ?_ ?_); all_goals (first | (refine hK' _ _ _ _ _ (by push_cast) (by push_cast; first | done | rfl) ?_; clear hK' K') | (intros; refine hK' _ _ _ _ _ (by push_cast) (by push_cast; first | done | rfl) ?_; clear hK' K') | (clear hK' K'; first | omega | skip))) | (clear hK' K'; first | omega | skip)))))
 | refine Qfd rfl rfl rfl rfl rfl (by push_cast; first | done | rfl) ?_ ?_ ?_
 | refine Qcc rfl rfl rfl rfl (by push_cast; first | done | rfl) ?_
 | refine Qcd rfl rfl rfl rfl (by push_cast; first | done | rfl) ?_ ?_
 | (intro (hc : (_ : Prop)); (try push_cast at hc)) | intro (hc : Qad) | intro (hc : Int) | intro (hc : Nat))
     all_goals first
      | omega
      | (refine Qbv (⟨D2, a2, e2, st2⟩, b2, i + 1) ⟨by simp only; omega, hnew⟩ (by simp only; omega) ?_; push_cast; done)
      | (exfalso; simp_all; done)
      | trace_state
    intro K' hj'
    by_cases hk1 : K = 1
    ·subst hk1
     cases hd : D.Dead
     ·obtain ⟨hc0, hc1⟩ := rinv_com hinv (by omega) hd hx2.1
      simp only at hc0 hc1
      by_cases hw : (slWrite D 0 (place.getD 1 0) (numB (st - 1).toNat ++ B)).2.2 = 0
      ·have hX : jComX ⟨⟨D, a, e, st⟩, place.getD 1 0, b⟩ B = (jCom ⟨⟨D, a, e, st⟩, place.getD 1 0, b⟩ B, 0) := if_pos hw
       have hnew := hc0 hw
       clear hc0 hc1
       repeat' (first
 | (intro (K' : KT) hK'; push_cast; (repeat' refine And.intro ?_ ?_); all_goals (first | (apply hK'; clear hK' K') | (refine ⟨trivial, trivial, ?_⟩; apply hK'; clear hK' K') | (intro hb; (try push_cast at hb); all_goals (intros; apply hK'; clear hK' K')) | ((first | refine Qbr Dead_con (fun _ _ => rfl) ?_ | refine call_JN jCom_con 9200 (fun _ _ => rfl) ?_ | refine Qbg r12Compact_con (fun _ => rfl) ?_); push_cast; (repeat' refine And.intro ?_ ?_); all_goals (first | (apply hK'; clear hK' K') | (intros; apply hK'; clear hK' K') | (clear hK' K'; first | omega | skip))) | (clear hK' K'; first | omega | skip)))
 | apply Qar | apply Qa0 | refine Qbo (id := 23) ?_ | apply Qac | apply Qah | apply Qaj | apply Qau
 | apply Qap | apply Qax | apply Qas | apply Qaq | apply Qa1 | apply Qal | apply Qae rfl | apply Qa6 | apply Qa7 | apply regK_gs | apply Qaz | apply Qay
 | (refine Qaf ?_; push_cast) | apply Qag | refine Qaa (Qa3 _ (by omega) (by omega)) ?_ | refine Qaa (Qb0 _ (by omega) (by omega)) ?_ | refine Qaa (Qba _ (by omega) (by omega)) ?_ | refine Qaa (Qa5 _ (by omega) (by omega)) ?_
 | refine Qai rfl rfl ?_ | refine Qat rfl rfl ?_
 | (refine Qak (by push_cast; first | done | rfl) ?_ ?_ <;> intro hc <;> (try push_cast at hc))
 | refine Qaw rfl rfl rfl (by push_cast; first | done | rfl) ?_
 | refine Qav rfl rfl rfl (by push_cast; first | done | rfl) ?_ ?_
 | (intro (hc : (_ : Prop)); (try push_cast at hc)) | intro (hc : Qad) | intro (hc : Int) | intro (hc : Nat))
       all_goals (try (exfalso; have h9 := ‹D.Dead = true›; rw [hd] at h9; simp at h9; done))
       rw [hX]
       have hzn : (jCom ⟨⟨D, a, e, st⟩, place.getD 1 0, b⟩ B).z = place.getD 1 0 := rfl
       clear hX hw
       generalize jCom ⟨⟨D, a, e, st⟩, place.getD 1 0, b⟩ B = P at *
       obtain ⟨⟨D2, a2, e2, st2⟩, zn, b2⟩ := P
       simp only at hzn hnew
       subst hzn
       refine regKS_j ?_ (Qaq (hj' (⟨D2, a2, e2, st2⟩, b2, 0) hnew))
       push_cast
      ·have hX : jComX ⟨⟨D, a, e, st⟩, place.getD 1 0, b⟩ B = (jComG ⟨⟨D, a, e, st⟩, place.getD 1 0, b⟩ B, (slWrite D 0 (place.getD 1 0) (numB (st - 1).toNat ++ B)).2.2) := if_neg hw
       have hnew := hc1 hw
       clear hc0 hc1
       repeat' (first
 | (intro (K' : KT) hK'; push_cast; (repeat' refine And.intro ?_ ?_); all_goals (first | (apply hK'; clear hK' K') | (refine ⟨trivial, trivial, ?_⟩; apply hK'; clear hK' K') | (intro hb; (try push_cast at hb); all_goals (intros; apply hK'; clear hK' K')) | ((first | refine Qbr Dead_con (fun _ _ => rfl) ?_ | refine call_J jComG_con (fun _ _ => rfl) ?_ | refine Qbg r12Compact_con (fun _ => rfl) ?_); push_cast; (repeat' refine And.intro ?_ ?_); all_goals (first | (apply hK'; clear hK' K') | (intros; apply hK'; clear hK' K') | (clear hK' K'; first | omega | skip))) | (clear hK' K'; first | omega | skip)))
 | apply Qar | apply Qa0 | refine Qbo (id := 23) ?_ | apply Qac | apply Qah | apply Qaj | apply Qau
 | apply Qap | apply Qax | apply Qas | apply Qaq | apply Qa1 | apply Qal | apply Qae rfl | apply Qa6 | apply Qa7 | apply regK_gs | apply Qaz | apply Qay
 | (refine Qaf ?_; push_cast) | apply Qag | refine Qaa (Qa3 _ (by omega) (by omega)) ?_ | refine Qaa (Qb0 _ (by omega) (by omega)) ?_ | refine Qaa (Qba _ (by omega) (by omega)) ?_ | refine Qaa (Qa5 _ (by omega) (by omega)) ?_
 | refine Qai rfl rfl ?_ | refine Qat rfl rfl ?_
 | (refine Qak (by push_cast; first | done | rfl) ?_ ?_ <;> intro hc <;> (try push_cast at hc))
 | refine Qaw rfl rfl rfl (by push_cast; first | done | rfl) ?_
 | refine Qav rfl rfl rfl (by push_cast; first | done | rfl) ?_ ?_
 | (intro (hc : (_ : Prop)); (try push_cast at hc)) | intro (hc : Qad) | intro (hc : Int) | intro (hc : Nat))
       all_goals (try (exfalso; have h9 := ‹D.Dead = true›; rw [hd] at h9; simp at h9; done))
       rw [hX]
       have hzn : (jComG ⟨⟨D, a, e, st⟩, place.getD 1 0, b⟩ B).z = place.getD 1 0 := rfl
       clear hX hw
       generalize jComG ⟨⟨D, a, e, st⟩, place.getD 1 0, b⟩ B = P at *
       generalize (slWrite D 0 (place.getD 1 0) (numB (st - 1).toNat ++ B)).2.2 = er at *
       obtain ⟨⟨D2, a2, e2, st2⟩, zn, b2⟩ := P
       simp only at hzn hnew
       subst hzn
       refine regKS_j ?_ (Qaq (hj' (⟨D2, a2, e2, st2⟩, b2, er) hnew))
       push_cast
     ·exact absurd ⟨rfl, hd⟩ hdd
    by_cases hk2 : K = 2
    ·subst hk2
     obtain ⟨f, c, g, hs, hf1, hcl, hdr, hgd, hsl⟩ := finds_small hinv.vis hinv.zz (by omega)
     simp only at hs hdr hgd hsl
     have hs0 : (slRead D 0 (place.getD 1 0)).2.2 = 0 := by rw [hs]
     have hnew : RInv ⟨openL D (2 * place.getD 1 0) (D.Base.length : Int) f, place.getD 1 0, false⟩ (place.getD 0 0).toNat (i + 1) := by
      have h9 : (D.Base.length : Int) = ((place.getD 0 0).toNat : Int) := by rw [hbase]
      rw [h9]
      exact rinv_up (rinv_open hinv.zz hinv.mm (by omega) hinv.vis hinv.sec hinv.q hinv.to (fun hd => (hinv.live (.inl hd)).1) hinv.pow (f := f) ⟨by omega, by omega⟩ false (by simp))
     clear hinv
     generalize D = E at *
     repeat' (first
 | (intro (K' : KT) hK'; push_cast; (repeat' refine And.intro ?_ ?_); all_goals (first | (apply hK'; clear hK' K') | (refine ⟨trivial, trivial, ?_⟩; apply hK'; clear hK' K') | (intro hb; (try push_cast at hb); all_goals (intros; apply hK'; clear hK' K')) | ((first | refine call_Jo 9300 9200 _ _ _ rfl hs ?_ | refine Qbg r12Open_con (fun _ => rfl) ?_); push_cast; (repeat' refine And.intro ?_ ?_); all_goals (first | (apply hK'; clear hK' K') | (intros; apply hK'; clear hK' K') | (clear hK' K'; first | omega | skip))) | (clear hK' K'; first | omega | skip)))
 | apply Qar | apply Qa0 | refine Qbo (id := 30) ?_ | apply Qac | apply Qah | apply Qaj | apply Qau
 | apply Qap | apply Qax | apply Qas | apply Qaq | apply Qa1 | apply Qal | apply Qae rfl | apply Qa6 | apply Qa7 | apply regK_gs | apply Qaz | apply Qay
 | (refine Qaf ?_; push_cast) | apply Qag | refine Qaa (Qa3 _ (by omega) (by omega)) ?_ | refine Qaa (Qb0 _ (by omega) (by omega)) ?_ | refine Qaa (Qba _ (by omega) (by omega)) ?_ | refine Qaa (Qa5 _ (by omega) (by omega)) ?_
 | refine Qai rfl rfl ?_ | refine Qat rfl rfl ?_
 | (refine Qak (by push_cast; first | done | rfl) ?_ ?_ <;> intro hc <;> (try push_cast at hc))
 | refine Qaw rfl rfl rfl (by push_cast; first | done | rfl) ?_
 | refine Qav rfl rfl rfl (by push_cast; first | done | rfl) ?_ ?_
 | (intro (hc : (_ : Prop)); (try push_cast at hc)) | intro (hc : Qad) | intro (hc : Int) | intro (hc : Nat))
     rw [hdr, hgd]
     have hself := same_self12 (recsN E (2 * place.getD 1 0) E.Base.length (f : Int)).1
     have hLD : (openL E (2 * place.getD 1 0) E.Base.length (f : Int)).D = E := rfl
     generalize openL E (2 * place.getD 1 0) E.Base.length (f : Int) = L at *
     obtain ⟨D2, a2, e2, st2⟩ := L
     simp only at hLD
     subst hLD
     apply Qc5
     push_cast
     repeat' (first
 | (intro (K' : KT) hK'; push_cast; (repeat' refine And.intro ?_ ?_); all_goals (first | (apply hK'; clear hK' K') | (refine ⟨trivial, trivial, ?_⟩; apply hK'; clear hK' K') | (intro hb; (try push_cast at hb); all_goals (intros; apply hK'; clear hK' K')) | ((first | refine Qbi same10_con (fun _ => rfl) ?_); push_cast; (repeat' refine And.intro ?_ ?_); all_goals (first | (apply hK'; clear hK' K') | (intros; apply hK'; clear hK' K') | (clear hK' K'; first | omega | skip))) | (clear hK' K'; first | omega | skip)))
 | apply Qar | apply Qa0 | apply Qac | apply Qah | apply Qaj | apply Qau
 | apply Qap | apply Qax | apply Qas | apply Qaq | apply Qa1 | apply Qal | apply Qae rfl | apply Qa6 | apply Qa7 | apply regK_gs | apply Qaz | apply Qay
 | (refine Qaf ?_; push_cast) | apply Qag | refine Qaa (Qa3 _ (by omega) (by omega)) ?_ | refine Qaa (Qb0 _ (by omega) (by omega)) ?_ | refine Qaa (Qba _ (by omega) (by omega)) ?_ | refine Qaa (Qa5 _ (by omega) (by omega)) ?_
 | refine Qai rfl rfl ?_ | refine Qat rfl rfl ?_
 | (refine Qak (by push_cast; first | done | rfl) ?_ ?_ <;> intro hc <;> (try push_cast at hc))
 | refine Qaw rfl rfl rfl (by push_cast; first | done | rfl) ?_
 | refine Qav rfl rfl rfl (by push_cast; first | done | rfl) ?_ ?_
 | (intro (hc : (_ : Prop)); (try push_cast at hc)) | intro (hc : Qad) | intro (hc : Int) | intro (hc : Nat))
     all_goals first
      | omega
      | (refine regK_j ?_ (Qaq (hj' (⟨D2, a2, e2, st2⟩, false, 0) hnew)); push_cast; done)
      | (refine regK_w 10 rfl ?_ (Qaq (hj' (⟨D2, a2, e2, st2⟩, false, 0) hnew)); push_cast; done)
      | (exfalso; simp_all; done)
      | (refine regK_j ?_ (Qaq (hj' (⟨D2, a2, e2, st2⟩, false, 0) hnew)); trace_state; push_cast; trace_state)
      | trace_state
    by_cases hk4 : K = 4
    ·subst hk4
     repeat' (first
 | (intro (K' : KT) hK'; push_cast; (repeat' refine And.intro ?_ ?_); all_goals (first | (apply hK'; clear hK' K') | (refine ⟨trivial, trivial, ?_⟩; apply hK'; clear hK' K') | (intro hb; (try push_cast at hb); all_goals (intros; apply hK'; clear hK' K')) | ((first | refine Qbr Power_con (fun _ _ => rfl) ?_ | refine Qbg r08Power_con (fun _ => rfl) ?_); push_cast; (repeat' refine And.intro ?_ ?_); all_goals (first | (apply hK'; clear hK' K') | (intros; apply hK'; clear hK' K') | (clear hK' K'; first | omega | skip))) | (clear hK' K'; first | omega | skip)))
 | apply Qar | apply Qa0 | refine Qbo (id := 28) ?_ | apply Qac | apply Qah | apply Qaj | apply Qau
 | apply Qap | apply Qax | apply Qas | apply Qaq | apply Qa1 | apply Qal | apply Qae rfl | apply Qa6 | apply Qa7 | apply regK_gs | apply Qaz | apply Qay
 | (refine Qaf ?_; push_cast) | apply Qag | refine Qaa (Qa3 _ (by omega) (by omega)) ?_ | refine Qaa (Qb0 _ (by omega) (by omega)) ?_ | refine Qaa (Qba _ (by omega) (by omega)) ?_ | refine Qaa (Qa5 _ (by omega) (by omega)) ?_
 | refine Qai rfl rfl ?_ | refine Qat rfl rfl ?_
 | (refine Qak (by push_cast; first | done | rfl) ?_ ?_ <;> intro hc <;> (try push_cast at hc))
 | refine Qaw rfl rfl rfl (by push_cast; first | done | rfl) ?_
 | refine Qav rfl rfl rfl (by push_cast; first | done | rfl) ?_ ?_
 | (intro (hc : (_ : Prop)); (try push_cast at hc)) | intro (hc : Qad) | intro (hc : Int) | intro (hc : Nat))
     have hpw := hinv.pow Kp
     obtain ⟨f, c, g, hs, hf1, hcl, hdr, hgd, hsl⟩ := finds_small hpw.1 hinv.zz (by omega)
     simp only at hs hdr hgd hsl
     have hq2 : (dPower D Kp).Queue = [] := rfl
     have hb2 := hpw.1.base
     have hnew : RInv ⟨openL (dPower D Kp) (2 * place.getD 1 0) ((dPower D Kp).Base.length : Int) f, place.getD 1 0, false⟩ (place.getD 0 0).toNat (i + 1) := by
      have h9 : ((dPower D Kp).Base.length : Int) = ((place.getD 0 0).toNat : Int) := by rw [hb2]
      rw [h9]
      exact rinv_up (rinv_open hinv.zz hinv.mm (by omega) hpw.1 hpw.2 (Nat.zero_le _) (by rw [hq2]; simp) (fun _ => rfl) (fun keep => by rw [power_quiet rfl]; exact ⟨holds_calm hpw.1, hpw.2⟩) (f := f) ⟨by omega, by omega⟩ false (by simp))
     clear hinv hpw
     generalize dPower D Kp = E at *
     have hs0 : (slRead E 0 (place.getD 1 0)).2.2 = 0 := by rw [hs]
     have hb61 : E.Base.length ≤ 60 := by omega
     have hzr2 : 2 * place.getD 1 0 < (E.Base.length : Int) := by omega
     apply Qc5
     push_cast
     repeat' (first
 | (intro (K' : KT) hK'; push_cast; (repeat' refine And.intro ?_ ?_); all_goals (first | (apply hK'; clear hK' K') | (refine ⟨trivial, trivial, ?_⟩; apply hK'; clear hK' K') | (intro hb; (try push_cast at hb); all_goals (intros; apply hK'; clear hK' K')) | ((first | refine call_Jo 9300 9200 _ _ _ rfl hs ?_ | refine Qbg r12Open_con (fun _ => rfl) ?_); push_cast; (repeat' refine And.intro ?_ ?_); all_goals (first | (apply hK'; clear hK' K') | (intros; apply hK'; clear hK' K') | (clear hK' K'; first | omega | skip))) | (clear hK' K'; first | omega | skip)))
 | apply Qar | apply Qa0 | refine Qbo (id := 30) ?_ | apply Qac | apply Qah | apply Qaj | apply Qau
 | apply Qap | apply Qax | apply Qas | apply Qaq | apply Qa1 | apply Qal | apply Qae rfl | apply Qa6 | apply Qa7 | apply regK_gs | apply Qaz | apply Qay
 | (refine Qaf ?_; push_cast) | apply Qag | refine Qaa (Qa3 _ (by omega) (by omega)) ?_ | refine Qaa (Qb0 _ (by omega) (by omega)) ?_ | refine Qaa (Qba _ (by omega) (by omega)) ?_ | refine Qaa (Qa5 _ (by omega) (by omega)) ?_
 | refine Qai rfl rfl ?_ | refine Qat rfl rfl ?_
 | (refine Qak (by push_cast; first | done | rfl) ?_ ?_ <;> intro hc <;> (try push_cast at hc))
 | refine Qaw rfl rfl rfl (by push_cast; first | done | rfl) ?_
 | refine Qav rfl rfl rfl (by push_cast; first | done | rfl) ?_ ?_
 | (intro (hc : (_ : Prop)); (try push_cast at hc)) | intro (hc : Qad) | intro (hc : Int) | intro (hc : Nat))
     rw [hdr, hgd]
     have hself := same_self12 (recsN E (2 * place.getD 1 0) E.Base.length (f : Int)).1
     have hLD : (openL E (2 * place.getD 1 0) E.Base.length (f : Int)).D = E := rfl
     generalize openL E (2 * place.getD 1 0) E.Base.length (f : Int) = L at *
     obtain ⟨D2, a2, e2, st2⟩ := L
     simp only at hLD
     subst hLD
     apply Qc5
     push_cast
     repeat' (first
 | (intro (K' : KT) hK'; push_cast; (repeat' refine And.intro ?_ ?_); all_goals (first | (apply hK'; clear hK' K') | (refine ⟨trivial, trivial, ?_⟩; apply hK'; clear hK' K') | (intro hb; (try push_cast at hb); all_goals (intros; apply hK'; clear hK' K')) | ((first | refine Qbi same10_con (fun _ => rfl) ?_); push_cast; (repeat' refine And.intro ?_ ?_); all_goals (first | (apply hK'; clear hK' K') | (intros; apply hK'; clear hK' K') | (clear hK' K'; first | omega | skip))) | (clear hK' K'; first | omega | skip)))
 | apply Qar | apply Qa0 | apply Qac | apply Qah | apply Qaj | apply Qau
 | apply Qap | apply Qax | apply Qas | apply Qaq | apply Qa1 | apply Qal | apply Qae rfl | apply Qa6 | apply Qa7 | apply regK_gs | apply Qaz | apply Qay
 | (refine Qaf ?_; push_cast) | apply Qag | refine Qaa (Qa3 _ (by omega) (by omega)) ?_ | refine Qaa (Qb0 _ (by omega) (by omega)) ?_ | refine Qaa (Qba _ (by omega) (by omega)) ?_ | refine Qaa (Qa5 _ (by omega) (by omega)) ?_
 | refine Qai rfl rfl ?_ | refine Qat rfl rfl ?_
 | (refine Qak (by push_cast; first | done | rfl) ?_ ?_ <;> intro hc <;> (try push_cast at hc))
 | refine Qaw rfl rfl rfl (by push_cast; first | done | rfl) ?_
 | refine Qav rfl rfl rfl (by push_cast; first | done | rfl) ?_ ?_
 | (intro (hc : (_ : Prop)); (try push_cast at hc)) | intro (hc : Qad) | intro (hc : Int) | intro (hc : Nat))
     all_goals first
      | omega
      | (refine regK_j ?_ (Qaq (hj' (⟨D2, a2, e2, st2⟩, false, 0) hnew)); push_cast; done)
      | (refine regK_w 10 rfl ?_ (Qaq (hj' (⟨D2, a2, e2, st2⟩, false, 0) hnew)); push_cast; done)
      | (exfalso; simp_all; done)
      | (refine regK_j ?_ (Qaq (hj' (⟨D2, a2, e2, st2⟩, false, 0) hnew)); trace_state; push_cast; trace_state)
      | trace_state
    repeat' (first
 | (intro (K' : KT) hK'; push_cast; (repeat' refine And.intro ?_ ?_); all_goals (first | (apply hK'; clear hK' K') | (refine ⟨trivial, trivial, ?_⟩; apply hK'; clear hK' K') | (intro hb; (try push_cast at hb); all_goals (intros; apply hK'; clear hK' K')) | ((first | refine call_J jApp_con (fun _ _ => rfl) ?_ | refine Qbg r12Append_con (fun _ => rfl) ?_ | refine Qbr Fuse_con (fun _ _ => rfl) ?_ | refine Qbg r08Fuse_con (fun _ => rfl) ?_); push_cast; (repeat' refine And.intro ?_ ?_); all_goals (first | (apply hK'; clear hK' K') | (intros; apply hK'; clear hK' K') | (clear hK' K'; first | omega | skip))) | (clear hK' K'; first | omega | skip)))
 | apply Qar | apply Qa0 | refine Qbo (id := 19) ?_ | refine Qbo (id := 37) ?_ | apply Qac | apply Qah | apply Qaj | apply Qau
 | apply Qap | apply Qax | apply Qas | apply Qaq | apply Qa1 | apply Qal | apply Qae rfl | apply Qa6 | apply Qa7 | apply regK_gs | apply Qaz | apply Qay
 | (refine Qaf ?_; push_cast) | apply Qag | refine Qaa (Qa3 _ (by omega) (by omega)) ?_ | refine Qaa (Qb0 _ (by omega) (by omega)) ?_ | refine Qaa (Qba _ (by omega) (by omega)) ?_ | refine Qaa (Qa5 _ (by omega) (by omega)) ?_
 | refine Qai rfl rfl ?_ | refine Qat rfl rfl ?_
 | (refine Qak (by push_cast; first | done | rfl) ?_ ?_ <;> intro hc <;> (try push_cast at hc))
 | refine Qaw rfl rfl rfl (by push_cast; first | done | rfl) ?_
 | refine Qav rfl rfl rfl (by push_cast; first | done | rfl) ?_ ?_
 | (intro (hc : (_ : Prop)); (try push_cast at hc)) | intro (hc : Qad) | intro (hc : Int) | intro (hc : Nat))
    all_goals (try (exfalso; omega))
    ·have hnew := rinv_app hinv (by omega) hx2.1
     have hzn : (jApp ⟨⟨D, a, e, st⟩, place.getD 1 0, b⟩ B).1.z = place.getD 1 0 := by unfold jApp; split <;> rfl
     generalize jApp ⟨⟨D, a, e, st⟩, place.getD 1 0, b⟩ B = P at *
     obtain ⟨⟨⟨D2, a2, e2, st2⟩, zn, b2⟩, er⟩ := P
     simp only at hzn hnew
     subst hzn
     refine regKS_j ?_ (Qaq (hj' (⟨D2, a2, e2, st2⟩, b2, er) hnew))
     push_cast
    ·have hnew : RInv ⟨⟨dFuse D A, a, e, st⟩, place.getD 1 0, b⟩ (place.getD 0 0).toNat (i + 1) := rinv_up (rinv_fuse hinv A)
     generalize dFuse D A = D2 at *
     refine regKS_w 10 rfl ?_ (Qaq (hj' (⟨D2, a, e, st⟩, b, 0) hnew))
     push_cast
    all_goals first
     | omega
     | (refine regK_j ?_ (Qaq (hj' (⟨D, a, e, st⟩, b, 0) (rinv_up hinv))); push_cast; done)
     | (exfalso; simp_all; done)
     | trace_state
  ·rw [if_neg hW] at hX
   have hX2 := congrArg (fun t => t.2) hX
   simp only at hX2
   apply Qc5
   push_cast
   repeat' (first
 | (intro (K' : KT) hK'; push_cast; (repeat' refine And.intro ?_ ?_); all_goals (first | (apply hK'; clear hK' K') | (refine ⟨trivial, trivial, ?_⟩; apply hK'; clear hK' K') | (intro hb; (try push_cast at hb); all_goals (intros; apply hK'; clear hK' K')) | ((first | refine Qbr jFmtF_con (fun _ _ => rfl) ?_ | refine Qbg r08Blank_con (fun _ => rfl) ?_ | refine Qbg r12FormatY_con (fun _ => rfl) ?_); push_cast; (repeat' refine And.intro ?_ ?_); all_goals (first | (apply hK'; clear hK' K') | (intros; apply hK'; clear hK' K') | (clear hK' K'; first | omega | skip))) | (clear hK' K'; first | omega | skip)))
 | apply Qar | apply Qa0 | apply Qac | apply Qah | apply Qaj | apply Qau
 | apply Qap | apply Qax | apply Qas | apply Qaq | apply Qa1 | apply Qal | apply Qae rfl | apply Qa6 | apply Qa7 | apply Qam | apply Qaz | apply Qay
 | (refine Qaf ?_; push_cast) | apply Qag | refine Qaa (Qa3 _ (by omega) (by omega)) ?_ | refine Qaa (Qb0 _ (by omega) (by omega)) ?_ | refine Qaa (Qba _ (by omega) (by omega)) ?_ | refine Qaa (Qa5 _ (by omega) (by omega)) ?_
 | refine Qai rfl rfl ?_ | refine Qat rfl rfl ?_
 | (refine Qak (by push_cast; first | done | rfl) ?_ ?_ <;> intro hc <;> (try push_cast at hc))
 | refine Qaw rfl rfl rfl (by push_cast; first | done | rfl) ?_
 | refine Qav rfl rfl rfl (by push_cast; first | done | rfl) ?_ ?_
 | refine Qbf (id := 7) [0, 1, 3, 4, 5] [6, 11] [3] (.or 2 (.or 6 (.free 7 (.free 8 (.free 9 (.or 10 (.or 11 (.free 12 (.done)) (.stop)) (.stop))))) (.or 10 (.or 6 (.free 7 (.free 8 (.free 9 (.or 11 (.free 12 (.done)) (.stop))))) (.stop)) (.stop))) (.or 10 (.or 2 (.or 6 (.free 7 (.free 8 (.free 9 (.or 11 (.free 12 (.done)) (.stop))))) (.stop)) (.stop)) (.stop))) wide (by kernel_rfl) ?_
 | apply Qby | apply Qbk | apply Qbn
 | refine Qbx rfl rfl rfl ?_ | refine Qbl rfl rfl rfl ?_
 | (refine Qbm rfl rfl rfl rfl ?_ ?_; rotate_left) | (refine Qbe rfl rfl rfl rfl ?_ ?_; rotate_left)
 | (refine Qbz rfl rfl rfl rfl ?_ ?_; rotate_left; focus (intro K' hK'; push_cast; (repeat' refine And.intro ?_ ?_); all_goals (first | (refine hK' _ _ _ _ _ (by push_cast) (by push_cast; first | done | rfl) ?_; clear hK' K') | ((first | refine Qbr jFmtF_con (fun _ _ => rfl) ?_ | refine Qbg r08Blank_con (fun _ => rfl) ?_ | refine Qbg r12FormatY_con (fun _ => rfl) ?_); push_cast; (repeat' refine And.intro ?_ ?_); all_goals (first | (refine hK' _ _ _ _ _ (by push_cast) (by push_cast; first | done | rfl) ?_; clear hK' K') | (intros; refine hK' _ _ _ _ _ (by push_cast) (by push_cast; first | done | rfl) ?_; clear hK' K') | (clear hK' K'; first | omega | skip))) | (clear hK' K'; first | omega | skip))))
 | refine Qcc rfl rfl rfl rfl (by push_cast; first | done | rfl) ?_
 | refine Qcd rfl rfl rfl rfl (by push_cast; first | done | rfl) ?_ ?_
 | (intro (hc : (_ : Prop)); (try push_cast at hc)) | intro (hc : Qad) | intro (hc : Int) | intro (hc : Nat))
   all_goals first
    | omega
    | exact hto0 _ ‹_›
    | (exfalso; simp only [hX2] at *; simp_all; done)
    | trace_state
 ·have hR : jrightB (dBlank (place.getD 0 0)) (place.getD 1 0) = false := by simpa using hR
  have hbn : (dBlank (place.getD 0 0)).Base.length ≤ 60 := by simp only [dBlank, List.length_replicate]; omega
  apply Qc5
  push_cast
  repeat' (first
 | (intro (K' : KT) hK'; push_cast; (repeat' refine And.intro ?_ ?_); all_goals (first | (apply hK'; clear hK' K') | (refine ⟨trivial, trivial, ?_⟩; apply hK'; clear hK' K') | (intro hb; (try push_cast at hb); all_goals (intros; apply hK'; clear hK' K')) | ((first | refine Qbr jFmtN_con (fun _ _ => rfl) ?_ | refine Qbg r08Blank_con (fun _ => rfl) ?_ | refine Qbg r12FormatN_con (fun _ => rfl) ?_); push_cast; (repeat' refine And.intro ?_ ?_); all_goals (first | (apply hK'; clear hK' K') | (intros; apply hK'; clear hK' K') | (clear hK' K'; first | omega | skip))) | (clear hK' K'; first | omega | skip)))
 | apply Qar | apply Qa0 | apply Qac | apply Qah | apply Qaj | apply Qau
 | apply Qap | apply Qax | apply Qas | apply Qaq | apply Qa1 | apply Qal | apply Qae rfl | apply Qa6 | apply Qa7 | apply Qam | apply Qaz | apply Qay
 | (refine Qaf ?_; push_cast) | apply Qag | refine Qaa (Qa3 _ (by omega) (by omega)) ?_ | refine Qaa (Qb0 _ (by omega) (by omega)) ?_ | refine Qaa (Qba _ (by omega) (by omega)) ?_ | refine Qaa (Qa5 _ (by omega) (by omega)) ?_
 | refine Qai rfl rfl ?_ | refine Qat rfl rfl ?_
 | (refine Qak (by push_cast; first | done | rfl) ?_ ?_ <;> intro hc <;> (try push_cast at hc))
 | refine Qaw rfl rfl rfl (by push_cast; first | done | rfl) ?_
 | refine Qav rfl rfl rfl (by push_cast; first | done | rfl) ?_ ?_
 | refine Qbf (id := 7) [0, 1, 3, 4, 5] [6, 11] [3] (.or 2 (.or 6 (.free 7 (.free 8 (.free 9 (.or 10 (.or 11 (.free 12 (.done)) (.stop)) (.stop))))) (.or 10 (.or 6 (.free 7 (.free 8 (.free 9 (.or 11 (.free 12 (.done)) (.stop))))) (.stop)) (.stop))) (.or 10 (.or 2 (.or 6 (.free 7 (.free 8 (.free 9 (.or 11 (.free 12 (.done)) (.stop))))) (.stop)) (.stop)) (.stop))) wide (by kernel_rfl) ?_
 | apply Qby | apply Qbk | apply Qbn
 | refine Qbx rfl rfl rfl ?_ | refine Qbl rfl rfl rfl ?_
 | (refine Qbm rfl rfl rfl rfl ?_ ?_; rotate_left) | (refine Qbe rfl rfl rfl rfl ?_ ?_; rotate_left)
 | (refine Qbz rfl rfl rfl rfl ?_ ?_; rotate_left; focus (intro K' hK'; push_cast; (repeat' refine And.intro ?_ ?_); all_goals (first | (refine hK' _ _ _ _ _ (by push_cast) (by push_cast; first | done | rfl) ?_; clear hK' K') | ((first | refine Qbr jFmtN_con (fun _ _ => rfl) ?_ | refine Qbg r08Blank_con (fun _ => rfl) ?_ | refine Qbg r12FormatN_con (fun _ => rfl) ?_); push_cast; (repeat' refine And.intro ?_ ?_); all_goals (first | (refine hK' _ _ _ _ _ (by push_cast) (by push_cast; first | done | rfl) ?_; clear hK' K') | (intros; refine hK' _ _ _ _ _ (by push_cast) (by push_cast; first | done | rfl) ?_; clear hK' K') | (clear hK' K'; first | omega | skip))) | (clear hK' K'; first | omega | skip))))
 | refine Qcc rfl rfl rfl rfl (by push_cast; first | done | rfl) ?_
 | refine Qcd rfl rfl rfl rfl (by push_cast; first | done | rfl) ?_ ?_
 | (intro (hc : (_ : Prop)); (try push_cast at hc)) | intro (hc : Qad) | intro (hc : Int) | intro (hc : Nat))
  all_goals first
   | omega
   | trace_state
theorem jRuns_con : Con Cx.P 22 (.pair (.arr 2 (.int .i64)) (.pair (.slice (.int .u8)) (.pair (.slice Qce) (.unit)))) (fun x => (fun (place : List Int) (state : List Int) (acts : List Qct) => True) x.1 x.2.1 x.2.2.1) (fun x => (fun (place : List Int) (state : List Int) (acts : List Qct) => [.bool true]) x.1 x.2.1 x.2.2.1) := ⟨Qux, fun x h => jRuns_fn x.1 x.2.1 x.2.2.1⟩
end
end Go.Proofs.Ytnmjcdlgfimnaaa
