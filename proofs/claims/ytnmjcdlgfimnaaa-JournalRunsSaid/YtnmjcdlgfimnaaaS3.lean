/- Chapter 7 in the document: a register bit by bit, and what the code has for it. -/
import Derived.Test.YtnmjcdlgfimnaaaC10b
namespace Go.Proofs.Ytnmjcdlgfimnaaa
def stepV (v : BitVec 32) : BitVec 32 := if v.getLsbD 0 then (v >>> 1) ^^^ 3988292384#32 else v >>> 1
def inV (v : BitVec 32) (bit : Bool) : BitVec 32 := if (v.getLsbD 0 ^^ bit) then (v >>> 1) ^^^ 3988292384#32 else v >>> 1
def stepKV : Nat → BitVec 32 → BitVec 32
 | 0, v => v
 | n + 1, v => stepKV n (stepV v)
def inKV : Nat → BitVec 32 → BitVec 32 → BitVec 32
 | 0, v, _ => v
 | n + 1, v, u => inKV n (inV v (u.getLsbD 0)) (u >>> 1)
theorem step_in (v u : BitVec 32) : stepV (v ^^^ u) = inV v (u.getLsbD 0) ^^^ (u >>> 1) := by
 unfold stepV inV
 rw [BitVec.getLsbD_xor, BitVec.ushiftRight_xor_distrib]
 cases (v.getLsbD 0 ^^ u.getLsbD 0)
 ·simp
 ·simp only [if_true]
  rw [BitVec.xor_assoc, BitVec.xor_assoc, BitVec.xor_comm (u >>> 1)]
theorem sh_sh (u : BitVec 32) (n : Nat) : u >>> 1 >>> n = u >>> (n + 1) := by
 apply BitVec.eq_of_toNat_eq
 simp only [BitVec.toNat_ushiftRight]
 rw [← Nat.shiftRight_add, Nat.add_comm]
theorem of_val (v : BitVec 32) : BitVec.ofInt 32 (v.toNat : Int) = v := by
 apply BitVec.eq_of_toNat_eq
 have h := v.isLt
 rw [BitVec.toNat_ofInt]
 omega
theorem stepK_in : ∀ (n : Nat) (v u : BitVec 32), stepKV n (v ^^^ u) = inKV n v u ^^^ (u >>> n)
 | 0, v, u => by simp [stepKV, inKV]
 | n + 1, v, u => by
  show stepKV n (stepV (v ^^^ u)) = inKV n (inV v (u.getLsbD 0)) (u >>> 1) ^^^ _
  rw [step_in, stepK_in n, sh_sh]
theorem xor_val (v w : BitVec 32) : Qcz .xor .u32 (v.toNat : Int) (w.toNat : Int) = ((v ^^^ w).toNat : Int) := by
 unfold Qcz
 have h1 : BitVec.ofInt IntKind.u32.bits (v.toNat : Int) = v := of_val v
 have h2 : BitVec.ofInt IntKind.u32.bits (w.toNat : Int) = w := of_val w
 simp only [h1, h2]
 have : (v ^^^ w).toNat < 2 ^ 32 := (v ^^^ w).isLt
 show IntKind.u32.wrap (((v ^^^ w).toNat : Nat) : Int) = _
 exact Qba _ (by omega) (by omega)
theorem shr_val (v : BitVec 32) : Qc8 .u32 (v.toNat : Int) 1 = ((v >>> 1).toNat : Int) := by
 unfold Qc8
 have : (2 : Int) ^ min (1 : Int).toNat IntKind.u32.bits = 2 := by decide
 rw [this, BitVec.toNat_ushiftRight, Nat.shiftRight_eq_div_pow, Int.fdiv_eq_ediv_of_nonneg _ (by decide)]
 simp
theorem odd_val (v : BitVec 32) : ((v.toNat : Int).tmod 2 = 1) ↔ v.getLsbD 0 = true := by
 rw [Int.tmod_eq_emod_of_nonneg (by omega), BitVec.getLsbD, Nat.testBit_zero]
 simp only [decide_eq_true_eq]
 omega
theorem shiftN_val (v : BitVec 32) : shiftN (v.toNat : Int) = ((stepV v).toNat : Int) := by
 unfold shiftN stepV
 have ht : (3988292384 : Int) = ((3988292384#32).toNat : Int) := by decide
 rw [shr_val, ht, xor_val]
 by_cases h : (v.toNat : Int).tmod 2 = 1
 ·rw [if_pos h, if_pos ((odd_val v).1 h)]
 ·rw [if_neg h, if_neg (fun h2 => h ((odd_val v).2 h2))]
theorem shiftK_val : ∀ (n : Nat) (v : BitVec 32), shiftK n (v.toNat : Int) = ((stepKV n v).toNat : Int)
 | 0, _ => rfl
 | n + 1, v => by
  show shiftK n (shiftN _) = _
  rw [shiftN_val, shiftK_val n]
  rfl
def byteV (c : Int) : BitVec 32 := BitVec.ofNat 32 c.toNat
def addV : BitVec 32 → List Int → BitVec 32
 | v, [] => v
 | v, c :: l => addV (inKV 8 v (byteV c)) l
theorem addN_val : ∀ (b : List Int) (v : BitVec 32), (∀ x ∈ b, 0 ≤ x ∧ x ≤ 255) → addN (v.toNat : Int) b = ((addV v b).toNat : Int)
 | [], _, _ => rfl
 | c :: l, v, h => by
  have hc := h c (List.mem_cons_self ..)
  have e1 : IntKind.u32.wrap c = ((byteV c).toNat : Int) := by
   rw [Qba c (by omega) (by omega)]
   unfold byteV
   rw [BitVec.toNat_ofNat, Nat.mod_eq_of_lt (by omega)]
   omega
  have e2 : byteV c >>> 8 = 0#32 := by
   apply BitVec.eq_of_toNat_eq
   unfold byteV
   rw [BitVec.toNat_ushiftRight, Nat.shiftRight_eq_div_pow, BitVec.toNat_ofNat, Nat.mod_eq_of_lt (by omega)]
   simp
   omega
  show addN (shiftK 8 (Qcz .xor .u32 _ _)) l = _
  rw [e1, xor_val, shiftK_val, addN_val l _ (fun x hx => h x (List.mem_cons_of_mem _ hx)), stepK_in, e2, BitVec.xor_zero]
  rfl
theorem ifc {P Q : Prop} [Decidable P] [Decidable Q] {α : Type} {a b c d : α} (h : P ↔ Q) (h1 : a = c) (h2 : b = d) : (if P then a else b) = if Q then c else d := by
 subst h1 h2
 by_cases hp : P
 ·rw [if_pos hp, if_pos (h.1 hp)]
 ·rw [if_neg hp, if_neg (fun hq => hp (h.2 hq))]
def bitOf (b : Bool) : Int := if b then 1 else 0
def bitsR (v : BitVec 32) : List Int := (List.range 32).map fun i => bitOf (v.getLsbD i)
theorem bitsR_len (v : BitVec 32) : (bitsR v).length = 32 := by simp [bitsR]
theorem bitsR_get (v : BitVec 32) (i : Nat) : (bitsR v).getD i 0 = bitOf (v.getLsbD i) := by
 by_cases h : i < 32
 ·simp [bitsR, List.getD_eq_getElem?_getD, h]
 ·rw [List.getD_eq_getElem?_getD, List.getElem?_eq_none (by rw [bitsR_len]; omega), BitVec.getLsbD_of_ge _ _ (by omega)]
  rfl
theorem bitOf_bd (b : Bool) : 0 ≤ bitOf b ∧ bitOf b ≤ 1 := by cases b <;> decide
def sh1 (r : List Int) : Nat → List Int
 | 0 => List.replicate 32 0
 | i + 1 => (sh1 r i).set i (r.getD (i + 1) 0)
def fl2 (told : Int) (r : List Int) : Nat → List Int
 | 0 => sh1 r 31
 | i + 1 => if told = 1 ∧ (Qc8 .i64 3988292384 i).tmod 2 = 1 then (fl2 told r i).set i (1 - (fl2 told r i).getD i 0) else fl2 told r i
def inR (r : List Int) (bit : Int) : List Int := fl2 ((r.getD 0 0 + bit).tmod 2) r 32
theorem sh1_len (r : List Int) : ∀ i, (sh1 r i).length = 32
 | 0 => by simp [sh1]
 | i + 1 => by simp [sh1, sh1_len r i]
theorem fl2_len (t : Int) (r : List Int) : ∀ i, (fl2 t r i).length = 32
 | 0 => sh1_len r 31
 | i + 1 => by
  unfold fl2
  split
  ·rw [List.length_set, fl2_len t r i]
  ·exact fl2_len t r i
theorem getD_set (l : List Int) (i j : Nat) (x : Int) (h : i < l.length) : (l.set i x).getD j 0 = if i = j then x else l.getD j 0 := by
 simp only [List.getD_eq_getElem?_getD, List.getElem?_set]
 split
 ·subst_vars; simp [h]
 ·rfl
theorem sh1_get (r : List Int) : ∀ i, i ≤ 31 → ∀ j, (sh1 r i).getD j 0 = if j < i then r.getD (j + 1) 0 else 0
 | 0, _, j => by
  simp only [sh1, List.getD_eq_getElem?_getD, List.getElem?_replicate]
  split <;> simp
 | i + 1, hi, j => by
  show ((sh1 r i).set i (r.getD (i + 1) 0)).getD j 0 = _
  rw [getD_set _ _ _ _ (by rw [sh1_len]; omega), sh1_get r i (by omega)]
  by_cases h : i = j
  ·subst h; simp
  ·by_cases h2 : j < i
   ·rw [if_neg h, if_pos h2, if_pos (by omega)]
   ·rw [if_neg h, if_neg h2, if_neg (by omega)]
theorem fl2_get (t : Int) (r : List Int) : ∀ i, i ≤ 32 → ∀ j, (fl2 t r i).getD j 0 = if j < i ∧ t = 1 ∧ (Qc8 .i64 3988292384 j).tmod 2 = 1 then 1 - (sh1 r 31).getD j 0 else (sh1 r 31).getD j 0
 | 0, _, j => by simp [fl2]
 | i + 1, hi, j => by
  unfold fl2
  have ih := fl2_get t r i (by omega)
  by_cases hc : t = 1 ∧ (Qc8 .i64 3988292384 i).tmod 2 = 1
  ·rw [if_pos hc, getD_set _ _ _ _ (by rw [fl2_len]; omega), ih, ih]
   by_cases h : i = j
   ·subst h
    rw [if_pos rfl, if_neg (by omega), if_pos ⟨by omega, hc⟩]
   ·rw [if_neg h]
    refine ifc ⟨fun ⟨a, b⟩ => ⟨by omega, b⟩, fun ⟨a, b⟩ => ⟨by omega, b⟩⟩ rfl rfl
  ·rw [if_neg hc, ih]
   refine ifc ⟨fun ⟨a, b⟩ => ⟨by omega, b⟩, fun ⟨a, b⟩ => ⟨?_, b⟩⟩ rfl rfl
   have : j ≠ i := fun h => hc (by subst h; exact b)
   omega
theorem taps_bit : ∀ j : Nat, j < 32 → ((Qc8 .i64 3988292384 j).tmod 2 = 1 ↔ (3988292384#32).getLsbD j = true) := by decide
theorem fl2_bits (t : Bool) (v : BitVec 32) (i j : Nat) (hi : i ≤ 32) (hj : j < 32) : (fl2 (bitOf t) (bitsR v) i).getD j 0 = if j < i ∧ t = true ∧ (3988292384#32).getLsbD j = true then 1 - bitOf ((v >>> 1).getLsbD j) else bitOf ((v >>> 1).getLsbD j) := by
 have e : (sh1 (bitsR v) 31).getD j 0 = bitOf ((v >>> 1).getLsbD j) := by
  rw [sh1_get _ _ (by omega), BitVec.getLsbD_ushiftRight, Nat.add_comm 1 j]
  by_cases h : j < 31
  ·rw [if_pos h, bitsR_get]
  ·rw [if_neg h, BitVec.getLsbD_of_ge _ _ (by omega)]
   rfl
 have e2 : (bitOf t = 1) ↔ t = true := by cases t <;> decide
 rw [fl2_get _ _ _ hi, e]
 refine ifc ?_ rfl rfl
 exact ⟨fun ⟨a, b, c⟩ => ⟨a, e2.1 b, (taps_bit j hj).1 c⟩, fun ⟨a, b, c⟩ => ⟨a, e2.2 b, (taps_bit j hj).2 c⟩⟩
theorem inR_val (v : BitVec 32) (b : Bool) : inR (bitsR v) (bitOf b) = bitsR (inV v b) := by
 have et : ((bitsR v).getD 0 0 + bitOf b).tmod 2 = bitOf (v.getLsbD 0 ^^ b) := by
  rw [bitsR_get]
  cases v.getLsbD 0 <;> cases b <;> decide
 unfold inR
 rw [et]
 refine List.ext_getElem (by rw [fl2_len, bitsR_len]) fun j h1 h2 => ?_
 rw [fl2_len] at h1
 have e1 := fl2_bits (v.getLsbD 0 ^^ b) v 32 j (Nat.le_refl _) h1
 have e2 := bitsR_get (inV v b) j
 rw [List.getD_eq_getElem?_getD, List.getElem?_eq_getElem (by rw [fl2_len]; exact h1), Option.getD_some] at e1
 rw [List.getD_eq_getElem?_getD, List.getElem?_eq_getElem h2, Option.getD_some] at e2
 rw [e1, e2]
 unfold inV
 cases (v.getLsbD 0 ^^ b)
 ·simp
 ·simp only [h1, true_and, if_true, BitVec.getLsbD_xor]
  cases (v >>> 1).getLsbD j <;> cases (3988292384#32).getLsbD j <;> decide
def inKR (c : Int) : Nat → List Int → List Int
 | 0, r => r
 | k + 1, r => inR (inKR c k r) ((Qc8 .u8 c k).tmod 2)
def addR : Nat → List Int → List Int → List Int
 | 0, _, r => r
 | i + 1, b, r => inKR (b.getD i 0) 8 (addR i b r)
theorem inKV_succ : ∀ (k : Nat) (v u : BitVec 32), inKV (k + 1) v u = inV (inKV k v u) (u.getLsbD k)
 | 0, _, _ => rfl
 | k + 1, v, u => by
  show inKV (k + 1) (inV v (u.getLsbD 0)) (u >>> 1) = _
  rw [inKV_succ k, BitVec.getLsbD_ushiftRight, Nat.add_comm 1 k]
  rfl
theorem bit_byte {c : Int} (h : 0 ≤ c ∧ c ≤ 255) {k : Nat} (hk : k < 8) : (Qc8 .u8 c k).tmod 2 = bitOf ((byteV c).getLsbD k) := by
 obtain ⟨n, rfl⟩ : ∃ n : Nat, c = n := ⟨c.toNat, by omega⟩
 have e : Qc8 .u8 (n : Int) k = ((n / 2 ^ k : Nat) : Int) := by
  unfold Qc8
  have : min (k : Int).toNat IntKind.u8.bits = k := by
   have : IntKind.u8.bits = 8 := rfl
   omega
  rw [this, Int.fdiv_eq_ediv_of_nonneg _ (by exact Int.pow_nonneg (by decide))]
  norm_cast
 rw [e, Int.tmod_eq_emod_of_nonneg (Int.natCast_nonneg _)]
 unfold byteV
 rw [BitVec.getLsbD_ofNat, Int.toNat_natCast, Nat.testBit_eq_decide_div_mod_eq]
 generalize n / 2 ^ k = q
 have h32 : k < 32 := by omega
 simp only [h32, decide_true, Bool.true_and]
 unfold bitOf
 have : q % 2 = 0 ∨ q % 2 = 1 := by omega
 rcases this with h | h <;> simp [h] <;> omega
theorem inKR_val {c : Int} (h : 0 ≤ c ∧ c ≤ 255) (v : BitVec 32) : ∀ k, k ≤ 8 → inKR c k (bitsR v) = bitsR (inKV k v (byteV c))
 | 0, _ => rfl
 | k + 1, hk => by
  show inR (inKR c k (bitsR v)) _ = _
  rw [inKR_val h v k (by omega), bit_byte h (by omega), inR_val, inKV_succ]
theorem addV_snoc : ∀ (b : List Int) (v : BitVec 32) (c : Int), addV v (b ++ [c]) = inKV 8 (addV v b) (byteV c)
 | [], _, _ => rfl
 | x :: l, v, c => addV_snoc l _ c
theorem addR_val {b : List Int} (h : ∀ x ∈ b, 0 ≤ x ∧ x ≤ 255) (v : BitVec 32) : ∀ i, i ≤ b.length → addR i b (bitsR v) = bitsR (addV v (b.take i))
 | 0, _ => by simp [addR, addV]
 | i + 1, hi => by
  show inKR (b.getD i 0) 8 (addR i b (bitsR v)) = _
  have hm : b.getD i 0 ∈ b := getD_mem b i 0 (by omega)
  rw [addR_val h v i (by omega), inKR_val (h _ hm) _ 8 (Nat.le_refl _), take_succ_getD b i 0 (by omega), addV_snoc]
def nuR (r : List Int) : Nat → Int
 | 0 => 0
 | c + 1 => 2 * nuR r c + r.getD (31 - c) 0
theorem nuR_val (v : BitVec 32) : ∀ c, c ≤ 32 → nuR (bitsR v) c = ((v.toNat / 2 ^ (32 - c) : Nat) : Int)
 | 0, _ => by
  have := v.isLt
  rw [Nat.div_eq_of_lt (by simpa using this)]
  rfl
 | c + 1, hc => by
  show 2 * nuR (bitsR v) c + _ = _
  rw [nuR_val v c (by omega), bitsR_get]
  obtain ⟨k, hk⟩ : ∃ k, 31 - c = k := ⟨_, rfl⟩
  have e1 : 32 - c = k + 1 := by omega
  have e2 : 32 - (c + 1) = k := by omega
  rw [e1, e2, hk, BitVec.getLsbD, Nat.testBit_eq_decide_div_mod_eq, Nat.pow_succ, ← Nat.div_div_eq_div_mul]
  generalize v.toNat / 2 ^ k = q
  unfold bitOf
  have : q % 2 = 0 ∨ q % 2 = 1 := by omega
  rcases this with h | h <;> simp [h] <;> omega
end Go.Proofs.Ytnmjcdlgfimnaaa
namespace Go.Proofs.Ytnmjcdlgfimnaaa
section
set_option linter.unusedSimpArgs false
set_option linter.unusedVariables false
set_option maxRecDepth 20000
attribute [local irreducible] Qb3 Qa9 vcA Qbp Wc
set_option maxHeartbeats 8000000
def onesR : Nat → List Int
 | 0 => List.replicate 32 0
 | i + 1 => (onesR i).set i 1
theorem onesR_len : ∀ i, (onesR i).length = 32
 | 0 => by simp [onesR]
 | i + 1 => by simp [onesR, onesR_len i]
theorem ones_start : onesR 32 = bitsR 4294967295#32 := by decide
theorem r07Start_fn : Qck Cx.P 126 [] [.dat (.arr 32 (.int .i64)) (bitsR 4294967295#32)] := by
 refine Qck.go2 (E := Cx.env) (fn := Try.f126) (res := [_]) Try.func126 Qsf rfl rfl rfl (by kernel_rfl) rfl ?_
 push_cast
 try intro hf
 repeat' (first
 | (intro (K' : KT) hK'; push_cast; (repeat' refine And.intro ?_ ?_); all_goals (first | (apply hK'; clear hK' K') | (refine ⟨trivial, trivial, ?_⟩; apply hK'; clear hK' K') | (intro hb; (try push_cast at hb); all_goals (intros; apply hK'; clear hK' K')) | (clear hK' K'; first | omega | skip)))
 | apply Qar | apply Qa0 | apply Qac | apply Qah | apply Qaj | apply Qau
 | apply Qap | apply Qax | apply Qas | apply Qaq | apply Qa1 | apply Qal | apply Qae rfl | apply Qa6 | apply Qa7 | apply Qam | apply Qaz | apply Qay
 | (refine Qaf ?_; push_cast) | apply Qag | refine Qaa (Qa3 _ (by omega) (by omega)) ?_ | refine Qaa (Qb0 _ (by omega) (by omega)) ?_ | refine Qaa (Qba _ (by omega) (by omega)) ?_ | refine Qaa (Qa5 _ (by omega) (by omega)) ?_
 | refine Qai rfl rfl ?_ | refine Qat rfl rfl ?_
 | (refine Qak (by push_cast; first | done | rfl) ?_ ?_ <;> intro hc <;> (try push_cast at hc))
 | refine Qaw rfl rfl rfl (by push_cast; first | done | rfl) ?_
 | refine Qav rfl rfl rfl (by push_cast; first | done | rfl) ?_ ?_
 | (intro (hc : (_ : Prop)); (try push_cast at hc)) | intro (hc : Qad) | intro (hc : Int) | intro (hc : Nat))
 refine Qbu [2, 4, 5, 6, 7, 8, 9] [1] (fun (i : Nat) => i ≤ 32) (fun (i : Nat) => [(4, .one (.l (.int .i64 i)))]) (fun (i : Nat) => [(1, .segs [.dat (.arr 32 (.int .i64)) (onesR i)])]) (fun (i : Nat) => 32 - i) 0 ?_ (by push_cast; first | done | rfl) (by push_cast; first | done | rfl) ?_ ?_
 ·omega
 ·push_cast
  first | done | rfl
 ·intro i hi
  push_cast
  intro hg
  have hlen := onesR_len i
  repeat' (first
 | (intro (K' : KT) hK'; push_cast; (repeat' refine And.intro ?_ ?_); all_goals (first | (apply hK'; clear hK' K') | (refine ⟨trivial, trivial, ?_⟩; apply hK'; clear hK' K') | (intro hb; (try push_cast at hb); all_goals (intros; apply hK'; clear hK' K')) | (clear hK' K'; first | omega | skip)))
 | apply Qar | apply Qa0 | apply Qac | apply Qah | apply Qaj | apply Qau
 | apply Qap | apply Qax | apply Qas | apply Qaq | apply Qa1 | apply Qal | apply Qae rfl | apply Qa6 | apply Qa7 | apply Qam | apply Qaz | apply Qay
 | (refine Qaf ?_; push_cast) | apply Qag | refine Qaa (Qa3 _ (by omega) (by omega)) ?_ | refine Qaa (Qb0 _ (by omega) (by omega)) ?_ | refine Qaa (Qba _ (by omega) (by omega)) ?_ | refine Qaa (Qa5 _ (by omega) (by omega)) ?_
 | refine Qai rfl rfl ?_ | refine Qat rfl rfl ?_
 | (refine Qak (by push_cast; first | done | rfl) ?_ ?_ <;> intro hc <;> (try push_cast at hc))
 | refine Qaw rfl rfl rfl (by push_cast; first | done | rfl) ?_
 | refine Qav rfl rfl rfl (by push_cast; first | done | rfl) ?_ ?_
 | (intro (hc : (_ : Prop)); (try push_cast at hc)) | intro (hc : Qad) | intro (hc : Int) | intro (hc : Nat))
  ·refine Qbv (i + 1) (by omega) (by omega) ?_
   push_cast
   first | done | rfl
  ·have e : i = 32 := by omega
   subst e
   rw [ones_start]
theorem r07Start_con : Con Cx.P 126 (.unit) (fun x => True) (fun x => [.dat (.arr 32 (.int .i64)) (bitsR 4294967295#32)]) := ⟨Qsf, fun x h => r07Start_fn ⟩
theorem r07in_fn (r : List Int) (b : Int) (hpre : (∀ x ∈ r, 0 ≤ x ∧ x ≤ 1) ∧ 0 ≤ b ∧ b ≤ 1) : Qck Cx.P 127 [.dat (.arr 32 (.int .i64)) r, .int .i64 b] [.dat (.arr 32 (.int .i64)) (inR r b)] := by
 refine Qck.go2 (E := Cx.env) (fn := Try.f127) (res := [_]) Try.func127 Qrx rfl rfl rfl (by kernel_rfl) rfl ?_
 push_cast
 try intro hf
 obtain ⟨hr, hb⟩ := hpre
 have hlr : r.length = 32 := hf.1.1
 have hrd : ∀ i, 0 ≤ r.getD i 0 ∧ r.getD i 0 ≤ 1 := fun i => by
  by_cases h : i < r.length
  ·exact hr _ (getD_mem r i 0 h)
  ·rw [List.getD_eq_getElem?_getD, List.getElem?_eq_none (by omega)]
   exact ⟨Int.le_refl 0, by decide⟩
 have hs31 : ∀ i j, i ≤ 31 → 0 ≤ (sh1 r i).getD j 0 ∧ (sh1 r i).getD j 0 ≤ 1 := fun i j h => by
  rw [sh1_get r i h]
  split
  ·exact hrd _
  ·exact ⟨Int.le_refl 0, by decide⟩
 have hfl : ∀ t i j, i ≤ 32 → 0 ≤ (fl2 t r i).getD j 0 ∧ (fl2 t r i).getD j 0 ≤ 1 := fun t i j h => by
  rw [fl2_get t r i h]
  have := hs31 31 j (by omega)
  split <;> omega
 have hr0 := hrd 0
 repeat' (first
 | (intro (K' : KT) hK'; push_cast; (repeat' refine And.intro ?_ ?_); all_goals (first | (apply hK'; clear hK' K') | (refine ⟨trivial, trivial, ?_⟩; apply hK'; clear hK' K') | (intro hb; (try push_cast at hb); all_goals (intros; apply hK'; clear hK' K')) | (clear hK' K'; first | omega | skip)))
 | apply Qar | apply Qa0 | apply Qac | apply Qah | apply Qaj | apply Qau
 | apply Qap | apply Qax | apply Qas | apply Qaq | apply Qa1 | apply Qal | apply Qae rfl | apply Qa6 | apply Qa7 | apply Qam | apply Qaz | apply Qay
 | (refine Qaf ?_; push_cast) | apply Qag | refine Qaa (Qa3 _ (by omega) (by omega)) ?_ | refine Qaa (Qb0 _ (by omega) (by omega)) ?_ | refine Qaa (Qba _ (by omega) (by omega)) ?_ | refine Qaa (Qa5 _ (by omega) (by omega)) ?_
 | refine Qai rfl rfl ?_ | refine Qat rfl rfl ?_
 | (refine Qak (by push_cast; first | done | rfl) ?_ ?_ <;> intro hc <;> (try push_cast at hc))
 | refine Qaw rfl rfl rfl (by push_cast; first | done | rfl) ?_
 | refine Qav rfl rfl rfl (by push_cast; first | done | rfl) ?_ ?_
 | (intro (hc : (_ : Prop)); (try push_cast at hc)) | intro (hc : Qad) | intro (hc : Int) | intro (hc : Nat))
 refine Qbu [7, 15, 16, 17, 18, 19, 20, 21, 22, 23, 24] [6] (fun (i : Nat) => i ≤ 31) (fun (i : Nat) => [(7, .one (.l (.int .i64 i)))]) (fun (i : Nat) => [(6, .segs [.dat (.arr 32 (.int .i64)) (sh1 r i)])]) (fun (i : Nat) => 31 - i) 0 ?_ (by push_cast; first | done | rfl) (by push_cast; first | done | rfl) ?_ ?_
 ·omega
 ·push_cast
  first | done | rfl
 ·intro i hi
  push_cast
  intro hg
  have hlen := sh1_len r i
  repeat' (first
 | (intro (K' : KT) hK'; push_cast; (repeat' refine And.intro ?_ ?_); all_goals (first | (apply hK'; clear hK' K') | (refine ⟨trivial, trivial, ?_⟩; apply hK'; clear hK' K') | (intro hb; (try push_cast at hb); all_goals (intros; apply hK'; clear hK' K')) | (clear hK' K'; first | omega | skip)))
 | apply Qar | apply Qa0 | apply Qac | apply Qah | apply Qaj | apply Qau
 | apply Qap | apply Qax | apply Qas | apply Qaq | apply Qa1 | apply Qal | apply Qae rfl | apply Qa6 | apply Qa7 | apply Qam | apply Qaz | apply Qay
 | (refine Qaf ?_; push_cast) | apply Qag | refine Qaa (Qa3 _ (by omega) (by omega)) ?_ | refine Qaa (Qb0 _ (by omega) (by omega)) ?_ | refine Qaa (Qba _ (by omega) (by omega)) ?_ | refine Qaa (Qa5 _ (by omega) (by omega)) ?_
 | refine Qai rfl rfl ?_ | refine Qat rfl rfl ?_
 | (refine Qak (by push_cast; first | done | rfl) ?_ ?_ <;> intro hc <;> (try push_cast at hc))
 | refine Qaw rfl rfl rfl (by push_cast; first | done | rfl) ?_
 | refine Qav rfl rfl rfl (by push_cast; first | done | rfl) ?_ ?_
 | (intro (hc : (_ : Prop)); (try push_cast at hc)) | intro (hc : Qad) | intro (hc : Int) | intro (hc : Nat))
  ·refine Qbv (i + 1) (by omega) (by omega) ?_
   push_cast
   first | done | rfl
  ·have ei : i = 31 := by omega
   subst ei
   generalize ht : (r.getD 0 0 + b).tmod 2 = t
   have eres : inR r b = fl2 t r 32 := by rw [← ht]; rfl
   refine Qbu [8, 25, 26, 27, 28, 29, 30, 31, 32, 33, 34, 35, 36, 37, 38, 39, 40, 41, 42] [6] (fun (j : Nat) => j ≤ 32) (fun (j : Nat) => [(25, .one (.l (.int .i64 j)))]) (fun (j : Nat) => [(6, .segs [.dat (.arr 32 (.int .i64)) (fl2 t r j)])]) (fun (j : Nat) => 32 - j) 0 ?_ (by push_cast; first | done | rfl) (by push_cast; first | done | rfl) ?_ ?_
   ·omega
   ·push_cast
    first | done | rfl
   ·intro j hj
    push_cast
    intro hg2
    have hlen2 := fl2_len t r j
    have hb2 := hfl t j j hj
    have hs1 : t = 1 → (Qc8 .i64 3988292384 j).tmod 2 = 1 → fl2 t r (j + 1) = (fl2 t r j).set j (1 - (fl2 t r j).getD j 0) := fun a c => by
     show (if _ then _ else _) = _
     rw [if_pos ⟨a, c⟩]
    have hs0 : ¬ (t = 1 ∧ (Qc8 .i64 3988292384 j).tmod 2 = 1) → fl2 t r (j + 1) = fl2 t r j := fun a => by
     show (if _ then _ else _) = _
     rw [if_neg a]
    repeat' (first
 | (intro (K' : KT) hK'; push_cast; (repeat' refine And.intro ?_ ?_); all_goals (first | (apply hK'; clear hK' K') | (refine ⟨trivial, trivial, ?_⟩; apply hK'; clear hK' K') | (intro hb; (try push_cast at hb); all_goals (intros; apply hK'; clear hK' K')) | (clear hK' K'; first | omega | skip)))
 | apply Qar | apply Qa0 | apply Qac | apply Qah | apply Qaj | apply Qau
 | apply Qap | apply Qax | apply Qas | apply Qaq | apply Qa1 | apply Qal | apply Qae rfl | apply Qa6 | apply Qa7 | apply Qam | apply Qaz | apply Qay
 | (refine Qaf ?_; push_cast) | apply Qag | refine Qaa (Qa3 _ (by omega) (by omega)) ?_ | refine Qaa (Qb0 _ (by omega) (by omega)) ?_ | refine Qaa (Qba _ (by omega) (by omega)) ?_ | refine Qaa (Qa5 _ (by omega) (by omega)) ?_
 | refine Qai rfl rfl ?_ | refine Qat rfl rfl ?_
 | (refine Qak (by push_cast; first | done | rfl) ?_ ?_ <;> intro hc <;> (try push_cast at hc))
 | refine Qaw rfl rfl rfl (by push_cast; first | done | rfl) ?_
 | refine Qav rfl rfl rfl (by push_cast; first | done | rfl) ?_ ?_
 | (intro (hc : (_ : Prop)); (try push_cast at hc)) | intro (hc : Qad) | intro (hc : Int) | intro (hc : Nat))
    ·refine Qbv (j + 1) (by omega) (by omega) ?_
     push_cast
     rw [hs1 ‹_› ‹_›]
    ·refine Qbv (j + 1) (by omega) (by omega) ?_
     push_cast
     rw [hs0 (fun h => absurd h.2 ‹_›)]
    ·refine Qbv (j + 1) (by omega) (by omega) ?_
     push_cast
     rw [hs0 (fun h => absurd h.1 ‹_›)]
    ·have ej : j = 32 := by omega
     subst ej
     rw [eres]
theorem r07in_con : Con Cx.P 127 (.pair (.arr 32 (.int .i64)) (.pair (.int .i64) (.unit))) (fun x => (fun (r : List Int) (b : Int) => (∀ x ∈ r, 0 ≤ x ∧ x ≤ 1) ∧ 0 ≤ b ∧ b ≤ 1) x.1 x.2.1) (fun x => (fun (r : List Int) (b : Int) => [.dat (.arr 32 (.int .i64)) (inR r b)]) x.1 x.2.1) := ⟨Qrx, fun x h => r07in_fn x.1 x.2.1 h⟩
def regV (r : List Int) : Prop := ∃ v, r = bitsR v
theorem bits_bd (v : BitVec 32) : ∀ x ∈ bitsR v, 0 ≤ x ∧ x ≤ 1 := by
 intro x hx
 simp only [bitsR, List.mem_map] at hx
 obtain ⟨i, _, rfl⟩ := hx
 exact bitOf_bd _
theorem r07Add_fn (r : List Int) (b : List Int) (hpre : regV r) : Qck Cx.P 125 [.dat (.arr 32 (.int .i64)) r, .dat (.slice (.int .u8)) b] [.dat (.arr 32 (.int .i64)) (addR b.length b r)] := by
 refine Qck.go2 (E := Cx.env) (fn := Try.f125) (res := [_]) Try.func125 Qrq rfl rfl rfl (by kernel_rfl) rfl ?_
 push_cast
 try intro hf
 obtain ⟨v, rfl⟩ := hpre
 have hby : ∀ x ∈ b, 0 ≤ x ∧ x ≤ 255 := hf.2.2
 have hreg : ∀ i, i ≤ b.length → ∃ u, addR i b (bitsR v) = bitsR u := fun i hi => ⟨_, addR_val hby v i hi⟩
 repeat' (first
 | (intro (K' : KT) hK'; push_cast; (repeat' refine And.intro ?_ ?_); all_goals (first | (apply hK'; clear hK' K') | (refine ⟨trivial, trivial, ?_⟩; apply hK'; clear hK' K') | (intro hb; (try push_cast at hb); all_goals (intros; apply hK'; clear hK' K')) | (clear hK' K'; first | omega | skip)))
 | apply Qar | apply Qa0 | apply Qac | apply Qah | apply Qaj | apply Qau
 | apply Qap | apply Qax | apply Qas | apply Qaq | apply Qa1 | apply Qal | apply Qae rfl | apply Qa6 | apply Qa7 | apply Qam | apply Qaz | apply Qay
 | (refine Qaf ?_; push_cast) | apply Qag | refine Qaa (Qa3 _ (by omega) (by omega)) ?_ | refine Qaa (Qb0 _ (by omega) (by omega)) ?_ | refine Qaa (Qba _ (by omega) (by omega)) ?_ | refine Qaa (Qa5 _ (by omega) (by omega)) ?_
 | refine Qai rfl rfl ?_ | refine Qat rfl rfl ?_
 | (refine Qak (by push_cast; first | done | rfl) ?_ ?_ <;> intro hc <;> (try push_cast at hc))
 | refine Qaw rfl rfl rfl (by push_cast; first | done | rfl) ?_
 | refine Qav rfl rfl rfl (by push_cast; first | done | rfl) ?_ ?_
 | refine Qbf (id := 7) [0, 1, 2, 3, 4, 5] [6, 7] [2] (.or 6 (.or 7 (.done) (.stop)) (.stop)) wide (by kernel_rfl) ?_
 | apply Qby | apply Qbk | apply Qbn
 | refine Qbx rfl rfl rfl ?_ | refine Qbl rfl rfl rfl ?_
 | (refine Qbm rfl rfl rfl rfl ?_ ?_; rotate_left) | (refine Qbe rfl rfl rfl rfl ?_ ?_; rotate_left)
 | (refine Qbz rfl rfl rfl rfl ?_ ?_; rotate_left; focus (intro K' hK'; push_cast; (repeat' refine And.intro ?_ ?_); all_goals (first | (refine hK' _ _ _ _ _ (by push_cast) (by push_cast; first | done | rfl) ?_; clear hK' K') | (clear hK' K'; first | omega | skip))))
 | refine Qcc rfl rfl rfl rfl (by push_cast; first | done | rfl) ?_
 | refine Qcd rfl rfl rfl rfl (by push_cast; first | done | rfl) ?_ ?_
 | (intro (hc : (_ : Prop)); (try push_cast at hc)) | intro (hc : Qad) | intro (hc : Int) | intro (hc : Nat))
 refine Qbu [6, 7, 10, 11, 12, 13, 14, 15, 16, 17, 18, 19, 20, 21, 22, 23, 24, 25] [2, 22, 24] (fun (i : Nat) => i ≤ b.length) (fun (i : Nat) => [(10, .one (.l (.int .i64 i)))]) (fun (i : Nat) => [(2, .segs [.dat (.arr 32 (.int .i64)) (addR i b (bitsR v))])]) (fun (i : Nat) => b.length - i) 0 ?_ (by push_cast; first | done | rfl) (by push_cast; first | done | rfl) ?_ ?_
 ·omega
 ·push_cast
  first | done | rfl
 ·intro i hi
  push_cast
  intro hg
  obtain ⟨u, hu⟩ := hreg i hi
  have hstep : addR (i + 1) b (bitsR v) = inKR (b.getD i 0) 8 (addR i b (bitsR v)) := rfl
  rw [hu] at hstep
  rw [hu]
  have hc0 : (i : Int) < b.length → 0 ≤ b.getD i 0 ∧ b.getD i 0 ≤ 255 := fun h => hby _ (getD_mem b i 0 (by omega))
  repeat' (first
 | (intro (K' : KT) hK'; push_cast; (repeat' refine And.intro ?_ ?_); all_goals (first | (apply hK'; clear hK' K') | (refine ⟨trivial, trivial, ?_⟩; apply hK'; clear hK' K') | (intro hb; (try push_cast at hb); all_goals (intros; apply hK'; clear hK' K')) | (clear hK' K'; first | omega | skip)))
 | apply Qar | apply Qa0 | apply Qac | apply Qah | apply Qaj | apply Qau
 | apply Qap | apply Qax | apply Qas | apply Qaq | apply Qa1 | apply Qal | apply Qae rfl | apply Qa6 | apply Qa7 | apply Qam | apply Qaz | apply Qay
 | (refine Qaf ?_; push_cast) | apply Qag | refine Qaa (Qa3 _ (by omega) (by omega)) ?_ | refine Qaa (Qb0 _ (by omega) (by omega)) ?_ | refine Qaa (Qba _ (by omega) (by omega)) ?_ | refine Qaa (Qa5 _ (by omega) (by omega)) ?_
 | refine Qai rfl rfl ?_ | refine Qat rfl rfl ?_
 | (refine Qak (by push_cast; first | done | rfl) ?_ ?_ <;> intro hc <;> (try push_cast at hc))
 | refine Qaw rfl rfl rfl (by push_cast; first | done | rfl) ?_
 | refine Qav rfl rfl rfl (by push_cast; first | done | rfl) ?_ ?_
 | refine Qbf (id := 7) [0, 1, 2, 3, 4, 5] [6, 7] [2] (.or 6 (.or 7 (.done) (.stop)) (.stop)) wide (by kernel_rfl) ?_
 | apply Qby | apply Qbk | apply Qbn
 | refine Qbx rfl rfl rfl ?_ | refine Qbl rfl rfl rfl ?_
 | (refine Qbm rfl rfl rfl rfl ?_ ?_; rotate_left) | (refine Qbe rfl rfl rfl rfl ?_ ?_; rotate_left)
 | (refine Qbz rfl rfl rfl rfl ?_ ?_; rotate_left; focus (intro K' hK'; push_cast; (repeat' refine And.intro ?_ ?_); all_goals (first | (refine hK' _ _ _ _ _ (by push_cast) (by push_cast; first | done | rfl) ?_; clear hK' K') | (clear hK' K'; first | omega | skip))))
 | refine Qcc rfl rfl rfl rfl (by push_cast; first | done | rfl) ?_
 | refine Qcd rfl rfl rfl rfl (by push_cast; first | done | rfl) ?_ ?_
 | (intro (hc : (_ : Prop)); (try push_cast at hc)) | intro (hc : Qad) | intro (hc : Int) | intro (hc : Nat))
  ·have hc1 := hc0 ‹_›
   have hin : ∀ k, k ≤ 8 → inKR (b.getD i 0) k (bitsR u) = bitsR (inKV k u (byteV (b.getD i 0))) := fun k hk => inKR_val hc1 u k hk
   have hsh : ∀ k : Nat, k < 8 → (Qc8 .u8 (b.getD i 0) k).tmod 2 = bitOf ((byteV (b.getD i 0)).getLsbD k) := fun k hk => bit_byte hc1 hk
   generalize b.getD i 0 = c at *
   refine Qbu [7, 14, 15, 16, 17, 18, 19, 20, 21, 22, 23, 24] [2, 22, 24] (fun (k : Nat) => k ≤ 8) (fun (k : Nat) => [(7, .one (.l (.int .i64 k)))]) (fun (k : Nat) => [(2, .segs [.dat (.arr 32 (.int .i64)) (inKR c k (bitsR u))])]) (fun (k : Nat) => 8 - k) 0 ?_ (by push_cast; first | done | rfl) (by push_cast; first | done | rfl) ?_ ?_
   ·omega
   ·push_cast
    first | done | rfl
   ·intro k hk
    push_cast
    intro hg2
    have hbb : (k : Int) < 8 → 0 ≤ (Qc8 .u8 c k).tmod 2 ∧ (Qc8 .u8 c k).tmod 2 ≤ 1 := fun h => by
     rw [hsh k (by omega)]
     exact bitOf_bd _
    have hrb : ∀ x ∈ inKR c k (bitsR u), 0 ≤ x ∧ x ≤ 1 := by rw [hin k hk]; exact bits_bd _
    have hsb := (Qm7 _).1 (Qsa (b := (k : Int)) ((Qm7 c).2 hc1))
    have hwr : IntKind.i64.wrap (Qc8 .u8 c k) = Qc8 .u8 c k := Qa3 _ (by omega) (by omega)
    repeat' (first
 | (intro (K' : KT) hK'; push_cast; (repeat' refine And.intro ?_ ?_); all_goals (first | (apply hK'; clear hK' K') | (refine ⟨trivial, trivial, ?_⟩; apply hK'; clear hK' K') | (intro hb; (try push_cast at hb); all_goals (intros; apply hK'; clear hK' K')) | ((first | refine Qbi r07in_con (fun _ => rfl) ?_); push_cast; (repeat' refine And.intro ?_ ?_); all_goals (first | (apply hK'; clear hK' K') | (intros; apply hK'; clear hK' K') | (clear hK' K'; first | omega | skip))) | (clear hK' K'; first | omega | skip)))
 | apply Qar | apply Qa0 | apply Qac | apply Qah | apply Qaj | apply Qau
 | apply Qap | apply Qax | apply Qas | apply Qaq | apply Qa1 | apply Qal | apply Qae rfl | apply Qa6 | apply Qa7 | apply Qam | apply Qaz | apply Qay
 | (refine Qaf ?_; push_cast) | apply Qag | refine Qaa (Qa3 _ (by omega) (by omega)) ?_ | refine Qaa (Qb0 _ (by omega) (by omega)) ?_ | refine Qaa (Qba _ (by omega) (by omega)) ?_ | refine Qaa (Qa5 _ (by omega) (by omega)) ?_
 | refine Qai rfl rfl ?_ | refine Qat rfl rfl ?_
 | (refine Qak (by push_cast; first | done | rfl) ?_ ?_ <;> intro hc <;> (try push_cast at hc))
 | refine Qaw rfl rfl rfl (by push_cast; first | done | rfl) ?_
 | refine Qav rfl rfl rfl (by push_cast; first | done | rfl) ?_ ?_
 | refine Qbf (id := 7) [0, 1, 2, 3, 4, 5] [6, 7] [2] (.or 6 (.or 7 (.done) (.stop)) (.stop)) wide (by kernel_rfl) ?_
 | apply Qby | apply Qbk | apply Qbn
 | refine Qbx rfl rfl rfl ?_ | refine Qbl rfl rfl rfl ?_
 | (refine Qbm rfl rfl rfl rfl ?_ ?_; rotate_left) | (refine Qbe rfl rfl rfl rfl ?_ ?_; rotate_left)
 | (refine Qbz rfl rfl rfl rfl ?_ ?_; rotate_left; focus (intro K' hK'; push_cast; (repeat' refine And.intro ?_ ?_); all_goals (first | (refine hK' _ _ _ _ _ (by push_cast) (by push_cast; first | done | rfl) ?_; clear hK' K') | ((first | refine Qbi r07in_con (fun _ => rfl) ?_); push_cast; (repeat' refine And.intro ?_ ?_); all_goals (first | (refine hK' _ _ _ _ _ (by push_cast) (by push_cast; first | done | rfl) ?_; clear hK' K') | (intros; refine hK' _ _ _ _ _ (by push_cast) (by push_cast; first | done | rfl) ?_; clear hK' K') | (clear hK' K'; first | omega | skip))) | (clear hK' K'; first | omega | skip))))
 | refine Qcc rfl rfl rfl rfl (by push_cast; first | done | rfl) ?_
 | refine Qcd rfl rfl rfl rfl (by push_cast; first | done | rfl) ?_ ?_
 | (intro (hc : (_ : Prop)); (try push_cast at hc)) | intro (hc : Qad) | intro (hc : Int) | intro (hc : Nat))
    ·rw [hwr]; exact (hbb ‹_›).1
    ·rw [hwr]; exact (hbb ‹_›).2
    ·rw [hwr]
     refine Qbv (k + 1) (by omega) (by omega) ?_
     push_cast
     first | done | rfl
    ·have e8 : k = 8 := by omega
     subst e8
     refine Qbv (i + 1) (by omega) (by omega) ?_
     push_cast
     rw [hstep]
  ·have ei : i = b.length := by omega
   subst ei
   rw [hu]
theorem r07Add_con : Con Cx.P 125 (.pair (.arr 32 (.int .i64)) (.pair (.slice (.int .u8)) (.unit))) (fun x => (fun (r : List Int) (b : List Int) => regV r) x.1 x.2.1) (fun x => (fun (r : List Int) (b : List Int) => [.dat (.arr 32 (.int .i64)) (addR b.length b r)]) x.1 x.2.1) := ⟨Qrq, fun x h => r07Add_fn x.1 x.2.1 h⟩
theorem nuR_bd (v : BitVec 32) {c : Nat} (h : c < 32) : 0 ≤ nuR (bitsR v) c ∧ nuR (bitsR v) c ≤ 2147483647 := by
 rw [nuR_val v c (by omega)]
 have h1 : v.toNat / 2 ^ (32 - c) ≤ v.toNat / 2 := Nat.div_le_div_left (by
  obtain ⟨k, hk⟩ : ∃ k, 32 - c = k + 1 := ⟨31 - c, by omega⟩
  rw [hk, Nat.pow_succ]
  have := Nat.one_le_two_pow (n := k)
  omega) (by decide)
 have h2 : v.toNat < 2 ^ 32 := v.isLt
 generalize v.toNat / 2 ^ (32 - c) = q at *
 omega
theorem nuR_all (v : BitVec 32) : nuR (bitsR v) 32 = (v.toNat : Int) := by
 rw [nuR_val v 32 (Nat.le_refl _)]
 simp
theorem r07Number_fn (r : List Int) (hpre : regV r) : Qck Cx.P 124 [.dat (.arr 32 (.int .i64)) r] [.int .u32 (nuR r 32)] := by
 refine Qck.go2 (E := Cx.env) (fn := Try.f124) (res := [_]) Try.func124 Qsh rfl rfl rfl (by kernel_rfl) rfl ?_
 push_cast
 try intro hf
 obtain ⟨v, rfl⟩ := hpre
 have hlr := bitsR_len v
 repeat' (first
 | (intro (K' : KT) hK'; push_cast; (repeat' refine And.intro ?_ ?_); all_goals (first | (apply hK'; clear hK' K') | (refine ⟨trivial, trivial, ?_⟩; apply hK'; clear hK' K') | (intro hb; (try push_cast at hb); all_goals (intros; apply hK'; clear hK' K')) | (clear hK' K'; first | omega | skip)))
 | apply Qar | apply Qa0 | apply Qac | apply Qah | apply Qaj | apply Qau
 | apply Qap | apply Qax | apply Qas | apply Qaq | apply Qa1 | apply Qal | apply Qae rfl | apply Qa6 | apply Qa7 | apply Qam | apply Qaz | apply Qay
 | (refine Qaf ?_; push_cast) | apply Qag | refine Qaa (Qa3 _ (by omega) (by omega)) ?_ | refine Qaa (Qb0 _ (by omega) (by omega)) ?_ | refine Qaa (Qba _ (by omega) (by omega)) ?_ | refine Qaa (Qa5 _ (by omega) (by omega)) ?_
 | refine Qai rfl rfl ?_ | refine Qat rfl rfl ?_
 | (refine Qak (by push_cast; first | done | rfl) ?_ ?_ <;> intro hc <;> (try push_cast at hc))
 | refine Qaw rfl rfl rfl (by push_cast; first | done | rfl) ?_
 | refine Qav rfl rfl rfl (by push_cast; first | done | rfl) ?_ ?_
 | (intro (hc : (_ : Prop)); (try push_cast at hc)) | intro (hc : Qad) | intro (hc : Int) | intro (hc : Nat))
 refine Qbu [3, 4, 5, 6, 7, 8, 9, 10, 11, 12, 13, 14, 15] [14] (fun (c : Nat) => c ≤ 32) (fun (c : Nat) => [(4, .one (.l (.int .i64 (31 - (c : Int))))), (3, .one (.l (.int .u32 (nuR (bitsR v) c))))]) (fun (c : Nat) => []) (fun (c : Nat) => 32 - c) 0 ?_ (by push_cast; first | done | rfl) (by push_cast; first | done | rfl) ?_ ?_
 ·omega
 ·push_cast
  first | done | exact ⟨rfl, rfl⟩ | rfl
 ·intro c hc
  push_cast
  intro hg
  have hbd := fun h => nuR_bd v (c := c) h
  have hlt : ((31 : Int) - c).toNat = 31 - c := by omega
  have hb1 := bitOf_bd (v.getLsbD (31 - c))
  rw [← bitsR_get] at hb1
  have hst : nuR (bitsR v) (c + 1) = 2 * nuR (bitsR v) c + (bitsR v).getD (31 - c) 0 := rfl
  repeat' (first
 | (intro (K' : KT) hK'; push_cast; (repeat' refine And.intro ?_ ?_); all_goals (first | (apply hK'; clear hK' K') | (refine ⟨trivial, trivial, ?_⟩; apply hK'; clear hK' K') | (intro hb; (try push_cast at hb); all_goals (intros; apply hK'; clear hK' K')) | (clear hK' K'; first | omega | skip)))
 | apply Qar | apply Qa0 | apply Qac | apply Qah | apply Qaj | apply Qau
 | apply Qap | apply Qax | apply Qas | apply Qaq | apply Qa1 | apply Qal | apply Qae rfl | apply Qa6 | apply Qa7 | apply Qam | apply Qaz | apply Qay
 | (refine Qaf ?_; push_cast) | apply Qag | refine Qaa (Qa3 _ (by omega) (by omega)) ?_ | refine Qaa (Qb0 _ (by omega) (by omega)) ?_ | refine Qaa (Qba _ (by omega) (by omega)) ?_ | refine Qaa (Qa5 _ (by omega) (by omega)) ?_
 | refine Qai rfl rfl ?_ | refine Qat rfl rfl ?_
 | (refine Qak (by push_cast; first | done | rfl) ?_ ?_ <;> intro hc <;> (try push_cast at hc))
 | refine Qaw rfl rfl rfl (by push_cast; first | done | rfl) ?_
 | refine Qav rfl rfl rfl (by push_cast; first | done | rfl) ?_ ?_
 | (intro (hc : (_ : Prop)); (try push_cast at hc)) | intro (hc : Qad) | intro (hc : Int) | intro (hc : Nat))
  ·have hbd2 := hbd (by omega)
   rw [hlt, Qba ((bitsR v).getD (31 - c) 0) (by omega) (by omega), Qba _ (by omega) (by omega), ← hst]
   refine Qbv (c + 1) (by omega) (by omega) ?_
   push_cast
   first | done | omega | exact ⟨by omega, rfl⟩
  ·have e : c = 32 := by omega
   rw [e]
theorem r07Number_con : Con Cx.P 124 (.pair (.arr 32 (.int .i64)) (.unit)) (fun x => (fun (r : List Int) => regV r) x.1) (fun x => (fun (r : List Int) => [.int .u32 (nuR r 32)]) x.1) := ⟨Qsh, fun x h => r07Number_fn x.1 h⟩
theorem sum_val (v : BitVec 32) : sumN (v.toNat : Int) = 4294967295 - (v.toNat : Int) := by
 have e : sumN (v.toNat : Int) = Qcz .xor .u32 ((BitVec.allOnes 32).toNat : Int) (v.toNat : Int) := rfl
 rw [e, xor_val]
 have h2 : v.toNat < 2 ^ 32 := v.isLt
 have h3 : BitVec.allOnes 32 ^^^ v = ~~~v := by
  rw [BitVec.xor_comm, BitVec.xor_allOnes]
 rw [h3, BitVec.toNat_not]
 omega
theorem of_sum {b : List Int} (h : ∀ x ∈ b, 0 ≤ x ∧ x ≤ 255) : regV (addR b.length b (bitsR 4294967295#32)) ∧ 0 ≤ nuR (addR b.length b (bitsR 4294967295#32)) 32 ∧ nuR (addR b.length b (bitsR 4294967295#32)) 32 ≤ 4294967295 ∧
    4294967295 - nuR (addR b.length b (bitsR 4294967295#32)) 32 = sumN (addN 4294967295 b) := by
 have e := addR_val h 4294967295#32 b.length (Nat.le_refl _)
 rw [List.take_length] at e
 have e2 := addN_val b 4294967295#32 h
 have e3 : ((4294967295#32).toNat : Int) = 4294967295 := by decide
 rw [e3] at e2
 have h2 : (addV 4294967295#32 b).toNat < 2 ^ 32 := (addV 4294967295#32 b).isLt
 rw [e, e2, nuR_all, sum_val]
 exact ⟨⟨_, rfl⟩, by omega, by omega, rfl⟩
theorem r07Of_fn (b : List Int) : Qck Cx.P 117 [.dat (.slice (.int .u8)) b] [.int .u32 (sumN (addN 4294967295 b))] := by
 refine Qck.go2 (E := Cx.env) (fn := Try.f117) (res := [_]) Try.func117 Qra rfl rfl rfl (by kernel_rfl) rfl ?_
 push_cast
 try intro hf
 obtain ⟨h1, h2, h3, h4⟩ := of_sum hf.2
 have h0 : regV (bitsR 4294967295#32) := ⟨_, rfl⟩
 repeat' (first
 | (intro (K' : KT) hK'; push_cast; (repeat' refine And.intro ?_ ?_); all_goals (first | (apply hK'; clear hK' K') | (refine ⟨trivial, trivial, ?_⟩; apply hK'; clear hK' K') | (intro hb; (try push_cast at hb); all_goals (intros; apply hK'; clear hK' K')) | ((first | refine Qbi r07Start_con (fun _ => rfl) ?_ | refine Qbi r07Add_con (fun _ => rfl) ?_ | refine Qbi r07Number_con (fun _ => rfl) ?_); push_cast; (repeat' refine And.intro ?_ ?_); all_goals (first | (apply hK'; clear hK' K') | (intros; apply hK'; clear hK' K') | (clear hK' K'; first | omega | skip))) | (clear hK' K'; first | omega | skip)))
 | apply Qar | apply Qac | apply Qah | apply Qaj | apply Qau
 | apply Qap | apply Qax | apply Qas | apply Qam | apply Qaz | apply Qay
 | (refine Qaf ?_; push_cast) | apply Qag | refine Qaa (Qa3 _ (by omega) (by omega)) ?_ | refine Qaa (Qb0 _ (by omega) (by omega)) ?_ | refine Qaa (Qba _ (by omega) (by omega)) ?_ | refine Qaa (Qa5 _ (by omega) (by omega)) ?_
 | refine Qai rfl rfl ?_ | refine Qat rfl rfl ?_
 | (refine Qak (by push_cast; first | done | rfl) ?_ ?_ <;> intro hc <;> (try push_cast at hc))
 | refine Qaw rfl rfl rfl (by push_cast; first | done | rfl) ?_
 | refine Qav rfl rfl rfl (by push_cast; first | done | rfl) ?_ ?_
 | (intro (hc : (_ : Prop)); (try push_cast at hc)) | intro (hc : Qad) | intro (hc : Int) | intro (hc : Nat))
 exact h4
theorem r07Of_con : Con Cx.P 117 (.pair (.slice (.int .u8)) (.unit)) (fun x => (fun (b : List Int) => True) x.1) (fun x => (fun (b : List Int) => [.int .u32 (sumN (addN 4294967295 b))]) x.1) := ⟨Qra, fun x h => r07Of_fn x.1⟩
end
end Go.Proofs.Ytnmjcdlgfimnaaa
namespace Go.Proofs.Ytnmjcdlgfimnaaa
section
set_option linter.unusedSimpArgs false
set_option linter.unusedVariables false
set_option maxRecDepth 20000
attribute [local irreducible] Qb3 Qa9 vcA Qbp Wc
set_option maxHeartbeats 8000000
theorem sum_bd {b : List Int} (h : ∀ x ∈ b, 0 ≤ x ∧ x ≤ 255) : 0 ≤ sumN (addN 4294967295 b) ∧ sumN (addN 4294967295 b) ≤ 4294967295 := by
 obtain ⟨_, h2, h3, h4⟩ := of_sum h
 omega
theorem tail_val {n : Int} (h : 0 ≤ n ∧ n ≤ 4294967295) : tailN n = [n % 256, n / 256 % 256, n / 65536 % 256, n / 16777216] := by
 have hw : ∀ m : Int, IntKind.u8.wrap m = m % 256 := fun m => rfl
 have hs : ∀ k : Nat, Qc8 .u32 n ((8 * k : Nat) : Int) = n.fdiv (2 ^ min ((8 * k : Nat) : Int).toNat 32) := fun k => rfl
 have e1 : Qc8 .u32 n 8 = n / 256 := by rw [show Qc8 .u32 n 8 = n.fdiv 256 from rfl, Int.fdiv_eq_ediv_of_nonneg _ (by decide)]
 have e2 : Qc8 .u32 n 16 = n / 65536 := by rw [show Qc8 .u32 n 16 = n.fdiv 65536 from rfl, Int.fdiv_eq_ediv_of_nonneg _ (by decide)]
 have e3 : Qc8 .u32 n 24 = n / 16777216 := by rw [show Qc8 .u32 n 24 = n.fdiv 16777216 from rfl, Int.fdiv_eq_ediv_of_nonneg _ (by decide)]
 unfold tailN
 rw [hw, hw, hw, hw, e1, e2, e3]
 have : n / 16777216 % 256 = n / 16777216 := by omega
 rw [this]
theorem r07Close_fn (b : List Int) (hpre : b.length ≤ 1000000) : Qck Cx.P 98 [.dat (.slice (.int .u8)) b] [.dat (.slice (.int .u8)) (closeN b)] := by
 refine Qck.go2 (E := Cx.env) (fn := Try.f98) (res := [_]) Try.func98 Qui rfl rfl rfl (by kernel_rfl) rfl ?_
 push_cast
 try intro hf
 have hn := sum_bd hf.2
 have ht := tail_val hn
 have eres : closeN b = b ++ tailN (sumN (addN 4294967295 b)) := rfl
 rw [eres, ht]
 repeat' (first
 | (intro (K' : KT) hK'; push_cast; (repeat' refine And.intro ?_ ?_); all_goals (first | (apply hK'; clear hK' K') | (refine ⟨trivial, trivial, ?_⟩; apply hK'; clear hK' K') | (intro hb; (try push_cast at hb); all_goals (intros; apply hK'; clear hK' K')) | ((first | refine Qbi r07Of_con (fun _ => rfl) ?_); push_cast; (repeat' refine And.intro ?_ ?_); all_goals (first | (apply hK'; clear hK' K') | (intros; apply hK'; clear hK' K') | (clear hK' K'; first | omega | skip))) | (clear hK' K'; first | omega | skip)))
 | apply Qar | apply Qac | apply Qah | apply Qaj | apply Qau
 | apply Qap | apply Qax | apply Qas | apply Qam | apply Qaz | apply Qay
 | (refine Qaf ?_; push_cast) | apply Qag | refine Qaa (Qa3 _ (by omega) (by omega)) ?_ | refine Qaa (Qb0 _ (by omega) (by omega)) ?_ | refine Qaa (Qba _ (by omega) (by omega)) ?_ | refine Qaa (Qa5 _ (by omega) (by omega)) ?_
 | refine Qai rfl rfl ?_ | refine Qat rfl rfl ?_
 | (refine Qak (by push_cast; first | done | rfl) ?_ ?_ <;> intro hc <;> (try push_cast at hc))
 | refine Qaw rfl rfl rfl (by push_cast; first | done | rfl) ?_
 | refine Qav rfl rfl rfl (by push_cast; first | done | rfl) ?_ ?_
 | (intro (hc : (_ : Prop)); (try push_cast at hc)) | intro (hc : Qad) | intro (hc : Int) | intro (hc : Nat))
 generalize sumN (addN 4294967295 b) = n at *
 obtain ⟨h0, h1⟩ := hn
 have d1 : n.tdiv 256 = n / 256 := Int.tdiv_eq_ediv_of_nonneg h0
 have d2 : n.tdiv 65536 = n / 65536 := Int.tdiv_eq_ediv_of_nonneg h0
 have d3 : n.tdiv 16777216 = n / 16777216 := Int.tdiv_eq_ediv_of_nonneg h0
 rw [d1, d2, d3, Qba (n / 256) (by omega) (by omega), Qba (n / 65536) (by omega) (by omega), Qba (n / 16777216) (by omega) (by omega)]
 have m1 : n.tmod 256 = n % 256 := Int.tmod_eq_emod_of_nonneg h0
 have m2 : (n / 256).tmod 256 = n / 256 % 256 := Int.tmod_eq_emod_of_nonneg (by omega)
 have m3 : (n / 65536).tmod 256 = n / 65536 % 256 := Int.tmod_eq_emod_of_nonneg (by omega)
 rw [m1, m2, m3, Qb0 (n % 256) (by omega) (by omega), Qb0 (n / 256 % 256) (by omega) (by omega), Qb0 (n / 65536 % 256) (by omega) (by omega), Qb0 (n / 16777216) (by omega) (by omega)]
theorem r07Close_con : Con Cx.P 98 (.pair (.slice (.int .u8)) (.unit)) (fun x => (fun (b : List Int) => b.length ≤ 1000000) x.1) (fun x => (fun (b : List Int) => [.dat (.slice (.int .u8)) (closeN b)]) x.1) := ⟨Qui, fun x h => r07Close_fn x.1 h⟩
theorem toBytes_in : ∀ {l m : List Int}, (∀ x ∈ l, 0 ≤ x ∧ x ≤ 255) → (∀ x ∈ m, 0 ≤ x ∧ x ≤ 255) → Qcj l = Qcj m → l = m
 | [], [], _, _, _ => rfl
 | [], _ :: _, _, _, h => by simp [Qcj] at h
 | _ :: _, [], _, _, h => by simp [Qcj] at h
 | x :: l, y :: m, h1, h2, h => by
  simp only [Qcj, List.map_cons, List.cons.injEq] at h
  have hx := h1 x (by simp)
  have hy := h2 y (by simp)
  have e := congrArg UInt8.toNat h.1
  simp only [UInt8.toNat_ofNat'] at e
  have e2 : x = y := by omega
  rw [e2, toBytes_in (fun z hz => h1 z (by simp [hz])) (fun z hz => h2 z (by simp [hz])) h.2]
theorem crc_by (r : List Int) : ∀ x ∈ crcN r, 0 ≤ x ∧ x ≤ 255 := by
 intro x hx
 have h : ∀ n, 0 ≤ IntKind.u8.wrap n ∧ IntKind.u8.wrap n ≤ 255 := fun n => (Qm7 _).1 (Qdu .u8 n)
 simp only [crcN, tailN, List.mem_cons, List.not_mem_nil, or_false] at hx
 rcases hx with rfl | rfl | rfl | rfl <;> exact h _
theorem close_cmp {b : List Int} (hb : ∀ x ∈ b, 0 ≤ x ∧ x ≤ 255) {n : Nat} (h : n + 4 = b.length) : (Qcj (closeN (List.drop 0 (b.take n))) == Qcj b) = true ↔ crcN (b.take (b.length - 4)) = b.drop (b.length - 4) := by
 have en : b.length - 4 = n := by omega
 rw [en, List.drop_zero]
 have e : b = b.take n ++ b.drop n := (List.take_append_drop n b).symm
 rw [beq_iff_eq]
 constructor
 ·intro h1
  have h2 := toBytes_in (fun x hx => by
   simp only [closeN, List.mem_append] at hx
   rcases hx with hx | hx
   ·exact hb x (List.mem_of_mem_take hx)
   ·exact crc_by _ x hx) hb h1
  unfold closeN at h2
  rw [e] at h2
  have h3 := List.append_inj_right h2 (by rw [← e])
  rw [← e] at h3
  exact h3
 ·intro h1
  unfold closeN
  rw [h1, ← e]
theorem r07Open_fn (b : List Int) (hpre : b.length ≤ 1000000) : Qck Cx.P 118 [.dat (.slice (.int .u8)) b] [.dat (.slice (.int .u8)) (openN b).1, .bool (openN b).2] := by
 refine Qck.go2 (E := Cx.env) (fn := Try.f118) (res := [_, _]) Try.func118 Qrd rfl rfl rfl (by kernel_rfl) rfl ?_
 push_cast
 try intro hf
 repeat' (first
 | (intro (K' : KT) hK'; push_cast; (repeat' refine And.intro ?_ ?_); all_goals (first | (apply hK'; clear hK' K') | (refine ⟨trivial, trivial, ?_⟩; apply hK'; clear hK' K') | (intro hb; (try push_cast at hb); all_goals (intros; apply hK'; clear hK' K')) | (clear hK' K'; first | omega | skip)))
 | apply Qar | apply Qa0 | apply Qac | apply Qah | apply Qaj | apply Qau
 | apply Qap | apply Qax | apply Qas | apply Qaq | apply Qa1 | apply Qal | apply Qae rfl | apply Qa6 | apply Qa7 | apply Qam | apply Qaz | apply Qay
 | (refine Qaf ?_; push_cast) | apply Qag | refine Qaa (Qa3 _ (by omega) (by omega)) ?_ | refine Qaa (Qb0 _ (by omega) (by omega)) ?_ | refine Qaa (Qba _ (by omega) (by omega)) ?_ | refine Qaa (Qa5 _ (by omega) (by omega)) ?_
 | refine Qai rfl rfl ?_ | refine Qat rfl rfl ?_
 | (refine Qak (by push_cast; first | done | rfl) ?_ ?_ <;> intro hc <;> (try push_cast at hc))
 | refine Qaw rfl rfl rfl (by push_cast; first | done | rfl) ?_
 | refine Qav rfl rfl rfl (by push_cast; first | done | rfl) ?_ ?_
 | refine Qbf (id := 4) [0, 1, 2, 3, 4, 5, 6, 7, 8, 11, 12] [] [0] (.or 9 (.or 10 (.free 13 (.free 14 (.done))) (.stop)) (.stop)) wide (by kernel_rfl) ?_
 | apply Qby | apply Qbk | apply Qbn
 | refine Qbx rfl rfl rfl ?_ | refine Qbl rfl rfl rfl ?_
 | (refine Qbm rfl rfl rfl rfl ?_ ?_; rotate_left) | (refine Qbe rfl rfl rfl rfl ?_ ?_; rotate_left)
 | (refine Qbz rfl rfl rfl rfl ?_ ?_; rotate_left; focus (intro K' hK'; push_cast; (repeat' refine And.intro ?_ ?_); all_goals (first | (refine hK' _ _ _ _ _ (by push_cast) (by push_cast; first | done | rfl) ?_; clear hK' K') | (clear hK' K'; first | omega | skip))))
 | refine Qcc rfl rfl rfl rfl (by push_cast; first | done | rfl) ?_
 | refine Qcd rfl rfl rfl rfl (by push_cast; first | done | rfl) ?_ ?_
 | (intro (hc : (_ : Prop)); (try push_cast at hc)) | intro (hc : Qad) | intro (hc : Int) | intro (hc : Nat))
 refine Qbu [2, 3, 4, 7, 8, 9, 10, 11, 12, 13, 14, 15, 16, 17, 18, 19, 20, 21, 22, 23, 24, 25, 26, 27, 28] [13, 19, 20, 22] (fun (i : Nat) => i ≤ b.length ∧ (4 ≤ b.length → b.length < i + 4 → crcN (b.take (b.length - 4)) ≠ b.drop (b.length - 4))) (fun (i : Nat) => [(7, .one (.l (.int .i64 i)))]) (fun (i : Nat) => []) (fun (i : Nat) => b.length - i) 0 ?_ (by push_cast; first | done | rfl) (by push_cast; first | done | rfl) ?_ ?_
 ·exact ⟨Nat.zero_le _, fun h h2 => by omega⟩
 ·push_cast
  first | done | rfl
 ·rintro i ⟨hi, hno⟩
  push_cast
  intro hg
  have hby : ∀ x ∈ b, 0 ≤ x ∧ x ≤ 255 := hf.2
  have hw : (i : Int) < b.length → IntKind.i64.wrap ((i : Int) + 4) = (i : Int) + 4 := fun h => Qa3 _ (by omega) (by omega)
  repeat' (first
 | (intro (K' : KT) hK'; push_cast; (repeat' refine And.intro ?_ ?_); all_goals (first | (apply hK'; clear hK' K') | (refine ⟨trivial, trivial, ?_⟩; apply hK'; clear hK' K') | (intro hb; (try push_cast at hb); all_goals (intros; apply hK'; clear hK' K')) | ((first | refine Qbg r07Close_con (fun _ => rfl) ?_); push_cast; (repeat' refine And.intro ?_ ?_); all_goals (first | (apply hK'; clear hK' K') | (intros; apply hK'; clear hK' K') | (clear hK' K'; first | omega | skip))) | (clear hK' K'; first | omega | skip)))
 | apply Qar | apply Qa0 | apply Qac | apply Qah | apply Qaj | apply Qau
 | apply Qap | apply Qax | apply Qas | apply Qaq | apply Qa1 | apply Qal | apply Qae rfl | apply Qa6 | apply Qa7 | apply Qam | apply Qaz | apply Qay
 | (refine Qaf ?_; push_cast) | apply Qag | refine Qaa (Qa3 _ (by omega) (by omega)) ?_ | refine Qaa (Qb0 _ (by omega) (by omega)) ?_ | refine Qaa (Qba _ (by omega) (by omega)) ?_ | refine Qaa (Qa5 _ (by omega) (by omega)) ?_
 | refine Qai rfl rfl ?_ | refine Qat rfl rfl ?_
 | (refine Qak (by push_cast; first | done | rfl) ?_ ?_ <;> intro hc <;> (try push_cast at hc))
 | refine Qaw rfl rfl rfl (by push_cast; first | done | rfl) ?_
 | refine Qav rfl rfl rfl (by push_cast; first | done | rfl) ?_ ?_
 | refine Qbf (id := 4) [0, 1, 2, 3, 4, 5, 6, 7, 8, 11, 12] [] [0] (.or 9 (.or 10 (.free 13 (.free 14 (.done))) (.stop)) (.stop)) wide (by kernel_rfl) ?_
 | apply Qby | apply Qbk | apply Qbn
 | refine Qbx rfl rfl rfl ?_ | refine Qbl rfl rfl rfl ?_
 | (refine Qbm rfl rfl rfl rfl ?_ ?_; rotate_left) | (refine Qbe rfl rfl rfl rfl ?_ ?_; rotate_left)
 | (refine Qbz rfl rfl rfl rfl ?_ ?_; rotate_left; focus (intro K' hK'; push_cast; (repeat' refine And.intro ?_ ?_); all_goals (first | (refine hK' _ _ _ _ _ (by push_cast) (by push_cast; first | done | rfl) ?_; clear hK' K') | ((first | refine Qbg r07Close_con (fun _ => rfl) ?_); push_cast; (repeat' refine And.intro ?_ ?_); all_goals (first | (refine hK' _ _ _ _ _ (by push_cast) (by push_cast; first | done | rfl) ?_; clear hK' K') | (intros; refine hK' _ _ _ _ _ (by push_cast) (by push_cast; first | done | rfl) ?_; clear hK' K') | (clear hK' K'; first | omega | skip))) | (clear hK' K'; first | omega | skip))))
 | (refine Qec rfl rfl rfl rfl ?_ ?_; rotate_left; focus (intro K' hK'; push_cast; (repeat' refine And.intro ?_ ?_); all_goals (first | (refine hK' _ _ _ _ _ (by push_cast) (by push_cast; first | done | rfl) ?_; clear hK' K') | ((first | refine Qbg r07Close_con (fun _ => rfl) ?_); push_cast; (repeat' refine And.intro ?_ ?_); all_goals (first | (refine hK' _ _ _ _ _ (by push_cast) (by push_cast; first | done | rfl) ?_; clear hK' K') | (intros; refine hK' _ _ _ _ _ (by push_cast) (by push_cast; first | done | rfl) ?_; clear hK' K') | (clear hK' K'; first | omega | skip))) | (clear hK' K'; first | omega | skip))))
 | (refine Qdv rfl rfl rfl rfl (by push_cast; first | done | rfl) ?_)
 | refine Qdt rfl rfl rfl rfl (by push_cast; first | done | rfl) ?_ ?_
 | (refine Qed rfl rfl rfl rfl (by push_cast; first | done | rfl) ?_ ?_)
 | (refine Qeb rfl rfl rfl rfl rfl (by push_cast; first | done | rfl) ?_ ?_ ?_; focus (intro hc; (try push_cast at hc); all_goals (intro K' hK'; push_cast; (repeat' refine And.intro ?_ ?_); all_goals (first | (refine hK' _ _ _ _ _ (by push_cast) (by push_cast; first | done | rfl) ?_; clear hK' K') | ((first | refine Qbg r07Close_con (fun _ => rfl) ?_); push_cast; (repeat' refine And.intro ?_ ?_); all_goals (first | (refine hK' _ _ _ _ _ (by push_cast) (by push_cast; first | done | rfl) ?_; clear hK' K') | (intros; refine hK' _ _ _ _ _ (by push_cast) (by push_cast; first | done | rfl) ?_; clear hK' K') | (clear hK' K'; first | omega | skip))) | (clear hK' K'; first | omega | skip)))))
 | refine Qfd rfl rfl rfl rfl rfl (by push_cast; first | done | rfl) ?_ ?_ ?_
 | refine Qcc rfl rfl rfl rfl (by push_cast; first | done | rfl) ?_
 | refine Qcd rfl rfl rfl rfl (by push_cast; first | done | rfl) ?_ ?_
 | (intro (hc : (_ : Prop)); (try push_cast at hc)) | intro (hc : Qad) | intro (hc : Int) | intro (hc : Nat))
  ·rw [List.drop_zero, List.length_take]; omega
  ·have h4 : i + 4 = b.length := by have := hw ‹_›; omega
   have h5 := (close_cmp hby h4).1 ‹_›
   have en : b.length - 4 = i := by omega
   unfold openN
   rw [if_neg (by omega), if_pos h5, en, List.drop_zero]
   exact ⟨rfl, rfl⟩
  ·have h4 : i + 4 = b.length := by have := hw ‹_›; omega
   refine Qbv (i + 1) ⟨by omega, fun _ _ h => ?_⟩ (by omega) ?_
   ·have h5 := (close_cmp hby h4).2 h
    rw [h5] at hc
    simp at hc
   ·push_cast
  ·refine Qbv (i + 1) ⟨by omega, fun h1 h2 => ?_⟩ (by omega) ?_
   ·have h3 := hw ‹_›
    exact hno h1 (by omega)
   ·push_cast
  ·unfold openN
   by_cases h4 : (b.length : Int) - 4 < 0
   ·rw [if_pos h4]; exact ⟨rfl, rfl⟩
   ·rw [if_neg h4, if_neg (hno (by omega) (by omega))]
    exact ⟨rfl, rfl⟩
theorem r07Open_con : Con Cx.P 118 (.pair (.slice (.int .u8)) (.unit)) (fun x => (fun (b : List Int) => b.length ≤ 1000000) x.1) (fun x => (fun (b : List Int) => [.dat (.slice (.int .u8)) (openN b).1, .bool (openN b).2]) x.1) := ⟨Qrd, fun x h => r07Open_fn x.1 h⟩
end
end Go.Proofs.Ytnmjcdlgfimnaaa
