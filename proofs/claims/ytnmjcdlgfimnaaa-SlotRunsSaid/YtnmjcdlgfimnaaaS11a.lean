/- Chapter 7 in the document: a register bit by bit, and what the code has for it. -/
import Derived.Test.YtnmjcdlgfimnaaaC10b
namespace Go.Proofs.Ytnmjcdlgfimnaaa
def stepV (v : BitVec 32) : BitVec 32 := if v.getLsbD 0 then (v >>> 1) ^^^ 3988292384#32 else v >>> 1
def inV (v : BitVec 32) (bit : Bool) : BitVec 32 := if (v.getLsbD 0 ^^ bit) then (v >>> 1) ^^^ 3988292384#32 else v >>> 1
def stepKV : Nat → BitVec 32 → BitVec 32
  | 0, v => v
  | n + 1, v => stepKV n (stepV v)
def inKV : Nat → BitVec 32 → BitVec 32 → BitVec 32
  | 0, v, _ => v
  | n + 1, v, u => inKV n (inV v (u.getLsbD 0)) (u >>> 1)
theorem step_in (v u : BitVec 32) : stepV (v ^^^ u) = inV v (u.getLsbD 0) ^^^ (u >>> 1) := by
  unfold stepV inV
  rw [BitVec.getLsbD_xor, BitVec.ushiftRight_xor_distrib]
  cases (v.getLsbD 0 ^^ u.getLsbD 0)
  · simp
  · simp only [if_true]
    rw [BitVec.xor_assoc, BitVec.xor_assoc, BitVec.xor_comm (u >>> 1)]
theorem sh_sh (u : BitVec 32) (n : Nat) : u >>> 1 >>> n = u >>> (n + 1) := by
  apply BitVec.eq_of_toNat_eq
  simp only [BitVec.toNat_ushiftRight]
  rw [← Nat.shiftRight_add, Nat.add_comm]
theorem of_val (v : BitVec 32) : BitVec.ofInt 32 (v.toNat : Int) = v := by
  apply BitVec.eq_of_toNat_eq
  have h := v.isLt
  rw [BitVec.toNat_ofInt]
  omega
theorem stepK_in : ∀ (n : Nat) (v u : BitVec 32), stepKV n (v ^^^ u) = inKV n v u ^^^ (u >>> n)
  | 0, v, u => by simp [stepKV, inKV]
  | n + 1, v, u => by
    show stepKV n (stepV (v ^^^ u)) = inKV n (inV v (u.getLsbD 0)) (u >>> 1) ^^^ _
    rw [step_in, stepK_in n, sh_sh]
theorem xor_val (v w : BitVec 32) : bitsOp .xor .u32 (v.toNat : Int) (w.toNat : Int) = ((v ^^^ w).toNat : Int) := by
  unfold bitsOp
  have h1 : BitVec.ofInt IntKind.u32.bits (v.toNat : Int) = v := of_val v
  have h2 : BitVec.ofInt IntKind.u32.bits (w.toNat : Int) = w := of_val w
  simp only [h1, h2]
  have : (v ^^^ w).toNat < 2 ^ 32 := (v ^^^ w).isLt
  show IntKind.u32.wrap (((v ^^^ w).toNat : Nat) : Int) = _
  exact w_u32 _ (by omega) (by omega)
theorem shr_val (v : BitVec 32) : shrOp .u32 (v.toNat : Int) 1 = ((v >>> 1).toNat : Int) := by
  unfold shrOp
  have : (2 : Int) ^ min (1 : Int).toNat IntKind.u32.bits = 2 := by decide
  rw [this, BitVec.toNat_ushiftRight, Nat.shiftRight_eq_div_pow, Int.fdiv_eq_ediv_of_nonneg _ (by decide)]
  simp
theorem odd_val (v : BitVec 32) : ((v.toNat : Int).tmod 2 = 1) ↔ v.getLsbD 0 = true := by
  rw [Int.tmod_eq_emod_of_nonneg (by omega), BitVec.getLsbD, Nat.testBit_zero]
  simp only [decide_eq_true_eq]
  omega
theorem shiftN_val (v : BitVec 32) : shiftN (v.toNat : Int) = ((stepV v).toNat : Int) := by
  unfold shiftN stepV
  have ht : (3988292384 : Int) = ((3988292384#32).toNat : Int) := by decide
  rw [shr_val, ht, xor_val]
  by_cases h : (v.toNat : Int).tmod 2 = 1
  · rw [if_pos h, if_pos ((odd_val v).1 h)]
  · rw [if_neg h, if_neg (fun h2 => h ((odd_val v).2 h2))]
theorem shiftK_val : ∀ (n : Nat) (v : BitVec 32), shiftK n (v.toNat : Int) = ((stepKV n v).toNat : Int)
  | 0, _ => rfl
  | n + 1, v => by
    show shiftK n (shiftN _) = _
    rw [shiftN_val, shiftK_val n]
    rfl
def byteV (c : Int) : BitVec 32 := BitVec.ofNat 32 c.toNat
def addV : BitVec 32 → List Int → BitVec 32
  | v, [] => v
  | v, c :: l => addV (inKV 8 v (byteV c)) l
theorem addN_val : ∀ (b : List Int) (v : BitVec 32), (∀ x ∈ b, 0 ≤ x ∧ x ≤ 255) → addN (v.toNat : Int) b = ((addV v b).toNat : Int)
  | [], _, _ => rfl
  | c :: l, v, h => by
    have hc := h c (List.mem_cons_self ..)
    have e1 : IntKind.u32.wrap c = ((byteV c).toNat : Int) := by
      rw [w_u32 c (by omega) (by omega)]
      unfold byteV
      rw [BitVec.toNat_ofNat, Nat.mod_eq_of_lt (by omega)]
      omega
    have e2 : byteV c >>> 8 = 0#32 := by
      apply BitVec.eq_of_toNat_eq
      unfold byteV
      rw [BitVec.toNat_ushiftRight, Nat.shiftRight_eq_div_pow, BitVec.toNat_ofNat, Nat.mod_eq_of_lt (by omega)]
      simp
      omega
    show addN (shiftK 8 (bitsOp .xor .u32 _ _)) l = _
    rw [e1, xor_val, shiftK_val, addN_val l _ (fun x hx => h x (List.mem_cons_of_mem _ hx)), stepK_in, e2, BitVec.xor_zero]
    rfl
/-! As a list of ones and noughts. -/
theorem ifc {P Q : Prop} [Decidable P] [Decidable Q] {α : Type} {a b c d : α} (h : P ↔ Q) (h1 : a = c) (h2 : b = d) : (if P then a else b) = if Q then c else d := by
  subst h1 h2
  by_cases hp : P
  · rw [if_pos hp, if_pos (h.1 hp)]
  · rw [if_neg hp, if_neg (fun hq => hp (h.2 hq))]
def bitOf (b : Bool) : Int := if b then 1 else 0
def bitsR (v : BitVec 32) : List Int := (List.range 32).map fun i => bitOf (v.getLsbD i)
theorem bitsR_len (v : BitVec 32) : (bitsR v).length = 32 := by simp [bitsR]
theorem bitsR_get (v : BitVec 32) (i : Nat) : (bitsR v).getD i 0 = bitOf (v.getLsbD i) := by
  by_cases h : i < 32
  · simp [bitsR, List.getD_eq_getElem?_getD, h]
  · rw [List.getD_eq_getElem?_getD, List.getElem?_eq_none (by rw [bitsR_len]; omega), BitVec.getLsbD_of_ge _ _ (by omega)]
    rfl
theorem bitOf_bd (b : Bool) : 0 ≤ bitOf b ∧ bitOf b ≤ 1 := by cases b <;> decide
def sh1 (r : List Int) : Nat → List Int
  | 0 => List.replicate 32 0
  | i + 1 => (sh1 r i).set i (r.getD (i + 1) 0)
def fl2 (told : Int) (r : List Int) : Nat → List Int
  | 0 => sh1 r 31
  | i + 1 => if told = 1 ∧ (shrOp .i64 3988292384 i).tmod 2 = 1 then (fl2 told r i).set i (1 - (fl2 told r i).getD i 0) else fl2 told r i
def inR (r : List Int) (bit : Int) : List Int := fl2 ((r.getD 0 0 + bit).tmod 2) r 32
theorem sh1_len (r : List Int) : ∀ i, (sh1 r i).length = 32
  | 0 => by simp [sh1]
  | i + 1 => by simp [sh1, sh1_len r i]
theorem fl2_len (t : Int) (r : List Int) : ∀ i, (fl2 t r i).length = 32
  | 0 => sh1_len r 31
  | i + 1 => by
    unfold fl2
    split
    · rw [List.length_set, fl2_len t r i]
    · exact fl2_len t r i
theorem getD_set (l : List Int) (i j : Nat) (x : Int) (h : i < l.length) : (l.set i x).getD j 0 = if i = j then x else l.getD j 0 := by
  simp only [List.getD_eq_getElem?_getD, List.getElem?_set]
  split
  · subst_vars; simp [h]
  · rfl
theorem sh1_get (r : List Int) : ∀ i, i ≤ 31 → ∀ j, (sh1 r i).getD j 0 = if j < i then r.getD (j + 1) 0 else 0
  | 0, _, j => by
    simp only [sh1, List.getD_eq_getElem?_getD, List.getElem?_replicate]
    split <;> simp
  | i + 1, hi, j => by
    show ((sh1 r i).set i (r.getD (i + 1) 0)).getD j 0 = _
    rw [getD_set _ _ _ _ (by rw [sh1_len]; omega), sh1_get r i (by omega)]
    by_cases h : i = j
    · subst h; simp
    · by_cases h2 : j < i
      · rw [if_neg h, if_pos h2, if_pos (by omega)]
      · rw [if_neg h, if_neg h2, if_neg (by omega)]
theorem fl2_get (t : Int) (r : List Int) : ∀ i, i ≤ 32 → ∀ j, (fl2 t r i).getD j 0 = if j < i ∧ t = 1 ∧ (shrOp .i64 3988292384 j).tmod 2 = 1 then 1 - (sh1 r 31).getD j 0 else (sh1 r 31).getD j 0
  | 0, _, j => by simp [fl2]
  | i + 1, hi, j => by
    unfold fl2
    have ih := fl2_get t r i (by omega)
    by_cases hc : t = 1 ∧ (shrOp .i64 3988292384 i).tmod 2 = 1
    · rw [if_pos hc, getD_set _ _ _ _ (by rw [fl2_len]; omega), ih, ih]
      by_cases h : i = j
      · subst h
        rw [if_pos rfl, if_neg (by omega), if_pos ⟨by omega, hc⟩]
      · rw [if_neg h]
        refine ifc ⟨fun ⟨a, b⟩ => ⟨by omega, b⟩, fun ⟨a, b⟩ => ⟨by omega, b⟩⟩ rfl rfl
    · rw [if_neg hc, ih]
      refine ifc ⟨fun ⟨a, b⟩ => ⟨by omega, b⟩, fun ⟨a, b⟩ => ⟨?_, b⟩⟩ rfl rfl
      have : j ≠ i := fun h => hc (by subst h; exact b)
      omega
theorem taps_bit : ∀ j : Nat, j < 32 → ((shrOp .i64 3988292384 j).tmod 2 = 1 ↔ (3988292384#32).getLsbD j = true) := by decide
theorem fl2_bits (t : Bool) (v : BitVec 32) (i j : Nat) (hi : i ≤ 32) (hj : j < 32) : (fl2 (bitOf t) (bitsR v) i).getD j 0 = if j < i ∧ t = true ∧ (3988292384#32).getLsbD j = true then 1 - bitOf ((v >>> 1).getLsbD j) else bitOf ((v >>> 1).getLsbD j) := by
  have e : (sh1 (bitsR v) 31).getD j 0 = bitOf ((v >>> 1).getLsbD j) := by
    rw [sh1_get _ _ (by omega), BitVec.getLsbD_ushiftRight, Nat.add_comm 1 j]
    by_cases h : j < 31
    · rw [if_pos h, bitsR_get]
    · rw [if_neg h, BitVec.getLsbD_of_ge _ _ (by omega)]
      rfl
  have e2 : (bitOf t = 1) ↔ t = true := by cases t <;> decide
  rw [fl2_get _ _ _ hi, e]
  refine ifc ?_ rfl rfl
  exact ⟨fun ⟨a, b, c⟩ => ⟨a, e2.1 b, (taps_bit j hj).1 c⟩, fun ⟨a, b, c⟩ => ⟨a, e2.2 b, (taps_bit j hj).2 c⟩⟩
theorem inR_val (v : BitVec 32) (b : Bool) : inR (bitsR v) (bitOf b) = bitsR (inV v b) := by
  have et : ((bitsR v).getD 0 0 + bitOf b).tmod 2 = bitOf (v.getLsbD 0 ^^ b) := by
    rw [bitsR_get]
    cases v.getLsbD 0 <;> cases b <;> decide
  unfold inR
  rw [et]
  refine List.ext_getElem (by rw [fl2_len, bitsR_len]) fun j h1 h2 => ?_
  rw [fl2_len] at h1
  have e1 := fl2_bits (v.getLsbD 0 ^^ b) v 32 j (Nat.le_refl _) h1
  have e2 := bitsR_get (inV v b) j
  rw [List.getD_eq_getElem?_getD, List.getElem?_eq_getElem (by rw [fl2_len]; exact h1), Option.getD_some] at e1
  rw [List.getD_eq_getElem?_getD, List.getElem?_eq_getElem h2, Option.getD_some] at e2
  rw [e1, e2]
  unfold inV
  cases (v.getLsbD 0 ^^ b)
  · simp
  · simp only [h1, true_and, if_true, BitVec.getLsbD_xor]
    cases (v >>> 1).getLsbD j <;> cases (3988292384#32).getLsbD j <;> decide
def inKR (c : Int) : Nat → List Int → List Int
  | 0, r => r
  | k + 1, r => inR (inKR c k r) ((shrOp .u8 c k).tmod 2)
def addR : Nat → List Int → List Int → List Int
  | 0, _, r => r
  | i + 1, b, r => inKR (b.getD i 0) 8 (addR i b r)
theorem inKV_succ : ∀ (k : Nat) (v u : BitVec 32), inKV (k + 1) v u = inV (inKV k v u) (u.getLsbD k)
  | 0, _, _ => rfl
  | k + 1, v, u => by
    show inKV (k + 1) (inV v (u.getLsbD 0)) (u >>> 1) = _
    rw [inKV_succ k, BitVec.getLsbD_ushiftRight, Nat.add_comm 1 k]
    rfl
theorem bit_byte {c : Int} (h : 0 ≤ c ∧ c ≤ 255) {k : Nat} (hk : k < 8) : (shrOp .u8 c k).tmod 2 = bitOf ((byteV c).getLsbD k) := by
  obtain ⟨n, rfl⟩ : ∃ n : Nat, c = n := ⟨c.toNat, by omega⟩
  have e : shrOp .u8 (n : Int) k = ((n / 2 ^ k : Nat) : Int) := by
    unfold shrOp
    have : min (k : Int).toNat IntKind.u8.bits = k := by
      have : IntKind.u8.bits = 8 := rfl
      omega
    rw [this, Int.fdiv_eq_ediv_of_nonneg _ (by exact Int.pow_nonneg (by decide))]
    norm_cast
  rw [e, Int.tmod_eq_emod_of_nonneg (Int.natCast_nonneg _)]
  unfold byteV
  rw [BitVec.getLsbD_ofNat, Int.toNat_natCast, Nat.testBit_eq_decide_div_mod_eq]
  generalize n / 2 ^ k = q
  have h32 : k < 32 := by omega
  simp only [h32, decide_true, Bool.true_and]
  unfold bitOf
  have : q % 2 = 0 ∨ q % 2 = 1 := by omega
  rcases this with h | h <;> simp [h] <;> omega
theorem inKR_val {c : Int} (h : 0 ≤ c ∧ c ≤ 255) (v : BitVec 32) : ∀ k, k ≤ 8 → inKR c k (bitsR v) = bitsR (inKV k v (byteV c))
  | 0, _ => rfl
  | k + 1, hk => by
    show inR (inKR c k (bitsR v)) _ = _
    rw [inKR_val h v k (by omega), bit_byte h (by omega), inR_val, inKV_succ]
theorem addV_snoc : ∀ (b : List Int) (v : BitVec 32) (c : Int), addV v (b ++ [c]) = inKV 8 (addV v b) (byteV c)
  | [], _, _ => rfl
  | x :: l, v, c => addV_snoc l _ c
theorem addR_val {b : List Int} (h : ∀ x ∈ b, 0 ≤ x ∧ x ≤ 255) (v : BitVec 32) : ∀ i, i ≤ b.length → addR i b (bitsR v) = bitsR (addV v (b.take i))
  | 0, _ => by simp [addR, addV]
  | i + 1, hi => by
    show inKR (b.getD i 0) 8 (addR i b (bitsR v)) = _
    have hm : b.getD i 0 ∈ b := getD_mem b i 0 (by omega)
    rw [addR_val h v i (by omega), inKR_val (h _ hm) _ 8 (Nat.le_refl _), take_succ_getD b i 0 (by omega), addV_snoc]
def nuR (r : List Int) : Nat → Int
  | 0 => 0
  | c + 1 => 2 * nuR r c + r.getD (31 - c) 0
theorem nuR_val (v : BitVec 32) : ∀ c, c ≤ 32 → nuR (bitsR v) c = ((v.toNat / 2 ^ (32 - c) : Nat) : Int)
  | 0, _ => by
    have := v.isLt
    rw [Nat.div_eq_of_lt (by simpa using this)]
    rfl
  | c + 1, hc => by
    show 2 * nuR (bitsR v) c + _ = _
    rw [nuR_val v c (by omega), bitsR_get]
    obtain ⟨k, hk⟩ : ∃ k, 31 - c = k := ⟨_, rfl⟩
    have e1 : 32 - c = k + 1 := by omega
    have e2 : 32 - (c + 1) = k := by omega
    rw [e1, e2, hk, BitVec.getLsbD, Nat.testBit_eq_decide_div_mod_eq, Nat.pow_succ, ← Nat.div_div_eq_div_mul]
    generalize v.toNat / 2 ^ k = q
    unfold bitOf
    have : q % 2 = 0 ∨ q % 2 = 1 := by omega
    rcases this with h | h <;> simp [h] <;> omega
end Go.Proofs.Ytnmjcdlgfimnaaa
