/- Chapter 12: disks with a fuse, as plain law: a torn stamp, and what a fuse does not change. -/
import Derived.Test.YtnmjcdlgfimnaaaJ1
import Derived.Test.YtnmjcdlgfimnaaaC10j
namespace Go.Proofs.Ytnmjcdlgfimnaaa
theorem numK_s (s : List Int) (i : Nat) : numK s (i + 1) = numK s i * 256 + s.getD (63 - i) 0 := rfl
theorem numK_cong {s t : List Int} : ∀ (i : Nat), i ≤ 8 → (∀ j, 64 - i ≤ j → j < 64 → s.getD j 0 = t.getD j 0) → numK s i = numK t i
 | 0, _, _ => rfl
 | i + 1, hi, h => by
  rw [numK_s, numK_s, numK_cong i (by omega) (fun j h1 h2 => h j (by omega) h2), h (63 - i) (by omega) (by omega)]
theorem byte_at {s : List Int} (h : SecOk s) {j : Nat} (hj : j < 64) : 0 ≤ s.getD j 0 ∧ s.getD j 0 ≤ 255 := by
 have hl := h.1
 rw [List.getD_eq_getElem?_getD, List.getElem?_eq_getElem (by omega)]
 exact h.2 _ (List.getElem_mem _)
theorem numK_mix {n : Nat} {old new : List Int} (ho : SecOk old) (hn : SecOk new) (hnn : n ≤ 64) (hle : numK old 8 ≤ numK new 8) : numK (mixTo n old new) 8 ≤ numK new 8 := by
 have hg : ∀ j, j < 64 → (mixTo n old new).getD j 0 = if j < n then new.getD j 0 else old.getD j 0 := fun j hj => mix_get n _ _ ho.1 hn.1 hnn j hj
 by_cases h56 : n ≤ 56
 ·have : numK (mixTo n old new) 8 = numK old 8 := numK_congr fun j h5 h6 => by rw [hg j h6, if_neg (by omega)]
  omega
 by_cases h64 : n = 64
 ·have : numK (mixTo n old new) 8 = numK new 8 := numK_congr fun j h5 h6 => by rw [hg j h6, if_pos (by omega)]
  omega
 have chain : ∀ s : List Int, numK s 8 = numK s 7 * 256 + s.getD 56 0 ∧ numK s 7 = numK s 6 * 256 + s.getD 57 0 ∧ numK s 6 = numK s 5 * 256 + s.getD 58 0 ∧ numK s 5 = numK s 4 * 256 + s.getD 59 0 ∧ numK s 4 = numK s 3 * 256 + s.getD 60 0 ∧ numK s 3 = numK s 2 * 256 + s.getD 61 0 ∧ numK s 2 = numK s 1 * 256 + s.getD 62 0 := fun s => ⟨rfl, rfl, rfl, rfl, rfl, rfl, rfl⟩
 obtain ⟨a1, a2, a3, a4, a5, a6, a7⟩ := chain old
 obtain ⟨b1, b2, b3, b4, b5, b6, b7⟩ := chain new
 obtain ⟨c1, c2, c3, c4, c5, c6, c7⟩ := chain (mixTo n old new)
 have hob := fun j hj => byte_at ho (j := j) hj
 have hnb := fun j hj => byte_at hn (j := j) hj
 have o56 := hob 56 (by decide)
 have o57 := hob 57 (by decide)
 have o58 := hob 58 (by decide)
 have o59 := hob 59 (by decide)
 have o60 := hob 60 (by decide)
 have o61 := hob 61 (by decide)
 have o62 := hob 62 (by decide)
 have n56 := hnb 56 (by decide)
 have n57 := hnb 57 (by decide)
 have n58 := hnb 58 (by decide)
 have n59 := hnb 59 (by decide)
 have n60 := hnb 60 (by decide)
 have n61 := hnb 61 (by decide)
 have n62 := hnb 62 (by decide)
 have g56 := hg 56 (by decide)
 have g57 := hg 57 (by decide)
 have g58 := hg 58 (by decide)
 have g59 := hg 59 (by decide)
 have g60 := hg 60 (by decide)
 have g61 := hg 61 (by decide)
 have g62 := hg 62 (by decide)
 have hk : ∀ i, i ≤ 8 → n ≤ 64 - i → numK (mixTo n old new) i = numK old i := fun i h1 h2 => numK_cong i h1 fun j h3 h4 => by rw [hg j h4, if_neg (by omega)]
 have hcase : n = 57 ∨ n = 58 ∨ n = 59 ∨ n = 60 ∨ n = 61 ∨ n = 62 ∨ n = 63 := by omega
 rcases hcase with rfl | rfl | rfl | rfl | rfl | rfl | rfl
 ·have := hk 7 (by decide) (by decide)
  simp only [show (56 < 57) = True by decide, if_true] at g56
  omega
 ·have := hk 6 (by decide) (by decide)
  simp only [show (56 < 58) = True by decide, show (57 < 58) = True by decide, if_true] at g56 g57
  omega
 ·have := hk 5 (by decide) (by decide)
  simp only [show (56 < 59) = True by decide, show (57 < 59) = True by decide, show (58 < 59) = True by decide, if_true] at g56 g57 g58
  omega
 ·have := hk 4 (by decide) (by decide)
  simp only [show (56 < 60) = True by decide, show (57 < 60) = True by decide, show (58 < 60) = True by decide, show (59 < 60) = True by decide, if_true] at g56 g57 g58 g59
  omega
 ·have := hk 3 (by decide) (by decide)
  simp only [show (56 < 61) = True by decide, show (57 < 61) = True by decide, show (58 < 61) = True by decide, show (59 < 61) = True by decide, show (60 < 61) = True by decide, if_true] at g56 g57 g58 g59 g60
  omega
 ·have := hk 2 (by decide) (by decide)
  simp only [show (56 < 62) = True by decide, show (57 < 62) = True by decide, show (58 < 62) = True by decide, show (59 < 62) = True by decide, show (60 < 62) = True by decide, show (61 < 62) = True by decide, if_true] at g56 g57 g58 g59 g60 g61
  omega
 ·have := hk 1 (by decide) (by decide)
  simp only [show (56 < 63) = True by decide, show (57 < 63) = True by decide, show (58 < 63) = True by decide, show (59 < 63) = True by decide, show (60 < 63) = True by decide, show (61 < 63) = True by decide, show (62 < 63) = True by decide, if_true] at g56 g57 g58 g59 g60 g61 g62
  omega
def calm (D : Qab) : Qab := { D with Burns := -1, Dead := false }
def calmL (L : LogS) : LogS := ⟨calm L.D, L.a, L.e, L.st⟩
theorem calm_top (D : Qab) (a e : Int) : topN (calm D) a e = topN D a e := by
 have h : ∀ (n : Nat) (i t : Int), sTop (calm D) n i t = sTop D n i t := by
  intro n
  induction n with
  | zero => intro i t; rfl
  | succ n ih =>
   intro i t
   show (if (dGet D i).2 ≠ 0 then _ else _) = (if (dGet D i).2 ≠ 0 then _ else _)
   split
   ·rfl
   ·exact ih _ _
 exact h _ _ _
theorem calm_slRead (D : Qab) (k z : Int) : slRead (calm D) k z = slRead D k z := rfl
theorem calm_next (D : Qab) (k z : Int) : nextG (calm D) k z = nextG D k z := by
 unfold nextG
 rw [calm_top, calm_slRead]
end Go.Proofs.Ytnmjcdlgfimnaaa
namespace Go.Proofs.Ytnmjcdlgfimnaaa
theorem disk_ext {D E : Qab} (h1 : D.Base = E.Base) (h2 : D.Queue = E.Queue) (h3 : D.Burns = E.Burns) (h4 : D.Dead = E.Dead) : D = E := by
 cases D; cases E; simp only at h1 h2 h3 h4; subst h1 h2 h3 h4; rfl
theorem calm_burns (D : Qab) : (calm D).Burns < 0 := by show (-1 : Int) < 0; decide
theorem put_sim {D : Qab} {a st : Int} {b : List Int} (hst : st ≠ 0) (hsp : spanN b.length ≠ 0) (h0 : 0 ≤ a) (h1 : a + spanN b.length ≤ D.Base.length) :
    ((sPut D a st b).2 = 0 ∧ (sPut D a st b).1.Base = D.Base ∧ (sPut D a st b).1.Queue = D.Queue ++ itemsAt a (secsN st b) ∧ calm (sPut D a st b).1 = (sPut (calm D) a st b).1 ∧ (sPut (calm D) a st b).2 = 0) ∨
    ((sPut D a st b).2 = 82 ∧ (sPut D a st b).1.Base = D.Base ∧ (sPut D a st b).1.Dead = true ∧ ∃ j, (sPut D a st b).1.Queue = D.Queue ++ itemsAt a ((secsN st b).take j)) := by
 have hbd := spanN_bd b.length
 have eput : sPut D a st b = putAll D a (secsN st b) := by
  unfold sPut
  rw [if_neg (by rintro (h | h); exact hst h; exact hsp h), if_neg (by omega)]
 have hll : ((secsN st b).length : Int) = spanN b.length := by rw [secsN_len]; omega
 obtain ⟨j, hj, p1, p2, p3⟩ := putAll_gen (secsN st b) D a h0 (by omega)
 rw [← eput] at p1 p2 p3
 rcases p3 with ⟨p3, p4⟩ | ⟨p3, p4⟩
 ·left
  rw [List.take_of_length_le (by omega)] at p2
  have hl := sPut_live (D := calm D) (k := a) (st := st) (b := b) (calm_burns D) rfl hst hsp h0 h1
  rw [hl]
  exact ⟨p3, p1, p2, disk_ext p1 p2 rfl rfl, rfl⟩
 ·right
  exact ⟨p3, p1, p4, j, p2⟩
theorem flush_calm (X : Qab) : dFlush (calm X) = (⟨landAll (fun _ => 64) 0 X.Queue X.Base, [], -1, false⟩, 0) := by
 unfold dFlush
 rw [spend_live (D := calm X) (calm_burns X) rfl]
 rfl
theorem slw_sim {D : Qab} {k z : Int} {c : List Int} (hr : rightB D k z = true) (hc : spanN (closeN c).length ≠ 0 ∧ spanN (closeN c).length ≤ z) (hg : nextG D k z ≠ 0) :
    ((slWrite D k z c).2 = (nextG D k z, 0) ∧ calm (slWrite D k z c).1 = (slWrite (calm D) k z c).1 ∧ (slWrite D k z c).1.Base = landAll (fun _ => 64) 0 (D.Queue ++ itemsAt (k + z * (nextG D k z % 2)) (secsN (nextG D k z) (closeN c))) D.Base) ∨
    ((slWrite D k z c).2 = (0, 82) ∧ (slWrite D k z c).1.Base = D.Base ∧ (slWrite D k z c).1.Dead = true ∧ ∃ j, (slWrite D k z c).1.Queue = D.Queue ++ itemsAt (k + z * (nextG D k z % 2)) ((secsN (nextG D k z) (closeN c)).take j)) := by
 obtain ⟨r1, r2, r3, r4⟩ := rightB_iff.1 hr
 have hp : 0 ≤ z * (nextG D k z % 2) ∧ z * (nextG D k z % 2) + z ≤ 2 * z := by
  have : nextG D k z % 2 = 0 ∨ nextG D k z % 2 = 1 := by omega
  rcases this with e | e <;> rw [e] <;> omega
 have ha : rightB D k z = true ∧ spanN (closeN c).length ≠ 0 ∧ spanN (closeN c).length ≤ z := ⟨hr, hc.1, hc.2⟩
 have ha2 : rightB (calm D) k z = true ∧ spanN (closeN c).length ≠ 0 ∧ spanN (closeN c).length ≤ z := ⟨hr, hc.1, hc.2⟩
 rcases put_sim (D := D) (a := k + z * (nextG D k z % 2)) (st := nextG D k z) (b := closeN c) hg hc.1 (by omega) (by omega) with ⟨p1, p2, p3, p4, p5⟩ | ⟨p1, p2, p3, j, p4⟩
 ·rcases flush_gen (sPut D (k + z * (nextG D k z % 2)) (nextG D k z) (closeN c)).1 with ⟨f1, f2, f3⟩ | ⟨f1, f2, f3, f4⟩
  ·left
   have e : slWrite D k z c = ((dFlush (sPut D (k + z * (nextG D k z % 2)) (nextG D k z) (closeN c)).1).1, nextG D k z, 0) := by
    unfold slWrite slPutD
    rw [if_pos ha, if_neg (by simpa using p1), if_neg (by simpa using f1)]
   have fc : dFlush (sPut (calm D) (k + z * (nextG D k z % 2)) (nextG D k z) (closeN c)).1 = (⟨landAll (fun _ => 64) 0 (sPut D (k + z * (nextG D k z % 2)) (nextG D k z) (closeN c)).1.Queue (sPut D (k + z * (nextG D k z % 2)) (nextG D k z) (closeN c)).1.Base, [], -1, false⟩, 0) := by
    rw [← p4, flush_calm]
   have e2 : slWrite (calm D) k z c = ((dFlush (sPut (calm D) (k + z * (nextG D k z % 2)) (nextG D k z) (closeN c)).1).1, nextG D k z, 0) := by
    unfold slWrite slPutD
    rw [calm_next, if_pos ha2, if_neg (by simpa using p5), if_neg (by rw [fc]; simp)]
   rw [e, e2]
   refine ⟨rfl, ?_, ?_⟩
   ·simp only
    rw [fc]
    exact disk_ext f2 f3 rfl rfl
   ·simp only
    rw [f2, p3, p2]
  ·right
   have e : slWrite D k z c = ((dFlush (sPut D (k + z * (nextG D k z % 2)) (nextG D k z) (closeN c)).1).1, 0, 82) := by
    unfold slWrite slPutD
    rw [if_pos ha, if_neg (by simpa using p1), if_pos (by rw [f1]; decide), f1]
   rw [e]
   refine ⟨rfl, f2.trans p2, f4, (secsN (nextG D k z) (closeN c)).length, ?_⟩
   rw [List.take_of_length_le (Nat.le_refl _)]
   exact f3.trans p3
 ·right
  have e : slWrite D k z c = ((sPut D (k + z * (nextG D k z % 2)) (nextG D k z) (closeN c)).1, 0, 82) := by
   unfold slWrite slPutD
   rw [if_pos ha, if_pos (by rw [p1]; decide), p1]
  rw [e]
  exact ⟨rfl, p2, p3, j, p4⟩
theorem sec_land {base : List (List Int)} {a : Int} {l : List (List Int)} (h0 : 0 ≤ a) (hok : ∀ s ∈ base, SecOk s) (hl : ∀ s ∈ l, SecOk s) (hfit : a + l.length ≤ base.length) (many : Nat → Int) : ∀ s ∈ landAll many 0 (itemsAt a l) base, SecOk s := by
 obtain ⟨p, rfl⟩ : ∃ p : Nat, a = p := ⟨a.toNat, by omega⟩
 exact (land_facts many rfl hok p l hl (by omega)).2.1
structure JF (J : JourS) (m : Nat) (g fl : Int) (c : List Int) (rs : List (List Int)) : Prop where
 ok : JOk ⟨calmL J.L, J.z, J.r⟩ m g fl c rs
 sec : ∀ s ∈ J.L.D.Base, SecOk s
end Go.Proofs.Ytnmjcdlgfimnaaa
namespace Go.Proofs.Ytnmjcdlgfimnaaa
end Go.Proofs.Ytnmjcdlgfimnaaa
namespace Go.Proofs.Ytnmjcdlgfimnaaa
theorem numB_bytes (n : Nat) : ∀ x ∈ numB n, 0 ≤ x ∧ x ≤ 255 := by
 induction n using Nat.strongRecOn with
 | ind n ih =>
  intro x hx
  by_cases h : n < 128
  ·rw [numB_low h] at hx
   simp only [List.mem_singleton] at hx
   omega
  ·rw [numB_high h] at hx
   simp only [List.mem_cons] at hx
   rcases hx with rfl | hx
   ·omega
   ·exact ih (n / 128) (by omega) x hx
theorem cont_bytes {n : Nat} {c : List Int} (hc : ∀ x ∈ c, 0 ≤ x ∧ x ≤ 255) : ∀ x ∈ closeN (numB n ++ c), 0 ≤ x ∧ x ≤ 255 := by
 refine close_bytes fun x hx => ?_
 simp only [List.mem_append] at hx
 rcases hx with h | h
 ·exact numB_bytes n x h
 ·exact hc x h
theorem jCom_eq (J : JourS) (c : List Int) : jCom J c = ⟨openL (slWrite J.L.D 0 J.z (numB (J.L.st - 1).toNat ++ c)).1 (2 * J.z) J.L.D.Base.length (J.L.st - 1), J.z, true⟩ := by
 unfold jCom
 rw [slWrite_len]
theorem power_quiet {D : Qab} (hq : D.Queue = []) (keep : List Int) : dPower D keep = calm D := by
 unfold dPower calm
 rw [hq]
 rfl
theorem torn_facts {D X : Qab} {m : Nat} (hbase : D.Base.length = m) (hdq : D.Queue = []) (hsec : ∀ s ∈ D.Base, SecOk s) {a : Int} {l : List (List Int)} (h0 : 0 ≤ a) (hl : ∀ s ∈ l, SecOk s) (hfit : a + l.length ≤ m) (hX : X.Base = D.Base) {j : Nat}
    (hq : X.Queue = itemsAt a (l.take j)) (keep : List Int) : Quiet (dPower X keep) m ∧ (∀ s ∈ (dPower X keep).Base, SecOk s) ∧ (∀ i : Int, 0 ≤ i → i < m → (i < a ∨ a + l.length ≤ i) → secAt (dPower X keep) i = secAt D i) ∧
     ∀ i : Nat, i < l.length → ∃ n, n ≤ 64 ∧ SecOk (secAt D (a + i)) ∧ secAt (dPower X keep) (a + i) = mixTo n (secAt D (a + i)) (l.getD i []) := by
 obtain ⟨p, hp0⟩ : ∃ p : Nat, a = p := ⟨a.toNat, by omega⟩
 have hll : (l.take j).length = min j l.length := List.length_take
 obtain ⟨f1, f2, f3, f4⟩ := land_facts (keepAt keep) hbase hsec p (l.take j) (fun s hs => hl s (List.mem_of_mem_take hs)) (by rw [hll]; omega)
 generalize hE0 : dPower X keep = E
 have hE : E.Base = landAll (keepAt keep) 0 (itemsAt p (l.take j)) D.Base := by
  rw [← hE0]
  simp only [dPower, hq, hX, hp0]
 have hEq : E.Queue = [] := by rw [← hE0]; rfl
 have hEl : E.Base.length = m := by rw [hE]; exact f1
 have hEok : ∀ s ∈ E.Base, SecOk s := by rw [hE]; exact f2
 refine ⟨⟨by rw [← hE0]; show (-1 : Int) < 0; decide, by rw [← hE0]; rfl, hEl, hEq, fun s hs => (hEok s hs).1⟩, hEok, fun i h5 h6 h7 => ?_, fun i hi => ?_⟩
 ·obtain ⟨i, rfl⟩ : ∃ n : Nat, i = n := ⟨i.toNat, by omega⟩
  rw [get_base hEq (by omega), get_base hdq (by omega), hE]
  exact f4 i (by rw [hll]; omega)
 ·have hold : secAt D (a + i) = D.Base.getD (p + i) [] := by
   have := get_base hdq (k := p + i) (by omega)
   push_cast at this
   rw [hp0, this]
  have hnew : secAt E (a + i) = E.Base.getD (p + i) [] := by
   have := get_base hEq (k := p + i) (by omega)
   push_cast at this
   rw [hp0, this]
  have hok : SecOk (D.Base.getD (p + i) []) := hsec _ (getD_mem _ _ _ (by omega))
  rw [hold]
  by_cases hij : i < j
  ·refine ⟨min (keepAt keep i).toNat 64, by omega, hok, ?_⟩
   rw [hnew, hE, f3 i (by rw [hll]; omega)]
   congr 1
   rw [List.getD_eq_getElem?_getD, List.getElem?_take, if_pos hij, ← List.getD_eq_getElem?_getD]
  ·refine ⟨0, by omega, hok, ?_⟩
   rw [hnew, hE, f4 (p + i) (by rw [hll]; omega)]
   simp [mixTo]
end Go.Proofs.Ytnmjcdlgfimnaaa
namespace Go.Proofs.Ytnmjcdlgfimnaaa
end Go.Proofs.Ytnmjcdlgfimnaaa
namespace Go.Proofs.Ytnmjcdlgfimnaaa
theorem quiet_calm {D : Qab} {m : Nat} (h : Quiet D m) : Quiet (calm D) m := ⟨calm_burns D, rfl, h.base, h.q, h.ok⟩
theorem jok_calm {J : JourS} {m : Nat} {g fl : Int} {c : List Int} {rs : List (List Int)} (h : JOk J m g fl c rs) : JOk ⟨calmL J.L, J.z, J.r⟩ m g fl c rs := by
 have l := h.log
 exact ⟨slotOk_congr h.slot (quiet_calm h.slot.quiet) (fun _ _ _ => rfl), ⟨quiet_calm l.quiet, l.a, l.pos, l.le, l.e, l.st, l.stb, placed_congr (D := J.L.D) (E := calm J.L.D) rs _ _ (fun j _ _ => rfl) l.placed, l.low⟩, h.e, h.r, h.g0, h.b⟩
theorem jf_new {n z : Int} (h : 1 ≤ z ∧ z ≤ 255 ∧ 2 * z < n) (hn : n ≤ 2048) {c : List Int} (hb : ∀ x ∈ c, 0 ≤ x ∧ x ≤ 255) (hc : spanN (closeN (numB 0 ++ c)).length ≠ 0 ∧ spanN (closeN (numB 0 ++ c)).length ≤ z) : JF (jNew (dBlank n) z c) n.toNat 1 0 c [] := by
 obtain ⟨h1, h2, h3, h4⟩ := jok_new h hn c hc
 refine ⟨jok_calm h3, ?_⟩
 have hbl : ((dBlank n).Base.length : Int) = n := blank_len (by omega) (by omega)
 have hw : slWrite (dBlank n) 0 z (numB 0 ++ c) = slWrite (dBlank n) 0 z (numB ((openL (dBlank n) (2 * z) (dBlank n).Base.length 0).st - 1).toNat ++ c) := by rw [h1]; rfl
 have hD : (jNew (dBlank n) z c).L.D = (slWrite (dBlank n) 0 z (numB 0 ++ c)).1 := by rw [hw]; rfl
 rw [hD]
 have hs := slotOk_blank (n := n) (k := 0) (z := z) (Int.le_refl _) h.1 h.2.1 (by omega) hn
 have hnx : nextG (dBlank n) 0 z = 1 := slotOk_next hs (fun _ => slotOk_zero)
 have hr : rightB (dBlank n) 0 z = true := slotOk_right hs
 rcases slw_sim hr hc (by omega) with ⟨p1, p2, p3⟩ | ⟨p1, _⟩
 ·rw [p3, hnx]
  have hsp := spanN_bd (closeN (numB 0 ++ c)).length
  have hq : (dBlank n).Queue = [] := rfl
  rw [hq, List.nil_append]
  refine sec_land (by omega) ?_ (secs_ok (cont_bytes hb)) ?_ _
  ·intro s hs
   simp only [dBlank, List.mem_replicate] at hs
   rw [hs.2]
   exact zeros_ok
  ·rw [secsN_len]
   omega
 ·rw [← hw] at h2
  rw [p1] at h2
  simp at h2
theorem GLe.frz {s : Qan} {id : Nat} {α : Type} {A : Rep α} {l : List α} (hm : Qco s.mem id = some (.arr A l)) : GLe (s.freeze id (.dat (.slice A) l)) s :=
 ⟨rfl, fun R G γ a w hs => by
  obtain ⟨G1, hg1, hs1, _⟩ := hs.freeze hm
  exact ⟨G1, γ, hg1, hs1⟩⟩
end Go.Proofs.Ytnmjcdlgfimnaaa
namespace Go.Proofs.Ytnmjcdlgfimnaaa
theorem Qc4.swap {R : Fr} {G : Hp} {γ : Nat → Value} {s : Qan} {a : Act} {w : World} (hs : Qc4 R G γ s a w) {id : Nat} {b b' : Box} (hm : Qco s.mem id = some b) (h : ∀ v f, b.at G γ v f → b'.at G γ v f) : Qc4 R G γ (s.setBox id b') a w := by
 obtain ⟨fr, hmf⟩ := hs.mem
 obtain ⟨hnd, hpin, hat, hok⟩ := hmf
 refine ⟨hs.sl, ⟨fr, ?_, hpin, ?_, ?_⟩, hs.df, hs.pn⟩
 ·show (Qao (Qhg s.mem id b')).Nodup
  rw [Qdn]; exact hnd
 ·intro e he
  rcases Qe0 hnd he with rfl | ⟨h1, _⟩
  ·exact h _ _ (hat _ (Qca hm))
  ·exact hat _ h1
 ·show Ok w G R (Qao (Qhg s.mem id b')) fr
  rw [Qdn]; exact hok
theorem openN_le (b : List Int) : (openN b).1.length ≤ b.length := by
 unfold openN
 split
 ·exact Nat.zero_le _
 ·split
  ·simp only [List.length_take]; omega
  ·exact Nat.zero_le _
theorem slRead_le {D : Qab} (hG : ∀ k, SecOk (dGet D k).1) (k z : Int) : (slRead D k z).1.length ≤ 13515 := by
 have hst : ∀ (i : Int) (q : List Int × Int), q.1.length ≤ 13515 → (standS D k z i q).1.length ≤ 13515 := fun i q hq => by
  unfold standS
  split
  ·have h1 := openN_le (sRead D (k + z * i) (k + z * i + z)).1
   have h2 := sRead_le hG (k + z * i) (k + z * i + z)
   simp only
   omega
  ·exact hq
 have hacc : (accS D k z 2).1.length ≤ 13515 := hst 1 _ (hst 0 _ (Nat.zero_le _))
 unfold slRead
 split
 ·split
  ·exact Nat.zero_le _
  ·exact hacc
 ·exact Nat.zero_le _
def jComG (J : JourS) (c : List Int) : JourS := ⟨⟨(slWrite J.L.D 0 J.z (numB (J.L.st - 1).toNat ++ c)).1, J.L.a, J.L.e, J.L.st⟩, J.z, if (slWrite J.L.D 0 J.z (numB (J.L.st - 1).toNat ++ c)).2.2 = 82 then false else J.r⟩
set_option linter.unusedSimpArgs false
set_option linter.unusedVariables false
set_option maxRecDepth 20000
attribute [local irreducible] Qb3 Qa9 vcA Qbp Wc
set_option maxHeartbeats 8000000
theorem jComG_con : ConJ 69 (.pair (.slice (.int .u8)) .unit)
    (fun J x => (1 ≤ J.L.st ∧ J.L.st ≤ 1152921504606846977) ∧ x.1.length ≤ 12288 ∧ J.L.D.Queue.length ≤ 900000 ∧ (slWrite J.L.D 0 J.z (numB (J.L.st - 1).toNat ++ x.1)).2.2 ≠ 0)
    (fun J x => [.int .i64 (slWrite J.L.D 0 J.z (numB (J.L.st - 1).toNat ++ x.1)).2.2]) (fun J x => jComG J x.1) :=
 ⟨Qp4, fun _ _ => rfl, fun J x h => jComF_fn J x.1 h.1 h.2.1 h.2.2.1 h.2.2.2⟩
end Go.Proofs.Ytnmjcdlgfimnaaa
