/- Chapter 12: disks with a fuse, as plain law: a torn stamp, and what a fuse does not change. -/
import Derived.Test.YtnmjcdlgfimnaaaJ1
import Derived.Test.YtnmjcdlgfimnaaaC10j
namespace Go.Proofs.Ytnmjcdlgfimnaaa
theorem numK_s (s : List Int) (i : Nat) : numK s (i + 1) = numK s i * 256 + s.getD (63 - i) 0 := rfl
theorem numK_cong {s t : List Int} : ∀ (i : Nat), i ≤ 8 → (∀ j, 64 - i ≤ j → j < 64 → s.getD j 0 = t.getD j 0) → numK s i = numK t i
  | 0, _, _ => rfl
  | i + 1, hi, h => by
    rw [numK_s, numK_s, numK_cong i (by omega) (fun j h1 h2 => h j (by omega) h2), h (63 - i) (by omega) (by omega)]
theorem byte_at {s : List Int} (h : SecOk s) {j : Nat} (hj : j < 64) : 0 ≤ s.getD j 0 ∧ s.getD j 0 ≤ 255 := by
  have hl := h.1
  rw [List.getD_eq_getElem?_getD, List.getElem?_eq_getElem (by omega)]
  exact h.2 _ (List.getElem_mem _)
theorem numK_mix {n : Nat} {old new : List Int} (ho : SecOk old) (hn : SecOk new) (hnn : n ≤ 64) (hle : numK old 8 ≤ numK new 8) : numK (mixTo n old new) 8 ≤ numK new 8 := by
  have hg : ∀ j, j < 64 → (mixTo n old new).getD j 0 = if j < n then new.getD j 0 else old.getD j 0 := fun j hj => mix_get n _ _ ho.1 hn.1 hnn j hj
  by_cases h56 : n ≤ 56
  · have : numK (mixTo n old new) 8 = numK old 8 := numK_congr fun j h5 h6 => by rw [hg j h6, if_neg (by omega)]
    omega
  by_cases h64 : n = 64
  · have : numK (mixTo n old new) 8 = numK new 8 := numK_congr fun j h5 h6 => by rw [hg j h6, if_pos (by omega)]
    omega
  have chain : ∀ s : List Int, numK s 8 = numK s 7 * 256 + s.getD 56 0 ∧ numK s 7 = numK s 6 * 256 + s.getD 57 0 ∧ numK s 6 = numK s 5 * 256 + s.getD 58 0 ∧ numK s 5 = numK s 4 * 256 + s.getD 59 0 ∧ numK s 4 = numK s 3 * 256 + s.getD 60 0 ∧ numK s 3 = numK s 2 * 256 + s.getD 61 0 ∧ numK s 2 = numK s 1 * 256 + s.getD 62 0 := fun s => ⟨rfl, rfl, rfl, rfl, rfl, rfl, rfl⟩
  obtain ⟨a1, a2, a3, a4, a5, a6, a7⟩ := chain old
  obtain ⟨b1, b2, b3, b4, b5, b6, b7⟩ := chain new
  obtain ⟨c1, c2, c3, c4, c5, c6, c7⟩ := chain (mixTo n old new)
  have hob := fun j hj => byte_at ho (j := j) hj
  have hnb := fun j hj => byte_at hn (j := j) hj
  have o56 := hob 56 (by decide)
  have o57 := hob 57 (by decide)
  have o58 := hob 58 (by decide)
  have o59 := hob 59 (by decide)
  have o60 := hob 60 (by decide)
  have o61 := hob 61 (by decide)
  have o62 := hob 62 (by decide)
  have n56 := hnb 56 (by decide)
  have n57 := hnb 57 (by decide)
  have n58 := hnb 58 (by decide)
  have n59 := hnb 59 (by decide)
  have n60 := hnb 60 (by decide)
  have n61 := hnb 61 (by decide)
  have n62 := hnb 62 (by decide)
  have g56 := hg 56 (by decide)
  have g57 := hg 57 (by decide)
  have g58 := hg 58 (by decide)
  have g59 := hg 59 (by decide)
  have g60 := hg 60 (by decide)
  have g61 := hg 61 (by decide)
  have g62 := hg 62 (by decide)
  have hk : ∀ i, i ≤ 8 → n ≤ 64 - i → numK (mixTo n old new) i = numK old i := fun i h1 h2 => numK_cong i h1 fun j h3 h4 => by rw [hg j h4, if_neg (by omega)]
  have hcase : n = 57 ∨ n = 58 ∨ n = 59 ∨ n = 60 ∨ n = 61 ∨ n = 62 ∨ n = 63 := by omega
  rcases hcase with rfl | rfl | rfl | rfl | rfl | rfl | rfl
  · have := hk 7 (by decide) (by decide)
    simp only [show (56 < 57) = True by decide, if_true] at g56
    omega
  · have := hk 6 (by decide) (by decide)
    simp only [show (56 < 58) = True by decide, show (57 < 58) = True by decide, if_true] at g56 g57
    omega
  · have := hk 5 (by decide) (by decide)
    simp only [show (56 < 59) = True by decide, show (57 < 59) = True by decide, show (58 < 59) = True by decide, if_true] at g56 g57 g58
    omega
  · have := hk 4 (by decide) (by decide)
    simp only [show (56 < 60) = True by decide, show (57 < 60) = True by decide, show (58 < 60) = True by decide, show (59 < 60) = True by decide, if_true] at g56 g57 g58 g59
    omega
  · have := hk 3 (by decide) (by decide)
    simp only [show (56 < 61) = True by decide, show (57 < 61) = True by decide, show (58 < 61) = True by decide, show (59 < 61) = True by decide, show (60 < 61) = True by decide, if_true] at g56 g57 g58 g59 g60
    omega
  · have := hk 2 (by decide) (by decide)
    simp only [show (56 < 62) = True by decide, show (57 < 62) = True by decide, show (58 < 62) = True by decide, show (59 < 62) = True by decide, show (60 < 62) = True by decide, show (61 < 62) = True by decide, if_true] at g56 g57 g58 g59 g60 g61
    omega
  · have := hk 1 (by decide) (by decide)
    simp only [show (56 < 63) = True by decide, show (57 < 63) = True by decide, show (58 < 63) = True by decide, show (59 < 63) = True by decide, show (60 < 63) = True by decide, show (61 < 63) = True by decide, show (62 < 63) = True by decide, if_true] at g56 g57 g58 g59 g60 g61 g62
    omega
def calm (D : R08Disk) : R08Disk := { D with Burns := -1, Dead := false }
def calmL (L : LogS) : LogS := ⟨calm L.D, L.a, L.e, L.st⟩
theorem calm_read (D : R08Disk) (a e : Int) : sRead (calm D) a e = sRead D a e := rfl
theorem calm_top (D : R08Disk) (a e : Int) : topN (calm D) a e = topN D a e := by
  have h : ∀ (n : Nat) (i t : Int), sTop (calm D) n i t = sTop D n i t := by
    intro n
    induction n with
    | zero => intro i t; rfl
    | succ n ih =>
      intro i t
      show (if (dGet D i).2 ≠ 0 then _ else _) = (if (dGet D i).2 ≠ 0 then _ else _)
      split
      · rfl
      · exact ih _ _
  exact h _ _ _
theorem calm_slRead (D : R08Disk) (k z : Int) : slRead (calm D) k z = slRead D k z := rfl
theorem calm_next (D : R08Disk) (k z : Int) : nextG (calm D) k z = nextG D k z := by
  unfold nextG
  rw [calm_top, calm_slRead]
theorem calm_recs (D : R08Disk) (k e fl : Int) : recsN (calm D) k e fl = recsN D k e fl := by
  have h : ∀ (n : Nat) (k last : Int), recN (calm D) e n k last = recN D e n k last := by
    intro n
    induction n with
    | zero => intro k l; rfl
    | succ n ih =>
      intro k l
      simp only [recN, recEnd, calm_read, ih]
  exact h _ _ _
theorem calm_power (D : R08Disk) (keep : List Int) : calm (dPower D keep) = dPower D keep := rfl
end Go.Proofs.Ytnmjcdlgfimnaaa
namespace Go.Proofs.Ytnmjcdlgfimnaaa
theorem disk_ext {D E : R08Disk} (h1 : D.Base = E.Base) (h2 : D.Queue = E.Queue) (h3 : D.Burns = E.Burns) (h4 : D.Dead = E.Dead) : D = E := by
  cases D; cases E; simp only at h1 h2 h3 h4; subst h1 h2 h3 h4; rfl
theorem calm_burns (D : R08Disk) : (calm D).Burns < 0 := by show (-1 : Int) < 0; decide
theorem put_sim {D : R08Disk} {a st : Int} {b : List Int} (hst : st ≠ 0) (hsp : spanN b.length ≠ 0) (h0 : 0 ≤ a) (h1 : a + spanN b.length ≤ D.Base.length) :
    ((sPut D a st b).2 = 0 ∧ (sPut D a st b).1.Base = D.Base ∧ (sPut D a st b).1.Queue = D.Queue ++ itemsAt a (secsN st b) ∧ calm (sPut D a st b).1 = (sPut (calm D) a st b).1 ∧ (sPut (calm D) a st b).2 = 0) ∨
    ((sPut D a st b).2 = 82 ∧ (sPut D a st b).1.Base = D.Base ∧ (sPut D a st b).1.Dead = true ∧ ∃ j, (sPut D a st b).1.Queue = D.Queue ++ itemsAt a ((secsN st b).take j)) := by
  have hbd := spanN_bd b.length
  have eput : sPut D a st b = putAll D a (secsN st b) := by
    unfold sPut
    rw [if_neg (by rintro (h | h); exact hst h; exact hsp h), if_neg (by omega)]
  have hll : ((secsN st b).length : Int) = spanN b.length := by rw [secsN_len]; omega
  obtain ⟨j, hj, p1, p2, p3⟩ := putAll_gen (secsN st b) D a h0 (by omega)
  rw [← eput] at p1 p2 p3
  rcases p3 with ⟨p3, p4⟩ | ⟨p3, p4⟩
  · left
    rw [List.take_of_length_le (by omega)] at p2
    have hl := sPut_live (D := calm D) (k := a) (st := st) (b := b) (calm_burns D) rfl hst hsp h0 h1
    rw [hl]
    exact ⟨p3, p1, p2, disk_ext p1 p2 rfl rfl, rfl⟩
  · right
    exact ⟨p3, p1, p4, j, p2⟩
theorem flush_calm (X : R08Disk) : dFlush (calm X) = (⟨landAll (fun _ => 64) 0 X.Queue X.Base, [], -1, false⟩, 0) := by
  unfold dFlush
  rw [spend_live (D := calm X) (calm_burns X) rfl]
  rfl
theorem app_sim {L : LogS} {r : List Int} (h1 : needN r.length ≠ 0) (h2 : ¬ L.e - L.a < needN r.length) (hst : L.st ≠ 0) (h0 : 0 ≤ L.a) (he : L.e ≤ L.D.Base.length) (hz : (appN L r).2 = 0) :
    (appN (calmL L) r).2 = 0 ∧ calmL (appN L r).1 = (appN (calmL L) r).1 ∧ (appN L r).1.D.Base = landAll (fun _ => 64) 0 (L.D.Queue ++ itemsAt L.a (secsN L.st (closeN r))) L.D.Base := by
  obtain ⟨hsp, hr⟩ := need_span h1
  have hsp2 : spanN (closeN r).length ≠ 0 := by show spanR r ≠ 0; omega
  have hfit : L.a + spanN (closeN r).length ≤ L.D.Base.length := by show L.a + spanR r ≤ _; omega
  rcases put_sim (D := L.D) (a := L.a) (st := L.st) (b := closeN r) hst hsp2 h0 hfit with ⟨p1, p2, p3, p4, p5⟩ | ⟨p1, _⟩
  · rcases flush_gen (sPut L.D L.a L.st (closeN r)).1 with ⟨f1, f2, f3⟩ | ⟨f1, _⟩
    · have e : appN L r = (⟨(dFlush (sPut L.D L.a L.st (closeN r)).1).1, L.a + needN r.length, L.e, IntKind.u64.wrap (L.st + 1)⟩, 0) := by
        unfold appN
        rw [if_neg h1, if_neg h2, if_neg (by simpa using p1), if_neg (by simpa using f1)]
      have fc : (dFlush (sPut (calm L.D) L.a L.st (closeN r)).1) = (⟨landAll (fun _ => 64) 0 (sPut L.D L.a L.st (closeN r)).1.Queue (sPut L.D L.a L.st (closeN r)).1.Base, [], -1, false⟩, 0) := by
        rw [← p4, flush_calm]
      have e2 : appN (calmL L) r = (⟨(dFlush (sPut (calm L.D) L.a L.st (closeN r)).1).1, L.a + needN r.length, L.e, IntKind.u64.wrap (L.st + 1)⟩, 0) := by
        unfold appN calmL
        simp only
        rw [if_neg h1, if_neg h2, if_neg (by simpa using p5), if_neg (by rw [fc]; simp)]
      rw [e, e2]
      refine ⟨rfl, ?_, ?_⟩
      · unfold calmL
        simp only
        rw [fc]
        congr 1
        exact disk_ext f2 f3 rfl rfl
      · simp only
        rw [f2, p3, p2]
    · exfalso
      have e : (appN L r).2 = 82 := by
        unfold appN
        rw [if_neg h1, if_neg h2, if_neg (by simpa using p1), if_pos (by rw [f1]; decide), f1]
      rw [e] at hz
      simp at hz
  · exfalso
    have e : (appN L r).2 = 82 := by
      unfold appN
      rw [if_neg h1, if_neg h2, if_pos (by rw [p1]; decide), p1]
    rw [e] at hz
    simp at hz
theorem slw_sim {D : R08Disk} {k z : Int} {c : List Int} (hr : rightB D k z = true) (hc : spanN (closeN c).length ≠ 0 ∧ spanN (closeN c).length ≤ z) (hg : nextG D k z ≠ 0) :
    ((slWrite D k z c).2 = (nextG D k z, 0) ∧ calm (slWrite D k z c).1 = (slWrite (calm D) k z c).1 ∧ (slWrite D k z c).1.Base = landAll (fun _ => 64) 0 (D.Queue ++ itemsAt (k + z * (nextG D k z % 2)) (secsN (nextG D k z) (closeN c))) D.Base) ∨
    ((slWrite D k z c).2 = (0, 82) ∧ (slWrite D k z c).1.Base = D.Base ∧ (slWrite D k z c).1.Dead = true ∧ ∃ j, (slWrite D k z c).1.Queue = D.Queue ++ itemsAt (k + z * (nextG D k z % 2)) ((secsN (nextG D k z) (closeN c)).take j)) := by
  obtain ⟨r1, r2, r3, r4⟩ := rightB_iff.1 hr
  have hp : 0 ≤ z * (nextG D k z % 2) ∧ z * (nextG D k z % 2) + z ≤ 2 * z := by
    have : nextG D k z % 2 = 0 ∨ nextG D k z % 2 = 1 := by omega
    rcases this with e | e <;> rw [e] <;> omega
  have ha : rightB D k z = true ∧ spanN (closeN c).length ≠ 0 ∧ spanN (closeN c).length ≤ z := ⟨hr, hc.1, hc.2⟩
  have ha2 : rightB (calm D) k z = true ∧ spanN (closeN c).length ≠ 0 ∧ spanN (closeN c).length ≤ z := ⟨hr, hc.1, hc.2⟩
  rcases put_sim (D := D) (a := k + z * (nextG D k z % 2)) (st := nextG D k z) (b := closeN c) hg hc.1 (by omega) (by omega) with ⟨p1, p2, p3, p4, p5⟩ | ⟨p1, p2, p3, j, p4⟩
  · rcases flush_gen (sPut D (k + z * (nextG D k z % 2)) (nextG D k z) (closeN c)).1 with ⟨f1, f2, f3⟩ | ⟨f1, f2, f3, f4⟩
    · left
      have e : slWrite D k z c = ((dFlush (sPut D (k + z * (nextG D k z % 2)) (nextG D k z) (closeN c)).1).1, nextG D k z, 0) := by
        unfold slWrite slPutD
        rw [if_pos ha, if_neg (by simpa using p1), if_neg (by simpa using f1)]
      have fc : dFlush (sPut (calm D) (k + z * (nextG D k z % 2)) (nextG D k z) (closeN c)).1 = (⟨landAll (fun _ => 64) 0 (sPut D (k + z * (nextG D k z % 2)) (nextG D k z) (closeN c)).1.Queue (sPut D (k + z * (nextG D k z % 2)) (nextG D k z) (closeN c)).1.Base, [], -1, false⟩, 0) := by
        rw [← p4, flush_calm]
      have e2 : slWrite (calm D) k z c = ((dFlush (sPut (calm D) (k + z * (nextG D k z % 2)) (nextG D k z) (closeN c)).1).1, nextG D k z, 0) := by
        unfold slWrite slPutD
        rw [calm_next, if_pos ha2, if_neg (by simpa using p5), if_neg (by rw [fc]; simp)]
      rw [e, e2]
      refine ⟨rfl, ?_, ?_⟩
      · simp only
        rw [fc]
        exact disk_ext f2 f3 rfl rfl
      · simp only
        rw [f2, p3, p2]
    · right
      have e : slWrite D k z c = ((dFlush (sPut D (k + z * (nextG D k z % 2)) (nextG D k z) (closeN c)).1).1, 0, 82) := by
        unfold slWrite slPutD
        rw [if_pos ha, if_neg (by simpa using p1), if_pos (by rw [f1]; decide), f1]
      rw [e]
      refine ⟨rfl, f2.trans p2, f4, (secsN (nextG D k z) (closeN c)).length, ?_⟩
      rw [List.take_of_length_le (Nat.le_refl _)]
      exact f3.trans p3
  · right
    have e : slWrite D k z c = ((sPut D (k + z * (nextG D k z % 2)) (nextG D k z) (closeN c)).1, 0, 82) := by
      unfold slWrite slPutD
      rw [if_pos ha, if_pos (by rw [p1]; decide), p1]
    rw [e]
    exact ⟨rfl, p2, p3, j, p4⟩
theorem sec_land {base : List (List Int)} {a : Int} {l : List (List Int)} (h0 : 0 ≤ a) (hok : ∀ s ∈ base, SecOk s) (hl : ∀ s ∈ l, SecOk s) (hfit : a + l.length ≤ base.length) (many : Nat → Int) : ∀ s ∈ landAll many 0 (itemsAt a l) base, SecOk s := by
  obtain ⟨p, rfl⟩ : ∃ p : Nat, a = p := ⟨a.toNat, by omega⟩
  exact (land_facts many rfl hok p l hl (by omega)).2.1
structure JF (J : JourS) (m : Nat) (g fl : Int) (c : List Int) (rs : List (List Int)) : Prop where
  ok : JOk ⟨calmL J.L, J.z, J.r⟩ m g fl c rs
  sec : ∀ s ∈ J.L.D.Base, SecOk s
theorem jf_log {J : JourS} {m : Nat} {g fl : Int} {c : List Int} {rs : List (List Int)} (h : JF J m g fl c rs) : LogF J.L m (2 * J.z) (fl + 1) rs := by
  have l := h.ok.log
  exact ⟨l.quiet.base, l.quiet.q, h.sec, l.a, l.pos, l.le, l.e, l.st, l.stb, placed_congr (D := calm J.L.D) (E := J.L.D) rs _ _ (fun j _ _ => rfl) l.placed, l.low⟩
theorem jf_app {J : JourS} {m : Nat} {g fl : Int} {c : List Int} {rs : List (List Int)} (h : JF J m g fl c rs) {r : List Int} (hb : ∀ x ∈ r, 0 ≤ x ∧ x ≤ 255) (hbd : fl + rs.length + 1 ≤ 1152921504606846976) :
    jApp J r = (J, 101) ∨ jApp J r = (J, 102) ∨ ((jApp J r).2 = 0 ∧ JF (jApp J r).1 m g fl c (rs ++ [r]) ∧ (jApp J r).1.z = J.z) ∨
    ((jApp J r).2 = 82 ∧ (jApp J r).1.r = false ∧ (jApp J r).1.z = J.z ∧ (jApp J r).1.L.D.Base = J.L.D.Base ∧ (jApp J r).1.L.D.Dead = true ∧ spanR r ≠ 0 ∧ J.L.a + spanR r ≤ J.L.e ∧ ∃ j, (jApp J r).1.L.D.Queue = itemsAt J.L.a ((secsN J.L.st (closeN r)).take j)) := by
  have hfl := h.ok.b
  have hr : J.r = true := h.ok.r
  have hlog := jf_log h
  obtain ⟨a1, a2, a3⟩ := logF_app hlog (r := r) (close_bytes hb) (by omega)
  have ej : jApp J r = (⟨(appN J.L r).1, J.z, decide ((appN J.L r).2 ≠ 82)⟩, (appN J.L r).2) := by unfold jApp; rw [if_pos hr]
  have same : ∀ x : Int, x ≠ 82 → (⟨J.L, J.z, decide (x ≠ 82)⟩ : JourS) = J := fun x hx => by
    obtain ⟨L, z, b⟩ := J
    simp only at hr
    subst hr
    simp [hx]
  by_cases hn : needN r.length = 0
  · exact .inl (by rw [ej, a1 hn, same 101 (by decide)])
  by_cases hf : J.L.e - J.L.a < needN r.length
  · exact .inr (.inl (by rw [ej, a2 hn hf, same 102 (by decide)]))
  obtain ⟨hsp, _⟩ := need_span hn
  rcases a3 hn hf with ⟨b1, b2, b3⟩ | ⟨b1, b2, b3, j, b4⟩
  · right; right; left
    have he : J.L.e = m := h.ok.e
    have hbase : J.L.D.Base.length = m := h.ok.log.quiet.base
    have ha := hlog.a
    have hk0 := hlog.pos
    have hle := endPos_le rs (2 * J.z)
    have hst := hlog.st
    obtain ⟨s1, s2, _⟩ := app_sim hn hf (by omega) (by omega) (by omega) b1
    have hcalm := (jok_app h.ok r hbd).2.2 hn hf
    have ejc : jApp ⟨calmL J.L, J.z, J.r⟩ r = (⟨(appN (calmL J.L) r).1, J.z, decide ((appN (calmL J.L) r).2 ≠ 82)⟩, (appN (calmL J.L) r).2) := by unfold jApp; rw [if_pos hr]
    rw [ejc, s1, ← s2] at hcalm
    rw [ej, b1]
    exact ⟨rfl, ⟨hcalm.2.1, b2.ok⟩, rfl⟩
  · right; right; right
    rw [ej, b1]
    exact ⟨rfl, by simp, rfl, b2, b3, by omega, by omega, j, b4⟩
end Go.Proofs.Ytnmjcdlgfimnaaa
namespace Go.Proofs.Ytnmjcdlgfimnaaa
theorem read_two {D : R08Disk} {k z g T : Int} {was : List Int} (hr : rightB D k z = true) (hg : 1 ≤ g) (hs : sRead D (k + z * (g % 2)) (k + z * (g % 2) + z) = (closeN was, g, T, 0))
    (hoth : (sRead D (k + z * ((g + 1) % 2)) (k + z * ((g + 1) % 2) + z)).2.2.2 = 0 → (sRead D (k + z * ((g + 1) % 2)) (k + z * ((g + 1) % 2) + z)).2.1 ≤ g) : slRead D k z = (was, g, 0) := by
  have hacc : accS D k z 2 = (was, g) := by
    show standS D k z 1 (standS D k z 0 ([], 0)) = (was, g)
    have ht : g.tmod 2 = g % 2 := Int.tmod_eq_emod_of_nonneg (by omega)
    rcases par2 g with ⟨e1, e2⟩ | ⟨e1, e2⟩
    · rw [e1] at hs
      rw [e2] at hoth
      have e3 : standS D k z 0 ([], 0) = (was, g) := by
        unfold standS
        rw [hs]
        simp only [open_close]
        rw [if_pos ⟨trivial, trivial, by rw [ht, e1], by omega⟩]
      rw [e3]
      exact stand_lt fun h0 => hoth h0
    · rw [e1] at hs
      rw [e2] at hoth
      have e3 : (standS D k z 0 ([], 0)).2 < g := by
        unfold standS
        split
        · rename_i h5
          have h6 := hoth h5.1
          have h7 := h5.2.2.1
          have h8 := h5.2.2.2
          simp only at h8
          rw [Int.tmod_eq_emod_of_nonneg (by omega)] at h7
          simp only
          omega
        · simp only; omega
      generalize standS D k z 0 ([], 0) = q at *
      unfold standS
      rw [hs]
      simp only [open_close]
      rw [if_pos ⟨trivial, trivial, by rw [ht, e1], by omega⟩]
  unfold slRead
  rw [if_pos hr, hacc]
  simp only
  rw [if_neg (by omega)]
structure SlotW (D : R08Disk) (m : Nat) (k z g : Int) (was : List Int) : Prop where
  quiet : Quiet D m
  right : 0 ≤ k ∧ 1 ≤ z ∧ z ≤ 255 ∧ k + 2 * z ≤ m
  gb : 1 ≤ g
  top : g ≤ (topN D k (k + 2 * z)).1 ∧ (topN D k (k + 2 * z)).1 < 4611686018427387904
  read : slRead D k z = (was, g, 0)
theorem slotW_of {D : R08Disk} {m : Nat} {k z g : Int} {was : List Int} (h : SlotOk D m k z g was) (hg : 1 ≤ g) : SlotW D m k z g was := by
  have := h.gb
  refine ⟨h.quiet, h.right, hg, ?_, slotOk_read h (by omega)⟩
  rw [slotOk_top h]
  simp only
  omega
theorem slotW_next {D : R08Disk} {m : Nat} {k z g : Int} {was : List Int} (h : SlotW D m k z g was) : (topN D k (k + 2 * z)).1 < nextG D k z ∧ nextG D k z ≤ (topN D k (k + 2 * z)).1 + 2 := by
  have ht := h.top
  have hg := h.gb
  unfold nextG
  rw [w_u64 ((topN D k (k + 2 * z)).1 + 1) (by omega) (by omega), w_u64 ((topN D k (k + 2 * z)).1 + 1 + 1) (by omega) (by omega)]
  split <;> omega
theorem slotW_write {D : R08Disk} {m : Nat} {k z g : Int} {was : List Int} (h : SlotW D m k z g was) (ht2 : (topN D k (k + 2 * z)).1 + 2 < 4611686018427387904) (c : List Int) (hc : spanN (closeN c).length ≠ 0 ∧ spanN (closeN c).length ≤ z) :
    (slWrite D k z c).2 = (nextG D k z, 0) ∧ SlotOk (slWrite D k z c).1 m k z (nextG D k z) c ∧ ∀ j : Int, 0 ≤ j → j < m → (j < k ∨ k + 2 * z ≤ j) → secAt (slWrite D k z c).1 j = secAt D j := by
  obtain ⟨hn1, hn2⟩ := slotW_next h
  have hgb := h.gb
  have htp := h.top
  obtain ⟨h1, h2, h3, h4⟩ := h.right
  have hb := h.quiet.base
  have hsp := spanN_bd (closeN c).length
  have e2z : (k + 2 * z - k).toNat = (2 * z).toNat := by congr 1; omega
  have hlow : ∀ j : Int, k ≤ j → j < k + 2 * z → numK (secAt D j) 8 ≤ (topN D k (k + 2 * z)).1 := fun j h5 h6 => by
    have := (sTop_ok (D := D) (k + 2 * z - k).toNat k 0 (by omega) (by omega)).2.2 j h5 (by omega)
    exact this
  generalize (topN D k (k + 2 * z)).1 = t at *
  generalize hgg : nextG D k z = g' at *
  have hp : 0 ≤ z * (g' % 2) ∧ z * (g' % 2) + z ≤ 2 * z := by rcases par2 g' with ⟨e, _⟩ | ⟨e, _⟩ <;> rw [e] <;> omega
  obtain ⟨w1, w2, w3, w4, w5⟩ := write_flush h.quiet (a := k + z * (g' % 2)) (st := g') (b := closeN c) (by omega) hc.1 (by omega) (by omega)
  have hr : rightB D k z = true := rightB_iff.2 ⟨h1, h2, h3, by omega⟩
  have e : slWrite D k z c = ((dFlush (sPut D (k + z * (g' % 2)) g' (closeN c)).1).1, g', 0) := by
    unfold slWrite slPutD
    rw [hgg, if_pos ⟨hr, hc.1, hc.2⟩, if_neg (by simpa using w1), if_neg (by simpa using w2)]
  rw [e]
  refine ⟨rfl, ⟨w3, ⟨h1, h2, h3, h4⟩, by omega, fun j h5 h6 => ?_, fun h => absurd h (by omega), fun _ => hc, fun _ => w4, fun _ j h5 h6 => ?_⟩, fun j h5 h6 h7 => w5 j h5 h6 (by omega)⟩
  · simp only
    by_cases hin : k + z * (g' % 2) ≤ j ∧ j < k + z * (g' % 2) + spanN (closeN c).length
    · obtain ⟨i, rfl⟩ : ∃ i : Nat, j = k + z * (g' % 2) + i := ⟨(j - (k + z * (g' % 2))).toNat, by omega⟩
      rw [w4 i (by omega), numK_made (by omega) _ _ _ (pieceN_le _ _)]
      omega
    · rw [w5 j (by omega) (by omega) (by omega)]
      have := hlow j h5 h6
      omega
  · simp only
    have hp2 : 0 ≤ z * ((g' + 1) % 2) ∧ z * ((g' + 1) % 2) + z ≤ 2 * z := by rcases par2 g' with ⟨_, e⟩ | ⟨_, e⟩ <;> rw [e] <;> omega
    have hdis : j < k + z * (g' % 2) ∨ k + z * (g' % 2) + z ≤ j := by
      rcases par2 g' with ⟨e1, e2⟩ | ⟨e1, e2⟩ <;> rw [e2] at h5 h6 <;> rw [e1] <;> omega
    rw [w5 j (by omega) (by omega) (by omega)]
    have := hlow j (by omega) (by omega)
    omega
theorem slot_torn {D : R08Disk} {m : Nat} {k z g : Int} {was : List Int} (h : SlotOk D m k z g was) (hsec : ∀ s ∈ D.Base, SecOk s) (hg0 : 1 ≤ g) (hgl : g + 1 < 4611686018427387904) {c : List Int} (hc : spanN (closeN c).length ≠ 0 ∧ spanN (closeN c).length ≤ z)
    (hcb : ∀ x ∈ closeN c, 0 ≤ x ∧ x ≤ 255) {X : R08Disk} (hX : X.Base = D.Base) {j : Nat} (hq : X.Queue = itemsAt (k + z * ((g + 1) % 2)) ((secsN (g + 1) (closeN c)).take j)) (keep : List Int) :
    (SlotW (dPower X keep) m k z g was ∨ SlotW (dPower X keep) m k z (g + 1) c) ∧ (topN (dPower X keep) k (k + 2 * z)).1 ≤ g + 1 ∧ (∀ s ∈ (dPower X keep).Base, SecOk s) ∧
      ∀ i : Int, 0 ≤ i → i < m → (i < k ∨ k + 2 * z ≤ i) → secAt (dPower X keep) i = secAt D i := by
  obtain ⟨h1, h2, h3, h4⟩ := h.right
  have hgb := h.gb
  have hbase := h.quiet.base
  have hdq := h.quiet.q
  have hsp := spanN_bd (closeN c).length
  have hp : 0 ≤ z * ((g + 1) % 2) ∧ z * ((g + 1) % 2) + z ≤ 2 * z := by rcases par2 g with ⟨_, e⟩ | ⟨_, e⟩ <;> rw [e] <;> omega
  have hpg : 0 ≤ z * (g % 2) ∧ z * (g % 2) + z ≤ 2 * z := by rcases par2 g with ⟨e, _⟩ | ⟨e, _⟩ <;> rw [e] <;> omega
  have hdis : k + z * (g % 2) + z ≤ k + z * ((g + 1) % 2) ∨ k + z * ((g + 1) % 2) + z ≤ k + z * (g % 2) := by rcases par2 g with ⟨e1, e2⟩ | ⟨e1, e2⟩ <;> rw [e1, e2] <;> omega
  generalize ha : k + z * ((g + 1) % 2) = a at *
  obtain ⟨p, hp0⟩ : ∃ p : Nat, a = p := ⟨a.toNat, by omega⟩
  have hll : ((secsN (g + 1) (closeN c)).take j).length = min j (spanN (closeN c).length).toNat := by rw [List.length_take, secsN_len]
  have hsecok : ∀ s ∈ (secsN (g + 1) (closeN c)).take j, SecOk s := fun s hs => secs_ok hcb s (List.mem_of_mem_take hs)
  obtain ⟨f1, f2, f3, f4⟩ := land_facts (keepAt keep) hbase hsec p ((secsN (g + 1) (closeN c)).take j) hsecok (by rw [hll]; omega)
  generalize hE0 : dPower X keep = E
  have hE : E.Base = landAll (keepAt keep) 0 (itemsAt p ((secsN (g + 1) (closeN c)).take j)) D.Base := by
    rw [← hE0]
    simp only [dPower, hq, hX, hp0]
  have hEq : E.Queue = [] := by rw [← hE0]; rfl
  have hEl : E.Base.length = m := by rw [hE]; exact f1
  have hEok : ∀ s ∈ E.Base, SecOk s := by rw [hE]; exact f2
  have hquiet : Quiet E m := ⟨by rw [← hE0]; show (-1 : Int) < 0; decide, by rw [← hE0]; rfl, hEl, hEq, fun s hs => (hEok s hs).1⟩
  have hout : ∀ i : Int, 0 ≤ i → i < m → (i < a ∨ a + spanN (closeN c).length ≤ i) → secAt E i = secAt D i := by
    intro i h5 h6 h7
    obtain ⟨i, rfl⟩ : ∃ n : Nat, i = n := ⟨i.toNat, by omega⟩
    rw [get_base hEq (by omega), get_base hdq (by omega), hE]
    exact f4 i (by rw [hll]; omega)
  have hin : ∀ i : Nat, (i : Int) < spanN (closeN c).length → ∃ n old, n ≤ 64 ∧ SecOk old ∧ numK old 8 ≤ g ∧ secAt E (a + i) = mixTo n old (madeN i (spanN (closeN c).length) (g + 1) (pieceN (closeN c) i)) := by
    intro i hi
    have hold : secAt D (a + i) = D.Base.getD (p + i) [] := by
      have := get_base hdq (k := p + i) (by omega)
      push_cast at this
      rw [hp0, this]
    have hnew : secAt E (a + i) = E.Base.getD (p + i) [] := by
      have := get_base hEq (k := p + i) (by omega)
      push_cast at this
      rw [hp0, this]
    have hok : SecOk (D.Base.getD (p + i) []) := hsec _ (getD_mem _ _ _ (by omega))
    have hlow := h.low (a + i) (by omega) (by omega)
    rw [hold] at hlow
    by_cases hij : i < j
    · refine ⟨min (keepAt keep i).toNat 64, _, by omega, hok, hlow, ?_⟩
      rw [hnew, hE, f3 i (by rw [hll]; omega)]
      congr 1
      rw [List.getD_eq_getElem?_getD, List.getElem?_take, if_pos hij, secsN_get _ _ i (by omega)]
      rfl
    · refine ⟨0, _, by omega, hok, hlow, ?_⟩
      rw [hnew, hE, f4 (p + i) (by rw [hll]; omega)]
      simp [mixTo]
  have hstamp : ∀ i : Int, k ≤ i → i < k + 2 * z → numK (secAt E i) 8 ≤ g + 1 := by
    intro i h5 h6
    by_cases h7 : a ≤ i ∧ i < a + spanN (closeN c).length
    · obtain ⟨n, rfl⟩ : ∃ n : Nat, i = a + n := ⟨(i - a).toNat, by omega⟩
      obtain ⟨q, old, q1, q2, q3, q4⟩ := hin n (by omega)
      have hmk := numK_made (st := g + 1) (by omega) n (spanN (closeN c).length) (pieceN (closeN c) n) (pieceN_le _ n)
      have := numK_mix (n := q) q2 (made_ok (i := n) (st := g + 1) (by omega) (by omega) (pieceN_le (closeN c) n) (piece_bytes hcb n)) q1 (by rw [hmk]; omega)
      rw [q4]
      omega
    · rw [hout i (by omega) (by omega) (by omega)]
      have := h.low i h5 h6
      omega
  have hr : rightB E k z = true := rightB_iff.2 ⟨h1, h2, h3, by omega⟩
  have htop := sTop_ok (D := E) (k + 2 * z - k).toNat k 0 (by omega) (by omega)
  have htle : (topN E k (k + 2 * z)).1 ≤ g + 1 := by
    unfold topN
    exact sTop_le _ k 0 (fun i h5 h6 => hstamp i h5 (by omega)) (by omega) (by omega) (by omega)
  obtain ⟨s1, s2⟩ := h.sp (by omega)
  have hsw := spanN_bd (closeN was).length
  have hread : sRead E (k + z * (g % 2)) (k + z * (g % 2) + z) = (closeN was, g, spanN (closeN was).length, 0) := by
    refine read_back (by omega) s1 (by omega) (by omega) (by omega) fun i hi => ?_
    rw [hout _ (by omega) (by omega) (by omega)]
    exact h.there (by omega) i hi
  have hgtop : g ≤ (topN E k (k + 2 * z)).1 := by
    have h5 := htop.2.2 (k + z * (g % 2)) (by omega) (by omega)
    have h6 : secAt E (k + z * (g % 2)) = madeN 0 (spanN (closeN was).length) g (pieceN (closeN was) 0) := by
      have := h.there (by omega) 0 (by omega)
      rw [hout _ (by omega) (by omega) (by omega)]
      simpa using this
    have h7 : numK (dGet E (k + z * (g % 2))).1 8 = g := by
      show numK (secAt E (k + z * (g % 2))) 8 = g
      rw [h6, numK_made (by omega) _ _ _ (pieceN_le _ _)]
    rw [h7] at h5
    exact h5
  refine ⟨?_, htle, hEok, fun i h5 h6 h7 => hout i h5 h6 (by omega)⟩
  by_cases hR : (sRead E a (a + z)).2.2.2 = 0 ∧ g < (sRead E a (a + z)).2.1
  · right
    obtain ⟨t1, t2⟩ := torn_core (E := E) (k := a) (e := a + z) (floor := g) (st := g + 1) (b := closeN c) hc.1 hcb hin hR.1 hR.2
    have hinv := (read_inv hR.1).2
    have hst : (sRead E a (a + z)).2.1 = g + 1 := by
      have h5 := hstamp a (by omega) (by omega)
      have h6 : (sRead E a (a + z)).2.1 = numK (secAt E a) 8 := by rw [hinv]
      have h7 := hR.2
      omega
    have hfull : sRead E a (a + z) = (closeN c, g + 1, spanN (closeN c).length, 0) := by
      refine Prod.ext t1 (Prod.ext hst (Prod.ext t2 hR.1))
    have e2 : (g + 1 + 1) % 2 = g % 2 := by omega
    have hrd := read_two (D := E) (k := k) (z := z) (g := g + 1) (was := c) (T := spanN (closeN c).length) hr (by omega) (by rw [ha]; exact hfull) (fun _ => by rw [e2, hread]; simp only; omega)
    refine ⟨hquiet, ⟨h1, h2, h3, h4⟩, by omega, ⟨?_, by omega⟩, hrd⟩
    have h5 := htop.2.2 a (by omega) (by omega)
    have h6 : (sRead E a (a + z)).2.1 = numK (secAt E a) 8 := by rw [hinv]
    have h7 : numK (dGet E a).1 8 = g + 1 := by rw [← hst, h6]; rfl
    rw [h7] at h5
    exact h5
  · left
    have hrd := read_two (D := E) (k := k) (z := z) (g := g) (was := was) hr hg0 hread (fun h0 => by
      rw [ha] at h0 ⊢
      exact Classical.byContradiction fun h5 => hR ⟨h0, by omega⟩)
    exact ⟨hquiet, ⟨h1, h2, h3, h4⟩, hg0, ⟨hgtop, by omega⟩, hrd⟩
end Go.Proofs.Ytnmjcdlgfimnaaa
namespace Go.Proofs.Ytnmjcdlgfimnaaa
theorem numB_bytes (n : Nat) : ∀ x ∈ numB n, 0 ≤ x ∧ x ≤ 255 := by
  induction n using Nat.strongRecOn with
  | ind n ih =>
    intro x hx
    by_cases h : n < 128
    · rw [numB_low h] at hx
      simp only [List.mem_singleton] at hx
      omega
    · rw [numB_high h] at hx
      simp only [List.mem_cons] at hx
      rcases hx with rfl | hx
      · omega
      · exact ih (n / 128) (by omega) x hx
theorem cont_bytes {n : Nat} {c : List Int} (hc : ∀ x ∈ c, 0 ≤ x ∧ x ≤ 255) : ∀ x ∈ closeN (numB n ++ c), 0 ≤ x ∧ x ≤ 255 := by
  refine close_bytes fun x hx => ?_
  simp only [List.mem_append] at hx
  rcases hx with h | h
  · exact numB_bytes n x h
  · exact hc x h
theorem calm_openL (D : R08Disk) (k e fl : Int) : calmL (openL D k e fl) = openL (calm D) k e fl := by
  unfold openL calmL
  simp only
  rw [calm_recs, calm_top]
theorem jCom_eq (J : JourS) (c : List Int) : jCom J c = ⟨openL (slWrite J.L.D 0 J.z (numB (J.L.st - 1).toNat ++ c)).1 (2 * J.z) J.L.D.Base.length (J.L.st - 1), J.z, true⟩ := by
  unfold jCom
  rw [slWrite_len]
theorem jf_com {J : JourS} {m : Nat} {g fl : Int} {c : List Int} {rs : List (List Int)} (h : JF J m g fl c rs) (hg : g + 1 < 4611686018427387904) {c2 : List Int} (hb : ∀ x ∈ c2, 0 ≤ x ∧ x ≤ 255)
    (hc : spanN (closeN (numB (fl + rs.length).toNat ++ c2)).length ≠ 0 ∧ spanN (closeN (numB (fl + rs.length).toNat ++ c2)).length ≤ J.z) :
    ((slWrite J.L.D 0 J.z (numB (J.L.st - 1).toNat ++ c2)).2.2 = 0 ∧ JF (jCom J c2) m (g + 1) (fl + rs.length) c2 []) ∨
    ((slWrite J.L.D 0 J.z (numB (J.L.st - 1).toNat ++ c2)).2.2 = 82 ∧ (slWrite J.L.D 0 J.z (numB (J.L.st - 1).toNat ++ c2)).1.Base = J.L.D.Base ∧ (slWrite J.L.D 0 J.z (numB (J.L.st - 1).toNat ++ c2)).1.Dead = true ∧
      ∃ j, (slWrite J.L.D 0 J.z (numB (J.L.st - 1).toNat ++ c2)).1.Queue = itemsAt (0 + J.z * ((g + 1) % 2)) ((secsN (g + 1) (closeN (numB (fl + rs.length).toNat ++ c2))).take j)) := by
  have hst : J.L.st - 1 = fl + rs.length := jok_st (J := ⟨calmL J.L, J.z, J.r⟩) h.ok
  have hz : 1 ≤ J.z ∧ J.z ≤ 255 ∧ 2 * J.z ≤ m := jok_z (J := ⟨calmL J.L, J.z, J.r⟩) h.ok
  have hg0 := h.ok.g0
  have hq : J.L.D.Queue = [] := h.ok.slot.quiet.q
  have hbase : J.L.D.Base.length = m := h.ok.slot.quiet.base
  have hr : rightB J.L.D 0 J.z = true := slotOk_right (D := calm J.L.D) h.ok.slot
  have hn : nextG J.L.D 0 J.z = g + 1 := by
    rw [← calm_next]
    exact slotOk_next h.ok.slot (fun h0 => absurd h0 (by omega))
  have hcom := jok_com h.ok hg c2 hc
  have hcst : (⟨calmL J.L, J.z, J.r⟩ : JourS).L.st = J.L.st := rfl
  rw [jCom_eq] at hcom ⊢
  simp only at hcom
  have ecD : (calmL J.L).D = calm J.L.D := rfl
  have ecs : (calmL J.L).st = J.L.st := rfl
  rw [ecD, ecs, hst] at hcom
  rw [hst]
  have hsim := slw_sim (D := J.L.D) (k := 0) (z := J.z) (c := numB (fl + rs.length).toNat ++ c2) hr hc (by omega)
  rw [hn] at hsim
  rcases hsim with ⟨p1, p2, p3⟩ | ⟨p1, p2, p3, j, p4⟩
  · left
    refine ⟨by rw [p1], ⟨?_, ?_⟩⟩
    · show JOk ⟨calmL (openL _ _ _ _), J.z, true⟩ _ _ _ _ _
      rw [calm_openL, p2]
      exact hcom.2.1
    · show ∀ s ∈ (slWrite J.L.D 0 J.z (numB (fl + rs.length).toNat ++ c2)).1.Base, SecOk s
      rw [p3, hq, List.nil_append]
      have hsp := spanN_bd (closeN (numB (fl + rs.length).toNat ++ c2)).length
      have hp : 0 ≤ J.z * ((g + 1) % 2) ∧ J.z * ((g + 1) % 2) + J.z ≤ 2 * J.z := by rcases par2 g with ⟨_, e⟩ | ⟨_, e⟩ <;> rw [e] <;> omega
      refine sec_land (by omega) h.sec (secs_ok (cont_bytes hb)) ?_ _
      rw [secsN_len]
      omega
  · right
    exact ⟨by rw [p1], p2, p3, j, by rw [p4, hq, List.nil_append]⟩
structure Finds (E : R08Disk) (m : Nat) (z B G g fl : Int) (c : List Int) (rs : List (List Int)) : Prop where
  sec : ∀ s ∈ E.Base, SecOk s
  slot : SlotW (calm E) m 0 z g (numB fl.toNat ++ c)
  top : (topN (calm E) 0 (0 + 2 * z)).1 ≤ G
  flb : 0 ≤ fl ∧ fl ≤ B
  low : ∀ j : Int, 2 * z ≤ j → j < m → numK (secAt E j) 8 ≤ B
  recs : (recsN E (2 * z) m fl).1 = rs
theorem finds_alive {J : JourS} {m : Nat} {g fl : Int} {c : List Int} {rs : List (List Int)} (h : JF J m g fl c rs) : Finds J.L.D m J.z (fl + rs.length) g g fl c rs := by
  have hfl := h.ok.b
  have he : J.L.e = m := h.ok.e
  refine ⟨h.sec, slotW_of h.ok.slot h.ok.g0, ?_, by omega, fun j h1 h2 => ?_, ?_⟩
  · have := slotOk_top h.ok.slot
    show (topN (calmL J.L).D 0 (0 + 2 * J.z)).1 ≤ g
    rw [this]
    exact Int.le_refl _
  · have := logOk_top h.ok.log j h1 (by show j < J.L.e; omega)
    have e : secAt (calmL J.L).D j = secAt J.L.D j := rfl
    rw [e] at this
    omega
  · have := jok_recs h.ok
    have e : recsN (calmL J.L).D (2 * J.z) m fl = recsN J.L.D (2 * J.z) m fl := calm_recs _ _ _ _
    simp only at this
    rw [e] at this
    rw [this]
theorem power_quiet {D : R08Disk} (hq : D.Queue = []) (keep : List Int) : dPower D keep = calm D := by
  unfold dPower calm
  rw [hq]
  rfl
theorem finds_power {J : JourS} {m : Nat} {g fl : Int} {c : List Int} {rs : List (List Int)} (h : JF J m g fl c rs) (keep : List Int) : Finds (dPower J.L.D keep) m J.z (fl + rs.length) g g fl c rs := by
  have hq : J.L.D.Queue = [] := h.ok.slot.quiet.q
  obtain ⟨a1, a2, a3, a4, a5, a6⟩ := finds_alive h
  rw [power_quiet hq]
  exact ⟨a1, a2, a3, a4, a5, by rw [calm_recs]; exact a6⟩
theorem torn_facts {D X : R08Disk} {m : Nat} (hbase : D.Base.length = m) (hdq : D.Queue = []) (hsec : ∀ s ∈ D.Base, SecOk s) {a : Int} {l : List (List Int)} (h0 : 0 ≤ a) (hl : ∀ s ∈ l, SecOk s) (hfit : a + l.length ≤ m) (hX : X.Base = D.Base) {j : Nat}
    (hq : X.Queue = itemsAt a (l.take j)) (keep : List Int) : Quiet (dPower X keep) m ∧ (∀ s ∈ (dPower X keep).Base, SecOk s) ∧ (∀ i : Int, 0 ≤ i → i < m → (i < a ∨ a + l.length ≤ i) → secAt (dPower X keep) i = secAt D i) ∧
      ∀ i : Nat, i < l.length → ∃ n, n ≤ 64 ∧ SecOk (secAt D (a + i)) ∧ secAt (dPower X keep) (a + i) = mixTo n (secAt D (a + i)) (l.getD i []) := by
  obtain ⟨p, hp0⟩ : ∃ p : Nat, a = p := ⟨a.toNat, by omega⟩
  have hll : (l.take j).length = min j l.length := List.length_take
  obtain ⟨f1, f2, f3, f4⟩ := land_facts (keepAt keep) hbase hsec p (l.take j) (fun s hs => hl s (List.mem_of_mem_take hs)) (by rw [hll]; omega)
  generalize hE0 : dPower X keep = E
  have hE : E.Base = landAll (keepAt keep) 0 (itemsAt p (l.take j)) D.Base := by
    rw [← hE0]
    simp only [dPower, hq, hX, hp0]
  have hEq : E.Queue = [] := by rw [← hE0]; rfl
  have hEl : E.Base.length = m := by rw [hE]; exact f1
  have hEok : ∀ s ∈ E.Base, SecOk s := by rw [hE]; exact f2
  refine ⟨⟨by rw [← hE0]; show (-1 : Int) < 0; decide, by rw [← hE0]; rfl, hEl, hEq, fun s hs => (hEok s hs).1⟩, hEok, fun i h5 h6 h7 => ?_, fun i hi => ?_⟩
  · obtain ⟨i, rfl⟩ : ∃ n : Nat, i = n := ⟨i.toNat, by omega⟩
    rw [get_base hEq (by omega), get_base hdq (by omega), hE]
    exact f4 i (by rw [hll]; omega)
  · have hold : secAt D (a + i) = D.Base.getD (p + i) [] := by
      have := get_base hdq (k := p + i) (by omega)
      push_cast at this
      rw [hp0, this]
    have hnew : secAt E (a + i) = E.Base.getD (p + i) [] := by
      have := get_base hEq (k := p + i) (by omega)
      push_cast at this
      rw [hp0, this]
    have hok : SecOk (D.Base.getD (p + i) []) := hsec _ (getD_mem _ _ _ (by omega))
    rw [hold]
    by_cases hij : i < j
    · refine ⟨min (keepAt keep i).toNat 64, by omega, hok, ?_⟩
      rw [hnew, hE, f3 i (by rw [hll]; omega)]
      congr 1
      rw [List.getD_eq_getElem?_getD, List.getElem?_take, if_pos hij, ← List.getD_eq_getElem?_getD]
    · refine ⟨0, by omega, hok, ?_⟩
      rw [hnew, hE, f4 (p + i) (by rw [hll]; omega)]
      simp [mixTo]
theorem finds_app {J : JourS} {m : Nat} {g fl : Int} {c : List Int} {rs : List (List Int)} (h : JF J m g fl c rs) {r : List Int} (hb : ∀ x ∈ r, 0 ≤ x ∧ x ≤ 255) (hsp : spanR r ≠ 0) (hfit : J.L.a + spanR r ≤ J.L.e)
    {X : R08Disk} (hX : X.Base = J.L.D.Base) {j : Nat} (hq : X.Queue = itemsAt J.L.a ((secsN J.L.st (closeN r)).take j)) (keep : List Int) :
    ∃ rs', (rs' = rs ∨ rs' = rs ++ [r]) ∧ Finds (dPower X keep) m J.z (fl + rs.length + 1) g g fl c rs' := by
  have hlog := jf_log h
  have hfl := h.ok.b
  have hz : 1 ≤ J.z ∧ J.z ≤ 255 ∧ 2 * J.z ≤ m := jok_z (J := ⟨calmL J.L, J.z, J.r⟩) h.ok
  have hbd := spanR_bd r
  have he : J.L.e = m := h.ok.e
  have ha := hlog.a
  have hle := endPos_le rs (2 * J.z)
  have hst := hlog.st
  have hk0 := hlog.pos
  have hll : ((secsN J.L.st (closeN r)).length : Int) = spanR r := by rw [secsN_len]; show ((spanR r).toNat : Int) = _; omega
  obtain ⟨t1, t2, t3, t4⟩ := torn_facts (D := J.L.D) (X := X) hlog.base hlog.q h.sec (a := J.L.a) (l := secsN J.L.st (closeN r)) (by omega) (secs_ok (close_bytes hb)) (by omega) hX hq keep
  have hk := keeps_torn hlog (close_bytes hb) hsp hfit hX hq keep
  have e1 : fl + 1 - 1 = fl := by omega
  rw [e1, he] at hk
  have hslot : SlotOk (dPower X keep) m 0 J.z g (numB fl.toNat ++ c) := slotOk_congr h.ok.slot t1 (fun i h5 h6 => t3 i h5 (by omega) (by omega))
  refine ⟨_, hk, ⟨t2, slotW_of hslot h.ok.g0, ?_, by omega, fun i h5 h6 => ?_, rfl⟩⟩
  · rw [calm_power, slotOk_top hslot]
    exact Int.le_refl _
  · by_cases hin : J.L.a ≤ i ∧ i < J.L.a + spanR r
    · obtain ⟨n, rfl⟩ : ∃ n : Nat, i = J.L.a + n := ⟨(i - J.L.a).toNat, by omega⟩
      obtain ⟨q, q1, q2, q3⟩ := t4 n (by omega)
      have e2 : (secsN J.L.st (closeN r)).getD n [] = madeN n (spanN (closeN r).length) J.L.st (pieceN (closeN r) n) := by
        rw [List.getD_eq_getElem?_getD, secsN_get _ _ n (by show n < (spanR r).toNat; omega)]; rfl
      have hmk := numK_made (st := J.L.st) (by omega) n (spanN (closeN r).length) (pieceN (closeN r) n) (pieceN_le _ n)
      have hlow := hlog.low (J.L.a + n) (by omega) (by omega)
      rw [q3, e2]
      have hbd2 : 0 ≤ spanN (closeN r).length ∧ spanN (closeN r).length ≤ 255 := spanN_bd _
      have := numK_mix (n := q) q2 (made_ok (i := n) (st := J.L.st) (by omega) (by omega) (pieceN_le (closeN r) n) (piece_bytes (close_bytes hb) n)) q1 (by rw [hmk]; omega)
      omega
    · rw [t3 i (by omega) h6 (by omega)]
      have := logOk_top h.ok.log i h5 (by show i < J.L.e; omega)
      have e : secAt (calmL J.L).D i = secAt J.L.D i := rfl
      rw [e] at this
      omega
end Go.Proofs.Ytnmjcdlgfimnaaa
namespace Go.Proofs.Ytnmjcdlgfimnaaa
theorem finds_com {J : JourS} {m : Nat} {g fl : Int} {c : List Int} {rs : List (List Int)} (h : JF J m g fl c rs) (hg : g + 1 < 4611686018427387904) {c2 : List Int} (hb : ∀ x ∈ c2, 0 ≤ x ∧ x ≤ 255)
    (hc : spanN (closeN (numB (fl + rs.length).toNat ++ c2)).length ≠ 0 ∧ spanN (closeN (numB (fl + rs.length).toNat ++ c2)).length ≤ J.z)
    {X : R08Disk} (hX : X.Base = J.L.D.Base) {j : Nat} (hq : X.Queue = itemsAt (0 + J.z * ((g + 1) % 2)) ((secsN (g + 1) (closeN (numB (fl + rs.length).toNat ++ c2))).take j)) (keep : List Int) :
    ∃ g' fl' c' rs', ((c' = c ∧ rs' = rs) ∨ (c' = c2 ∧ rs' = [])) ∧ Finds (dPower X keep) m J.z (fl + rs.length) (g + 1) g' fl' c' rs' := by
  have hfl := h.ok.b
  have hz : 1 ≤ J.z ∧ J.z ≤ 255 ∧ 2 * J.z ≤ m := jok_z (J := ⟨calmL J.L, J.z, J.r⟩) h.ok
  have he : J.L.e = m := h.ok.e
  have hlog := h.ok.log
  obtain ⟨hs, htop, hsec, hout⟩ := slot_torn (D := calm J.L.D) h.ok.slot h.sec h.ok.g0 hg hc (cont_bytes hb) hX hq keep
  have hout : ∀ i : Int, 0 ≤ i → i < m → (i < 0 ∨ 0 + 2 * J.z ≤ i) → secAt (dPower X keep) i = secAt (calm J.L.D) i := hout
  have hlow : ∀ i : Int, 2 * J.z ≤ i → i < m → numK (secAt (dPower X keep) i) 8 ≤ fl + rs.length := fun i h5 h6 => by
    rw [hout i (by omega) h6 (by omega)]
    have := logOk_top hlog i h5 (by show i < J.L.e; omega)
    have e : secAt (calmL J.L).D i = secAt (calm J.L.D) i := rfl
    rw [e] at this
    omega
  rcases hs with hs | hs
  · refine ⟨g, fl, c, rs, .inl ⟨rfl, rfl⟩, ⟨hsec, hs, htop, by omega, hlow, ?_⟩⟩
    have hle := endPos_le rs (2 * J.z)
    have ha : J.L.a = endPos (2 * J.z) rs := hlog.a
    have hae : J.L.a ≤ J.L.e := hlog.le
    have hlog2 : LogOk ⟨dPower X keep, J.L.a, J.L.e, J.L.st⟩ m (2 * J.z) (fl + 1) rs := by
      refine ⟨hs.quiet, hlog.a, hlog.pos, hlog.le, hlog.e, hlog.st, hlog.stb, ?_, fun i h5 h6 => ?_⟩
      · exact placed_congr (D := calm J.L.D) (E := dPower X keep) rs _ _ (fun i h5 h6 => hout i (by omega) (by omega) (by omega)) hlog.placed
      · have h5' : J.L.a ≤ i := h5
        have h6' : i < J.L.e := h6
        show numK (secAt (dPower X keep) i) 8 ≤ _
        rw [hout i (by omega) (by omega) (by omega)]
        exact hlog.low i h5 h6
    have := logOk_recs hlog2
    have e1 : fl + 1 - 1 = fl := by omega
    rw [e1] at this
    simp only at this
    rw [he] at this
    rw [this]
  · refine ⟨g + 1, fl + rs.length, c2, [], .inr ⟨rfl, rfl⟩, ⟨hsec, hs, htop, by omega, hlow, ?_⟩⟩
    have := (open_fresh (E := dPower X keep) (m := m) hs.quiet (k := 2 * J.z) (e := m) (fl := fl + rs.length) (by omega) (by omega) (Int.le_refl _) hlow (by omega)).1
    rw [this]
theorem reopen {E : R08Disk} {m : Nat} {z B G g fl : Int} {c : List Int} {rs : List (List Int)} (hf : Finds E m z B G g fl c rs) (hB : B ≤ 1152921504606846975) (hG : G + 2 < 4611686018427387904) (hcb : ∀ x ∈ c, 0 ≤ x ∧ x ≤ 255) :
    (1 ≤ (openL E (2 * z) m fl).st ∧ (openL E (2 * z) m fl).st ≤ B + 1) ∧
    ((slWrite E 0 z (numB ((openL E (2 * z) m fl).st - 1).toNat ++ c)).2.2 = 0 →
      ∃ g', g' ≤ G + 2 ∧ JF (jCom ⟨openL E (2 * z) m fl, z, false⟩ c) m g' ((openL E (2 * z) m fl).st - 1) c []) := by
  obtain ⟨h1, h2, h3, h4⟩ := hf.slot.right
  have hbase : E.Base.length = m := hf.slot.quiet.base
  have hq : E.Queue = [] := hf.slot.quiet.q
  have hflb := hf.flb
  have htk := sTop_ok (D := E) ((m : Int) - 2 * z).toNat (2 * z) 0 (by omega) (by omega)
  have ht0 : 0 ≤ (topN E (2 * z) m).1 := htk.2.1
  have htB : (topN E (2 * z) m).1 ≤ B := by
    unfold topN
    exact sTop_le _ _ 0 (fun i h5 h6 => hf.low i h5 (by omega)) (by omega) (by omega) (by omega)
  have hst : (openL E (2 * z) m fl).st = max fl (topN E (2 * z) m).1 + 1 := w_u64 _ (by omega) (by omega)
  have hstamps : ∀ i : Int, 2 * z ≤ i → i < m → numK (secAt E i) 8 ≤ (openL E (2 * z) m fl).st - 1 := fun i h5 h6 => by
    have h7 := htk.2.2 i h5 (by omega)
    have h8 : numK (secAt E i) 8 ≤ (topN E (2 * z) m).1 := h7
    omega
  refine ⟨by omega, fun hw => ?_⟩
  have hLD : (openL E (2 * z) m fl).D = E := rfl
  rw [jCom_eq]
  simp only [hLD]
  rw [hbase]
  have hstb : 1 ≤ (openL E (2 * z) m fl).st ∧ (openL E (2 * z) m fl).st ≤ B + 1 := by omega
  clear hst htk
  generalize (openL E (2 * z) m fl).st = st at *
  have hr : rightB E 0 z = true := rightB_iff.2 ⟨Int.le_refl _, h2, h3, by omega⟩
  have hc : spanN (closeN (numB (st - 1).toNat ++ c)).length ≠ 0 ∧ spanN (closeN (numB (st - 1).toNat ++ c)).length ≤ z := by
    refine Classical.byContradiction fun hn => ?_
    have : slWrite E 0 z (numB (st - 1).toNat ++ c) = (E, 0, 111) := by
      unfold slWrite
      rw [if_neg (fun h5 => hn ⟨h5.2.1, h5.2.2⟩)]
    rw [this] at hw
    simp at hw
  obtain ⟨n1, n2⟩ := slotW_next hf.slot
  have htop := hf.top
  have hgt := hf.slot.top
  have hgb := hf.slot.gb
  have hnx : nextG (calm E) 0 z = nextG E 0 z := calm_next _ _ _
  rw [hnx] at n1 n2
  obtain ⟨w1, w2, w3⟩ := slotW_write hf.slot (by omega) (numB (st - 1).toNat ++ c) hc
  rw [hnx] at w1 w2
  rcases slw_sim hr hc (by omega) with ⟨p1, p2, p3⟩ | ⟨p1, _⟩
  · refine ⟨nextG E 0 z, by omega, ⟨?_, ?_⟩⟩
    · show JOk ⟨calmL (openL _ _ _ _), z, true⟩ _ _ _ _ _
      rw [calm_openL, p2]
      obtain ⟨f1, f2, f3⟩ := open_fresh (E := (slWrite (calm E) 0 z (numB (st - 1).toNat ++ c)).1) (m := m) w2.quiet (k := 2 * z) (e := m) (fl := st - 1) (by omega) (by omega) (Int.le_refl _) (fun i h5 h6 => by
        rw [w3 i (by omega) h6 (by omega)]
        exact hstamps i h5 h6) (by omega)
      rw [f2]
      exact ⟨w2, f3, rfl, rfl, by omega, by simp only [List.length_nil]; omega⟩
    · show ∀ s ∈ (slWrite E 0 z (numB (st - 1).toNat ++ c)).1.Base, SecOk s
      rw [p3, hq, List.nil_append]
      have hsp := spanN_bd (closeN (numB (st - 1).toNat ++ c)).length
      have hp : 0 ≤ z * (nextG E 0 z % 2) ∧ z * (nextG E 0 z % 2) + z ≤ 2 * z := by rcases par2 (nextG E 0 z) with ⟨e, _⟩ | ⟨e, _⟩ <;> rw [e] <;> omega
      refine sec_land (by omega) hf.sec (secs_ok (cont_bytes hcb)) ?_ _
      rw [secsN_len]
      omega
  · rw [p1] at hw
    simp at hw
theorem jf_fuse {J : JourS} {m : Nat} {g fl : Int} {c : List Int} {rs : List (List Int)} (h : JF J m g fl c rs) (n : Int) : JF ⟨⟨dFuse J.L.D n, J.L.a, J.L.e, J.L.st⟩, J.z, J.r⟩ m g fl c rs := ⟨h.ok, h.sec⟩
end Go.Proofs.Ytnmjcdlgfimnaaa
namespace Go.Proofs.Ytnmjcdlgfimnaaa
theorem quiet_calm {D : R08Disk} {m : Nat} (h : Quiet D m) : Quiet (calm D) m := ⟨calm_burns D, rfl, h.base, h.q, h.ok⟩
theorem jok_calm {J : JourS} {m : Nat} {g fl : Int} {c : List Int} {rs : List (List Int)} (h : JOk J m g fl c rs) : JOk ⟨calmL J.L, J.z, J.r⟩ m g fl c rs := by
  have l := h.log
  exact ⟨slotOk_congr h.slot (quiet_calm h.slot.quiet) (fun _ _ _ => rfl), ⟨quiet_calm l.quiet, l.a, l.pos, l.le, l.e, l.st, l.stb, placed_congr (D := J.L.D) (E := calm J.L.D) rs _ _ (fun j _ _ => rfl) l.placed, l.low⟩, h.e, h.r, h.g0, h.b⟩
theorem jf_new {n z : Int} (h : 1 ≤ z ∧ z ≤ 255 ∧ 2 * z < n) (hn : n ≤ 2048) {c : List Int} (hb : ∀ x ∈ c, 0 ≤ x ∧ x ≤ 255) (hc : spanN (closeN (numB 0 ++ c)).length ≠ 0 ∧ spanN (closeN (numB 0 ++ c)).length ≤ z) : JF (jNew (dBlank n) z c) n.toNat 1 0 c [] := by
  obtain ⟨h1, h2, h3, h4⟩ := jok_new h hn c hc
  refine ⟨jok_calm h3, ?_⟩
  have hbl : ((dBlank n).Base.length : Int) = n := blank_len (by omega) (by omega)
  have hw : slWrite (dBlank n) 0 z (numB 0 ++ c) = slWrite (dBlank n) 0 z (numB ((openL (dBlank n) (2 * z) (dBlank n).Base.length 0).st - 1).toNat ++ c) := by rw [h1]; rfl
  have hD : (jNew (dBlank n) z c).L.D = (slWrite (dBlank n) 0 z (numB 0 ++ c)).1 := by rw [hw]; rfl
  rw [hD]
  have hs := slotOk_blank (n := n) (k := 0) (z := z) (Int.le_refl _) h.1 h.2.1 (by omega) hn
  have hnx : nextG (dBlank n) 0 z = 1 := slotOk_next hs (fun _ => slotOk_zero)
  have hr : rightB (dBlank n) 0 z = true := slotOk_right hs
  rcases slw_sim hr hc (by omega) with ⟨p1, p2, p3⟩ | ⟨p1, _⟩
  · rw [p3, hnx]
    have hsp := spanN_bd (closeN (numB 0 ++ c)).length
    have hq : (dBlank n).Queue = [] := rfl
    rw [hq, List.nil_append]
    refine sec_land (by omega) ?_ (secs_ok (cont_bytes hb)) ?_ _
    · intro s hs
      simp only [dBlank, List.mem_replicate] at hs
      rw [hs.2]
      exact zeros_ok
    · rw [secsN_len]
      omega
  · rw [← hw] at h2
    rw [p1] at h2
    simp at h2
theorem jf_len {J : JourS} {m : Nat} {g fl : Int} {c : List Int} {rs : List (List Int)} (h : JF J m g fl c rs) : rs.length ≤ m := by
  have hlog := jf_log h
  have h1 := placed_len rs _ _ hlog.placed
  have h2 := hlog.a
  have h3 := hlog.le
  have h4 := hlog.e
  have h5 := hlog.pos
  omega
theorem finds_up {E : R08Disk} {m : Nat} {z B G B' G' g fl : Int} {c : List Int} {rs : List (List Int)} (h : Finds E m z B G g fl c rs) (hB : B ≤ B') (hG : G ≤ G') : Finds E m z B' G' g fl c rs :=
  ⟨h.sec, h.slot, Int.le_trans h.top hG, ⟨h.flb.1, Int.le_trans h.flb.2 hB⟩, fun j h1 h2 => Int.le_trans (h.low j h1 h2) hB, h.recs⟩
theorem GLe.frz {s : SymSt} {id : Nat} {α : Type} {A : Rep α} {l : List α} (hm : getM s.mem id = some (.arr A l)) : GLe (s.freeze id (.dat (.slice A) l)) s :=
  ⟨rfl, fun R G γ a w hs => by
    obtain ⟨G1, hg1, hs1, _⟩ := hs.freeze hm
    exact ⟨G1, γ, hg1, hs1⟩⟩
theorem loopK_frz {ι : Type} {ok : ι → Prop} {St : ι → SymSt} {μ : ι → Nat} {i : ι} {K : KC} {s : SymSt} {α : Type} {A : Rep α} {l : List α} (id : Nat) (hm : getM s.mem id = some (.arr A l)) (h : loopK ok St μ i K .normal (s.freeze id (.dat (.slice A) l))) : loopK ok St μ i K .normal s := by
  unfold loopK at h ⊢
  obtain ⟨j, h1, h2, h3⟩ := h
  exact ⟨j, h1, h2, h3.trans (GLe.frz hm)⟩
end Go.Proofs.Ytnmjcdlgfimnaaa
namespace Go.Proofs.Ytnmjcdlgfimnaaa
theorem Simm.swap {R : Fr} {G : Hp} {γ : Nat → Value} {s : SymSt} {a : Act} {w : World} (hs : Simm R G γ s a w) {id : Nat} {b b' : Box} (hm : getM s.mem id = some b) (h : ∀ v f, b.at G γ v f → b'.at G γ v f) : Simm R G γ (s.setBox id b') a w := by
  obtain ⟨fr, hmf⟩ := hs.mem
  obtain ⟨hnd, hpin, hat, hok⟩ := hmf
  refine ⟨hs.sl, ⟨fr, ?_, hpin, ?_, ?_⟩, hs.df, hs.pn⟩
  · show (idsM (setM s.mem id b')).Nodup
    rw [setM_ids]; exact hnd
  · intro e he
    rcases setM_mem hnd he with rfl | ⟨h1, _⟩
    · exact h _ _ (hat _ (getM_mem hm))
    · exact hat _ h1
  · show Ok w G R (idsM (setM s.mem id b')) fr
    rw [setM_ids]; exact hok
theorem GLe.nilbox {s : SymSt} {id d : Nat} {α : Type} {A : Rep α} {x : LV} (hr : s.room d) (hm : getM (s.add d (.arr A [])).mem id = some (.segs [x, .nils])) : GLe ((s.add d (.arr A [])).setBox id (.segs [x, .own d])) s := by
  refine ⟨rfl, fun R G γ a w hs => ⟨G, updG γ d (.slice none 0 0), Hp.le_refl G, ?_⟩⟩
  have h1 := hs.addNothing (d := d) hr (v := .slice none 0 0) (b := .arr A []) (.inr ⟨rfl, ⟨none, rfl⟩, rfl⟩)
  refine h1.swap hm fun v f hb => ?_
  obtain ⟨b, t, cs, e1, e2, h2⟩ := hb
  refine ⟨b, t, cs, e1, e2, ?_⟩
  obtain ⟨c1, c2, rfl, h3, c3, c4, rfl, h4, h5⟩ := h2
  refine ⟨c1, c3 ++ c4, rfl, h3, c3, c4, rfl, ?_, h5⟩
  simp only [LV.rel] at h4 ⊢
  rw [h4, updG_same]
  exact ⟨rfl, rfl⟩
theorem loop_nilbox {E : Env} {x : Code} {s : SymSt} {K : KC} {α : Type} (A : Rep α) {y : LV} (id d : Nat) (hr : s.room d) (hm : getM (s.add d (.arr A [])).mem id = some (.segs [y, .nils]))
    (h : vcCode E (.loop x) ((s.add d (.arr A [])).setBox id (.segs [y, .own d])) K) : vcCode E (.loop x) s K := by
  obtain ⟨ι, ok, St, μ, ⟨i, hi, hle⟩, hro⟩ := h
  exact ⟨ι, ok, St, μ, ⟨i, hi, hle.trans (GLe.nilbox hr hm)⟩, hro⟩
theorem openN_le (b : List Int) : (openN b).1.length ≤ b.length := by
  unfold openN
  split
  · exact Nat.zero_le _
  · split
    · simp only [List.length_take]; omega
    · exact Nat.zero_le _
theorem slRead_le {D : R08Disk} (hG : ∀ k, SecOk (dGet D k).1) (k z : Int) : (slRead D k z).1.length ≤ 13515 := by
  have hst : ∀ (i : Int) (q : List Int × Int), q.1.length ≤ 13515 → (standS D k z i q).1.length ≤ 13515 := fun i q hq => by
    unfold standS
    split
    · have h1 := openN_le (sRead D (k + z * i) (k + z * i + z)).1
      have h2 := sRead_le hG (k + z * i) (k + z * i + z)
      simp only
      omega
    · exact hq
  have hacc : (accS D k z 2).1.length ≤ 13515 := hst 1 _ (hst 0 _ (Nat.zero_le _))
  unfold slRead
  split
  · split
    · exact Nat.zero_le _
    · exact hacc
  · exact Nat.zero_le _
theorem finds_len {E : R08Disk} {m : Nat} {z B G g fl : Int} {c : List Int} {rs : List (List Int)} (h : Finds E m z B G g fl c rs) : slRead E 0 z = (numB fl.toNat ++ c, g, 0) ∧ c.length ≤ 13515 ∧ E.Base.length = m ∧ E.Queue = [] := by
  have hq : E.Queue = [] := h.slot.quiet.q
  have hs : slRead E 0 z = (numB fl.toNat ++ c, g, 0) := by rw [← calm_slRead]; exact h.slot.read
  have h1 := slRead_le (D := E) (dGet_ok h.sec (by rw [hq]; simp)) 0 z
  rw [hs] at h1
  simp only [List.length_append] at h1
  exact ⟨hs, by omega, h.slot.quiet.base, hq⟩
def jComG (J : JourS) (c : List Int) : JourS := ⟨⟨(slWrite J.L.D 0 J.z (numB (J.L.st - 1).toNat ++ c)).1, J.L.a, J.L.e, J.L.st⟩, J.z, if (slWrite J.L.D 0 J.z (numB (J.L.st - 1).toNat ++ c)).2.2 = 82 then false else J.r⟩
set_option linter.unusedSimpArgs false
set_option linter.unusedVariables false
set_option maxRecDepth 20000
attribute [local irreducible] vcOps vcCode vcA vcSch Wc
set_option maxHeartbeats 8000000
theorem jComG_con : ConJ 69 (.pair (.slice (.int .u8)) .unit)
    (fun J x => (1 ≤ J.L.st ∧ J.L.st ≤ 1152921504606846977) ∧ x.1.length ≤ 12288 ∧ J.L.D.Queue.length ≤ 900000 ∧ (slWrite J.L.D 0 J.z (numB (J.L.st - 1).toNat ++ x.1)).2.2 ≠ 0)
    (fun J x => [.int .i64 (slWrite J.L.D 0 J.z (numB (J.L.st - 1).toNat ++ x.1)).2.2]) (fun J x => jComG J x.1) :=
  ⟨isfn69, fun _ _ => rfl, fun J x h => jComF_fn J x.1 h.1 h.2.1 h.2.2.1 h.2.2.2⟩
end Go.Proofs.Ytnmjcdlgfimnaaa
