/- What is known of a disk that stands in memory. -/
import Derived.Test.YtnmjcdlgfimnaaaS9r
import Derived.Test.YtnmjcdlgfimnaaaA7
namespace Go.Proofs.Ytnmjcdlgfimnaaa
theorem secOk_enc {G : Hp} {s : List Int} {c : List Value} (h : (Rep.arr 64 (.int .u8)).enc G s c) : SecOk s := by
  have h1 := (Rep.enc_arr 64 (.int .u8) G s c).1 h
  refine ⟨h1.1, fun x hx => ?_⟩
  have h2 := ((encL_ints .u8 s G c).1 h1.2).2 x hx
  simpa [inK, IntKind.min, IntKind.max, IntKind.signed, IntKind.bits] using h2
theorem disk_facts {D : R08Disk} {G : Hp} {v : Value} {f : Hp} (h : (DiskO D).P G v f) : DWf D ∧ ∀ k, SecOk (dGet D k).1 := by
  obtain ⟨i, γ, fr, hok, _, _, _, hat, _⟩ := h
  refine ⟨hok.wf, fun k => ?_⟩
  have hm : (9001, Box.mpr (.arr 64 (.int .u8)) i.M i.V none) ∈ mmD i := by
    unfold mmD
    split <;> simp
  have hM : ∀ s ∈ i.M k, SecOk s := by
    obtain ⟨⟨r, es, clock, F, _, _, _, _, _, hrow, _⟩, _⟩ := hat _ hm
    rcases hrow k (by simp) with ⟨b, t, es, sp, c, _, _, hl, _⟩ | ⟨e, _⟩
    · exact EncL.all (fun x c hx => secOk_enc hx) hl
    · rw [e]; simp
  cases ht : dThere D k with
  | false => rw [get_none ht]; exact zeros_ok
  | true =>
    by_cases hz : (i.M k).length = 0
    · rw [get_zero hok.rows ht hz]; exact zeros_ok
    · rw [get_some hok.rows ht hz]
      exact hM _ (getD_mem _ _ _ (by omega))
theorem Spec_disk {f : FuncId} {args : List SV} {D : R08Disk} {tv : TV} {mem' : List (Nat × Box)} (hi : IsFn Cx.P f) (h : DWf D → (∀ k, SecOk (dGet D k).1) → Spec Cx.P f args [(1, .obj DiskO D)] tv mem') : Spec Cx.P f args [(1, .obj DiskO D)] tv mem' := by
  refine ⟨hi, fun R G γ w vs hpin hm hv => ?_⟩
  obtain ⟨fr, _, _, hat, _⟩ := id hm
  obtain ⟨h1, h2⟩ := disk_facts (hat (1, .obj DiskO D) (by simp))
  exact (h h1 h2).2 R G γ w vs hpin hm hv
theorem DWf.get {D : R08Disk} (h : DWf D) {k : Int} (h0 : 0 ≤ k) (h1 : k < D.Base.length) : (dGet D k).2 = 0 := by
  simp [dGet, dThere, h0, h1]
theorem get_ok {D : R08Disk} {k : Int} (h0 : 0 ≤ k) (h1 : k < D.Base.length) : (dGet D k).2 = 0 := by
  simp [dGet, dThere, h0, h1]
end Go.Proofs.Ytnmjcdlgfimnaaa
