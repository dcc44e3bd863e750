/- The row of JournalFloors: its contract, read off the row's own form. -/
import Derived.Test.YtnmjcdlgfimnaaaRows
import Derived.Test.YtnmjcdlgfimnaaaA6
import Derived.Test.YtnmjcdlgfimnaaaEn
import Derived.Test.YtnmjcdlgfimnaaaL12b
namespace Go.Proofs.Ytnmjcdlgfimnaaa.journalFloors
open Go.ChangeShapes Go.WideShapes Go.ChangeAt Go.RowKit Go.Proofs.Ytnmjcdlgfimnaaa
set_option linter.unusedVariables false
theorem own : ownKnob Try.prog.godebug = none := by kernel_rfl
theorem laidOut : laidOutB Try.prog = true := by kernel_rfl
set_option maxRecDepth 100000 in
theorem lifted (os : Os) (started : os.Started) (H : Type) (enc : TypeId × Value → H) :
    ReturnsInHanded {} Try.checked os 20 .any (Rows.journalFloorsSpec.pre6 enc Try.prog Try.f20 Rows.journalFloorsRow.domain false) (Rows.journalFloorsSpec.post enc Try.prog Try.f20 false true false false) := by
  refine returnsInHanded_of_change (C := Try.checked) own started (by kernel_rfl) Try.func20
    (ChangeSpec.witness6 (enc := enc) (C := Try.checked) false ⟨#[], #[.slice none 0 0, .slice none 0 0], []⟩ 8 (by kernel_rfl) (by kernel_rfl) (by kernel_rfl) (by kernel_rfl)) ?_
  intro W base args ds gs before hval0 hW hcnd _
  have hval : ∀ (j : Nat) t v, Try.f20.params[j]? = some t → args[j]? = some v → Value.okWide Try.prog W .any base t v := hval0
  have hW' := hW
  obtain ⟨p, q, hA0, hV, rfl, hfz, hnd⟩ := hW
  have hA : DataW.TrodAll enc Try.prog W 0 (fun _ => true) true Try.f20.params.toList args.toList ds p := hA0
  rw [Try.params20] at hA hval
  obtain ⟨v0, vs0, d0, ds0, p0, q0, hargs, rfl, rfl, h0, r0⟩ := trodAll_cons hA
  obtain ⟨v1, vs1, d1, ds1, p1, q1, rfl, rfl, rfl, h1, r1⟩ := trodAll_cons r0
  obtain ⟨rfl, rfl, rfl⟩ := trodAll_nil r1
  obtain rfl : args = #[v0, v1] := by cases args; simp_all
  obtain ⟨rfl, rfl⟩ := trodVars_none hV
  obtain ⟨x0, e0⟩ := arg_read (.slice (.slice (.int .u8))) (t := 85) (by simp only [Rep.fits]; exact ⟨60, Try.underlying85, by kernel_rfl, by decide, ⟨5, Try.underlying60, by kernel_rfl, by decide, Try.underlying5⟩⟩) (by rw [Try.underlying85]; rfl) (hval 0 85 v0 rfl rfl) h0
  have lt0 : ∀ x ∈ p0, x.block < W.heap.size := by obtain ⟨m, hm⟩ := h0; exact DataW.trod_lt m _ _ _ hm
  obtain ⟨x1, e1⟩ := arg_read (.slice (.slice (.int .u8))) (t := 85) (by simp only [Rep.fits]; exact ⟨60, Try.underlying85, by kernel_rfl, by decide, ⟨5, Try.underlying60, by kernel_rfl, by decide, Try.underlying5⟩⟩) (by rw [Try.underlying85]; rfl) (hval 1 85 v1 rfl rfl) h1
  have lt1 : ∀ x ∈ p1, x.block < W.heap.size := by obtain ⟨m, hm⟩ := h1; exact DataW.trod_lt m _ _ _ hm
  clear hA0 hval0
  refine ((jFloors_con.h (x0, x1, ()) trivial).calls (vs := [v0, v1]) ⟨v0, [v1], rfl, e0, v1, [], rfl, e1, rfl⟩).mono fun e W' ⟨he, kp⟩ => ?_
  subst he
  have bel := kp.below
  exact ⟨_, rfl, ChangeSpec.post_alike (W'' := { W' with tape := W.tape }) ⟨_, _, _, [], _, [], hW', trodAll_mk1 (shut_bool Try.underlying4 _), (trodAll_cons_mk (Below.trod laidOut (by kernel_rfl) (of_decide_eq_true (by kernel_rfl)) h0 bel lt0) (trodAll_cons_mk (Below.trod laidOut (by kernel_rfl) (of_decide_eq_true (by kernel_rfl)) h1 bel lt1) trodAll_mk0)), rfl, bel.frame _, fun h => by cases h⟩ ⟨rfl, rfl, rfl⟩⟩
set_option maxRecDepth 100000 in
theorem joined : joinedFacts Try.prog 20 Try.f20 Rows.journalFloorsSpec Rows.journalFloorsRow = true := by
  unfold joinedFacts; rw [may_enter, lifts_final, make_cut]; kernel_rfl
theorem over : Rows.journalFloorsRow.holds Try.pinned (OpenSpec.ofChange Rows.journalFloorsSpec) :=
  OpenClaim.holds_of_wide 20 Try.f20 rfl rfl rfl rfl rfl rfl rfl ⟨rfl, rfl, rfl, rfl, rfl⟩ rfl rfl rfl rfl rfl (by kernel_rfl) Try.func20 joined
    (of_decide_eq_true (by kernel_rfl)) (by unfold Func.isWrapper; first | (rw [if_pos (by decide +kernel)]; kernel_rfl) | (rw [if_neg (by decide +kernel)]; exact ⟨rfl, rfl⟩))
    (fun os started H enc _ => lifted os started H enc)
theorem proved : Rows.JournalFloorsSaid := over
#print axioms proved
end Go.Proofs.Ytnmjcdlgfimnaaa.journalFloors
