/- The row of JournalKeeps: its contract, read off the row's own form. -/
import Derived.Test.YtnmjcdlgfimnaaaRows
import Derived.Test.YtnmjcdlgfimnaaaA6
import Derived.Test.YtnmjcdlgfimnaaaEn
import Derived.Test.YtnmjcdlgfimnaaaL12d
namespace Go.Proofs.Ytnmjcdlgfimnaaa.journalKeeps
open Go.ChangeShapes Go.WideShapes Go.ChangeAt Go.RowKit Go.Proofs.Ytnmjcdlgfimnaaa
set_option linter.unusedVariables false
theorem own : ownKnob Try.prog.godebug = none := by kernel_rfl
theorem laidOut : laidOutB Try.prog = true := by kernel_rfl
set_option maxRecDepth 100000 in
theorem lifted (os : Os) (started : os.Started) (H : Type) (enc : TypeId × Value → H) :
    ReturnsInHanded {} Try.checked os 21 .any (Rows.journalKeepsSpec.pre6 enc Try.prog Try.f21 Rows.journalKeepsRow.domain false) (Rows.journalKeepsSpec.post enc Try.prog Try.f21 false true false false) := by
  refine returnsInHanded_of_change (C := Try.checked) own started (by kernel_rfl) Try.func21
    (ChangeSpec.witness6 (enc := enc) (C := Try.checked) false ⟨#[], #[.int .i64 0, .slice none 0 0], []⟩ 8 (by kernel_rfl) (by kernel_rfl) (by kernel_rfl) (by kernel_rfl)) ?_
  intro W base args ds gs before hval0 hW hcnd _
  have hval : ∀ (j : Nat) t v, Try.f21.params[j]? = some t → args[j]? = some v → Value.okWide Try.prog W .any base t v := hval0
  have hW' := hW
  obtain ⟨p, q, hA0, hV, rfl, hfz, hnd⟩ := hW
  have hA : DataW.TrodAll enc Try.prog W 0 (fun _ => true) true Try.f21.params.toList args.toList ds p := hA0
  rw [Try.params21] at hA hval
  obtain ⟨v0, vs0, d0, ds0, p0, q0, hargs, rfl, rfl, h0, r0⟩ := trodAll_cons hA
  obtain ⟨v1, vs1, d1, ds1, p1, q1, rfl, rfl, rfl, h1, r1⟩ := trodAll_cons r0
  obtain ⟨rfl, rfl, rfl⟩ := trodAll_nil r1
  obtain rfl : args = #[v0, v1] := by cases args; simp_all
  obtain ⟨rfl, rfl⟩ := trodVars_none hV
  obtain ⟨x0, e0⟩ := arg_read (.int .i64) (t := 3) (by simp only [Rep.fits]; exact Try.underlying3) (by rw [Try.underlying3]; rfl) (hval 0 3 v0 rfl rfl) h0
  have lt0 : ∀ x ∈ p0, x.block < W.heap.size := by obtain ⟨m, hm⟩ := h0; exact DataW.trod_lt m _ _ _ hm
  have e0 := relV_int e0
  obtain ⟨x1, e1⟩ := arg_read (.slice rL12Act) (t := 116) (by simp only [Rep.fits, rL12Act, qL12Act]; exact ⟨121, Try.underlying116, by kernel_rfl, by decide, ⟨_, Try.underlying121, by kernel_rfl, _, _, rfl, rfl, by kernel_rfl, Try.underlying3, ⟨_, _, rfl, rfl, by kernel_rfl, Try.underlying3, ⟨_, _, rfl, rfl, by kernel_rfl, ⟨5, Try.underlying60, by kernel_rfl, by decide, Try.underlying5⟩, ⟨_, _, rfl, rfl, by kernel_rfl, ⟨3, Try.underlying32, by kernel_rfl, by decide, Try.underlying3⟩, rfl⟩⟩⟩⟩⟩) (by rw [Try.underlying116]; rfl) (hval 1 116 v1 rfl rfl) h1
  have lt1 : ∀ x ∈ p1, x.block < W.heap.size := by obtain ⟨m, hm⟩ := h1; exact DataW.trod_lt m _ _ _ hm
  clear hA0 hval0
  refine ((jKeeps_con.h (x0, x1, ()) trivial).calls (vs := [v0, v1]) ⟨v0, [v1], rfl, e0, v1, [], rfl, e1, rfl⟩).mono fun e W' ⟨he, kp⟩ => ?_
  subst he
  have bel := kp.below
  exact ⟨_, rfl, ChangeSpec.post_alike (W'' := { W' with tape := W.tape }) ⟨_, _, _, [], _, [], hW', trodAll_mk1 (shut_bool Try.underlying4 _), (trodAll_cons_mk (Below.trod laidOut (by kernel_rfl) (of_decide_eq_true (by kernel_rfl)) h0 bel lt0) (trodAll_cons_mk (Below.trod laidOut (by kernel_rfl) (of_decide_eq_true (by kernel_rfl)) h1 bel lt1) trodAll_mk0)), rfl, bel.frame _, fun h => by cases h⟩ ⟨rfl, rfl, rfl⟩⟩
set_option maxRecDepth 100000 in
theorem joined : joinedFacts Try.prog 21 Try.f21 Rows.journalKeepsSpec Rows.journalKeepsRow = true := by
  unfold joinedFacts; rw [may_enter, lifts_final, make_cut]; kernel_rfl
theorem over : Rows.journalKeepsRow.holds Try.pinned (OpenSpec.ofChange Rows.journalKeepsSpec) :=
  OpenClaim.holds_of_wide 21 Try.f21 rfl rfl rfl rfl rfl rfl rfl ⟨rfl, rfl, rfl, rfl, rfl⟩ rfl rfl rfl rfl rfl (by kernel_rfl) Try.func21 joined
    (of_decide_eq_true (by kernel_rfl)) (by unfold Func.isWrapper; first | (rw [if_pos (by decide +kernel)]; kernel_rfl) | (rw [if_neg (by decide +kernel)]; exact ⟨rfl, rfl⟩))
    (fun os started H enc _ => lifted os started H enc)
theorem proved : Rows.JournalKeepsSaid := over
#print axioms proved
end Go.Proofs.Ytnmjcdlgfimnaaa.journalKeeps
