/- The row of JournalRuns: its contract, read off the row's own form. -/
import Derived.Test.YtnmjcdlgfimnaaaRows
import Derived.Test.YtnmjcdlgfimnaaaA6
import Derived.Test.YtnmjcdlgfimnaaaEn
import Derived.Test.YtnmjcdlgfimnaaaL12e
namespace Go.Proofs.Ytnmjcdlgfimnaaa.journalRuns
open Go.ChangeShapes Go.WideShapes Go.ChangeAt Go.RowKit Go.Proofs.Ytnmjcdlgfimnaaa
set_option linter.unusedVariables false
theorem own : ownKnob Try.prog.godebug = none := by kernel_rfl
theorem laidOut : laidOutB Try.prog = true := by kernel_rfl
set_option maxRecDepth 100000 in
theorem lifted (os : Os) (started : os.Started) (H : Type) (enc : TypeId × Value → H) :
    ReturnsInHanded {} Try.checked os 22 .any (Rows.journalRunsSpec.pre6 enc Try.prog Try.f22 Rows.journalRunsRow.domain false) (Rows.journalRunsSpec.post enc Try.prog Try.f22 false true false false) := by
 refine returnsInHanded_of_change (C := Try.checked) own started (by kernel_rfl) Try.func22
  (ChangeSpec.witness6 (enc := enc) (C := Try.checked) false ⟨#[], #[.agg #[.int .i64 0, .int .i64 0], .slice none 0 0, .slice none 0 0], []⟩ 8 (by kernel_rfl) (by kernel_rfl) (by kernel_rfl) (by kernel_rfl)) ?_
 intro W base args ds gs before hval0 hW hcnd _
 have hval : ∀ (j : Nat) t v, Try.f22.params[j]? = some t → args[j]? = some v → Value.okWide Try.prog W .any base t v := hval0
 have hW' := hW
 obtain ⟨p, q, hA0, hV, rfl, hfz, hnd⟩ := hW
 have hA : DataW.TrodAll enc Try.prog W 0 (fun _ => true) true Try.f22.params.toList args.toList ds p := hA0
 rw [Try.params22] at hA hval
 obtain ⟨v0, vs0, d0, ds0, p0, q0, hargs, rfl, rfl, h0, r0⟩ := trodAll_cons hA
 obtain ⟨v1, vs1, d1, ds1, p1, q1, rfl, rfl, rfl, h1, r1⟩ := trodAll_cons r0
 obtain ⟨v2, vs2, d2, ds2, p2, q2, rfl, rfl, rfl, h2, r2⟩ := trodAll_cons r1
 obtain ⟨rfl, rfl, rfl⟩ := trodAll_nil r2
 obtain rfl : args = #[v0, v1, v2] := by cases args; simp_all
 obtain ⟨rfl, rfl⟩ := trodVars_none hV
 obtain ⟨x0, e0⟩ := Qll (.arr 2 (.int .i64)) (t := 66) (by simp only [Rep.fits]; exact ⟨3, Try.underlying66, by kernel_rfl, by kernel_rfl, Try.underlying3⟩) (by rw [Try.underlying66]; rfl) (hval 0 66 v0 rfl rfl) h0
 have lt0 : ∀ x ∈ p0, x.block < W.heap.size := by obtain ⟨m, hm⟩ := h0; exact DataW.trod_lt m _ _ _ hm
 obtain ⟨x1, e1⟩ := Qll (.slice (.int .u8)) (t := 60) (by simp only [Rep.fits]; exact ⟨5, Try.underlying60, by kernel_rfl, by decide, Try.underlying5⟩) (by rw [Try.underlying60]; rfl) (hval 1 60 v1 rfl rfl) h1
 have lt1 : ∀ x ∈ p1, x.block < W.heap.size := by obtain ⟨m, hm⟩ := h1; exact DataW.trod_lt m _ _ _ hm
 obtain ⟨x2, e2⟩ := Qll (.slice Qce) (t := 116) (by simp only [Rep.fits, Qce, Qmb]; exact ⟨121, Try.underlying116, by kernel_rfl, by decide, ⟨_, Try.underlying121, by kernel_rfl, _, _, rfl, rfl, by kernel_rfl, Try.underlying3, ⟨_, _, rfl, rfl, by kernel_rfl, Try.underlying3, ⟨_, _, rfl, rfl, by kernel_rfl, ⟨5, Try.underlying60, by kernel_rfl, by decide, Try.underlying5⟩, ⟨_, _, rfl, rfl, by kernel_rfl, ⟨3, Try.underlying32, by kernel_rfl, by decide, Try.underlying3⟩, rfl⟩⟩⟩⟩⟩) (by rw [Try.underlying116]; rfl) (hval 2 116 v2 rfl rfl) h2
 have lt2 : ∀ x ∈ p2, x.block < W.heap.size := by obtain ⟨m, hm⟩ := h2; exact DataW.trod_lt m _ _ _ hm
 clear hA0 hval0
 refine ((jRuns_con.h (x0, x1, x2, ()) trivial).calls (vs := [v0, v1, v2]) ⟨v0, [v1, v2], rfl, e0, v1, [v2], rfl, e1, v2, [], rfl, e2, rfl⟩).mono fun e W' ⟨he, kp⟩ => ?_
 subst he
 have bel := kp.below
 exact ⟨_, rfl, ChangeSpec.post_alike (W'' := { W' with tape := W.tape }) ⟨_, _, _, [], _, [], hW', trodAll_mk1 (shut_bool Try.underlying4 _), (trodAll_cons_mk (Below.trod laidOut (by kernel_rfl) (of_decide_eq_true (by kernel_rfl)) h0 bel lt0) (trodAll_cons_mk (Below.trod laidOut (by kernel_rfl) (of_decide_eq_true (by kernel_rfl)) h1 bel lt1) (trodAll_cons_mk (Below.trod laidOut (by kernel_rfl) (of_decide_eq_true (by kernel_rfl)) h2 bel lt2) trodAll_mk0))), rfl, bel.frame _, fun h => by cases h⟩ ⟨rfl, rfl, rfl⟩⟩
set_option maxRecDepth 100000 in
theorem joined : joinedFacts Try.prog 22 Try.f22 Rows.journalRunsSpec Rows.journalRunsRow = true := by
 unfold joinedFacts; rw [may_enter, lifts_final, make_cut]; kernel_rfl
theorem over : Rows.journalRunsRow.holds Try.pinned (OpenSpec.ofChange Rows.journalRunsSpec) :=
 OpenClaim.holds_of_wide 22 Try.f22 rfl rfl rfl rfl rfl rfl rfl ⟨rfl, rfl, rfl, rfl, rfl⟩ rfl rfl rfl rfl rfl (by kernel_rfl) Try.func22 joined
  (of_decide_eq_true (by kernel_rfl)) (by unfold Func.isWrapper; first | (rw [if_pos (by decide +kernel)]; kernel_rfl) | (rw [if_neg (by decide +kernel)]; exact ⟨rfl, rfl⟩))
  (fun os started H enc _ => lifted os started H enc)
theorem proved : Rows.JournalRunsSaid := over
#print axioms proved
end Go.Proofs.Ytnmjcdlgfimnaaa.journalRuns
