/- The law falsework/falseworklaw23.BookNames returns true, on every schedule, and leaves all that was there as it was: it has no argument; its one run is reckoned by the kernel, through an evaluator that is proved to agree with the model. Conditions: none. -/
import Derived.Test.YtclgglffbpfmhaaGreatRows
import Derived.WalkKit
import Derived.ProofKit
import Derived.OpenShut
import Derived.Test.YtclgglffbpfmhaaGreatEm
import Derived.Test.YtclgglffbpfmhaaGreatEn
import Derived.Test.YtclgglffbpfmhaaGreatRnBookNames
namespace Go.Proofs.YtclgglffbpfmhaaGreat.bookNames
open Go.ChangeShapes Go.WideShapes Go.ChangeAt Go.RowKit

theorem own : ownKnob Tryz.prog.godebug = none := by kernel_rfl

theorem walk (w : World) : Calls Tryz.prog 5 #[] w fun e w' => e = .returned (.bool true) ∧ ((∀ b, b < w.heap.size → w'.heap[b]? = w.heap[b]?) ∧ w'.os = w.os ∧ w'.output = w.output) :=
  true_sound named mixed (trueF_eq runBookNames) w

set_option maxRecDepth 100000 in
theorem lifted (os : Os) (started : os.Started) (H : Type) (enc : TypeId × Value → H) :
    ReturnsInHanded {} Tryz.checked os 5 .any (Rows.bookNamesSpec.pre6 enc Tryz.prog Tryz.f5 Rows.bookNamesRow.domain false) (Rows.bookNamesSpec.post enc Tryz.prog Tryz.f5 false true false false) := by
  refine returnsInHanded_of_change (C := Tryz.checked) own started (by kernel_rfl) Tryz.func5
    (ChangeSpec.witness6 (enc := enc) (C := Tryz.checked) false ⟨#[], #[], []⟩ 8 (by kernel_rfl) (by kernel_rfl) (by kernel_rfl) (by kernel_rfl)) ?_
  intro W base args ds gs before hval0 hW hcnd _
  have hval : ∀ (j : Nat) t v, Tryz.f5.params[j]? = some t → args[j]? = some v → Value.okWide Tryz.prog W .any base t v := hval0
  have hW' := hW
  obtain ⟨p, q, hA0, hV, rfl, hfz, hnd⟩ := hW
  have hA : DataW.TrodAll enc Tryz.prog W 0 (fun _ => true) true Tryz.f5.params.toList args.toList ds p := hA0
  rw [Tryz.params5] at hA hval
  obtain ⟨rfl, rfl, rfl⟩ := trodAll_none hA
  obtain ⟨rfl, rfl⟩ := trodVars_none hV
  clear hA0 hval0
  simp only [List.append_nil] at hW'
  refine (walk  W).mono fun e W' ⟨he, hg⟩ => ?_
  subst he
  exact ⟨_, rfl, post_kept (pa := []) (pv := []) hW' (fun _ _ _ => (trodAll_cons_mk (shut_bool Tryz.underlying4 _) trodAll_mk0)) (fun sp _ => rfl) (fun _ _ => rfl) rfl hg.2.1 hg.2.2 hg.1
    (ok_one (by kernel_rfl) rfl (okWide_bool_mk Tryz.underlying4 _))⟩

set_option maxRecDepth 100000
theorem fact0 : (Rows.bookNamesRow.wf (OpenSpec.ofChange Rows.bookNamesSpec)) = true := by kernel_rfl
theorem fact1 : (laidOutB Tryz.prog) = true := by kernel_rfl
theorem fact2 : (mapsRowed Tryz.prog) = true := by kernel_rfl
theorem fact3 : (Tryz.f5.params.all (Tryz.prog.readableRec ·)) = true := by kernel_rfl
theorem fact4 : (namedTie Tryz.prog Rows.bookNamesRow.named Rows.bookNamesSpec.vars) = true := by kernel_rfl
theorem fact5 : ((Rows.bookNamesRow.stops == [])) = true := by kernel_rfl
theorem fact6 : ((Tryz.prog.stops == [])) = true := by kernel_rfl
theorem fact7 : ((Rows.bookNamesRow.knobs == [])) = true := by kernel_rfl
theorem fact8 : ((Tryz.prog.stopKnobs == [])) = true := by kernel_rfl
theorem facts : ((((Rows.bookNamesRow.inPlace == Tryz.prog.inPlace 5) && (Rows.bookNamesRow.unfollowed == Tryz.prog.unfollowed 5)) && (Rows.bookNamesRow.recurses == Tryz.prog.recurses 5)) && (Rows.bookNamesRow.named == Tryz.prog.varsNamed 5)) = true := by kernel_rfl
theorem fact9 : ((Rows.bookNamesRow.inPlace == Tryz.prog.inPlace 5)) = true := (Eq.mp (Bool.and_eq_true _ _) (Eq.mp (Bool.and_eq_true _ _) (Eq.mp (Bool.and_eq_true _ _) facts).1).1).1
theorem fact10 : ((Rows.bookNamesRow.unfollowed == Tryz.prog.unfollowed 5)) = true := (Eq.mp (Bool.and_eq_true _ _) (Eq.mp (Bool.and_eq_true _ _) (Eq.mp (Bool.and_eq_true _ _) facts).1).1).2
theorem fact11 : ((Rows.bookNamesRow.recurses == Tryz.prog.recurses 5)) = true := (Eq.mp (Bool.and_eq_true _ _) (Eq.mp (Bool.and_eq_true _ _) facts).1).2
theorem fact12 : ((Rows.bookNamesRow.named == Tryz.prog.varsNamed 5)) = true := (Eq.mp (Bool.and_eq_true _ _) facts).2
theorem fact13 : ((Rows.bookNamesRow.maps == (Tryz.f5.params.toList ++ Rows.bookNamesSpec.plain.varTypes Tryz.prog).any (Tryz.prog.mapsRec ·))) = true := by kernel_rfl
theorem fact14 : ((Rows.bookNamesRow.ifaces == (Tryz.f5.params.toList ++ Rows.bookNamesSpec.plain.varTypes Tryz.prog).any (Tryz.prog.ifacesRec ·))) = true := by kernel_rfl
theorem fact15 : ((Rows.bookNamesRow.mapsOut == Tryz.prog.mapsAmong Tryz.f5.resultTypes.toList)) = true := by kernel_rfl
theorem fact16 : ((Rows.bookNamesRow.loops == (Tryz.f5.params.toList ++ Rows.bookNamesSpec.plain.varTypes Tryz.prog).any (Tryz.prog.loopsFrom ·))) = true := by kernel_rfl
theorem fact17 : ((Rows.bookNamesRow.wideKeys == (Tryz.f5.params.toList ++ Rows.bookNamesSpec.plain.varTypes Tryz.prog ++ Tryz.f5.resultTypes.toList).any (Tryz.prog.wideKeysFrom ·))) = true := by kernel_rfl
theorem fact18 : (Rows.bookNamesSpec.vars.all (Tryz.prog.varReadable ·)) = true := by kernel_rfl
theorem fact19 : (Tryz.f5.resultTypes.all (fun t => Tryz.prog.readableRec t && decide (t < Tryz.prog.types.size))) = true := by kernel_rfl
theorem fact20 : ((Rows.bookNamesRow.ifacesOut == Tryz.f5.resultTypes.toList.any (Tryz.prog.ifacesRec ·))) = true := by kernel_rfl
theorem fact21 : ((Rows.bookNamesRow.loopsOut == Tryz.f5.resultTypes.toList.any (Tryz.prog.loopsFrom ·))) = true := by kernel_rfl
theorem fact22 : ((Rows.bookNamesRow.plainKeys == Tryz.prog.plainKeys)) = true := by kernel_rfl
theorem fact23 : (Rows.bookNamesRow.shortTexts.isNone) = true := by kernel_rfl
theorem fact24 : (Tryz.prog.stopsHeard) = true := by kernel_rfl
theorem fact25 : (Tryz.prog.mayEnter) = true := may_enter
theorem fact26 : ((Rows.bookNamesRow.lifted == Tryz.prog.liftsFinal)) = true := by rw [lifts_final]; rfl
theorem fact27 : ((Tryz.prog.make == some Rows.bookNamesRow.make)) = true := by rw [make_cut]; rfl
theorem fact28 : ((Rows.bookNamesRow.kinds == (if Rows.bookNamesRow.domain.isEmpty then [] else Tryz.f5.params.toList.map fun t => match Tryz.prog.underlying t with | some (.int k) => some k | _ => none))) = true := by kernel_rfl
theorem fact29 : ((Rows.bookNamesRow.pinned == Rows.bookNamesRow.pinnedBy)) = true := by kernel_rfl
theorem fact30 : ((Rows.bookNamesRow.veiled == (Tryz.f5.params.toList ++ Rows.bookNamesSpec.plain.varTypes Tryz.prog ++ Tryz.f5.resultTypes.toList).any (Tryz.prog.veiledRec ·))) = true := by kernel_rfl
theorem fact31 : (Rows.bookNamesRow.veiledFits Tryz.prog Tryz.f5.params.toList (Tryz.f5.params.toList ++ Rows.bookNamesSpec.plain.varTypes Tryz.prog ++ Tryz.f5.resultTypes.toList)) = true := by kernel_rfl
theorem joined : joinedFacts Tryz.prog 5 Tryz.f5 Rows.bookNamesSpec Rows.bookNamesRow = true := by
  unfold joinedFacts; simp only [Bool.and_eq_true]
  exact ⟨⟨⟨⟨⟨⟨⟨⟨⟨⟨⟨⟨⟨⟨⟨⟨⟨⟨⟨⟨⟨⟨⟨⟨⟨⟨⟨⟨⟨⟨⟨fact0, fact1⟩, fact2⟩, fact3⟩, fact4⟩, fact5⟩, fact6⟩, fact7⟩, fact8⟩, fact9⟩, fact10⟩, fact11⟩, fact12⟩, fact13⟩, fact14⟩, fact15⟩, fact16⟩, fact17⟩, fact18⟩, fact19⟩, fact20⟩, fact21⟩, fact22⟩, fact23⟩, fact24⟩, fact25⟩, fact26⟩, fact27⟩, fact28⟩, fact29⟩, fact30⟩, fact31⟩

theorem over : Rows.bookNamesRow.holds Tryz.pinned (OpenSpec.ofChange Rows.bookNamesSpec) :=
  OpenClaim.holds_of_wide 5 Tryz.f5 rfl rfl rfl rfl rfl rfl rfl ⟨rfl, rfl, rfl, rfl, rfl⟩ rfl rfl rfl rfl rfl (by kernel_rfl) Tryz.func5 joined
    (of_decide_eq_true (by kernel_rfl)) (by unfold Func.isWrapper; first | (rw [if_pos (by decide +kernel)]; kernel_rfl) | (rw [if_neg (by decide +kernel)]; exact ⟨rfl, rfl⟩))
    (fun os started H enc _ => lifted os started H enc)

theorem proved : Rows.BookNamesSaid :=
  over
#print axioms proved
end Go.Proofs.YtclgglffbpfmhaaGreat.bookNames
