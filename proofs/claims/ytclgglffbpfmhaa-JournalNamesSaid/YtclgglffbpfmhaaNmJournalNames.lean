/- The law falsework/falseworklaw12.JournalNames returns true, on every schedule, and leaves all that was there as it was: it has no argument; its one run is reckoned by the kernel, through an evaluator that is proved to agree with the model. Conditions: none. -/
import Derived.Test.YtclgglffbpfmhaaRows
import Derived.WalkKit
import Derived.ProofKit
import Derived.OpenShut
import Derived.Test.YtclgglffbpfmhaaEm
import Derived.Test.YtclgglffbpfmhaaEn
import Derived.Test.YtclgglffbpfmhaaRnJournalNames
namespace Go.Proofs.Ytclgglffbpfmhaa.journalNames
open Go.ChangeShapes Go.WideShapes Go.ChangeAt Go.RowKit

theorem own : ownKnob Try.prog.godebug = none := by kernel_rfl

theorem walk (w : World) : Calls Try.prog 8 #[] w fun e w' => e = .returned (.bool true) ∧ ((∀ b, b < w.heap.size → w'.heap[b]? = w.heap[b]?) ∧ w'.os = w.os ∧ w'.output = w.output) :=
  true_sound named mixed (trueF_eq runJournalNames) w

set_option maxRecDepth 100000 in
theorem lifted (os : Os) (started : os.Started) (H : Type) (enc : TypeId × Value → H) :
    ReturnsInHanded {} Try.checked os 8 .any (Rows.journalNamesSpec.pre6 enc Try.prog Try.f8 Rows.journalNamesRow.domain false) (Rows.journalNamesSpec.post enc Try.prog Try.f8 false true false false) := by
  refine returnsInHanded_of_change (C := Try.checked) own started (by kernel_rfl) Try.func8
    (ChangeSpec.witness6 (enc := enc) (C := Try.checked) false ⟨#[], #[], []⟩ 8 (by kernel_rfl) (by kernel_rfl) (by kernel_rfl) (by kernel_rfl)) ?_
  intro W base args ds gs before hval0 hW hcnd _
  have hval : ∀ (j : Nat) t v, Try.f8.params[j]? = some t → args[j]? = some v → Value.okWide Try.prog W .any base t v := hval0
  have hW' := hW
  obtain ⟨p, q, hA0, hV, rfl, hfz, hnd⟩ := hW
  have hA : DataW.TrodAll enc Try.prog W 0 (fun _ => true) true Try.f8.params.toList args.toList ds p := hA0
  rw [Try.params8] at hA hval
  obtain ⟨rfl, rfl, rfl⟩ := trodAll_none hA
  obtain ⟨rfl, rfl⟩ := trodVars_none hV
  clear hA0 hval0
  simp only [List.append_nil] at hW'
  refine (walk  W).mono fun e W' ⟨he, hg⟩ => ?_
  subst he
  exact ⟨_, rfl, post_kept (pa := []) (pv := []) hW' (fun _ _ _ => (trodAll_cons_mk (shut_bool Try.underlying4 _) trodAll_mk0)) (fun sp _ => rfl) (fun _ _ => rfl) rfl hg.2.1 hg.2.2 hg.1
    (ok_one (by kernel_rfl) rfl (okWide_bool_mk Try.underlying4 _))⟩

set_option maxRecDepth 100000
theorem fact0 : (Rows.journalNamesRow.wf (OpenSpec.ofChange Rows.journalNamesSpec)) = true := by kernel_rfl
theorem fact1 : (laidOutB Try.prog) = true := by kernel_rfl
theorem fact2 : (mapsRowed Try.prog) = true := by kernel_rfl
theorem fact3 : (Try.f8.params.all (Try.prog.readableRec ·)) = true := by kernel_rfl
theorem fact4 : (namedTie Try.prog Rows.journalNamesRow.named Rows.journalNamesSpec.vars) = true := by kernel_rfl
theorem fact5 : ((Rows.journalNamesRow.stops == [])) = true := by kernel_rfl
theorem fact6 : ((Try.prog.stops == [])) = true := by kernel_rfl
theorem fact7 : ((Rows.journalNamesRow.knobs == [])) = true := by kernel_rfl
theorem fact8 : ((Try.prog.stopKnobs == [])) = true := by kernel_rfl
theorem facts : ((((Rows.journalNamesRow.inPlace == Try.prog.inPlace 8) && (Rows.journalNamesRow.unfollowed == Try.prog.unfollowed 8)) && (Rows.journalNamesRow.recurses == Try.prog.recurses 8)) && (Rows.journalNamesRow.named == Try.prog.varsNamed 8)) = true := by kernel_rfl
theorem fact9 : ((Rows.journalNamesRow.inPlace == Try.prog.inPlace 8)) = true := (Eq.mp (Bool.and_eq_true _ _) (Eq.mp (Bool.and_eq_true _ _) (Eq.mp (Bool.and_eq_true _ _) facts).1).1).1
theorem fact10 : ((Rows.journalNamesRow.unfollowed == Try.prog.unfollowed 8)) = true := (Eq.mp (Bool.and_eq_true _ _) (Eq.mp (Bool.and_eq_true _ _) (Eq.mp (Bool.and_eq_true _ _) facts).1).1).2
theorem fact11 : ((Rows.journalNamesRow.recurses == Try.prog.recurses 8)) = true := (Eq.mp (Bool.and_eq_true _ _) (Eq.mp (Bool.and_eq_true _ _) facts).1).2
theorem fact12 : ((Rows.journalNamesRow.named == Try.prog.varsNamed 8)) = true := (Eq.mp (Bool.and_eq_true _ _) facts).2
theorem fact13 : ((Rows.journalNamesRow.maps == (Try.f8.params.toList ++ Rows.journalNamesSpec.plain.varTypes Try.prog).any (Try.prog.mapsRec ·))) = true := by kernel_rfl
theorem fact14 : ((Rows.journalNamesRow.ifaces == (Try.f8.params.toList ++ Rows.journalNamesSpec.plain.varTypes Try.prog).any (Try.prog.ifacesRec ·))) = true := by kernel_rfl
theorem fact15 : ((Rows.journalNamesRow.mapsOut == Try.prog.mapsAmong Try.f8.resultTypes.toList)) = true := by kernel_rfl
theorem fact16 : ((Rows.journalNamesRow.loops == (Try.f8.params.toList ++ Rows.journalNamesSpec.plain.varTypes Try.prog).any (Try.prog.loopsFrom ·))) = true := by kernel_rfl
theorem fact17 : ((Rows.journalNamesRow.wideKeys == (Try.f8.params.toList ++ Rows.journalNamesSpec.plain.varTypes Try.prog ++ Try.f8.resultTypes.toList).any (Try.prog.wideKeysFrom ·))) = true := by kernel_rfl
theorem fact18 : (Rows.journalNamesSpec.vars.all (Try.prog.varReadable ·)) = true := by kernel_rfl
theorem fact19 : (Try.f8.resultTypes.all (fun t => Try.prog.readableRec t && decide (t < Try.prog.types.size))) = true := by kernel_rfl
theorem fact20 : ((Rows.journalNamesRow.ifacesOut == Try.f8.resultTypes.toList.any (Try.prog.ifacesRec ·))) = true := by kernel_rfl
theorem fact21 : ((Rows.journalNamesRow.loopsOut == Try.f8.resultTypes.toList.any (Try.prog.loopsFrom ·))) = true := by kernel_rfl
theorem fact22 : ((Rows.journalNamesRow.plainKeys == Try.prog.plainKeys)) = true := by kernel_rfl
theorem fact23 : (Rows.journalNamesRow.shortTexts.isNone) = true := by kernel_rfl
theorem fact24 : (Try.prog.stopsHeard) = true := by kernel_rfl
theorem fact25 : (Try.prog.mayEnter) = true := may_enter
theorem fact26 : ((Rows.journalNamesRow.lifted == Try.prog.liftsFinal)) = true := by rw [lifts_final]; rfl
theorem fact27 : ((Try.prog.make == some Rows.journalNamesRow.make)) = true := by rw [make_cut]; rfl
theorem fact28 : ((Rows.journalNamesRow.kinds == (if Rows.journalNamesRow.domain.isEmpty then [] else Try.f8.params.toList.map fun t => match Try.prog.underlying t with | some (.int k) => some k | _ => none))) = true := by kernel_rfl
theorem fact29 : ((Rows.journalNamesRow.pinned == Rows.journalNamesRow.pinnedBy)) = true := by kernel_rfl
theorem fact30 : ((Rows.journalNamesRow.veiled == (Try.f8.params.toList ++ Rows.journalNamesSpec.plain.varTypes Try.prog ++ Try.f8.resultTypes.toList).any (Try.prog.veiledRec ·))) = true := by kernel_rfl
theorem fact31 : (Rows.journalNamesRow.veiledFits Try.prog Try.f8.params.toList (Try.f8.params.toList ++ Rows.journalNamesSpec.plain.varTypes Try.prog ++ Try.f8.resultTypes.toList)) = true := by kernel_rfl
theorem joined : joinedFacts Try.prog 8 Try.f8 Rows.journalNamesSpec Rows.journalNamesRow = true := by
  unfold joinedFacts; simp only [Bool.and_eq_true]
  exact ⟨⟨⟨⟨⟨⟨⟨⟨⟨⟨⟨⟨⟨⟨⟨⟨⟨⟨⟨⟨⟨⟨⟨⟨⟨⟨⟨⟨⟨⟨⟨fact0, fact1⟩, fact2⟩, fact3⟩, fact4⟩, fact5⟩, fact6⟩, fact7⟩, fact8⟩, fact9⟩, fact10⟩, fact11⟩, fact12⟩, fact13⟩, fact14⟩, fact15⟩, fact16⟩, fact17⟩, fact18⟩, fact19⟩, fact20⟩, fact21⟩, fact22⟩, fact23⟩, fact24⟩, fact25⟩, fact26⟩, fact27⟩, fact28⟩, fact29⟩, fact30⟩, fact31⟩

theorem over : Rows.journalNamesRow.holds Try.pinned (OpenSpec.ofChange Rows.journalNamesSpec) :=
  OpenClaim.holds_of_wide 8 Try.f8 rfl rfl rfl rfl rfl rfl rfl ⟨rfl, rfl, rfl, rfl, rfl⟩ rfl rfl rfl rfl rfl (by kernel_rfl) Try.func8 joined
    (of_decide_eq_true (by kernel_rfl)) (by unfold Func.isWrapper; first | (rw [if_pos (by decide +kernel)]; kernel_rfl) | (rw [if_neg (by decide +kernel)]; exact ⟨rfl, rfl⟩))
    (fun os started H enc _ => lifted os started H enc)

theorem proved : Rows.JournalNamesSaid :=
  over
#print axioms proved
end Go.Proofs.Ytclgglffbpfmhaa.journalNames
