/- The closed facts of the row of this law, one by one, by the kernel. -/
import Derived.Test.YtenpjnfbpkidoaaGreatDoorRows
import Derived.WalkKit
import Derived.ProofKit
import Derived.OpenShut
namespace Go.Proofs.YtenpjnfbpkidoaaGreatDoor.worldNames
open Go.ChangeShapes Go.WideShapes Go.ChangeAt Go.RowKit
set_option linter.unusedVariables false

theorem andB {a b : Bool} (h : a = true) (h2 : b = true) : (a && b) = true := by rw [h, h2]; rfl
theorem fact_wf : Rows.worldNamesRow.wf (OpenSpec.ofChange Rows.worldNamesSpec) = true := by kernel_rfl
theorem fact_laid : laidOutB Tryz.prog = true := by kernel_rfl
theorem fact_mapsRowed : mapsRowed Tryz.prog = true := by kernel_rfl
theorem fact_pars : Tryz.f3.params.all (Tryz.prog.readableRec ·) = true := by kernel_rfl
theorem fact_tie : namedTie Tryz.prog Rows.worldNamesRow.named Rows.worldNamesSpec.vars = true := by kernel_rfl
theorem fact_st1 : (Rows.worldNamesRow.stops == []) = true := by kernel_rfl
theorem fact_st2 : (Tryz.prog.stops == []) = true := by kernel_rfl
theorem fact_kn1 : (Rows.worldNamesRow.knobs == []) = true := by kernel_rfl
theorem fact_kn2 : (Tryz.prog.stopKnobs == []) = true := by kernel_rfl
theorem fact_inPlace : (Rows.worldNamesRow.inPlace == Tryz.prog.inPlace 3) = true := by kernel_rfl
theorem fact_unf : (Rows.worldNamesRow.unfollowed == Tryz.prog.unfollowed 3) = true := by kernel_rfl
theorem fact_rec : (Rows.worldNamesRow.recurses == Tryz.prog.recurses 3) = true := by kernel_rfl
theorem fact_nam : (Rows.worldNamesRow.named == Tryz.prog.varsNamed 3) = true := by kernel_rfl
theorem fact_plain : (Rows.worldNamesRow.plainKeys == Tryz.prog.plainKeys) = true := by kernel_rfl
theorem fact_short : Rows.worldNamesRow.shortTexts.isNone = true := by kernel_rfl
theorem fact_heard : Tryz.prog.stopsHeard = true := by kernel_rfl
theorem fact_may : Tryz.prog.mayEnter = true := by kernel_rfl
theorem fact_lift : (Rows.worldNamesRow.lifted == Tryz.prog.liftsFinal) = true := by kernel_rfl
theorem fact_make : (Tryz.prog.make == some Rows.worldNamesRow.make) = true := by kernel_rfl
theorem closedFacts : joinedFacts Tryz.prog 3 Tryz.f3 Rows.worldNamesSpec Rows.worldNamesRow = true := andB (andB (andB (andB (andB (andB (andB (andB (andB (andB (andB (andB (andB (andB (andB (andB (andB (andB (andB (andB (andB (andB (andB (andB (andB (andB (andB (andB (andB (andB (andB fact_wf fact_laid) fact_mapsRowed) fact_pars) fact_tie) fact_st1) fact_st2) fact_kn1) fact_kn2) fact_inPlace) fact_unf) fact_rec) fact_nam) (by kernel_rfl)) (by kernel_rfl)) (by kernel_rfl)) (by kernel_rfl)) (by kernel_rfl)) (by kernel_rfl)) (by kernel_rfl)) (by kernel_rfl)) (by kernel_rfl)) fact_plain) fact_short) fact_heard) fact_may) fact_lift) fact_make) (by kernel_rfl)) (by kernel_rfl)) (by kernel_rfl)) (by kernel_rfl)
theorem namedFact : Tryz.prog.funcNamed Rows.worldNamesRow.func = some 3 := by kernel_rfl
end Go.Proofs.YtenpjnfbpkidoaaGreatDoor.worldNames
