/- The closed facts of the row of this law, one by one, by the kernel. -/
import Derived.Test.YtnlobbllkcckfaaGreatRows
import Derived.WalkKit
import Derived.ProofKit
import Derived.OpenShut
namespace Go.Proofs.YtnlobbllkcckfaaGreat.modelNames
open Go.ChangeShapes Go.WideShapes Go.ChangeAt Go.RowKit
set_option linter.unusedVariables false

theorem andB {a b : Bool} (h : a = true) (h2 : b = true) : (a && b) = true := by rw [h, h2]; rfl
theorem fact_wf : Rows.modelNamesRow.wf (OpenSpec.ofChange Rows.modelNamesSpec) = true := by kernel_rfl
theorem fact_laid : laidOutB Tryz.prog = true := by kernel_rfl
theorem fact_mapsRowed : mapsRowed Tryz.prog = true := by kernel_rfl
theorem fact_pars : Tryz.f4.params.all (Tryz.prog.readableRec ·) = true := by kernel_rfl
theorem fact_tie : namedTie Tryz.prog Rows.modelNamesRow.named Rows.modelNamesSpec.vars = true := by kernel_rfl
theorem fact_st1 : (Rows.modelNamesRow.stops == []) = true := by kernel_rfl
theorem fact_st2 : (Tryz.prog.stops == []) = true := by kernel_rfl
theorem fact_kn1 : (Rows.modelNamesRow.knobs == []) = true := by kernel_rfl
theorem fact_kn2 : (Tryz.prog.stopKnobs == []) = true := by kernel_rfl
theorem fact_inPlace : (Rows.modelNamesRow.inPlace == Tryz.prog.inPlace 4) = true := by kernel_rfl
theorem fact_unf : (Rows.modelNamesRow.unfollowed == Tryz.prog.unfollowed 4) = true := by kernel_rfl
theorem fact_rec : (Rows.modelNamesRow.recurses == Tryz.prog.recurses 4) = true := by kernel_rfl
theorem fact_nam : (Rows.modelNamesRow.named == Tryz.prog.varsNamed 4) = true := by kernel_rfl
theorem fact_plain : (Rows.modelNamesRow.plainKeys == Tryz.prog.plainKeys) = true := by kernel_rfl
theorem fact_short : Rows.modelNamesRow.shortTexts.isNone = true := by kernel_rfl
theorem fact_heard : Tryz.prog.stopsHeard = true := by kernel_rfl
theorem fact_may : Tryz.prog.mayEnter = true := by kernel_rfl
theorem fact_lift : (Rows.modelNamesRow.lifted == Tryz.prog.liftsFinal) = true := by kernel_rfl
theorem fact_make : (Tryz.prog.make == some Rows.modelNamesRow.make) = true := by kernel_rfl
theorem closedFacts : joinedFacts Tryz.prog 4 Tryz.f4 Rows.modelNamesSpec Rows.modelNamesRow = true := andB (andB (andB (andB (andB (andB (andB (andB (andB (andB (andB (andB (andB (andB (andB (andB (andB (andB (andB (andB (andB (andB (andB (andB (andB (andB (andB (andB (andB (andB (andB fact_wf fact_laid) fact_mapsRowed) fact_pars) fact_tie) fact_st1) fact_st2) fact_kn1) fact_kn2) fact_inPlace) fact_unf) fact_rec) fact_nam) (by kernel_rfl)) (by kernel_rfl)) (by kernel_rfl)) (by kernel_rfl)) (by kernel_rfl)) (by kernel_rfl)) (by kernel_rfl)) (by kernel_rfl)) (by kernel_rfl)) fact_plain) fact_short) fact_heard) fact_may) fact_lift) fact_make) (by kernel_rfl)) (by kernel_rfl)) (by kernel_rfl)) (by kernel_rfl)
theorem namedFact : Tryz.prog.funcNamed Rows.modelNamesRow.func = some 4 := by kernel_rfl
end Go.Proofs.YtnlobbllkcckfaaGreat.modelNames
