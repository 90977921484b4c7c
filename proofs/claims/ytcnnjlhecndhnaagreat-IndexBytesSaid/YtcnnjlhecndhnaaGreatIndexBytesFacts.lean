/- The closed facts of the row of this law, one by one, by the kernel. -/
import Derived.Test.YtcnnjlhecndhnaaGreatRows
import Derived.WalkKit
import Derived.ProofKit
import Derived.OpenShut
namespace Go.Proofs.YtcnnjlhecndhnaaGreat.indexBytes
open Go.ChangeShapes Go.WideShapes Go.ChangeAt Go.RowKit
set_option linter.unusedVariables false

theorem andB {a b : Bool} (h : a = true) (h2 : b = true) : (a && b) = true := by rw [h, h2]; rfl
theorem fact_wf : Rows.indexBytesRow.wf (OpenSpec.ofChange Rows.indexBytesSpec) = true := by kernel_rfl
theorem fact_laid : laidOutB Tryz.prog = true := by kernel_rfl
theorem fact_mapsRowed : mapsRowed Tryz.prog = true := by kernel_rfl
theorem fact_pars : Tryz.f6.params.all (Tryz.prog.readableRec ·) = true := by kernel_rfl
theorem fact_tie : namedTie Tryz.prog Rows.indexBytesRow.named Rows.indexBytesSpec.vars = true := by kernel_rfl
theorem fact_st1 : (Rows.indexBytesRow.stops == []) = true := by kernel_rfl
theorem fact_st2 : (Tryz.prog.stops == []) = true := by kernel_rfl
theorem fact_kn1 : (Rows.indexBytesRow.knobs == []) = true := by kernel_rfl
theorem fact_kn2 : (Tryz.prog.stopKnobs == []) = true := by kernel_rfl
theorem fact_inPlace : (Rows.indexBytesRow.inPlace == Tryz.prog.inPlace 6) = true := by kernel_rfl
theorem fact_unf : (Rows.indexBytesRow.unfollowed == Tryz.prog.unfollowed 6) = true := by kernel_rfl
theorem fact_rec : (Rows.indexBytesRow.recurses == Tryz.prog.recurses 6) = true := by kernel_rfl
theorem fact_nam : (Rows.indexBytesRow.named == Tryz.prog.varsNamed 6) = true := by kernel_rfl
theorem fact_plain : (Rows.indexBytesRow.plainKeys == Tryz.prog.plainKeys) = true := by kernel_rfl
theorem fact_short : Rows.indexBytesRow.shortTexts.isNone = true := by kernel_rfl
theorem fact_heard : Tryz.prog.stopsHeard = true := by kernel_rfl
theorem fact_may : Tryz.prog.mayEnter = true := by kernel_rfl
theorem fact_lift : (Rows.indexBytesRow.lifted == Tryz.prog.liftsFinal) = true := by kernel_rfl
theorem fact_make : (Tryz.prog.make == some Rows.indexBytesRow.make) = true := by kernel_rfl
theorem closedFacts : joinedFacts Tryz.prog 6 Tryz.f6 Rows.indexBytesSpec Rows.indexBytesRow = true := andB (andB (andB (andB (andB (andB (andB (andB (andB (andB (andB (andB (andB (andB (andB (andB (andB (andB (andB (andB (andB (andB (andB (andB (andB (andB (andB (andB (andB (andB (andB fact_wf fact_laid) fact_mapsRowed) fact_pars) fact_tie) fact_st1) fact_st2) fact_kn1) fact_kn2) fact_inPlace) fact_unf) fact_rec) fact_nam) (by kernel_rfl)) (by kernel_rfl)) (by kernel_rfl)) (by kernel_rfl)) (by kernel_rfl)) (by kernel_rfl)) (by kernel_rfl)) (by kernel_rfl)) (by kernel_rfl)) fact_plain) fact_short) fact_heard) fact_may) fact_lift) fact_make) (by kernel_rfl)) (by kernel_rfl)) (by kernel_rfl)) (by kernel_rfl)
theorem namedFact : Tryz.prog.funcNamed Rows.indexBytesRow.func = some 6 := by kernel_rfl
end Go.Proofs.YtcnnjlhecndhnaaGreat.indexBytes
