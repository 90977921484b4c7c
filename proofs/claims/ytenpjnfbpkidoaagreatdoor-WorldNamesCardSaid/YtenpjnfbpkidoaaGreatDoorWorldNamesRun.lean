/- Part of the proof of WorldNames: runs by the kernel. -/
import Derived.Test.YtenpjnfbpkidoaaGreatDoorWorldNamesLv
namespace Go.Proofs.YtenpjnfbpkidoaaGreatDoor.worldNames
set_option linter.unusedVariables false
open Go.Det Go.RowKit
theorem ran : answersTrue ((runTab tabL Tryz.prog 1000).call 3 [] st0) = true := by kernel_rfl
theorem walkRun (w : World) : Calls Tryz.prog 3 #[] w fun e w' => e = .returned (.bool true) ∧ Below w.heap.size w w' :=
  closedT_true mixed tabL_ok ran w
end Go.Proofs.YtenpjnfbpkidoaaGreatDoor.worldNames
