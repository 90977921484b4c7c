/- Proved: whatever the input (it takes none), the law 'wayfinderlaw26.ModelNames' returns true when it is run. No condition.
   The road: a deterministic machine over an abstract heap (the texts ..Det..), proved sound against the given model for every order that a region may draw; the kernel runs it once. -/
import Derived.Test.YtnlobbllkcckfaaGreatRows
import Derived.Test.YtnlobbllkcckfaaGreatKeys
import Derived.WalkKit
import Derived.ProofKit
import Derived.OpenShut
namespace Go.Proofs.YtnlobbllkcckfaaGreat.modelNames
open Go.ChangeShapes Go.WideShapes Go.ChangeAt Go.RowKit
set_option linter.unusedVariables false

theorem own : ownKnob Tryz.prog.godebug = none := by kernel_rfl

theorem mixed : Tryz.prog.follows .mixedOrders = true := by kernel_rfl

theorem livesRan : Go.Det.answersTrue ((Go.Det.runTab tab Tryz.prog 1000).call 5 [] Go.Det.st0) = true := by kernel_rfl
theorem tabsOk : Go.Det.TabOk Tryz.prog (Go.Det.tabAdd 5 tab) := Go.Det.tabAdd_ok tab_ok (Go.Det.CallS.ranT mixed tab_ok livesRan)

theorem ran : Go.Det.answersTrue ((Go.Det.runTab (Go.Det.tabAdd 5 tab) Tryz.prog 1000).call 4 [] Go.Det.st0) = true := by kernel_rfl

theorem walk (w : World) :
    Calls Tryz.prog 4 #[] w fun e w' => e = .returned (.bool true) ∧ Below w.heap.size w w' :=
  Go.Det.closedT_true mixed tabsOk ran w

end Go.Proofs.YtnlobbllkcckfaaGreat.modelNames
