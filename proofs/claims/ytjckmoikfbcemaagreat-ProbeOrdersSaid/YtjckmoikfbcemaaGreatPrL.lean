/- Forms and contracts, printed by gx.py. -/
import Derived.Test.YtjckmoikfbcemaaGreatRows
import Derived.Test.YtjckmoikfbcemaaGreatDvUse
import Derived.Test.YtjckmoikfbcemaaGreatDvArg
import Derived.ProofKit
import Derived.Test.YtjckmoikfbcemaaGreatBase
namespace Go.Proofs.YtjckmoikfbcemaaGreat
open Go.Det Go.RowKit
set_option linter.unusedVariables false
set_option linter.unusedSimpArgs false
set_option maxRecDepth 100000
theorem lives20Ran : answersTrue ((run Tryz.prog 1000).call 7 [] st0) = true := by kernel_rfl
noncomputable def lives20K : CallC := valC .nil (fun _ => True) (fun _ => .bool true)
theorem lives20Cc : CcOk Tryz.prog 7 lives20K := val_ok rfl fun _ _ st => CallS.closed_ran mixed lives20Ran st

end Go.Proofs.YtjckmoikfbcemaaGreat
