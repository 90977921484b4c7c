/-
  DERIVED. GIVEN WITH THE SEED: THE CARDS: each row of YtcnpomglcdodaaaDoorRows.lean that lists a variable, with what it lists TIED to the program's text (the seventh form; the later family's looks); each row that meets fmt, with fmt's text TOLD by the authors' own Lean function (tested against real Go, not proved from fmt's source: count such statements apart). THE CARD IS WHAT COUNTS. Prove the row's statement (the work); the ties are given (YtcnpomglcdodaaaDoorTie.lean); close each card by the builder's one call (the guide's Derived/Test/ToyasCard.lean, 'card_holds'). Laid BY PROGRAM, IN A SANDBOX (cutbox-door.mjs). By AI agents, Wed Nov 11 2026. No macro, syntax, notation, axiom, sorry.
-/
import Derived.Test.YtcnpomglcdodaaaDoorRows
import GoSem.ClaimSeven
namespace Go.Proofs.YtcnpomglcdodaaaDoor
namespace Rows

/-- THE TIED CARD OF 'wayfinderlaw21.RerankNames'. -/
def rerankNamesCard : Claim7 := { stood := { row := rerankNamesRow, standIns := [], harness := (true, "5ac3ee3947bb19551a076d17f0be7250c15801a5df7d2825fedc78d464fab09a"), looks := false }, kinds := [], alts := [], laidByText := true, laidKinds := [.data], laidTests := true, laidLooks := .later }
def RerankNamesCardSaid : Prop := Claim7.holds Tryd.pinned (.plain (OpenSpec.ofChange rerankNamesSpec)) rerankNamesCard

/-- THE SECOND FORM's CARD OF 'wayfinderlaw21.RerankNames'. -/
def rerankNamesUptoCard : Claim7 := { stood := { row := rerankNamesUptoRow, standIns := [], harness := (true, "5ac3ee3947bb19551a076d17f0be7250c15801a5df7d2825fedc78d464fab09a"), looks := false }, kinds := [], alts := [], laidByText := true, laidKinds := [.data], laidTests := true, laidLooks := .later }
def RerankNamesUptoCardSaid : Prop := Claim7.holds Tryd.pinned (.plain (OpenSpec.upto rerankNamesSpec)) rerankNamesUptoCard
end Rows
end Go.Proofs.YtcnpomglcdodaaaDoor
