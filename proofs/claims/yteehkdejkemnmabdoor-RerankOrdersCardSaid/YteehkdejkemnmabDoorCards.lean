/-
  DERIVED. GIVEN WITH THE SEED: THE CARDS: each row of YteehkdejkemnmabDoorRows.lean that lists a variable, with what it lists TIED to the program's text (the seventh form; the later family's looks); each row that meets fmt, with fmt's text TOLD by the authors' own Lean function (tested against real Go, not proved from fmt's source: count such statements apart). THE CARD IS WHAT COUNTS. Prove the row's statement (the work); the ties are given (YteehkdejkemnmabDoorTie.lean); close each card by the builder's one call (the guide's Derived/Test/ToyasCard.lean, 'card_holds'). Laid BY PROGRAM, IN A SANDBOX (cutbox-door.mjs). By AI agents, Wed Nov 11 2026. No macro, syntax, notation, axiom, sorry.
-/
import Derived.Test.YteehkdejkemnmabDoorRows
import GoSem.ClaimSeven
namespace Go.Proofs.YteehkdejkemnmabDoor
namespace Rows

/-- THE TIED CARD OF 'wayfinderlaw21.RerankOrders'. -/
def rerankOrdersCard : Claim7 := { stood := { row := rerankOrdersRow, standIns := [], harness := (true, "185d0a18d7fc033a681055af413b6f715b3b7ce8ddd865a0bc570ff081eaf98e"), looks := false }, kinds := [], alts := [], laidByText := true, laidKinds := [.data], laidTests := true, laidLooks := .later }
def RerankOrdersCardSaid : Prop := Claim7.holds Tryd.pinned (.plain (OpenSpec.ofChange rerankOrdersSpec)) rerankOrdersCard

/-- THE SECOND FORM's CARD OF 'wayfinderlaw21.RerankOrders'. -/
def rerankOrdersUptoCard : Claim7 := { stood := { row := rerankOrdersUptoRow, standIns := [], harness := (true, "185d0a18d7fc033a681055af413b6f715b3b7ce8ddd865a0bc570ff081eaf98e"), looks := false }, kinds := [], alts := [], laidByText := true, laidKinds := [.data], laidTests := true, laidLooks := .later }
def RerankOrdersUptoCardSaid : Prop := Claim7.holds Tryd.pinned (.plain (OpenSpec.upto rerankOrdersSpec)) rerankOrdersUptoCard
end Rows
end Go.Proofs.YteehkdejkemnmabDoor
