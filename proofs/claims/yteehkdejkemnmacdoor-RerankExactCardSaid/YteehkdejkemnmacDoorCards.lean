/-
  DERIVED. GIVEN WITH THE SEED: THE CARDS: each row of YteehkdejkemnmacDoorRows.lean that lists a variable, with what it lists TIED to the program's text (the seventh form; the later family's looks); each row that meets fmt, with fmt's text TOLD by the authors' own Lean function (tested against real Go, not proved from fmt's source: count such statements apart). THE CARD IS WHAT COUNTS. Prove the row's statement (the work); the ties are given (YteehkdejkemnmacDoorTie.lean); close each card by the builder's one call (the guide's Derived/Test/ToyasCard.lean, 'card_holds'). Laid BY PROGRAM, IN A SANDBOX (cutbox-door.mjs). By AI agents, Wed Nov 11 2026. No macro, syntax, notation, axiom, sorry.
-/
import Derived.Test.YteehkdejkemnmacDoorRows
import GoSem.ClaimSeven
namespace Go.Proofs.YteehkdejkemnmacDoor
namespace Rows

/-- THE TIED CARD OF 'wayfinderlaw21.RerankExact'. -/
def rerankExactCard : Claim7 := { stood := { row := rerankExactRow, standIns := [], harness := (true, "93dae9cfb0f70c27877133a3322988ebc4cb1e8e4e00d9b4c7e1f49a5d9e8a95"), looks := false }, kinds := [], alts := [], laidByText := true, laidKinds := [.data], laidTests := true, laidLooks := .later }
def RerankExactCardSaid : Prop := Claim7.holds Tryd.pinned (.plain (OpenSpec.ofChange rerankExactSpec)) rerankExactCard

/-- THE SECOND FORM's CARD OF 'wayfinderlaw21.RerankExact'. -/
def rerankExactUptoCard : Claim7 := { stood := { row := rerankExactUptoRow, standIns := [], harness := (true, "93dae9cfb0f70c27877133a3322988ebc4cb1e8e4e00d9b4c7e1f49a5d9e8a95"), looks := false }, kinds := [], alts := [], laidByText := true, laidKinds := [.data], laidTests := true, laidLooks := .later }
def RerankExactUptoCardSaid : Prop := Claim7.holds Tryd.pinned (.plain (OpenSpec.upto rerankExactSpec)) rerankExactUptoCard
end Rows
end Go.Proofs.YteehkdejkemnmacDoor
