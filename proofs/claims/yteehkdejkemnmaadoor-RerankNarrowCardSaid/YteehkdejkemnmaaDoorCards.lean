/-
  DERIVED. GIVEN WITH THE SEED: THE CARDS: each row of YteehkdejkemnmaaDoorRows.lean that lists a variable, with what it lists TIED to the program's text (the seventh form; the later family's looks); each row that meets fmt, with fmt's text TOLD by the authors' own Lean function (tested against real Go, not proved from fmt's source: count such statements apart). THE CARD IS WHAT COUNTS. Prove the row's statement (the work); the ties are given (YteehkdejkemnmaaDoorTie.lean); close each card by the builder's one call (the guide's Derived/Test/ToyasCard.lean, 'card_holds'). Laid BY PROGRAM, IN A SANDBOX (cutbox-door.mjs). By AI agents, Wed Nov 11 2026. No macro, syntax, notation, axiom, sorry.
-/
import Derived.Test.YteehkdejkemnmaaDoorRows
import GoSem.ClaimSeven
namespace Go.Proofs.YteehkdejkemnmaaDoor
namespace Rows

/-- THE TIED CARD OF 'wayfinderlaw21.RerankNarrow'. -/
def rerankNarrowCard : Claim7 := { stood := { row := rerankNarrowRow, standIns := [], harness := (true, "a214d230ba98575b1e3724a57c0b9fa5c9ea4d9be57ede301bf387dbc188a407"), looks := false }, kinds := [], alts := [], laidByText := true, laidKinds := [.data], laidTests := true, laidLooks := .later }
def RerankNarrowCardSaid : Prop := Claim7.holds Tryd.pinned (.plain (OpenSpec.ofChange rerankNarrowSpec)) rerankNarrowCard

/-- THE SECOND FORM's CARD OF 'wayfinderlaw21.RerankNarrow'. -/
def rerankNarrowUptoCard : Claim7 := { stood := { row := rerankNarrowUptoRow, standIns := [], harness := (true, "a214d230ba98575b1e3724a57c0b9fa5c9ea4d9be57ede301bf387dbc188a407"), looks := false }, kinds := [], alts := [], laidByText := true, laidKinds := [.data], laidTests := true, laidLooks := .later }
def RerankNarrowUptoCardSaid : Prop := Claim7.holds Tryd.pinned (.plain (OpenSpec.upto rerankNarrowSpec)) rerankNarrowUptoCard
end Rows
end Go.Proofs.YteehkdejkemnmaaDoor
