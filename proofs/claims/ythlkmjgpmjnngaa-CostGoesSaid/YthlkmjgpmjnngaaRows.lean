/-
  No cell of these rows narrows 'for every input' (looked for: loops, veiled, ifaces, maps, wideKeys, modest, calm, conditions, laid).
  DERIVED. THE GIVEN ROWS OF THIS SEAT. 5 by the template 'for every input the law returns true; each argument reads behind the call as it read before'; 0 by the template 'total and deterministic' (their statements: YthlkmjgpmjnngaaTotals.lean).
  GIVEN WITH THE SEED: the statements are not yours to turn. If you find one false, say at which input.
  Laid BY PROGRAM, IN A SANDBOX (cutbox-rows.mjs): the forced cells as the released guide's own fill.sh prints them over the translation 1c060addf068eb9c… (all of the seat's roots in one cut). By AI agents, Wed Nov 11 2026. No macro, syntax, notation, axiom, sorry.
-/
import Derived.Test.YthlkmjgpmjnngaaChecked
import GoSem.Claim
import GoSem.ClaimJoined
import GoSem.ClaimMapViews
import Derived.JoinedTies
import Derived.KernelRfl
namespace Go.Proofs.Ythlkmjgpmjnngaa
/- THE CELL 'sum', in the pinned program and in every row, IS THE sha256 OF THE DUMP (.gsa) THAT YthlkmjgpmjnngaaProg.lean LOADS. Nothing in Lean hashes anything: it is a label: what it is worth is what the hold of that sum in a sandbox is worth. -/
noncomputable def Try.pinned : Pinned := { name := "ythlkmjgpmjnngaa", sum := "1c060addf068eb9ce3a40a916654b28d7e831369d99c970df89f1d13e51c4bc2", checked := Try.checked }
namespace Rows
def none {H : Type} : Left H := { results := [], args := [] }

/-- 'wayfinderlaw24.CostTable': WHATEVER THE INPUT: true; the input reads as it did. -/
def costTableSpec : ChangeSpec := { name := "costTable", fn := fun _ => fun
  | [d1, d2] => { results := [.lit (.bool true)], args := [d1, d2] }
  | _ => none }
def costTableRow : OpenClaim := { program := "ythlkmjgpmjnngaa", sum := "1c060addf068eb9ce3a40a916654b28d7e831369d99c970df89f1d13e51c4bc2", func := "wayfinder/wayfinderlaw24.CostTable", spec := "costTable", unfollowed := true, recurses := true, apart := false }
def CostTableSaid : Prop := costTableRow.holds Try.pinned (OpenSpec.ofChange costTableSpec)

/-- ITS FALSE NEIGHBOUR: 'it returns false'. Refute it at one input. -/
def costTableWrong : ChangeSpec := { name := "costTable", fn := fun _ => fun
  | [d1, d2] => { results := [.lit (.bool false)], args := [d1, d2] }
  | _ => none }
def CostTableWrongFalsely : Prop := costTableRow.holds Try.pinned (OpenSpec.ofChange costTableWrong)

/-- 'wayfinderlaw24.CostAdds': WHATEVER THE INPUT: true; the input reads as it did. -/
def costAddsSpec : ChangeSpec := { name := "costAdds", fn := fun _ => fun
  | [d1, d2, d3, d4] => { results := [.lit (.bool true)], args := [d1, d2, d3, d4] }
  | _ => none }
def costAddsRow : OpenClaim := { program := "ythlkmjgpmjnngaa", sum := "1c060addf068eb9ce3a40a916654b28d7e831369d99c970df89f1d13e51c4bc2", func := "wayfinder/wayfinderlaw24.CostAdds", spec := "costAdds", unfollowed := true, recurses := true, apart := false }
def CostAddsSaid : Prop := costAddsRow.holds Try.pinned (OpenSpec.ofChange costAddsSpec)

/-- ITS FALSE NEIGHBOUR: 'it returns false'. Refute it at one input. -/
def costAddsWrong : ChangeSpec := { name := "costAdds", fn := fun _ => fun
  | [d1, d2, d3, d4] => { results := [.lit (.bool false)], args := [d1, d2, d3, d4] }
  | _ => none }
def CostAddsWrongFalsely : Prop := costAddsRow.holds Try.pinned (OpenSpec.ofChange costAddsWrong)

/-- 'wayfinderlaw24.CostGoes': WHATEVER THE INPUT: true; the input reads as it did. -/
def costGoesSpec : ChangeSpec := { name := "costGoes", fn := fun _ => fun
  | [d1, d2] => { results := [.lit (.bool true)], args := [d1, d2] }
  | _ => none }
def costGoesRow : OpenClaim := { program := "ythlkmjgpmjnngaa", sum := "1c060addf068eb9ce3a40a916654b28d7e831369d99c970df89f1d13e51c4bc2", func := "wayfinder/wayfinderlaw24.CostGoes", spec := "costGoes", unfollowed := true, recurses := true, apart := false }
def CostGoesSaid : Prop := costGoesRow.holds Try.pinned (OpenSpec.ofChange costGoesSpec)

/-- ITS FALSE NEIGHBOUR: 'it returns false'. Refute it at one input. -/
def costGoesWrong : ChangeSpec := { name := "costGoes", fn := fun _ => fun
  | [d1, d2] => { results := [.lit (.bool false)], args := [d1, d2] }
  | _ => none }
def CostGoesWrongFalsely : Prop := costGoesRow.holds Try.pinned (OpenSpec.ofChange costGoesWrong)

/-- 'wayfinderlaw24.CostNames': WHATEVER THE INPUT: true; the input reads as it did. -/
def costNamesSpec : ChangeSpec := { name := "costNames", fn := fun _ => fun
  | [] => { results := [.lit (.bool true)], args := [] }
  | _ => none }
def costNamesRow : OpenClaim := { program := "ythlkmjgpmjnngaa", sum := "1c060addf068eb9ce3a40a916654b28d7e831369d99c970df89f1d13e51c4bc2", func := "wayfinder/wayfinderlaw24.CostNames", spec := "costNames", unfollowed := true, recurses := true, apart := false }
def CostNamesSaid : Prop := costNamesRow.holds Try.pinned (OpenSpec.ofChange costNamesSpec)

/-- ITS FALSE NEIGHBOUR: 'it returns false'. Refute it at one input. -/
def costNamesWrong : ChangeSpec := { name := "costNames", fn := fun _ => fun
  | [] => { results := [.lit (.bool false)], args := [] }
  | _ => none }
def CostNamesWrongFalsely : Prop := costNamesRow.holds Try.pinned (OpenSpec.ofChange costNamesWrong)

/-- 'wayfinderlaw24.CostCalls': WHATEVER THE INPUT: true; the input reads as it did. -/
def costCallsSpec : ChangeSpec := { name := "costCalls", fn := fun _ => fun
  | [d1, d2, d3, d4, d5] => { results := [.lit (.bool true)], args := [d1, d2, d3, d4, d5] }
  | _ => none }
def costCallsRow : OpenClaim := { program := "ythlkmjgpmjnngaa", sum := "1c060addf068eb9ce3a40a916654b28d7e831369d99c970df89f1d13e51c4bc2", func := "wayfinder/wayfinderlaw24.CostCalls", spec := "costCalls", unfollowed := true, recurses := true, apart := false }
def CostCallsSaid : Prop := costCallsRow.holds Try.pinned (OpenSpec.ofChange costCallsSpec)

/-- ITS FALSE NEIGHBOUR: 'it returns false'. Refute it at one input. -/
def costCallsWrong : ChangeSpec := { name := "costCalls", fn := fun _ => fun
  | [d1, d2, d3, d4, d5] => { results := [.lit (.bool false)], args := [d1, d2, d3, d4, d5] }
  | _ => none }
def CostCallsWrongFalsely : Prop := costCallsRow.holds Try.pinned (OpenSpec.ofChange costCallsWrong)

/- THE SECOND FORM. 'bulk': how many values and letters a reading holds, each counted each time it is reached (what is shared counts as often as it is met; a slice's spare places count too). A statement '..UptoSaid' is the law's where the arguments, and the package variables that the reading takes, are together of bulk at most 1048576: NARROWER than '..Said'. Prove '..Said' where nothing that the law and all that it calls make is longer than what came in: it says more and counts as full. Else prove '..UptoSaid'. A law counts once. -/
mutual
def uptoBulk {H : Type} : DataW H → Nat
  | .lit (.string bytes) => bytes.length + 1
  | .lit _ => 1
  | .nil => 1
  | .ptr d => uptoBulk d + 1
  | .slice elems spare => uptoBulkAll elems + uptoBulkAll spare + 1
  | .agg parts => uptoBulkAll parts + 1
  | .iface _ d => uptoBulk d + 1
  | .map entries => uptoBulkEntries entries + 1
  | .held _ => 1
def uptoBulkAll {H : Type} : List (DataW H) → Nat
  | [] => 0
  | d :: r => uptoBulk d + uptoBulkAll r
def uptoBulkEntries {H : Type} : List (Lit × DataW H) → Nat
  | [] => 0
  | x :: r => uptoBulkEntry x + uptoBulkEntries r
def uptoBulkEntry {H : Type} : Lit × DataW H → Nat
  | (.string bytes, d) => bytes.length + uptoBulk d + 1
  | (_, d) => uptoBulk d + 1
 end
def uptoSmall : (H : Type) → List (DataW H) → Bool := fun _ ds => decide (uptoBulkAll ds ≤ 1048576)
def OpenSpec.upto (s : _root_.Go.ChangeSpec) : _root_.Go.OpenSpec := { _root_.Go.OpenSpec.ofChange s with cond := some uptoSmall }

/-- 'wayfinderlaw24.CostTable', WHERE WHAT IT READS IS OF BULK AT MOST 1048576: true; the input reads as it did. -/
def costTableUptoRow : OpenClaim := { program := "ythlkmjgpmjnngaa", sum := "1c060addf068eb9ce3a40a916654b28d7e831369d99c970df89f1d13e51c4bc2", func := "wayfinder/wayfinderlaw24.CostTable", spec := "costTable", unfollowed := true, recurses := true, apart := false, narrowed := true }
def CostTableUptoSaid : Prop := costTableUptoRow.holds Try.pinned (OpenSpec.upto costTableSpec)

/-- 'wayfinderlaw24.CostAdds', WHERE WHAT IT READS IS OF BULK AT MOST 1048576: true; the input reads as it did. -/
def costAddsUptoRow : OpenClaim := { program := "ythlkmjgpmjnngaa", sum := "1c060addf068eb9ce3a40a916654b28d7e831369d99c970df89f1d13e51c4bc2", func := "wayfinder/wayfinderlaw24.CostAdds", spec := "costAdds", unfollowed := true, recurses := true, apart := false, narrowed := true }
def CostAddsUptoSaid : Prop := costAddsUptoRow.holds Try.pinned (OpenSpec.upto costAddsSpec)

/-- 'wayfinderlaw24.CostGoes', WHERE WHAT IT READS IS OF BULK AT MOST 1048576: true; the input reads as it did. -/
def costGoesUptoRow : OpenClaim := { program := "ythlkmjgpmjnngaa", sum := "1c060addf068eb9ce3a40a916654b28d7e831369d99c970df89f1d13e51c4bc2", func := "wayfinder/wayfinderlaw24.CostGoes", spec := "costGoes", unfollowed := true, recurses := true, apart := false, narrowed := true }
def CostGoesUptoSaid : Prop := costGoesUptoRow.holds Try.pinned (OpenSpec.upto costGoesSpec)

/-- 'wayfinderlaw24.CostNames', WHERE WHAT IT READS IS OF BULK AT MOST 1048576: true; the input reads as it did. -/
def costNamesUptoRow : OpenClaim := { program := "ythlkmjgpmjnngaa", sum := "1c060addf068eb9ce3a40a916654b28d7e831369d99c970df89f1d13e51c4bc2", func := "wayfinder/wayfinderlaw24.CostNames", spec := "costNames", unfollowed := true, recurses := true, apart := false, narrowed := true }
def CostNamesUptoSaid : Prop := costNamesUptoRow.holds Try.pinned (OpenSpec.upto costNamesSpec)

/-- 'wayfinderlaw24.CostCalls', WHERE WHAT IT READS IS OF BULK AT MOST 1048576: true; the input reads as it did. -/
def costCallsUptoRow : OpenClaim := { program := "ythlkmjgpmjnngaa", sum := "1c060addf068eb9ce3a40a916654b28d7e831369d99c970df89f1d13e51c4bc2", func := "wayfinder/wayfinderlaw24.CostCalls", spec := "costCalls", unfollowed := true, recurses := true, apart := false, narrowed := true }
def CostCallsUptoSaid : Prop := costCallsUptoRow.holds Try.pinned (OpenSpec.upto costCallsSpec)

end Rows
end Go.Proofs.Ythlkmjgpmjnngaa
