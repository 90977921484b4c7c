/-
  No cell of these rows narrows 'for every input' (looked for: loops, veiled, ifaces, maps, wideKeys, modest, calm, conditions, laid).
  DERIVED. THE GIVEN ROWS OF THIS SEAT. 4 by the template 'for every input the law returns true; each argument reads behind the call as it read before'; 0 by the template 'total and deterministic' (their statements: YtjckmoikfbcemaaGreatTotals.lean).
  GIVEN WITH THE SEED: the statements are not yours to turn. If you find one false, say at which input.
  Laid BY PROGRAM, IN A SANDBOX (cutbox-rows.mjs): the forced cells as the released guide's own fill.sh prints them over the translation 52477f03a642660c… (all of the seat's roots in one cut). By AI agents, Wed Nov 11 2026. No macro, syntax, notation, axiom, sorry.
-/
import Derived.Test.YtjckmoikfbcemaaGreatChecked
import GoSem.Claim
import GoSem.ClaimJoined
import GoSem.ClaimMapViews
import Derived.JoinedTies
import Derived.KernelRfl
namespace Go.Proofs.YtjckmoikfbcemaaGreat
/- THE CELL 'sum', in the pinned program and in every row, IS THE sha256 OF THE DUMP (.gsa) THAT YtjckmoikfbcemaaGreatProg.lean LOADS. Nothing in Lean hashes anything: it is a label: what it is worth is what the hold of that sum in a sandbox is worth. -/
noncomputable def Tryz.pinned : Pinned := { name := "ytjckmoikfbcemaagreat", sum := "52477f03a642660ccc548ab94360fc4c818c949a749f17b7820d25e798c0b93e", checked := Tryz.checked }
namespace Rows
def none {H : Type} : Left H := { results := [], args := [] }

/-- 'wayfinderlaw20.ProbeOrders': WHATEVER THE INPUT: true; the input reads as it did. -/
def probeOrdersSpec : ChangeSpec := { name := "probeOrders", fn := fun _ => fun
  | [d1, d2, d3] => { results := [.lit (.bool true)], args := [d1, d2, d3] }
  | _ => none }
def probeOrdersRow : OpenClaim := { program := "ytjckmoikfbcemaagreat", sum := "52477f03a642660ccc548ab94360fc4c818c949a749f17b7820d25e798c0b93e", func := "wayfinder/wayfinderlaw20.ProbeOrders", spec := "probeOrders", unfollowed := true, recurses := true, plainKeys := false, apart := false }
def ProbeOrdersSaid : Prop := probeOrdersRow.holds Tryz.pinned (OpenSpec.ofChange probeOrdersSpec)

/-- ITS FALSE NEIGHBOUR: 'it returns false'. Refute it at one input. -/
def probeOrdersWrong : ChangeSpec := { name := "probeOrders", fn := fun _ => fun
  | [d1, d2, d3] => { results := [.lit (.bool false)], args := [d1, d2, d3] }
  | _ => none }
def ProbeOrdersWrongFalsely : Prop := probeOrdersRow.holds Tryz.pinned (OpenSpec.ofChange probeOrdersWrong)

/-- 'wayfinderlaw20.ProbeCalls': WHATEVER THE INPUT: true; the input reads as it did. -/
def probeCallsSpec : ChangeSpec := { name := "probeCalls", fn := fun _ => fun
  | [d1, d2, d3, d4, d5, d6, d7] => { results := [.lit (.bool true)], args := [d1, d2, d3, d4, d5, d6, d7] }
  | _ => none }
def probeCallsRow : OpenClaim := { program := "ytjckmoikfbcemaagreat", sum := "52477f03a642660ccc548ab94360fc4c818c949a749f17b7820d25e798c0b93e", func := "wayfinder/wayfinderlaw20.ProbeCalls", spec := "probeCalls", unfollowed := true, recurses := true, plainKeys := false, apart := false }
def ProbeCallsSaid : Prop := probeCallsRow.holds Tryz.pinned (OpenSpec.ofChange probeCallsSpec)

/-- ITS FALSE NEIGHBOUR: 'it returns false'. Refute it at one input. -/
def probeCallsWrong : ChangeSpec := { name := "probeCalls", fn := fun _ => fun
  | [d1, d2, d3, d4, d5, d6, d7] => { results := [.lit (.bool false)], args := [d1, d2, d3, d4, d5, d6, d7] }
  | _ => none }
def ProbeCallsWrongFalsely : Prop := probeCallsRow.holds Tryz.pinned (OpenSpec.ofChange probeCallsWrong)

/-- 'wayfinderlaw20.ProbeFirst': WHATEVER THE INPUT: true; the input reads as it did. -/
def probeFirstSpec : ChangeSpec := { name := "probeFirst", fn := fun _ => fun
  | [d1, d2, d3, d4, d5, d6] => { results := [.lit (.bool true)], args := [d1, d2, d3, d4, d5, d6] }
  | _ => none }
def probeFirstRow : OpenClaim := { program := "ytjckmoikfbcemaagreat", sum := "52477f03a642660ccc548ab94360fc4c818c949a749f17b7820d25e798c0b93e", func := "wayfinder/wayfinderlaw20.ProbeFirst", spec := "probeFirst", unfollowed := true, recurses := true, plainKeys := false, apart := false }
def ProbeFirstSaid : Prop := probeFirstRow.holds Tryz.pinned (OpenSpec.ofChange probeFirstSpec)

/-- ITS FALSE NEIGHBOUR: 'it returns false'. Refute it at one input. -/
def probeFirstWrong : ChangeSpec := { name := "probeFirst", fn := fun _ => fun
  | [d1, d2, d3, d4, d5, d6] => { results := [.lit (.bool false)], args := [d1, d2, d3, d4, d5, d6] }
  | _ => none }
def ProbeFirstWrongFalsely : Prop := probeFirstRow.holds Tryz.pinned (OpenSpec.ofChange probeFirstWrong)

/-- 'wayfinderlaw20.ProbeHolds': WHATEVER THE INPUT: true; the input reads as it did. -/
def probeHoldsSpec : ChangeSpec := { name := "probeHolds", fn := fun _ => fun
  | [d1, d2, d3, d4, d5] => { results := [.lit (.bool true)], args := [d1, d2, d3, d4, d5] }
  | _ => none }
def probeHoldsRow : OpenClaim := { program := "ytjckmoikfbcemaagreat", sum := "52477f03a642660ccc548ab94360fc4c818c949a749f17b7820d25e798c0b93e", func := "wayfinder/wayfinderlaw20.ProbeHolds", spec := "probeHolds", unfollowed := true, recurses := true, plainKeys := false, apart := false }
def ProbeHoldsSaid : Prop := probeHoldsRow.holds Tryz.pinned (OpenSpec.ofChange probeHoldsSpec)

/-- ITS FALSE NEIGHBOUR: 'it returns false'. Refute it at one input. -/
def probeHoldsWrong : ChangeSpec := { name := "probeHolds", fn := fun _ => fun
  | [d1, d2, d3, d4, d5] => { results := [.lit (.bool false)], args := [d1, d2, d3, d4, d5] }
  | _ => none }
def ProbeHoldsWrongFalsely : Prop := probeHoldsRow.holds Tryz.pinned (OpenSpec.ofChange probeHoldsWrong)

/- THE SECOND FORM. 'bulk': how many values and letters a reading holds, each counted each time it is reached (what is shared counts as often as it is met; a slice's spare places count too). A statement '..UptoSaid' is the law's where the arguments, and the package variables that the reading takes, are together of bulk at most 1048576: NARROWER than '..Said'. Prove '..Said' where nothing that the law and all that it calls make is longer than what came in: it says more and counts as full. Else prove '..UptoSaid'. A law counts once. -/
mutual
def uptoBulk {H : Type} : DataW H → Nat
  | .lit (.string bytes) => bytes.length + 1
  | .lit _ => 1
  | .nil => 1
  | .ptr d => uptoBulk d + 1
  | .slice elems spare => uptoBulkAll elems + uptoBulkAll spare + 1
  | .agg parts => uptoBulkAll parts + 1
  | .iface _ d => uptoBulk d + 1
  | .map entries => uptoBulkEntries entries + 1
  | .held _ => 1
def uptoBulkAll {H : Type} : List (DataW H) → Nat
  | [] => 0
  | d :: r => uptoBulk d + uptoBulkAll r
def uptoBulkEntries {H : Type} : List (Lit × DataW H) → Nat
  | [] => 0
  | x :: r => uptoBulkEntry x + uptoBulkEntries r
def uptoBulkEntry {H : Type} : Lit × DataW H → Nat
  | (.string bytes, d) => bytes.length + uptoBulk d + 1
  | (_, d) => uptoBulk d + 1
 end
def uptoSmall : (H : Type) → List (DataW H) → Bool := fun _ ds => decide (uptoBulkAll ds ≤ 1048576)
def OpenSpec.upto (s : _root_.Go.ChangeSpec) : _root_.Go.OpenSpec := { _root_.Go.OpenSpec.ofChange s with cond := some uptoSmall }

/-- 'wayfinderlaw20.ProbeOrders', WHERE WHAT IT READS IS OF BULK AT MOST 1048576: true; the input reads as it did. -/
def probeOrdersUptoRow : OpenClaim := { program := "ytjckmoikfbcemaagreat", sum := "52477f03a642660ccc548ab94360fc4c818c949a749f17b7820d25e798c0b93e", func := "wayfinder/wayfinderlaw20.ProbeOrders", spec := "probeOrders", unfollowed := true, recurses := true, plainKeys := false, apart := false, narrowed := true }
def ProbeOrdersUptoSaid : Prop := probeOrdersUptoRow.holds Tryz.pinned (OpenSpec.upto probeOrdersSpec)

/-- 'wayfinderlaw20.ProbeCalls', WHERE WHAT IT READS IS OF BULK AT MOST 1048576: true; the input reads as it did. -/
def probeCallsUptoRow : OpenClaim := { program := "ytjckmoikfbcemaagreat", sum := "52477f03a642660ccc548ab94360fc4c818c949a749f17b7820d25e798c0b93e", func := "wayfinder/wayfinderlaw20.ProbeCalls", spec := "probeCalls", unfollowed := true, recurses := true, plainKeys := false, apart := false, narrowed := true }
def ProbeCallsUptoSaid : Prop := probeCallsUptoRow.holds Tryz.pinned (OpenSpec.upto probeCallsSpec)

/-- 'wayfinderlaw20.ProbeFirst', WHERE WHAT IT READS IS OF BULK AT MOST 1048576: true; the input reads as it did. -/
def probeFirstUptoRow : OpenClaim := { program := "ytjckmoikfbcemaagreat", sum := "52477f03a642660ccc548ab94360fc4c818c949a749f17b7820d25e798c0b93e", func := "wayfinder/wayfinderlaw20.ProbeFirst", spec := "probeFirst", unfollowed := true, recurses := true, plainKeys := false, apart := false, narrowed := true }
def ProbeFirstUptoSaid : Prop := probeFirstUptoRow.holds Tryz.pinned (OpenSpec.upto probeFirstSpec)

/-- 'wayfinderlaw20.ProbeHolds', WHERE WHAT IT READS IS OF BULK AT MOST 1048576: true; the input reads as it did. -/
def probeHoldsUptoRow : OpenClaim := { program := "ytjckmoikfbcemaagreat", sum := "52477f03a642660ccc548ab94360fc4c818c949a749f17b7820d25e798c0b93e", func := "wayfinder/wayfinderlaw20.ProbeHolds", spec := "probeHolds", unfollowed := true, recurses := true, plainKeys := false, apart := false, narrowed := true }
def ProbeHoldsUptoSaid : Prop := probeHoldsUptoRow.holds Tryz.pinned (OpenSpec.upto probeHoldsSpec)

end Rows
end Go.Proofs.YtjckmoikfbcemaaGreat
