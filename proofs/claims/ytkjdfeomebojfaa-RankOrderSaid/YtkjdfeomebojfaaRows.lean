/-
  No cell of these rows narrows 'for every input' (looked for: loops, veiled, ifaces, maps, wideKeys, modest, calm, conditions, laid).
  DERIVED. THE GIVEN ROWS OF THIS SEAT. 6 by the template 'for every input the law returns true; each argument reads behind the call as it read before'; 0 by the template 'total and deterministic' (their statements: YtkjdfeomebojfaaTotals.lean).
  GIVEN WITH THE SEED: the statements are not yours to turn. If you find one false, say at which input.
  Laid BY PROGRAM, IN A SANDBOX (cutbox-rows.mjs): the forced cells as the released guide's own fill.sh prints them over the translation ed6b5c1b35d7cdb8… (all of the seat's roots in one cut). By AI agents, Wed Nov 11 2026. No macro, syntax, notation, axiom, sorry.
-/
import Derived.Test.YtkjdfeomebojfaaChecked
import GoSem.Claim
import GoSem.ClaimJoined
import GoSem.ClaimMapViews
import Derived.JoinedTies
import Derived.KernelRfl
namespace Go.Proofs.Ytkjdfeomebojfaa
/- THE CELL 'sum', in the pinned program and in every row, IS THE sha256 OF THE DUMP (.gsa) THAT YtkjdfeomebojfaaProg.lean LOADS. Nothing in Lean hashes anything: it is a label: what it is worth is what the hold of that sum in a sandbox is worth. -/
noncomputable def Try.pinned : Pinned := { name := "ytkjdfeomebojfaa", sum := "ed6b5c1b35d7cdb835b185a95d6743c9103f645a6d25fd763f23d15c42f4635d", checked := Try.checked }
namespace Rows
def none {H : Type} : Left H := { results := [], args := [] }

/-- 'wayfinderlaw04.RankOrder': WHATEVER THE INPUT: true; the input reads as it did. -/
def rankOrderSpec : ChangeSpec := { name := "rankOrder", fn := fun _ => fun
  | [d1, d2, d3] => { results := [.lit (.bool true)], args := [d1, d2, d3] }
  | _ => none }
def rankOrderRow : OpenClaim := { program := "ytkjdfeomebojfaa", sum := "ed6b5c1b35d7cdb835b185a95d6743c9103f645a6d25fd763f23d15c42f4635d", func := "wayfinder/wayfinderlaw04.RankOrder", spec := "rankOrder", unfollowed := true, recurses := true, plainKeys := false, apart := false }
def RankOrderSaid : Prop := rankOrderRow.holds Try.pinned (OpenSpec.ofChange rankOrderSpec)

/-- ITS FALSE NEIGHBOUR: 'it returns false'. Refute it at one input. -/
def rankOrderWrong : ChangeSpec := { name := "rankOrder", fn := fun _ => fun
  | [d1, d2, d3] => { results := [.lit (.bool false)], args := [d1, d2, d3] }
  | _ => none }
def RankOrderWrongFalsely : Prop := rankOrderRow.holds Try.pinned (OpenSpec.ofChange rankOrderWrong)

/-- 'wayfinderlaw04.RankKeeps': WHATEVER THE INPUT: true; the input reads as it did. -/
def rankKeepsSpec : ChangeSpec := { name := "rankKeeps", fn := fun _ => fun
  | [d1, d2] => { results := [.lit (.bool true)], args := [d1, d2] }
  | _ => none }
def rankKeepsRow : OpenClaim := { program := "ytkjdfeomebojfaa", sum := "ed6b5c1b35d7cdb835b185a95d6743c9103f645a6d25fd763f23d15c42f4635d", func := "wayfinder/wayfinderlaw04.RankKeeps", spec := "rankKeeps", unfollowed := true, recurses := true, plainKeys := false, apart := false }
def RankKeepsSaid : Prop := rankKeepsRow.holds Try.pinned (OpenSpec.ofChange rankKeepsSpec)

/-- ITS FALSE NEIGHBOUR: 'it returns false'. Refute it at one input. -/
def rankKeepsWrong : ChangeSpec := { name := "rankKeeps", fn := fun _ => fun
  | [d1, d2] => { results := [.lit (.bool false)], args := [d1, d2] }
  | _ => none }
def RankKeepsWrongFalsely : Prop := rankKeepsRow.holds Try.pinned (OpenSpec.ofChange rankKeepsWrong)

/-- 'wayfinderlaw04.RankNames': WHATEVER THE INPUT: true; the input reads as it did. -/
def rankNamesSpec : ChangeSpec := { name := "rankNames", fn := fun _ => fun
  | [] => { results := [.lit (.bool true)], args := [] }
  | _ => none }
def rankNamesRow : OpenClaim := { program := "ytkjdfeomebojfaa", sum := "ed6b5c1b35d7cdb835b185a95d6743c9103f645a6d25fd763f23d15c42f4635d", func := "wayfinder/wayfinderlaw04.RankNames", spec := "rankNames", unfollowed := true, recurses := true, plainKeys := false, apart := false }
def RankNamesSaid : Prop := rankNamesRow.holds Try.pinned (OpenSpec.ofChange rankNamesSpec)

/-- ITS FALSE NEIGHBOUR: 'it returns false'. Refute it at one input. -/
def rankNamesWrong : ChangeSpec := { name := "rankNames", fn := fun _ => fun
  | [] => { results := [.lit (.bool false)], args := [] }
  | _ => none }
def RankNamesWrongFalsely : Prop := rankNamesRow.holds Try.pinned (OpenSpec.ofChange rankNamesWrong)

/-- 'wayfinderlaw04.RankNil': WHATEVER THE INPUT: true; the input reads as it did. -/
def rankNilSpec : ChangeSpec := { name := "rankNil", fn := fun _ => fun
  | [d] => { results := [.lit (.bool true)], args := [d] }
  | _ => none }
def rankNilRow : OpenClaim := { program := "ytkjdfeomebojfaa", sum := "ed6b5c1b35d7cdb835b185a95d6743c9103f645a6d25fd763f23d15c42f4635d", func := "wayfinder/wayfinderlaw04.RankNil", spec := "rankNil", unfollowed := true, recurses := true, plainKeys := false, apart := false }
def RankNilSaid : Prop := rankNilRow.holds Try.pinned (OpenSpec.ofChange rankNilSpec)

/-- ITS FALSE NEIGHBOUR: 'it returns false'. Refute it at one input. -/
def rankNilWrong : ChangeSpec := { name := "rankNil", fn := fun _ => fun
  | [d] => { results := [.lit (.bool false)], args := [d] }
  | _ => none }
def RankNilWrongFalsely : Prop := rankNilRow.holds Try.pinned (OpenSpec.ofChange rankNilWrong)

/-- 'wayfinderlaw04.RankMerges': WHATEVER THE INPUT: true; the input reads as it did. -/
def rankMergesSpec : ChangeSpec := { name := "rankMerges", fn := fun _ => fun
  | [d1, d2, d3] => { results := [.lit (.bool true)], args := [d1, d2, d3] }
  | _ => none }
def rankMergesRow : OpenClaim := { program := "ytkjdfeomebojfaa", sum := "ed6b5c1b35d7cdb835b185a95d6743c9103f645a6d25fd763f23d15c42f4635d", func := "wayfinder/wayfinderlaw04.RankMerges", spec := "rankMerges", unfollowed := true, recurses := true, plainKeys := false, apart := false }
def RankMergesSaid : Prop := rankMergesRow.holds Try.pinned (OpenSpec.ofChange rankMergesSpec)

/-- ITS FALSE NEIGHBOUR: 'it returns false'. Refute it at one input. -/
def rankMergesWrong : ChangeSpec := { name := "rankMerges", fn := fun _ => fun
  | [d1, d2, d3] => { results := [.lit (.bool false)], args := [d1, d2, d3] }
  | _ => none }
def RankMergesWrongFalsely : Prop := rankMergesRow.holds Try.pinned (OpenSpec.ofChange rankMergesWrong)

/-- 'wayfinderlaw04.RankCalls': WHATEVER THE INPUT: true; the input reads as it did. -/
def rankCallsSpec : ChangeSpec := { name := "rankCalls", fn := fun _ => fun
  | [d1, d2, d3, d4] => { results := [.lit (.bool true)], args := [d1, d2, d3, d4] }
  | _ => none }
def rankCallsRow : OpenClaim := { program := "ytkjdfeomebojfaa", sum := "ed6b5c1b35d7cdb835b185a95d6743c9103f645a6d25fd763f23d15c42f4635d", func := "wayfinder/wayfinderlaw04.RankCalls", spec := "rankCalls", unfollowed := true, recurses := true, plainKeys := false, apart := false }
def RankCallsSaid : Prop := rankCallsRow.holds Try.pinned (OpenSpec.ofChange rankCallsSpec)

/-- ITS FALSE NEIGHBOUR: 'it returns false'. Refute it at one input. -/
def rankCallsWrong : ChangeSpec := { name := "rankCalls", fn := fun _ => fun
  | [d1, d2, d3, d4] => { results := [.lit (.bool false)], args := [d1, d2, d3, d4] }
  | _ => none }
def RankCallsWrongFalsely : Prop := rankCallsRow.holds Try.pinned (OpenSpec.ofChange rankCallsWrong)

/- THE SECOND FORM. 'bulk': how many values and letters a reading holds, each counted each time it is reached (what is shared counts as often as it is met; a slice's spare places count too). A statement '..UptoSaid' is the law's where the arguments, and the package variables that the reading takes, are together of bulk at most 1048576: NARROWER than '..Said'. Prove '..Said' where nothing that the law and all that it calls make is longer than what came in: it says more and counts as full. Else prove '..UptoSaid'. A law counts once. -/
mutual
def uptoBulk {H : Type} : DataW H → Nat
  | .lit (.string bytes) => bytes.length + 1
  | .lit _ => 1
  | .nil => 1
  | .ptr d => uptoBulk d + 1
  | .slice elems spare => uptoBulkAll elems + uptoBulkAll spare + 1
  | .agg parts => uptoBulkAll parts + 1
  | .iface _ d => uptoBulk d + 1
  | .map entries => uptoBulkEntries entries + 1
  | .held _ => 1
def uptoBulkAll {H : Type} : List (DataW H) → Nat
  | [] => 0
  | d :: r => uptoBulk d + uptoBulkAll r
def uptoBulkEntries {H : Type} : List (Lit × DataW H) → Nat
  | [] => 0
  | x :: r => uptoBulkEntry x + uptoBulkEntries r
def uptoBulkEntry {H : Type} : Lit × DataW H → Nat
  | (.string bytes, d) => bytes.length + uptoBulk d + 1
  | (_, d) => uptoBulk d + 1
 end
def uptoSmall : (H : Type) → List (DataW H) → Bool := fun _ ds => decide (uptoBulkAll ds ≤ 1048576)
def OpenSpec.upto (s : _root_.Go.ChangeSpec) : _root_.Go.OpenSpec := { _root_.Go.OpenSpec.ofChange s with cond := some uptoSmall }

/-- 'wayfinderlaw04.RankOrder', WHERE WHAT IT READS IS OF BULK AT MOST 1048576: true; the input reads as it did. -/
def rankOrderUptoRow : OpenClaim := { program := "ytkjdfeomebojfaa", sum := "ed6b5c1b35d7cdb835b185a95d6743c9103f645a6d25fd763f23d15c42f4635d", func := "wayfinder/wayfinderlaw04.RankOrder", spec := "rankOrder", unfollowed := true, recurses := true, plainKeys := false, apart := false, narrowed := true }
def RankOrderUptoSaid : Prop := rankOrderUptoRow.holds Try.pinned (OpenSpec.upto rankOrderSpec)

/-- 'wayfinderlaw04.RankKeeps', WHERE WHAT IT READS IS OF BULK AT MOST 1048576: true; the input reads as it did. -/
def rankKeepsUptoRow : OpenClaim := { program := "ytkjdfeomebojfaa", sum := "ed6b5c1b35d7cdb835b185a95d6743c9103f645a6d25fd763f23d15c42f4635d", func := "wayfinder/wayfinderlaw04.RankKeeps", spec := "rankKeeps", unfollowed := true, recurses := true, plainKeys := false, apart := false, narrowed := true }
def RankKeepsUptoSaid : Prop := rankKeepsUptoRow.holds Try.pinned (OpenSpec.upto rankKeepsSpec)

/-- 'wayfinderlaw04.RankNames', WHERE WHAT IT READS IS OF BULK AT MOST 1048576: true; the input reads as it did. -/
def rankNamesUptoRow : OpenClaim := { program := "ytkjdfeomebojfaa", sum := "ed6b5c1b35d7cdb835b185a95d6743c9103f645a6d25fd763f23d15c42f4635d", func := "wayfinder/wayfinderlaw04.RankNames", spec := "rankNames", unfollowed := true, recurses := true, plainKeys := false, apart := false, narrowed := true }
def RankNamesUptoSaid : Prop := rankNamesUptoRow.holds Try.pinned (OpenSpec.upto rankNamesSpec)

/-- 'wayfinderlaw04.RankNil', WHERE WHAT IT READS IS OF BULK AT MOST 1048576: true; the input reads as it did. -/
def rankNilUptoRow : OpenClaim := { program := "ytkjdfeomebojfaa", sum := "ed6b5c1b35d7cdb835b185a95d6743c9103f645a6d25fd763f23d15c42f4635d", func := "wayfinder/wayfinderlaw04.RankNil", spec := "rankNil", unfollowed := true, recurses := true, plainKeys := false, apart := false, narrowed := true }
def RankNilUptoSaid : Prop := rankNilUptoRow.holds Try.pinned (OpenSpec.upto rankNilSpec)

/-- 'wayfinderlaw04.RankMerges', WHERE WHAT IT READS IS OF BULK AT MOST 1048576: true; the input reads as it did. -/
def rankMergesUptoRow : OpenClaim := { program := "ytkjdfeomebojfaa", sum := "ed6b5c1b35d7cdb835b185a95d6743c9103f645a6d25fd763f23d15c42f4635d", func := "wayfinder/wayfinderlaw04.RankMerges", spec := "rankMerges", unfollowed := true, recurses := true, plainKeys := false, apart := false, narrowed := true }
def RankMergesUptoSaid : Prop := rankMergesUptoRow.holds Try.pinned (OpenSpec.upto rankMergesSpec)

/-- 'wayfinderlaw04.RankCalls', WHERE WHAT IT READS IS OF BULK AT MOST 1048576: true; the input reads as it did. -/
def rankCallsUptoRow : OpenClaim := { program := "ytkjdfeomebojfaa", sum := "ed6b5c1b35d7cdb835b185a95d6743c9103f645a6d25fd763f23d15c42f4635d", func := "wayfinder/wayfinderlaw04.RankCalls", spec := "rankCalls", unfollowed := true, recurses := true, plainKeys := false, apart := false, narrowed := true }
def RankCallsUptoSaid : Prop := rankCallsUptoRow.holds Try.pinned (OpenSpec.upto rankCallsSpec)

end Rows
end Go.Proofs.Ytkjdfeomebojfaa
