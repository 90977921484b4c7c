/-
  No cell of these rows narrows 'for every input' (looked for: loops, veiled, ifaces, maps, wideKeys, modest, calm, conditions, laid).
  DERIVED. THE GIVEN ROWS OF THIS SEAT. 4 by the template 'for every input the law returns true; each argument reads behind the call as it read before'; 0 by the template 'total and deterministic' (their statements: YtcnnjlhecndhnaaGreatTotals.lean).
  GIVEN WITH THE SEED: the statements are not yours to turn. If you find one false, say at which input.
  Laid BY PROGRAM, IN A SANDBOX (cutbox-rows.mjs): the forced cells as the released guide's own fill.sh prints them over the translation 3b8fd53be2c3045a… (all of the seat's roots in one cut). By AI agents, Wed Nov 11 2026. No macro, syntax, notation, axiom, sorry.
-/
import Derived.Test.YtcnnjlhecndhnaaGreatChecked
import GoSem.Claim
import GoSem.ClaimJoined
import GoSem.ClaimMapViews
import Derived.JoinedTies
import Derived.KernelRfl
namespace Go.Proofs.YtcnnjlhecndhnaaGreat
/- THE CELL 'sum', in the pinned program and in every row, IS THE sha256 OF THE DUMP (.gsa) THAT YtcnnjlhecndhnaaGreatProg.lean LOADS. Nothing in Lean hashes anything: it is a label: what it is worth is what the hold of that sum in a sandbox is worth. -/
noncomputable def Tryz.pinned : Pinned := { name := "ytcnnjlhecndhnaagreat", sum := "3b8fd53be2c3045a5ae76ad081cc175f9944467d84c7b59798c557431349963f", checked := Tryz.checked }
namespace Rows
def none {H : Type} : Left H := { results := [], args := [] }

/-- 'wayfinderlaw19.IndexRows': WHATEVER THE INPUT: true; the input reads as it did. -/
def indexRowsSpec : ChangeSpec := { name := "indexRows", fn := fun _ => fun
  | [d1, d2, d3] => { results := [.lit (.bool true)], args := [d1, d2, d3] }
  | _ => none }
def indexRowsRow : OpenClaim := { program := "ytcnnjlhecndhnaagreat", sum := "3b8fd53be2c3045a5ae76ad081cc175f9944467d84c7b59798c557431349963f", func := "wayfinder/wayfinderlaw19.IndexRows", spec := "indexRows", unfollowed := true, recurses := true, apart := false }
def IndexRowsSaid : Prop := indexRowsRow.holds Tryz.pinned (OpenSpec.ofChange indexRowsSpec)

/-- ITS FALSE NEIGHBOUR: 'it returns false'. Refute it at one input. -/
def indexRowsWrong : ChangeSpec := { name := "indexRows", fn := fun _ => fun
  | [d1, d2, d3] => { results := [.lit (.bool false)], args := [d1, d2, d3] }
  | _ => none }
def IndexRowsWrongFalsely : Prop := indexRowsRow.holds Tryz.pinned (OpenSpec.ofChange indexRowsWrong)

/-- 'wayfinderlaw19.IndexScript': WHATEVER THE INPUT: true; the input reads as it did. -/
def indexScriptSpec : ChangeSpec := { name := "indexScript", fn := fun _ => fun
  | [d1, d2, d3, d4] => { results := [.lit (.bool true)], args := [d1, d2, d3, d4] }
  | _ => none }
def indexScriptRow : OpenClaim := { program := "ytcnnjlhecndhnaagreat", sum := "3b8fd53be2c3045a5ae76ad081cc175f9944467d84c7b59798c557431349963f", func := "wayfinder/wayfinderlaw19.IndexScript", spec := "indexScript", inPlace := ["maps.clone"], unfollowed := true, recurses := true, apart := false }
def IndexScriptSaid : Prop := indexScriptRow.holds Tryz.pinned (OpenSpec.ofChange indexScriptSpec)

/-- ITS FALSE NEIGHBOUR: 'it returns false'. Refute it at one input. -/
def indexScriptWrong : ChangeSpec := { name := "indexScript", fn := fun _ => fun
  | [d1, d2, d3, d4] => { results := [.lit (.bool false)], args := [d1, d2, d3, d4] }
  | _ => none }
def IndexScriptWrongFalsely : Prop := indexScriptRow.holds Tryz.pinned (OpenSpec.ofChange indexScriptWrong)

/-- 'wayfinderlaw19.IndexCalls': WHATEVER THE INPUT: true; the input reads as it did. -/
def indexCallsSpec : ChangeSpec := { name := "indexCalls", fn := fun _ => fun
  | [d1, d2, d3, d4, d5, d6] => { results := [.lit (.bool true)], args := [d1, d2, d3, d4, d5, d6] }
  | _ => none }
def indexCallsRow : OpenClaim := { program := "ytcnnjlhecndhnaagreat", sum := "3b8fd53be2c3045a5ae76ad081cc175f9944467d84c7b59798c557431349963f", func := "wayfinder/wayfinderlaw19.IndexCalls", spec := "indexCalls", unfollowed := true, recurses := true, apart := false }
def IndexCallsSaid : Prop := indexCallsRow.holds Tryz.pinned (OpenSpec.ofChange indexCallsSpec)

/-- ITS FALSE NEIGHBOUR: 'it returns false'. Refute it at one input. -/
def indexCallsWrong : ChangeSpec := { name := "indexCalls", fn := fun _ => fun
  | [d1, d2, d3, d4, d5, d6] => { results := [.lit (.bool false)], args := [d1, d2, d3, d4, d5, d6] }
  | _ => none }
def IndexCallsWrongFalsely : Prop := indexCallsRow.holds Tryz.pinned (OpenSpec.ofChange indexCallsWrong)

/-- 'wayfinderlaw19.IndexBytes': WHATEVER THE INPUT: true; the input reads as it did. -/
def indexBytesSpec : ChangeSpec := { name := "indexBytes", fn := fun _ => fun
  | [d1, d2, d3, d4] => { results := [.lit (.bool true)], args := [d1, d2, d3, d4] }
  | _ => none }
def indexBytesRow : OpenClaim := { program := "ytcnnjlhecndhnaagreat", sum := "3b8fd53be2c3045a5ae76ad081cc175f9944467d84c7b59798c557431349963f", func := "wayfinder/wayfinderlaw19.IndexBytes", spec := "indexBytes", unfollowed := true, recurses := true, apart := false }
def IndexBytesSaid : Prop := indexBytesRow.holds Tryz.pinned (OpenSpec.ofChange indexBytesSpec)

/-- ITS FALSE NEIGHBOUR: 'it returns false'. Refute it at one input. -/
def indexBytesWrong : ChangeSpec := { name := "indexBytes", fn := fun _ => fun
  | [d1, d2, d3, d4] => { results := [.lit (.bool false)], args := [d1, d2, d3, d4] }
  | _ => none }
def IndexBytesWrongFalsely : Prop := indexBytesRow.holds Tryz.pinned (OpenSpec.ofChange indexBytesWrong)

/- THE SECOND FORM. 'bulk': how many values and letters a reading holds, each counted each time it is reached (what is shared counts as often as it is met; a slice's spare places count too). A statement '..UptoSaid' is the law's where the arguments, and the package variables that the reading takes, are together of bulk at most 1048576: NARROWER than '..Said'. Prove '..Said' where nothing that the law and all that it calls make is longer than what came in: it says more and counts as full. Else prove '..UptoSaid'. A law counts once. -/
mutual
def uptoBulk {H : Type} : DataW H → Nat
  | .lit (.string bytes) => bytes.length + 1
  | .lit _ => 1
  | .nil => 1
  | .ptr d => uptoBulk d + 1
  | .slice elems spare => uptoBulkAll elems + uptoBulkAll spare + 1
  | .agg parts => uptoBulkAll parts + 1
  | .iface _ d => uptoBulk d + 1
  | .map entries => uptoBulkEntries entries + 1
  | .held _ => 1
def uptoBulkAll {H : Type} : List (DataW H) → Nat
  | [] => 0
  | d :: r => uptoBulk d + uptoBulkAll r
def uptoBulkEntries {H : Type} : List (Lit × DataW H) → Nat
  | [] => 0
  | x :: r => uptoBulkEntry x + uptoBulkEntries r
def uptoBulkEntry {H : Type} : Lit × DataW H → Nat
  | (.string bytes, d) => bytes.length + uptoBulk d + 1
  | (_, d) => uptoBulk d + 1
 end
def uptoSmall : (H : Type) → List (DataW H) → Bool := fun _ ds => decide (uptoBulkAll ds ≤ 1048576)
def OpenSpec.upto (s : _root_.Go.ChangeSpec) : _root_.Go.OpenSpec := { _root_.Go.OpenSpec.ofChange s with cond := some uptoSmall }

/-- 'wayfinderlaw19.IndexRows', WHERE WHAT IT READS IS OF BULK AT MOST 1048576: true; the input reads as it did. -/
def indexRowsUptoRow : OpenClaim := { program := "ytcnnjlhecndhnaagreat", sum := "3b8fd53be2c3045a5ae76ad081cc175f9944467d84c7b59798c557431349963f", func := "wayfinder/wayfinderlaw19.IndexRows", spec := "indexRows", unfollowed := true, recurses := true, apart := false, narrowed := true }
def IndexRowsUptoSaid : Prop := indexRowsUptoRow.holds Tryz.pinned (OpenSpec.upto indexRowsSpec)

/-- 'wayfinderlaw19.IndexScript', WHERE WHAT IT READS IS OF BULK AT MOST 1048576: true; the input reads as it did. -/
def indexScriptUptoRow : OpenClaim := { program := "ytcnnjlhecndhnaagreat", sum := "3b8fd53be2c3045a5ae76ad081cc175f9944467d84c7b59798c557431349963f", func := "wayfinder/wayfinderlaw19.IndexScript", spec := "indexScript", inPlace := ["maps.clone"], unfollowed := true, recurses := true, apart := false, narrowed := true }
def IndexScriptUptoSaid : Prop := indexScriptUptoRow.holds Tryz.pinned (OpenSpec.upto indexScriptSpec)

/-- 'wayfinderlaw19.IndexCalls', WHERE WHAT IT READS IS OF BULK AT MOST 1048576: true; the input reads as it did. -/
def indexCallsUptoRow : OpenClaim := { program := "ytcnnjlhecndhnaagreat", sum := "3b8fd53be2c3045a5ae76ad081cc175f9944467d84c7b59798c557431349963f", func := "wayfinder/wayfinderlaw19.IndexCalls", spec := "indexCalls", unfollowed := true, recurses := true, apart := false, narrowed := true }
def IndexCallsUptoSaid : Prop := indexCallsUptoRow.holds Tryz.pinned (OpenSpec.upto indexCallsSpec)

/-- 'wayfinderlaw19.IndexBytes', WHERE WHAT IT READS IS OF BULK AT MOST 1048576: true; the input reads as it did. -/
def indexBytesUptoRow : OpenClaim := { program := "ytcnnjlhecndhnaagreat", sum := "3b8fd53be2c3045a5ae76ad081cc175f9944467d84c7b59798c557431349963f", func := "wayfinder/wayfinderlaw19.IndexBytes", spec := "indexBytes", unfollowed := true, recurses := true, apart := false, narrowed := true }
def IndexBytesUptoSaid : Prop := indexBytesUptoRow.holds Tryz.pinned (OpenSpec.upto indexBytesSpec)

end Rows
end Go.Proofs.YtcnnjlhecndhnaaGreat
