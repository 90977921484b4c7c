/- Proved: whatever the input, the law 'wayfinderlaw26.ModelNil' returns true, and the input reads as it did. No condition.
   The road: a deterministic machine over an abstract heap (the texts ..Det..), proved sound against the given model for every order that a region may draw; the kernel runs it with the arguments unknown. -/
import Derived.Test.YtnlobbllkcckfaaGreatRows
import Derived.Test.YtnlobbllkcckfaaGreatDvShape
import Derived.Test.YtnlobbllkcckfaaGreatKeys
import Derived.WalkKit
import Derived.ProofKit
import Derived.OpenShut
namespace Go.Proofs.YtnlobbllkcckfaaGreat.modelNil
open Go.ChangeShapes Go.WideShapes Go.ChangeAt Go.RowKit Go.Det
set_option linter.unusedVariables false

theorem own : ownKnob Tryz.prog.godebug = none := by kernel_rfl

theorem mixed : Tryz.prog.follows .mixedOrders = true := by kernel_rfl

abbrev shapes : List Sh := [.slice (.int .u8)]

theorem livesRan : answersTrue ((runTab tab Tryz.prog 1000).call 5 [] st0) = true := by kernel_rfl
noncomputable def tab2 : Tab := tabAdd 5 tab
theorem tabOk : TabOk Tryz.prog tab2 := tabAdd_ok tab_ok (CallS.ranT mixed tab_ok livesRan)
noncomputable def K : Known := { tab := knowRun tab2 Tryz.prog 1000, lp := fun _ _ => none }
theorem knownOk : KnownOk Tryz.prog K := knowRun_ok mixed tabOk
theorem form (l : List AV) (n c : Nat) : (callW Tryz.prog (runW Tryz.prog K 1000) 3 [.vs l n c true none 1] (stB false) fun v _ => yesQ v) = ifp (not (Nat.ble n 4000)) True True := by kernel_rfl
set_option maxRecDepth 100000 in
theorem walk {x : ShVs shapes} (hx : ShOks shapes x) {W : World} {args : Array Value} (h : VRs (frozenAll W) (ShAvs shapes x) args.toList) :
    Calls Tryz.prog 3 args W fun e w' => e = .returned (.bool true) ∧ Below W.heap.size W w' := by
  obtain ⟨v, _⟩ := x
  cases v with
  | nil =>
    have h' : VRs (frozenAll W) [.vs [] 0 0 true none 1] args.toList := h
    exact law_Weq (P := Tryz.prog) (K := K) (n := 1000) (f := 3) (b := false) mixed knownOk (form [] 0 0) (ifp_tt _) h'
  | mk l c =>
    have h' : VRs (frozenAll W) [.vs (l.flatMap (Sh.int .u8).cells) l.length c true none 1] args.toList := h
    exact law_Weq (P := Tryz.prog) (K := K) (n := 1000) (f := 3) (b := false) mixed knownOk (form (l.flatMap (Sh.int .u8).cells) l.length c) (ifp_tt _) h'


end Go.Proofs.YtnlobbllkcckfaaGreat.modelNil
