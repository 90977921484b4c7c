/- Proved: whatever the input, the law 'wayfinderlaw19.IndexBytes' returns true, and the input reads as it did. No condition.
   The road: a deterministic machine over an abstract heap (the texts ..Det..), proved sound against the given model for every order that a region may draw; the kernel runs it with the arguments unknown. -/
import Derived.Test.YtcnnjlhecndhnaaGreatRows
import Derived.Test.YtcnnjlhecndhnaaGreatDc
import Derived.Test.YtcnnjlhecndhnaaGreatPb
import Derived.Test.YtcnnjlhecndhnaaGreatIndexBytesFacts
import Derived.WalkKit
import Derived.ProofKit
import Derived.OpenShut
namespace Go.Proofs.YtcnnjlhecndhnaaGreat.indexBytes
open Go.ChangeShapes Go.WideShapes Go.ChangeAt Go.RowKit Go.Det
set_option linter.unusedVariables false

theorem own : ownKnob Tryz.prog.godebug = none := by kernel_rfl

theorem mixed : Tryz.prog.follows .mixedOrders = true := by kernel_rfl

abbrev shapes : List Sh := [.fcons (.int .i64) (.fcons (.int .i64) (.fcons (.int .i64) (.fcons (.int .i64) (.fcons (.int .i64) (.fcons (.int .i64) (.fcons (.int .i64) (.fcons (.int .i64) (.fnil)))))))), .fcons (.slice (.slice (.int .i32))) (.fcons (.fcons (.slice (.slice (.slice (.int .i32)))) (.fnil)) (.fnil)), .int .i64, .int .u8]

theorem walk {x : ShVs shapes} (hx : ShOks shapes x) {W : World} {args : Array Value} (h : VRs (frozenAll W) (ShAvs shapes x) args.toList) :
    Calls Tryz.prog 6 args W fun e w' => e = .returned (.bool true) ∧ Below W.heap.size W w' :=
  indexBytesCalls hx h


set_option maxRecDepth 100000 in
theorem lifted (os : Os) (started : os.Started) (H : Type) (enc : TypeId × Value → H) :
    ReturnsInHanded {} Tryz.checked os 6 .any (Rows.indexBytesSpec.pre6 enc Tryz.prog Tryz.f6 Rows.indexBytesRow.domain false) (Rows.indexBytesSpec.post enc Tryz.prog Tryz.f6 false true false false) := by
  refine returnsInHanded_of_change (C := Tryz.checked) own started (by kernel_rfl) Tryz.func6
    (ChangeSpec.witness6 (enc := enc) (C := Tryz.checked) false ⟨#[], #[.agg #[.int .i64 0, .int .i64 0, .int .i64 0, .int .i64 0, .int .i64 0, .int .i64 0, .int .i64 0, .int .i64 0], .agg #[.slice none 0 0, .slice none 0 0], .int .i64 0, .int .u8 0], []⟩ 8 (by kernel_rfl) (by kernel_rfl) (by kernel_rfl) (by kernel_rfl)) ?_
  intro W base args ds gs before hval0 hW hcnd _
  have hW' := hW
  obtain ⟨p, q, hA0, hV, rfl, hfz, hnd⟩ := hW
  have hA : DataW.TrodAll enc Tryz.prog W 0 (fun _ => true) true Tryz.f6.params.toList args.toList ds p := hA0
  obtain ⟨rfl, rfl⟩ := trodVars_none hV
  simp only [List.append_nil] at hW'
  have hb0 : ∀ x ∈ p, x.block < W.heap.size := fun x hx => hW'.lt x hx
  obtain ⟨⟨x, hx, hx'⟩, hts⟩ := fitsAll_av (l := shapes) (ts := Tryz.f6.params.toList) (by kernel_rfl) (fun i t v h h' => hval0 i t v (by simpa using h) (by simpa using h')) hA
  refine (walk hx hx').mono fun e W' ⟨he, hg⟩ => ?_
  subst he
  have hds : ∃ d0 d1 d2 d3, ds = [d0, d1, d2, d3] := by
    have hA2 := hA
    rw [Tryz.params6] at hA2
    obtain ⟨_, _, d0, e0, _, _, _, rfl, _, _, h0⟩ := trodAll_cons hA2
    obtain ⟨_, _, d1, e1, _, _, _, rfl, _, _, h1⟩ := trodAll_cons h0
    obtain ⟨_, _, d2, e2, _, _, _, rfl, _, _, h2⟩ := trodAll_cons h1
    obtain ⟨_, _, d3, e3, _, _, _, rfl, _, _, h3⟩ := trodAll_cons h2
    obtain ⟨_, rfl, _⟩ := trodAll_nil h3
    exact ⟨d0, d1, d2, d3, rfl⟩
  obtain ⟨d0, d1, d2, d3, rfl⟩ := hds
  exact ⟨_, rfl, Go.Det.post_of_below (pa := p) (pv := []) hW' hg (fun _ _ _ => (trodAll_cons_mk (shut_bool Tryz.underlying4 _) trodAll_mk0)) (fun sp hs => trodAll_stays (by kernel_rfl) hg sp hts hA hb0 hs) (fun _ _ => rfl) (List.append_nil _).symm
    (ok_one (by kernel_rfl) rfl (okWide_bool_mk Tryz.underlying4 _))⟩

theorem over : Rows.indexBytesRow.holds Tryz.pinned (OpenSpec.ofChange Rows.indexBytesSpec) :=
  OpenClaim.holds_of_wide 6 Tryz.f6 rfl rfl rfl rfl rfl rfl rfl ⟨rfl, rfl, rfl, rfl, rfl⟩ rfl rfl rfl rfl rfl namedFact Tryz.func6 closedFacts
    (of_decide_eq_true (by kernel_rfl)) (by unfold Func.isWrapper; first | (rw [if_pos (by decide +kernel)]; kernel_rfl) | (rw [if_neg (by decide +kernel)]; exact ⟨rfl, rfl⟩))
    (fun os started H enc _ => lifted os started H enc)

theorem proved : Rows.IndexBytesSaid :=
  over
#print axioms proved
end Go.Proofs.YtcnnjlhecndhnaaGreat.indexBytes
