/- Proved: whatever the input, the law 'wayfinderlaw23.ShadowNil' returns true, and the input reads as it did. No condition.
   The road: a deterministic machine over an abstract heap (the texts ..Det..), proved sound against the given model for every order that a region may draw; the kernel runs it with the arguments unknown. -/
import Derived.Test.YtkalgndkpmccmaaGreatRows
import Derived.Test.YtkalgndkpmccmaaGreatDvShape
import Derived.Test.YtkalgndkpmccmaaGreatKeys
import Derived.WalkKit
import Derived.ProofKit
import Derived.OpenShut
namespace Go.Proofs.YtkalgndkpmccmaaGreat.shadowNil
open Go.ChangeShapes Go.WideShapes Go.ChangeAt Go.RowKit Go.Det
set_option linter.unusedVariables false

theorem own : ownKnob Tryz.prog.godebug = none := by kernel_rfl

theorem mixed : Tryz.prog.follows .mixedOrders = true := by kernel_rfl

abbrev shapes : List Sh := [.fcons (.int .i64) (.fcons (.slice (.int .i16)) (.fcons (.bool) (.fnil)))]

theorem livesRan : answersTrue ((runTab tab Tryz.prog 1000).call 5 [] st0) = true := by kernel_rfl
noncomputable def tab2 : Tab := tabAdd 5 tab
theorem tabOk : TabOk Tryz.prog tab2 := tabAdd_ok tab_ok (CallS.ranT mixed tab_ok livesRan)
noncomputable def K : Known := { tab := knowRun tab2 Tryz.prog 1000, lp := fun _ _ => none }
theorem knownOk : KnownOk Tryz.prog K := knowRun_ok mixed tabOk
theorem formNil (id : Int) (g : Bool) : (callW Tryz.prog (runW Tryz.prog K 1000) 3 [.agg [.int .i64 id, .nilSlice, .bool g]] (stB false) fun v _ => yesQ v) = True := by kernel_rfl
theorem formMk (id : Int) (g : Bool) (l : List AV) (n c : Nat) : (callW Tryz.prog (runW Tryz.prog K 1000) 3 [.agg [.int .i64 id, .vs l n c true none 1, .bool g]] (stB false) fun v _ => yesQ v) = ifp (not (Nat.ble n 2000)) True True := by kernel_rfl
set_option maxRecDepth 100000 in
theorem walk {x : ShVs shapes} (hx : ShOks shapes x) {W : World} {args : Array Value} (h : VRs (frozenAll W) (ShAvs shapes x) args.toList) :
    Calls Tryz.prog 3 args W fun e w' => e = .returned (.bool true) ∧ Below W.heap.size W w' := by
  obtain ⟨⟨id, v, g, _⟩, _⟩ := x
  cases v with
  | nil =>
    have h' : VRs (frozenAll W) [.agg [.int .i64 id, .nilSlice, .bool g]] args.toList := h
    exact law_Weq (P := Tryz.prog) (K := K) (n := 1000) (f := 3) (b := false) (X := True) mixed knownOk (formNil id g) trivial h'
  | mk l c =>
    have h' : VRs (frozenAll W) [.agg [.int .i64 id, .vs (l.flatMap (Sh.int .i16).cells) l.length c true none 1, .bool g]] args.toList := h
    exact law_Weq (P := Tryz.prog) (K := K) (n := 1000) (f := 3) (b := false) mixed knownOk (formMk id g (l.flatMap (Sh.int .i16).cells) l.length c) (ifp_tt _) h'


set_option maxRecDepth 100000 in
theorem lifted (os : Os) (started : os.Started) (H : Type) (enc : TypeId × Value → H) :
    ReturnsInHanded {} Tryz.checked os 3 .any (Rows.shadowNilSpec.pre6 enc Tryz.prog Tryz.f3 Rows.shadowNilRow.domain false) (Rows.shadowNilSpec.post enc Tryz.prog Tryz.f3 false true false false) := by
  refine returnsInHanded_of_change (C := Tryz.checked) own started (by kernel_rfl) Tryz.func3
    (ChangeSpec.witness6 (enc := enc) (C := Tryz.checked) false ⟨#[], #[.agg #[.int .i64 0, .slice none 0 0, .bool false]], []⟩ 8 (by kernel_rfl) (by kernel_rfl) (by kernel_rfl) (by kernel_rfl)) ?_
  intro W base args ds gs before hval0 hW hcnd _
  have hW' := hW
  obtain ⟨p, q, hA0, hV, rfl, hfz, hnd⟩ := hW
  have hA : DataW.TrodAll enc Tryz.prog W 0 (fun _ => true) true Tryz.f3.params.toList args.toList ds p := hA0
  obtain ⟨rfl, rfl⟩ := trodVars_none hV
  simp only [List.append_nil] at hW'
  have hb0 : ∀ x ∈ p, x.block < W.heap.size := fun x hx => hW'.lt x hx
  obtain ⟨⟨x, hx, hx'⟩, hts⟩ := fitsAll_av (l := shapes) (ts := Tryz.f3.params.toList) (by kernel_rfl) (fun i t v h h' => hval0 i t v (by simpa using h) (by simpa using h')) hA
  refine (walk hx hx').mono fun e W' ⟨he, hg⟩ => ?_
  subst he
  have hds : ∃ d0, ds = [d0] := by
    have hA2 := hA
    rw [Tryz.params3] at hA2
    obtain ⟨_, _, d0, e0, _, _, _, rfl, _, _, h0⟩ := trodAll_cons hA2
    obtain ⟨_, rfl, _⟩ := trodAll_nil h0
    exact ⟨d0, rfl⟩
  obtain ⟨d0, rfl⟩ := hds
  exact ⟨_, rfl, Go.Det.post_of_below (pa := p) (pv := []) hW' hg (fun _ _ _ => (trodAll_cons_mk (shut_bool Tryz.underlying4 _) trodAll_mk0)) (fun sp hs => trodAll_stays (by kernel_rfl) hg sp hts hA hb0 hs) (fun _ _ => rfl) (List.append_nil _).symm
    (ok_one (by kernel_rfl) rfl (okWide_bool_mk Tryz.underlying4 _))⟩

theorem over : Rows.shadowNilRow.holds Tryz.pinned (OpenSpec.ofChange Rows.shadowNilSpec) :=
  OpenClaim.holds_of_wide 3 Tryz.f3 rfl rfl rfl rfl rfl rfl rfl ⟨rfl, rfl, rfl, rfl, rfl⟩ rfl rfl rfl rfl rfl (by kernel_rfl) Tryz.func3 (by kernel_rfl)
    (of_decide_eq_true (by kernel_rfl)) (by unfold Func.isWrapper; first | (rw [if_pos (by decide +kernel)]; kernel_rfl) | (rw [if_neg (by decide +kernel)]; exact ⟨rfl, rfl⟩))
    (fun os started H enc _ => lifted os started H enc)

theorem proved : Rows.ShadowNilSaid :=
  over
#print axioms proved
end Go.Proofs.YtkalgndkpmccmaaGreat.shadowNil
