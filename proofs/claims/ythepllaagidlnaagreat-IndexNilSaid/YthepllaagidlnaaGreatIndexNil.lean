/- Proved: whatever the input, the law 'wayfinderlaw19.IndexNil' returns true, and the input reads as it did. No condition.
   The road: a deterministic machine over an abstract heap (the texts ..Det..), proved sound against the given model for every order that a region may draw; the kernel runs it with the arguments unknown. -/
import Derived.Test.YthepllaagidlnaaGreatRows
import Derived.Test.YthepllaagidlnaaGreatDvShape
import Derived.WalkKit
import Derived.ProofKit
import Derived.OpenShut
namespace Go.Proofs.YthepllaagidlnaaGreat.indexNil
open Go.ChangeShapes Go.WideShapes Go.ChangeAt Go.RowKit Go.Det
set_option linter.unusedVariables false

theorem own : ownKnob Tryz.prog.godebug = none := by kernel_rfl

theorem mixed : Tryz.prog.follows .mixedOrders = true := by kernel_rfl

abbrev shapes : List Sh := [.int .i64, .slice (.int .i16)]

theorem livesRan : answersTrue ((run Tryz.prog 1000).call 5 [] st0) = true := by kernel_rfl
theorem livesS (st : St) : CallS Tryz.prog 5 [] st (.bool true) st := CallS.closed_ran mixed livesRan st
noncomputable def tab : Tab := tabOne 5
theorem tabOk : TabOk Tryz.prog tab := tabOne_ok livesS
noncomputable def K : Known := ⟨knowRun tab Tryz.prog 1000, fun _ _ => none⟩
theorem knownOk : KnownOk Tryz.prog K := knowRun_ok mixed tabOk
theorem formNil (id : Int) : (callW Tryz.prog (runW Tryz.prog K 1000) 3 [.int .i64 id, .nilSlice] (stB false) fun v _ => yesQ v) = True := by kernel_rfl
theorem formMk (id : Int) (l : List AV) (n c : Nat) : (callW Tryz.prog (runW Tryz.prog K 1000) 3 [.int .i64 id, .vs l n c true none 1] (stB false) fun v _ => yesQ v) = ifp (not (Nat.ble n 2000)) True True := by kernel_rfl
set_option maxRecDepth 100000 in
theorem walk {x : ShVs shapes} (hx : ShOks shapes x) {W : World} {args : Array Value} (h : VRs (frozenAll W) (ShAvs shapes x) args.toList) :
    Calls Tryz.prog 3 args W fun e w' => e = .returned (.bool true) ∧ Below W.heap.size W w' := by
  obtain ⟨id, v, _⟩ := x
  cases v with
  | nil =>
    have h' : VRs (frozenAll W) [.int .i64 id, .nilSlice] args.toList := h
    exact law_Weq (P := Tryz.prog) (K := K) (n := 1000) (f := 3) (args := [.int .i64 id, .nilSlice]) (b := false) (X := True) mixed knownOk (formNil id) trivial h'
  | mk l c =>
    have h' : VRs (frozenAll W) [.int .i64 id, .vs (l.flatMap (Sh.int .i16).cells) l.length c true none 1] args.toList := h
    exact law_Weq (P := Tryz.prog) (K := K) (n := 1000) (f := 3) (b := false) mixed knownOk (formMk id (l.flatMap (Sh.int .i16).cells) l.length c) (ifp_tt _) h'


set_option maxRecDepth 100000 in
theorem lifted (os : Os) (started : os.Started) (H : Type) (enc : TypeId × Value → H) :
    ReturnsInHanded {} Tryz.checked os 3 .any (Rows.indexNilSpec.pre6 enc Tryz.prog Tryz.f3 Rows.indexNilRow.domain false) (Rows.indexNilSpec.post enc Tryz.prog Tryz.f3 false true false false) := by
  refine returnsInHanded_of_change (C := Tryz.checked) own started (by kernel_rfl) Tryz.func3
    (ChangeSpec.witness6 (enc := enc) (C := Tryz.checked) false ⟨#[], #[.int .i64 0, .slice none 0 0], []⟩ 8 (by kernel_rfl) (by kernel_rfl) (by kernel_rfl) (by kernel_rfl)) ?_
  intro W base args ds gs before hval0 hW hcnd _
  have hW' := hW
  obtain ⟨p, q, hA0, hV, rfl, hfz, hnd⟩ := hW
  have hA : DataW.TrodAll enc Tryz.prog W 0 (fun _ => true) true Tryz.f3.params.toList args.toList ds p := hA0
  obtain ⟨rfl, rfl⟩ := trodVars_none hV
  simp only [List.append_nil] at hW'
  have hb0 : ∀ x ∈ p, x.block < W.heap.size := fun x hx => hW'.lt x hx
  obtain ⟨⟨x, hx, hx'⟩, hts⟩ := fitsAll_av (l := shapes) (ts := Tryz.f3.params.toList) (by kernel_rfl) (fun i t v h h' => hval0 i t v (by simpa using h) (by simpa using h')) hA
  refine (walk hx hx').mono fun e W' ⟨he, hg⟩ => ?_
  subst he
  have hds : ∃ d0 d1, ds = [d0, d1] := by
    have hA2 := hA
    rw [Tryz.params3] at hA2
    obtain ⟨_, _, d0, e0, _, _, _, rfl, _, _, h0⟩ := trodAll_cons hA2
    obtain ⟨_, _, d1, e1, _, _, _, rfl, _, _, h1⟩ := trodAll_cons h0
    obtain ⟨_, rfl, _⟩ := trodAll_nil h1
    exact ⟨d0, d1, rfl⟩
  obtain ⟨d0, d1, rfl⟩ := hds
  exact ⟨_, rfl, Go.Det.post_of_below (pa := p) (pv := []) hW' hg (fun _ _ _ => (trodAll_cons_mk (shut_bool Tryz.underlying4 _) trodAll_mk0)) (fun sp hs => trodAll_stays (by kernel_rfl) hg sp hts hA hb0 hs) (fun _ _ => rfl) (List.append_nil _).symm
    (ok_one (by kernel_rfl) rfl (okWide_bool_mk Tryz.underlying4 _))⟩

theorem over : Rows.indexNilRow.holds Tryz.pinned (OpenSpec.ofChange Rows.indexNilSpec) :=
  OpenClaim.holds_of_wide 3 Tryz.f3 rfl rfl rfl rfl rfl rfl rfl ⟨rfl, rfl, rfl, rfl, rfl⟩ rfl rfl rfl rfl rfl (by kernel_rfl) Tryz.func3 (by kernel_rfl)
    (of_decide_eq_true (by kernel_rfl)) (by unfold Func.isWrapper; first | (rw [if_pos (by decide +kernel)]; kernel_rfl) | (rw [if_neg (by decide +kernel)]; exact ⟨rfl, rfl⟩))
    (fun os started H enc _ => lifted os started H enc)

theorem proved : Rows.IndexNilSaid :=
  over
#print axioms proved
end Go.Proofs.YthepllaagidlnaaGreat.indexNil
