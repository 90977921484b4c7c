/- Proved: whatever the input, the law 'wayfinderlaw24.CostGoes' returns true, and the input reads as it did. No condition.
   The road: a deterministic machine over an abstract heap (the texts ..Det..), proved sound against the given model for every order that a region may draw; the kernel runs it with the arguments unknown. -/
import Derived.Test.YthlkmjgpmjnngaaRows
import Derived.Test.YthlkmjgpmjnngaaDvShape
import Derived.Test.YthlkmjgpmjnngaaCostGo
import Derived.WalkKit
import Derived.ProofKit
import Derived.OpenShut
namespace Go.Proofs.Ythlkmjgpmjnngaa.costGoes
open Go.ChangeShapes Go.WideShapes Go.ChangeAt Go.RowKit Go.Det
set_option linter.unusedVariables false

theorem own : ownKnob Try.prog.godebug = none := by kernel_rfl

theorem mixed : Try.prog.follows .mixedOrders = true := by kernel_rfl

abbrev shapes : List Sh := [.fcons (.int .i64) (.fcons (.int .i64) (.fcons (.int .i64) (.fcons (.int .i64) (.fcons (.int .i64) (.fcons (.int .i64) (.fcons (.int .i64) (.fcons (.int .i64) (.fnil)))))))), .slice (.int .i64)]

theorem lawGoesNil (c : C) (Q : AV → Prop) : (callW Try.prog (runW Try.prog (KV ftA) 200) 5 [cA c, .nilSlice] (stE false) fun x _ => Q x) =
  (ifp (!eqInt (chk c) (0 : Int))
    (Q (AV.bool true))
    ((AV.int IntKind.i64 c.s = AV.int IntKind.i64 c.s ∧ True) ∧
      True ∧
        ifp
          (eqInt (chk c) (0 : Int))
          (Q (AV.bool true)) (Q (AV.bool false)))) := by kernel_rfl

theorem lawGoes (c : C) (sl : List AV) (n cap : Nat) (Q : AV → Prop) : (callW Try.prog (runW Try.prog (KG) 200) 5 [cA c, .vs sl n cap true none 1] (stE false) fun x _ => Q x) =
  (ifp (!leInt (Int.ofNat n) (200 : Int)) (Q (AV.bool true))
    (ifp (!eqInt (chk c) (0 : Int))
      (Q (AV.bool true))
      ((AV.int IntKind.i64 c.s = AV.int IntKind.i64 c.s ∧ True) ∧
        True ∧
          LoopOk Try.prog (5 : FuncId) (194 : Nat) (loopBody Try.prog (5 : FuncId) (10 : Nat)).loop goC ∧
            True ∧
              (8 : Nat) = (8 : Nat) ∧
                (True ∧
                    some (AV.vs sl n cap true none (1 : Nat)) = some (AV.vs sl n cap true none (1 : Nat)) ∧
                      some (AV.ptr (0 : Nat) (0 : Nat)) = some (AV.ptr (0 : Nat) (0 : Nat)) ∧
                        some (AV.ptr (1 : Nat) (0 : Nat)) = some (AV.ptr (1 : Nat) (0 : Nat)) ∧
                          some
                                (AV.int IntKind.i64
                                  (chk
                                    c)) =
                              some (AV.int IntKind.i64 (0 : Int)) ∧
                            some
                                  (AV.int IntKind.i64
                                    (wrapF IntKind.i64
                                      (c.s.sub
                                        (rsv
                                          c)))) =
                                some
                                  (AV.int IntKind.i64
                                    (wrapF IntKind.i64
                                      (c.s.sub
                                        (rsv
                                          c)))) ∧
                              some
                                  (Ob.row
                                    [AV.int IntKind.i64 c.d, AV.int IntKind.i64 c.p, AV.int IntKind.i64 c.w,
                                      AV.int IntKind.i64 c.l, AV.int IntKind.i64 c.r, AV.int IntKind.i64 c.i,
                                      AV.int IntKind.i64 c.q, AV.int IntKind.i64 c.s]
                                    (23 : Nat)) =
                                some
                                  (Ob.row
                                    [AV.int IntKind.i64
                                        c.d,
                                      AV.int IntKind.i64
                                        c.p,
                                      AV.int IntKind.i64
                                        c.w,
                                      AV.int IntKind.i64
                                        c.l,
                                      AV.int IntKind.i64
                                        c.r,
                                      AV.int IntKind.i64
                                        c.i,
                                      AV.int IntKind.i64
                                        c.q,
                                      AV.int IntKind.i64
                                        c.s]
                                    (23 : Nat))) ∧
                  GoPre c
                      (AV.vs sl n cap true none (1 : Nat))
                      (wrapF IntKind.i64
                        (c.s.sub
                          (rsv c)))
                      { i := (0 : Int), pts := (0 : Int), tr := false, hd := false,
                        us :=
                          bsz c
                            (0 : Int) (0 : Int),
                        x :=
                          {
                            b :=
                              (bgnL
                                  c).b,
                            g :=
                              (bgnL
                                  c).g,
                            s :=
                              (bgnL
                                  c).s : L } :
                        Z } ∧
                    Q (AV.bool true)))) := by kernel_rfl

theorem lawValNil (c : C) : Val Try.prog 5 [cA c, .nilSlice] (bA true) :=
  Val.of mixed okA rfl rfl rfl (lawGoesNil c) (by
    simp only [ifp_ne, ifp_eq, chk_iff, and_self, true_and]
    split
    · rfl
    · rfl)
theorem lawVal (c : C) (l : List Int) (cap : Nat) : Val Try.prog 5 [cA c, .vs (ints .i64 l) l.length cap true none 1] (bA true) := by
  have hmem : ∀ v ∈ ints .i64 l, ∃ x : Int, v = AV.int .i64 x := fun v hv => let ⟨x, _, h⟩ := ints_mem hv; ⟨x, h⟩
  refine Val.ofK mixed (K := KG) (knowV_ok okA) (v := bA true) ?_ rfl rfl (lawGoes c _ l.length cap) ?_
  · simp only [AV.frees, AV.free, cA, ifb_true, Option.isNone_none]
    rw [frees_of (l := ints .i64 l) (fun v hv => by obtain ⟨x, rfl⟩ := hmem v hv; rfl)]
    rfl
  · simp only [ifp_ne, ifp_nle, chk_iff, and_self, true_and]
    by_cases hn : Int.ofNat l.length ≤ 200
    case neg => rw [if_neg hn]; rfl
    by_cases hg : good c = true
    case neg => rw [if_pos hn, if_neg hg]; rfl
    rw [if_pos hn, if_pos hg]
    have hc := chk_yes hg
    have gf := good_facts hg
    have rf := rsv_le c
    have bf := bsz_le c 0 0
    have e1 : wrapF .i64 (Int.sub c.s (rsv c)) = c.s - rsv c := wsub (by omega) (by omega)
    have eb : bgnL c = ⟨bsz c 0 0, 0, 0⟩ := by unfold bgnL; rw [if_pos hc]
    rw [e1, eb, hc]
    refine ⟨goLoop, by simp, ⟨hg, rfl, _, l.length, cap, rfl, ?_, unders_of fun v hv => ?_, fun i hi => ?_, ⟨Int.le_refl _, Int.natCast_nonneg _, Int.le_refl _, by show 0 ≤ c.r; omega, lok_of (by omega), by show bsz c 0 0 = bsz c 0 0 + 0 + 0; omega, by show bsz c 0 0 ≤ c.s - rsv c; omega, rfl, by show bsz c 0 (if false = true then isz c else 0) ≤ bsz c 0 0 + 0; simp⟩⟩, rfl⟩
    · have : (l.length : Int) ≤ 200 := hn
      omega
    · obtain ⟨x, rfl⟩ := hmem v hv; trivial
    · rw [ints_get, List.getElem?_eq_getElem hi]; exact ⟨_, rfl⟩
theorem walk {x : ShVs shapes} (hx : ShOks shapes x) {W : World} {args : Array Value} (h : VRs (frozenAll W) (ShAvs shapes x) args.toList) :
    Calls Try.prog 5 args W fun e w' => e = .returned (.bool true) ∧ Below W.heap.size W w' := by
  obtain ⟨⟨d, p, w, l, r, i, q, s, _⟩, v, _⟩ := x
  cases v with
  | nil => exact law_calls (b := false) (lawValNil ⟨d, p, w, l, r, i, q, s⟩ _) h
  | mk l' cap => exact law_calls (b := false) (lawVal ⟨d, p, w, l, r, i, q, s⟩ l' cap _) h


set_option maxRecDepth 100000 in
theorem lifted (os : Os) (started : os.Started) (H : Type) (enc : TypeId × Value → H) :
    ReturnsInHanded {} Try.checked os 5 .any (Rows.costGoesSpec.pre6 enc Try.prog Try.f5 Rows.costGoesRow.domain false) (Rows.costGoesSpec.post enc Try.prog Try.f5 false true false false) := by
  refine returnsInHanded_of_change (C := Try.checked) own started (by kernel_rfl) Try.func5
    (ChangeSpec.witness6 (enc := enc) (C := Try.checked) false ⟨#[], #[.agg #[.int .i64 0, .int .i64 0, .int .i64 0, .int .i64 0, .int .i64 0, .int .i64 0, .int .i64 0, .int .i64 0], .slice none 0 0], []⟩ 8 (by kernel_rfl) (by kernel_rfl) (by kernel_rfl) (by kernel_rfl)) ?_
  intro W base args ds gs before hval0 hW hcnd _
  have hW' := hW
  obtain ⟨p, q, hA0, hV, rfl, hfz, hnd⟩ := hW
  have hA : DataW.TrodAll enc Try.prog W 0 (fun _ => true) true Try.f5.params.toList args.toList ds p := hA0
  obtain ⟨rfl, rfl⟩ := trodVars_none hV
  simp only [List.append_nil] at hW'
  have hb0 : ∀ x ∈ p, x.block < W.heap.size := fun x hx => hW'.lt x hx
  obtain ⟨⟨x, hx, hx'⟩, hts⟩ := fitsAll_av (l := shapes) (ts := Try.f5.params.toList) (by kernel_rfl) (fun i t v h h' => hval0 i t v (by simpa using h) (by simpa using h')) hA
  refine (walk hx hx').mono fun e W' ⟨he, hg⟩ => ?_
  subst he
  have hds : ∃ d0 d1, ds = [d0, d1] := by
    have hA2 := hA
    rw [Try.params5] at hA2
    obtain ⟨_, _, d0, e0, _, _, _, rfl, _, _, h0⟩ := trodAll_cons hA2
    obtain ⟨_, _, d1, e1, _, _, _, rfl, _, _, h1⟩ := trodAll_cons h0
    obtain ⟨_, rfl, _⟩ := trodAll_nil h1
    exact ⟨d0, d1, rfl⟩
  obtain ⟨d0, d1, rfl⟩ := hds
  exact ⟨_, rfl, Go.Det.post_of_below (pa := p) (pv := []) hW' hg (fun _ _ _ => (trodAll_cons_mk (shut_bool Try.underlying4 _) trodAll_mk0)) (fun sp hs => trodAll_stays (by kernel_rfl) hg sp hts hA hb0 hs) (fun _ _ => rfl) (List.append_nil _).symm
    (ok_one (by kernel_rfl) rfl (okWide_bool_mk Try.underlying4 _))⟩

theorem over : Rows.costGoesRow.holds Try.pinned (OpenSpec.ofChange Rows.costGoesSpec) :=
  OpenClaim.holds_of_wide 5 Try.f5 rfl rfl rfl rfl rfl rfl rfl ⟨rfl, rfl, rfl, rfl, rfl⟩ rfl rfl rfl rfl rfl (by kernel_rfl) Try.func5 (by kernel_rfl)
    (of_decide_eq_true (by kernel_rfl)) (by unfold Func.isWrapper; first | (rw [if_pos (by decide +kernel)]; kernel_rfl) | (rw [if_neg (by decide +kernel)]; exact ⟨rfl, rfl⟩))
    (fun os started H enc _ => lifted os started H enc)

theorem proved : Rows.CostGoesSaid :=
  over
#print axioms proved
end Go.Proofs.Ythlkmjgpmjnngaa.costGoes
