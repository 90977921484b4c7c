/- Proved: whatever the input, the law 'wayfinderlaw24.CostTable' returns true, and the input reads as it did. No condition.
   The road: a deterministic machine over an abstract heap (the texts ..Det..), proved sound against the given model for every order that a region may draw; the kernel runs it with the arguments unknown. -/
import Derived.Test.YthlkmjgpmjnngaaRows
import Derived.Test.YthlkmjgpmjnngaaDvShape
import Derived.Test.YthlkmjgpmjnngaaCostVals
import Derived.WalkKit
import Derived.ProofKit
import Derived.OpenShut
namespace Go.Proofs.Ythlkmjgpmjnngaa.costTable
open Go.ChangeShapes Go.WideShapes Go.ChangeAt Go.RowKit Go.Det
set_option linter.unusedVariables false

theorem own : ownKnob Try.prog.godebug = none := by kernel_rfl

theorem mixed : Try.prog.follows .mixedOrders = true := by kernel_rfl

abbrev shapes : List Sh := [.fcons (.int .i64) (.fcons (.int .i64) (.fcons (.int .i64) (.fcons (.int .i64) (.fcons (.int .i64) (.fcons (.int .i64) (.fcons (.int .i64) (.fcons (.int .i64) (.fnil)))))))), .int .i64]

theorem lawTable (c : C) (n : Int) (Q : AV → Prop) : (callW Try.prog (runW Try.prog (KV ftA) 200) 3 [cA c, iA n] (stE false) fun x _ => Q x) =
  (ifp (!eqInt (chk c) 0)
    (ifp (eqInt (ins c) 0)
      (ifp (eqInt (del c) 0)
        (ifp (eqInt (swp c) 0)
          (Q (AV.bool true)) (Q (AV.bool false)))
        (Q (AV.bool false)))
      (Q (AV.bool false)))
    (ifp (!leInt 0 n)
      (True ∧
        (AV.agg
                [AV.int IntKind.i64 c.d, AV.int IntKind.i64 c.p, AV.int IntKind.i64 c.w, AV.int IntKind.i64 c.l,
                  AV.int IntKind.i64 c.r, AV.int IntKind.i64 c.i, AV.int IntKind.i64 c.q, AV.int IntKind.i64 c.s] =
              AV.agg
                [AV.int IntKind.i64 c.d, AV.int IntKind.i64 c.p, AV.int IntKind.i64 c.w, AV.int IntKind.i64 c.l,
                  AV.int IntKind.i64 c.r, AV.int IntKind.i64 c.i, AV.int IntKind.i64 c.q, AV.int IntKind.i64 c.s] ∧
            True) ∧
          True ∧
            (AV.agg
                    [AV.int IntKind.i64 c.d, AV.int IntKind.i64 c.p, AV.int IntKind.i64 c.w, AV.int IntKind.i64 c.l,
                      AV.int IntKind.i64 c.r, AV.int IntKind.i64 c.i, AV.int IntKind.i64 c.q, AV.int IntKind.i64 c.s] =
                  AV.agg
                    [AV.int IntKind.i64 c.d, AV.int IntKind.i64 c.p, AV.int IntKind.i64 c.w, AV.int IntKind.i64 c.l,
                      AV.int IntKind.i64 c.r, AV.int IntKind.i64 c.i, AV.int IntKind.i64 c.q, AV.int IntKind.i64 c.s] ∧
                True) ∧
              ifp
                (eqInt (ins c)
                  (wcost (wrapF IntKind.i64 (Int.add 9 (wrapF IntKind.i64 (Int.mul 2 c.d))))))
                (ifp
                  (eqInt (del c)
                    (wcost 9))
                  (ifp
                    (eqInt (swp c)
                      (wcost
                        (wrapF IntKind.i64
                          (Int.add 1
                            (isz c)))))
                    (ifp
                      (!leInt
                          (wrapF IntKind.i64
                            ((bsz c
                                  (wrapF IntKind.i64 (Int.add 0 1)) 0).sub
                              (bsz c 0
                                0)))
                          0)
                      (ifp
                        (leInt
                          (wrapF IntKind.i64
                            ((bsz c
                                  (wrapF IntKind.i64 (Int.add 0 1)) 0).sub
                              (bsz c 0
                                0)))
                          (ins c))
                        (ifp
                          (!leInt
                              (wrapF IntKind.i64
                                ((bsz c
                                      0
                                      (isz
                                        { d := c.d, p := c.p, w := c.w, l := c.l, r := c.r, i := c.i, q := c.q,
                                          s := c.s })).sub
                                  (bsz
                                    c 0
                                    0)))
                              0)
                          (ifp
                            (leInt
                              (wrapF IntKind.i64
                                ((bsz c
                                      0
                                      (isz
                                        { d := c.d, p := c.p, w := c.w, l := c.l, r := c.r, i := c.i, q := c.q,
                                          s := c.s })).sub
                                  (bsz
                                    c 0
                                    0)))
                              (swp c))
                            (True ∧
                              (AV.int IntKind.i64 c.d = AV.int IntKind.i64 c.d ∧ True) ∧
                                True ∧ True ∧ True ∧ True ∧ Q (AV.bool true))
                            (True ∧
                              (AV.int IntKind.i64 c.d = AV.int IntKind.i64 c.d ∧ True) ∧
                                True ∧ True ∧ True ∧ True ∧ Q (AV.bool false)))
                          (True ∧
                            (AV.int IntKind.i64 c.d = AV.int IntKind.i64 c.d ∧ True) ∧
                              True ∧ True ∧ True ∧ Q (AV.bool false)))
                        (True ∧
                          (AV.int IntKind.i64 c.d = AV.int IntKind.i64 c.d ∧ True) ∧
                            True ∧ True ∧ True ∧ Q (AV.bool false)))
                      (True ∧
                        (AV.int IntKind.i64 c.d = AV.int IntKind.i64 c.d ∧ True) ∧ True ∧ True ∧ Q (AV.bool false)))
                    (True ∧ (AV.int IntKind.i64 c.d = AV.int IntKind.i64 c.d ∧ True) ∧ True ∧ True ∧ Q (AV.bool false)))
                  (True ∧ (AV.int IntKind.i64 c.d = AV.int IntKind.i64 c.d ∧ True) ∧ True ∧ Q (AV.bool false)))
                (True ∧ (AV.int IntKind.i64 c.d = AV.int IntKind.i64 c.d ∧ True) ∧ Q (AV.bool false)))
      (ifp (leInt c.r n)
        (True ∧
          (AV.agg
                  [AV.int IntKind.i64 c.d, AV.int IntKind.i64 c.p, AV.int IntKind.i64 c.w, AV.int IntKind.i64 c.l,
                    AV.int IntKind.i64 c.r, AV.int IntKind.i64 c.i, AV.int IntKind.i64 c.q, AV.int IntKind.i64 c.s] =
                AV.agg
                  [AV.int IntKind.i64 c.d, AV.int IntKind.i64 c.p, AV.int IntKind.i64 c.w, AV.int IntKind.i64 c.l,
                    AV.int IntKind.i64 c.r, AV.int IntKind.i64 c.i, AV.int IntKind.i64 c.q, AV.int IntKind.i64 c.s] ∧
              True) ∧
            True ∧
              (AV.agg
                      [AV.int IntKind.i64 c.d, AV.int IntKind.i64 c.p, AV.int IntKind.i64 c.w, AV.int IntKind.i64 c.l,
                        AV.int IntKind.i64 c.r, AV.int IntKind.i64 c.i, AV.int IntKind.i64 c.q,
                        AV.int IntKind.i64 c.s] =
                    AV.agg
                      [AV.int IntKind.i64 c.d, AV.int IntKind.i64 c.p, AV.int IntKind.i64 c.w, AV.int IntKind.i64 c.l,
                        AV.int IntKind.i64 c.r, AV.int IntKind.i64 c.i, AV.int IntKind.i64 c.q,
                        AV.int IntKind.i64 c.s] ∧
                  True) ∧
                ifp
                  (eqInt (ins c)
                    (wcost (wrapF IntKind.i64 (Int.add 9 (wrapF IntKind.i64 (Int.mul 2 c.d))))))
                  (ifp
                    (eqInt (del c)
                      (wcost 9))
                    (ifp
                      (eqInt (swp c)
                        (wcost
                          (wrapF IntKind.i64
                            (Int.add 1
                              (isz
                                c)))))
                      (ifp
                        (!leInt
                            (wrapF IntKind.i64
                              ((bsz c
                                    (wrapF IntKind.i64 (Int.add 0 1)) 0).sub
                                (bsz c
                                  0 0)))
                            0)
                        (ifp
                          (leInt
                            (wrapF IntKind.i64
                              ((bsz c
                                    (wrapF IntKind.i64 (Int.add 0 1)) 0).sub
                                (bsz c
                                  0 0)))
                            (ins c))
                          (ifp
                            (!leInt
                                (wrapF IntKind.i64
                                  ((bsz
                                        { d := c.d, p := c.p, w := c.w, l := c.l, r := c.r, i := c.i, q := c.q,
                                          s := c.s }
                                        0
                                        (isz
                                          { d := c.d, p := c.p, w := c.w, l := c.l, r := c.r, i := c.i, q := c.q,
                                            s := c.s })).sub
                                    (bsz
                                      c
                                      0 0)))
                                0)
                            (ifp
                              (leInt
                                (wrapF IntKind.i64
                                  ((bsz
                                        { d := c.d, p := c.p, w := c.w, l := c.l, r := c.r, i := c.i, q := c.q,
                                          s := c.s }
                                        0
                                        (isz
                                          { d := c.d, p := c.p, w := c.w, l := c.l, r := c.r, i := c.i, q := c.q,
                                            s := c.s })).sub
                                    (bsz
                                      c
                                      0 0)))
                                (swp
                                  c))
                              (True ∧
                                (AV.int IntKind.i64 c.d = AV.int IntKind.i64 c.d ∧ True) ∧
                                  True ∧ True ∧ True ∧ True ∧ Q (AV.bool true))
                              (True ∧
                                (AV.int IntKind.i64 c.d = AV.int IntKind.i64 c.d ∧ True) ∧
                                  True ∧ True ∧ True ∧ True ∧ Q (AV.bool false)))
                            (True ∧
                              (AV.int IntKind.i64 c.d = AV.int IntKind.i64 c.d ∧ True) ∧
                                True ∧ True ∧ True ∧ Q (AV.bool false)))
                          (True ∧
                            (AV.int IntKind.i64 c.d = AV.int IntKind.i64 c.d ∧ True) ∧
                              True ∧ True ∧ True ∧ Q (AV.bool false)))
                        (True ∧
                          (AV.int IntKind.i64 c.d = AV.int IntKind.i64 c.d ∧ True) ∧ True ∧ True ∧ Q (AV.bool false)))
                      (True ∧
                        (AV.int IntKind.i64 c.d = AV.int IntKind.i64 c.d ∧ True) ∧ True ∧ True ∧ Q (AV.bool false)))
                    (True ∧ (AV.int IntKind.i64 c.d = AV.int IntKind.i64 c.d ∧ True) ∧ True ∧ Q (AV.bool false)))
                  (True ∧ (AV.int IntKind.i64 c.d = AV.int IntKind.i64 c.d ∧ True) ∧ Q (AV.bool false)))
        (True ∧
          (AV.agg
                  [AV.int IntKind.i64 c.d, AV.int IntKind.i64 c.p, AV.int IntKind.i64 c.w, AV.int IntKind.i64 c.l,
                    AV.int IntKind.i64 c.r, AV.int IntKind.i64 c.i, AV.int IntKind.i64 c.q, AV.int IntKind.i64 c.s] =
                AV.agg
                  [AV.int IntKind.i64 c.d, AV.int IntKind.i64 c.p, AV.int IntKind.i64 c.w, AV.int IntKind.i64 c.l,
                    AV.int IntKind.i64 c.r, AV.int IntKind.i64 c.i, AV.int IntKind.i64 c.q, AV.int IntKind.i64 c.s] ∧
              True) ∧
            True ∧
              (AV.agg
                      [AV.int IntKind.i64 c.d, AV.int IntKind.i64 c.p, AV.int IntKind.i64 c.w, AV.int IntKind.i64 c.l,
                        AV.int IntKind.i64 c.r, AV.int IntKind.i64 c.i, AV.int IntKind.i64 c.q,
                        AV.int IntKind.i64 c.s] =
                    AV.agg
                      [AV.int IntKind.i64 c.d, AV.int IntKind.i64 c.p, AV.int IntKind.i64 c.w, AV.int IntKind.i64 c.l,
                        AV.int IntKind.i64 c.r, AV.int IntKind.i64 c.i, AV.int IntKind.i64 c.q,
                        AV.int IntKind.i64 c.s] ∧
                  True) ∧
                ifp
                  (eqInt (ins c)
                    (wcost (wrapF IntKind.i64 (Int.add 9 (wrapF IntKind.i64 (Int.mul 2 c.d))))))
                  (ifp
                    (eqInt (del c)
                      (wcost 9))
                    (ifp
                      (eqInt (swp c)
                        (wcost
                          (wrapF IntKind.i64
                            (Int.add 1
                              (isz
                                c)))))
                      (ifp
                        (!leInt
                            (wrapF IntKind.i64
                              ((bsz c
                                    (wrapF IntKind.i64 (n.add 1)) 0).sub
                                (bsz c
                                  n 0)))
                            0)
                        (ifp
                          (leInt
                            (wrapF IntKind.i64
                              ((bsz c
                                    (wrapF IntKind.i64 (n.add 1)) 0).sub
                                (bsz c
                                  n 0)))
                            (ins c))
                          (ifp
                            (!leInt
                                (wrapF IntKind.i64
                                  ((bsz
                                        { d := c.d, p := c.p, w := c.w, l := c.l, r := c.r, i := c.i, q := c.q,
                                          s := c.s }
                                        n
                                        (isz
                                          { d := c.d, p := c.p, w := c.w, l := c.l, r := c.r, i := c.i, q := c.q,
                                            s := c.s })).sub
                                    (bsz
                                      c
                                      n 0)))
                                0)
                            (ifp
                              (leInt
                                (wrapF IntKind.i64
                                  ((bsz
                                        { d := c.d, p := c.p, w := c.w, l := c.l, r := c.r, i := c.i, q := c.q,
                                          s := c.s }
                                        n
                                        (isz
                                          { d := c.d, p := c.p, w := c.w, l := c.l, r := c.r, i := c.i, q := c.q,
                                            s := c.s })).sub
                                    (bsz
                                      c
                                      n 0)))
                                (swp
                                  c))
                              (True ∧
                                (AV.int IntKind.i64 c.d = AV.int IntKind.i64 c.d ∧ True) ∧
                                  True ∧ True ∧ True ∧ True ∧ Q (AV.bool true))
                              (True ∧
                                (AV.int IntKind.i64 c.d = AV.int IntKind.i64 c.d ∧ True) ∧
                                  True ∧ True ∧ True ∧ True ∧ Q (AV.bool false)))
                            (True ∧
                              (AV.int IntKind.i64 c.d = AV.int IntKind.i64 c.d ∧ True) ∧
                                True ∧ True ∧ True ∧ Q (AV.bool false)))
                          (True ∧
                            (AV.int IntKind.i64 c.d = AV.int IntKind.i64 c.d ∧ True) ∧
                              True ∧ True ∧ True ∧ Q (AV.bool false)))
                        (True ∧
                          (AV.int IntKind.i64 c.d = AV.int IntKind.i64 c.d ∧ True) ∧ True ∧ True ∧ Q (AV.bool false)))
                      (True ∧
                        (AV.int IntKind.i64 c.d = AV.int IntKind.i64 c.d ∧ True) ∧ True ∧ True ∧ Q (AV.bool false)))
                    (True ∧ (AV.int IntKind.i64 c.d = AV.int IntKind.i64 c.d ∧ True) ∧ True ∧ Q (AV.bool false)))
                  (True ∧ (AV.int IntKind.i64 c.d = AV.int IntKind.i64 c.d ∧ True) ∧ Q (AV.bool false)))))) := by kernel_rfl

theorem tab_core (c : C) (h : good c = true) (n : Int) (h1 : 0 ≤ n) (h2 : n < c.r) :
    wrapF .i64 (Int.sub (bsz c (wrapF .i64 (Int.add n 1)) 0) (bsz c n 0)) = 16 + 2 * c.d ∧ wrapF .i64 (Int.sub (bsz c n (isz c)) (bsz c n 0)) = 9 + isz c := by
  have hb := (good_iff.1 h).1
  have h0 := bnd_iff.1 hb
  have hi := isz_le c
  have hi2 := (hi.2.2 hb).1
  have e1 : wrapF .i64 (Int.add n 1) = n + 1 := wadd (by omega) (by omega)
  have hp := pts_le hb h1 (a := n) (by omega)
  have hp' := pts_le hb (a := n + 1) (by omega) (by omega)
  rw [e1, bsz_yes (a := n) (b := 0) ⟨hb, h1, by omega, .inl rfl⟩, bsz_yes (a := n + 1) (b := 0) ⟨hb, by omega, by omega, .inl rfl⟩, bsz_yes (a := n) (b := isz c) ⟨hb, h1, by omega, .inr rfl⟩]
  rw [if_neg (by omega), if_pos (by omega)]
  have e2 : (n + 1) * (16 + 2 * c.d) = n * (16 + 2 * c.d) + (16 + 2 * c.d) := by rw [Int.add_mul, Int.one_mul]
  rw [e2]
  constructor
  · rw [wsub] <;> omega
  · rw [wsub] <;> omega
theorem lawVal (c : C) (n : Int) : Val Try.prog 3 [cA c, iA n] (bA true) :=
  Val.of mixed okA rfl rfl rfl (lawTable c n) (by
    simp only [ifp_ne, ifp_eq, ifp_le, ifp_nle, chk_iff, and_self, true_and]
    by_cases h : good c = true
    · rw [if_pos h]
      have hb := (good_iff.1 h).1
      have h0 := bnd_iff.1 hb
      have hi := isz_le c
      have hi2 := (hi.2.2 hb).1
      have e1 : wrapF .i64 (Int.mul 2 c.d) = 2 * c.d := wmul (by omega) (by omega)
      have e2 : wrapF .i64 (Int.add 9 (2 * c.d)) = 9 + 2 * c.d := wadd (by omega) (by omega)
      have e3 : wrapF .i64 (Int.add 1 (isz c)) = 1 + isz c := wadd (by omega) (by omega)
      have e4 : ins c = wcost (9 + 2 * c.d) := by rw [wcost_in (by omega) (by omega)]; unfold ins; rw [if_pos h]; omega
      have e5 : del c = wcost 9 := by rw [wcost_in (by omega) (by omega)]; unfold del; rw [if_pos h]; rfl
      have e6 : swp c = wcost (1 + isz c) := by rw [wcost_in (by omega) (by omega)]; unfold swp; rw [if_pos h]; omega
      have e7 : ins c = 25 + 2 * c.d := by unfold ins; rw [if_pos h]
      have e8 : swp c = 17 + isz c := by unfold swp; rw [if_pos h]
      obtain ⟨k1, k2⟩ := tab_core c h 0 (by omega) (by omega)
      have fin : ∀ x y : Int, x = 16 + 2 * c.d → y = 9 + isz c → (if x ≤ 0 then AV.bool false = bA true else if x ≤ ins c then if y ≤ 0 then AV.bool false = bA true else if y ≤ swp c then AV.bool true = bA true else AV.bool false = bA true else AV.bool false = bA true) := by
        intro x y hx hy
        rw [if_neg (by omega), if_pos (by omega), if_neg (by omega), if_pos (by omega)]; rfl
      by_cases n1 : 0 ≤ n
      · rw [if_pos n1]
        by_cases n2 : c.r ≤ n
        · rw [if_pos n2, e1, e2, e3, if_pos e4, if_pos e5, if_pos e6]
          exact fin _ _ k1 k2
        · obtain ⟨k3, k4⟩ := tab_core c h n n1 (by omega)
          rw [if_neg n2, e1, e2, e3, if_pos e4, if_pos e5, if_pos e6]
          exact fin _ _ k3 k4
      · rw [if_neg n1, e1, e2, e3, if_pos e4, if_pos e5, if_pos e6]
        exact fin _ _ k1 k2
    · rw [if_neg h]
      have e7 : ins c = 0 := by unfold ins; rw [if_neg h]
      have e8 : swp c = 0 := by unfold swp; rw [if_neg h]
      have e9 : del c = 0 := by unfold del; rw [if_neg h]
      rw [if_pos e7, if_pos e9, if_pos e8]; rfl)
theorem walk {x : ShVs shapes} (hx : ShOks shapes x) {W : World} {args : Array Value} (h : VRs (frozenAll W) (ShAvs shapes x) args.toList) :
    Calls Try.prog 3 args W fun e w' => e = .returned (.bool true) ∧ Below W.heap.size W w' := by
  obtain ⟨⟨d, p, w, l, r, i, q, s, _⟩, n, _⟩ := x
  exact law_calls (b := false) (lawVal ⟨d, p, w, l, r, i, q, s⟩ n _) h


set_option maxRecDepth 100000 in
theorem lifted (os : Os) (started : os.Started) (H : Type) (enc : TypeId × Value → H) :
    ReturnsInHanded {} Try.checked os 3 .any (Rows.costTableSpec.pre6 enc Try.prog Try.f3 Rows.costTableRow.domain false) (Rows.costTableSpec.post enc Try.prog Try.f3 false true false false) := by
  refine returnsInHanded_of_change (C := Try.checked) own started (by kernel_rfl) Try.func3
    (ChangeSpec.witness6 (enc := enc) (C := Try.checked) false ⟨#[], #[.agg #[.int .i64 0, .int .i64 0, .int .i64 0, .int .i64 0, .int .i64 0, .int .i64 0, .int .i64 0, .int .i64 0], .int .i64 0], []⟩ 8 (by kernel_rfl) (by kernel_rfl) (by kernel_rfl) (by kernel_rfl)) ?_
  intro W base args ds gs before hval0 hW hcnd _
  have hW' := hW
  obtain ⟨p, q, hA0, hV, rfl, hfz, hnd⟩ := hW
  have hA : DataW.TrodAll enc Try.prog W 0 (fun _ => true) true Try.f3.params.toList args.toList ds p := hA0
  obtain ⟨rfl, rfl⟩ := trodVars_none hV
  simp only [List.append_nil] at hW'
  have hb0 : ∀ x ∈ p, x.block < W.heap.size := fun x hx => hW'.lt x hx
  obtain ⟨⟨x, hx, hx'⟩, hts⟩ := fitsAll_av (l := shapes) (ts := Try.f3.params.toList) (by kernel_rfl) (fun i t v h h' => hval0 i t v (by simpa using h) (by simpa using h')) hA
  refine (walk hx hx').mono fun e W' ⟨he, hg⟩ => ?_
  subst he
  have hds : ∃ d0 d1, ds = [d0, d1] := by
    have hA2 := hA
    rw [Try.params3] at hA2
    obtain ⟨_, _, d0, e0, _, _, _, rfl, _, _, h0⟩ := trodAll_cons hA2
    obtain ⟨_, _, d1, e1, _, _, _, rfl, _, _, h1⟩ := trodAll_cons h0
    obtain ⟨_, rfl, _⟩ := trodAll_nil h1
    exact ⟨d0, d1, rfl⟩
  obtain ⟨d0, d1, rfl⟩ := hds
  exact ⟨_, rfl, Go.Det.post_of_below (pa := p) (pv := []) hW' hg (fun _ _ _ => (trodAll_cons_mk (shut_bool Try.underlying4 _) trodAll_mk0)) (fun sp hs => trodAll_stays (by kernel_rfl) hg sp hts hA hb0 hs) (fun _ _ => rfl) (List.append_nil _).symm
    (ok_one (by kernel_rfl) rfl (okWide_bool_mk Try.underlying4 _))⟩

theorem over : Rows.costTableRow.holds Try.pinned (OpenSpec.ofChange Rows.costTableSpec) :=
  OpenClaim.holds_of_wide 3 Try.f3 rfl rfl rfl rfl rfl rfl rfl ⟨rfl, rfl, rfl, rfl, rfl⟩ rfl rfl rfl rfl rfl (by kernel_rfl) Try.func3 (by kernel_rfl)
    (of_decide_eq_true (by kernel_rfl)) (by unfold Func.isWrapper; first | (rw [if_pos (by decide +kernel)]; kernel_rfl) | (rw [if_neg (by decide +kernel)]; exact ⟨rfl, rfl⟩))
    (fun os started H enc _ => lifted os started H enc)

theorem proved : Rows.CostTableSaid :=
  over
#print axioms proved
end Go.Proofs.Ythlkmjgpmjnngaa.costTable
