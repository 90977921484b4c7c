/- Proved: whatever the input, the law 'wayfinderlaw24.CostCalls' returns true, and the input reads as it did. No condition.
   The road: a deterministic machine over an abstract heap (the texts ..Det..), proved sound against the given model for every order that a region may draw; the kernel runs it with the arguments unknown. -/
import Derived.Test.YthlkmjgpmjnngaaRows
import Derived.Test.YthlkmjgpmjnngaaDvShape
import Derived.Test.YthlkmjgpmjnngaaCostVals
import Derived.WalkKit
import Derived.ProofKit
import Derived.OpenShut
namespace Go.Proofs.Ythlkmjgpmjnngaa.costCalls
open Go.ChangeShapes Go.WideShapes Go.ChangeAt Go.RowKit Go.Det
set_option linter.unusedVariables false

theorem own : ownKnob Try.prog.godebug = none := by kernel_rfl

theorem mixed : Try.prog.follows .mixedOrders = true := by kernel_rfl

abbrev shapes : List Sh := [.fcons (.int .i64) (.fcons (.int .i64) (.fcons (.int .i64) (.fcons (.int .i64) (.fcons (.int .i64) (.fcons (.int .i64) (.fcons (.int .i64) (.fcons (.int .i64) (.fnil)))))))), .fcons (.int .i64) (.fcons (.int .i64) (.fcons (.int .i64) (.fnil))), .int .i64, .int .i64, .bool]

theorem lawCallsT (c : C) (l : L) (n k : Int) (Q : AV → Prop) : (callW Try.prog (runW Try.prog (KE ftA) 200) 7 [cA c, lA l, iA n, iA k, bA true] (stE false) fun x _ => Q x) =
  (((bgnL c).b =
        (bgnL c).b ∧
      (bgnL c).g =
          (bgnL c).g ∧
        (bgnL c).s =
            (bgnL c).s ∧
          True) ∧
    chk c =
        chk c ∧
      ((lgdL c
                l n).b =
            (lgdL c
                l n).b ∧
          (lgdL c
                  l n).g =
              (lgdL c
                  l n).g ∧
            (lgdL c
                    l n).s =
                (lgdL c
                    l n).s ∧
              True) ∧
        may c
              l n =
            may c
              l n ∧
          ((hldL c
                    l).b =
                (hldL c
                    l).b ∧
              (hldL c
                      l).g =
                  (hldL c
                      l).g ∧
                (hldL c
                        l).s =
                    (hldL c
                        l).s ∧
                  True) ∧
            hldE c
                  l =
                hldE c
                  l ∧
              ((swdL l).b = (swdL l).b ∧
                  (swdL l).g = (swdL l).g ∧
                    (swdL l).s = (swdL l).s ∧
                      True) ∧
                swdE l = swdE l ∧
                  ((bsdL c
                            l k true).b =
                        (bsdL c
                            l k true).b ∧
                      (bsdL c
                              l k true).g =
                          (bsdL c
                              l k true).g ∧
                        (bsdL c
                                l k true).s =
                            (bsdL c
                                l k true).s ∧
                          True) ∧
                    bsdE c
                          l k =
                        bsdE c
                          l k ∧
                      ins c =
                          ins c ∧
                        del c =
                            del c ∧
                          swp c =
                              swp
                                c ∧
                            lchk l = lchk l ∧
                              used l = used l ∧
                                may
                                      c
                                      l n =
                                    may
                                      c
                                      l n ∧
                                  rst
                                        c
                                        l =
                                      rst
                                        c
                                        l ∧
                                    ({ b := l.b,
                                              g := l.g, s := 0 : L }.b =
                                          { b := l.b,
                                              g := l.g, s := 0 : L }.b ∧
                                        { b := l.b,
                                                g := l.g, s := 0 : L }.g =
                                            { b := l.b,
                                                g := l.g, s := 0 : L }.g ∧
                                          { b := l.b,
                                                  g := l.g, s := 0 : L }.s =
                                              { b := l.b,
                                                  g := l.g, s := 0 : L }.s ∧
                                            True) ∧
                                      True ∧
                                        (AV.agg
                                                [AV.int IntKind.i64 c.d, AV.int IntKind.i64 c.p, AV.int IntKind.i64 c.w,
                                                  AV.int IntKind.i64 c.l, AV.int IntKind.i64 c.r,
                                                  AV.int IntKind.i64 c.i, AV.int IntKind.i64 c.q,
                                                  AV.int IntKind.i64 c.s] =
                                              AV.agg
                                                [AV.int IntKind.i64 c.d, AV.int IntKind.i64 c.p, AV.int IntKind.i64 c.w,
                                                  AV.int IntKind.i64 c.l, AV.int IntKind.i64 c.r,
                                                  AV.int IntKind.i64 c.i, AV.int IntKind.i64 c.q,
                                                  AV.int IntKind.i64 c.s] ∧
                                            True) ∧
                                          True ∧
                                            (AV.agg
                                                    [AV.int IntKind.i64 c.d, AV.int IntKind.i64 c.p,
                                                      AV.int IntKind.i64 c.w, AV.int IntKind.i64 c.l,
                                                      AV.int IntKind.i64 c.r, AV.int IntKind.i64 c.i,
                                                      AV.int IntKind.i64 c.q, AV.int IntKind.i64 c.s] =
                                                  AV.agg
                                                    [AV.int IntKind.i64 c.d, AV.int IntKind.i64 c.p,
                                                      AV.int IntKind.i64 c.w, AV.int IntKind.i64 c.l,
                                                      AV.int IntKind.i64 c.r, AV.int IntKind.i64 c.i,
                                                      AV.int IntKind.i64 c.q, AV.int IntKind.i64 c.s] ∧
                                                True) ∧
                                              True ∧
                                                (AV.agg
                                                        [AV.int IntKind.i64 c.d, AV.int IntKind.i64 c.p,
                                                          AV.int IntKind.i64 c.w, AV.int IntKind.i64 c.l,
                                                          AV.int IntKind.i64 c.r, AV.int IntKind.i64 c.i,
                                                          AV.int IntKind.i64 c.q, AV.int IntKind.i64 c.s] =
                                                      AV.agg
                                                        [AV.int IntKind.i64 c.d, AV.int IntKind.i64 c.p,
                                                          AV.int IntKind.i64 c.w, AV.int IntKind.i64 c.l,
                                                          AV.int IntKind.i64 c.r, AV.int IntKind.i64 c.i,
                                                          AV.int IntKind.i64 c.q, AV.int IntKind.i64 c.s] ∧
                                                    True) ∧
                                                  True ∧
                                                    (AV.agg
                                                            [AV.int IntKind.i64 l.b, AV.int IntKind.i64 l.g,
                                                              AV.int IntKind.i64 l.s] =
                                                          AV.agg
                                                            [AV.int IntKind.i64 l.b, AV.int IntKind.i64 l.g,
                                                              AV.int IntKind.i64 l.s] ∧
                                                        True) ∧
                                                      True ∧
                                                        (AV.agg
                                                                [AV.int IntKind.i64 l.b, AV.int IntKind.i64 l.g,
                                                                  AV.int IntKind.i64 l.s] =
                                                              AV.agg
                                                                [AV.int IntKind.i64 l.b, AV.int IntKind.i64 l.g,
                                                                  AV.int IntKind.i64 l.s] ∧
                                                            True) ∧
                                                          True ∧
                                                            True ∧
                                                              (AV.agg
                                                                      [AV.int IntKind.i64 c.d, AV.int IntKind.i64 c.p,
                                                                        AV.int IntKind.i64 c.w, AV.int IntKind.i64 c.l,
                                                                        AV.int IntKind.i64 c.r, AV.int IntKind.i64 c.i,
                                                                        AV.int IntKind.i64 c.q,
                                                                        AV.int IntKind.i64 c.s] =
                                                                    AV.agg
                                                                      [AV.int IntKind.i64 c.d, AV.int IntKind.i64 c.p,
                                                                        AV.int IntKind.i64 c.w, AV.int IntKind.i64 c.l,
                                                                        AV.int IntKind.i64 c.r, AV.int IntKind.i64 c.i,
                                                                        AV.int IntKind.i64 c.q,
                                                                        AV.int IntKind.i64 c.s] ∧
                                                                  True) ∧
                                                                (AV.agg
                                                                        [AV.int IntKind.i64 l.b, AV.int IntKind.i64 l.g,
                                                                          AV.int IntKind.i64 l.s] =
                                                                      AV.agg
                                                                        [AV.int IntKind.i64 l.b, AV.int IntKind.i64 l.g,
                                                                          AV.int IntKind.i64 l.s] ∧
                                                                    True) ∧
                                                                  True ∧
                                                                    True ∧
                                                                      (AV.agg
                                                                              [AV.int IntKind.i64 c.d,
                                                                                AV.int IntKind.i64 c.p,
                                                                                AV.int IntKind.i64 c.w,
                                                                                AV.int IntKind.i64 c.l,
                                                                                AV.int IntKind.i64 c.r,
                                                                                AV.int IntKind.i64 c.i,
                                                                                AV.int IntKind.i64 c.q,
                                                                                AV.int IntKind.i64 c.s] =
                                                                            AV.agg
                                                                              [AV.int IntKind.i64 c.d,
                                                                                AV.int IntKind.i64 c.p,
                                                                                AV.int IntKind.i64 c.w,
                                                                                AV.int IntKind.i64 c.l,
                                                                                AV.int IntKind.i64 c.r,
                                                                                AV.int IntKind.i64 c.i,
                                                                                AV.int IntKind.i64 c.q,
                                                                                AV.int IntKind.i64 c.s] ∧
                                                                          True) ∧
                                                                        (AV.agg
                                                                                [AV.int IntKind.i64 l.b,
                                                                                  AV.int IntKind.i64 l.g,
                                                                                  AV.int IntKind.i64 l.s] =
                                                                              AV.agg
                                                                                [AV.int IntKind.i64 l.b,
                                                                                  AV.int IntKind.i64 l.g,
                                                                                  AV.int IntKind.i64 l.s] ∧
                                                                            True) ∧
                                                                          True ∧
                                                                            (AV.agg
                                                                                    [AV.int IntKind.i64 l.b,
                                                                                      AV.int IntKind.i64 l.g,
                                                                                      AV.int IntKind.i64 l.s] =
                                                                                  AV.agg
                                                                                    [AV.int IntKind.i64 l.b,
                                                                                      AV.int IntKind.i64 l.g,
                                                                                      AV.int IntKind.i64 l.s] ∧
                                                                                True) ∧
                                                                              Q (AV.bool true)) := by kernel_rfl

theorem lawCallsF (c : C) (l : L) (n k : Int) (Q : AV → Prop) : (callW Try.prog (runW Try.prog (KE ftA) 200) 7 [cA c, lA l, iA n, iA k, bA false] (stE false) fun x _ => Q x) =
  (((bgnL c).b =
        (bgnL c).b ∧
      (bgnL c).g =
          (bgnL c).g ∧
        (bgnL c).s =
            (bgnL c).s ∧
          True) ∧
    chk c =
        chk c ∧
      ((lgdL c
                l n).b =
            (lgdL c
                l n).b ∧
          (lgdL c
                  l n).g =
              (lgdL c
                  l n).g ∧
            (lgdL c
                    l n).s =
                (lgdL c
                    l n).s ∧
              True) ∧
        may c
              l n =
            may c
              l n ∧
          ((hldL c
                    l).b =
                (hldL c
                    l).b ∧
              (hldL c
                      l).g =
                  (hldL c
                      l).g ∧
                (hldL c
                        l).s =
                    (hldL c
                        l).s ∧
                  True) ∧
            hldE c
                  l =
                hldE c
                  l ∧
              ((swdL l).b = (swdL l).b ∧
                  (swdL l).g = (swdL l).g ∧
                    (swdL l).s = (swdL l).s ∧
                      True) ∧
                swdE l = swdE l ∧
                  ((bsdL c
                            l k false).b =
                        (bsdL c
                            l k false).b ∧
                      (bsdL c
                              l k false).g =
                          (bsdL c
                              l k false).g ∧
                        (bsdL c
                                l k false).s =
                            (bsdL c
                                l k false).s ∧
                          True) ∧
                    bsdE c
                          l k =
                        bsdE c
                          l k ∧
                      ins c =
                          ins c ∧
                        del c =
                            del c ∧
                          swp c =
                              swp
                                c ∧
                            lchk l = lchk l ∧
                              used l = used l ∧
                                may
                                      c
                                      l n =
                                    may
                                      c
                                      l n ∧
                                  rst
                                        c
                                        l =
                                      rst
                                        c
                                        l ∧
                                    ({ b := l.b,
                                              g := l.g, s := 0 : L }.b =
                                          { b := l.b,
                                              g := l.g, s := 0 : L }.b ∧
                                        { b := l.b,
                                                g := l.g, s := 0 : L }.g =
                                            { b := l.b,
                                                g := l.g, s := 0 : L }.g ∧
                                          { b := l.b,
                                                  g := l.g, s := 0 : L }.s =
                                              { b := l.b,
                                                  g := l.g, s := 0 : L }.s ∧
                                            True) ∧
                                      True ∧
                                        (AV.agg
                                                [AV.int IntKind.i64 c.d, AV.int IntKind.i64 c.p, AV.int IntKind.i64 c.w,
                                                  AV.int IntKind.i64 c.l, AV.int IntKind.i64 c.r,
                                                  AV.int IntKind.i64 c.i, AV.int IntKind.i64 c.q,
                                                  AV.int IntKind.i64 c.s] =
                                              AV.agg
                                                [AV.int IntKind.i64 c.d, AV.int IntKind.i64 c.p, AV.int IntKind.i64 c.w,
                                                  AV.int IntKind.i64 c.l, AV.int IntKind.i64 c.r,
                                                  AV.int IntKind.i64 c.i, AV.int IntKind.i64 c.q,
                                                  AV.int IntKind.i64 c.s] ∧
                                            True) ∧
                                          True ∧
                                            (AV.agg
                                                    [AV.int IntKind.i64 c.d, AV.int IntKind.i64 c.p,
                                                      AV.int IntKind.i64 c.w, AV.int IntKind.i64 c.l,
                                                      AV.int IntKind.i64 c.r, AV.int IntKind.i64 c.i,
                                                      AV.int IntKind.i64 c.q, AV.int IntKind.i64 c.s] =
                                                  AV.agg
                                                    [AV.int IntKind.i64 c.d, AV.int IntKind.i64 c.p,
                                                      AV.int IntKind.i64 c.w, AV.int IntKind.i64 c.l,
                                                      AV.int IntKind.i64 c.r, AV.int IntKind.i64 c.i,
                                                      AV.int IntKind.i64 c.q, AV.int IntKind.i64 c.s] ∧
                                                True) ∧
                                              True ∧
                                                (AV.agg
                                                        [AV.int IntKind.i64 c.d, AV.int IntKind.i64 c.p,
                                                          AV.int IntKind.i64 c.w, AV.int IntKind.i64 c.l,
                                                          AV.int IntKind.i64 c.r, AV.int IntKind.i64 c.i,
                                                          AV.int IntKind.i64 c.q, AV.int IntKind.i64 c.s] =
                                                      AV.agg
                                                        [AV.int IntKind.i64 c.d, AV.int IntKind.i64 c.p,
                                                          AV.int IntKind.i64 c.w, AV.int IntKind.i64 c.l,
                                                          AV.int IntKind.i64 c.r, AV.int IntKind.i64 c.i,
                                                          AV.int IntKind.i64 c.q, AV.int IntKind.i64 c.s] ∧
                                                    True) ∧
                                                  True ∧
                                                    (AV.agg
                                                            [AV.int IntKind.i64 l.b, AV.int IntKind.i64 l.g,
                                                              AV.int IntKind.i64 l.s] =
                                                          AV.agg
                                                            [AV.int IntKind.i64 l.b, AV.int IntKind.i64 l.g,
                                                              AV.int IntKind.i64 l.s] ∧
                                                        True) ∧
                                                      True ∧
                                                        (AV.agg
                                                                [AV.int IntKind.i64 l.b, AV.int IntKind.i64 l.g,
                                                                  AV.int IntKind.i64 l.s] =
                                                              AV.agg
                                                                [AV.int IntKind.i64 l.b, AV.int IntKind.i64 l.g,
                                                                  AV.int IntKind.i64 l.s] ∧
                                                            True) ∧
                                                          True ∧
                                                            True ∧
                                                              (AV.agg
                                                                      [AV.int IntKind.i64 c.d, AV.int IntKind.i64 c.p,
                                                                        AV.int IntKind.i64 c.w, AV.int IntKind.i64 c.l,
                                                                        AV.int IntKind.i64 c.r, AV.int IntKind.i64 c.i,
                                                                        AV.int IntKind.i64 c.q,
                                                                        AV.int IntKind.i64 c.s] =
                                                                    AV.agg
                                                                      [AV.int IntKind.i64 c.d, AV.int IntKind.i64 c.p,
                                                                        AV.int IntKind.i64 c.w, AV.int IntKind.i64 c.l,
                                                                        AV.int IntKind.i64 c.r, AV.int IntKind.i64 c.i,
                                                                        AV.int IntKind.i64 c.q,
                                                                        AV.int IntKind.i64 c.s] ∧
                                                                  True) ∧
                                                                (AV.agg
                                                                        [AV.int IntKind.i64 l.b, AV.int IntKind.i64 l.g,
                                                                          AV.int IntKind.i64 l.s] =
                                                                      AV.agg
                                                                        [AV.int IntKind.i64 l.b, AV.int IntKind.i64 l.g,
                                                                          AV.int IntKind.i64 l.s] ∧
                                                                    True) ∧
                                                                  True ∧
                                                                    True ∧
                                                                      (AV.agg
                                                                              [AV.int IntKind.i64 c.d,
                                                                                AV.int IntKind.i64 c.p,
                                                                                AV.int IntKind.i64 c.w,
                                                                                AV.int IntKind.i64 c.l,
                                                                                AV.int IntKind.i64 c.r,
                                                                                AV.int IntKind.i64 c.i,
                                                                                AV.int IntKind.i64 c.q,
                                                                                AV.int IntKind.i64 c.s] =
                                                                            AV.agg
                                                                              [AV.int IntKind.i64 c.d,
                                                                                AV.int IntKind.i64 c.p,
                                                                                AV.int IntKind.i64 c.w,
                                                                                AV.int IntKind.i64 c.l,
                                                                                AV.int IntKind.i64 c.r,
                                                                                AV.int IntKind.i64 c.i,
                                                                                AV.int IntKind.i64 c.q,
                                                                                AV.int IntKind.i64 c.s] ∧
                                                                          True) ∧
                                                                        (AV.agg
                                                                                [AV.int IntKind.i64 l.b,
                                                                                  AV.int IntKind.i64 l.g,
                                                                                  AV.int IntKind.i64 l.s] =
                                                                              AV.agg
                                                                                [AV.int IntKind.i64 l.b,
                                                                                  AV.int IntKind.i64 l.g,
                                                                                  AV.int IntKind.i64 l.s] ∧
                                                                            True) ∧
                                                                          True ∧
                                                                            (AV.agg
                                                                                    [AV.int IntKind.i64 l.b,
                                                                                      AV.int IntKind.i64 l.g,
                                                                                      AV.int IntKind.i64 l.s] =
                                                                                  AV.agg
                                                                                    [AV.int IntKind.i64 l.b,
                                                                                      AV.int IntKind.i64 l.g,
                                                                                      AV.int IntKind.i64 l.s] ∧
                                                                                True) ∧
                                                                              Q (AV.bool true)) := by kernel_rfl

theorem lawValT (c : C) (l : L) (n k : Int) : Val Try.prog 7 [cA c, lA l, iA n, iA k, bA true] (bA true) :=
  Val.ofE mixed okA rfl rfl rfl (lawCallsT c l n k) (by simp only [and_self, true_and]; rfl)
theorem lawValF (c : C) (l : L) (n k : Int) : Val Try.prog 7 [cA c, lA l, iA n, iA k, bA false] (bA true) :=
  Val.ofE mixed okA rfl rfl rfl (lawCallsF c l n k) (by simp only [and_self, true_and]; rfl)
theorem walk {x : ShVs shapes} (hx : ShOks shapes x) {W : World} {args : Array Value} (h : VRs (frozenAll W) (ShAvs shapes x) args.toList) :
    Calls Try.prog 7 args W fun e w' => e = .returned (.bool true) ∧ Below W.heap.size W w' := by
  obtain ⟨⟨d, p, w, l, r, i, q, s, _⟩, ⟨lb, lg, ls, _⟩, a, b, t, _⟩ := x
  cases t with
  | true => exact law_calls (b := false) (lawValT ⟨d, p, w, l, r, i, q, s⟩ ⟨lb, lg, ls⟩ a b _) h
  | false => exact law_calls (b := false) (lawValF ⟨d, p, w, l, r, i, q, s⟩ ⟨lb, lg, ls⟩ a b _) h


set_option maxRecDepth 100000 in
theorem lifted (os : Os) (started : os.Started) (H : Type) (enc : TypeId × Value → H) :
    ReturnsInHanded {} Try.checked os 7 .any (Rows.costCallsSpec.pre6 enc Try.prog Try.f7 Rows.costCallsRow.domain false) (Rows.costCallsSpec.post enc Try.prog Try.f7 false true false false) := by
  refine returnsInHanded_of_change (C := Try.checked) own started (by kernel_rfl) Try.func7
    (ChangeSpec.witness6 (enc := enc) (C := Try.checked) false ⟨#[], #[.agg #[.int .i64 0, .int .i64 0, .int .i64 0, .int .i64 0, .int .i64 0, .int .i64 0, .int .i64 0, .int .i64 0], .agg #[.int .i64 0, .int .i64 0, .int .i64 0], .int .i64 0, .int .i64 0, .bool false], []⟩ 8 (by kernel_rfl) (by kernel_rfl) (by kernel_rfl) (by kernel_rfl)) ?_
  intro W base args ds gs before hval0 hW hcnd _
  have hW' := hW
  obtain ⟨p, q, hA0, hV, rfl, hfz, hnd⟩ := hW
  have hA : DataW.TrodAll enc Try.prog W 0 (fun _ => true) true Try.f7.params.toList args.toList ds p := hA0
  obtain ⟨rfl, rfl⟩ := trodVars_none hV
  simp only [List.append_nil] at hW'
  have hb0 : ∀ x ∈ p, x.block < W.heap.size := fun x hx => hW'.lt x hx
  obtain ⟨⟨x, hx, hx'⟩, hts⟩ := fitsAll_av (l := shapes) (ts := Try.f7.params.toList) (by kernel_rfl) (fun i t v h h' => hval0 i t v (by simpa using h) (by simpa using h')) hA
  refine (walk hx hx').mono fun e W' ⟨he, hg⟩ => ?_
  subst he
  have hds : ∃ d0 d1 d2 d3 d4, ds = [d0, d1, d2, d3, d4] := by
    have hA2 := hA
    rw [Try.params7] at hA2
    obtain ⟨_, _, d0, e0, _, _, _, rfl, _, _, h0⟩ := trodAll_cons hA2
    obtain ⟨_, _, d1, e1, _, _, _, rfl, _, _, h1⟩ := trodAll_cons h0
    obtain ⟨_, _, d2, e2, _, _, _, rfl, _, _, h2⟩ := trodAll_cons h1
    obtain ⟨_, _, d3, e3, _, _, _, rfl, _, _, h3⟩ := trodAll_cons h2
    obtain ⟨_, _, d4, e4, _, _, _, rfl, _, _, h4⟩ := trodAll_cons h3
    obtain ⟨_, rfl, _⟩ := trodAll_nil h4
    exact ⟨d0, d1, d2, d3, d4, rfl⟩
  obtain ⟨d0, d1, d2, d3, d4, rfl⟩ := hds
  exact ⟨_, rfl, Go.Det.post_of_below (pa := p) (pv := []) hW' hg (fun _ _ _ => (trodAll_cons_mk (shut_bool Try.underlying4 _) trodAll_mk0)) (fun sp hs => trodAll_stays (by kernel_rfl) hg sp hts hA hb0 hs) (fun _ _ => rfl) (List.append_nil _).symm
    (ok_one (by kernel_rfl) rfl (okWide_bool_mk Try.underlying4 _))⟩

theorem over : Rows.costCallsRow.holds Try.pinned (OpenSpec.ofChange Rows.costCallsSpec) :=
  OpenClaim.holds_of_wide 7 Try.f7 rfl rfl rfl rfl rfl rfl rfl ⟨rfl, rfl, rfl, rfl, rfl⟩ rfl rfl rfl rfl rfl (by kernel_rfl) Try.func7 (by kernel_rfl)
    (of_decide_eq_true (by kernel_rfl)) (by unfold Func.isWrapper; first | (rw [if_pos (by decide +kernel)]; kernel_rfl) | (rw [if_neg (by decide +kernel)]; exact ⟨rfl, rfl⟩))
    (fun os started H enc _ => lifted os started H enc)

theorem proved : Rows.CostCallsSaid :=
  over
#print axioms proved
end Go.Proofs.Ythlkmjgpmjnngaa.costCalls
