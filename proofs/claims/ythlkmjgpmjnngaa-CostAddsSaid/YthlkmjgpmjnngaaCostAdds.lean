/- Proved: whatever the input, the law 'wayfinderlaw24.CostAdds' returns true, and the input reads as it did. No condition.
   The road: a deterministic machine over an abstract heap (the texts ..Det..), proved sound against the given model for every order that a region may draw; the kernel runs it with the arguments unknown. -/
import Derived.Test.YthlkmjgpmjnngaaRows
import Derived.Test.YthlkmjgpmjnngaaDvShape
import Derived.Test.YthlkmjgpmjnngaaCostVals
import Derived.WalkKit
import Derived.ProofKit
import Derived.OpenShut
namespace Go.Proofs.Ythlkmjgpmjnngaa.costAdds
open Go.ChangeShapes Go.WideShapes Go.ChangeAt Go.RowKit Go.Det
set_option linter.unusedVariables false

theorem own : ownKnob Try.prog.godebug = none := by kernel_rfl

theorem mixed : Try.prog.follows .mixedOrders = true := by kernel_rfl

abbrev shapes : List Sh := [.fcons (.int .i64) (.fcons (.int .i64) (.fcons (.int .i64) (.fcons (.int .i64) (.fcons (.int .i64) (.fcons (.int .i64) (.fcons (.int .i64) (.fcons (.int .i64) (.fnil)))))))), .fcons (.int .i64) (.fcons (.int .i64) (.fcons (.int .i64) (.fnil))), .int .i64, .int .i64]

theorem lawAdds (c : C) (l : L) (a b : Int) (Q : AV → Prop) : (callW Try.prog (runW Try.prog (KV ftA) 200) 4 [cA c, lA l, iA a, iA b] (stE false) fun x _ => Q x) =
  (ifp (!eqInt (chk c) 0)
    (Q (AV.bool true))
    (ifp (!eqInt (lchk l) 0) (Q (AV.bool true))
      (ifp (!leInt 0 a) (Q (AV.bool true))
        (ifp (!leInt 0 b) (Q (AV.bool true))
          (ifp (!leInt a 549755813888) (Q (AV.bool true))
            (ifp (!leInt b 549755813888) (Q (AV.bool true))
              (ifp
                (!eqInt
                    (may c
                      l a)
                    0)
                (ifp
                  (eqInt
                    (may c
                      l a)
                    7)
                  (ifp
                    (eqInt
                      (may c
                        l (wrapF IntKind.i64 (a.add b)))
                      7)
                    (ifp
                      (!leInt a
                          (rst c
                            l))
                      (ifp
                        (eqInt
                          (lgdL c
                              l a).b
                          0)
                        (ifp
                          (eqInt
                            (lgdL c
                                l a).g
                            0)
                          (ifp
                            (eqInt
                              (lgdL c
                                  l a).s
                              0)
                            (Q (AV.bool true)) (Q (AV.bool false)))
                          (Q (AV.bool false)))
                        (Q (AV.bool false)))
                      (Q (AV.bool false)))
                    (Q (AV.bool false)))
                  (Q (AV.bool false)))
                (ifp
                  (!eqInt
                      (rst c
                        {
                          b :=
                            (lgdL c
                                l a).b,
                          g :=
                            (lgdL c
                                l a).g,
                          s :=
                            (lgdL c
                                l a).s })
                      (wrapF IntKind.i64
                        ((rst c
                              l).sub
                          a)))
                  (True ∧
                    True ∧
                      (AV.agg
                              [AV.int IntKind.i64 c.d, AV.int IntKind.i64 c.p, AV.int IntKind.i64 c.w,
                                AV.int IntKind.i64 c.l, AV.int IntKind.i64 c.r, AV.int IntKind.i64 c.i,
                                AV.int IntKind.i64 c.q, AV.int IntKind.i64 c.s] =
                            AV.agg
                              [AV.int IntKind.i64 c.d, AV.int IntKind.i64 c.p, AV.int IntKind.i64 c.w,
                                AV.int IntKind.i64 c.l, AV.int IntKind.i64 c.r, AV.int IntKind.i64 c.i,
                                AV.int IntKind.i64 c.q, AV.int IntKind.i64 c.s] ∧
                          True) ∧
                        (AV.agg [AV.int IntKind.i64 l.b, AV.int IntKind.i64 l.g, AV.int IntKind.i64 l.s] =
                              AV.agg [AV.int IntKind.i64 l.b, AV.int IntKind.i64 l.g, AV.int IntKind.i64 l.s] ∧
                            True) ∧
                          Q (AV.bool false))
                  (ifp
                    (!eqInt
                        (used
                          {
                            b :=
                              (lgdL c
                                  l a).b,
                            g :=
                              (lgdL c
                                  l a).g,
                            s :=
                              (lgdL c
                                  l a).s })
                        (wrapF IntKind.i64 ((used l).add a)))
                    (True ∧
                      True ∧
                        (AV.agg
                                [AV.int IntKind.i64 c.d, AV.int IntKind.i64 c.p, AV.int IntKind.i64 c.w,
                                  AV.int IntKind.i64 c.l, AV.int IntKind.i64 c.r, AV.int IntKind.i64 c.i,
                                  AV.int IntKind.i64 c.q, AV.int IntKind.i64 c.s] =
                              AV.agg
                                [AV.int IntKind.i64 c.d, AV.int IntKind.i64 c.p, AV.int IntKind.i64 c.w,
                                  AV.int IntKind.i64 c.l, AV.int IntKind.i64 c.r, AV.int IntKind.i64 c.i,
                                  AV.int IntKind.i64 c.q, AV.int IntKind.i64 c.s] ∧
                            True) ∧
                          (AV.agg [AV.int IntKind.i64 l.b, AV.int IntKind.i64 l.g, AV.int IntKind.i64 l.s] =
                                AV.agg [AV.int IntKind.i64 l.b, AV.int IntKind.i64 l.g, AV.int IntKind.i64 l.s] ∧
                              True) ∧
                            True ∧
                              (AV.agg [AV.int IntKind.i64 l.b, AV.int IntKind.i64 l.g, AV.int IntKind.i64 l.s] =
                                    AV.agg [AV.int IntKind.i64 l.b, AV.int IntKind.i64 l.g, AV.int IntKind.i64 l.s] ∧
                                  True) ∧
                                Q (AV.bool false))
                    (ifp
                      (!eqInt
                          (may c
                            l (wrapF IntKind.i64 (a.add b)))
                          (may c
                            {
                              b :=
                                (lgdL c
                                    l a).b,
                              g :=
                                (lgdL c
                                    l a).g,
                              s :=
                                (lgdL c
                                    l a).s }
                            b))
                      (True ∧
                        True ∧
                          (AV.agg
                                  [AV.int IntKind.i64 c.d, AV.int IntKind.i64 c.p, AV.int IntKind.i64 c.w,
                                    AV.int IntKind.i64 c.l, AV.int IntKind.i64 c.r, AV.int IntKind.i64 c.i,
                                    AV.int IntKind.i64 c.q, AV.int IntKind.i64 c.s] =
                                AV.agg
                                  [AV.int IntKind.i64 c.d, AV.int IntKind.i64 c.p, AV.int IntKind.i64 c.w,
                                    AV.int IntKind.i64 c.l, AV.int IntKind.i64 c.r, AV.int IntKind.i64 c.i,
                                    AV.int IntKind.i64 c.q, AV.int IntKind.i64 c.s] ∧
                              True) ∧
                            (AV.agg [AV.int IntKind.i64 l.b, AV.int IntKind.i64 l.g, AV.int IntKind.i64 l.s] =
                                  AV.agg [AV.int IntKind.i64 l.b, AV.int IntKind.i64 l.g, AV.int IntKind.i64 l.s] ∧
                                True) ∧
                              True ∧
                                (AV.agg [AV.int IntKind.i64 l.b, AV.int IntKind.i64 l.g, AV.int IntKind.i64 l.s] =
                                      AV.agg [AV.int IntKind.i64 l.b, AV.int IntKind.i64 l.g, AV.int IntKind.i64 l.s] ∧
                                    True) ∧
                                  Q (AV.bool false))
                      (True ∧
                        True ∧
                          (AV.agg
                                  [AV.int IntKind.i64 c.d, AV.int IntKind.i64 c.p, AV.int IntKind.i64 c.w,
                                    AV.int IntKind.i64 c.l, AV.int IntKind.i64 c.r, AV.int IntKind.i64 c.i,
                                    AV.int IntKind.i64 c.q, AV.int IntKind.i64 c.s] =
                                AV.agg
                                  [AV.int IntKind.i64 c.d, AV.int IntKind.i64 c.p, AV.int IntKind.i64 c.w,
                                    AV.int IntKind.i64 c.l, AV.int IntKind.i64 c.r, AV.int IntKind.i64 c.i,
                                    AV.int IntKind.i64 c.q, AV.int IntKind.i64 c.s] ∧
                              True) ∧
                            (AV.agg [AV.int IntKind.i64 l.b, AV.int IntKind.i64 l.g, AV.int IntKind.i64 l.s] =
                                  AV.agg [AV.int IntKind.i64 l.b, AV.int IntKind.i64 l.g, AV.int IntKind.i64 l.s] ∧
                                True) ∧
                              True ∧
                                (AV.agg [AV.int IntKind.i64 l.b, AV.int IntKind.i64 l.g, AV.int IntKind.i64 l.s] =
                                      AV.agg [AV.int IntKind.i64 l.b, AV.int IntKind.i64 l.g, AV.int IntKind.i64 l.s] ∧
                                    True) ∧
                                  ifp
                                    (!eqInt
                                        (may
                                          { d := c.d, p := c.p, w := c.w, l := c.l, r := c.r, i := c.i, q := c.q,
                                            s := c.s }
                                          l (wrapF IntKind.i64 (a.add b)))
                                        0)
                                    (Q (AV.bool true))
                                    (ifp
                                      (eqInt
                                        (lgdL
                                            { d := c.d, p := c.p, w := c.w, l := c.l, r := c.r, i := c.i, q := c.q,
                                              s := c.s }
                                            {
                                              b :=
                                                (lgdL
                                                    { d := c.d, p := c.p, w := c.w, l := c.l, r := c.r, i := c.i,
                                                      q := c.q, s := c.s }
                                                    l a).b,
                                              g :=
                                                (lgdL
                                                    { d := c.d, p := c.p, w := c.w, l := c.l, r := c.r, i := c.i,
                                                      q := c.q, s := c.s }
                                                    l a).g,
                                              s :=
                                                (lgdL
                                                    { d := c.d, p := c.p, w := c.w, l := c.l, r := c.r, i := c.i,
                                                      q := c.q, s := c.s }
                                                    l a).s }
                                            b).b
                                        (lgdL
                                            { d := c.d, p := c.p, w := c.w, l := c.l, r := c.r, i := c.i, q := c.q,
                                              s := c.s }
                                            l (wrapF IntKind.i64 (a.add b))).b)
                                      (ifp
                                        (eqInt
                                          (lgdL
                                              { d := c.d, p := c.p, w := c.w, l := c.l, r := c.r, i := c.i, q := c.q,
                                                s := c.s }
                                              {
                                                b :=
                                                  (lgdL
                                                      { d := c.d, p := c.p, w := c.w, l := c.l, r := c.r, i := c.i,
                                                        q := c.q, s := c.s }
                                                      l a).b,
                                                g :=
                                                  (lgdL
                                                      { d := c.d, p := c.p, w := c.w, l := c.l, r := c.r, i := c.i,
                                                        q := c.q, s := c.s }
                                                      l a).g,
                                                s :=
                                                  (lgdL
                                                      { d := c.d, p := c.p, w := c.w, l := c.l, r := c.r, i := c.i,
                                                        q := c.q, s := c.s }
                                                      l a).s }
                                              b).g
                                          (lgdL
                                              { d := c.d, p := c.p, w := c.w, l := c.l, r := c.r, i := c.i, q := c.q,
                                                s := c.s }
                                              l (wrapF IntKind.i64 (a.add b))).g)
                                        (ifp
                                          (eqInt
                                            (lgdL
                                                { d := c.d, p := c.p, w := c.w, l := c.l, r := c.r, i := c.i, q := c.q,
                                                  s := c.s }
                                                {
                                                  b :=
                                                    (lgdL
                                                        { d := c.d, p := c.p, w := c.w, l := c.l, r := c.r, i := c.i,
                                                          q := c.q, s := c.s }
                                                        l a).b,
                                                  g :=
                                                    (lgdL
                                                        { d := c.d, p := c.p, w := c.w, l := c.l, r := c.r, i := c.i,
                                                          q := c.q, s := c.s }
                                                        l a).g,
                                                  s :=
                                                    (lgdL
                                                        { d := c.d, p := c.p, w := c.w, l := c.l, r := c.r, i := c.i,
                                                          q := c.q, s := c.s }
                                                        l a).s }
                                                b).s
                                            (lgdL
                                                { d := c.d, p := c.p, w := c.w, l := c.l, r := c.r, i := c.i, q := c.q,
                                                  s := c.s }
                                                l (wrapF IntKind.i64 (a.add b))).s)
                                          (ifp
                                            (eqInt
                                              (may
                                                { d := c.d, p := c.p, w := c.w, l := c.l, r := c.r, i := c.i, q := c.q,
                                                  s := c.s }
                                                l (wrapF IntKind.i64 (a.add b)))
                                              0)
                                            (Q (AV.bool true)) (Q (AV.bool false)))
                                          (Q (AV.bool false)))
                                        (Q (AV.bool false)))
                                      (Q (AV.bool false)))))))))))))) := by kernel_rfl

theorem lgdL_no {c : C} {l : L} {n : Int} (h : ¬(may c l n = 0)) : lgdL c l n = l0 := by unfold lgdL; rw [if_neg h]
theorem lgdL_yes {c : C} {l : L} {n : Int} (h : may c l n = 0) : lgdL c l n = ⟨l.b, l.g + n, l.s⟩ := by unfold lgdL; rw [if_pos h]
theorem lawVal (c : C) (l : L) (a b : Int) : Val Try.prog 4 [cA c, lA l, iA a, iA b] (bA true) :=
  Val.of mixed okA rfl rfl rfl (lawAdds c l a b) (by
    simp only [ifp_ne, ifp_eq, ifp_le, ifp_nle, chk_iff, lchk_iff, and_self, true_and]
    by_cases h1 : good c = true
    case neg => rw [if_neg h1]; rfl
    by_cases h2 : lok l = true
    case neg => rw [if_pos h1, if_neg h2]; rfl
    rw [if_pos h1, if_pos h2]
    by_cases a1 : 0 ≤ a
    case neg => rw [if_neg a1]; rfl
    by_cases b1 : 0 ≤ b
    case neg => rw [if_pos a1, if_neg b1]; rfl
    by_cases a2 : a ≤ 549755813888
    case neg => rw [if_pos a1, if_pos b1, if_neg a2]; rfl
    by_cases b2 : b ≤ 549755813888
    case neg => rw [if_pos a1, if_pos b1, if_pos a2, if_neg b2]; rfl
    rw [if_pos a1, if_pos b1, if_pos a2, if_pos b2]
    obtain ⟨_, f1, f2⟩ := left_eq ⟨h1, h2⟩
    have f3 := lok_iff.1 h2
    have f4 := good_facts h1
    have f5 := rsv_le c
    have e1 : wrapF .i64 (Int.add a b) = a + b := wadd (by omega) (by omega)
    have ma : may c l a = if a > left c l then 7 else 0 := may_yes ⟨h1, h2, a1, by omega⟩
    have mb : may c l (a + b) = if a + b > left c l then 7 else 0 := may_yes ⟨h1, h2, by omega, by omega⟩
    have hr := rst_yes ⟨h1, h2⟩
    rw [e1]
    by_cases g : a > left c l
    · rw [if_pos g] at ma
      rw [if_pos (by omega)] at mb
      rw [if_neg (by omega), if_pos ma, if_pos mb, if_neg (by rw [hr]; split <;> omega), lgdL_no (by omega)]
      rw [if_pos (show l0.b = 0 from rfl), if_pos (show l0.g = 0 from rfl), if_pos (show l0.s = 0 from rfl)]; rfl
    · rw [if_neg g] at ma
      rw [if_pos ma, lgdL_yes ma]
      have hlef : left c l = c.s - rsv c - (l.b + l.g + l.s) := rfl
      have h3 : lok ⟨l.b, l.g + a, l.s⟩ = true := lok_iff.2 ⟨by show 0 ≤ l.b; omega, by show l.b ≤ _; omega, by show 0 ≤ l.g + a; omega, by show l.g + a ≤ _; omega, by show 0 ≤ l.s; omega, by show l.s ≤ _; omega⟩
      have hlef' : left c ⟨l.b, l.g + a, l.s⟩ = left c l - a := by show c.s - rsv c - (l.b + (l.g + a) + l.s) = _; omega
      have hr' := rst_yes (c := c) (l := ⟨l.b, l.g + a, l.s⟩) ⟨h1, h3⟩
      rw [hlef'] at hr'
      rw [if_neg (by omega)] at hr hr'
      have e2 : wrapF .i64 (Int.sub (rst c l) a) = rst c l - a := by rw [hr]; exact wsub (by omega) (by omega)
      have e3 : wrapF .i64 (Int.add (used l) a) = used l + a := by rw [used_yes h2]; exact wadd (by omega) (by omega)
      have mb' : may c ⟨l.b, l.g + a, l.s⟩ b = if b > left c l - a then 7 else 0 := by rw [may_yes ⟨h1, h3, b1, by omega⟩, hlef']
      rw [if_pos (by rw [e2, hr, hr']), if_pos (by rw [e3, used_yes h2, used_yes h3]; show l.b + (l.g + a) + l.s = _; omega)]
      by_cases g2 : a + b > left c l
      · rw [if_pos g2] at mb
        rw [if_pos (by omega)] at mb'
        rw [if_pos (by omega), if_neg (by omega)]; rfl
      · rw [if_neg g2] at mb
        rw [if_neg (by omega)] at mb'
        rw [if_pos (by omega), if_pos mb, lgdL_yes mb, lgdL_yes mb']
        rw [if_pos (show l.b = l.b from rfl), if_pos (show l.g + a + b = l.g + (a + b) by omega), if_pos (show l.s = l.s from rfl), if_pos mb]; rfl)
theorem walk {x : ShVs shapes} (hx : ShOks shapes x) {W : World} {args : Array Value} (h : VRs (frozenAll W) (ShAvs shapes x) args.toList) :
    Calls Try.prog 4 args W fun e w' => e = .returned (.bool true) ∧ Below W.heap.size W w' := by
  obtain ⟨⟨d, p, w, l, r, i, q, s, _⟩, ⟨lb, lg, ls, _⟩, a, b, _⟩ := x
  exact law_calls (b := false) (lawVal ⟨d, p, w, l, r, i, q, s⟩ ⟨lb, lg, ls⟩ a b _) h


set_option maxRecDepth 100000 in
theorem lifted (os : Os) (started : os.Started) (H : Type) (enc : TypeId × Value → H) :
    ReturnsInHanded {} Try.checked os 4 .any (Rows.costAddsSpec.pre6 enc Try.prog Try.f4 Rows.costAddsRow.domain false) (Rows.costAddsSpec.post enc Try.prog Try.f4 false true false false) := by
  refine returnsInHanded_of_change (C := Try.checked) own started (by kernel_rfl) Try.func4
    (ChangeSpec.witness6 (enc := enc) (C := Try.checked) false ⟨#[], #[.agg #[.int .i64 0, .int .i64 0, .int .i64 0, .int .i64 0, .int .i64 0, .int .i64 0, .int .i64 0, .int .i64 0], .agg #[.int .i64 0, .int .i64 0, .int .i64 0], .int .i64 0, .int .i64 0], []⟩ 8 (by kernel_rfl) (by kernel_rfl) (by kernel_rfl) (by kernel_rfl)) ?_
  intro W base args ds gs before hval0 hW hcnd _
  have hW' := hW
  obtain ⟨p, q, hA0, hV, rfl, hfz, hnd⟩ := hW
  have hA : DataW.TrodAll enc Try.prog W 0 (fun _ => true) true Try.f4.params.toList args.toList ds p := hA0
  obtain ⟨rfl, rfl⟩ := trodVars_none hV
  simp only [List.append_nil] at hW'
  have hb0 : ∀ x ∈ p, x.block < W.heap.size := fun x hx => hW'.lt x hx
  obtain ⟨⟨x, hx, hx'⟩, hts⟩ := fitsAll_av (l := shapes) (ts := Try.f4.params.toList) (by kernel_rfl) (fun i t v h h' => hval0 i t v (by simpa using h) (by simpa using h')) hA
  refine (walk hx hx').mono fun e W' ⟨he, hg⟩ => ?_
  subst he
  have hds : ∃ d0 d1 d2 d3, ds = [d0, d1, d2, d3] := by
    have hA2 := hA
    rw [Try.params4] at hA2
    obtain ⟨_, _, d0, e0, _, _, _, rfl, _, _, h0⟩ := trodAll_cons hA2
    obtain ⟨_, _, d1, e1, _, _, _, rfl, _, _, h1⟩ := trodAll_cons h0
    obtain ⟨_, _, d2, e2, _, _, _, rfl, _, _, h2⟩ := trodAll_cons h1
    obtain ⟨_, _, d3, e3, _, _, _, rfl, _, _, h3⟩ := trodAll_cons h2
    obtain ⟨_, rfl, _⟩ := trodAll_nil h3
    exact ⟨d0, d1, d2, d3, rfl⟩
  obtain ⟨d0, d1, d2, d3, rfl⟩ := hds
  exact ⟨_, rfl, Go.Det.post_of_below (pa := p) (pv := []) hW' hg (fun _ _ _ => (trodAll_cons_mk (shut_bool Try.underlying4 _) trodAll_mk0)) (fun sp hs => trodAll_stays (by kernel_rfl) hg sp hts hA hb0 hs) (fun _ _ => rfl) (List.append_nil _).symm
    (ok_one (by kernel_rfl) rfl (okWide_bool_mk Try.underlying4 _))⟩

theorem over : Rows.costAddsRow.holds Try.pinned (OpenSpec.ofChange Rows.costAddsSpec) :=
  OpenClaim.holds_of_wide 4 Try.f4 rfl rfl rfl rfl rfl rfl rfl ⟨rfl, rfl, rfl, rfl, rfl⟩ rfl rfl rfl rfl rfl (by kernel_rfl) Try.func4 (by kernel_rfl)
    (of_decide_eq_true (by kernel_rfl)) (by unfold Func.isWrapper; first | (rw [if_pos (by decide +kernel)]; kernel_rfl) | (rw [if_neg (by decide +kernel)]; exact ⟨rfl, rfl⟩))
    (fun os started H enc _ => lifted os started H enc)

theorem proved : Rows.CostAddsSaid :=
  over
#print axioms proved
end Go.Proofs.Ythlkmjgpmjnngaa.costAdds
