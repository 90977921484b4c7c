/- Forms and contracts, printed by gx.py. -/
import Derived.Test.YtfcdpdejoogapaaRows
import Derived.Test.YtfcdpdejoogapaaDvUse
import Derived.Test.YtfcdpdejoogapaaDvArg
import Derived.ProofKit
import Derived.Test.YtfcdpdejoogapaaCell
import Derived.Test.YtfcdpdejoogapaaCellB
namespace Go.Proofs.Ytfcdpdejoogapaa
open Go.Det Go.RowKit
set_option linter.unusedVariables false
set_option linter.unusedSimpArgs false
set_option maxRecDepth 100000
def readL (b : List Int) (c d : Nat) : List (List Int) := (List.range c).map (chunkAt d ((List.range (c * d)).map (num4 b)))
def readV (b : List Int) (n d : Int) : List (List Int) × Int :=
  if n < 1 ∨ 4096 < n ∨ d < 1 ∨ 1024 < d then ([], 2) else if b.length ≠ n.toNat * d.toNat * 4 then ([], 4) else if checkV (readL b n.toNat d.toNat) = 0 then (readL b n.toNat d.toNat, 0) else ([], 4)
theorem four_mul {N D : Nat} (h : N * D ≤ 4194304) (hN : N ≤ 4096) : wrapF .i64 (Int.mul (wrapF .i64 (Int.mul 4 (N : Int))) (D : Int)) = ((N * D * 4 : Nat) : Int) := by
  have e1 : Int.mul 4 (N : Int) = ((4 * N : Nat) : Int) := rfl
  have e2 : Int.mul ((4 * N : Nat) : Int) (D : Int) = ((4 * N * D : Nat) : Int) := rfl
  have e3 : wrapF .i64 (Int.mul 4 (N : Int)) = ((4 * N : Nat) : Int) := by rw [e1, w64 (by omega) (by omega)]
  rw [e3, e2, show 4 * N * D = N * D * 4 by rw [Nat.mul_assoc, Nat.mul_comm], w64 (by omega) (by omega)]
theorem readV_bad {b : List Int} {n d : Int} (h : n < 1 ∨ 4096 < n ∨ d < 1 ∨ 1024 < d) : readV b n d = ([], 2) := by rw [readV, if_pos h]
theorem read_len {b : List Int} {N D : Nat} (h : b.length = N * D * 4) (hD : 1 ≤ D) : (List.range (((List.range (b.length / 4)).map (num4 b)).length / D)).map (chunkAt D ((List.range (b.length / 4)).map (num4 b))) = readL b N D := by
  rw [h, Nat.mul_div_cancel _ (by decide), List.length_map, List.length_range, Nat.mul_div_cancel _ hD]; rfl

/-! wayfinder/cell.Read -/
noncomputable def readT : Tel ((List Int) × Int × Int × Unit) := .cons 0 (.lst Eu8) (.cons 1 (.int .i64) (.cons 2 (.int .i64) (.nil)))

theorem readFn (b : List Int) (n : Int) (d : Int) (Q : AV → Prop) : (callW Try.prog (runW Try.prog (KL [(43, checkK), (65, ofK), (64, sgnK), (67, clone32K)] [(88, [(1, rdbC)]), (89, [(1, rdvC)])]) 200) 41 (readT.cells id (b, (n, (d, ())))) (stE true) (fun x st => frzW st x Q)) =
  (ifp (!leInt (1 : Int) n) (Q (AV.tuple [AV.nilSlice, AV.int IntKind.i64 (2 : Int)]))
    (ifp (!leInt n (4096 : Int)) (Q (AV.tuple [AV.nilSlice, AV.int IntKind.i64 (2 : Int)]))
      (ifp (!leInt (1 : Int) d) (Q (AV.tuple [AV.nilSlice, AV.int IntKind.i64 (2 : Int)]))
        (ifp (!leInt d (1024 : Int)) (Q (AV.tuple [AV.nilSlice, AV.int IntKind.i64 (2 : Int)]))
          (ifp (!eqInt (Int.ofNat b.length) (wrapF IntKind.i64 ((wrapF IntKind.i64 (Int.mul (4 : Int) n)).mul d)))
            (Q (AV.tuple [AV.nilSlice, AV.int IntKind.i64 (4 : Int)]))
            (LoopOk Try.prog (88 : Nat) (31 : Nat) (loopBody Try.prog (88 : Nat) (1 : Nat)).loop rdbC ∧
              True ∧
                True ∧
                  (True ∧
                      [(37 : Nat)] = [(37 : Nat)] ∧
                        rangeAs Try.prog (41 : FuncId) (8 : Nat) = rangeAs Try.prog (41 : FuncId) (8 : Nat) ∧
                          rangeBody Try.prog (41 : FuncId) (8 : Nat) = rangeBody Try.prog (41 : FuncId) (8 : Nat) ∧
                            False ∨
                    True ∧
                      [(37 : Nat)] = [(37 : Nat)] ∧
                        rangeAs Try.prog (41 : FuncId) (8 : Nat) = rangeAs Try.prog (41 : FuncId) (8 : Nat) ∧
                          rangeBody Try.prog (41 : FuncId) (8 : Nat) = rangeBody Try.prog (41 : FuncId) (8 : Nat) ∧
                            ∃ (l : List Int),
                              Wk (AV.vs (List.flatMap Eu8.f b) b.length b.length false none (1 : Nat)) (lst Eu8 l) ∧
                                true = true ∧
                                  rdbInv
                                      (((), (), (), (0 : Int), ()), ((), ()), (), ([], ()), (l, ()), ((4 : Int), ()),
                                        (), ()) ∧
                                    (∀ (c : PUnit)
                                        (d_1 :
                                          (Unit × Unit) ×
                                            Unit × (List Int × Unit) × (List Int × Unit) × (Int × Unit) × Unit × Unit),
                                        rdbR0
                                            (((), (), (), (0 : Int), ()), ((), ()), (), ([], ()), (l, ()),
                                              ((4 : Int), ()), (), ())
                                            c d_1 →
                                          ifp (!leInt (1 : Int) d) False
                                            (LoopOk Try.prog (89 : Nat) (31 : Nat)
                                                (loopBody Try.prog (89 : Nat) (1 : Nat)).loop rdvC ∧
                                              True ∧
                                                True ∧
                                                  (True ∧
                                                      [(48 : Nat)] = [(48 : Nat)] ∧
                                                        rangeAs Try.prog (41 : FuncId) (12 : Nat) =
                                                            rangeAs Try.prog (41 : FuncId) (12 : Nat) ∧
                                                          rangeBody Try.prog (41 : FuncId) (12 : Nat) =
                                                              rangeBody Try.prog (41 : FuncId) (12 : Nat) ∧
                                                            False ∨
                                                    True ∧
                                                      [(48 : Nat)] = [(48 : Nat)] ∧
                                                        rangeAs Try.prog (41 : FuncId) (12 : Nat) =
                                                            rangeAs Try.prog (41 : FuncId) (12 : Nat) ∧
                                                          rangeBody Try.prog (41 : FuncId) (12 : Nat) =
                                                              rangeBody Try.prog (41 : FuncId) (12 : Nat) ∧
                                                            ∃ (l : List Int),
                                                              Wk
                                                                  (AV.vs (List.flatMap Ei32.f d_1.2.2.1.1)
                                                                    d_1.2.2.1.1.length d_1.2.2.1.1.length false
                                                                    (some (5 : Nat)) (1 : Nat))
                                                                  (lst Ei32 l) ∧
                                                                true = true ∧
                                                                  rdvInv
                                                                      (((), (), (), (0 : Int), ()), ((), ()), (),
                                                                        ([], ()), (l, ()), (d, ()), (), ()) ∧
                                                                    (∀ (c : PUnit)
                                                                        (d_2 :
                                                                          (Unit × Unit) ×
                                                                            Unit ×
                                                                              (List (List Int) × Unit) ×
                                                                                (List Int × Unit) ×
                                                                                  (Int × Unit) × Unit × Unit),
                                                                        rdvR0
                                                                            (((), (), (), (0 : Int), ()), ((), ()), (),
                                                                              ([], ()), (l, ()), (d, ()), (), ())
                                                                            c d_2 →
                                                                          ∃ (l : List (List Int)),
                                                                            Wk
                                                                                (AV.vs (List.flatMap Ell.f d_2.2.2.1.1)
                                                                                  d_2.2.2.1.1.length d_2.2.2.1.1.length
                                                                                  false (some (11 : Nat)) (1 : Nat))
                                                                                (lst Ell l) ∧
                                                                              checkPre (l, ()) ∧
                                                                                ifp (!eqInt (checkV l) (0 : Int))
                                                                                  (Q
                                                                                    (AV.tuple
                                                                                      [AV.nilSlice,
                                                                                        AV.int IntKind.i64 (4 : Int)]))
                                                                                  (Q
                                                                                    (AV.tuple
                                                                                      [AV.vs
                                                                                          (List.flatMap Ell.f
                                                                                            d_2.2.2.1.1)
                                                                                          d_2.2.2.1.1.length
                                                                                          d_2.2.2.1.1.length false
                                                                                          (some (11 : Nat)) (1 : Nat),
                                                                                        AV.int IntKind.i64
                                                                                          (0 : Int)]))) ∧
                                                                      (∀ (c : PUnit)
                                                                          (d_2 :
                                                                            (Unit × Unit) ×
                                                                              Unit ×
                                                                                (Unit × Unit) ×
                                                                                  (List Int × Unit) ×
                                                                                    (Int × Unit) × Unit),
                                                                          rdvR1
                                                                              (((), (), (), (0 : Int), ()), ((), ()),
                                                                                (), ([], ()), (l, ()), (d, ()), (), ())
                                                                              c d_2 →
                                                                            ∃ (l : List (List Int)),
                                                                              Wk AV.nilSlice (lst Ell l) ∧
                                                                                checkPre (l, ()) ∧
                                                                                  ifp (!eqInt (checkV l) (0 : Int))
                                                                                    (Q
                                                                                      (AV.tuple
                                                                                        [AV.nilSlice,
                                                                                          AV.int IntKind.i64
                                                                                            (4 : Int)]))
                                                                                    (Q
                                                                                      (AV.tuple
                                                                                        [AV.nilSlice,
                                                                                          AV.int IntKind.i64
                                                                                            (0 : Int)]))) ∧
                                                                        True))) ∧
                                      (∀ (c : PUnit)
                                          (d_1 :
                                            (Unit × Unit) ×
                                              Unit × (Unit × Unit) × (List Int × Unit) × (Int × Unit) × Unit),
                                          rdbR1
                                              (((), (), (), (0 : Int), ()), ((), ()), (), ([], ()), (l, ()),
                                                ((4 : Int), ()), (), ())
                                              c d_1 →
                                            ifp (!leInt (1 : Int) d) False
                                              (LoopOk Try.prog (89 : Nat) (31 : Nat)
                                                  (loopBody Try.prog (89 : Nat) (1 : Nat)).loop rdvC ∧
                                                True ∧
                                                  True ∧
                                                    (True ∧
                                                        [(48 : Nat)] = [(48 : Nat)] ∧
                                                          rangeAs Try.prog (41 : FuncId) (12 : Nat) =
                                                              rangeAs Try.prog (41 : FuncId) (12 : Nat) ∧
                                                            rangeBody Try.prog (41 : FuncId) (12 : Nat) =
                                                                rangeBody Try.prog (41 : FuncId) (12 : Nat) ∧
                                                              False ∨
                                                      True ∧
                                                        [(48 : Nat)] = [(48 : Nat)] ∧
                                                          rangeAs Try.prog (41 : FuncId) (12 : Nat) =
                                                              rangeAs Try.prog (41 : FuncId) (12 : Nat) ∧
                                                            rangeBody Try.prog (41 : FuncId) (12 : Nat) =
                                                                rangeBody Try.prog (41 : FuncId) (12 : Nat) ∧
                                                              ∃ (l : List Int),
                                                                Wk AV.nilSlice (lst Ei32 l) ∧
                                                                  true = true ∧
                                                                    rdvInv
                                                                        (((), (), (), (0 : Int), ()), ((), ()), (),
                                                                          ([], ()), (l, ()), (d, ()), (), ()) ∧
                                                                      (∀ (c : PUnit)
                                                                          (d_2 :
                                                                            (Unit × Unit) ×
                                                                              Unit ×
                                                                                (List (List Int) × Unit) ×
                                                                                  (List Int × Unit) ×
                                                                                    (Int × Unit) × Unit × Unit),
                                                                          rdvR0
                                                                              (((), (), (), (0 : Int), ()), ((), ()),
                                                                                (), ([], ()), (l, ()), (d, ()), (), ())
                                                                              c d_2 →
                                                                            ∃ (l : List (List Int)),
                                                                              Wk
                                                                                  (AV.vs
                                                                                    (List.flatMap Ell.f d_2.2.2.1.1)
                                                                                    d_2.2.2.1.1.length
                                                                                    d_2.2.2.1.1.length false
                                                                                    (some (10 : Nat)) (1 : Nat))
                                                                                  (lst Ell l) ∧
                                                                                checkPre (l, ()) ∧
                                                                                  ifp (!eqInt (checkV l) (0 : Int))
                                                                                    (Q
                                                                                      (AV.tuple
                                                                                        [AV.nilSlice,
                                                                                          AV.int IntKind.i64
                                                                                            (4 : Int)]))
                                                                                    (Q
                                                                                      (AV.tuple
                                                                                        [AV.vs
                                                                                            (List.flatMap Ell.f
                                                                                              d_2.2.2.1.1)
                                                                                            d_2.2.2.1.1.length
                                                                                            d_2.2.2.1.1.length false
                                                                                            (some (10 : Nat)) (1 : Nat),
                                                                                          AV.int IntKind.i64
                                                                                            (0 : Int)]))) ∧
                                                                        (∀ (c : PUnit)
                                                                            (d_2 :
                                                                              (Unit × Unit) ×
                                                                                Unit ×
                                                                                  (Unit × Unit) ×
                                                                                    (List Int × Unit) ×
                                                                                      (Int × Unit) × Unit),
                                                                            rdvR1
                                                                                (((), (), (), (0 : Int), ()), ((), ()),
                                                                                  (), ([], ()), (l, ()), (d, ()), (),
                                                                                  ())
                                                                                c d_2 →
                                                                              ∃ (l : List (List Int)),
                                                                                Wk AV.nilSlice (lst Ell l) ∧
                                                                                  checkPre (l, ()) ∧
                                                                                    ifp (!eqInt (checkV l) (0 : Int))
                                                                                      (Q
                                                                                        (AV.tuple
                                                                                          [AV.nilSlice,
                                                                                            AV.int IntKind.i64
                                                                                              (4 : Int)]))
                                                                                      (Q
                                                                                        (AV.tuple
                                                                                          [AV.nilSlice,
                                                                                            AV.int IntKind.i64
                                                                                              (0 : Int)]))) ∧
                                                                          True))) ∧
                                        True))))))) := by kernel_rfl

def readPre : (List Int) × Int × Int × Unit → Prop := fun (b, (n, (d, ()))) => bytesOk b
noncomputable def readRes : (List Int) × Int × Int × Unit → AV := fun (b, (n, (d, ()))) => .tuple [lst Ell (readV b n d).1, .int .i64 (readV b n d).2]
noncomputable def readK : CallC := valC readT readPre readRes

theorem readVal (b : List Int) (n : Int) (d : Int) (hp : readPre (b, (n, (d, ())))) : Val Try.prog 41 (readT.cells id (b, (n, (d, ())))) (readRes (b, (n, (d, ())))) := by
  refine Val.ofF mixed (KL_ok (cc_cons checkCc (cc_cons ofCc (cc_cons sgnCc (cc_cons clone32Cc (cc_nil)))))) (freesC rfl _) (readFn b n d) ?_
  have bad : n < 1 ∨ 4096 < n ∨ d < 1 ∨ 1024 < d → Tells (.tuple [.nilSlice, .int .i64 2]) (.tuple [lst Ell (readV b n d).1, .int .i64 (readV b n d).2]) := fun h => by
    rw [readV_bad h]; exact tells_tuple ⟨tells_nil _, tells_int rfl, trivial⟩
  rw [ifp_lt]; split
  · exact bad (by omega)
  rw [ifp_lt]; split
  · exact bad (by omega)
  rw [ifp_lt]; split
  · exact bad (by omega)
  rw [ifp_lt]; split
  · exact bad (by omega)
  obtain ⟨N, rfl⟩ := Int.eq_ofNat_of_zero_le (show 0 ≤ n by omega)
  obtain ⟨D, rfl⟩ := Int.eq_ofNat_of_zero_le (show 0 ≤ d by omega)
  have hND : N * D ≤ 4194304 := big_mul (by omega) (by omega)
  have h1 : 1 ≤ N * D := Nat.mul_pos (by omega) (by omega)
  have ev : readV b (N : Int) (D : Int) = if b.length ≠ N * D * 4 then ([], 4) else if checkV (readL b N D) = 0 then (readL b N D, 0) else ([], 4) := by
    rw [readV, if_neg (by omega)]; rfl
  rw [four_mul hND (by omega), ifp_ne]
  split
  · rename_i h
    have hl : b.length = N * D * 4 := by simp only [Int.ofNat_eq_natCast] at h; omega
    rw [if_neg (by omega)] at ev
    refine ⟨rdbOk, trivial, trivial, Or.inr ⟨by first | trivial | rfl, by first | trivial | rfl, by first | trivial | rfl, by first | trivial | rfl, b, Wk.refl _, rfl, ⟨0, N * D, rfl, rfl, hl, by omega, hND, hp, rfl⟩, fun _ x hr => ?_, fun _ _ hr => ?_, trivial⟩⟩
    · obtain ⟨_, _, ⟨r, _⟩, _⟩ := x
      have hr' : r = (List.range (b.length / 4)).map (num4 b) := hr
      have hrl : r.length = N * D := by rw [hr', List.length_map, List.length_range, hl, Nat.mul_div_cancel _ (by decide)]
      rw [ifp_lt, if_neg (by omega)]
      refine ⟨rdvOk, trivial, trivial, Or.inr ⟨by first | trivial | rfl, by first | trivial | rfl, by first | trivial | rfl, by first | trivial | rfl, r, wk_of_own, rfl, ⟨0, N, D, by rw [Nat.zero_mul]; rfl, rfl, hrl, by omega, by omega, by omega, by omega, rfl⟩, fun _ y hs => ?_, fun _ _ hs => ?_, trivial⟩⟩
      · obtain ⟨_, _, ⟨s, _⟩, _⟩ := y
        have hs' : s = readL b N D := by
          have : s = (List.range (r.length / D)).map (chunkAt D r) := hs
          rw [this, hr', read_len hl (by omega)]
        refine ⟨s, wk_of_own, trivial, ?_⟩
        rw [← hs'] at ev
        rw [ifp_ne]
        split
        · rename_i hc
          rw [if_pos hc] at ev
          show Tells _ (.tuple [lst Ell (readV b N D).1, .int .i64 (readV b N D).2])
          rw [ev]; exact tells_tuple ⟨tells_own, tells_int rfl, trivial⟩
        · rename_i hc
          rw [if_neg hc] at ev
          show Tells _ (.tuple [lst Ell (readV b N D).1, .int .i64 (readV b N D).2])
          rw [ev]; exact tells_tuple ⟨tells_nil _, tells_int rfl, trivial⟩
      · have hs' : r = [] := hs
        rw [hs'] at hrl; simp at hrl; omega
    · have hr' : b = [] := hr
      rw [hr'] at hl; simp at hl; omega
  · rename_i h
    rw [if_pos (by simp only [Int.ofNat_eq_natCast] at h; omega)] at ev
    show Tells _ (.tuple [lst Ell (readV b N D).1, .int .i64 (readV b N D).2])
    rw [ev]; exact tells_tuple ⟨tells_nil _, tells_int rfl, trivial⟩
theorem readCc : CcOk Try.prog 41 readK := val_ok rfl (fun ⟨b, ⟨n, ⟨d, _⟩⟩⟩ h => readVal b n d h)

def subV (a b : List Int) : List Int := List.zipWith (fun x y => x - y) a b
def subR (a b : List Int) : List Int × Int := if pairV a b = 0 then (if (subV a b).any beyondB = true then ([], 11) else (subV a b, 0)) else ([], pairV a b)

/-! The loop sub of wayfinder/vec.along. -/
abbrev subZ := ((List Int) × (List Int) × Unit × (Nat × Nat) × Int × Int × Unit) × ((List Int) × Unit)
noncomputable def subSl : Tel ((List Int) × (List Int) × Unit × (Nat × Nat) × Int × Int × Unit) := .cons 0 (.lst Ei32) (.cons 1 (.lst Ei32) (.cons 2 (.fnp 86 []) (.cons 9 (.slq 0 1) (.cons 21 (.int .i64) (.cons 22 (.int .i64) (.nil))))))
noncomputable def subBl : BTel ((List Int) × Unit) := .cons (.rows Ei32 21) (.nil)
noncomputable def subFs : List (LForm subZ) := [⟨_, _, subSl, subBl, fun x y => (x, y)⟩]
noncomputable def subAlts (R0 : subZ → ((Nat × Nat) × Unit) → ((List Int) × Unit) → Prop) : List (Alt subZ) := [⟨.exit 0, (Nat × Nat) × Unit, (List Int) × Unit, .cons 9 (.slq 0 1) (.nil), .cons (.rows Ei32 21) (.nil), R0⟩]

theorem subForm (a : List Int) (b : List Int) (out : Nat × Nat) (n : Int) (i : Int) (m : List Int) (N : subZ → Prop) (R0 : subZ → ((Nat × Nat) × Unit) → ((List Int) × Unit) → Prop) : ((runW Try.prog (KLS [] [] 21) 100).code none 85 42 (loopBody Try.prog 85 6) (mkT (subSl.av id (a, (b, ((), (out, (n, (i, ())))))))) [] (stL false (subBl.obs id (m, ()))) (postL 0 subFs (subAlts R0) ((a, (b, ((), (out, (n, (i, ())))))), (m, ())) N)) =
  (ifp (!leInt n i)
    (idxOk i a.length ∧
      ∃ (x : Int),
        nth ((natOf i).mul (1 : Nat)) (List.flatMap Ei32.f a) = some (AV.int IntKind.i32 x) ∧
          idxOk i b.length ∧
            ∃ (x_1 : Int),
              nth ((natOf i).mul (1 : Nat)) (List.flatMap Ei32.f b) = some (AV.int IntKind.i32 x_1) ∧
                idxOk i out.fst ∧
                  (Nat.add (0 : Nat) ((natOf i).mul (1 : Nat))).add (1 : Nat) ≤ (List.flatMap Ei32.f m).length ∧
                    True ∧
                      True ∧
                        True ∧
                          ∃ (l : List Int),
                            Wk (AV.vs (List.flatMap Ei32.f a) a.length a.length false none (1 : Nat)) (lst Ei32 l) ∧
                              ∃ (l_1 : List Int),
                                Wk (AV.vs (List.flatMap Ei32.f b) b.length b.length false none (1 : Nat))
                                    (lst Ei32 l_1) ∧
                                  ∃ (l_2 : List Int),
                                    setAt (Nat.add (0 : Nat) ((natOf i).mul (1 : Nat)))
                                          [AV.int IntKind.i32 (wrapF IntKind.i32 (x.sub x_1))] (List.flatMap Ei32.f m) =
                                        List.flatMap Ei32.f l_2 ∧
                                      true = true ∧
                                        N
                                          ((l, l_1, (), (out.fst, out.snd), n, wrapF IntKind.i64 (i.add (1 : Int)), ()),
                                            l_2, ()))
    (True ∧
      ∃ (l : List Int),
        List.flatMap Ei32.f m = List.flatMap Ei32.f l ∧
          true = true ∧ R0 ((a, b, (), out, n, i, ()), m, ()) ((out.fst, out.snd), ()) (l, ()))) := by kernel_rfl

def subInv : subZ → Prop := fun ((a, (b, ((), (out, (n, (i, ())))))), (m, ())) => ∃ k : Nat, i = k ∧ n = a.length ∧ k ≤ a.length ∧ a.length ≤ 1024 ∧ a.length = b.length ∧ wide a ∧ wide b ∧ out = (a.length, a.length) ∧ m.length = a.length ∧ m.take k = (subV a b).take k
def subMu : subZ → Nat := fun ((a, (b, ((), (out, (n, (i, ())))))), (m, ())) => a.length - i.toNat
def subR0 : subZ → ((Nat × Nat) × Unit) → ((List Int) × Unit) → Prop := fun ((a, (b, ((), (out, (n, (i, ())))))), (m, ())) (r, _) (m2, _) => r = (a.length, a.length) ∧ m2 = subV a b
noncomputable def subC : LoopC := loopC 0 subFs (subAlts subR0) subInv

theorem subStep : stepsOk Try.prog (KLS [] [] 21) 100 85 42 (loopBody Try.prog 85 6) 0 false subFs (subAlts subR0) subInv subMu ⟨_, _, subSl, subBl, fun x y => (x, y)⟩ := by
  intro x y hz
  obtain ⟨a, b, _, out, n, i, _⟩ := x
  obtain ⟨m, _⟩ := y
  refine (subForm a b out n i m _ _).mpr ?_
  obtain ⟨k, rfl, rfl, hk, hl, hab, wa, wb, rfl, hm, ht⟩ := hz
  rw [ifp_lt]
  simp only [natOf_nat]
  have hs : (subV a b).length = a.length := by simp [subV, hab]
  split
  · rename_i h
    have hkl : k < a.length := by simpa using h
    have hkb : k < b.length := by omega
    have h1 := wa _ (List.getElem_mem hkl)
    have h2 := wb _ (List.getElem_mem hkb)
    refine ⟨idx_ok hkl, _, nth_int hkl, idx_ok hkb, _, nth_int hkb, idx_ok hkl, ?_, trivial, trivial, trivial, a, Wk.refl _, b, Wk.refl _, m.set k (a[k] - b[k]), ?_, by first | trivial | rfl, ?_⟩
    · rw [Enc.flen Ei32 m]; simp only [Nat.add_eq, Nat.mul_eq]; show _ ≤ m.length * 1; omega
    · rw [show Nat.add 0 (Nat.mul k 1) = k by simp, w32 (by show _ ≤ a[k] - b[k]; omega) (by show a[k] - b[k] < _; omega)]
      exact setAt_enc (E := Ei32) rfl (by omega)
    · rw [wsucc (by omega)]
      refine ⟨⟨k + 1, rfl, rfl, hkl, hl, hab, wa, wb, rfl, by simp [hm], ?_⟩, by show a.length - (k + 1) < a.length - k; omega, fun _ _ h => h, trivial⟩
      rw [← List.take_append_getElem (show k < (m.set k (a[k] - b[k])).length by simp; omega), List.getElem_set_self, List.take_set_of_le (Nat.le_refl k), ht, ← List.take_append_getElem (show k < (subV a b).length by omega)]
      simp [subV]
  · rename_i h
    have hkl : ¬ k < a.length := by simpa using h
    refine ⟨trivial, m, by first | trivial | rfl, by first | trivial | rfl, rfl, ?_⟩
    rw [List.take_of_length_le (by omega), List.take_of_length_le (by omega)] at ht
    exact ht
theorem subOk : LoopOk Try.prog 85 42 (.loop (loopBody Try.prog 85 6)) subC := loop_ok subMu mixed (KLS_ok (cc_nil)) rfl (steps_cons subStep (steps_nil))

/-! The loop idxr of slices.IndexFunc[[]int32,int32]. -/
abbrev idxrZ := ((Nat × Nat) × Unit × Int × Int × Unit) × ((List Int) × Unit)
noncomputable def idxrSl : Tel ((Nat × Nat) × Unit × Int × Int × Unit) := .cons 0 (.slq 0 1) (.cons 1 (.fnp 91 []) (.cons 7 (.int .i64) (.cons 8 (.int .i64) (.nil))))
noncomputable def idxrBl : BTel ((List Int) × Unit) := .cons (.rows Ei32 21) (.nil)
noncomputable def idxrFs : List (LForm idxrZ) := [⟨_, _, idxrSl, idxrBl, fun x y => (x, y)⟩]
noncomputable def idxrAlts (R0 : idxrZ → (Unit) → ((List Int) × Unit) → Prop) (R1 : idxrZ → (Int × Unit) → ((List Int) × Unit) → Prop) : List (Alt idxrZ) := [⟨.exit 0, Unit, (List Int) × Unit, .nil, .cons (.rows Ei32 21) (.nil), R0⟩, ⟨.ret, Int × Unit, (List Int) × Unit, .cons 4 (.int .i64) (.nil), .cons (.rows Ei32 21) (.nil), R1⟩]

theorem idxrForm (l : Nat × Nat) (n : Int) (i : Int) (m : List Int) (N : idxrZ → Prop) (R0 : idxrZ → (Unit) → ((List Int) × Unit) → Prop) (R1 : idxrZ → (Int × Unit) → ((List Int) × Unit) → Prop) : ((runW Try.prog (KLS [] [] 21) 100).code none 107 19 (loopBody Try.prog 107 2) (mkT (idxrSl.av id (l, ((), (n, (i, ())))))) [] (stL false (idxrBl.obs id (m, ()))) (postL 1 idxrFs (idxrAlts R0 R1) ((l, ((), (n, (i, ())))), (m, ())) N)) =
  (ifp (!leInt n i)
    (idxOk i l.fst ∧
      ∃ (x : Int),
        nth (Nat.add (0 : Nat) ((natOf i).mul (1 : Nat))) (List.flatMap Ei32.f m) = some (AV.int IntKind.i32 x) ∧
          ifp (!leInt (-131072 : Int) x)
            (True ∧
              ∃ (l_1 : List Int),
                List.flatMap Ei32.f m = List.flatMap Ei32.f l_1 ∧
                  true = true ∧ R1 ((l, (), n, i, ()), m, ()) (i, ()) (l_1, ()))
            (ifp (!leInt x (131072 : Int))
              (True ∧
                ∃ (l_1 : List Int),
                  List.flatMap Ei32.f m = List.flatMap Ei32.f l_1 ∧
                    true = true ∧ R1 ((l, (), n, i, ()), m, ()) (i, ()) (l_1, ()))
              (True ∧
                ∃ (l_1 : List Int),
                  List.flatMap Ei32.f m = List.flatMap Ei32.f l_1 ∧
                    true = true ∧ N (((l.fst, l.snd), (), n, wrapF IntKind.i64 (i.add (1 : Int)), ()), l_1, ()))))
    (True ∧
      ∃ (l_1 : List Int),
        List.flatMap Ei32.f m = List.flatMap Ei32.f l_1 ∧ true = true ∧ R0 ((l, (), n, i, ()), m, ()) () (l_1, ()))) := by kernel_rfl

def idxrInv : idxrZ → Prop := fun ((l, ((), (n, (i, ())))), (m, ())) => ∃ k : Nat, i = k ∧ n = m.length ∧ k ≤ m.length ∧ m.length < 9223372036854775807 ∧ l = (m.length, m.length) ∧ (m.take k).any beyondB = false
def idxrMu : idxrZ → Nat := fun ((l, ((), (n, (i, ())))), (m, ())) => m.length - i.toNat
def idxrR0 : idxrZ → (Unit) → ((List Int) × Unit) → Prop := fun ((l, ((), (n, (i, ())))), (m, ())) _ (m2, _) => m2 = m ∧ m.any beyondB = false
def idxrR1 : idxrZ → (Int × Unit) → ((List Int) × Unit) → Prop := fun ((l, ((), (n, (i, ())))), (m, ())) (r, _) (m2, _) => m2 = m ∧ 0 ≤ r ∧ m.any beyondB = true
noncomputable def idxrC : LoopC := loopC 1 idxrFs (idxrAlts idxrR0 idxrR1) idxrInv

theorem idxrStep : stepsOk Try.prog (KLS [] [] 21) 100 107 19 (loopBody Try.prog 107 2) 1 false idxrFs (idxrAlts idxrR0 idxrR1) idxrInv idxrMu ⟨_, _, idxrSl, idxrBl, fun x y => (x, y)⟩ := by
  intro x y hz
  obtain ⟨l, _, n, i, _⟩ := x
  obtain ⟨m, _⟩ := y
  refine (idxrForm l n i m _ _ _).mpr ?_
  obtain ⟨k, rfl, rfl, hk, hl, rfl, ht⟩ := hz
  rw [ifp_lt]
  simp only [natOf_nat]
  split
  · rename_i h
    have hkl : k < m.length := by simpa using h
    refine ⟨idx_ok hkl, m[k], by rw [show Nat.add 0 (Nat.mul k 1) = Nat.mul k 1 by simp]; exact nth_int hkl, ?_⟩
    rw [ifp_lt, ifp_lt]
    split
    · rename_i h2
      exact ⟨trivial, m, by first | trivial | rfl, by first | trivial | rfl, rfl, by omega, any_of_get hkl (by simp [beyondB, h2])⟩
    · rename_i h2
      split
      · rename_i h3
        exact ⟨trivial, m, by first | trivial | rfl, by first | trivial | rfl, rfl, by omega, any_of_get hkl (by simp [beyondB, h3])⟩
      · rename_i h3
        refine ⟨trivial, m, by first | trivial | rfl, by first | trivial | rfl, ?_⟩
        rw [wsucc (by omega)]
        refine ⟨⟨k + 1, rfl, rfl, hkl, hl, rfl, ?_⟩, ?_, fun _ _ h => h, fun _ _ h => h, trivial⟩
        · rw [any_take_succ hkl, ht]; simp [beyondB]; omega
        · show m.length - (k + 1) < m.length - k; omega
  · rename_i h
    refine ⟨trivial, m, by first | trivial | rfl, by first | trivial | rfl, rfl, ?_⟩
    rw [take_all (by simpa using h)] at ht; exact ht
theorem idxrOk : LoopOk Try.prog 107 19 (.loop (loopBody Try.prog 107 2)) idxrC := loop_ok idxrMu mixed (KLS_ok (cc_nil)) rfl (steps_cons idxrStep (steps_nil))

/-! wayfinder/vec.Sub -/
noncomputable def subT : Tel ((List Int) × (List Int) × Unit) := .cons 0 (.lst Ei32) (.cons 1 (.lst Ei32) (.nil))

theorem subFn (a : List Int) (b : List Int) (Q : AV → Prop) : (callW Try.prog (runW Try.prog (KLS [(106, pairK)] [(85, [(6, subC)]), (107, [(2, idxrC)])] 21) 200) 61 (subT.cells id (a, (b, ()))) (stE false) (fun x st => frzW st x Q)) =
  (∃ (l : List Int),
    Wk (AV.vs (List.flatMap Ei32.f a) a.length a.length false none (1 : Nat)) (lst Ei32 l) ∧
      ∃ (l_1 : List Int),
        Wk (AV.vs (List.flatMap Ei32.f b) b.length b.length false none (1 : Nat)) (lst Ei32 l_1) ∧
          pairPre (l, l_1, ()) ∧
            ifp (!eqInt (pairV l l_1) (0 : Int)) (Q (AV.tuple [AV.nilSlice, AV.int IntKind.i64 (pairV l l_1)]))
              ((0 : Int) ≤ Int.ofNat a.length ∧
                Int.ofNat a.length ≤ Int.ofNat a.length ∧
                  Int.ofNat a.length ≤ (16777216 : Int) ∧
                    roomy (natOf (Int.ofNat a.length)) (4 : Nat) = true ∧
                      LoopOk Try.prog (85 : Nat) (42 : Nat) (loopBody Try.prog (85 : Nat) (6 : Nat)).loop subC ∧
                        True ∧
                          True ∧
                            ∃ (l : List Int),
                              Wk (AV.vs (List.flatMap Ei32.f a) a.length a.length false none (1 : Nat)) (lst Ei32 l) ∧
                                ∃ (l_2 : List Int),
                                  Wk (AV.vs (List.flatMap Ei32.f b) b.length b.length false none (1 : Nat))
                                      (lst Ei32 l_2) ∧
                                    ∃ (l_3 : List Int),
                                      repl (natOf (Int.ofNat a.length)) [AV.int IntKind.i32 (0 : Int)] =
                                          List.flatMap Ei32.f l_3 ∧
                                        true = true ∧
                                          subInv
                                              ((l, l_2, (), (natOf (Int.ofNat a.length), natOf (Int.ofNat a.length)),
                                                  Int.ofNat a.length, (0 : Int), ()),
                                                l_3, ()) ∧
                                            (∀ (c : (Nat × Nat) × Unit) (d : List Int × Unit),
                                                subR0
                                                    ((l, l_2, (),
                                                        (natOf (Int.ofNat a.length), natOf (Int.ofNat a.length)),
                                                        Int.ofNat a.length, (0 : Int), ()),
                                                      l_3, ())
                                                    c d →
                                                  LoopOk Try.prog (107 : Nat) (19 : Nat)
                                                      (loopBody Try.prog (107 : Nat) (2 : Nat)).loop idxrC ∧
                                                    True ∧
                                                      True ∧
                                                        ∃ (l : List Int),
                                                          List.flatMap Ei32.f d.1 = List.flatMap Ei32.f l ∧
                                                            true = true ∧
                                                              idxrInv
                                                                  (((c.1.fst, c.1.snd), (), Int.ofNat c.1.fst,
                                                                      (0 : Int), ()),
                                                                    l, ()) ∧
                                                                (∀ (c_1 : PUnit) (d : List Int × Unit),
                                                                    idxrR0
                                                                        (((c.1.fst, c.1.snd), (), Int.ofNat c.1.fst,
                                                                            (0 : Int), ()),
                                                                          l, ())
                                                                        c_1 d →
                                                                      Nat.add (0 : Nat) (c.1.fst.mul (1 : Nat)) ≤
                                                                          (List.flatMap Ei32.f d.1).length ∧
                                                                        Q
                                                                          (AV.tuple
                                                                            [AV.vs
                                                                                (List.take (c.1.fst.mul (1 : Nat))
                                                                                  (List.drop (0 : Nat)
                                                                                    (List.flatMap Ei32.f d.1)))
                                                                                c.1.fst c.1.snd false none (1 : Nat),
                                                                              AV.int IntKind.i64 (0 : Int)])) ∧
                                                                  (∀ (c_1 : Int × Unit) (d : List Int × Unit),
                                                                      idxrR1
                                                                          (((c.1.fst, c.1.snd), (), Int.ofNat c.1.fst,
                                                                              (0 : Int), ()),
                                                                            l, ())
                                                                          c_1 d →
                                                                        ifp (leInt (0 : Int) c_1.1)
                                                                          (Q
                                                                            (AV.tuple
                                                                              [AV.nilSlice,
                                                                                AV.int IntKind.i64 (11 : Int)]))
                                                                          (Nat.add (0 : Nat) (c.1.fst.mul (1 : Nat)) ≤
                                                                              (List.flatMap Ei32.f d.1).length ∧
                                                                            Q
                                                                              (AV.tuple
                                                                                [AV.vs
                                                                                    (List.take (c.1.fst.mul (1 : Nat))
                                                                                      (List.drop (0 : Nat)
                                                                                        (List.flatMap Ei32.f d.1)))
                                                                                    c.1.fst c.1.snd false none
                                                                                    (1 : Nat),
                                                                                  AV.int IntKind.i64 (0 : Int)]))) ∧
                                                                    True) ∧
                                              True)) := by kernel_rfl

def subPre : (List Int) × (List Int) × Unit → Prop := fun (a, (b, ())) => True
noncomputable def subRes : (List Int) × (List Int) × Unit → AV := fun (a, (b, ())) => .tuple [lst Ei32 (subR a b).1, .int .i64 (subR a b).2]
noncomputable def subK : CallC := valC subT subPre subRes

theorem subVal (a : List Int) (b : List Int) (hp : subPre (a, (b, ()))) : Val Try.prog 61 (subT.cells id (a, (b, ()))) (subRes (a, (b, ()))) := by
  refine Val.ofF mixed (KLS_ok (cc_cons pairCc (cc_nil))) (freesC rfl _) (subFn a b) ?_
  refine ⟨a, Wk.refl _, b, Wk.refl _, trivial, ?_⟩
  rw [ifp_ne]
  split
  · rename_i h
    obtain ⟨ca, cb, hab⟩ := pair_zero h
    obtain ⟨a1, a2, wa⟩ := cw_zero ca
    obtain ⟨_, _, wb⟩ := cw_zero cb
    refine ⟨by show (0 : Int) ≤ (a.length : Int); omega, Int.le_refl _, by show (a.length : Int) ≤ _; omega, roomy_small (by show a.length ≤ _; omega) (by decide), subOk, trivial, trivial, a, Wk.refl _, b, Wk.refl _, List.replicate a.length 0, repl_enc (E := Ei32) _, by first | trivial | rfl, ⟨0, rfl, rfl, by omega, a2, hab, wa, wb, rfl, by simp, by simp⟩, fun c d hr => ?_, trivial⟩
    obtain ⟨r, _⟩ := c
    obtain ⟨m, _⟩ := d
    obtain ⟨rfl, rfl⟩ := hr
    have hm : (subV a b).length = a.length := by simp [subV, hab]
    refine ⟨idxrOk, trivial, trivial, subV a b, rfl, by first | trivial | rfl, ⟨0, rfl, by show (a.length : Int) = _; rw [hm], by omega, by omega, by show (a.length, a.length) = _; rw [hm], by simp⟩, fun _ d hr => ?_, fun x d hr => ?_, trivial⟩
    · obtain ⟨m, _⟩ := d
      obtain ⟨rfl, hb⟩ := hr
      have e : subR a b = (subV a b, 0) := by rw [subR, if_pos h, if_neg (by rw [hb]; decide)]
      have hf : (List.flatMap Ei32.f (subV a b)).length = a.length := by rw [Enc.flen Ei32]; show _ * 1 = _; omega
      refine ⟨by rw [hf]; simp, ?_⟩
      show Tells _ (.tuple [lst Ei32 (subR a b).1, .int .i64 (subR a b).2])
      rw [e]
      exact tells_tuple ⟨tells_lst ⟨by show List.take _ _ = _; rw [List.drop_zero, List.take_of_length_le (by rw [hf]; simp)], hm.symm, rfl⟩, tells_int rfl, trivial⟩
    · obtain ⟨r, _⟩ := x
      obtain ⟨m, _⟩ := d
      obtain ⟨rfl, h0, hb⟩ := hr
      rw [ifp_le, if_pos h0]
      have e : subR a b = ([], 11) := by rw [subR, if_pos h, if_pos hb]
      show Tells _ (.tuple [lst Ei32 (subR a b).1, .int .i64 (subR a b).2])
      rw [e]
      exact tells_tuple ⟨tells_nil _, tells_int rfl, trivial⟩
  · rename_i h
    have e : subR a b = ([], pairV a b) := by rw [subR, if_neg h]
    show Tells _ (.tuple [lst Ei32 (subR a b).1, .int .i64 (subR a b).2])
    rw [e]
    exact tells_tuple ⟨tells_nil _, tells_int rfl, trivial⟩
theorem subCc : CcOk Try.prog 61 subK := val_ok rfl (fun ⟨a, ⟨b, _⟩⟩ h => subVal a b h)

def residV (c : List (List Int)) (v : List Int) : Int × List Int × Int :=
  if bothV c v = 0 then
    (if (subR v (c.getD (nearV c v).1.toNat [])).2 = 0 then ((nearV c v).1, (subR v (c.getD (nearV c v).1.toNat [])).1, 0) else (0, [], (subR v (c.getD (nearV c v).1.toNat [])).2))
  else (0, [], bothV c v)
theorem nearGo_idx (v : List Int) : ∀ (c : List (List Int)) (i : Int) (s : Int × Int), 0 ≤ i → 0 ≤ s.1 → (s.1 < i ∨ s.2 < 0 ∧ c ≠ []) → 0 ≤ (nearGo v c i s).1 ∧ (nearGo v c i s).1 < i + c.length
  | [], i, s, h0, hs, h => by
    rcases h with h | h
    · show 0 ≤ s.1 ∧ s.1 < i + 0; omega
    · exact absurd rfl h.2
  | x :: c, i, s, h0, hs, h => by
    rw [nearGo]
    have hh := nearGo_idx v c (i + 1) (if s.2 < 0 ∨ sqs x v < s.2 then (i, sqs x v) else s) (by omega) (by split; exact h0; exact hs)
      (by left; split
          · show i < i + 1; omega
          · rename_i hn; rcases h with h | h
            · show s.1 < i + 1; omega
            · exact absurd (Or.inl h.1) hn)
    simp only [List.length_cons]; omega
theorem nearV_idx {c : List (List Int)} {v : List Int} (h : bothV c v = 0) : 0 ≤ (nearV c v).1 ∧ (nearV c v).1 < c.length := by
  obtain ⟨a1, _, _⟩ := bothV_inv h
  obtain ⟨l1, _, _⟩ := checkV_inv a1
  rw [nearV, if_pos h]
  have := nearGo_idx v c 0 (0, -1) (by decide) (by decide) (Or.inr ⟨by decide, by intro e; rw [e] at l1; simp at l1⟩)
  omega

/-! wayfinder/cell.Residual -/
noncomputable def residT : Tel ((List (List Int)) × (List Int) × Unit) := .cons 0 (.lst Ell) (.cons 1 (.lst Ei32) (.nil))

theorem residFn (c : List (List Int)) (v : List Int) (Q : AV → Prop) : (callW Try.prog (runW Try.prog (KL [(29, nearestK), (61, subK)] []) 200) 39 (residT.cells id (c, (v, ()))) (stE false) (fun x st => frzW st x Q)) =
  (∃ (l : List (List Int)),
    Wk (AV.vs (List.flatMap Ell.f c) c.length c.length false none (1 : Nat)) (lst Ell l) ∧
      ∃ (l_1 : List Int),
        Wk (AV.vs (List.flatMap Ei32.f v) v.length v.length false none (1 : Nat)) (lst Ei32 l_1) ∧
          nearestPre (l, l_1, ()) ∧
            ifp (!eqInt (bothV l l_1) (0 : Int))
              (Q (AV.tuple [AV.int IntKind.i64 (0 : Int), AV.nilSlice, AV.int IntKind.i64 (bothV l l_1)]))
              (idxOk (nearV l l_1).fst c.length ∧
                ∃ (l' : List AV),
                  ∃ (n : Nat),
                    ∃ (c_1 : Nat),
                      ∃ (x : Bool),
                        ∃ (w : Option Nat),
                          ∃ (e : Nat),
                            nth ((natOf (nearV l l_1).fst).mul (1 : Nat)) (List.flatMap Ell.f c) =
                                some (AV.vs l' n c_1 x w e) ∧
                              ∃ (l_2 : List Int),
                                Wk (AV.vs (List.flatMap Ei32.f v) v.length v.length false none (1 : Nat))
                                    (lst Ei32 l_2) ∧
                                  ∃ (l_3 : List Int),
                                    Wk (AV.vs l' n c_1 x w e) (lst Ei32 l_3) ∧
                                      subPre (l_2, l_3, ()) ∧
                                        ifp (!eqInt (subR l_2 l_3).snd (0 : Int))
                                          (Q
                                            (AV.tuple
                                              [AV.int IntKind.i64 (0 : Int), AV.nilSlice,
                                                AV.int IntKind.i64 (subR l_2 l_3).snd]))
                                          (Q
                                            (AV.tuple
                                              [AV.int IntKind.i64 (nearV l l_1).fst,
                                                AV.vs (List.flatMap Ei32.f (subR l_2 l_3).fst) (subR l_2 l_3).fst.length
                                                  (subR l_2 l_3).fst.length false none (1 : Nat),
                                                AV.int IntKind.i64 (0 : Int)])))) := by kernel_rfl

def residPre : (List (List Int)) × (List Int) × Unit → Prop := fun (c, (v, ())) => True
noncomputable def residRes : (List (List Int)) × (List Int) × Unit → AV := fun (c, (v, ())) => .tuple [.int .i64 (residV c v).1, lst Ei32 (residV c v).2.1, .int .i64 (residV c v).2.2]
noncomputable def residK : CallC := valC residT residPre residRes

theorem residVal (c : List (List Int)) (v : List Int) (hp : residPre (c, (v, ()))) : Val Try.prog 39 (residT.cells id (c, (v, ()))) (residRes (c, (v, ()))) := by
  refine Val.ofF mixed (KL_ok (cc_cons nearestCc (cc_cons subCc (cc_nil)))) (freesC rfl _) (residFn c v) ?_
  refine ⟨c, Wk.refl _, v, Wk.refl _, trivial, ?_⟩
  rw [ifp_ne]
  split
  · rename_i h
    obtain ⟨i0, i1⟩ := nearV_idx h
    obtain ⟨k, hk⟩ := Int.eq_ofNat_of_zero_le i0
    have hkl : k < c.length := by omega
    have e : residV c v = if (subR v c[k]).2 = 0 then ((k : Int), (subR v c[k]).1, 0) else (0, [], (subR v c[k]).2) := by
      rw [residV, if_pos h, hk, show c.getD ((k : Int).toNat) [] = c[k] by show c.getD k [] = _; simp [hkl]]
    refine ⟨by rw [hk]; exact idx_ok hkl, _, _, _, _, _, _, by rw [hk]; exact nth_lst hkl, v, Wk.refl _, c[k], Wk.refl _, trivial, ?_⟩
    rw [ifp_ne]
    show ite _ _ _
    split
    · rename_i h2
      rw [if_pos h2] at e
      show Tells _ (.tuple [.int .i64 (residV c v).1, lst Ei32 (residV c v).2.1, .int .i64 (residV c v).2.2])
      rw [e, hk]
      exact tells_tuple ⟨tells_int rfl, tells_lst ⟨rfl, rfl, rfl⟩, tells_int rfl, trivial⟩
    · rename_i h2
      rw [if_neg h2] at e
      show Tells _ (.tuple [.int .i64 (residV c v).1, lst Ei32 (residV c v).2.1, .int .i64 (residV c v).2.2])
      rw [e]
      exact tells_tuple ⟨tells_int rfl, tells_nil _, tells_int rfl, trivial⟩
  · rename_i h
    have e : residV c v = (0, [], bothV c v) := by rw [residV, if_neg h]
    show Tells _ (.tuple [.int .i64 (residV c v).1, lst Ei32 (residV c v).2.1, .int .i64 (residV c v).2.2])
    rw [e]
    exact tells_tuple ⟨tells_int rfl, tells_nil _, tells_int rfl, trivial⟩
theorem residCc : CcOk Try.prog 39 residK := val_ok rfl (fun ⟨c, ⟨v, _⟩⟩ h => residVal c v h)

theorem ofV_put4 (x : Int) : ofV (putV (u64 x) 4) = x % 4294967296 := by
  have h : putV (u64 x) 4 = [u64 x / 256 ^ 0 % 256, u64 x / 256 ^ 1 % 256, u64 x / 256 ^ 2 % 256, u64 x / 256 ^ 3 % 256] := rfl
  rw [h]
  have e1 : (256 : Int) ^ 0 = 1 := rfl
  have e2 : (256 : Int) ^ 1 = 256 := rfl
  have e3 : (256 : Int) ^ 2 = 65536 := rfl
  have e4 : (256 : Int) ^ 3 = 16777216 := rfl
  simp only [ofV, e1, e2, e3, e4, u64]
  omega
theorem ofB_put4 (x : Int) : ofB (putV (u64 x) 4) = x % 4294967296 := by
  rw [ofB, List.take_of_length_le (by rw [putV_len]; decide), ofV_put4]
theorem s32_back {x : Int} (h : -2147483648 ≤ x ∧ x < 2147483648) : s32 (x % 4294967296) = x := by
  unfold s32; split <;> omega
theorem puts_drop : ∀ (l : List Int) (k : Nat), (l.flatMap fun x => putV (u64 x) 4).drop (k * 4) = (l.drop k).flatMap fun x => putV (u64 x) 4
  | [], k => by simp
  | a :: l, 0 => by simp
  | a :: l, k + 1 => by
    rw [List.flatMap_cons, List.drop_succ_cons, ← puts_drop l k, show (k + 1) * 4 = 4 + k * 4 by omega, ← List.drop_drop]
    rw [List.drop_left' (by rw [putV_len])]
theorem puts_chunk {l : List Int} {k : Nat} (h : k < l.length) : chunkAt 4 (l.flatMap fun x => putV (u64 x) 4) k = putV (u64 l[k]) 4 := by
  rw [chunkAt, puts_drop, drop_get h, List.flatMap_cons, List.take_left' (by rw [putV_len])]
theorem puts_num {l : List Int} (h : ∀ x ∈ l, -2147483648 ≤ x ∧ x < 2147483648) : (List.range l.length).map (num4 (l.flatMap fun x => putV (u64 x) 4)) = l := by
  refine List.ext_getElem (by simp) fun i h1 h2 => ?_
  simp only [List.getElem_map, List.getElem_range, num4]
  rw [puts_chunk h2, ofB_put4, s32_back (h _ (List.getElem_mem h2))]
theorem flat_len {c : List (List Int)} {d : Nat} (h : ∀ x ∈ c, x.length = d) : c.flatten.length = c.length * d := by
  induction c with
  | nil => simp
  | cons a c ih => rw [List.flatten_cons, List.length_append, ih (fun x hx => h x (by simp [hx])), h a (by simp), List.length_cons, Nat.succ_mul]; omega
theorem flat_drop {d : Nat} : ∀ {c : List (List Int)} (h : ∀ x ∈ c, x.length = d) (k : Nat), c.flatten.drop (k * d) = (c.drop k).flatten
  | [], h, k => by simp
  | a :: c, h, 0 => by simp
  | a :: c, h, k + 1 => by
    rw [List.flatten_cons, List.drop_succ_cons, ← flat_drop (fun x hx => h x (by simp [hx])) k, show (k + 1) * d = d + k * d by rw [Nat.succ_mul]; omega, ← List.drop_drop]
    rw [List.drop_left' (h a (by simp))]
theorem flat_chunks {c : List (List Int)} {d : Nat} (h : ∀ x ∈ c, x.length = d) : (List.range c.length).map (chunkAt d c.flatten) = c := by
  refine List.ext_getElem (by simp) fun i h1 h2 => ?_
  simp only [List.getElem_map, List.getElem_range, chunkAt]
  rw [flat_drop h, drop_get h2, List.flatten_cons, List.take_left' (h _ (List.getElem_mem h2))]
theorem bytesV_ok (c : List (List Int)) : bytesOk (bytesV c) := by
  intro x hx
  unfold bytesV at hx
  split at hx
  · obtain ⟨y, _, hy⟩ := List.mem_flatMap.1 hx
    simp only [putV, List.mem_map] at hy
    obtain ⟨i, _, rfl⟩ := hy
    omega
  · simp at hx
theorem dim_of {c : List (List Int)} (h : checkV c = 0) : ∃ d : Nat, (∀ x ∈ c, x.length = d) ∧ 1 ≤ d ∧ d ≤ 1024 ∧ 1 ≤ c.length ∧ c.length ≤ 4096 ∧ (c.headD []).length = d := by
  obtain ⟨h1, h2, h3, h4⟩ := checkV_inv h
  cases c with
  | nil => simp at h1
  | cons a c =>
    have := cw_zero (h3 a (by simp))
    exact ⟨a.length, fun x hx => h4 x hx, this.1, this.2.1, h1, h2, rfl⟩
theorem bytesV_len {c : List (List Int)} (h : checkV c = 0) {d : Nat} (hd : ∀ x ∈ c, x.length = d) : (bytesV c).length = c.length * d * 4 := by
  rw [bytesV, if_pos h, puts_len, flat_len hd]
theorem read_back {c : List (List Int)} (h : checkV c = 0) {d : Nat} (hd : ∀ x ∈ c, x.length = d) : readL (bytesV c) c.length d = c := by
  obtain ⟨_, _, h3, _⟩ := checkV_inv h
  have e : bytesV c = c.flatten.flatMap fun x => putV (u64 x) 4 := by rw [bytesV, if_pos h]
  rw [readL, e, ← flat_len hd, puts_num (wide_flat h3), flat_chunks hd]
theorem read_whole {c : List (List Int)} (h : checkV c = 0) {d : Nat} (hd : ∀ x ∈ c, x.length = d) (h1 : 1 ≤ d) (h2 : d ≤ 1024) : readV (bytesV c) (c.length : Nat) (d : Nat) = (c, 0) := by
  obtain ⟨a1, a2, _, _⟩ := checkV_inv h
  rw [readV, if_neg (by omega), if_neg (by rw [bytesV_len h hd]; simp)]
  show (if checkV (readL (bytesV c) c.length d) = 0 then _ else _) = _
  rw [read_back h hd, if_pos h]
  show (readL (bytesV c) c.length d, (0 : Int)) = _
  rw [read_back h hd]
theorem read_less {b : List Int} {n d : Nat} (h : 1 ≤ n ∧ n ≤ 4096 ∧ 1 ≤ d ∧ d ≤ 1024) (hl : b.length ≠ n * d * 4) : readV b (n : Nat) (d : Nat) = ([], 4) := by
  rw [readV, if_neg (by omega)]
  show (if b.length ≠ n * d * 4 then _ else _) = _
  rw [if_pos hl]

/-! The loop back of wayfinder/wayfinderlaw13.CellBack. -/
abbrev backZ := ((List (List Int)) × (List Int) × Int × (List Int) × Int × Unit) × (Unit)
noncomputable def backSl : Tel ((List (List Int)) × (List Int) × Int × (List Int) × Int × Unit) := .cons 0 (.lst Ell) (.cons 1 (.lst Ei32) (.cons 12 (.int .i64) (.cons 13 (.lst Ei32) (.cons 14 (.int .i64) (.nil)))))
noncomputable def backBl : BTel (Unit) := .nil
noncomputable def backFs : List (LForm backZ) := [⟨_, _, backSl, backBl, fun x y => (x, y)⟩]
noncomputable def backAlts (R0 : backZ → (Unit) → (Unit) → Prop) : List (Alt backZ) := [⟨.exit 0, Unit, Unit, .nil, .nil, R0⟩]

theorem backForm (c : List (List Int)) (v : List Int) (n : Int) (r : List Int) (i : Int) (N : backZ → Prop) (R0 : backZ → (Unit) → (Unit) → Prop) : ((runW Try.prog (KL [] []) 100).code none 9 138 (loopBody Try.prog 9 20) (mkT (backSl.av id (c, (v, (n, (r, (i, ()))))))) [] (stL false (backBl.obs id ())) (postL 0 backFs (backAlts R0) ((c, (v, (n, (r, (i, ()))))), ()) N)) =
  (ifp (!leInt (Int.ofNat r.length) i)
    (idxOk i r.length ∧
      ∃ (x : Int),
        nth ((natOf i).mul (1 : Nat)) (List.flatMap Ei32.f r) = some (AV.int IntKind.i32 x) ∧
          idxOk n c.length ∧
            ∃ (l' : List AV),
              ∃ (n_1 : Nat),
                ∃ (c_1 : Nat),
                  ∃ (x_1 : Bool),
                    ∃ (w : Option Nat),
                      ∃ (e : Nat),
                        nth ((natOf n).mul (1 : Nat)) (List.flatMap Ell.f c) = some (AV.vs l' n_1 c_1 x_1 w e) ∧
                          ifp (Nat.beq (1 : Nat) e)
                            (idxOk i n_1 ∧
                              ∃ (x_2 : Int),
                                nth ((natOf i).mul (1 : Nat)) l' = some (AV.int IntKind.i32 x_2) ∧
                                  idxOk i v.length ∧
                                    ∃ (x_3 : Int),
                                      nth ((natOf i).mul (1 : Nat)) (List.flatMap Ei32.f v) =
                                          some (AV.int IntKind.i32 x_3) ∧
                                        ifp (!eqInt (wrapF IntKind.i32 (x.add x_2)) x_3)
                                          (True ∧ True ∧ True ∧ True ∧ False)
                                          (True ∧
                                            True ∧
                                              True ∧
                                                True ∧
                                                  True ∧
                                                    ∃ (l : List (List Int)),
                                                      Wk
                                                          (AV.vs (List.flatMap Ell.f c) c.length c.length false none
                                                            (1 : Nat))
                                                          (lst Ell l) ∧
                                                        ∃ (l_1 : List Int),
                                                          Wk
                                                              (AV.vs (List.flatMap Ei32.f v) v.length v.length false
                                                                none (1 : Nat))
                                                              (lst Ei32 l_1) ∧
                                                            ∃ (l_2 : List Int),
                                                              Wk
                                                                  (AV.vs (List.flatMap Ei32.f r) r.length r.length false
                                                                    none (1 : Nat))
                                                                  (lst Ei32 l_2) ∧
                                                                true = true ∧
                                                                  N
                                                                    ((l, l_1, n, l_2,
                                                                        wrapF IntKind.i64 (i.add (1 : Int)), ()),
                                                                      ())))
                            False)
    (True ∧ true = true ∧ R0 ((c, v, n, r, i, ()), ()) () ())) := by kernel_rfl

def backInv : backZ → Prop := fun ((c, (v, (n, (r, (i, ()))))), ()) => ∃ k p : Nat, i = k ∧ n = p ∧ p < c.length ∧ k ≤ v.length ∧ v.length ≤ 1024 ∧ v.length = (c.getD p []).length ∧ wide v ∧ r = subV v (c.getD p [])
def backMu : backZ → Nat := fun ((c, (v, (n, (r, (i, ()))))), ()) => r.length - i.toNat
def backR0 : backZ → (Unit) → (Unit) → Prop := fun ((c, (v, (n, (r, (i, ()))))), ()) _ _ => True
noncomputable def backC : LoopC := loopC 0 backFs (backAlts backR0) backInv

theorem backStep : stepsOk Try.prog (KL [] []) 100 9 138 (loopBody Try.prog 9 20) 0 false backFs (backAlts backR0) backInv backMu ⟨_, _, backSl, backBl, fun x y => (x, y)⟩ := by
  intro x y hz
  obtain ⟨c, v, n, r, i, _⟩ := x
  obtain _ := y
  refine (backForm c v n r i _ _).mpr ?_
  obtain ⟨k, p, rfl, rfl, hp, hk, hv, hc, wv, hr⟩ := hz
  have hg : c.getD p [] = c[p] := by simp [hp]
  rw [hg] at hc hr
  subst hr
  have hs : (subV v c[p]).length = v.length := by simp [subV, ← hc]
  rw [ifp_lt]
  simp only [natOf_nat]
  split
  · rename_i h
    have hkl : k < v.length := by simp only [Int.ofNat_eq_natCast] at h; omega
    have hks : k < (subV v c[p]).length := by omega
    have hkc : k < c[p].length := by omega
    have h1 := wv _ (List.getElem_mem hkl)
    refine ⟨idx_ok hks, _, nth_int hks, idx_ok hp, _, _, _, _, _, _, nth_lst hp, ?_⟩
    rw [ifp_pos (show Nat.beq 1 Ei32.e = true from rfl)]
    refine ⟨idx_ok hkc, _, nth_int hkc, idx_ok hkl, _, nth_int hkl, ?_⟩
    have e : wrapF .i32 (Int.add (subV v c[p])[k] c[p][k]) = v[k] := by
      have : Int.add (subV v c[p])[k] c[p][k] = v[k] := by
        show (subV v c[p])[k] + c[p][k] = v[k]
        simp [subV]
      rw [this, w32 (by omega) (by omega)]
    rw [ifp_ne, if_pos e]
    refine ⟨trivial, trivial, trivial, trivial, trivial, c, Wk.refl _, v, Wk.refl _, subV v c[p], Wk.refl _, by first | trivial | rfl, ?_⟩
    rw [wsucc (by omega)]
    exact ⟨⟨k + 1, p, rfl, rfl, hp, hkl, hv, by rw [hg]; exact hc, wv, by rw [hg]⟩, by show (subV v c[p]).length - (k + 1) < (subV v c[p]).length - k; omega, fun _ _ h => h, trivial⟩
  · exact ⟨trivial, by first | trivial | rfl, trivial⟩
theorem backOk : LoopOk Try.prog 9 138 (.loop (loopBody Try.prog 9 20)) backC := loop_ok backMu mixed (KL_ok (cc_nil)) rfl (steps_cons backStep (steps_nil))

theorem lit64 {q : Int} (h : (Lit.int .i64 q).wf = true) : -9223372036854775808 ≤ q ∧ q < 9223372036854775808 := by
  have h' : (decide ((-9223372036854775808 : Int) ≤ q) && decide (q ≤ 9223372036854775807)) = true := h
  simp at h'; omega
theorem resid_inv {c : List (List Int)} {v : List Int} (h : (residV c v).2.2 = 0) : ∃ p : Nat, ∃ hp : p < c.length, residV c v = ((p : Int), subV v c[p], 0) ∧ pairV v c[p] = 0 := by
  unfold residV at h ⊢
  split at h
  · rename_i h1
    obtain ⟨i0, i1⟩ := nearV_idx h1
    obtain ⟨k, hk⟩ := Int.eq_ofNat_of_zero_le i0
    have hkl : k < c.length := by omega
    have e : c.getD ((nearV c v).1.toNat) [] = c[k] := by rw [hk]; show c.getD k [] = _; simp [hkl]
    rw [e] at h
    rw [if_pos h1, e]
    split at h
    · rename_i h2
      have h3 : subR v c[k] = (subV v c[k], 0) ∧ pairV v c[k] = 0 := by
        unfold subR at h2 ⊢
        split at h2
        · rename_i h4
          split at h2
          · cases h2
          · rename_i h5; exact ⟨by rw [if_pos h4, if_neg h5], h4⟩
        · rename_i h4; exact absurd h2 h4
      exact ⟨k, hkl, by rw [h3.1, hk]; rfl, h3.2⟩
    · rename_i h2; exact absurd h h2
  · rename_i h1; exact absurd h h1
theorem resid_bad {c : List (List Int)} {v : List Int} (h : ¬ (residV c v).2.2 = 0) : (residV c v).2.1 = [] := by
  unfold residV at h ⊢
  split at h
  · rename_i h1
    split at h
    · exact absurd rfl h
    · rename_i h2; rw [if_pos h1, if_neg h2]
  · rename_i h1; rw [if_neg h1]

/-! The law CellBack. -/
noncomputable def cellBackT : Tel ((List (List Int)) × (List Int) × Int × Unit) := .cons 0 (.lst Ell) (.cons 1 (.lst Ei32) (.cons 2 (.int .i64) (.nil)))
abbrev cellBackShapes : List Sh := [.slice (.slice (.int .i32)), .slice (.int .i32), .int .i64]

theorem cellBackFn (c : List (List Int)) (v : List Int) (q : Int) : (callW Try.prog (runW Try.prog (KL [(27, lives13K), (28, lightK), (48, bytK), (43, checkK), (41, readK), (11, pickK), (46, listsK), (39, residK)] [(9, [(20, backC)])]) 300) 9 (cellBackT.cells id (c, (v, (q, ())))) (stB false) (fun v _ => yesQ v)) =
  (True ∧
    ∃ (l : List (List Int)),
      Wk (AV.vs (List.flatMap Ell.f c) c.length c.length false none (1 : Nat)) (lst Ell l) ∧
        lightPre (l, (80 : Int), (30 : Int), ()) ∧
          ifp (lightV l (80 : Int) (30 : Int))
            (ifp (!leInt (Int.ofNat v.length) (30 : Int)) True
              (∃ (l : List (List Int)),
                Wk (AV.vs (List.flatMap Ell.f c) c.length c.length false none (1 : Nat)) (lst Ell l) ∧
                  bytPre (l, ()) ∧
                    ∃ (l_1 : List (List Int)),
                      Wk (AV.vs (List.flatMap Ell.f c) c.length c.length false none (1 : Nat)) (lst Ell l_1) ∧
                        checkPre (l_1, ()) ∧
                          ifp (!eqInt (checkV l_1) (0 : Int))
                            (ifp (eqInt (Int.ofNat (bytesV l).length) (0 : Int)) True False)
                            (ifp (eqInt (Int.ofNat c.length) (0 : Int)) False
                              (idxOk (0 : Int) c.length ∧
                                ∃ (l' : List AV),
                                  ∃ (n : Nat),
                                    ∃ (c_1 : Nat),
                                      ∃ (x : Bool),
                                        ∃ (w : Option Nat),
                                          ∃ (e : Nat),
                                            nth (0 : Nat) (List.flatMap Ell.f c) = some (AV.vs l' n c_1 x w e) ∧
                                              ∃ (l_2 : List Int),
                                                Wk
                                                    (AV.vs (List.flatMap Eu8.f (bytesV l)) (bytesV l).length
                                                      (bytesV l).length false none (1 : Nat))
                                                    (lst Eu8 l_2) ∧
                                                  readPre (l_2, Int.ofNat c.length, Int.ofNat n, ()) ∧
                                                    pickPre (q, Int.ofNat (bytesV l).length, ()) ∧
                                                      (0 : Int) ≤ pickV q (Int.ofNat (bytesV l).length) ∧
                                                        pickV q (Int.ofNat (bytesV l).length) ≤ ↑(bytesV l).length ∧
                                                          natOf (pickV q (Int.ofNat (bytesV l).length)) ≤
                                                              (bytesV l).length ∧
                                                            (List.flatMap Eu8.f (bytesV l)).length =
                                                                (bytesV l).length.mul (1 : Nat) ∧
                                                              idxOk (0 : Int) c.length ∧
                                                                ∃ (l' : List AV),
                                                                  ∃ (n_1 : Nat),
                                                                    ∃ (c_2 : Nat),
                                                                      ∃ (x : Bool),
                                                                        ∃ (w : Option Nat),
                                                                          ∃ (e : Nat),
                                                                            nth (0 : Nat) (List.flatMap Ell.f c) =
                                                                                some (AV.vs l' n_1 c_2 x w e) ∧
                                                                              ∃ (l_3 : List Int),
                                                                                Wk
                                                                                    (AV.vs
                                                                                      (List.take
                                                                                        (((natOf
                                                                                                  (pickV q
                                                                                                    (Int.ofNat
                                                                                                      (bytesV
                                                                                                          l).length))).sub
                                                                                              (0 : Nat)).mul
                                                                                          (1 : Nat))
                                                                                        (List.drop (0 : Nat)
                                                                                          (List.flatMap Eu8.f
                                                                                            (bytesV l))))
                                                                                      ((natOf
                                                                                            (pickV q
                                                                                              (Int.ofNat
                                                                                                (bytesV l).length))).sub
                                                                                        (0 : Nat))
                                                                                      ((bytesV l).length.sub (0 : Nat))
                                                                                      (mxEx none false) none (1 : Nat))
                                                                                    (lst Eu8 l_3) ∧
                                                                                  readPre
                                                                                      (l_3, Int.ofNat c.length,
                                                                                        Int.ofNat n_1, ()) ∧
                                                                                    True ∧
                                                                                      True ∧
                                                                                        (AV.int IntKind.i64
                                                                                                (Int.ofNat c.length) =
                                                                                              AV.int IntKind.i64
                                                                                                (Int.ofNat c.length) ∧
                                                                                            True) ∧
                                                                                          ((∃ (l'_1 : List AV),
                                                                                                ∃ (n : Nat),
                                                                                                  ∃ (c_3 : Nat),
                                                                                                    ∃ (x_1 : Bool),
                                                                                                      ∃ (w_1 :
                                                                                                        Option Nat),
                                                                                                        ∃ (e_1 : Nat),
                                                                                                          nth (0 : Nat)
                                                                                                                (List.flatMap
                                                                                                                  Ell.f
                                                                                                                  c) =
                                                                                                              some
                                                                                                                (AV.vs
                                                                                                                  l'_1 n
                                                                                                                  c_3
                                                                                                                  x_1
                                                                                                                  w_1
                                                                                                                  e_1) ∧
                                                                                                            AV.vs l'_1 n
                                                                                                                c_3 x_1
                                                                                                                w_1
                                                                                                                e_1 =
                                                                                                              AV.vs l'
                                                                                                                n_1 c_2
                                                                                                                x w e) ∧
                                                                                              True) ∧
                                                                                            (AV.int IntKind.i64
                                                                                                    (Int.ofNat n_1) =
                                                                                                  AV.int IntKind.i64
                                                                                                    (Int.ofNat n_1) ∧
                                                                                                True) ∧
                                                                                              ifp
                                                                                                (!eqInt
                                                                                                    (readV l_2
                                                                                                        (Int.ofNat
                                                                                                          c.length)
                                                                                                        (Int.ofNat
                                                                                                          n)).snd
                                                                                                    (0 : Int))
                                                                                                False
                                                                                                (∃ (l_4 :
                                                                                                  List (List Int)),
                                                                                                  Wk
                                                                                                      (AV.vs
                                                                                                        (List.flatMap
                                                                                                          Ell.f
                                                                                                          (readV l_2
                                                                                                              (Int.ofNat
                                                                                                                c.length)
                                                                                                              (Int.ofNat
                                                                                                                n)).fst)
                                                                                                        (readV l_2
                                                                                                              (Int.ofNat
                                                                                                                c.length)
                                                                                                              (Int.ofNat
                                                                                                                n)).fst.length
                                                                                                        (readV l_2
                                                                                                              (Int.ofNat
                                                                                                                c.length)
                                                                                                              (Int.ofNat
                                                                                                                n)).fst.length
                                                                                                        false none
                                                                                                        (1 : Nat))
                                                                                                      (lst Ell l_4) ∧
                                                                                                    ∃ (l_5 :
                                                                                                      List (List Int)),
                                                                                                      Wk
                                                                                                          (AV.vs
                                                                                                            (List.flatMap
                                                                                                              Ell.f c)
                                                                                                            c.length
                                                                                                            c.length
                                                                                                            false none
                                                                                                            (1 : Nat))
                                                                                                          (lst Ell
                                                                                                            l_5) ∧
                                                                                                        listsPre
                                                                                                            (l_4, l_5,
                                                                                                              ()) ∧
                                                                                                          ifp
                                                                                                            (decide
                                                                                                              (l_4 =
                                                                                                                l_5))
                                                                                                            (ifp
                                                                                                              (!eqInt
                                                                                                                  (readV
                                                                                                                      l_3
                                                                                                                      (Int.ofNat
                                                                                                                        c.length)
                                                                                                                      (Int.ofNat
                                                                                                                        n_1)).snd
                                                                                                                  (4 :
                                                                                                                    Int))
                                                                                                              False
                                                                                                              (idxOk
                                                                                                                  (0 :
                                                                                                                    Int)
                                                                                                                  c.length ∧
                                                                                                                ∃ (l' :
                                                                                                                  List
                                                                                                                    AV),
                                                                                                                  ∃ (n :
                                                                                                                    Nat),
                                                                                                                    ∃
                                                                                                                      (c_3
                                                                                                                      :
                                                                                                                      Nat),
                                                                                                                      ∃
                                                                                                                        (x
                                                                                                                        :
                                                                                                                        Bool),
                                                                                                                        ∃
                                                                                                                          (w
                                                                                                                          :
                                                                                                                          Option
                                                                                                                            Nat),
                                                                                                                          ∃
                                                                                                                            (e
                                                                                                                            :
                                                                                                                            Nat),
                                                                                                                            nth
                                                                                                                                  (0 :
                                                                                                                                    Nat)
                                                                                                                                  (List.flatMap
                                                                                                                                    Ell.f
                                                                                                                                    c) =
                                                                                                                                some
                                                                                                                                  (AV.vs
                                                                                                                                    l'
                                                                                                                                    n
                                                                                                                                    c_3
                                                                                                                                    x
                                                                                                                                    w
                                                                                                                                    e) ∧
                                                                                                                              ifp
                                                                                                                                (!eqInt
                                                                                                                                    (Int.ofNat
                                                                                                                                      (bytesV
                                                                                                                                          l).length)
                                                                                                                                    (wrapF
                                                                                                                                      IntKind.i64
                                                                                                                                      ((wrapF
                                                                                                                                            IntKind.i64
                                                                                                                                            (Int.mul
                                                                                                                                              (4 :
                                                                                                                                                Int)
                                                                                                                                              (Int.ofNat
                                                                                                                                                c.length))).mul
                                                                                                                                        (Int.ofNat
                                                                                                                                          n))))
                                                                                                                                False
                                                                                                                                (∃
                                                                                                                                  (l
                                                                                                                                  :
                                                                                                                                  List
                                                                                                                                    (List
                                                                                                                                      Int)),
                                                                                                                                  Wk
                                                                                                                                      (AV.vs
                                                                                                                                        (List.flatMap
                                                                                                                                          Ell.f
                                                                                                                                          c)
                                                                                                                                        c.length
                                                                                                                                        c.length
                                                                                                                                        false
                                                                                                                                        none
                                                                                                                                        (1 :
                                                                                                                                          Nat))
                                                                                                                                      (lst
                                                                                                                                        Ell
                                                                                                                                        l) ∧
                                                                                                                                    ∃
                                                                                                                                      (l_6
                                                                                                                                      :
                                                                                                                                      List
                                                                                                                                        Int),
                                                                                                                                      Wk
                                                                                                                                          (AV.vs
                                                                                                                                            (List.flatMap
                                                                                                                                              Ei32.f
                                                                                                                                              v)
                                                                                                                                            v.length
                                                                                                                                            v.length
                                                                                                                                            false
                                                                                                                                            none
                                                                                                                                            (1 :
                                                                                                                                              Nat))
                                                                                                                                          (lst
                                                                                                                                            Ei32
                                                                                                                                            l_6) ∧
                                                                                                                                        residPre
                                                                                                                                            (l,
                                                                                                                                              l_6,
                                                                                                                                              ()) ∧
                                                                                                                                          ifp
                                                                                                                                            (!eqInt
                                                                                                                                                (residV
                                                                                                                                                      l
                                                                                                                                                      l_6).snd.snd
                                                                                                                                                (0 :
                                                                                                                                                  Int))
                                                                                                                                            (ifp
                                                                                                                                              (eqInt
                                                                                                                                                (Int.ofNat
                                                                                                                                                  (residV
                                                                                                                                                          l
                                                                                                                                                          l_6).snd.fst.length)
                                                                                                                                                (0 :
                                                                                                                                                  Int))
                                                                                                                                              True
                                                                                                                                              False)
                                                                                                                                            (ifp
                                                                                                                                              (!leInt
                                                                                                                                                  (0 :
                                                                                                                                                    Int)
                                                                                                                                                  (residV
                                                                                                                                                      l
                                                                                                                                                      l_6).fst)
                                                                                                                                              False
                                                                                                                                              (ifp
                                                                                                                                                (leInt
                                                                                                                                                  (Int.ofNat
                                                                                                                                                    c.length)
                                                                                                                                                  (residV
                                                                                                                                                      l
                                                                                                                                                      l_6).fst)
                                                                                                                                                False
                                                                                                                                                (ifp
                                                                                                                                                  (!eqInt
                                                                                                                                                      (Int.ofNat
                                                                                                                                                        (residV
                                                                                                                                                                l
                                                                                                                                                                l_6).snd.fst.length)
                                                                                                                                                      (Int.ofNat
                                                                                                                                                        v.length))
                                                                                                                                                  False
                                                                                                                                                  (LoopOk
                                                                                                                                                      Try.prog
                                                                                                                                                      (9 :
                                                                                                                                                        FuncId)
                                                                                                                                                      (138 :
                                                                                                                                                        Nat)
                                                                                                                                                      (loopBody
                                                                                                                                                          Try.prog
                                                                                                                                                          (9 :
                                                                                                                                                            FuncId)
                                                                                                                                                          (20 :
                                                                                                                                                            Nat)).loop
                                                                                                                                                      backC ∧
                                                                                                                                                    True ∧
                                                                                                                                                      True ∧
                                                                                                                                                        ∃
                                                                                                                                                          (l_7
                                                                                                                                                          :
                                                                                                                                                          List
                                                                                                                                                            (List
                                                                                                                                                              Int)),
                                                                                                                                                          Wk
                                                                                                                                                              (AV.vs
                                                                                                                                                                (List.flatMap
                                                                                                                                                                  Ell.f
                                                                                                                                                                  c)
                                                                                                                                                                c.length
                                                                                                                                                                c.length
                                                                                                                                                                false
                                                                                                                                                                none
                                                                                                                                                                (1 :
                                                                                                                                                                  Nat))
                                                                                                                                                              (lst
                                                                                                                                                                Ell
                                                                                                                                                                l_7) ∧
                                                                                                                                                            ∃
                                                                                                                                                              (l_8
                                                                                                                                                              :
                                                                                                                                                              List
                                                                                                                                                                Int),
                                                                                                                                                              Wk
                                                                                                                                                                  (AV.vs
                                                                                                                                                                    (List.flatMap
                                                                                                                                                                      Ei32.f
                                                                                                                                                                      v)
                                                                                                                                                                    v.length
                                                                                                                                                                    v.length
                                                                                                                                                                    false
                                                                                                                                                                    none
                                                                                                                                                                    (1 :
                                                                                                                                                                      Nat))
                                                                                                                                                                  (lst
                                                                                                                                                                    Ei32
                                                                                                                                                                    l_8) ∧
                                                                                                                                                                ∃
                                                                                                                                                                  (l_9
                                                                                                                                                                  :
                                                                                                                                                                  List
                                                                                                                                                                    Int),
                                                                                                                                                                  Wk
                                                                                                                                                                      (AV.vs
                                                                                                                                                                        (List.flatMap
                                                                                                                                                                          Ei32.f
                                                                                                                                                                          (residV
                                                                                                                                                                                l
                                                                                                                                                                                l_6).snd.fst)
                                                                                                                                                                        (residV
                                                                                                                                                                                l
                                                                                                                                                                                l_6).snd.fst.length
                                                                                                                                                                        (residV
                                                                                                                                                                                l
                                                                                                                                                                                l_6).snd.fst.length
                                                                                                                                                                        false
                                                                                                                                                                        none
                                                                                                                                                                        (1 :
                                                                                                                                                                          Nat))
                                                                                                                                                                      (lst
                                                                                                                                                                        Ei32
                                                                                                                                                                        l_9) ∧
                                                                                                                                                                    true =
                                                                                                                                                                        true ∧
                                                                                                                                                                      backInv
                                                                                                                                                                          ((l_7,
                                                                                                                                                                              l_8,
                                                                                                                                                                              (residV
                                                                                                                                                                                  l
                                                                                                                                                                                  l_6).fst,
                                                                                                                                                                              l_9,
                                                                                                                                                                              (0 :
                                                                                                                                                                                Int),
                                                                                                                                                                              ()),
                                                                                                                                                                            ()) ∧
                                                                                                                                                                        (∀
                                                                                                                                                                            (c
                                                                                                                                                                              d :
                                                                                                                                                                              PUnit),
                                                                                                                                                                            backR0
                                                                                                                                                                                ((l_7,
                                                                                                                                                                                    l_8,
                                                                                                                                                                                    (residV
                                                                                                                                                                                        l
                                                                                                                                                                                        l_6).fst,
                                                                                                                                                                                    l_9,
                                                                                                                                                                                    (0 :
                                                                                                                                                                                      Int),
                                                                                                                                                                                    ()),
                                                                                                                                                                                  ())
                                                                                                                                                                                c
                                                                                                                                                                                d →
                                                                                                                                                                              True) ∧
                                                                                                                                                                          True)))))))
                                                                                                            False)))))
            True) := by kernel_rfl

theorem cellBackHolds (c : List (List Int)) (v : List Int) (q : Int) (hc : Sh.plOk (.slice (.slice (.int .i32))) c) (hv : Sh.plOk (.slice (.int .i32)) v) (hq : Sh.plOk (.int .i64) q) : callW Try.prog (runW Try.prog (KL [(27, lives13K), (28, lightK), (48, bytK), (43, checkK), (41, readK), (11, pickK), (46, listsK), (39, residK)] [(9, [(20, backC)])]) 300) 9 (cellBackT.cells id (c, (v, (q, ())))) (stB false) (fun v _ => yesQ v) := by
  refine (cellBackFn c v q).mpr ?_
  refine ⟨trivial, c, Wk.refl _, by show (80 : Int) < _; decide, ?_⟩
  rw [ifp_if]
  split
  · rename_i hL
    obtain ⟨l1, l2⟩ := lightV_inv (m := 80) (n := 30) hL
    rw [ifp_lt]
    split
    · trivial
    refine ⟨c, Wk.refl _, trivial, c, Wk.refl _, trivial, ?_⟩
    rw [ifp_ne]
    split
    · rename_i hk
      obtain ⟨d, hd, d1, d2, n1, n2, hh⟩ := dim_of hk
      have h0 : 0 < c.length := by omega
      have h00 : c[0].length = d := hd _ (List.getElem_mem h0)
      have hbl := bytesV_len hk hd
      have hND : c.length * d ≤ 4194304 := big_mul (by omega) (by omega)
      have hN1 : 1 ≤ c.length * d := Nat.mul_pos (by omega) (by omega)
      have hpk : 0 ≤ pickV q (Int.ofNat (bytesV c).length) ∧ pickV q (Int.ofNat (bytesV c).length) < ((bytesV c).length : Int) := by
        show 0 ≤ pickV q ((bytesV c).length : Int) ∧ pickV q ((bytesV c).length : Int) < _
        rw [pickV, if_neg (by omega)]
        exact ⟨Int.emod_nonneg _ (by omega), Int.emod_lt_of_pos _ (by omega)⟩
      obtain ⟨p, hp⟩ := Int.eq_ofNat_of_zero_le hpk.1
      rw [hp] at hpk
      have hpl : p < (bytesV c).length := by omega
      have r1 : readV (bytesV c) (Int.ofNat c.length) (Int.ofNat c[0].length) = (c, 0) := by rw [h00]; exact read_whole hk hd d1 d2
      have r2 : readV ((bytesV c).take p) (Int.ofNat c.length) (Int.ofNat c[0].length) = ([], 4) := by
        rw [h00]; exact read_less ⟨n1, n2, d1, d2⟩ (by rw [List.length_take]; omega)
      have e4 : wrapF .i64 (Int.mul (wrapF .i64 (Int.mul 4 (Int.ofNat c.length))) (Int.ofNat c[0].length)) = ((c.length * d * 4 : Nat) : Int) := by rw [h00]; exact four_mul hND (by omega)
      rw [ifp_eq, if_neg (by simp only [Int.ofNat_eq_natCast]; omega), hp]
      refine ⟨idx_ok0 h0, _, _, _, _, _, _, nth_lst0 h0, bytesV c, Wk.refl _, bytesV_ok c, ⟨(lit64 hq).1, (lit64 hq).2, by simp only [Int.ofNat_eq_natCast]; omega⟩, hpk.1, Int.le_of_lt hpk.2, Nat.le_of_lt hpl, Enc.flen _ _, idx_ok0 h0, _, _, _, _, _, _, nth_lst0 h0, (bytesV c).take p, ?_, fun x hx => bytesV_ok c x (List.mem_of_mem_take hx), trivial, trivial, ⟨rfl, trivial⟩, ⟨⟨_, _, _, _, _, _, nth_lst0 h0, rfl⟩, trivial⟩, ⟨rfl, trivial⟩, ?_⟩
      · refine wk_vs ⟨?_, ?_, rfl⟩
        · show List.take (Nat.mul p 1) (List.flatMap Eu8.f (bytesV c)) = _
          rw [Nat.mul_one p |> (show Nat.mul p 1 = p from ·), ftake1 rfl]
        · show p = _; rw [List.length_take]; omega
      rw [ifp_ne, r1, if_pos rfl]
      refine ⟨c, Wk.refl _, c, Wk.refl _, ⟨by omega, fun x hx => by have := l2 x hx; omega⟩, ?_⟩
      rw [ifp_if, if_pos (by simp), ifp_ne, r2, if_pos rfl]
      refine ⟨idx_ok0 h0, _, _, _, _, _, _, nth_lst0 h0, ?_⟩
      rw [ifp_ne, e4, if_pos (by rw [hbl]; rfl)]
      refine ⟨c, Wk.refl _, v, Wk.refl _, trivial, ?_⟩
      rw [ifp_ne]
      split
      · rename_i hr
        obtain ⟨p, hp, hrv, hpv⟩ := resid_inv hr
        obtain ⟨cv, cc, hvc⟩ := pair_zero hpv
        obtain ⟨v1, v2, wv⟩ := cw_zero cv
        have hs : (subV v c[p]).length = v.length := by simp [subV, ← hvc]
        rw [hrv, ifp_lt, if_neg (by omega), ifp_le, if_neg (by simp only [Int.ofNat_eq_natCast]; omega), ifp_ne, if_pos (by show ((subV v c[p]).length : Int) = (v.length : Int); rw [hs])]
        have hg : c.getD p [] = c[p] := by simp [hp]
        exact ⟨backOk, trivial, trivial, c, Wk.refl _, v, Wk.refl _, subV v c[p], Wk.refl _, rfl, ⟨0, p, rfl, rfl, hp, by omega, v2, by rw [hg]; exact hvc, wv, by rw [hg]⟩, fun _ _ _ => trivial, trivial⟩
      · rename_i hr
        rw [ifp_eq, resid_bad hr]; simp
    · rename_i hk
      rw [ifp_eq, if_pos (by rw [bytesV, if_neg hk]; rfl)]; trivial
  · trivial
theorem cellBackTrue (y : ShPls cellBackShapes) (hy : ShPlOks cellBackShapes y) : callW Try.prog (runW Try.prog (KL [(27, lives13K), (28, lightK), (48, bytK), (43, checkK), (41, readK), (11, pickK), (46, listsK), (39, residK)] [(9, [(20, backC)])]) 300) 9 (ShPlAvs cellBackShapes y) (stB false) (fun v _ => yesQ v) :=
  cellBackHolds y.1 y.2.1 y.2.2.1 hy.1 hy.2.1 hy.2.2.1
theorem cellBackCalls {x : ShVs cellBackShapes} (hx : ShOks cellBackShapes x) {W : World} {args : Array Value} (h : VRs (frozenAll W) (ShAvs cellBackShapes x) args.toList) : Calls Try.prog 9 args W fun e w' => e = .returned (.bool true) ∧ Below W.heap.size W w' :=
  law_plain mixed (KL_ok (cc_cons lives13Cc (cc_cons lightCc (cc_cons bytCc (cc_cons checkCc (cc_cons readCc (cc_cons pickCc (cc_cons listsCc (cc_cons residCc (cc_nil)))))))))) cellBackTrue hx h

end Go.Proofs.Ytfcdpdejoogapaa
