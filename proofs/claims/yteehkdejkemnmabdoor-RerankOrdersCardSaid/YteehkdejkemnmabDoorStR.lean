/- Forms and contracts, printed by gx.py. -/
import Derived.Test.YteehkdejkemnmabDoorRows
import Derived.Test.YteehkdejkemnmabDoorDvUse
import Derived.Test.YteehkdejkemnmabDoorDvArg
import Derived.ProofKit
import Derived.Test.YteehkdejkemnmabDoorBase
import Derived.Test.YteehkdejkemnmabDoorDvStab2
import Derived.Test.YteehkdejkemnmabDoorDvUse2
import Derived.Test.YteehkdejkemnmabDoorDvSort
import Derived.Test.YteehkdejkemnmabDoorOrdR
namespace Go.Proofs.YteehkdejkemnmabDoor
open Go.Det Go.RowKit
set_option linter.unusedVariables false
set_option linter.unusedSimpArgs false
set_option maxRecDepth 100000
/-! The loop swrL of slices.swapRangeCmpFunc[wayfinder/api.Cand]. -/
abbrev swrLZ := ((Nat × Nat) × Int × Int × Int × Int × Unit) × ((List Cd) × Unit)
noncomputable def swrLSl : Tel ((Nat × Nat) × Int × Int × Int × Int × Unit) := .cons 0 (.slq 0 4) (.cons 1 (.int .i64) (.cons 2 (.int .i64) (.cons 3 (.int .i64) (.cons 10 (.int .i64) (.nil)))))
noncomputable def swrLBl : BTel ((List Cd) × Unit) := .cons (.rows Ec 25) (.nil)
noncomputable def swrLFs : List (LForm swrLZ) := [⟨_, _, swrLSl, swrLBl, fun x y => (x, y)⟩]
noncomputable def swrLAlts (R0 : swrLZ → (Unit) → ((List Cd) × Unit) → Prop) : List (Alt swrLZ) := [⟨.exit 0, Unit, (List Cd) × Unit, .nil, .cons (.rows Ec 25) (.nil), R0⟩]

theorem swrLForm (d : Nat × Nat) (a : Int) (b : Int) (n : Int) (i : Int) (m : List Cd) (N : swrLZ → Prop) (R0 : swrLZ → (Unit) → ((List Cd) × Unit) → Prop) : ((runW Tryd.prog (KLS [] [] 25) 100).code none 70 38 (loopBody Tryd.prog 70 1) (mkT (swrLSl.av id (d, (a, (b, (n, (i, ()))))))) [] (stL false (swrLBl.obs id (m, ()))) (postL 1 swrLFs (swrLAlts R0) ((d, (a, (b, (n, (i, ()))))), (m, ())) N)) =
  ( ifp (!leInt n i) (idxOk (wrapF IntKind.i64 (b.add i)) d.fst ∧ ∃ (x : Int), nth ((Nat.add (0 : Nat) ((natOf (wrapF IntKind.i64 (b.add i))).mul (4 : Nat))).add (0
  : Nat)) (List.flatMap Ec.f m) = some (AV.int IntKind.i64 x) ∧ ∃ (x_1 : Int), nth ((Nat.add (0 : Nat) ((natOf (wrapF IntKind.i64 (b.add i))).mul (4 : Nat))).add
  (1 : Nat)) (List.flatMap Ec.f m) = some (AV.int IntKind.i64 x_1) ∧ ∃ (x_2 : Int), nth ((Nat.add (0 : Nat) ((natOf (wrapF IntKind.i64 (b.add i))).mul (4 :
  Nat))).add (2 : Nat)) (List.flatMap Ec.f m) = some (AV.int IntKind.i64 x_2) ∧ ∃ (x_3 : Int), nth ((Nat.add (0 : Nat) ((natOf (wrapF IntKind.i64 (b.add i))).mul
  (4 : Nat))).add (3 : Nat)) (List.flatMap Ec.f m) = some (AV.int IntKind.i64 x_3) ∧ idxOk (wrapF IntKind.i64 (a.add i)) d.fst ∧ ∃ (x_4 : Int), nth ((Nat.add (0
  : Nat) ((natOf (wrapF IntKind.i64 (a.add i))).mul (4 : Nat))).add (0 : Nat)) (List.flatMap Ec.f m) = some (AV.int IntKind.i64 x_4) ∧ ∃ (x_5 : Int), nth
  ((Nat.add (0 : Nat) ((natOf (wrapF IntKind.i64 (a.add i))).mul (4 : Nat))).add (1 : Nat)) (List.flatMap Ec.f m) = some (AV.int IntKind.i64 x_5) ∧ ∃ (x_6 :
  Int), nth ((Nat.add (0 : Nat) ((natOf (wrapF IntKind.i64 (a.add i))).mul (4 : Nat))).add (2 : Nat)) (List.flatMap Ec.f m) = some (AV.int IntKind.i64 x_6) ∧ ∃
  (x_7 : Int), nth ((Nat.add (0 : Nat) ((natOf (wrapF IntKind.i64 (a.add i))).mul (4 : Nat))).add (3 : Nat)) (List.flatMap Ec.f m) = some (AV.int IntKind.i64
  x_7) ∧ idxOk (wrapF IntKind.i64 (a.add i)) d.fst ∧ (Nat.add (0 : Nat) ((natOf (wrapF IntKind.i64 (a.add i))).mul (4 : Nat))).add (4 : Nat) ≤ (List.flatMap Ec.f
  m).length ∧ idxOk (wrapF IntKind.i64 (b.add i)) d.fst ∧ (Nat.add (0 : Nat) ((natOf (wrapF IntKind.i64 (b.add i))).mul (4 : Nat))).add (4 : Nat) ≤ (setAt
  (Nat.add (0 : Nat) ((natOf (wrapF IntKind.i64 (a.add i))).mul (4 : Nat))) [AV.int IntKind.i64 x, AV.int IntKind.i64 x_1, AV.int IntKind.i64 x_2, AV.int
  IntKind.i64 x_3] (List.flatMap Ec.f m)).length ∧ True ∧ True ∧ True ∧ ∃ (l : List Cd), setAt (Nat.add (0 : Nat) ((natOf (wrapF IntKind.i64 (b.add i))).mul (4 :
  Nat))) [AV.int IntKind.i64 x_4, AV.int IntKind.i64 x_5, AV.int IntKind.i64 x_6, AV.int IntKind.i64 x_7] (setAt (Nat.add (0 : Nat) ((natOf (wrapF IntKind.i64
  (a.add i))).mul (4 : Nat))) [AV.int IntKind.i64 x, AV.int IntKind.i64 x_1, AV.int IntKind.i64 x_2, AV.int IntKind.i64 x_3] (List.flatMap Ec.f m)) =
  List.flatMap Ec.f l ∧ true = true ∧ N (((d.fst, d.snd), a, b, n, wrapF IntKind.i64 (i.add (1 : Int)), ()), l, ())) (True ∧ ∃ (l : List Cd), List.flatMap Ec.f m
  = List.flatMap Ec.f l ∧ true = true ∧ R0 ((d, a, b, n, i, ()), m, ()) () (l, ()))) := by kernel_rfl

def swrLInv : swrLZ → Prop := fun ((d, (a, (b, (n, (i, ()))))), (m, ())) => ∃ A B n2 k : Nat, a = A ∧ b = B ∧ n = n2 ∧ i = k ∧ d.1 = m.length ∧ k ≤ n2 ∧ A + n2 ≤ m.length ∧ B + n2 ≤ m.length ∧ m.length ≤ 1000000
def swrLMu : swrLZ → Nat := fun ((d, (a, (b, (n, (i, ()))))), (m, ())) => n.toNat - i.toNat
def swrLR0 : swrLZ → (Unit) → ((List Cd) × Unit) → Prop := fun ((d, (a, (b, (n, (i, ()))))), (m, ())) _ (m2, _) => m2.length = m.length ∧ Go.Det.Stab.SwapR m (a.toNat + i.toNat) (b.toNat + i.toNat) (n.toNat - i.toNat) m2
noncomputable def swrLC : LoopC := loopC 1 swrLFs (swrLAlts swrLR0) swrLInv

theorem swrLStep : stepsOk Tryd.prog (KLS [] [] 25) 100 70 38 (loopBody Tryd.prog 70 1) 1 false swrLFs (swrLAlts swrLR0) swrLInv swrLMu ⟨_, _, swrLSl, swrLBl, fun x y => (x, y)⟩ := by
  intro x y hz
  obtain ⟨d, a, b, n, i, _⟩ := x
  obtain ⟨m, _⟩ := y
  refine (swrLForm d a b n i m _ _).mpr ?_
  obtain ⟨A, B, q, k, rfl, rfl, rfl, rfl, hd, hk, hA, hB, hm⟩ := hz
  obtain ⟨d1, d2⟩ := d
  obtain rfl : d1 = m.length := hd
  rw [ifp_lt]
  split
  · rename_i h
    have hkq : k < q := by omega
    have ha : A + k < m.length := by omega
    have hb : B + k < m.length := by omega
    have e1 : wrapF .i64 (Int.add (A : Int) (k : Int)) = ((A + k : Nat) : Int) := by rw [wadd (by omega) (by omega)]; omega
    have e2 : wrapF .i64 (Int.add (B : Int) (k : Int)) = ((B + k : Nat) : Int) := by rw [wadd (by omega) (by omega)]; omega
    have e3 : wrapF .i64 (Int.add (k : Int) 1) = ((k + 1 : Nat) : Int) := by rw [wadd (by omega) (by omega)]; omega
    simp only [e1, e2, e3, natOf_nat]
    refine ⟨idx_ok hb, _, nth_cdR0 hb, _, nth_cdR1 hb, _, nth_cdR2 hb, _, nth_cdR3 hb, idx_ok ha, _, nth_cdR0 ha, _, nth_cdR1 ha, _, nth_cdR2 ha, _, nth_cdR3 ha, idx_ok ha, cd_fit ha rfl, idx_ok hb, by rw [cd_set (x := m[B + k]) ha]; exact cd_fit hb (by simp), trivial, trivial, trivial, Go.Det.Stab.sw m (A + k) (B + k), cd_sw ha hb, (by first | exact trivial | exact rfl), ?_⟩
    have hl := Go.Det.Stab.sw_len m (A + k) (B + k)
    refine ⟨⟨A, B, q, k + 1, rfl, rfl, rfl, rfl, hl.symm, by omega, by omega, by omega, by omega⟩, by show q - (k + 1) < q - k; omega, fun _ d2 hr => ?_, trivial⟩
    exact ⟨hr.1.trans hl, Go.Det.Stab.SwapR.step (a := A + k) (b := B + k) (n := q - k) (by omega) hr.2⟩
  · rename_i h
    refine ⟨trivial, m, rfl, (by first | exact trivial | exact rfl), rfl, ?_⟩
    show Go.Det.Stab.SwapR m (A + k) (B + k) (q - k) m
    rw [show q - k = 0 by omega]
    exact Go.Det.Stab.SwapR.zero m _ _
theorem swrLOk : LoopOk Tryd.prog 70 38 (.loop (loopBody Tryd.prog 70 1)) (swrLC) := loop_ok swrLMu  mixed (KLS_ok (cc_nil)) rfl (steps_cons swrLStep (steps_nil))

/-! slices.swapRangeCmpFunc[wayfinder/api.Cand] -/
abbrev swrZ := ((Nat × Nat) × Int × Int × Int × Unit × Unit) × ((List Cd) × Unit)
noncomputable def swrT : Tel ((Nat × Nat) × Int × Int × Int × Unit × Unit) := .cons 0 (.slq 0 4) (.cons 1 (.int .i64) (.cons 2 (.int .i64) (.cons 3 (.int .i64) (.cons 4 (.fnp 18 []) (.nil)))))
noncomputable def swrBl : BTel ((List Cd) × Unit) := .cons (.rows Ec 25) (.nil)
noncomputable def swrRes (R0 : swrZ → (Unit) → ((List Cd) × Unit) → Prop) : List (Res swrZ) := [⟨Unit, (List Cd) × Unit, .nil, .cons (.rows Ec 25) (.nil), R0⟩]

theorem swrFn (d : Nat × Nat) (a : Int) (b : Int) (n : Int) (m : List Cd) (R0 : swrZ → (Unit) → ((List Cd) × Unit) → Prop) : (callW Tryd.prog (runW Tryd.prog (KLS [] [(70, [(1, swrLC)])] 25) 200) 70 (swrT.cells id (d, (a, (b, (n, ((), ())))))) (stL false (swrBl.obs id (m, ()))) (fun v st => resAny 1 ((d, (a, (b, (n, ((), ()))))), (m, ())) v st (swrRes R0))) =
  ( LoopOk Tryd.prog (70 : FuncId) (38 : Nat) (loopBody Tryd.prog (70 : FuncId) (1 : Nat)).loop swrLC ∧ True ∧ True ∧ ∃ (l : List Cd), List.flatMap Ec.f m =
  List.flatMap Ec.f l ∧ true = true ∧ swrLInv (((d.fst, d.snd), a, b, n, (0 : Int), ()), l, ()) ∧ (∀ (c : Unit) (d_1 : List Cd × Unit), swrLR0 (((d.fst, d.snd),
  a, b, n, (0 : Int), ()), l, ()) c d_1 → ∃ (l : List Cd), List.flatMap Ec.f d_1.1 = List.flatMap Ec.f l ∧ true = true ∧ R0 ((d, a, b, n, (), ()), m, ()) () (l,
  ())) ∧ True) := by kernel_rfl

def swrPre : swrZ → Prop := fun ((d, (a, (b, (n, ((), ()))))), (m, ())) => ∃ A B n2 : Nat, a = A ∧ b = B ∧ n = n2 ∧ d.1 = m.length ∧ A + n2 ≤ m.length ∧ B + n2 ≤ m.length ∧ m.length ≤ 1000000
def swrR0 : swrZ → (Unit) → ((List Cd) × Unit) → Prop := fun ((d, (a, (b, (n, ((), ()))))), (m, ())) _ (m2, _) => m2.length = m.length ∧ Go.Det.Stab.SwapR m a.toNat b.toNat n.toNat m2
noncomputable def swrK : CallC := callC 1 swrT swrBl swrPre (swrRes swrR0)

theorem swrStep (z : swrZ) (hp : swrPre z) : callW Tryd.prog (runW Tryd.prog (KLS [] [(70, [(1, swrLC)])] 25) 200) 70 (swrT.cells id z.1) (stL false (swrBl.obs id z.2)) (fun v st => resAny 1 z v st (swrRes swrR0)) := by
  obtain ⟨⟨d, a, b, n, _, _⟩, ⟨m, _⟩⟩ := z
  refine (swrFn d a b n m _).mpr ?_
  obtain ⟨A, B, q, rfl, rfl, rfl, hd, hA, hB, hm⟩ := hp
  refine ⟨swrLOk, trivial, trivial, m, rfl, (by first | exact trivial | exact rfl), ⟨A, B, q, 0, rfl, rfl, rfl, rfl, hd, Nat.zero_le _, by omega, by omega, hm⟩, fun _ d1 hr => ?_, trivial⟩
  obtain ⟨m2, _⟩ := d1
  exact ⟨m2, rfl, (by first | exact trivial | exact rfl), hr⟩
theorem swrCc : CcOk Tryd.prog 70 swrK := call_ok mixed (KLS_ok (cc_nil)) rfl swrStep

/-! The loop rotL of slices.rotateCmpFunc[wayfinder/api.Cand]. -/
abbrev rotLZ := ((Nat × Nat) × Int × Unit × Int × Int × Unit) × ((List Cd) × Unit)
noncomputable def rotLSl : Tel ((Nat × Nat) × Int × Unit × Int × Int × Unit) := .cons 0 (.slq 0 4) (.cons 2 (.int .i64) (.cons 4 (.fnp 18 []) (.cons 10 (.int .i64) (.cons 11 (.int .i64) (.nil)))))
noncomputable def rotLBl : BTel ((List Cd) × Unit) := .cons (.rows Ec 25) (.nil)
noncomputable def rotLFs : List (LForm rotLZ) := [⟨_, _, rotLSl, rotLBl, fun x y => (x, y)⟩]
noncomputable def rotLAlts (R0 : rotLZ → ((Nat × Nat) × Int × Unit × Int × Unit) → ((List Cd) × Unit) → Prop) : List (Alt rotLZ) := [⟨.exit 0, (Nat × Nat) × Int × Unit × Int × Unit, (List Cd) × Unit, .cons 0 (.slq 0 4) (.cons 2 (.int .i64) (.cons 4 (.fnp 18 []) (.cons 10 (.int .i64) (.nil)))), .cons (.rows Ec 25) (.nil), R0⟩]

theorem rotLForm (d : Nat × Nat) (p : Int) (i : Int) (j : Int) (m : List Cd) (N : rotLZ → Prop) (R0 : rotLZ → ((Nat × Nat) × Int × Unit × Int × Unit) → ((List Cd) × Unit) → Prop) : ((runW Tryd.prog (KLS [(70, swrK)] [] 25) 100).code none 58 58 (loopBody Tryd.prog 58 2) (mkT (rotLSl.av id (d, (p, ((), (i, (j, ()))))))) [] (stL false (rotLBl.obs id (m, ()))) (postL 1 rotLFs (rotLAlts R0) ((d, (p, ((), (i, (j, ()))))), (m, ())) N)) =
  ( ifp (!eqInt i j) (ifp (!leInt i j) (∃ (l : List Cd), List.flatMap Ec.f m = List.flatMap Ec.f l ∧ true = true ∧ swrPre (((d.fst, d.snd), wrapF IntKind.i64 (p.sub
  i), p, j, (), ()), l, ()) ∧ (∀ (c : Unit) (d_1 : List Cd × Unit), swrR0 (((d.fst, d.snd), wrapF IntKind.i64 (p.sub i), p, j, (), ()), l, ()) c d_1 → True ∧ ∃
  (l : List Cd), List.flatMap Ec.f d_1.1 = List.flatMap Ec.f l ∧ true = true ∧ N (((d.fst, d.snd), p, (), wrapF IntKind.i64 (i.sub j), j, ()), l, ())) ∧ True) (∃
  (l : List Cd), List.flatMap Ec.f m = List.flatMap Ec.f l ∧ true = true ∧ swrPre (((d.fst, d.snd), wrapF IntKind.i64 (p.sub i), wrapF IntKind.i64 ((wrapF
  IntKind.i64 (p.add j)).sub i), i, (), ()), l, ()) ∧ (∀ (c : Unit) (d_1 : List Cd × Unit), swrR0 (((d.fst, d.snd), wrapF IntKind.i64 (p.sub i), wrapF
  IntKind.i64 ((wrapF IntKind.i64 (p.add j)).sub i), i, (), ()), l, ()) c d_1 → True ∧ ∃ (l : List Cd), List.flatMap Ec.f d_1.1 = List.flatMap Ec.f l ∧ true =
  true ∧ N (((d.fst, d.snd), p, (), i, wrapF IntKind.i64 (j.sub i), ()), l, ())) ∧ True)) (True ∧ ∃ (l : List Cd), List.flatMap Ec.f m = List.flatMap Ec.f l ∧
  true = true ∧ R0 ((d, p, (), i, j, ()), m, ()) ((d.fst, d.snd), p, (), i, ()) (l, ()))) := by kernel_rfl

def rotLInv : rotLZ → Prop := fun ((d, (p, ((), (i, (j, ()))))), (m, ())) => ∃ M I J : Nat, p = M ∧ i = I ∧ j = J ∧ 0 < I ∧ 0 < J ∧ I ≤ M ∧ M + J ≤ m.length ∧ d.1 = m.length ∧ m.length ≤ 1000000
def rotLMu : rotLZ → Nat := fun ((d, (p, ((), (i, (j, ()))))), (m, ())) => i.toNat + j.toNat
def rotLR0 : rotLZ → ((Nat × Nat) × Int × Unit × Int × Unit) → ((List Cd) × Unit) → Prop := fun ((d, (p, ((), (i, (j, ()))))), (m, ())) (d2, p2, _, i2, _) (m2, _) => d2.1 = m2.length ∧ p2 = p ∧ m2.length = m.length ∧ 0 < i2 ∧ i2 ≤ p ∧ p + i2 ≤ m.length ∧ ∀ m3, Go.Det.Stab.SwapR m2 (p.toNat - i2.toNat) p.toNat i2.toNat m3 → Go.Det.Stab.RotR m (p.toNat - i.toNat) p.toNat (p.toNat + j.toNat) m3
noncomputable def rotLC : LoopC := loopC 1 rotLFs (rotLAlts rotLR0) rotLInv

theorem rotLStep : stepsOk Tryd.prog (KLS [(70, swrK)] [] 25) 100 58 58 (loopBody Tryd.prog 58 2) 1 false rotLFs (rotLAlts rotLR0) rotLInv rotLMu ⟨_, _, rotLSl, rotLBl, fun x y => (x, y)⟩ := by
  intro x y hz
  obtain ⟨d, p, _, i, j, _⟩ := x
  obtain ⟨m, _⟩ := y
  refine (rotLForm d p i j m _ _).mpr ?_
  obtain ⟨M, I, J, rfl, rfl, rfl, h1, h2, h3, h4, hd, hm⟩ := hz
  obtain ⟨d1, d2⟩ := d
  obtain rfl : d1 = m.length := hd
  rw [ifp_ne]
  split
  · rename_i h
    obtain rfl : I = J := by omega
    exact ⟨trivial, m, rfl, (by first | exact trivial | exact rfl), rfl, rfl, rfl, by omega, by omega, by omega, fun m3 h5 => Go.Det.Stab.RotR.last h3 h5⟩
  · rename_i h
    have e1 : wrapF .i64 (Int.sub (M : Int) (I : Int)) = ((M - I : Nat) : Int) := by rw [wsub (by omega) (by omega)]; omega
    rw [ifp_lt]
    split
    · rename_i hji
      have e2 : wrapF .i64 (Int.sub (I : Int) (J : Int)) = ((I - J : Nat) : Int) := by rw [wsub (by omega) (by omega)]; omega
      simp only [e1, e2]
      refine ⟨m, rfl, (by first | exact trivial | exact rfl), ⟨M - I, M, J, rfl, rfl, rfl, rfl, by omega, by omega, hm⟩, fun _ d1 hr => ?_, trivial⟩
      obtain ⟨m2, _⟩ := d1
      obtain ⟨hl, hs⟩ := hr
      replace hl : m2.length = m.length := hl
      refine ⟨trivial, m2, rfl, (by first | exact trivial | exact rfl), ⟨M, I - J, J, rfl, rfl, rfl, by omega, h2, by omega, by omega, hl.symm, by omega⟩, by show (I - J) + J < I + J; omega, fun c d2 hr2 => ?_, trivial⟩
      obtain ⟨dd, p2, _, i2, _⟩ := c
      obtain ⟨m3, _⟩ := d2
      obtain ⟨r1, r2, r3, r4, r5, r6, r7⟩ := hr2
      exact ⟨r1, r2, r3.trans hl, r4, r5, by rw [← hl]; exact r6, fun m4 h6 => Go.Det.Stab.RotR.left h3 (by omega) hs (r7 m4 h6)⟩
    · rename_i hji
      have e2 : wrapF .i64 (Int.sub (wrapF .i64 (Int.add (M : Int) (J : Int))) (I : Int)) = ((M + J - I : Nat) : Int) := by
        rw [wadd (a := (M : Int)) (by omega) (by omega), wsub (by omega) (by omega)]; omega
      have e3 : wrapF .i64 (Int.sub (J : Int) (I : Int)) = ((J - I : Nat) : Int) := by rw [wsub (by omega) (by omega)]; omega
      simp only [e1, e2, e3]
      refine ⟨m, rfl, (by first | exact trivial | exact rfl), ⟨M - I, M + J - I, I, rfl, rfl, rfl, rfl, by omega, by omega, hm⟩, fun _ d1 hr => ?_, trivial⟩
      obtain ⟨m2, _⟩ := d1
      obtain ⟨hl, hs⟩ := hr
      replace hl : m2.length = m.length := hl
      refine ⟨trivial, m2, rfl, (by first | exact trivial | exact rfl), ⟨M, I, J - I, rfl, rfl, rfl, h1, by omega, h3, by omega, hl.symm, by omega⟩, by show I + (J - I) < I + J; omega, fun c d2 hr2 => ?_, trivial⟩
      obtain ⟨dd, p2, _, i2, _⟩ := c
      obtain ⟨m3, _⟩ := d2
      obtain ⟨r1, r2, r3, r4, r5, r6, r7⟩ := hr2
      exact ⟨r1, r2, r3.trans hl, r4, r5, by rw [← hl]; exact r6, fun m4 h6 => Go.Det.Stab.RotR.right h3 (by omega) hs (r7 m4 h6)⟩
theorem rotLOk : LoopOk Tryd.prog 58 58 (.loop (loopBody Tryd.prog 58 2)) (rotLC) := loop_ok rotLMu  mixed (KLS_ok (cc_cons swrCc (cc_nil))) rfl (steps_cons rotLStep (steps_nil))

/-! slices.rotateCmpFunc[wayfinder/api.Cand] -/
abbrev rotZ := ((Nat × Nat) × Int × Int × Int × Unit × Unit) × ((List Cd) × Unit)
noncomputable def rotT : Tel ((Nat × Nat) × Int × Int × Int × Unit × Unit) := .cons 0 (.slq 0 4) (.cons 1 (.int .i64) (.cons 2 (.int .i64) (.cons 3 (.int .i64) (.cons 4 (.fnp 18 []) (.nil)))))
noncomputable def rotBl : BTel ((List Cd) × Unit) := .cons (.rows Ec 25) (.nil)
noncomputable def rotRes (R0 : rotZ → (Unit) → ((List Cd) × Unit) → Prop) : List (Res rotZ) := [⟨Unit, (List Cd) × Unit, .nil, .cons (.rows Ec 25) (.nil), R0⟩]

theorem rotFn (d : Nat × Nat) (a : Int) (b : Int) (n : Int) (m : List Cd) (R0 : rotZ → (Unit) → ((List Cd) × Unit) → Prop) : (callW Tryd.prog (runW Tryd.prog (KLS [(70, swrK)] [(58, [(2, rotLC)])] 25) 200) 58 (rotT.cells id (d, (a, (b, (n, ((), ())))))) (stL false (rotBl.obs id (m, ()))) (fun v st => resAny 1 ((d, (a, (b, (n, ((), ()))))), (m, ())) v st (rotRes R0))) =
  ( LoopOk Tryd.prog (58 : FuncId) (58 : Nat) (loopBody Tryd.prog (58 : FuncId) (2 : Nat)).loop rotLC ∧ True ∧ True ∧ ∃ (l : List Cd), List.flatMap Ec.f m =
  List.flatMap Ec.f l ∧ true = true ∧ rotLInv (((d.fst, d.snd), b, (), wrapF IntKind.i64 (b.sub a), wrapF IntKind.i64 (n.sub b), ()), l, ()) ∧ (∀ (c : (Nat ×
  Nat) × Int × Unit × Int × Unit) (d_1 : List Cd × Unit), rotLR0 (((d.fst, d.snd), b, (), wrapF IntKind.i64 (b.sub a), wrapF IntKind.i64 (n.sub b), ()), l, ()) c
  d_1 → ∃ (l : List Cd), List.flatMap Ec.f d_1.1 = List.flatMap Ec.f l ∧ true = true ∧ swrPre (((c.1.fst, c.1.snd), wrapF IntKind.i64 (c.2.1.sub c.2.2.2.1),
  c.2.1, c.2.2.2.1, (), ()), l, ()) ∧ (∀ (c_1 : Unit) (d_2 : List Cd × Unit), swrR0 (((c.1.fst, c.1.snd), wrapF IntKind.i64 (c.2.1.sub c.2.2.2.1), c.2.1,
  c.2.2.2.1, (), ()), l, ()) c_1 d_2 → ∃ (l : List Cd), List.flatMap Ec.f d_2.1 = List.flatMap Ec.f l ∧ true = true ∧ R0 ((d, a, b, n, (), ()), m, ()) () (l,
  ())) ∧ True) ∧ True) := by kernel_rfl

def rotPre : rotZ → Prop := fun ((d, (a, (b, (n, ((), ()))))), (m, ())) => ∃ A M B : Nat, a = A ∧ b = M ∧ n = B ∧ A < M ∧ M < B ∧ B ≤ m.length ∧ d.1 = m.length ∧ m.length ≤ 1000000
def rotR0 : rotZ → (Unit) → ((List Cd) × Unit) → Prop := fun ((d, (a, (b, (n, ((), ()))))), (m, ())) _ (m2, _) => m2.length = m.length ∧ Go.Det.Stab.RotR m a.toNat b.toNat n.toNat m2
noncomputable def rotK : CallC := callC 1 rotT rotBl rotPre (rotRes rotR0)

theorem rotStep (z : rotZ) (hp : rotPre z) : callW Tryd.prog (runW Tryd.prog (KLS [(70, swrK)] [(58, [(2, rotLC)])] 25) 200) 58 (rotT.cells id z.1) (stL false (rotBl.obs id z.2)) (fun v st => resAny 1 z v st (rotRes rotR0)) := by
  obtain ⟨⟨d, a, b, n, _, _⟩, ⟨m, _⟩⟩ := z
  refine (rotFn d a b n m _).mpr ?_
  obtain ⟨A, M, B, rfl, rfl, rfl, h1, h2, h3, hd, hm⟩ := hp
  have e1 : wrapF .i64 (Int.sub (M : Int) (A : Int)) = ((M - A : Nat) : Int) := by rw [wsub (by omega) (by omega)]; omega
  have e2 : wrapF .i64 (Int.sub (B : Int) (M : Int)) = ((B - M : Nat) : Int) := by rw [wsub (by omega) (by omega)]; omega
  simp only [e1, e2]
  refine ⟨rotLOk, trivial, trivial, m, rfl, (by first | exact trivial | exact rfl), ⟨M, M - A, B - M, rfl, rfl, rfl, by omega, by omega, by omega, by omega, hd, hm⟩, fun c d1 hr => ?_, trivial⟩
  obtain ⟨d2, p2, _, i2, _⟩ := c
  obtain ⟨m2, _⟩ := d1
  obtain ⟨r1, r2, r3, r4, r5, r6, r7⟩ := hr
  obtain rfl : p2 = (M : Int) := r2
  obtain ⟨I, rfl⟩ := Int.eq_ofNat_of_zero_le (show 0 ≤ i2 from by have : 0 < i2 := r4; omega)
  replace r5 : (I : Int) ≤ (M : Int) := r5
  replace r3 : m2.length = m.length := r3
  replace r6 : (M : Int) + (I : Int) ≤ (m.length : Int) := r6
  have e3 : wrapF .i64 (Int.sub (M : Int) (I : Int)) = ((M - I : Nat) : Int) := by rw [wsub (by omega) (by omega)]; omega
  simp only [e3]
  refine ⟨m2, rfl, (by first | exact trivial | exact rfl), ⟨M - I, M, I, rfl, rfl, rfl, r1, by omega, by omega, by omega⟩, fun _ d3 hr3 => ?_, trivial⟩
  obtain ⟨m3, _⟩ := d3
  obtain ⟨hl3, hs3⟩ := hr3
  refine ⟨m3, rfl, (by first | exact trivial | exact rfl), hl3.trans r3, ?_⟩
  have h8 : Go.Det.Stab.RotR m (M - (M - A)) M (M + (B - M)) m3 := r7 m3 hs3
  rw [show M - (M - A) = A by omega, show M + (B - M) = B by omega] at h8
  exact h8
theorem rotCc : CcOk Tryd.prog 58 rotK := call_ok mixed (KLS_ok (cc_cons swrCc (cc_nil))) rfl rotStep

/-! The loop isj of slices.insertionSortCmpFunc[wayfinder/api.Cand]. -/
abbrev isjZ := ((Nat × Nat) × Int × Int × Unit × Int × Int × Unit) × ((List Cd) × Unit)
noncomputable def isjSl : Tel ((Nat × Nat) × Int × Int × Unit × Int × Int × Unit) := .cons 0 (.slq 0 4) (.cons 1 (.int .i64) (.cons 2 (.int .i64) (.cons 3 (.fnp 18 []) (.cons 8 (.int .i64) (.cons 9 (.int .i64) (.nil))))))
noncomputable def isjBl : BTel ((List Cd) × Unit) := .cons (.rows Ec 25) (.nil)
noncomputable def isjFs : List (LForm isjZ) := [⟨_, _, isjSl, isjBl, fun x y => (x, y)⟩]
noncomputable def isjAlts (R0 : isjZ → ((Nat × Nat) × Int × Int × Unit × Int × Unit) → ((List Cd) × Unit) → Prop) : List (Alt isjZ) := [⟨.exit 2, (Nat × Nat) × Int × Int × Unit × Int × Unit, (List Cd) × Unit, .cons 0 (.slq 0 4) (.cons 1 (.int .i64) (.cons 2 (.int .i64) (.cons 3 (.fnp 18 []) (.cons 8 (.int .i64) (.nil))))), .cons (.rows Ec 25) (.nil), R0⟩]

theorem isjForm (d : Nat × Nat) (a : Int) (b : Int) (i : Int) (j : Int) (m : List Cd) (N : isjZ → Prop) (R0 : isjZ → ((Nat × Nat) × Int × Int × Unit × Int × Unit) → ((List Cd) × Unit) → Prop) : ((runW Tryd.prog (KLS [(18, cmpcK)] [] 25) 100).code none 49 53 (loopBody Tryd.prog 49 4) (mkT (isjSl.av id (d, (a, (b, ((), (i, (j, ())))))))) [] (stL false (isjBl.obs id (m, ()))) (postL 1 isjFs (isjAlts R0) ((d, (a, (b, ((), (i, (j, ())))))), (m, ())) N)) =
  ( ifp (!leInt j a) (idxOk j d.fst ∧ ∃ (x : Int), nth ((Nat.add (0 : Nat) ((natOf j).mul (4 : Nat))).add (0 : Nat)) (List.flatMap Ec.f m) = some (AV.int
  IntKind.i64 x) ∧ ∃ (x_1 : Int), nth ((Nat.add (0 : Nat) ((natOf j).mul (4 : Nat))).add (1 : Nat)) (List.flatMap Ec.f m) = some (AV.int IntKind.i64 x_1) ∧ ∃
  (x_2 : Int), nth ((Nat.add (0 : Nat) ((natOf j).mul (4 : Nat))).add (2 : Nat)) (List.flatMap Ec.f m) = some (AV.int IntKind.i64 x_2) ∧ ∃ (x_3 : Int), nth
  ((Nat.add (0 : Nat) ((natOf j).mul (4 : Nat))).add (3 : Nat)) (List.flatMap Ec.f m) = some (AV.int IntKind.i64 x_3) ∧ idxOk (wrapF IntKind.i64 (j.sub (1 :
  Int))) d.fst ∧ ∃ (x_4 : Int), nth ((Nat.add (0 : Nat) ((natOf (wrapF IntKind.i64 (j.sub (1 : Int)))).mul (4 : Nat))).add (0 : Nat)) (List.flatMap Ec.f m) =
  some (AV.int IntKind.i64 x_4) ∧ ∃ (x_5 : Int), nth ((Nat.add (0 : Nat) ((natOf (wrapF IntKind.i64 (j.sub (1 : Int)))).mul (4 : Nat))).add (1 : Nat))
  (List.flatMap Ec.f m) = some (AV.int IntKind.i64 x_5) ∧ ∃ (x_6 : Int), nth ((Nat.add (0 : Nat) ((natOf (wrapF IntKind.i64 (j.sub (1 : Int)))).mul (4 :
  Nat))).add (2 : Nat)) (List.flatMap Ec.f m) = some (AV.int IntKind.i64 x_6) ∧ ∃ (x_7 : Int), nth ((Nat.add (0 : Nat) ((natOf (wrapF IntKind.i64 (j.sub (1 :
  Int)))).mul (4 : Nat))).add (3 : Nat)) (List.flatMap Ec.f m) = some (AV.int IntKind.i64 x_7) ∧ ∃ (a_1 : Cd), AV.agg [AV.int IntKind.i64 x, AV.int IntKind.i64
  x_1, AV.int IntKind.i64 x_2, AV.int IntKind.i64 x_3] = AV.agg [AV.int IntKind.i64 a_1.fst, AV.int IntKind.i64 a_1.snd.fst, AV.int IntKind.i64 a_1.snd.snd.fst,
  AV.int IntKind.i64 a_1.snd.snd.snd.fst] ∧ ∃ (a_2 : Cd), AV.agg [AV.int IntKind.i64 x_4, AV.int IntKind.i64 x_5, AV.int IntKind.i64 x_6, AV.int IntKind.i64 x_7]
  = AV.agg [AV.int IntKind.i64 a_2.fst, AV.int IntKind.i64 a_2.snd.fst, AV.int IntKind.i64 a_2.snd.snd.fst, AV.int IntKind.i64 a_2.snd.snd.snd.fst] ∧ cmpcPre
  (a_1, a_2, ()) ∧ ifp (!leInt (0 : Int) (cmpcV a_1 a_2)) (True ∧ True ∧ idxOk (wrapF IntKind.i64 (j.sub (1 : Int))) d.fst ∧ ∃ (x : Int), nth ((Nat.add (0 : Nat)
  ((natOf (wrapF IntKind.i64 (j.sub (1 : Int)))).mul (4 : Nat))).add (0 : Nat)) (List.flatMap Ec.f m) = some (AV.int IntKind.i64 x) ∧ ∃ (x_8 : Int), nth
  ((Nat.add (0 : Nat) ((natOf (wrapF IntKind.i64 (j.sub (1 : Int)))).mul (4 : Nat))).add (1 : Nat)) (List.flatMap Ec.f m) = some (AV.int IntKind.i64 x_8) ∧ ∃
  (x_9 : Int), nth ((Nat.add (0 : Nat) ((natOf (wrapF IntKind.i64 (j.sub (1 : Int)))).mul (4 : Nat))).add (2 : Nat)) (List.flatMap Ec.f m) = some (AV.int
  IntKind.i64 x_9) ∧ ∃ (x_10 : Int), nth ((Nat.add (0 : Nat) ((natOf (wrapF IntKind.i64 (j.sub (1 : Int)))).mul (4 : Nat))).add (3 : Nat)) (List.flatMap Ec.f m)
  = some (AV.int IntKind.i64 x_10) ∧ idxOk j d.fst ∧ ∃ (x_11 : Int), nth ((Nat.add (0 : Nat) ((natOf j).mul (4 : Nat))).add (0 : Nat)) (List.flatMap Ec.f m) =
  some (AV.int IntKind.i64 x_11) ∧ ∃ (x_12 : Int), nth ((Nat.add (0 : Nat) ((natOf j).mul (4 : Nat))).add (1 : Nat)) (List.flatMap Ec.f m) = some (AV.int
  IntKind.i64 x_12) ∧ ∃ (x_13 : Int), nth ((Nat.add (0 : Nat) ((natOf j).mul (4 : Nat))).add (2 : Nat)) (List.flatMap Ec.f m) = some (AV.int IntKind.i64 x_13) ∧
  ∃ (x_14 : Int), nth ((Nat.add (0 : Nat) ((natOf j).mul (4 : Nat))).add (3 : Nat)) (List.flatMap Ec.f m) = some (AV.int IntKind.i64 x_14) ∧ idxOk j d.fst ∧
  (Nat.add (0 : Nat) ((natOf j).mul (4 : Nat))).add (4 : Nat) ≤ (List.flatMap Ec.f m).length ∧ idxOk (wrapF IntKind.i64 (j.sub (1 : Int))) d.fst ∧ (Nat.add (0 :
  Nat) ((natOf (wrapF IntKind.i64 (j.sub (1 : Int)))).mul (4 : Nat))).add (4 : Nat) ≤ (setAt (Nat.add (0 : Nat) ((natOf j).mul (4 : Nat))) [AV.int IntKind.i64 x,
  AV.int IntKind.i64 x_8, AV.int IntKind.i64 x_9, AV.int IntKind.i64 x_10] (List.flatMap Ec.f m)).length ∧ True ∧ True ∧ True ∧ ∃ (l : List Cd), setAt (Nat.add
  (0 : Nat) ((natOf (wrapF IntKind.i64 (j.sub (1 : Int)))).mul (4 : Nat))) [AV.int IntKind.i64 x_11, AV.int IntKind.i64 x_12, AV.int IntKind.i64 x_13, AV.int
  IntKind.i64 x_14] (setAt (Nat.add (0 : Nat) ((natOf j).mul (4 : Nat))) [AV.int IntKind.i64 x, AV.int IntKind.i64 x_8, AV.int IntKind.i64 x_9, AV.int
  IntKind.i64 x_10] (List.flatMap Ec.f m)) = List.flatMap Ec.f l ∧ true = true ∧ N (((d.fst, d.snd), a, b, (), i, wrapF IntKind.i64 (j.sub (1 : Int)), ()), l,
  ())) (True ∧ True ∧ True ∧ ∃ (l : List Cd), List.flatMap Ec.f m = List.flatMap Ec.f l ∧ true = true ∧ R0 ((d, a, b, (), i, j, ()), m, ()) ((d.fst, d.snd), a,
  b, (), i, ()) (l, ()))) (True ∧ ∃ (l : List Cd), List.flatMap Ec.f m = List.flatMap Ec.f l ∧ true = true ∧ R0 ((d, a, b, (), i, j, ()), m, ()) ((d.fst, d.snd),
  a, b, (), i, ()) (l, ()))) := by kernel_rfl

def isjInv : isjZ → Prop := fun ((d, (a, (b, ((), (i, (j, ())))))), (m, ())) => ∃ A J : Nat, a = A ∧ j = J ∧ A ≤ J ∧ J < m.length ∧ d.1 = m.length ∧ m.length ≤ 1000000
def isjMu : isjZ → Nat := fun ((d, (a, (b, ((), (i, (j, ())))))), (m, ())) => j.toNat
def isjR0 : isjZ → ((Nat × Nat) × Int × Int × Unit × Int × Unit) → ((List Cd) × Unit) → Prop := fun ((d, (a, (b, ((), (i, (j, ())))))), (m, ())) (d2, a2, b2, _, i2, _) (m2, _) => d2.1 = m2.length ∧ a2 = a ∧ b2 = b ∧ i2 = i ∧ m2.length = m.length ∧ Go.Det.Stab.InsL ltC m a.toNat j.toNat m2
noncomputable def isjC : LoopC := loopC 1 isjFs (isjAlts isjR0) isjInv

theorem isjStep : stepsOk Tryd.prog (KLS [(18, cmpcK)] [] 25) 100 49 53 (loopBody Tryd.prog 49 4) 1 false isjFs (isjAlts isjR0) isjInv isjMu ⟨_, _, isjSl, isjBl, fun x y => (x, y)⟩ := by
  intro x y hz
  obtain ⟨d, a, b, _, i, j, _⟩ := x
  obtain ⟨m, _⟩ := y
  refine (isjForm d a b i j m _ _).mpr ?_
  obtain ⟨A, J, rfl, rfl, hA, hJ, hd, hm⟩ := hz
  obtain ⟨d1, d2⟩ := d
  obtain rfl : d1 = m.length := hd
  rw [ifp_lt]
  split
  · rename_i h
    have hp : J - 1 < m.length := by omega
    have e1 : wrapF .i64 (Int.sub (J : Int) 1) = ((J - 1 : Nat) : Int) := by rw [wsub (by omega) (by omega)]; omega
    simp only [e1, natOf_nat]
    refine ⟨idx_ok hJ, _, nth_cdR0 hJ, _, nth_cdR1 hJ, _, nth_cdR2 hJ, _, nth_cdR3 hJ, idx_ok hp, _, nth_cdR0 hp, _, nth_cdR1 hp, _, nth_cdR2 hp, _, nth_cdR3 hp, m[J], rfl, m[J - 1], rfl, trivial, ?_⟩
    rw [ifp_lt]
    split
    · rename_i hlt
      have hlt' : ltC m[J] m[J - 1] = true := by rw [ltC]; simpa using hlt
      have hl := Go.Det.Stab.sw_len m J (J - 1)
      refine ⟨trivial, trivial, idx_ok hp, _, nth_cdR0 hp, _, nth_cdR1 hp, _, nth_cdR2 hp, _, nth_cdR3 hp, idx_ok hJ, _, nth_cdR0 hJ, _, nth_cdR1 hJ, _, nth_cdR2 hJ, _, nth_cdR3 hJ, idx_ok hJ, cd_fit hJ rfl, idx_ok hp, by rw [cd_set (x := m[J - 1]) hJ]; exact cd_fit hp (by simp), trivial, trivial, trivial, Go.Det.Stab.sw m J (J - 1), cd_sw hJ hp, (by first | exact trivial | exact rfl), ⟨A, J - 1, rfl, rfl, by omega, by omega, hl.symm, by omega⟩, by show J - 1 < J; omega, fun c d2 hr => ?_, trivial⟩
      obtain ⟨dd, a2, b2, _, i2, _⟩ := c
      obtain ⟨m2, _⟩ := d2
      obtain ⟨r1, r2, r3, r4, r5, r6⟩ := hr
      exact ⟨r1, r2, r3, r4, r5.trans hl, Go.Det.Stab.InsL.step (by omega) hJ hlt' r6⟩
    · rename_i hlt
      have hlt' : ltC m[J] m[J - 1] = false := by rw [ltC]; simpa using hlt
      exact ⟨trivial, trivial, trivial, m, rfl, (by first | exact trivial | exact rfl), rfl, rfl, rfl, rfl, rfl, Go.Det.Stab.InsL.stop weakC (by omega) hJ hlt'⟩
  · rename_i h
    exact ⟨trivial, m, rfl, (by first | exact trivial | exact rfl), rfl, rfl, rfl, rfl, rfl, Go.Det.Stab.InsL.zero (by show J ≤ A; omega)⟩
theorem isjOk : LoopOk Tryd.prog 49 53 (.loop (loopBody Tryd.prog 49 4)) (isjC) := loop_ok isjMu  mixed (KLS_ok (cc_cons cmpcCc (cc_nil))) rfl (steps_cons isjStep (steps_nil))

/-! The loop isi of slices.insertionSortCmpFunc[wayfinder/api.Cand]. -/
abbrev isiZ := ((Nat × Nat) × Int × Int × Unit × Int × Unit) × ((List Cd) × Unit)
noncomputable def isiSl : Tel ((Nat × Nat) × Int × Int × Unit × Int × Unit) := .cons 0 (.slq 0 4) (.cons 1 (.int .i64) (.cons 2 (.int .i64) (.cons 3 (.fnp 18 []) (.cons 8 (.int .i64) (.nil)))))
noncomputable def isiBl : BTel ((List Cd) × Unit) := .cons (.rows Ec 25) (.nil)
noncomputable def isiFs : List (LForm isiZ) := [⟨_, _, isiSl, isiBl, fun x y => (x, y)⟩]
noncomputable def isiAlts (R0 : isiZ → (Unit) → ((List Cd) × Unit) → Prop) : List (Alt isiZ) := [⟨.exit 0, Unit, (List Cd) × Unit, .nil, .cons (.rows Ec 25) (.nil), R0⟩]

theorem isiForm (d : Nat × Nat) (a : Int) (b : Int) (i : Int) (m : List Cd) (N : isiZ → Prop) (R0 : isiZ → (Unit) → ((List Cd) × Unit) → Prop) : ((runW Tryd.prog (KLS [(18, cmpcK)] [(49, [(4, isjC)])] 25) 100).code none 49 53 (loopBody Tryd.prog 49 1) (mkT (isiSl.av id (d, (a, (b, ((), (i, ()))))))) [] (stL false (isiBl.obs id (m, ()))) (postL 1 isiFs (isiAlts R0) ((d, (a, (b, ((), (i, ()))))), (m, ())) N)) =
  ( ifp (!leInt b i) (LoopOk Tryd.prog (49 : FuncId) (53 : Nat) (loopBody Tryd.prog (49 : FuncId) (4 : Nat)).loop isjC ∧ True ∧ True ∧ ∃ (l : List Cd), List.flatMap
  Ec.f m = List.flatMap Ec.f l ∧ true = true ∧ isjInv (((d.fst, d.snd), a, b, (), i, i, ()), l, ()) ∧ (∀ (c : (Nat × Nat) × Int × Int × Unit × Int × Unit) (d_1 :
  List Cd × Unit), isjR0 (((d.fst, d.snd), a, b, (), i, i, ()), l, ()) c d_1 → True ∧ ∃ (l : List Cd), List.flatMap Ec.f d_1.1 = List.flatMap Ec.f l ∧ true =
  true ∧ N (((c.1.fst, c.1.snd), c.2.1, c.2.2.1, (), wrapF IntKind.i64 (c.2.2.2.2.1.add (1 : Int)), ()), l, ())) ∧ True) (True ∧ ∃ (l : List Cd), List.flatMap
  Ec.f m = List.flatMap Ec.f l ∧ true = true ∧ R0 ((d, a, b, (), i, ()), m, ()) () (l, ()))) := by kernel_rfl

def isiInv : isiZ → Prop := fun ((d, (a, (b, ((), (i, ()))))), (m, ())) => ∃ A B I : Nat, a = A ∧ b = B ∧ i = I ∧ A < I ∧ B ≤ m.length ∧ d.1 = m.length ∧ m.length ≤ 1000000
def isiMu : isiZ → Nat := fun ((d, (a, (b, ((), (i, ()))))), (m, ())) => b.toNat - i.toNat
def isiR0 : isiZ → (Unit) → ((List Cd) × Unit) → Prop := fun ((d, (a, (b, ((), (i, ()))))), (m, ())) _ (m2, _) => m2.length = m.length ∧ Go.Det.Stab.InsO ltC m a.toNat i.toNat b.toNat m2 ∧ (b.toNat ≤ i.toNat → m2 = m)
noncomputable def isiC : LoopC := loopC 1 isiFs (isiAlts isiR0) isiInv

theorem isiStep : stepsOk Tryd.prog (KLS [(18, cmpcK)] [(49, [(4, isjC)])] 25) 100 49 53 (loopBody Tryd.prog 49 1) 1 false isiFs (isiAlts isiR0) isiInv isiMu ⟨_, _, isiSl, isiBl, fun x y => (x, y)⟩ := by
  intro x y hz
  obtain ⟨d, a, b, _, i, _⟩ := x
  obtain ⟨m, _⟩ := y
  refine (isiForm d a b i m _ _).mpr ?_
  obtain ⟨A, B, I, rfl, rfl, rfl, h1, h2, hd, hm⟩ := hz
  rw [ifp_lt]
  split
  · rename_i h
    refine ⟨isjOk, trivial, trivial, m, rfl, (by first | exact trivial | exact rfl), ⟨A, I, rfl, rfl, by omega, by omega, hd, hm⟩, fun c d1 hr => ?_, trivial⟩
    obtain ⟨dd, a2, b2, _, i2, _⟩ := c
    obtain ⟨m2, _⟩ := d1
    obtain ⟨r1, r2, r3, r4, r5, r6⟩ := hr
    obtain rfl : a2 = (A : Int) := r2
    obtain rfl : b2 = (B : Int) := r3
    obtain rfl : i2 = (I : Int) := r4
    replace r5 : m2.length = m.length := r5
    have e1 : wrapF .i64 (Int.add (I : Int) 1) = ((I + 1 : Nat) : Int) := by rw [wadd (by omega) (by omega)]; omega
    simp only [e1]
    exact ⟨trivial, m2, rfl, (by first | exact trivial | exact rfl), ⟨A, B, I + 1, rfl, rfl, rfl, by omega, by omega, r1, by omega⟩, by show B - (I + 1) < B - I; omega, fun _ d3 hr3 => ⟨hr3.1.trans r5, Go.Det.Stab.InsO.step weakC (by show I < B; omega) r6 hr3.2.1, fun hh => absurd (show B ≤ I from hh) (by omega)⟩, trivial⟩
  · rename_i h
    exact ⟨trivial, m, rfl, (by first | exact trivial | exact rfl), rfl, Go.Det.Stab.InsO.zero (by show B ≤ I; omega), fun _ => rfl⟩
theorem isiOk : LoopOk Tryd.prog 49 53 (.loop (loopBody Tryd.prog 49 1)) (isiC) := loop_ok isiMu  mixed (KLS_ok (cc_cons cmpcCc (cc_nil))) rfl (steps_cons isiStep (steps_nil))

/-! slices.insertionSortCmpFunc[wayfinder/api.Cand] -/
abbrev insZ := ((Nat × Nat) × Int × Int × Unit × Unit) × ((List Cd) × Unit)
noncomputable def insT : Tel ((Nat × Nat) × Int × Int × Unit × Unit) := .cons 0 (.slq 0 4) (.cons 1 (.int .i64) (.cons 2 (.int .i64) (.cons 3 (.fnp 18 []) (.nil))))
noncomputable def insBl : BTel ((List Cd) × Unit) := .cons (.rows Ec 25) (.nil)
noncomputable def insRes (R0 : insZ → (Unit) → ((List Cd) × Unit) → Prop) : List (Res insZ) := [⟨Unit, (List Cd) × Unit, .nil, .cons (.rows Ec 25) (.nil), R0⟩]

theorem insFn (d : Nat × Nat) (a : Int) (b : Int) (m : List Cd) (R0 : insZ → (Unit) → ((List Cd) × Unit) → Prop) : (callW Tryd.prog (runW Tryd.prog (KLS [(18, cmpcK)] [(49, [(1, isiC)])] 25) 200) 49 (insT.cells id (d, (a, (b, ((), ()))))) (stL false (insBl.obs id (m, ()))) (fun v st => resAny 1 ((d, (a, (b, ((), ())))), (m, ())) v st (insRes R0))) =
  ( LoopOk Tryd.prog (49 : FuncId) (53 : Nat) (loopBody Tryd.prog (49 : FuncId) (1 : Nat)).loop isiC ∧ True ∧ True ∧ ∃ (l : List Cd), List.flatMap Ec.f m =
  List.flatMap Ec.f l ∧ true = true ∧ isiInv (((d.fst, d.snd), a, b, (), wrapF IntKind.i64 (a.add (1 : Int)), ()), l, ()) ∧ (∀ (c : Unit) (d_1 : List Cd × Unit),
  isiR0 (((d.fst, d.snd), a, b, (), wrapF IntKind.i64 (a.add (1 : Int)), ()), l, ()) c d_1 → ∃ (l : List Cd), List.flatMap Ec.f d_1.1 = List.flatMap Ec.f l ∧
  true = true ∧ R0 ((d, a, b, (), ()), m, ()) () (l, ())) ∧ True) := by kernel_rfl

def insPre : insZ → Prop := fun ((d, (a, (b, ((), ())))), (m, ())) => ∃ A B : Nat, a = A ∧ b = B ∧ A ≤ B ∧ B ≤ m.length ∧ d.1 = m.length ∧ m.length ≤ 1000000
def insR0 : insZ → (Unit) → ((List Cd) × Unit) → Prop := fun ((d, (a, (b, ((), ())))), (m, ())) _ (m2, _) => m2.length = m.length ∧ Go.Det.Stab.SortR ltC m a.toNat b.toNat m2
noncomputable def insK : CallC := callC 1 insT insBl insPre (insRes insR0)

theorem insStep (z : insZ) (hp : insPre z) : callW Tryd.prog (runW Tryd.prog (KLS [(18, cmpcK)] [(49, [(1, isiC)])] 25) 200) 49 (insT.cells id z.1) (stL false (insBl.obs id z.2)) (fun v st => resAny 1 z v st (insRes insR0)) := by
  obtain ⟨⟨d, a, b, _, _⟩, ⟨m, _⟩⟩ := z
  refine (insFn d a b m _).mpr ?_
  obtain ⟨A, B, rfl, rfl, h1, h2, hd, hm⟩ := hp
  have e1 : wrapF .i64 (Int.add (A : Int) 1) = ((A + 1 : Nat) : Int) := by rw [wadd (by omega) (by omega)]; omega
  simp only [e1]
  refine ⟨isiOk, trivial, trivial, m, rfl, (by first | exact trivial | exact rfl), ⟨A, B, A + 1, rfl, rfl, rfl, by omega, h2, hd, hm⟩, fun _ d1 hr => ?_, trivial⟩
  obtain ⟨m2, _⟩ := d1
  obtain ⟨r1, r2, r3⟩ := hr
  refine ⟨m2, rfl, (by first | exact trivial | exact rfl), r1, ?_⟩
  rcases Nat.lt_or_ge A B with hab | hab
  · exact Go.Det.Stab.SortR.ofO hab r2
  · obtain rfl : m2 = m := r3 (show B ≤ A + 1 by omega)
    exact Go.Det.Stab.SortR.triv (show B ≤ A + 1 by omega)
theorem insCc : CcOk Tryd.prog 49 insK := call_ok mixed (KLS_ok (cc_cons cmpcCc (cc_nil))) rfl insStep

theorem mid_eq {I J : Nat} (h : I + J ≤ 4000000) : wrapF .i64 (shrV .u64 (wrapF .u64 (wrapF .i64 (Int.add (I : Int) (J : Int)))) 1) = (((I + J) / 2 : Nat) : Int) := by
  rw [wadd (by omega) (by omega), wu64 (by omega) (by omega)]
  have e1 : shrV .u64 ((I : Int) + (J : Int)) 1 = (((I + J) / 2 : Nat) : Int) := by
    show Int.fdiv ((I : Int) + (J : Int)) 2 = _
    rw [Int.fdiv_eq_ediv_of_nonneg _ (by decide)]; omega
  rw [e1, w64 (by omega) (by omega)]

/-! The loop sm1 of slices.symMergeCmpFunc[wayfinder/api.Cand]. -/
abbrev sm1Z := ((Nat × Nat) × Int × Int × Int × Unit × Int × Int × Unit) × ((List Cd) × Unit)
noncomputable def sm1Sl : Tel ((Nat × Nat) × Int × Int × Int × Unit × Int × Int × Unit) := .cons 0 (.slq 0 4) (.cons 1 (.int .i64) (.cons 2 (.int .i64) (.cons 3 (.int .i64) (.cons 4 (.fnp 18 []) (.cons 10 (.int .i64) (.cons 11 (.int .i64) (.nil)))))))
noncomputable def sm1Bl : BTel ((List Cd) × Unit) := .cons (.rows Ec 25) (.nil)
noncomputable def sm1Fs : List (LForm sm1Z) := [⟨_, _, sm1Sl, sm1Bl, fun x y => (x, y)⟩]
noncomputable def sm1Alts (R0 : sm1Z → ((Nat × Nat) × Int × Int × Int × Unit × Int × Unit) → ((List Cd) × Unit) → Prop) : List (Alt sm1Z) := [⟨.exit 0, (Nat × Nat) × Int × Int × Int × Unit × Int × Unit, (List Cd) × Unit, .cons 0 (.slq 0 4) (.cons 1 (.int .i64) (.cons 2 (.int .i64) (.cons 3 (.int .i64) (.cons 4 (.fnp 18 []) (.cons 10 (.int .i64) (.nil)))))), .cons (.rows Ec 25) (.nil), R0⟩]

theorem sm1Form (d : Nat × Nat) (a : Int) (p : Int) (b : Int) (i : Int) (j : Int) (m : List Cd) (N : sm1Z → Prop) (R0 : sm1Z → ((Nat × Nat) × Int × Int × Int × Unit × Int × Unit) → ((List Cd) × Unit) → Prop) : ((runW Tryd.prog (KLS [(18, cmpcK)] [] 25) 100).code none 50 220 (loopBody Tryd.prog 50 3) (mkT (sm1Sl.av id (d, (a, (p, (b, ((), (i, (j, ()))))))))) [] (stL false (sm1Bl.obs id (m, ()))) (postL 1 sm1Fs (sm1Alts R0) ((d, (a, (p, (b, ((), (i, (j, ()))))))), (m, ())) N)) =
  ( ifp (!leInt j i) ((0 : Int) ≤ (1 : Int) ∧ idxOk (wrapF IntKind.i64 (shrV IntKind.u64 (wrapF IntKind.u64 (wrapF IntKind.i64 (i.add j))) (1 : Int))) d.fst ∧ ∃ (x
  : Int), nth ((Nat.add (0 : Nat) ((natOf (wrapF IntKind.i64 (shrV IntKind.u64 (wrapF IntKind.u64 (wrapF IntKind.i64 (i.add j))) (1 : Int)))).mul (4 : Nat))).add
  (0 : Nat)) (List.flatMap Ec.f m) = some (AV.int IntKind.i64 x) ∧ ∃ (x_1 : Int), nth ((Nat.add (0 : Nat) ((natOf (wrapF IntKind.i64 (shrV IntKind.u64 (wrapF
  IntKind.u64 (wrapF IntKind.i64 (i.add j))) (1 : Int)))).mul (4 : Nat))).add (1 : Nat)) (List.flatMap Ec.f m) = some (AV.int IntKind.i64 x_1) ∧ ∃ (x_2 : Int),
  nth ((Nat.add (0 : Nat) ((natOf (wrapF IntKind.i64 (shrV IntKind.u64 (wrapF IntKind.u64 (wrapF IntKind.i64 (i.add j))) (1 : Int)))).mul (4 : Nat))).add (2 :
  Nat)) (List.flatMap Ec.f m) = some (AV.int IntKind.i64 x_2) ∧ ∃ (x_3 : Int), nth ((Nat.add (0 : Nat) ((natOf (wrapF IntKind.i64 (shrV IntKind.u64 (wrapF
  IntKind.u64 (wrapF IntKind.i64 (i.add j))) (1 : Int)))).mul (4 : Nat))).add (3 : Nat)) (List.flatMap Ec.f m) = some (AV.int IntKind.i64 x_3) ∧ idxOk a d.fst ∧
  ∃ (x_4 : Int), nth ((Nat.add (0 : Nat) ((natOf a).mul (4 : Nat))).add (0 : Nat)) (List.flatMap Ec.f m) = some (AV.int IntKind.i64 x_4) ∧ ∃ (x_5 : Int), nth
  ((Nat.add (0 : Nat) ((natOf a).mul (4 : Nat))).add (1 : Nat)) (List.flatMap Ec.f m) = some (AV.int IntKind.i64 x_5) ∧ ∃ (x_6 : Int), nth ((Nat.add (0 : Nat)
  ((natOf a).mul (4 : Nat))).add (2 : Nat)) (List.flatMap Ec.f m) = some (AV.int IntKind.i64 x_6) ∧ ∃ (x_7 : Int), nth ((Nat.add (0 : Nat) ((natOf a).mul (4 :
  Nat))).add (3 : Nat)) (List.flatMap Ec.f m) = some (AV.int IntKind.i64 x_7) ∧ ∃ (a_1 : Cd), AV.agg [AV.int IntKind.i64 x, AV.int IntKind.i64 x_1, AV.int
  IntKind.i64 x_2, AV.int IntKind.i64 x_3] = AV.agg [AV.int IntKind.i64 a_1.fst, AV.int IntKind.i64 a_1.snd.fst, AV.int IntKind.i64 a_1.snd.snd.fst, AV.int
  IntKind.i64 a_1.snd.snd.snd.fst] ∧ ∃ (a_2 : Cd), AV.agg [AV.int IntKind.i64 x_4, AV.int IntKind.i64 x_5, AV.int IntKind.i64 x_6, AV.int IntKind.i64 x_7] =
  AV.agg [AV.int IntKind.i64 a_2.fst, AV.int IntKind.i64 a_2.snd.fst, AV.int IntKind.i64 a_2.snd.snd.fst, AV.int IntKind.i64 a_2.snd.snd.snd.fst] ∧ cmpcPre (a_1,
  a_2, ()) ∧ ifp (!leInt (0 : Int) (cmpcV a_1 a_2)) (True ∧ True ∧ True ∧ ∃ (l : List Cd), List.flatMap Ec.f m = List.flatMap Ec.f l ∧ true = true ∧ N (((d.fst,
  d.snd), a, p, b, (), wrapF IntKind.i64 ((wrapF IntKind.i64 (shrV IntKind.u64 (wrapF IntKind.u64 (wrapF IntKind.i64 (i.add j))) (1 : Int))).add (1 : Int)), j,
  ()), l, ())) (True ∧ True ∧ True ∧ ∃ (l : List Cd), List.flatMap Ec.f m = List.flatMap Ec.f l ∧ true = true ∧ N (((d.fst, d.snd), a, p, b, (), i, wrapF
  IntKind.i64 (shrV IntKind.u64 (wrapF IntKind.u64 (wrapF IntKind.i64 (i.add j))) (1 : Int)), ()), l, ()))) (True ∧ ∃ (l : List Cd), List.flatMap Ec.f m =
  List.flatMap Ec.f l ∧ true = true ∧ R0 ((d, a, p, b, (), i, j, ()), m, ()) ((d.fst, d.snd), a, p, b, (), i, ()) (l, ()))) := by kernel_rfl

def sm1Inv : sm1Z → Prop := fun ((d, (a, (p, (b, ((), (i, (j, ()))))))), (m, ())) => ∃ A I J : Nat, a = A ∧ i = I ∧ j = J ∧ A < m.length ∧ I ≤ J ∧ J ≤ m.length ∧ d.1 = m.length ∧ m.length ≤ 1000000
def sm1Mu : sm1Z → Nat := fun ((d, (a, (p, (b, ((), (i, (j, ()))))))), (m, ())) => j.toNat - i.toNat
def sm1R0 : sm1Z → ((Nat × Nat) × Int × Int × Int × Unit × Int × Unit) → ((List Cd) × Unit) → Prop := fun ((d, (a, (p, (b, ((), (i, (j, ()))))))), (m, ())) (d2, a2, p2, b2, _, i2, _) (m2, _) => d2 = d ∧ a2 = a ∧ p2 = p ∧ b2 = b ∧ m2 = m ∧ ∃ r : Nat, i2 = r ∧ Go.Det.Stab.BS (fun h => Go.Det.Stab.at_ ltC m h a.toNat) i.toNat j.toNat r
noncomputable def sm1C : LoopC := loopC 1 sm1Fs (sm1Alts sm1R0) sm1Inv

theorem sm1Step : stepsOk Tryd.prog (KLS [(18, cmpcK)] [] 25) 100 50 220 (loopBody Tryd.prog 50 3) 1 false sm1Fs (sm1Alts sm1R0) sm1Inv sm1Mu ⟨_, _, sm1Sl, sm1Bl, fun x y => (x, y)⟩ := by
  intro x y hz
  obtain ⟨d, a, p, b, _, i, j, _⟩ := x
  obtain ⟨m, _⟩ := y
  refine (sm1Form d a p b i j m _ _).mpr ?_
  obtain ⟨A, I, J, rfl, rfl, rfl, hA, hIJ, hJ, hd, hm⟩ := hz
  obtain ⟨d1, d2⟩ := d
  obtain rfl : d1 = m.length := hd
  rw [ifp_lt]
  split
  · rename_i h
    have eh := mid_eq (I := I) (J := J) (by omega)
    obtain ⟨H, hH⟩ : ∃ H, H = (I + J) / 2 := ⟨_, rfl⟩
    rw [← hH] at eh
    have hHl : H < m.length := by omega
    have e1 : wrapF .i64 (Int.add (H : Int) 1) = ((H + 1 : Nat) : Int) := by rw [wadd (by omega) (by omega)]; omega
    simp only [eh, natOf_nat]
    refine ⟨by decide, idx_ok hHl, _, nth_cdR0 hHl, _, nth_cdR1 hHl, _, nth_cdR2 hHl, _, nth_cdR3 hHl, idx_ok hA, _, nth_cdR0 hA, _, nth_cdR1 hA, _, nth_cdR2 hA, _, nth_cdR3 hA, m[H], rfl, m[A], rfl, trivial, ?_⟩
    rw [ifp_lt]
    split
    · rename_i hlt
      have hlt2 : ltC m[H] m[A] = true := by rw [ltC]; simpa using hlt
      simp only [e1]
      refine ⟨trivial, trivial, trivial, m, rfl, (by first | exact trivial | exact rfl), ⟨A, H + 1, J, rfl, rfl, rfl, hA, by omega, hJ, rfl, hm⟩, by show J - (H + 1) < J - I; omega, fun c d2 hr => ?_, trivial⟩
      obtain ⟨dd, a2, p2, b2, _, i2, _⟩ := c
      obtain ⟨m2, _⟩ := d2
      obtain ⟨r1, r2, r3, r4, r5, r, r6, r7⟩ := hr
      exact ⟨r1, r2, r3, r4, r5, r, r6, Go.Det.Stab.BS.up (h := H) (by show I ≤ H; omega) (by show Go.Det.Stab.at_ ltC m H A = _; rw [Go.Det.Stab.at_eq hHl hA]; exact hlt2) r7⟩
    · rename_i hlt
      have hlt2 : ltC m[H] m[A] = false := by rw [ltC]; simpa using hlt
      refine ⟨trivial, trivial, trivial, m, rfl, (by first | exact trivial | exact rfl), ⟨A, I, H, rfl, rfl, rfl, hA, by omega, by omega, rfl, hm⟩, by show H - I < J - I; omega, fun c d2 hr => ?_, trivial⟩
      obtain ⟨dd, a2, p2, b2, _, i2, _⟩ := c
      obtain ⟨m2, _⟩ := d2
      obtain ⟨r1, r2, r3, r4, r5, r, r6, r7⟩ := hr
      exact ⟨r1, r2, r3, r4, r5, r, r6, Go.Det.Stab.BS.down (h := H) (by show H ≤ J; omega) (by show Go.Det.Stab.at_ ltC m H A = _; rw [Go.Det.Stab.at_eq hHl hA]; exact hlt2) r7⟩
  · rename_i h
    obtain rfl : I = J := by omega
    exact ⟨trivial, m, rfl, (by first | exact trivial | exact rfl), rfl, rfl, rfl, rfl, rfl, I, rfl, Go.Det.Stab.BS.done _ _⟩
theorem sm1Ok : LoopOk Tryd.prog 50 220 (.loop (loopBody Tryd.prog 50 3)) (sm1C) := loop_ok sm1Mu  mixed (KLS_ok (cc_cons cmpcCc (cc_nil))) rfl (steps_cons sm1Step (steps_nil))

/-! The loop sm2 of slices.symMergeCmpFunc[wayfinder/api.Cand]. -/
abbrev sm2Z := ((Nat × Nat) × Int × Int × Unit) × ((List Cd) × Unit)
noncomputable def sm2Sl : Tel ((Nat × Nat) × Int × Int × Unit) := .cons 0 (.slq 0 4) (.cons 10 (.int .i64) (.cons 13 (.int .i64) (.nil)))
noncomputable def sm2Bl : BTel ((List Cd) × Unit) := .cons (.rows Ec 25) (.nil)
noncomputable def sm2Fs : List (LForm sm2Z) := [⟨_, _, sm2Sl, sm2Bl, fun x y => (x, y)⟩]
noncomputable def sm2Alts (R0 : sm2Z → (Unit) → ((List Cd) × Unit) → Prop) : List (Alt sm2Z) := [⟨.exit 2, Unit, (List Cd) × Unit, .nil, .cons (.rows Ec 25) (.nil), R0⟩]

theorem sm2Form (d : Nat × Nat) (i : Int) (k : Int) (m : List Cd) (N : sm2Z → Prop) (R0 : sm2Z → (Unit) → ((List Cd) × Unit) → Prop) : ((runW Tryd.prog (KLS [] [] 25) 100).code none 50 220 (loopBody Tryd.prog 50 9) (mkT (sm2Sl.av id (d, (i, (k, ()))))) [] (stL false (sm2Bl.obs id (m, ()))) (postL 1 sm2Fs (sm2Alts R0) ((d, (i, (k, ()))), (m, ())) N)) =
  ( ifp (!leInt (wrapF IntKind.i64 (i.sub (1 : Int))) k) (idxOk (wrapF IntKind.i64 (k.add (1 : Int))) d.fst ∧ ∃ (x : Int), nth ((Nat.add (0 : Nat) ((natOf (wrapF
  IntKind.i64 (k.add (1 : Int)))).mul (4 : Nat))).add (0 : Nat)) (List.flatMap Ec.f m) = some (AV.int IntKind.i64 x) ∧ ∃ (x_1 : Int), nth ((Nat.add (0 : Nat)
  ((natOf (wrapF IntKind.i64 (k.add (1 : Int)))).mul (4 : Nat))).add (1 : Nat)) (List.flatMap Ec.f m) = some (AV.int IntKind.i64 x_1) ∧ ∃ (x_2 : Int), nth
  ((Nat.add (0 : Nat) ((natOf (wrapF IntKind.i64 (k.add (1 : Int)))).mul (4 : Nat))).add (2 : Nat)) (List.flatMap Ec.f m) = some (AV.int IntKind.i64 x_2) ∧ ∃
  (x_3 : Int), nth ((Nat.add (0 : Nat) ((natOf (wrapF IntKind.i64 (k.add (1 : Int)))).mul (4 : Nat))).add (3 : Nat)) (List.flatMap Ec.f m) = some (AV.int
  IntKind.i64 x_3) ∧ idxOk k d.fst ∧ ∃ (x_4 : Int), nth ((Nat.add (0 : Nat) ((natOf k).mul (4 : Nat))).add (0 : Nat)) (List.flatMap Ec.f m) = some (AV.int
  IntKind.i64 x_4) ∧ ∃ (x_5 : Int), nth ((Nat.add (0 : Nat) ((natOf k).mul (4 : Nat))).add (1 : Nat)) (List.flatMap Ec.f m) = some (AV.int IntKind.i64 x_5) ∧ ∃
  (x_6 : Int), nth ((Nat.add (0 : Nat) ((natOf k).mul (4 : Nat))).add (2 : Nat)) (List.flatMap Ec.f m) = some (AV.int IntKind.i64 x_6) ∧ ∃ (x_7 : Int), nth
  ((Nat.add (0 : Nat) ((natOf k).mul (4 : Nat))).add (3 : Nat)) (List.flatMap Ec.f m) = some (AV.int IntKind.i64 x_7) ∧ idxOk k d.fst ∧ (Nat.add (0 : Nat)
  ((natOf k).mul (4 : Nat))).add (4 : Nat) ≤ (List.flatMap Ec.f m).length ∧ idxOk (wrapF IntKind.i64 (k.add (1 : Int))) d.fst ∧ (Nat.add (0 : Nat) ((natOf (wrapF
  IntKind.i64 (k.add (1 : Int)))).mul (4 : Nat))).add (4 : Nat) ≤ (setAt (Nat.add (0 : Nat) ((natOf k).mul (4 : Nat))) [AV.int IntKind.i64 x, AV.int IntKind.i64
  x_1, AV.int IntKind.i64 x_2, AV.int IntKind.i64 x_3] (List.flatMap Ec.f m)).length ∧ True ∧ True ∧ True ∧ ∃ (l : List Cd), setAt (Nat.add (0 : Nat) ((natOf
  (wrapF IntKind.i64 (k.add (1 : Int)))).mul (4 : Nat))) [AV.int IntKind.i64 x_4, AV.int IntKind.i64 x_5, AV.int IntKind.i64 x_6, AV.int IntKind.i64 x_7] (setAt
  (Nat.add (0 : Nat) ((natOf k).mul (4 : Nat))) [AV.int IntKind.i64 x, AV.int IntKind.i64 x_1, AV.int IntKind.i64 x_2, AV.int IntKind.i64 x_3] (List.flatMap Ec.f
  m)) = List.flatMap Ec.f l ∧ true = true ∧ N (((d.fst, d.snd), i, wrapF IntKind.i64 (k.add (1 : Int)), ()), l, ())) (True ∧ ∃ (l : List Cd), List.flatMap Ec.f m
  = List.flatMap Ec.f l ∧ true = true ∧ R0 ((d, i, k, ()), m, ()) () (l, ()))) := by kernel_rfl

def sm2Inv : sm2Z → Prop := fun ((d, (i, (k, ()))), (m, ())) => ∃ I K : Nat, i = I ∧ k = K ∧ 1 ≤ I ∧ I ≤ m.length ∧ d.1 = m.length ∧ m.length ≤ 1000000
def sm2Mu : sm2Z → Nat := fun ((d, (i, (k, ()))), (m, ())) => i.toNat - k.toNat
def sm2R0 : sm2Z → (Unit) → ((List Cd) × Unit) → Prop := fun ((d, (i, (k, ()))), (m, ())) _ (m2, _) => m2.length = m.length ∧ Go.Det.Stab.MoveR m k.toNat (i.toNat - 1) m2
noncomputable def sm2C : LoopC := loopC 1 sm2Fs (sm2Alts sm2R0) sm2Inv

theorem sm2Step : stepsOk Tryd.prog (KLS [] [] 25) 100 50 220 (loopBody Tryd.prog 50 9) 1 false sm2Fs (sm2Alts sm2R0) sm2Inv sm2Mu ⟨_, _, sm2Sl, sm2Bl, fun x y => (x, y)⟩ := by
  intro x y hz
  obtain ⟨d, i, k, _⟩ := x
  obtain ⟨m, _⟩ := y
  refine (sm2Form d i k m _ _).mpr ?_
  obtain ⟨I, K, rfl, rfl, h1, h2, hd, hm⟩ := hz
  obtain ⟨d1, d2⟩ := d
  obtain rfl : d1 = m.length := hd
  have e0 : wrapF .i64 (Int.sub (I : Int) 1) = ((I - 1 : Nat) : Int) := by rw [wsub (by omega) (by omega)]; omega
  rw [e0, ifp_lt]
  split
  · rename_i h
    have hk : K < m.length := by omega
    have hk1 : K + 1 < m.length := by omega
    have e1 : wrapF .i64 (Int.add (K : Int) 1) = ((K + 1 : Nat) : Int) := by rw [wadd (by omega) (by omega)]; omega
    have hl := Go.Det.Stab.sw_len m K (K + 1)
    simp only [e1, natOf_nat]
    exact ⟨idx_ok hk1, _, nth_cdR0 hk1, _, nth_cdR1 hk1, _, nth_cdR2 hk1, _, nth_cdR3 hk1, idx_ok hk, _, nth_cdR0 hk, _, nth_cdR1 hk, _, nth_cdR2 hk, _, nth_cdR3 hk, idx_ok hk, cd_fit hk rfl, idx_ok hk1, by rw [cd_set (x := m[K + 1]) hk]; exact cd_fit hk1 (by simp), trivial, trivial, trivial, Go.Det.Stab.sw m K (K + 1), cd_sw hk hk1, (by first | exact trivial | exact rfl), ⟨I, K + 1, rfl, rfl, h1, by omega, hl.symm, by omega⟩, by show I - (K + 1) < I - K; omega, fun _ d2 hr => ⟨hr.1.trans hl, Go.Det.Stab.MoveR.step (by show K < I - 1; omega) hr.2⟩, trivial⟩
  · rename_i h
    exact ⟨trivial, m, rfl, (by first | exact trivial | exact rfl), rfl, Go.Det.Stab.MoveR.zero (by show I - 1 ≤ K; omega)⟩
theorem sm2Ok : LoopOk Tryd.prog 50 220 (.loop (loopBody Tryd.prog 50 9)) (sm2C) := loop_ok sm2Mu  mixed (KLS_ok (cc_nil)) rfl (steps_cons sm2Step (steps_nil))

/-! The loop sm3 of slices.symMergeCmpFunc[wayfinder/api.Cand]. -/
abbrev sm3Z := ((Nat × Nat) × Int × Int × Int × Unit × Int × Int × Unit) × ((List Cd) × Unit)
noncomputable def sm3Sl : Tel ((Nat × Nat) × Int × Int × Int × Unit × Int × Int × Unit) := .cons 0 (.slq 0 4) (.cons 1 (.int .i64) (.cons 2 (.int .i64) (.cons 3 (.int .i64) (.cons 4 (.fnp 18 []) (.cons 14 (.int .i64) (.cons 15 (.int .i64) (.nil)))))))
noncomputable def sm3Bl : BTel ((List Cd) × Unit) := .cons (.rows Ec 25) (.nil)
noncomputable def sm3Fs : List (LForm sm3Z) := [⟨_, _, sm3Sl, sm3Bl, fun x y => (x, y)⟩]
noncomputable def sm3Alts (R0 : sm3Z → ((Nat × Nat) × Int × Int × Int × Unit × Int × Unit) → ((List Cd) × Unit) → Prop) : List (Alt sm3Z) := [⟨.exit 4, (Nat × Nat) × Int × Int × Int × Unit × Int × Unit, (List Cd) × Unit, .cons 0 (.slq 0 4) (.cons 1 (.int .i64) (.cons 2 (.int .i64) (.cons 3 (.int .i64) (.cons 4 (.fnp 18 []) (.cons 14 (.int .i64) (.nil)))))), .cons (.rows Ec 25) (.nil), R0⟩]

theorem sm3Form (d : Nat × Nat) (a : Int) (p : Int) (b : Int) (i : Int) (j : Int) (m : List Cd) (N : sm3Z → Prop) (R0 : sm3Z → ((Nat × Nat) × Int × Int × Int × Unit × Int × Unit) → ((List Cd) × Unit) → Prop) : ((runW Tryd.prog (KLS [(18, cmpcK)] [] 25) 100).code none 50 220 (loopBody Tryd.prog 50 15) (mkT (sm3Sl.av id (d, (a, (p, (b, ((), (i, (j, ()))))))))) [] (stL false (sm3Bl.obs id (m, ()))) (postL 1 sm3Fs (sm3Alts R0) ((d, (a, (p, (b, ((), (i, (j, ()))))))), (m, ())) N)) =
  ( ifp (!leInt j i) ((0 : Int) ≤ (1 : Int) ∧ idxOk p d.fst ∧ ∃ (x : Int), nth ((Nat.add (0 : Nat) ((natOf p).mul (4 : Nat))).add (0 : Nat)) (List.flatMap Ec.f m) =
  some (AV.int IntKind.i64 x) ∧ ∃ (x_1 : Int), nth ((Nat.add (0 : Nat) ((natOf p).mul (4 : Nat))).add (1 : Nat)) (List.flatMap Ec.f m) = some (AV.int IntKind.i64
  x_1) ∧ ∃ (x_2 : Int), nth ((Nat.add (0 : Nat) ((natOf p).mul (4 : Nat))).add (2 : Nat)) (List.flatMap Ec.f m) = some (AV.int IntKind.i64 x_2) ∧ ∃ (x_3 : Int),
  nth ((Nat.add (0 : Nat) ((natOf p).mul (4 : Nat))).add (3 : Nat)) (List.flatMap Ec.f m) = some (AV.int IntKind.i64 x_3) ∧ idxOk (wrapF IntKind.i64 (shrV
  IntKind.u64 (wrapF IntKind.u64 (wrapF IntKind.i64 (i.add j))) (1 : Int))) d.fst ∧ ∃ (x_4 : Int), nth ((Nat.add (0 : Nat) ((natOf (wrapF IntKind.i64 (shrV
  IntKind.u64 (wrapF IntKind.u64 (wrapF IntKind.i64 (i.add j))) (1 : Int)))).mul (4 : Nat))).add (0 : Nat)) (List.flatMap Ec.f m) = some (AV.int IntKind.i64 x_4)
  ∧ ∃ (x_5 : Int), nth ((Nat.add (0 : Nat) ((natOf (wrapF IntKind.i64 (shrV IntKind.u64 (wrapF IntKind.u64 (wrapF IntKind.i64 (i.add j))) (1 : Int)))).mul (4 :
  Nat))).add (1 : Nat)) (List.flatMap Ec.f m) = some (AV.int IntKind.i64 x_5) ∧ ∃ (x_6 : Int), nth ((Nat.add (0 : Nat) ((natOf (wrapF IntKind.i64 (shrV
  IntKind.u64 (wrapF IntKind.u64 (wrapF IntKind.i64 (i.add j))) (1 : Int)))).mul (4 : Nat))).add (2 : Nat)) (List.flatMap Ec.f m) = some (AV.int IntKind.i64 x_6)
  ∧ ∃ (x_7 : Int), nth ((Nat.add (0 : Nat) ((natOf (wrapF IntKind.i64 (shrV IntKind.u64 (wrapF IntKind.u64 (wrapF IntKind.i64 (i.add j))) (1 : Int)))).mul (4 :
  Nat))).add (3 : Nat)) (List.flatMap Ec.f m) = some (AV.int IntKind.i64 x_7) ∧ ∃ (a_1 : Cd), AV.agg [AV.int IntKind.i64 x, AV.int IntKind.i64 x_1, AV.int
  IntKind.i64 x_2, AV.int IntKind.i64 x_3] = AV.agg [AV.int IntKind.i64 a_1.fst, AV.int IntKind.i64 a_1.snd.fst, AV.int IntKind.i64 a_1.snd.snd.fst, AV.int
  IntKind.i64 a_1.snd.snd.snd.fst] ∧ ∃ (a_2 : Cd), AV.agg [AV.int IntKind.i64 x_4, AV.int IntKind.i64 x_5, AV.int IntKind.i64 x_6, AV.int IntKind.i64 x_7] =
  AV.agg [AV.int IntKind.i64 a_2.fst, AV.int IntKind.i64 a_2.snd.fst, AV.int IntKind.i64 a_2.snd.snd.fst, AV.int IntKind.i64 a_2.snd.snd.snd.fst] ∧ cmpcPre (a_1,
  a_2, ()) ∧ ifp (!leInt (0 : Int) (cmpcV a_1 a_2)) (True ∧ True ∧ True ∧ ∃ (l : List Cd), List.flatMap Ec.f m = List.flatMap Ec.f l ∧ true = true ∧ N (((d.fst,
  d.snd), a, p, b, (), i, wrapF IntKind.i64 (shrV IntKind.u64 (wrapF IntKind.u64 (wrapF IntKind.i64 (i.add j))) (1 : Int)), ()), l, ())) (True ∧ True ∧ True ∧ ∃
  (l : List Cd), List.flatMap Ec.f m = List.flatMap Ec.f l ∧ true = true ∧ N (((d.fst, d.snd), a, p, b, (), wrapF IntKind.i64 ((wrapF IntKind.i64 (shrV
  IntKind.u64 (wrapF IntKind.u64 (wrapF IntKind.i64 (i.add j))) (1 : Int))).add (1 : Int)), j, ()), l, ()))) (True ∧ ∃ (l : List Cd), List.flatMap Ec.f m =
  List.flatMap Ec.f l ∧ true = true ∧ R0 ((d, a, p, b, (), i, j, ()), m, ()) ((d.fst, d.snd), a, p, b, (), i, ()) (l, ()))) := by kernel_rfl

def sm3Inv : sm3Z → Prop := fun ((d, (a, (p, (b, ((), (i, (j, ()))))))), (m, ())) => ∃ M I J : Nat, p = M ∧ i = I ∧ j = J ∧ M < m.length ∧ I ≤ J ∧ J ≤ m.length ∧ d.1 = m.length ∧ m.length ≤ 1000000
def sm3Mu : sm3Z → Nat := fun ((d, (a, (p, (b, ((), (i, (j, ()))))))), (m, ())) => j.toNat - i.toNat
def sm3R0 : sm3Z → ((Nat × Nat) × Int × Int × Int × Unit × Int × Unit) → ((List Cd) × Unit) → Prop := fun ((d, (a, (p, (b, ((), (i, (j, ()))))))), (m, ())) (d2, a2, p2, b2, _, i2, _) (m2, _) => d2 = d ∧ a2 = a ∧ p2 = p ∧ b2 = b ∧ m2 = m ∧ ∃ r : Nat, i2 = r ∧ Go.Det.Stab.BS (fun h => !Go.Det.Stab.at_ ltC m p.toNat h) i.toNat j.toNat r
noncomputable def sm3C : LoopC := loopC 1 sm3Fs (sm3Alts sm3R0) sm3Inv

theorem sm3Step : stepsOk Tryd.prog (KLS [(18, cmpcK)] [] 25) 100 50 220 (loopBody Tryd.prog 50 15) 1 false sm3Fs (sm3Alts sm3R0) sm3Inv sm3Mu ⟨_, _, sm3Sl, sm3Bl, fun x y => (x, y)⟩ := by
  intro x y hz
  obtain ⟨d, a, p, b, _, i, j, _⟩ := x
  obtain ⟨m, _⟩ := y
  refine (sm3Form d a p b i j m _ _).mpr ?_
  obtain ⟨M, I, J, rfl, rfl, rfl, hM, hIJ, hJ, hd, hm⟩ := hz
  obtain ⟨d1, d2⟩ := d
  obtain rfl : d1 = m.length := hd
  rw [ifp_lt]
  split
  · rename_i h
    have eh := mid_eq (I := I) (J := J) (by omega)
    obtain ⟨H, hH⟩ : ∃ H, H = (I + J) / 2 := ⟨_, rfl⟩
    rw [← hH] at eh
    have hHl : H < m.length := by omega
    have e1 : wrapF .i64 (Int.add (H : Int) 1) = ((H + 1 : Nat) : Int) := by rw [wadd (by omega) (by omega)]; omega
    simp only [eh, natOf_nat]
    refine ⟨by decide, idx_ok hM, _, nth_cdR0 hM, _, nth_cdR1 hM, _, nth_cdR2 hM, _, nth_cdR3 hM, idx_ok hHl, _, nth_cdR0 hHl, _, nth_cdR1 hHl, _, nth_cdR2 hHl, _, nth_cdR3 hHl, m[M], rfl, m[H], rfl, trivial, ?_⟩
    rw [ifp_lt]
    split
    · rename_i hlt
      have hlt2 : ltC m[M] m[H] = true := by rw [ltC]; simpa using hlt
      refine ⟨trivial, trivial, trivial, m, rfl, (by first | exact trivial | exact rfl), ⟨M, I, H, rfl, rfl, rfl, hM, by omega, by omega, rfl, hm⟩, by show H - I < J - I; omega, fun c d2 hr => ?_, trivial⟩
      obtain ⟨dd, a2, p2, b2, _, i2, _⟩ := c
      obtain ⟨m2, _⟩ := d2
      obtain ⟨r1, r2, r3, r4, r5, r, r6, r7⟩ := hr
      exact ⟨r1, r2, r3, r4, r5, r, r6, Go.Det.Stab.BS.down (h := H) (by show H ≤ J; omega) (by show (!Go.Det.Stab.at_ ltC m M H) = _; rw [Go.Det.Stab.at_eq hM hHl, hlt2]; rfl) r7⟩
    · rename_i hlt
      have hlt2 : ltC m[M] m[H] = false := by rw [ltC]; simpa using hlt
      simp only [e1]
      refine ⟨trivial, trivial, trivial, m, rfl, (by first | exact trivial | exact rfl), ⟨M, H + 1, J, rfl, rfl, rfl, hM, by omega, hJ, rfl, hm⟩, by show J - (H + 1) < J - I; omega, fun c d2 hr => ?_, trivial⟩
      obtain ⟨dd, a2, p2, b2, _, i2, _⟩ := c
      obtain ⟨m2, _⟩ := d2
      obtain ⟨r1, r2, r3, r4, r5, r, r6, r7⟩ := hr
      exact ⟨r1, r2, r3, r4, r5, r, r6, Go.Det.Stab.BS.up (h := H) (by show I ≤ H; omega) (by show (!Go.Det.Stab.at_ ltC m M H) = _; rw [Go.Det.Stab.at_eq hM hHl, hlt2]; rfl) r7⟩
  · rename_i h
    obtain rfl : I = J := by omega
    exact ⟨trivial, m, rfl, (by first | exact trivial | exact rfl), rfl, rfl, rfl, rfl, rfl, I, rfl, Go.Det.Stab.BS.done _ _⟩
theorem sm3Ok : LoopOk Tryd.prog 50 220 (.loop (loopBody Tryd.prog 50 15)) (sm3C) := loop_ok sm3Mu  mixed (KLS_ok (cc_cons cmpcCc (cc_nil))) rfl (steps_cons sm3Step (steps_nil))

/-! The loop sm4 of slices.symMergeCmpFunc[wayfinder/api.Cand]. -/
abbrev sm4Z := ((Nat × Nat) × Int × Int × Unit) × ((List Cd) × Unit)
noncomputable def sm4Sl : Tel ((Nat × Nat) × Int × Int × Unit) := .cons 0 (.slq 0 4) (.cons 14 (.int .i64) (.cons 17 (.int .i64) (.nil)))
noncomputable def sm4Bl : BTel ((List Cd) × Unit) := .cons (.rows Ec 25) (.nil)
noncomputable def sm4Fs : List (LForm sm4Z) := [⟨_, _, sm4Sl, sm4Bl, fun x y => (x, y)⟩]
noncomputable def sm4Alts (R0 : sm4Z → (Unit) → ((List Cd) × Unit) → Prop) : List (Alt sm4Z) := [⟨.exit 6, Unit, (List Cd) × Unit, .nil, .cons (.rows Ec 25) (.nil), R0⟩]

theorem sm4Form (d : Nat × Nat) (i : Int) (k : Int) (m : List Cd) (N : sm4Z → Prop) (R0 : sm4Z → (Unit) → ((List Cd) × Unit) → Prop) : ((runW Tryd.prog (KLS [] [] 25) 100).code none 50 220 (loopBody Tryd.prog 50 21) (mkT (sm4Sl.av id (d, (i, (k, ()))))) [] (stL false (sm4Bl.obs id (m, ()))) (postL 1 sm4Fs (sm4Alts R0) ((d, (i, (k, ()))), (m, ())) N)) =
  ( ifp (!leInt k i) (idxOk (wrapF IntKind.i64 (k.sub (1 : Int))) d.fst ∧ ∃ (x : Int), nth ((Nat.add (0 : Nat) ((natOf (wrapF IntKind.i64 (k.sub (1 : Int)))).mul (4
  : Nat))).add (0 : Nat)) (List.flatMap Ec.f m) = some (AV.int IntKind.i64 x) ∧ ∃ (x_1 : Int), nth ((Nat.add (0 : Nat) ((natOf (wrapF IntKind.i64 (k.sub (1 :
  Int)))).mul (4 : Nat))).add (1 : Nat)) (List.flatMap Ec.f m) = some (AV.int IntKind.i64 x_1) ∧ ∃ (x_2 : Int), nth ((Nat.add (0 : Nat) ((natOf (wrapF
  IntKind.i64 (k.sub (1 : Int)))).mul (4 : Nat))).add (2 : Nat)) (List.flatMap Ec.f m) = some (AV.int IntKind.i64 x_2) ∧ ∃ (x_3 : Int), nth ((Nat.add (0 : Nat)
  ((natOf (wrapF IntKind.i64 (k.sub (1 : Int)))).mul (4 : Nat))).add (3 : Nat)) (List.flatMap Ec.f m) = some (AV.int IntKind.i64 x_3) ∧ idxOk k d.fst ∧ ∃ (x_4 :
  Int), nth ((Nat.add (0 : Nat) ((natOf k).mul (4 : Nat))).add (0 : Nat)) (List.flatMap Ec.f m) = some (AV.int IntKind.i64 x_4) ∧ ∃ (x_5 : Int), nth ((Nat.add (0
  : Nat) ((natOf k).mul (4 : Nat))).add (1 : Nat)) (List.flatMap Ec.f m) = some (AV.int IntKind.i64 x_5) ∧ ∃ (x_6 : Int), nth ((Nat.add (0 : Nat) ((natOf k).mul
  (4 : Nat))).add (2 : Nat)) (List.flatMap Ec.f m) = some (AV.int IntKind.i64 x_6) ∧ ∃ (x_7 : Int), nth ((Nat.add (0 : Nat) ((natOf k).mul (4 : Nat))).add (3 :
  Nat)) (List.flatMap Ec.f m) = some (AV.int IntKind.i64 x_7) ∧ idxOk k d.fst ∧ (Nat.add (0 : Nat) ((natOf k).mul (4 : Nat))).add (4 : Nat) ≤ (List.flatMap Ec.f
  m).length ∧ idxOk (wrapF IntKind.i64 (k.sub (1 : Int))) d.fst ∧ (Nat.add (0 : Nat) ((natOf (wrapF IntKind.i64 (k.sub (1 : Int)))).mul (4 : Nat))).add (4 : Nat)
  ≤ (setAt (Nat.add (0 : Nat) ((natOf k).mul (4 : Nat))) [AV.int IntKind.i64 x, AV.int IntKind.i64 x_1, AV.int IntKind.i64 x_2, AV.int IntKind.i64 x_3]
  (List.flatMap Ec.f m)).length ∧ True ∧ True ∧ True ∧ ∃ (l : List Cd), setAt (Nat.add (0 : Nat) ((natOf (wrapF IntKind.i64 (k.sub (1 : Int)))).mul (4 : Nat)))
  [AV.int IntKind.i64 x_4, AV.int IntKind.i64 x_5, AV.int IntKind.i64 x_6, AV.int IntKind.i64 x_7] (setAt (Nat.add (0 : Nat) ((natOf k).mul (4 : Nat))) [AV.int
  IntKind.i64 x, AV.int IntKind.i64 x_1, AV.int IntKind.i64 x_2, AV.int IntKind.i64 x_3] (List.flatMap Ec.f m)) = List.flatMap Ec.f l ∧ true = true ∧ N (((d.fst,
  d.snd), i, wrapF IntKind.i64 (k.sub (1 : Int)), ()), l, ())) (True ∧ ∃ (l : List Cd), List.flatMap Ec.f m = List.flatMap Ec.f l ∧ true = true ∧ R0 ((d, i, k,
  ()), m, ()) () (l, ()))) := by kernel_rfl

def sm4Inv : sm4Z → Prop := fun ((d, (i, (k, ()))), (m, ())) => ∃ I K : Nat, i = I ∧ k = K ∧ K < m.length ∧ d.1 = m.length ∧ m.length ≤ 1000000
def sm4Mu : sm4Z → Nat := fun ((d, (i, (k, ()))), (m, ())) => k.toNat
def sm4R0 : sm4Z → (Unit) → ((List Cd) × Unit) → Prop := fun ((d, (i, (k, ()))), (m, ())) _ (m2, _) => m2.length = m.length ∧ Go.Det.Stab.MoveL m k.toNat i.toNat m2
noncomputable def sm4C : LoopC := loopC 1 sm4Fs (sm4Alts sm4R0) sm4Inv

theorem sm4Step : stepsOk Tryd.prog (KLS [] [] 25) 100 50 220 (loopBody Tryd.prog 50 21) 1 false sm4Fs (sm4Alts sm4R0) sm4Inv sm4Mu ⟨_, _, sm4Sl, sm4Bl, fun x y => (x, y)⟩ := by
  intro x y hz
  obtain ⟨d, i, k, _⟩ := x
  obtain ⟨m, _⟩ := y
  refine (sm4Form d i k m _ _).mpr ?_
  obtain ⟨I, K, rfl, rfl, h1, hd, hm⟩ := hz
  obtain ⟨d1, d2⟩ := d
  obtain rfl : d1 = m.length := hd
  rw [ifp_lt]
  split
  · rename_i h
    have hk1 : K - 1 < m.length := by omega
    have e1 : wrapF .i64 (Int.sub (K : Int) 1) = ((K - 1 : Nat) : Int) := by rw [wsub (by omega) (by omega)]; omega
    have hl := Go.Det.Stab.sw_len m K (K - 1)
    simp only [e1, natOf_nat]
    exact ⟨idx_ok hk1, _, nth_cdR0 hk1, _, nth_cdR1 hk1, _, nth_cdR2 hk1, _, nth_cdR3 hk1, idx_ok h1, _, nth_cdR0 h1, _, nth_cdR1 h1, _, nth_cdR2 h1, _, nth_cdR3 h1, idx_ok h1, cd_fit h1 rfl, idx_ok hk1, by rw [cd_set (x := m[K - 1]) h1]; exact cd_fit hk1 (by simp), trivial, trivial, trivial, Go.Det.Stab.sw m K (K - 1), cd_sw h1 hk1, (by first | exact trivial | exact rfl), ⟨I, K - 1, rfl, rfl, by omega, hl.symm, by omega⟩, by show K - 1 < K; omega, fun _ d2 hr => ⟨hr.1.trans hl, Go.Det.Stab.MoveL.step (by show I < K; omega) hr.2⟩, trivial⟩
  · rename_i h
    exact ⟨trivial, m, rfl, (by first | exact trivial | exact rfl), rfl, Go.Det.Stab.MoveL.zero (by show K ≤ I; omega)⟩
theorem sm4Ok : LoopOk Tryd.prog 50 220 (.loop (loopBody Tryd.prog 50 21)) (sm4C) := loop_ok sm4Mu  mixed (KLS_ok (cc_nil)) rfl (steps_cons sm4Step (steps_nil))

/-! The loop sm5 of slices.symMergeCmpFunc[wayfinder/api.Cand]. -/
abbrev sm5Z := ((Nat × Nat) × Int × Int × Int × Unit × Int × Int × Int × Int × Int × Unit) × ((List Cd) × Unit)
noncomputable def sm5Sl : Tel ((Nat × Nat) × Int × Int × Int × Unit × Int × Int × Int × Int × Int × Unit) := .cons 0 (.slq 0 4) (.cons 1 (.int .i64) (.cons 2 (.int .i64) (.cons 3 (.int .i64) (.cons 4 (.fnp 18 []) (.cons 18 (.int .i64) (.cons 19 (.int .i64) (.cons 20 (.int .i64) (.cons 21 (.int .i64) (.cons 22 (.int .i64) (.nil))))))))))
noncomputable def sm5Bl : BTel ((List Cd) × Unit) := .cons (.rows Ec 25) (.nil)
noncomputable def sm5Fs : List (LForm sm5Z) := [⟨_, _, sm5Sl, sm5Bl, fun x y => (x, y)⟩]
noncomputable def sm5Alts (R0 : sm5Z → ((Nat × Nat) × Int × Int × Int × Unit × Int × Int × Int × Unit) → ((List Cd) × Unit) → Prop) : List (Alt sm5Z) := [⟨.exit 8, (Nat × Nat) × Int × Int × Int × Unit × Int × Int × Int × Unit, (List Cd) × Unit, .cons 0 (.slq 0 4) (.cons 1 (.int .i64) (.cons 2 (.int .i64) (.cons 3 (.int .i64) (.cons 4 (.fnp 18 []) (.cons 18 (.int .i64) (.cons 19 (.int .i64) (.cons 20 (.int .i64) (.nil)))))))), .cons (.rows Ec 25) (.nil), R0⟩]

theorem sm5Form (d : Nat × Nat) (a : Int) (p : Int) (b : Int) (mid : Int) (n : Int) (s : Int) (r : Int) (q : Int) (m : List Cd) (N : sm5Z → Prop) (R0 : sm5Z → ((Nat × Nat) × Int × Int × Int × Unit × Int × Int × Int × Unit) → ((List Cd) × Unit) → Prop) : ((runW Tryd.prog (KLS [(18, cmpcK)] [] 25) 100).code none 50 220 (loopBody Tryd.prog 50 33) (mkT (sm5Sl.av id (d, (a, (p, (b, ((), (mid, (n, (s, (r, (q, ())))))))))))) [] (stL false (sm5Bl.obs id (m, ()))) (postL 1 sm5Fs (sm5Alts R0) ((d, (a, (p, (b, ((), (mid, (n, (s, (r, (q, ())))))))))), (m, ())) N)) =
  ( ifp (!leInt r s) ((0 : Int) ≤ (1 : Int) ∧ idxOk (wrapF IntKind.i64 (q.sub (wrapF IntKind.i64 (shrV IntKind.u64 (wrapF IntKind.u64 (wrapF IntKind.i64 (s.add r)))
  (1 : Int))))) d.fst ∧ ∃ (x : Int), nth ((Nat.add (0 : Nat) ((natOf (wrapF IntKind.i64 (q.sub (wrapF IntKind.i64 (shrV IntKind.u64 (wrapF IntKind.u64 (wrapF
  IntKind.i64 (s.add r))) (1 : Int)))))).mul (4 : Nat))).add (0 : Nat)) (List.flatMap Ec.f m) = some (AV.int IntKind.i64 x) ∧ ∃ (x_1 : Int), nth ((Nat.add (0 :
  Nat) ((natOf (wrapF IntKind.i64 (q.sub (wrapF IntKind.i64 (shrV IntKind.u64 (wrapF IntKind.u64 (wrapF IntKind.i64 (s.add r))) (1 : Int)))))).mul (4 :
  Nat))).add (1 : Nat)) (List.flatMap Ec.f m) = some (AV.int IntKind.i64 x_1) ∧ ∃ (x_2 : Int), nth ((Nat.add (0 : Nat) ((natOf (wrapF IntKind.i64 (q.sub (wrapF
  IntKind.i64 (shrV IntKind.u64 (wrapF IntKind.u64 (wrapF IntKind.i64 (s.add r))) (1 : Int)))))).mul (4 : Nat))).add (2 : Nat)) (List.flatMap Ec.f m) = some
  (AV.int IntKind.i64 x_2) ∧ ∃ (x_3 : Int), nth ((Nat.add (0 : Nat) ((natOf (wrapF IntKind.i64 (q.sub (wrapF IntKind.i64 (shrV IntKind.u64 (wrapF IntKind.u64
  (wrapF IntKind.i64 (s.add r))) (1 : Int)))))).mul (4 : Nat))).add (3 : Nat)) (List.flatMap Ec.f m) = some (AV.int IntKind.i64 x_3) ∧ idxOk (wrapF IntKind.i64
  (shrV IntKind.u64 (wrapF IntKind.u64 (wrapF IntKind.i64 (s.add r))) (1 : Int))) d.fst ∧ ∃ (x_4 : Int), nth ((Nat.add (0 : Nat) ((natOf (wrapF IntKind.i64 (shrV
  IntKind.u64 (wrapF IntKind.u64 (wrapF IntKind.i64 (s.add r))) (1 : Int)))).mul (4 : Nat))).add (0 : Nat)) (List.flatMap Ec.f m) = some (AV.int IntKind.i64 x_4)
  ∧ ∃ (x_5 : Int), nth ((Nat.add (0 : Nat) ((natOf (wrapF IntKind.i64 (shrV IntKind.u64 (wrapF IntKind.u64 (wrapF IntKind.i64 (s.add r))) (1 : Int)))).mul (4 :
  Nat))).add (1 : Nat)) (List.flatMap Ec.f m) = some (AV.int IntKind.i64 x_5) ∧ ∃ (x_6 : Int), nth ((Nat.add (0 : Nat) ((natOf (wrapF IntKind.i64 (shrV
  IntKind.u64 (wrapF IntKind.u64 (wrapF IntKind.i64 (s.add r))) (1 : Int)))).mul (4 : Nat))).add (2 : Nat)) (List.flatMap Ec.f m) = some (AV.int IntKind.i64 x_6)
  ∧ ∃ (x_7 : Int), nth ((Nat.add (0 : Nat) ((natOf (wrapF IntKind.i64 (shrV IntKind.u64 (wrapF IntKind.u64 (wrapF IntKind.i64 (s.add r))) (1 : Int)))).mul (4 :
  Nat))).add (3 : Nat)) (List.flatMap Ec.f m) = some (AV.int IntKind.i64 x_7) ∧ ∃ (a_1 : Cd), AV.agg [AV.int IntKind.i64 x, AV.int IntKind.i64 x_1, AV.int
  IntKind.i64 x_2, AV.int IntKind.i64 x_3] = AV.agg [AV.int IntKind.i64 a_1.fst, AV.int IntKind.i64 a_1.snd.fst, AV.int IntKind.i64 a_1.snd.snd.fst, AV.int
  IntKind.i64 a_1.snd.snd.snd.fst] ∧ ∃ (a_2 : Cd), AV.agg [AV.int IntKind.i64 x_4, AV.int IntKind.i64 x_5, AV.int IntKind.i64 x_6, AV.int IntKind.i64 x_7] =
  AV.agg [AV.int IntKind.i64 a_2.fst, AV.int IntKind.i64 a_2.snd.fst, AV.int IntKind.i64 a_2.snd.snd.fst, AV.int IntKind.i64 a_2.snd.snd.snd.fst] ∧ cmpcPre (a_1,
  a_2, ()) ∧ ifp (!leInt (0 : Int) (cmpcV a_1 a_2)) (True ∧ True ∧ True ∧ ∃ (l : List Cd), List.flatMap Ec.f m = List.flatMap Ec.f l ∧ true = true ∧ N (((d.fst,
  d.snd), a, p, b, (), mid, n, s, wrapF IntKind.i64 (shrV IntKind.u64 (wrapF IntKind.u64 (wrapF IntKind.i64 (s.add r))) (1 : Int)), q, ()), l, ())) (True ∧ True
  ∧ True ∧ ∃ (l : List Cd), List.flatMap Ec.f m = List.flatMap Ec.f l ∧ true = true ∧ N (((d.fst, d.snd), a, p, b, (), mid, n, wrapF IntKind.i64 ((wrapF
  IntKind.i64 (shrV IntKind.u64 (wrapF IntKind.u64 (wrapF IntKind.i64 (s.add r))) (1 : Int))).add (1 : Int)), r, q, ()), l, ()))) (True ∧ ∃ (l : List Cd),
  List.flatMap Ec.f m = List.flatMap Ec.f l ∧ true = true ∧ R0 ((d, a, p, b, (), mid, n, s, r, q, ()), m, ()) ((d.fst, d.snd), a, p, b, (), mid, n, s, ()) (l,
  ()))) := by kernel_rfl

def sm5Inv : sm5Z → Prop := fun ((d, (a, (p, (b, ((), (mid, (n, (s, (r, (q, ())))))))))), (m, ())) => ∃ S R Q : Nat, s = S ∧ r = R ∧ q = Q ∧ S ≤ R ∧ R ≤ m.length ∧ Q < m.length + S ∧ R ≤ Q + 1 ∧ d.1 = m.length ∧ m.length ≤ 1000000
def sm5Mu : sm5Z → Nat := fun ((d, (a, (p, (b, ((), (mid, (n, (s, (r, (q, ())))))))))), (m, ())) => r.toNat - s.toNat
def sm5R0 : sm5Z → ((Nat × Nat) × Int × Int × Int × Unit × Int × Int × Int × Unit) → ((List Cd) × Unit) → Prop := fun ((d, (a, (p, (b, ((), (mid, (n, (s, (r, (q, ())))))))))), (m, ())) (d2, a2, p2, b2, _, mid2, n2, s2, _) (m2, _) => d2 = d ∧ a2 = a ∧ p2 = p ∧ b2 = b ∧ mid2 = mid ∧ n2 = n ∧ m2 = m ∧ ∃ r2 : Nat, s2 = r2 ∧ Go.Det.Stab.BS (fun c => !Go.Det.Stab.at_ ltC m (q.toNat - c) c) s.toNat r.toNat r2
noncomputable def sm5C : LoopC := loopC 1 sm5Fs (sm5Alts sm5R0) sm5Inv

theorem sm5Step : stepsOk Tryd.prog (KLS [(18, cmpcK)] [] 25) 100 50 220 (loopBody Tryd.prog 50 33) 1 false sm5Fs (sm5Alts sm5R0) sm5Inv sm5Mu ⟨_, _, sm5Sl, sm5Bl, fun x y => (x, y)⟩ := by
  intro x y hz
  obtain ⟨d, a, p, b, _, mid, n, s, r, q, _⟩ := x
  obtain ⟨m, _⟩ := y
  refine (sm5Form d a p b mid n s r q m _ _).mpr ?_
  obtain ⟨S, R, Q, rfl, rfl, rfl, hSR, hR, hQ, hRQ, hd, hm⟩ := hz
  obtain ⟨d1, d2⟩ := d
  obtain rfl : d1 = m.length := hd
  rw [ifp_lt]
  split
  · rename_i h
    have eh := mid_eq (I := S) (J := R) (by omega)
    obtain ⟨H, hH⟩ : ∃ H, H = (S + R) / 2 := ⟨_, rfl⟩
    rw [← hH] at eh
    have hHl : H < m.length := by omega
    have e1 : wrapF .i64 (Int.add (H : Int) 1) = ((H + 1 : Nat) : Int) := by rw [wadd (by omega) (by omega)]; omega
    have e2 : wrapF .i64 (Int.sub (Q : Int) (H : Int)) = ((Q - H : Nat) : Int) := by rw [wsub (by omega) (by omega)]; omega
    have hQH : Q - H < m.length := by omega
    simp only [eh, e2, natOf_nat]
    refine ⟨by decide, idx_ok hQH, _, nth_cdR0 hQH, _, nth_cdR1 hQH, _, nth_cdR2 hQH, _, nth_cdR3 hQH, idx_ok hHl, _, nth_cdR0 hHl, _, nth_cdR1 hHl, _, nth_cdR2 hHl, _, nth_cdR3 hHl, m[Q - H], rfl, m[H], rfl, trivial, ?_⟩
    rw [ifp_lt]
    split
    · rename_i hlt
      have hlt2 : ltC m[Q - H] m[H] = true := by rw [ltC]; simpa using hlt
      refine ⟨trivial, trivial, trivial, m, rfl, (by first | exact trivial | exact rfl), ⟨S, H, Q, rfl, rfl, rfl, by omega, by omega, hQ, by omega, rfl, hm⟩, by show H - S < R - S; omega, fun c d2 hr => ?_, trivial⟩
      obtain ⟨dd, a2, p2, b2, _, mid2, n2, s2, _⟩ := c
      obtain ⟨m2, _⟩ := d2
      obtain ⟨r1, r2, r3, r4, r5, r8, r9, r, r6, r7⟩ := hr
      exact ⟨r1, r2, r3, r4, r5, r8, r9, r, r6, Go.Det.Stab.BS.down (h := H) (by show H ≤ R; omega) (by show (!Go.Det.Stab.at_ ltC m (Q - H) H) = _; rw [Go.Det.Stab.at_eq hQH hHl, hlt2]; rfl) r7⟩
    · rename_i hlt
      have hlt2 : ltC m[Q - H] m[H] = false := by rw [ltC]; simpa using hlt
      simp only [e1]
      refine ⟨trivial, trivial, trivial, m, rfl, (by first | exact trivial | exact rfl), ⟨H + 1, R, Q, rfl, rfl, rfl, by omega, hR, by omega, hRQ, rfl, hm⟩, by show R - (H + 1) < R - S; omega, fun c d2 hr => ?_, trivial⟩
      obtain ⟨dd, a2, p2, b2, _, mid2, n2, s2, _⟩ := c
      obtain ⟨m2, _⟩ := d2
      obtain ⟨r1, r2, r3, r4, r5, r8, r9, r, r6, r7⟩ := hr
      exact ⟨r1, r2, r3, r4, r5, r8, r9, r, r6, Go.Det.Stab.BS.up (h := H) (by show S ≤ H; omega) (by show (!Go.Det.Stab.at_ ltC m (Q - H) H) = _; rw [Go.Det.Stab.at_eq hQH hHl, hlt2]; rfl) r7⟩
  · rename_i h
    obtain rfl : S = R := by omega
    exact ⟨trivial, m, rfl, (by first | exact trivial | exact rfl), rfl, rfl, rfl, rfl, rfl, rfl, rfl, S, rfl, Go.Det.Stab.BS.done _ _⟩
theorem sm5Ok : LoopOk Tryd.prog 50 220 (.loop (loopBody Tryd.prog 50 33)) (sm5C) := loop_ok sm5Mu  mixed (KLS_ok (cc_cons cmpcCc (cc_nil))) rfl (steps_cons sm5Step (steps_nil))

/-! slices.symMergeCmpFunc[wayfinder/api.Cand] -/
abbrev symZ := ((Nat × Nat) × Int × Int × Int × Unit × Unit) × ((List Cd) × Unit)
noncomputable def symT : Tel ((Nat × Nat) × Int × Int × Int × Unit × Unit) := .cons 0 (.slq 0 4) (.cons 1 (.int .i64) (.cons 2 (.int .i64) (.cons 3 (.int .i64) (.cons 4 (.fnp 18 []) (.nil)))))
noncomputable def symBl : BTel ((List Cd) × Unit) := .cons (.rows Ec 25) (.nil)
noncomputable def symRes (R0 : symZ → (Unit) → ((List Cd) × Unit) → Prop) : List (Res symZ) := [⟨Unit, (List Cd) × Unit, .nil, .cons (.rows Ec 25) (.nil), R0⟩]

def symPre (D : Nat) : symZ → Prop := fun ((d, (a, (p, (b, ((), ()))))), (m, ())) => ∃ A M B2 : Nat, a = A ∧ p = M ∧ b = B2 ∧ A < M ∧ M < B2 ∧ B2 ≤ m.length ∧ B2 - A < D ∧ d.1 = m.length ∧ m.length ≤ 1000000
def symR0 : symZ → (Unit) → ((List Cd) × Unit) → Prop := fun ((d, (a, (p, (b, ((), ()))))), (m, ())) _ (m2, _) => m2.length = m.length ∧ Go.Det.Stab.SymR ltC m a.toNat p.toNat b.toNat m2
noncomputable def symK (D : Nat) : CallC := callC 1 symT symBl (symPre D) (symRes symR0)

theorem symFn (D : Nat) (d : Nat × Nat) (a : Int) (p : Int) (b : Int) (m : List Cd) (R0 : symZ → (Unit) → ((List Cd) × Unit) → Prop) : (callW Tryd.prog (runW Tryd.prog (KLS [(18, cmpcK), (58, rotK), (50, symK D)] [(50, [(3, sm1C), (9, sm2C), (15, sm3C), (21, sm4C), (33, sm5C)])] 25) 200) 50 (symT.cells id (d, (a, (p, (b, ((), ())))))) (stL false (symBl.obs id (m, ()))) (fun v st => resAny 1 ((d, (a, (p, (b, ((), ()))))), (m, ())) v st (symRes R0))) =
  ( ifp (eqInt (wrapF IntKind.i64 (p.sub a)) (1 : Int)) (LoopOk Tryd.prog (50 : FuncId) (220 : Nat) (loopBody Tryd.prog (50 : FuncId) (3 : Nat)).loop sm1C ∧ True ∧
  True ∧ ∃ (l : List Cd), List.flatMap Ec.f m = List.flatMap Ec.f l ∧ true = true ∧ sm1Inv (((d.fst, d.snd), a, p, b, (), p, b, ()), l, ()) ∧ (∀ (c : (Nat × Nat)
  × Int × Int × Int × Unit × Int × Unit) (d_1 : List Cd × Unit), sm1R0 (((d.fst, d.snd), a, p, b, (), p, b, ()), l, ()) c d_1 → LoopOk Tryd.prog (50 : FuncId)
  (220 : Nat) (loopBody Tryd.prog (50 : FuncId) (9 : Nat)).loop sm2C ∧ True ∧ True ∧ ∃ (l : List Cd), List.flatMap Ec.f d_1.1 = List.flatMap Ec.f l ∧ true = true
  ∧ sm2Inv (((c.1.fst, c.1.snd), c.2.2.2.2.2.1, c.2.1, ()), l, ()) ∧ (∀ (c_1 : Unit) (d_2 : List Cd × Unit), sm2R0 (((c.1.fst, c.1.snd), c.2.2.2.2.2.1, c.2.1,
  ()), l, ()) c_1 d_2 → ∃ (l : List Cd), List.flatMap Ec.f d_2.1 = List.flatMap Ec.f l ∧ true = true ∧ R0 ((d, a, p, b, (), ()), m, ()) () (l, ())) ∧ True) ∧
  True) (ifp (eqInt (wrapF IntKind.i64 (b.sub p)) (1 : Int)) (LoopOk Tryd.prog (50 : FuncId) (220 : Nat) (loopBody Tryd.prog (50 : FuncId) (15 : Nat)).loop sm3C
  ∧ True ∧ True ∧ ∃ (l : List Cd), List.flatMap Ec.f m = List.flatMap Ec.f l ∧ true = true ∧ sm3Inv (((d.fst, d.snd), a, p, b, (), a, p, ()), l, ()) ∧ (∀ (c :
  (Nat × Nat) × Int × Int × Int × Unit × Int × Unit) (d_1 : List Cd × Unit), sm3R0 (((d.fst, d.snd), a, p, b, (), a, p, ()), l, ()) c d_1 → LoopOk Tryd.prog (50
  : FuncId) (220 : Nat) (loopBody Tryd.prog (50 : FuncId) (21 : Nat)).loop sm4C ∧ True ∧ True ∧ ∃ (l : List Cd), List.flatMap Ec.f d_1.1 = List.flatMap Ec.f l ∧
  true = true ∧ sm4Inv (((c.1.fst, c.1.snd), c.2.2.2.2.2.1, c.2.2.1, ()), l, ()) ∧ (∀ (c_1 : Unit) (d_2 : List Cd × Unit), sm4R0 (((c.1.fst, c.1.snd),
  c.2.2.2.2.2.1, c.2.2.1, ()), l, ()) c_1 d_2 → ∃ (l : List Cd), List.flatMap Ec.f d_2.1 = List.flatMap Ec.f l ∧ true = true ∧ R0 ((d, a, p, b, (), ()), m, ())
  () (l, ())) ∧ True) ∧ True) ((0 : Int) ≤ (1 : Int) ∧ ifp (!leInt p (wrapF IntKind.i64 (shrV IntKind.u64 (wrapF IntKind.u64 (wrapF IntKind.i64 (a.add b))) (1 :
  Int)))) (LoopOk Tryd.prog (50 : FuncId) (220 : Nat) (loopBody Tryd.prog (50 : FuncId) (33 : Nat)).loop sm5C ∧ True ∧ True ∧ ∃ (l : List Cd), List.flatMap Ec.f
  m = List.flatMap Ec.f l ∧ true = true ∧ sm5Inv (((d.fst, d.snd), a, p, b, (), wrapF IntKind.i64 (shrV IntKind.u64 (wrapF IntKind.u64 (wrapF IntKind.i64 (a.add
  b))) (1 : Int)), wrapF IntKind.i64 ((wrapF IntKind.i64 (shrV IntKind.u64 (wrapF IntKind.u64 (wrapF IntKind.i64 (a.add b))) (1 : Int))).add p), wrapF
  IntKind.i64 ((wrapF IntKind.i64 ((wrapF IntKind.i64 (shrV IntKind.u64 (wrapF IntKind.u64 (wrapF IntKind.i64 (a.add b))) (1 : Int))).add p)).sub b), wrapF
  IntKind.i64 (shrV IntKind.u64 (wrapF IntKind.u64 (wrapF IntKind.i64 (a.add b))) (1 : Int)), wrapF IntKind.i64 ((wrapF IntKind.i64 ((wrapF IntKind.i64 (shrV
  IntKind.u64 (wrapF IntKind.u64 (wrapF IntKind.i64 (a.add b))) (1 : Int))).add p)).sub (1 : Int)), ()), l, ()) ∧ (∀ (c : (Nat × Nat) × Int × Int × Int × Unit ×
  Int × Int × Int × Unit) (d_1 : List Cd × Unit), sm5R0 (((d.fst, d.snd), a, p, b, (), wrapF IntKind.i64 (shrV IntKind.u64 (wrapF IntKind.u64 (wrapF IntKind.i64
  (a.add b))) (1 : Int)), wrapF IntKind.i64 ((wrapF IntKind.i64 (shrV IntKind.u64 (wrapF IntKind.u64 (wrapF IntKind.i64 (a.add b))) (1 : Int))).add p), wrapF
  IntKind.i64 ((wrapF IntKind.i64 ((wrapF IntKind.i64 (shrV IntKind.u64 (wrapF IntKind.u64 (wrapF IntKind.i64 (a.add b))) (1 : Int))).add p)).sub b), wrapF
  IntKind.i64 (shrV IntKind.u64 (wrapF IntKind.u64 (wrapF IntKind.i64 (a.add b))) (1 : Int)), wrapF IntKind.i64 ((wrapF IntKind.i64 ((wrapF IntKind.i64 (shrV
  IntKind.u64 (wrapF IntKind.u64 (wrapF IntKind.i64 (a.add b))) (1 : Int))).add p)).sub (1 : Int)), ()), l, ()) c d_1 → ifp (!leInt c.2.2.1 c.2.2.2.2.2.2.2.1)
  (ifp (!leInt (wrapF IntKind.i64 (c.2.2.2.2.2.2.1.sub c.2.2.2.2.2.2.2.1)) c.2.2.1) (∃ (l : List Cd), List.flatMap Ec.f d_1.1 = List.flatMap Ec.f l ∧ true = true
  ∧ rotPre (((c.1.fst, c.1.snd), c.2.2.2.2.2.2.2.1, c.2.2.1, wrapF IntKind.i64 (c.2.2.2.2.2.2.1.sub c.2.2.2.2.2.2.2.1), (), ()), l, ()) ∧ (∀ (c_1 : Unit) (d_2 :
  List Cd × Unit), rotR0 (((c.1.fst, c.1.snd), c.2.2.2.2.2.2.2.1, c.2.2.1, wrapF IntKind.i64 (c.2.2.2.2.2.2.1.sub c.2.2.2.2.2.2.2.1), (), ()), l, ()) c_1 d_2 →
  ifp (!leInt c.2.2.2.2.2.2.2.1 c.2.1) (ifp (!leInt c.2.2.2.2.2.1 c.2.2.2.2.2.2.2.1) (∃ (l : List Cd), List.flatMap Ec.f d_2.1 = List.flatMap Ec.f l ∧ true =
  true ∧ symPre D (((c.1.fst, c.1.snd), c.2.1, c.2.2.2.2.2.2.2.1, c.2.2.2.2.2.1, (), ()), l, ()) ∧ (∀ (c_2 : Unit) (d_3 : List Cd × Unit), symR0 (((c.1.fst,
  c.1.snd), c.2.1, c.2.2.2.2.2.2.2.1, c.2.2.2.2.2.1, (), ()), l, ()) c_2 d_3 → ifp (!leInt (wrapF IntKind.i64 (c.2.2.2.2.2.2.1.sub c.2.2.2.2.2.2.2.1))
  c.2.2.2.2.2.1) (ifp (!leInt c.2.2.2.1 (wrapF IntKind.i64 (c.2.2.2.2.2.2.1.sub c.2.2.2.2.2.2.2.1))) (∃ (l : List Cd), List.flatMap Ec.f d_3.1 = List.flatMap
  Ec.f l ∧ true = true ∧ symPre D (((c.1.fst, c.1.snd), c.2.2.2.2.2.1, wrapF IntKind.i64 (c.2.2.2.2.2.2.1.sub c.2.2.2.2.2.2.2.1), c.2.2.2.1, (), ()), l, ()) ∧ (∀
  (c_3 : Unit) (d_4 : List Cd × Unit), symR0 (((c.1.fst, c.1.snd), c.2.2.2.2.2.1, wrapF IntKind.i64 (c.2.2.2.2.2.2.1.sub c.2.2.2.2.2.2.2.1), c.2.2.2.1, (), ()),
  l, ()) c_3 d_4 → ∃ (l : List Cd), List.flatMap Ec.f d_4.1 = List.flatMap Ec.f l ∧ true = true ∧ R0 ((d, a, p, b, (), ()), m, ()) () (l, ())) ∧ True) (∃ (l :
  List Cd), List.flatMap Ec.f d_3.1 = List.flatMap Ec.f l ∧ true = true ∧ R0 ((d, a, p, b, (), ()), m, ()) () (l, ()))) (∃ (l : List Cd), List.flatMap Ec.f d_3.1
  = List.flatMap Ec.f l ∧ true = true ∧ R0 ((d, a, p, b, (), ()), m, ()) () (l, ()))) ∧ True) (ifp (!leInt (wrapF IntKind.i64 (c.2.2.2.2.2.2.1.sub
  c.2.2.2.2.2.2.2.1)) c.2.2.2.2.2.1) (ifp (!leInt c.2.2.2.1 (wrapF IntKind.i64 (c.2.2.2.2.2.2.1.sub c.2.2.2.2.2.2.2.1))) (∃ (l : List Cd), List.flatMap Ec.f
  d_2.1 = List.flatMap Ec.f l ∧ true = true ∧ symPre D (((c.1.fst, c.1.snd), c.2.2.2.2.2.1, wrapF IntKind.i64 (c.2.2.2.2.2.2.1.sub c.2.2.2.2.2.2.2.1), c.2.2.2.1,
  (), ()), l, ()) ∧ (∀ (c_2 : Unit) (d_3 : List Cd × Unit), symR0 (((c.1.fst, c.1.snd), c.2.2.2.2.2.1, wrapF IntKind.i64 (c.2.2.2.2.2.2.1.sub c.2.2.2.2.2.2.2.1),
  c.2.2.2.1, (), ()), l, ()) c_2 d_3 → ∃ (l : List Cd), List.flatMap Ec.f d_3.1 = List.flatMap Ec.f l ∧ true = true ∧ R0 ((d, a, p, b, (), ()), m, ()) () (l,
  ())) ∧ True) (∃ (l : List Cd), List.flatMap Ec.f d_2.1 = List.flatMap Ec.f l ∧ true = true ∧ R0 ((d, a, p, b, (), ()), m, ()) () (l, ()))) (∃ (l : List Cd),
  List.flatMap Ec.f d_2.1 = List.flatMap Ec.f l ∧ true = true ∧ R0 ((d, a, p, b, (), ()), m, ()) () (l, ())))) (ifp (!leInt (wrapF IntKind.i64
  (c.2.2.2.2.2.2.1.sub c.2.2.2.2.2.2.2.1)) c.2.2.2.2.2.1) (ifp (!leInt c.2.2.2.1 (wrapF IntKind.i64 (c.2.2.2.2.2.2.1.sub c.2.2.2.2.2.2.2.1))) (∃ (l : List Cd),
  List.flatMap Ec.f d_2.1 = List.flatMap Ec.f l ∧ true = true ∧ symPre D (((c.1.fst, c.1.snd), c.2.2.2.2.2.1, wrapF IntKind.i64 (c.2.2.2.2.2.2.1.sub
  c.2.2.2.2.2.2.2.1), c.2.2.2.1, (), ()), l, ()) ∧ (∀ (c_2 : Unit) (d_3 : List Cd × Unit), symR0 (((c.1.fst, c.1.snd), c.2.2.2.2.2.1, wrapF IntKind.i64
  (c.2.2.2.2.2.2.1.sub c.2.2.2.2.2.2.2.1), c.2.2.2.1, (), ()), l, ()) c_2 d_3 → ∃ (l : List Cd), List.flatMap Ec.f d_3.1 = List.flatMap Ec.f l ∧ true = true ∧ R0
  ((d, a, p, b, (), ()), m, ()) () (l, ())) ∧ True) (∃ (l : List Cd), List.flatMap Ec.f d_2.1 = List.flatMap Ec.f l ∧ true = true ∧ R0 ((d, a, p, b, (), ()), m,
  ()) () (l, ()))) (∃ (l : List Cd), List.flatMap Ec.f d_2.1 = List.flatMap Ec.f l ∧ true = true ∧ R0 ((d, a, p, b, (), ()), m, ()) () (l, ())))) ∧ True) (ifp
  (!leInt c.2.2.2.2.2.2.2.1 c.2.1) (ifp (!leInt c.2.2.2.2.2.1 c.2.2.2.2.2.2.2.1) (∃ (l : List Cd), List.flatMap Ec.f d_1.1 = List.flatMap Ec.f l ∧ true = true ∧
  symPre D (((c.1.fst, c.1.snd), c.2.1, c.2.2.2.2.2.2.2.1, c.2.2.2.2.2.1, (), ()), l, ()) ∧ (∀ (c_1 : Unit) (d_2 : List Cd × Unit), symR0 (((c.1.fst, c.1.snd),
  c.2.1, c.2.2.2.2.2.2.2.1, c.2.2.2.2.2.1, (), ()), l, ()) c_1 d_2 → ifp (!leInt (wrapF IntKind.i64 (c.2.2.2.2.2.2.1.sub c.2.2.2.2.2.2.2.1)) c.2.2.2.2.2.1) (ifp
  (!leInt c.2.2.2.1 (wrapF IntKind.i64 (c.2.2.2.2.2.2.1.sub c.2.2.2.2.2.2.2.1))) (∃ (l : List Cd), List.flatMap Ec.f d_2.1 = List.flatMap Ec.f l ∧ true = true ∧
  symPre D (((c.1.fst, c.1.snd), c.2.2.2.2.2.1, wrapF IntKind.i64 (c.2.2.2.2.2.2.1.sub c.2.2.2.2.2.2.2.1), c.2.2.2.1, (), ()), l, ()) ∧ (∀ (c_2 : Unit) (d_3 :
  List Cd × Unit), symR0 (((c.1.fst, c.1.snd), c.2.2.2.2.2.1, wrapF IntKind.i64 (c.2.2.2.2.2.2.1.sub c.2.2.2.2.2.2.2.1), c.2.2.2.1, (), ()), l, ()) c_2 d_3 → ∃
  (l : List Cd), List.flatMap Ec.f d_3.1 = List.flatMap Ec.f l ∧ true = true ∧ R0 ((d, a, p, b, (), ()), m, ()) () (l, ())) ∧ True) (∃ (l : List Cd),
  List.flatMap Ec.f d_2.1 = List.flatMap Ec.f l ∧ true = true ∧ R0 ((d, a, p, b, (), ()), m, ()) () (l, ()))) (∃ (l : List Cd), List.flatMap Ec.f d_2.1 =
  List.flatMap Ec.f l ∧ true = true ∧ R0 ((d, a, p, b, (), ()), m, ()) () (l, ()))) ∧ True) (ifp (!leInt (wrapF IntKind.i64 (c.2.2.2.2.2.2.1.sub
  c.2.2.2.2.2.2.2.1)) c.2.2.2.2.2.1) (ifp (!leInt c.2.2.2.1 (wrapF IntKind.i64 (c.2.2.2.2.2.2.1.sub c.2.2.2.2.2.2.2.1))) (∃ (l : List Cd), List.flatMap Ec.f
  d_1.1 = List.flatMap Ec.f l ∧ true = true ∧ symPre D (((c.1.fst, c.1.snd), c.2.2.2.2.2.1, wrapF IntKind.i64 (c.2.2.2.2.2.2.1.sub c.2.2.2.2.2.2.2.1), c.2.2.2.1,
  (), ()), l, ()) ∧ (∀ (c_1 : Unit) (d_2 : List Cd × Unit), symR0 (((c.1.fst, c.1.snd), c.2.2.2.2.2.1, wrapF IntKind.i64 (c.2.2.2.2.2.2.1.sub c.2.2.2.2.2.2.2.1),
  c.2.2.2.1, (), ()), l, ()) c_1 d_2 → ∃ (l : List Cd), List.flatMap Ec.f d_2.1 = List.flatMap Ec.f l ∧ true = true ∧ R0 ((d, a, p, b, (), ()), m, ()) () (l,
  ())) ∧ True) (∃ (l : List Cd), List.flatMap Ec.f d_1.1 = List.flatMap Ec.f l ∧ true = true ∧ R0 ((d, a, p, b, (), ()), m, ()) () (l, ()))) (∃ (l : List Cd),
  List.flatMap Ec.f d_1.1 = List.flatMap Ec.f l ∧ true = true ∧ R0 ((d, a, p, b, (), ()), m, ()) () (l, ())))) (ifp (!leInt (wrapF IntKind.i64
  (c.2.2.2.2.2.2.1.sub c.2.2.2.2.2.2.2.1)) c.2.2.2.2.2.1) (ifp (!leInt c.2.2.2.1 (wrapF IntKind.i64 (c.2.2.2.2.2.2.1.sub c.2.2.2.2.2.2.2.1))) (∃ (l : List Cd),
  List.flatMap Ec.f d_1.1 = List.flatMap Ec.f l ∧ true = true ∧ symPre D (((c.1.fst, c.1.snd), c.2.2.2.2.2.1, wrapF IntKind.i64 (c.2.2.2.2.2.2.1.sub
  c.2.2.2.2.2.2.2.1), c.2.2.2.1, (), ()), l, ()) ∧ (∀ (c_1 : Unit) (d_2 : List Cd × Unit), symR0 (((c.1.fst, c.1.snd), c.2.2.2.2.2.1, wrapF IntKind.i64
  (c.2.2.2.2.2.2.1.sub c.2.2.2.2.2.2.2.1), c.2.2.2.1, (), ()), l, ()) c_1 d_2 → ∃ (l : List Cd), List.flatMap Ec.f d_2.1 = List.flatMap Ec.f l ∧ true = true ∧ R0
  ((d, a, p, b, (), ()), m, ()) () (l, ())) ∧ True) (∃ (l : List Cd), List.flatMap Ec.f d_1.1 = List.flatMap Ec.f l ∧ true = true ∧ R0 ((d, a, p, b, (), ()), m,
  ()) () (l, ()))) (∃ (l : List Cd), List.flatMap Ec.f d_1.1 = List.flatMap Ec.f l ∧ true = true ∧ R0 ((d, a, p, b, (), ()), m, ()) () (l, ()))))) (ifp (!leInt
  c.2.2.2.2.2.2.2.1 c.2.1) (ifp (!leInt c.2.2.2.2.2.1 c.2.2.2.2.2.2.2.1) (∃ (l : List Cd), List.flatMap Ec.f d_1.1 = List.flatMap Ec.f l ∧ true = true ∧ symPre D
  (((c.1.fst, c.1.snd), c.2.1, c.2.2.2.2.2.2.2.1, c.2.2.2.2.2.1, (), ()), l, ()) ∧ (∀ (c_1 : Unit) (d_2 : List Cd × Unit), symR0 (((c.1.fst, c.1.snd), c.2.1,
  c.2.2.2.2.2.2.2.1, c.2.2.2.2.2.1, (), ()), l, ()) c_1 d_2 → ifp (!leInt (wrapF IntKind.i64 (c.2.2.2.2.2.2.1.sub c.2.2.2.2.2.2.2.1)) c.2.2.2.2.2.1) (ifp (!leInt
  c.2.2.2.1 (wrapF IntKind.i64 (c.2.2.2.2.2.2.1.sub c.2.2.2.2.2.2.2.1))) (∃ (l : List Cd), List.flatMap Ec.f d_2.1 = List.flatMap Ec.f l ∧ true = true ∧ symPre D
  (((c.1.fst, c.1.snd), c.2.2.2.2.2.1, wrapF IntKind.i64 (c.2.2.2.2.2.2.1.sub c.2.2.2.2.2.2.2.1), c.2.2.2.1, (), ()), l, ()) ∧ (∀ (c_2 : Unit) (d_3 : List Cd ×
  Unit), symR0 (((c.1.fst, c.1.snd), c.2.2.2.2.2.1, wrapF IntKind.i64 (c.2.2.2.2.2.2.1.sub c.2.2.2.2.2.2.2.1), c.2.2.2.1, (), ()), l, ()) c_2 d_3 → ∃ (l : List
  Cd), List.flatMap Ec.f d_3.1 = List.flatMap Ec.f l ∧ true = true ∧ R0 ((d, a, p, b, (), ()), m, ()) () (l, ())) ∧ True) (∃ (l : List Cd), List.flatMap Ec.f
  d_2.1 = List.flatMap Ec.f l ∧ true = true ∧ R0 ((d, a, p, b, (), ()), m, ()) () (l, ()))) (∃ (l : List Cd), List.flatMap Ec.f d_2.1 = List.flatMap Ec.f l ∧
  true = true ∧ R0 ((d, a, p, b, (), ()), m, ()) () (l, ()))) ∧ True) (ifp (!leInt (wrapF IntKind.i64 (c.2.2.2.2.2.2.1.sub c.2.2.2.2.2.2.2.1)) c.2.2.2.2.2.1)
  (ifp (!leInt c.2.2.2.1 (wrapF IntKind.i64 (c.2.2.2.2.2.2.1.sub c.2.2.2.2.2.2.2.1))) (∃ (l : List Cd), List.flatMap Ec.f d_1.1 = List.flatMap Ec.f l ∧ true =
  true ∧ symPre D (((c.1.fst, c.1.snd), c.2.2.2.2.2.1, wrapF IntKind.i64 (c.2.2.2.2.2.2.1.sub c.2.2.2.2.2.2.2.1), c.2.2.2.1, (), ()), l, ()) ∧ (∀ (c_1 : Unit)
  (d_2 : List Cd × Unit), symR0 (((c.1.fst, c.1.snd), c.2.2.2.2.2.1, wrapF IntKind.i64 (c.2.2.2.2.2.2.1.sub c.2.2.2.2.2.2.2.1), c.2.2.2.1, (), ()), l, ()) c_1
  d_2 → ∃ (l : List Cd), List.flatMap Ec.f d_2.1 = List.flatMap Ec.f l ∧ true = true ∧ R0 ((d, a, p, b, (), ()), m, ()) () (l, ())) ∧ True) (∃ (l : List Cd),
  List.flatMap Ec.f d_1.1 = List.flatMap Ec.f l ∧ true = true ∧ R0 ((d, a, p, b, (), ()), m, ()) () (l, ()))) (∃ (l : List Cd), List.flatMap Ec.f d_1.1 =
  List.flatMap Ec.f l ∧ true = true ∧ R0 ((d, a, p, b, (), ()), m, ()) () (l, ())))) (ifp (!leInt (wrapF IntKind.i64 (c.2.2.2.2.2.2.1.sub c.2.2.2.2.2.2.2.1))
  c.2.2.2.2.2.1) (ifp (!leInt c.2.2.2.1 (wrapF IntKind.i64 (c.2.2.2.2.2.2.1.sub c.2.2.2.2.2.2.2.1))) (∃ (l : List Cd), List.flatMap Ec.f d_1.1 = List.flatMap
  Ec.f l ∧ true = true ∧ symPre D (((c.1.fst, c.1.snd), c.2.2.2.2.2.1, wrapF IntKind.i64 (c.2.2.2.2.2.2.1.sub c.2.2.2.2.2.2.2.1), c.2.2.2.1, (), ()), l, ()) ∧ (∀
  (c_1 : Unit) (d_2 : List Cd × Unit), symR0 (((c.1.fst, c.1.snd), c.2.2.2.2.2.1, wrapF IntKind.i64 (c.2.2.2.2.2.2.1.sub c.2.2.2.2.2.2.2.1), c.2.2.2.1, (), ()),
  l, ()) c_1 d_2 → ∃ (l : List Cd), List.flatMap Ec.f d_2.1 = List.flatMap Ec.f l ∧ true = true ∧ R0 ((d, a, p, b, (), ()), m, ()) () (l, ())) ∧ True) (∃ (l :
  List Cd), List.flatMap Ec.f d_1.1 = List.flatMap Ec.f l ∧ true = true ∧ R0 ((d, a, p, b, (), ()), m, ()) () (l, ()))) (∃ (l : List Cd), List.flatMap Ec.f d_1.1
  = List.flatMap Ec.f l ∧ true = true ∧ R0 ((d, a, p, b, (), ()), m, ()) () (l, ()))))) ∧ True) (LoopOk Tryd.prog (50 : FuncId) (220 : Nat) (loopBody Tryd.prog
  (50 : FuncId) (33 : Nat)).loop sm5C ∧ True ∧ True ∧ ∃ (l : List Cd), List.flatMap Ec.f m = List.flatMap Ec.f l ∧ true = true ∧ sm5Inv (((d.fst, d.snd), a, p,
  b, (), wrapF IntKind.i64 (shrV IntKind.u64 (wrapF IntKind.u64 (wrapF IntKind.i64 (a.add b))) (1 : Int)), wrapF IntKind.i64 ((wrapF IntKind.i64 (shrV
  IntKind.u64 (wrapF IntKind.u64 (wrapF IntKind.i64 (a.add b))) (1 : Int))).add p), a, p, wrapF IntKind.i64 ((wrapF IntKind.i64 ((wrapF IntKind.i64 (shrV
  IntKind.u64 (wrapF IntKind.u64 (wrapF IntKind.i64 (a.add b))) (1 : Int))).add p)).sub (1 : Int)), ()), l, ()) ∧ (∀ (c : (Nat × Nat) × Int × Int × Int × Unit ×
  Int × Int × Int × Unit) (d_1 : List Cd × Unit), sm5R0 (((d.fst, d.snd), a, p, b, (), wrapF IntKind.i64 (shrV IntKind.u64 (wrapF IntKind.u64 (wrapF IntKind.i64
  (a.add b))) (1 : Int)), wrapF IntKind.i64 ((wrapF IntKind.i64 (shrV IntKind.u64 (wrapF IntKind.u64 (wrapF IntKind.i64 (a.add b))) (1 : Int))).add p), a, p,
  wrapF IntKind.i64 ((wrapF IntKind.i64 ((wrapF IntKind.i64 (shrV IntKind.u64 (wrapF IntKind.u64 (wrapF IntKind.i64 (a.add b))) (1 : Int))).add p)).sub (1 :
  Int)), ()), l, ()) c d_1 → ifp (!leInt c.2.2.1 c.2.2.2.2.2.2.2.1) (ifp (!leInt (wrapF IntKind.i64 (c.2.2.2.2.2.2.1.sub c.2.2.2.2.2.2.2.1)) c.2.2.1) (∃ (l :
  List Cd), List.flatMap Ec.f d_1.1 = List.flatMap Ec.f l ∧ true = true ∧ rotPre (((c.1.fst, c.1.snd), c.2.2.2.2.2.2.2.1, c.2.2.1, wrapF IntKind.i64
  (c.2.2.2.2.2.2.1.sub c.2.2.2.2.2.2.2.1), (), ()), l, ()) ∧ (∀ (c_1 : Unit) (d_2 : List Cd × Unit), rotR0 (((c.1.fst, c.1.snd), c.2.2.2.2.2.2.2.1, c.2.2.1,
  wrapF IntKind.i64 (c.2.2.2.2.2.2.1.sub c.2.2.2.2.2.2.2.1), (), ()), l, ()) c_1 d_2 → ifp (!leInt c.2.2.2.2.2.2.2.1 c.2.1) (ifp (!leInt c.2.2.2.2.2.1
  c.2.2.2.2.2.2.2.1) (∃ (l : List Cd), List.flatMap Ec.f d_2.1 = List.flatMap Ec.f l ∧ true = true ∧ symPre D (((c.1.fst, c.1.snd), c.2.1, c.2.2.2.2.2.2.2.1,
  c.2.2.2.2.2.1, (), ()), l, ()) ∧ (∀ (c_2 : Unit) (d_3 : List Cd × Unit), symR0 (((c.1.fst, c.1.snd), c.2.1, c.2.2.2.2.2.2.2.1, c.2.2.2.2.2.1, (), ()), l, ())
  c_2 d_3 → ifp (!leInt (wrapF IntKind.i64 (c.2.2.2.2.2.2.1.sub c.2.2.2.2.2.2.2.1)) c.2.2.2.2.2.1) (ifp (!leInt c.2.2.2.1 (wrapF IntKind.i64 (c.2.2.2.2.2.2.1.sub
  c.2.2.2.2.2.2.2.1))) (∃ (l : List Cd), List.flatMap Ec.f d_3.1 = List.flatMap Ec.f l ∧ true = true ∧ symPre D (((c.1.fst, c.1.snd), c.2.2.2.2.2.1, wrapF
  IntKind.i64 (c.2.2.2.2.2.2.1.sub c.2.2.2.2.2.2.2.1), c.2.2.2.1, (), ()), l, ()) ∧ (∀ (c_3 : Unit) (d_4 : List Cd × Unit), symR0 (((c.1.fst, c.1.snd),
  c.2.2.2.2.2.1, wrapF IntKind.i64 (c.2.2.2.2.2.2.1.sub c.2.2.2.2.2.2.2.1), c.2.2.2.1, (), ()), l, ()) c_3 d_4 → ∃ (l : List Cd), List.flatMap Ec.f d_4.1 =
  List.flatMap Ec.f l ∧ true = true ∧ R0 ((d, a, p, b, (), ()), m, ()) () (l, ())) ∧ True) (∃ (l : List Cd), List.flatMap Ec.f d_3.1 = List.flatMap Ec.f l ∧ true
  = true ∧ R0 ((d, a, p, b, (), ()), m, ()) () (l, ()))) (∃ (l : List Cd), List.flatMap Ec.f d_3.1 = List.flatMap Ec.f l ∧ true = true ∧ R0 ((d, a, p, b, (),
  ()), m, ()) () (l, ()))) ∧ True) (ifp (!leInt (wrapF IntKind.i64 (c.2.2.2.2.2.2.1.sub c.2.2.2.2.2.2.2.1)) c.2.2.2.2.2.1) (ifp (!leInt c.2.2.2.1 (wrapF
  IntKind.i64 (c.2.2.2.2.2.2.1.sub c.2.2.2.2.2.2.2.1))) (∃ (l : List Cd), List.flatMap Ec.f d_2.1 = List.flatMap Ec.f l ∧ true = true ∧ symPre D (((c.1.fst,
  c.1.snd), c.2.2.2.2.2.1, wrapF IntKind.i64 (c.2.2.2.2.2.2.1.sub c.2.2.2.2.2.2.2.1), c.2.2.2.1, (), ()), l, ()) ∧ (∀ (c_2 : Unit) (d_3 : List Cd × Unit), symR0
  (((c.1.fst, c.1.snd), c.2.2.2.2.2.1, wrapF IntKind.i64 (c.2.2.2.2.2.2.1.sub c.2.2.2.2.2.2.2.1), c.2.2.2.1, (), ()), l, ()) c_2 d_3 → ∃ (l : List Cd),
  List.flatMap Ec.f d_3.1 = List.flatMap Ec.f l ∧ true = true ∧ R0 ((d, a, p, b, (), ()), m, ()) () (l, ())) ∧ True) (∃ (l : List Cd), List.flatMap Ec.f d_2.1 =
  List.flatMap Ec.f l ∧ true = true ∧ R0 ((d, a, p, b, (), ()), m, ()) () (l, ()))) (∃ (l : List Cd), List.flatMap Ec.f d_2.1 = List.flatMap Ec.f l ∧ true = true
  ∧ R0 ((d, a, p, b, (), ()), m, ()) () (l, ())))) (ifp (!leInt (wrapF IntKind.i64 (c.2.2.2.2.2.2.1.sub c.2.2.2.2.2.2.2.1)) c.2.2.2.2.2.1) (ifp (!leInt c.2.2.2.1
  (wrapF IntKind.i64 (c.2.2.2.2.2.2.1.sub c.2.2.2.2.2.2.2.1))) (∃ (l : List Cd), List.flatMap Ec.f d_2.1 = List.flatMap Ec.f l ∧ true = true ∧ symPre D
  (((c.1.fst, c.1.snd), c.2.2.2.2.2.1, wrapF IntKind.i64 (c.2.2.2.2.2.2.1.sub c.2.2.2.2.2.2.2.1), c.2.2.2.1, (), ()), l, ()) ∧ (∀ (c_2 : Unit) (d_3 : List Cd ×
  Unit), symR0 (((c.1.fst, c.1.snd), c.2.2.2.2.2.1, wrapF IntKind.i64 (c.2.2.2.2.2.2.1.sub c.2.2.2.2.2.2.2.1), c.2.2.2.1, (), ()), l, ()) c_2 d_3 → ∃ (l : List
  Cd), List.flatMap Ec.f d_3.1 = List.flatMap Ec.f l ∧ true = true ∧ R0 ((d, a, p, b, (), ()), m, ()) () (l, ())) ∧ True) (∃ (l : List Cd), List.flatMap Ec.f
  d_2.1 = List.flatMap Ec.f l ∧ true = true ∧ R0 ((d, a, p, b, (), ()), m, ()) () (l, ()))) (∃ (l : List Cd), List.flatMap Ec.f d_2.1 = List.flatMap Ec.f l ∧
  true = true ∧ R0 ((d, a, p, b, (), ()), m, ()) () (l, ())))) ∧ True) (ifp (!leInt c.2.2.2.2.2.2.2.1 c.2.1) (ifp (!leInt c.2.2.2.2.2.1 c.2.2.2.2.2.2.2.1) (∃ (l
  : List Cd), List.flatMap Ec.f d_1.1 = List.flatMap Ec.f l ∧ true = true ∧ symPre D (((c.1.fst, c.1.snd), c.2.1, c.2.2.2.2.2.2.2.1, c.2.2.2.2.2.1, (), ()), l,
  ()) ∧ (∀ (c_1 : Unit) (d_2 : List Cd × Unit), symR0 (((c.1.fst, c.1.snd), c.2.1, c.2.2.2.2.2.2.2.1, c.2.2.2.2.2.1, (), ()), l, ()) c_1 d_2 → ifp (!leInt (wrapF
  IntKind.i64 (c.2.2.2.2.2.2.1.sub c.2.2.2.2.2.2.2.1)) c.2.2.2.2.2.1) (ifp (!leInt c.2.2.2.1 (wrapF IntKind.i64 (c.2.2.2.2.2.2.1.sub c.2.2.2.2.2.2.2.1))) (∃ (l :
  List Cd), List.flatMap Ec.f d_2.1 = List.flatMap Ec.f l ∧ true = true ∧ symPre D (((c.1.fst, c.1.snd), c.2.2.2.2.2.1, wrapF IntKind.i64 (c.2.2.2.2.2.2.1.sub
  c.2.2.2.2.2.2.2.1), c.2.2.2.1, (), ()), l, ()) ∧ (∀ (c_2 : Unit) (d_3 : List Cd × Unit), symR0 (((c.1.fst, c.1.snd), c.2.2.2.2.2.1, wrapF IntKind.i64
  (c.2.2.2.2.2.2.1.sub c.2.2.2.2.2.2.2.1), c.2.2.2.1, (), ()), l, ()) c_2 d_3 → ∃ (l : List Cd), List.flatMap Ec.f d_3.1 = List.flatMap Ec.f l ∧ true = true ∧ R0
  ((d, a, p, b, (), ()), m, ()) () (l, ())) ∧ True) (∃ (l : List Cd), List.flatMap Ec.f d_2.1 = List.flatMap Ec.f l ∧ true = true ∧ R0 ((d, a, p, b, (), ()), m,
  ()) () (l, ()))) (∃ (l : List Cd), List.flatMap Ec.f d_2.1 = List.flatMap Ec.f l ∧ true = true ∧ R0 ((d, a, p, b, (), ()), m, ()) () (l, ()))) ∧ True) (ifp
  (!leInt (wrapF IntKind.i64 (c.2.2.2.2.2.2.1.sub c.2.2.2.2.2.2.2.1)) c.2.2.2.2.2.1) (ifp (!leInt c.2.2.2.1 (wrapF IntKind.i64 (c.2.2.2.2.2.2.1.sub
  c.2.2.2.2.2.2.2.1))) (∃ (l : List Cd), List.flatMap Ec.f d_1.1 = List.flatMap Ec.f l ∧ true = true ∧ symPre D (((c.1.fst, c.1.snd), c.2.2.2.2.2.1, wrapF
  IntKind.i64 (c.2.2.2.2.2.2.1.sub c.2.2.2.2.2.2.2.1), c.2.2.2.1, (), ()), l, ()) ∧ (∀ (c_1 : Unit) (d_2 : List Cd × Unit), symR0 (((c.1.fst, c.1.snd),
  c.2.2.2.2.2.1, wrapF IntKind.i64 (c.2.2.2.2.2.2.1.sub c.2.2.2.2.2.2.2.1), c.2.2.2.1, (), ()), l, ()) c_1 d_2 → ∃ (l : List Cd), List.flatMap Ec.f d_2.1 =
  List.flatMap Ec.f l ∧ true = true ∧ R0 ((d, a, p, b, (), ()), m, ()) () (l, ())) ∧ True) (∃ (l : List Cd), List.flatMap Ec.f d_1.1 = List.flatMap Ec.f l ∧ true
  = true ∧ R0 ((d, a, p, b, (), ()), m, ()) () (l, ()))) (∃ (l : List Cd), List.flatMap Ec.f d_1.1 = List.flatMap Ec.f l ∧ true = true ∧ R0 ((d, a, p, b, (),
  ()), m, ()) () (l, ())))) (ifp (!leInt (wrapF IntKind.i64 (c.2.2.2.2.2.2.1.sub c.2.2.2.2.2.2.2.1)) c.2.2.2.2.2.1) (ifp (!leInt c.2.2.2.1 (wrapF IntKind.i64
  (c.2.2.2.2.2.2.1.sub c.2.2.2.2.2.2.2.1))) (∃ (l : List Cd), List.flatMap Ec.f d_1.1 = List.flatMap Ec.f l ∧ true = true ∧ symPre D (((c.1.fst, c.1.snd),
  c.2.2.2.2.2.1, wrapF IntKind.i64 (c.2.2.2.2.2.2.1.sub c.2.2.2.2.2.2.2.1), c.2.2.2.1, (), ()), l, ()) ∧ (∀ (c_1 : Unit) (d_2 : List Cd × Unit), symR0
  (((c.1.fst, c.1.snd), c.2.2.2.2.2.1, wrapF IntKind.i64 (c.2.2.2.2.2.2.1.sub c.2.2.2.2.2.2.2.1), c.2.2.2.1, (), ()), l, ()) c_1 d_2 → ∃ (l : List Cd),
  List.flatMap Ec.f d_2.1 = List.flatMap Ec.f l ∧ true = true ∧ R0 ((d, a, p, b, (), ()), m, ()) () (l, ())) ∧ True) (∃ (l : List Cd), List.flatMap Ec.f d_1.1 =
  List.flatMap Ec.f l ∧ true = true ∧ R0 ((d, a, p, b, (), ()), m, ()) () (l, ()))) (∃ (l : List Cd), List.flatMap Ec.f d_1.1 = List.flatMap Ec.f l ∧ true = true
  ∧ R0 ((d, a, p, b, (), ()), m, ()) () (l, ()))))) (ifp (!leInt c.2.2.2.2.2.2.2.1 c.2.1) (ifp (!leInt c.2.2.2.2.2.1 c.2.2.2.2.2.2.2.1) (∃ (l : List Cd),
  List.flatMap Ec.f d_1.1 = List.flatMap Ec.f l ∧ true = true ∧ symPre D (((c.1.fst, c.1.snd), c.2.1, c.2.2.2.2.2.2.2.1, c.2.2.2.2.2.1, (), ()), l, ()) ∧ (∀ (c_1
  : Unit) (d_2 : List Cd × Unit), symR0 (((c.1.fst, c.1.snd), c.2.1, c.2.2.2.2.2.2.2.1, c.2.2.2.2.2.1, (), ()), l, ()) c_1 d_2 → ifp (!leInt (wrapF IntKind.i64
  (c.2.2.2.2.2.2.1.sub c.2.2.2.2.2.2.2.1)) c.2.2.2.2.2.1) (ifp (!leInt c.2.2.2.1 (wrapF IntKind.i64 (c.2.2.2.2.2.2.1.sub c.2.2.2.2.2.2.2.1))) (∃ (l : List Cd),
  List.flatMap Ec.f d_2.1 = List.flatMap Ec.f l ∧ true = true ∧ symPre D (((c.1.fst, c.1.snd), c.2.2.2.2.2.1, wrapF IntKind.i64 (c.2.2.2.2.2.2.1.sub
  c.2.2.2.2.2.2.2.1), c.2.2.2.1, (), ()), l, ()) ∧ (∀ (c_2 : Unit) (d_3 : List Cd × Unit), symR0 (((c.1.fst, c.1.snd), c.2.2.2.2.2.1, wrapF IntKind.i64
  (c.2.2.2.2.2.2.1.sub c.2.2.2.2.2.2.2.1), c.2.2.2.1, (), ()), l, ()) c_2 d_3 → ∃ (l : List Cd), List.flatMap Ec.f d_3.1 = List.flatMap Ec.f l ∧ true = true ∧ R0
  ((d, a, p, b, (), ()), m, ()) () (l, ())) ∧ True) (∃ (l : List Cd), List.flatMap Ec.f d_2.1 = List.flatMap Ec.f l ∧ true = true ∧ R0 ((d, a, p, b, (), ()), m,
  ()) () (l, ()))) (∃ (l : List Cd), List.flatMap Ec.f d_2.1 = List.flatMap Ec.f l ∧ true = true ∧ R0 ((d, a, p, b, (), ()), m, ()) () (l, ()))) ∧ True) (ifp
  (!leInt (wrapF IntKind.i64 (c.2.2.2.2.2.2.1.sub c.2.2.2.2.2.2.2.1)) c.2.2.2.2.2.1) (ifp (!leInt c.2.2.2.1 (wrapF IntKind.i64 (c.2.2.2.2.2.2.1.sub
  c.2.2.2.2.2.2.2.1))) (∃ (l : List Cd), List.flatMap Ec.f d_1.1 = List.flatMap Ec.f l ∧ true = true ∧ symPre D (((c.1.fst, c.1.snd), c.2.2.2.2.2.1, wrapF
  IntKind.i64 (c.2.2.2.2.2.2.1.sub c.2.2.2.2.2.2.2.1), c.2.2.2.1, (), ()), l, ()) ∧ (∀ (c_1 : Unit) (d_2 : List Cd × Unit), symR0 (((c.1.fst, c.1.snd),
  c.2.2.2.2.2.1, wrapF IntKind.i64 (c.2.2.2.2.2.2.1.sub c.2.2.2.2.2.2.2.1), c.2.2.2.1, (), ()), l, ()) c_1 d_2 → ∃ (l : List Cd), List.flatMap Ec.f d_2.1 =
  List.flatMap Ec.f l ∧ true = true ∧ R0 ((d, a, p, b, (), ()), m, ()) () (l, ())) ∧ True) (∃ (l : List Cd), List.flatMap Ec.f d_1.1 = List.flatMap Ec.f l ∧ true
  = true ∧ R0 ((d, a, p, b, (), ()), m, ()) () (l, ()))) (∃ (l : List Cd), List.flatMap Ec.f d_1.1 = List.flatMap Ec.f l ∧ true = true ∧ R0 ((d, a, p, b, (),
  ()), m, ()) () (l, ())))) (ifp (!leInt (wrapF IntKind.i64 (c.2.2.2.2.2.2.1.sub c.2.2.2.2.2.2.2.1)) c.2.2.2.2.2.1) (ifp (!leInt c.2.2.2.1 (wrapF IntKind.i64
  (c.2.2.2.2.2.2.1.sub c.2.2.2.2.2.2.2.1))) (∃ (l : List Cd), List.flatMap Ec.f d_1.1 = List.flatMap Ec.f l ∧ true = true ∧ symPre D (((c.1.fst, c.1.snd),
  c.2.2.2.2.2.1, wrapF IntKind.i64 (c.2.2.2.2.2.2.1.sub c.2.2.2.2.2.2.2.1), c.2.2.2.1, (), ()), l, ()) ∧ (∀ (c_1 : Unit) (d_2 : List Cd × Unit), symR0
  (((c.1.fst, c.1.snd), c.2.2.2.2.2.1, wrapF IntKind.i64 (c.2.2.2.2.2.2.1.sub c.2.2.2.2.2.2.2.1), c.2.2.2.1, (), ()), l, ()) c_1 d_2 → ∃ (l : List Cd),
  List.flatMap Ec.f d_2.1 = List.flatMap Ec.f l ∧ true = true ∧ R0 ((d, a, p, b, (), ()), m, ()) () (l, ())) ∧ True) (∃ (l : List Cd), List.flatMap Ec.f d_1.1 =
  List.flatMap Ec.f l ∧ true = true ∧ R0 ((d, a, p, b, (), ()), m, ()) () (l, ()))) (∃ (l : List Cd), List.flatMap Ec.f d_1.1 = List.flatMap Ec.f l ∧ true = true
  ∧ R0 ((d, a, p, b, (), ()), m, ()) () (l, ()))))) ∧ True)))) := by kernel_rfl

theorem symStep (D : Nat) (z : symZ) (hp : symPre (D + 1) z) : callW Tryd.prog (runW Tryd.prog (KLS [(18, cmpcK), (58, rotK), (50, symK D)] [(50, [(3, sm1C), (9, sm2C), (15, sm3C), (21, sm4C), (33, sm5C)])] 25) 200) 50 (symT.cells id z.1) (stL false (symBl.obs id z.2)) (fun v st => resAny 1 z v st (symRes symR0)) := by
  obtain ⟨⟨d, a, p, b, _, _⟩, ⟨m, _⟩⟩ := z
  refine (symFn D d a p b m _).mpr ?_
  obtain ⟨A, M, B, rfl, rfl, rfl, hAM, hMB, hB, hD, hd, hm⟩ := hp
  obtain ⟨d1, d2⟩ := d
  obtain rfl : d1 = m.length := hd
  have e1 : wrapF .i64 (Int.sub (M : Int) (A : Int)) = ((M - A : Nat) : Int) := by rw [wsub (by omega) (by omega)]; omega
  have e2 : wrapF .i64 (Int.sub (B : Int) (M : Int)) = ((B - M : Nat) : Int) := by rw [wsub (by omega) (by omega)]; omega
  rw [e1, ifp_eq]
  split
  · rename_i h
    obtain rfl : M = A + 1 := by omega
    refine ⟨sm1Ok, trivial, trivial, m, rfl, (by first | exact trivial | exact rfl), ⟨A, A + 1, B, rfl, rfl, rfl, by omega, by omega, hB, rfl, hm⟩, fun c d3 hr => ?_, trivial⟩
    obtain ⟨dd, a2, p2, b2, _, i2, _⟩ := c
    obtain ⟨m2, _⟩ := d3
    obtain ⟨r1, r2, r3, r4, r5, r, r6, r7⟩ := hr
    obtain rfl : dd = (m.length, d2) := r1
    obtain rfl : a2 = (A : Int) := r2
    obtain rfl : m = m2 := r5.symm
    obtain rfl : i2 = (r : Int) := r6
    have hb1 : A + 1 ≤ r := r7.1
    have hb2 : r ≤ B := r7.2.1
    refine ⟨sm2Ok, trivial, trivial, m, rfl, (by first | exact trivial | exact rfl), ⟨r, A, rfl, rfl, by omega, by omega, rfl, hm⟩, fun _ d4 hr4 => ?_, trivial⟩
    obtain ⟨m4, _⟩ := d4
    obtain ⟨l4, s4⟩ := hr4
    exact ⟨m4, rfl, (by first | exact trivial | exact rfl), l4, Go.Det.Stab.SymR.one weakC r7 s4⟩
  · rename_i hne
    rw [e2, ifp_eq]
    split
    · rename_i h
      obtain rfl : B = M + 1 := by omega
      refine ⟨sm3Ok, trivial, trivial, m, rfl, (by first | exact trivial | exact rfl), ⟨M, A, M, rfl, rfl, rfl, by omega, by omega, by omega, rfl, hm⟩, fun c d3 hr => ?_, trivial⟩
      obtain ⟨dd, a2, p2, b2, _, i2, _⟩ := c
      obtain ⟨m2, _⟩ := d3
      obtain ⟨r1, r2, r3, r4, r5, r, r6, r7⟩ := hr
      obtain rfl : dd = (m.length, d2) := r1
      obtain rfl : p2 = (M : Int) := r3
      obtain rfl : m = m2 := r5.symm
      obtain rfl : i2 = (r : Int) := r6
      refine ⟨sm4Ok, trivial, trivial, m, rfl, (by first | exact trivial | exact rfl), ⟨r, M, rfl, rfl, by omega, rfl, hm⟩, fun _ d4 hr4 => ?_, trivial⟩
      obtain ⟨m4, _⟩ := d4
      obtain ⟨l4, s4⟩ := hr4
      exact ⟨m4, rfl, (by first | exact trivial | exact rfl), l4, Go.Det.Stab.SymR.last weakC r7 s4⟩
    · rename_i hne2
      refine ⟨by decide, ?_⟩
      have eh := mid_eq (I := A) (J := B) (by omega)
      obtain ⟨Mi, hH⟩ : ∃ Mi, Mi = (A + B) / 2 := ⟨_, rfl⟩
      rw [← hH] at eh
      have en : wrapF .i64 (Int.add (Mi : Int) (M : Int)) = ((Mi + M : Nat) : Int) := by rw [wadd (by omega) (by omega)]; omega
      have eq : wrapF .i64 (Int.sub ((Mi + M : Nat) : Int) 1) = ((Mi + M - 1 : Nat) : Int) := by rw [wsub (by omega) (by omega)]; omega
      simp only [eh, en, eq]
      rw [ifp_lt]
      split
      · rename_i hlt
        have eb : wrapF .i64 (Int.sub ((Mi + M : Nat) : Int) (B : Int)) = ((Mi + M - B : Nat) : Int) := by rw [wsub (by omega) (by omega)]; omega
        simp only [eb]
        refine ⟨sm5Ok, trivial, trivial, m, rfl, (by first | exact trivial | exact rfl), ⟨Mi + M - B, Mi, Mi + M - 1, rfl, rfl, rfl, by omega, by omega, by omega, by omega, rfl, hm⟩, fun c d3 hr => ?_, trivial⟩
        obtain ⟨dd, a2, p2, b2, _, mid2, n2, s2, _⟩ := c
        obtain ⟨m2, _⟩ := d3
        obtain ⟨r1, r2, r3, r4, r5, r8, r9, S, r6, r7⟩ := hr
        obtain rfl : dd = (m.length, d2) := r1
        obtain rfl : a2 = (A : Int) := r2
        obtain rfl : p2 = (M : Int) := r3
        obtain rfl : b2 = (B : Int) := r4
        obtain rfl : mid2 = (Mi : Int) := r5
        obtain rfl : n2 = ((Mi + M : Nat) : Int) := r8
        obtain rfl : m = m2 := r9.symm
        obtain rfl : s2 = (S : Int) := r6
        have hb : Go.Det.Stab.BS (fun c => !Go.Det.Stab.at_ ltC m (Mi + M - 1 - c) c) (Mi + M - B) (Mi) S := r7
        have hb1 := hb.1
        have hb2 := hb.2.1
        obtain ⟨E, hE⟩ : ∃ E, E = Mi + M - S := ⟨_, rfl⟩
        have eE : wrapF .i64 (Int.sub ((Mi + M : Nat) : Int) (S : Int)) = (E : Int) := by rw [wsub (by omega) (by omega)]; omega
        have fin : ∀ l1 l2 l3 : List Cd, ((S < M ∧ M < E ∧ Go.Det.Stab.RotR m S M E l1) ∨ (¬ (S < M ∧ M < E) ∧ l1 = m)) → ((A < S ∧ S < Mi ∧ Go.Det.Stab.SymR ltC l1 A S Mi l2) ∨ (¬ (A < S ∧ S < Mi) ∧ l2 = l1)) → ((Mi < E ∧ E < B ∧ Go.Det.Stab.SymR ltC l2 Mi E B l3) ∨ (¬ (Mi < E ∧ E < B) ∧ l3 = l2)) → Go.Det.Stab.SymR ltC m A M B l3 := by
          subst hE
          exact fun l1 l2 l3 h1 h2 h3 => Go.Det.Stab.SymR.halves weakC hAM hMB hH (Or.inl ⟨by omega, rfl, rfl⟩) hb h1 h2 h3
        simp only [eE]
        rw [ifp_lt]
        split
        · rename_i k1
          rw [ifp_lt]
          split
          · rename_i k2
            refine ⟨m, rfl, (by first | exact trivial | exact rfl), ⟨S, M, E, rfl, rfl, rfl, by omega, by omega, by omega, rfl, hm⟩, fun _ d7 hr7 => ?_, trivial⟩
            obtain ⟨m7, _⟩ := d7
            obtain ⟨l7, s7⟩ := hr7
            replace l7 : m7.length = m.length := l7
            rw [ifp_lt]
            split
            · rename_i f1
              rw [ifp_lt]
              split
              · rename_i f2
                refine ⟨m7, rfl, (by first | exact trivial | exact rfl), ⟨A, S, Mi, rfl, rfl, rfl, by omega, by omega, by omega, by omega, Eq.symm (l7), by omega⟩, fun _ d8 hr8 => ?_, trivial⟩
                obtain ⟨m8, _⟩ := d8
                obtain ⟨l8, s8⟩ := hr8
                have l8' : m8.length = m.length := l8.trans (l7)
                rw [ifp_lt]
                split
                · rename_i g1
                  rw [ifp_lt]
                  split
                  · rename_i g2
                    refine ⟨m8, rfl, (by first | exact trivial | exact rfl), ⟨Mi, E, B, rfl, rfl, rfl, by omega, by omega, by omega, by omega, Eq.symm (l8'), by omega⟩, fun _ d9 hr9 => ?_, trivial⟩
                    obtain ⟨m9, _⟩ := d9
                    obtain ⟨l9, s9⟩ := hr9
                    exact ⟨m9, rfl, (by first | exact trivial | exact rfl), l9.trans (l8'), fin m7 m8 m9 (Or.inl ⟨by omega, by omega, s7⟩) (Or.inl ⟨by omega, by omega, s8⟩) (Or.inl ⟨by omega, by omega, s9⟩)⟩
                  · rename_i g2
                    exact ⟨m8, rfl, (by first | exact trivial | exact rfl), l8', fin m7 m8 m8 (Or.inl ⟨by omega, by omega, s7⟩) (Or.inl ⟨by omega, by omega, s8⟩) (Or.inr ⟨by omega, rfl⟩)⟩
                · rename_i g1
                  exact ⟨m8, rfl, (by first | exact trivial | exact rfl), l8', fin m7 m8 m8 (Or.inl ⟨by omega, by omega, s7⟩) (Or.inl ⟨by omega, by omega, s8⟩) (Or.inr ⟨by omega, rfl⟩)⟩
              · rename_i f2
                rw [ifp_lt]
                split
                · rename_i g1
                  rw [ifp_lt]
                  split
                  · rename_i g2
                    refine ⟨m7, rfl, (by first | exact trivial | exact rfl), ⟨Mi, E, B, rfl, rfl, rfl, by omega, by omega, by omega, by omega, Eq.symm (l7), by omega⟩, fun _ d9 hr9 => ?_, trivial⟩
                    obtain ⟨m9, _⟩ := d9
                    obtain ⟨l9, s9⟩ := hr9
                    exact ⟨m9, rfl, (by first | exact trivial | exact rfl), l9.trans (l7), fin m7 m7 m9 (Or.inl ⟨by omega, by omega, s7⟩) (Or.inr ⟨by omega, rfl⟩) (Or.inl ⟨by omega, by omega, s9⟩)⟩
                  · rename_i g2
                    exact ⟨m7, rfl, (by first | exact trivial | exact rfl), l7, fin m7 m7 m7 (Or.inl ⟨by omega, by omega, s7⟩) (Or.inr ⟨by omega, rfl⟩) (Or.inr ⟨by omega, rfl⟩)⟩
                · rename_i g1
                  exact ⟨m7, rfl, (by first | exact trivial | exact rfl), l7, fin m7 m7 m7 (Or.inl ⟨by omega, by omega, s7⟩) (Or.inr ⟨by omega, rfl⟩) (Or.inr ⟨by omega, rfl⟩)⟩
            · rename_i f1
              rw [ifp_lt]
              split
              · rename_i g1
                rw [ifp_lt]
                split
                · rename_i g2
                  refine ⟨m7, rfl, (by first | exact trivial | exact rfl), ⟨Mi, E, B, rfl, rfl, rfl, by omega, by omega, by omega, by omega, Eq.symm (l7), by omega⟩, fun _ d9 hr9 => ?_, trivial⟩
                  obtain ⟨m9, _⟩ := d9
                  obtain ⟨l9, s9⟩ := hr9
                  exact ⟨m9, rfl, (by first | exact trivial | exact rfl), l9.trans (l7), fin m7 m7 m9 (Or.inl ⟨by omega, by omega, s7⟩) (Or.inr ⟨by omega, rfl⟩) (Or.inl ⟨by omega, by omega, s9⟩)⟩
                · rename_i g2
                  exact ⟨m7, rfl, (by first | exact trivial | exact rfl), l7, fin m7 m7 m7 (Or.inl ⟨by omega, by omega, s7⟩) (Or.inr ⟨by omega, rfl⟩) (Or.inr ⟨by omega, rfl⟩)⟩
              · rename_i g1
                exact ⟨m7, rfl, (by first | exact trivial | exact rfl), l7, fin m7 m7 m7 (Or.inl ⟨by omega, by omega, s7⟩) (Or.inr ⟨by omega, rfl⟩) (Or.inr ⟨by omega, rfl⟩)⟩
          · rename_i k2
            rw [ifp_lt]
            split
            · rename_i f1
              rw [ifp_lt]
              split
              · rename_i f2
                refine ⟨m, rfl, (by first | exact trivial | exact rfl), ⟨A, S, Mi, rfl, rfl, rfl, by omega, by omega, by omega, by omega, Eq.symm (rfl), by omega⟩, fun _ d8 hr8 => ?_, trivial⟩
                obtain ⟨m8, _⟩ := d8
                obtain ⟨l8, s8⟩ := hr8
                have l8' : m8.length = m.length := l8.trans (rfl)
                rw [ifp_lt]
                split
                · rename_i g1
                  rw [ifp_lt]
                  split
                  · rename_i g2
                    refine ⟨m8, rfl, (by first | exact trivial | exact rfl), ⟨Mi, E, B, rfl, rfl, rfl, by omega, by omega, by omega, by omega, Eq.symm (l8'), by omega⟩, fun _ d9 hr9 => ?_, trivial⟩
                    obtain ⟨m9, _⟩ := d9
                    obtain ⟨l9, s9⟩ := hr9
                    exact ⟨m9, rfl, (by first | exact trivial | exact rfl), l9.trans (l8'), fin m m8 m9 (Or.inr ⟨by omega, rfl⟩) (Or.inl ⟨by omega, by omega, s8⟩) (Or.inl ⟨by omega, by omega, s9⟩)⟩
                  · rename_i g2
                    exact ⟨m8, rfl, (by first | exact trivial | exact rfl), l8', fin m m8 m8 (Or.inr ⟨by omega, rfl⟩) (Or.inl ⟨by omega, by omega, s8⟩) (Or.inr ⟨by omega, rfl⟩)⟩
                · rename_i g1
                  exact ⟨m8, rfl, (by first | exact trivial | exact rfl), l8', fin m m8 m8 (Or.inr ⟨by omega, rfl⟩) (Or.inl ⟨by omega, by omega, s8⟩) (Or.inr ⟨by omega, rfl⟩)⟩
              · rename_i f2
                rw [ifp_lt]
                split
                · rename_i g1
                  rw [ifp_lt]
                  split
                  · rename_i g2
                    refine ⟨m, rfl, (by first | exact trivial | exact rfl), ⟨Mi, E, B, rfl, rfl, rfl, by omega, by omega, by omega, by omega, Eq.symm (rfl), by omega⟩, fun _ d9 hr9 => ?_, trivial⟩
                    obtain ⟨m9, _⟩ := d9
                    obtain ⟨l9, s9⟩ := hr9
                    exact ⟨m9, rfl, (by first | exact trivial | exact rfl), l9.trans (rfl), fin m m m9 (Or.inr ⟨by omega, rfl⟩) (Or.inr ⟨by omega, rfl⟩) (Or.inl ⟨by omega, by omega, s9⟩)⟩
                  · rename_i g2
                    exact ⟨m, rfl, (by first | exact trivial | exact rfl), rfl, fin m m m (Or.inr ⟨by omega, rfl⟩) (Or.inr ⟨by omega, rfl⟩) (Or.inr ⟨by omega, rfl⟩)⟩
                · rename_i g1
                  exact ⟨m, rfl, (by first | exact trivial | exact rfl), rfl, fin m m m (Or.inr ⟨by omega, rfl⟩) (Or.inr ⟨by omega, rfl⟩) (Or.inr ⟨by omega, rfl⟩)⟩
            · rename_i f1
              rw [ifp_lt]
              split
              · rename_i g1
                rw [ifp_lt]
                split
                · rename_i g2
                  refine ⟨m, rfl, (by first | exact trivial | exact rfl), ⟨Mi, E, B, rfl, rfl, rfl, by omega, by omega, by omega, by omega, Eq.symm (rfl), by omega⟩, fun _ d9 hr9 => ?_, trivial⟩
                  obtain ⟨m9, _⟩ := d9
                  obtain ⟨l9, s9⟩ := hr9
                  exact ⟨m9, rfl, (by first | exact trivial | exact rfl), l9.trans (rfl), fin m m m9 (Or.inr ⟨by omega, rfl⟩) (Or.inr ⟨by omega, rfl⟩) (Or.inl ⟨by omega, by omega, s9⟩)⟩
                · rename_i g2
                  exact ⟨m, rfl, (by first | exact trivial | exact rfl), rfl, fin m m m (Or.inr ⟨by omega, rfl⟩) (Or.inr ⟨by omega, rfl⟩) (Or.inr ⟨by omega, rfl⟩)⟩
              · rename_i g1
                exact ⟨m, rfl, (by first | exact trivial | exact rfl), rfl, fin m m m (Or.inr ⟨by omega, rfl⟩) (Or.inr ⟨by omega, rfl⟩) (Or.inr ⟨by omega, rfl⟩)⟩
        · rename_i k1
          rw [ifp_lt]
          split
          · rename_i f1
            rw [ifp_lt]
            split
            · rename_i f2
              refine ⟨m, rfl, (by first | exact trivial | exact rfl), ⟨A, S, Mi, rfl, rfl, rfl, by omega, by omega, by omega, by omega, Eq.symm (rfl), by omega⟩, fun _ d8 hr8 => ?_, trivial⟩
              obtain ⟨m8, _⟩ := d8
              obtain ⟨l8, s8⟩ := hr8
              have l8' : m8.length = m.length := l8.trans (rfl)
              rw [ifp_lt]
              split
              · rename_i g1
                rw [ifp_lt]
                split
                · rename_i g2
                  refine ⟨m8, rfl, (by first | exact trivial | exact rfl), ⟨Mi, E, B, rfl, rfl, rfl, by omega, by omega, by omega, by omega, Eq.symm (l8'), by omega⟩, fun _ d9 hr9 => ?_, trivial⟩
                  obtain ⟨m9, _⟩ := d9
                  obtain ⟨l9, s9⟩ := hr9
                  exact ⟨m9, rfl, (by first | exact trivial | exact rfl), l9.trans (l8'), fin m m8 m9 (Or.inr ⟨by omega, rfl⟩) (Or.inl ⟨by omega, by omega, s8⟩) (Or.inl ⟨by omega, by omega, s9⟩)⟩
                · rename_i g2
                  exact ⟨m8, rfl, (by first | exact trivial | exact rfl), l8', fin m m8 m8 (Or.inr ⟨by omega, rfl⟩) (Or.inl ⟨by omega, by omega, s8⟩) (Or.inr ⟨by omega, rfl⟩)⟩
              · rename_i g1
                exact ⟨m8, rfl, (by first | exact trivial | exact rfl), l8', fin m m8 m8 (Or.inr ⟨by omega, rfl⟩) (Or.inl ⟨by omega, by omega, s8⟩) (Or.inr ⟨by omega, rfl⟩)⟩
            · rename_i f2
              rw [ifp_lt]
              split
              · rename_i g1
                rw [ifp_lt]
                split
                · rename_i g2
                  refine ⟨m, rfl, (by first | exact trivial | exact rfl), ⟨Mi, E, B, rfl, rfl, rfl, by omega, by omega, by omega, by omega, Eq.symm (rfl), by omega⟩, fun _ d9 hr9 => ?_, trivial⟩
                  obtain ⟨m9, _⟩ := d9
                  obtain ⟨l9, s9⟩ := hr9
                  exact ⟨m9, rfl, (by first | exact trivial | exact rfl), l9.trans (rfl), fin m m m9 (Or.inr ⟨by omega, rfl⟩) (Or.inr ⟨by omega, rfl⟩) (Or.inl ⟨by omega, by omega, s9⟩)⟩
                · rename_i g2
                  exact ⟨m, rfl, (by first | exact trivial | exact rfl), rfl, fin m m m (Or.inr ⟨by omega, rfl⟩) (Or.inr ⟨by omega, rfl⟩) (Or.inr ⟨by omega, rfl⟩)⟩
              · rename_i g1
                exact ⟨m, rfl, (by first | exact trivial | exact rfl), rfl, fin m m m (Or.inr ⟨by omega, rfl⟩) (Or.inr ⟨by omega, rfl⟩) (Or.inr ⟨by omega, rfl⟩)⟩
          · rename_i f1
            rw [ifp_lt]
            split
            · rename_i g1
              rw [ifp_lt]
              split
              · rename_i g2
                refine ⟨m, rfl, (by first | exact trivial | exact rfl), ⟨Mi, E, B, rfl, rfl, rfl, by omega, by omega, by omega, by omega, Eq.symm (rfl), by omega⟩, fun _ d9 hr9 => ?_, trivial⟩
                obtain ⟨m9, _⟩ := d9
                obtain ⟨l9, s9⟩ := hr9
                exact ⟨m9, rfl, (by first | exact trivial | exact rfl), l9.trans (rfl), fin m m m9 (Or.inr ⟨by omega, rfl⟩) (Or.inr ⟨by omega, rfl⟩) (Or.inl ⟨by omega, by omega, s9⟩)⟩
              · rename_i g2
                exact ⟨m, rfl, (by first | exact trivial | exact rfl), rfl, fin m m m (Or.inr ⟨by omega, rfl⟩) (Or.inr ⟨by omega, rfl⟩) (Or.inr ⟨by omega, rfl⟩)⟩
            · rename_i g1
              exact ⟨m, rfl, (by first | exact trivial | exact rfl), rfl, fin m m m (Or.inr ⟨by omega, rfl⟩) (Or.inr ⟨by omega, rfl⟩) (Or.inr ⟨by omega, rfl⟩)⟩
      · rename_i hlt
        refine ⟨sm5Ok, trivial, trivial, m, rfl, (by first | exact trivial | exact rfl), ⟨A, M, Mi + M - 1, rfl, rfl, rfl, by omega, by omega, by omega, by omega, rfl, hm⟩, fun c d3 hr => ?_, trivial⟩
        obtain ⟨dd, a2, p2, b2, _, mid2, n2, s2, _⟩ := c
        obtain ⟨m2, _⟩ := d3
        obtain ⟨r1, r2, r3, r4, r5, r8, r9, S, r6, r7⟩ := hr
        obtain rfl : dd = (m.length, d2) := r1
        obtain rfl : a2 = (A : Int) := r2
        obtain rfl : p2 = (M : Int) := r3
        obtain rfl : b2 = (B : Int) := r4
        obtain rfl : mid2 = (Mi : Int) := r5
        obtain rfl : n2 = ((Mi + M : Nat) : Int) := r8
        obtain rfl : m = m2 := r9.symm
        obtain rfl : s2 = (S : Int) := r6
        have hb : Go.Det.Stab.BS (fun c => !Go.Det.Stab.at_ ltC m (Mi + M - 1 - c) c) (A) (M) S := r7
        have hb1 := hb.1
        have hb2 := hb.2.1
        obtain ⟨E, hE⟩ : ∃ E, E = Mi + M - S := ⟨_, rfl⟩
        have eE : wrapF .i64 (Int.sub ((Mi + M : Nat) : Int) (S : Int)) = (E : Int) := by rw [wsub (by omega) (by omega)]; omega
        have fin : ∀ l1 l2 l3 : List Cd, ((S < M ∧ M < E ∧ Go.Det.Stab.RotR m S M E l1) ∨ (¬ (S < M ∧ M < E) ∧ l1 = m)) → ((A < S ∧ S < Mi ∧ Go.Det.Stab.SymR ltC l1 A S Mi l2) ∨ (¬ (A < S ∧ S < Mi) ∧ l2 = l1)) → ((Mi < E ∧ E < B ∧ Go.Det.Stab.SymR ltC l2 Mi E B l3) ∨ (¬ (Mi < E ∧ E < B) ∧ l3 = l2)) → Go.Det.Stab.SymR ltC m A M B l3 := by
          subst hE
          exact fun l1 l2 l3 h1 h2 h3 => Go.Det.Stab.SymR.halves weakC hAM hMB hH (Or.inr ⟨by omega, rfl, rfl⟩) hb h1 h2 h3
        simp only [eE]
        rw [ifp_lt]
        split
        · rename_i k1
          rw [ifp_lt]
          split
          · rename_i k2
            refine ⟨m, rfl, (by first | exact trivial | exact rfl), ⟨S, M, E, rfl, rfl, rfl, by omega, by omega, by omega, rfl, hm⟩, fun _ d7 hr7 => ?_, trivial⟩
            obtain ⟨m7, _⟩ := d7
            obtain ⟨l7, s7⟩ := hr7
            replace l7 : m7.length = m.length := l7
            rw [ifp_lt]
            split
            · rename_i f1
              rw [ifp_lt]
              split
              · rename_i f2
                refine ⟨m7, rfl, (by first | exact trivial | exact rfl), ⟨A, S, Mi, rfl, rfl, rfl, by omega, by omega, by omega, by omega, Eq.symm (l7), by omega⟩, fun _ d8 hr8 => ?_, trivial⟩
                obtain ⟨m8, _⟩ := d8
                obtain ⟨l8, s8⟩ := hr8
                have l8' : m8.length = m.length := l8.trans (l7)
                rw [ifp_lt]
                split
                · rename_i g1
                  rw [ifp_lt]
                  split
                  · rename_i g2
                    refine ⟨m8, rfl, (by first | exact trivial | exact rfl), ⟨Mi, E, B, rfl, rfl, rfl, by omega, by omega, by omega, by omega, Eq.symm (l8'), by omega⟩, fun _ d9 hr9 => ?_, trivial⟩
                    obtain ⟨m9, _⟩ := d9
                    obtain ⟨l9, s9⟩ := hr9
                    exact ⟨m9, rfl, (by first | exact trivial | exact rfl), l9.trans (l8'), fin m7 m8 m9 (Or.inl ⟨by omega, by omega, s7⟩) (Or.inl ⟨by omega, by omega, s8⟩) (Or.inl ⟨by omega, by omega, s9⟩)⟩
                  · rename_i g2
                    exact ⟨m8, rfl, (by first | exact trivial | exact rfl), l8', fin m7 m8 m8 (Or.inl ⟨by omega, by omega, s7⟩) (Or.inl ⟨by omega, by omega, s8⟩) (Or.inr ⟨by omega, rfl⟩)⟩
                · rename_i g1
                  exact ⟨m8, rfl, (by first | exact trivial | exact rfl), l8', fin m7 m8 m8 (Or.inl ⟨by omega, by omega, s7⟩) (Or.inl ⟨by omega, by omega, s8⟩) (Or.inr ⟨by omega, rfl⟩)⟩
              · rename_i f2
                rw [ifp_lt]
                split
                · rename_i g1
                  rw [ifp_lt]
                  split
                  · rename_i g2
                    refine ⟨m7, rfl, (by first | exact trivial | exact rfl), ⟨Mi, E, B, rfl, rfl, rfl, by omega, by omega, by omega, by omega, Eq.symm (l7), by omega⟩, fun _ d9 hr9 => ?_, trivial⟩
                    obtain ⟨m9, _⟩ := d9
                    obtain ⟨l9, s9⟩ := hr9
                    exact ⟨m9, rfl, (by first | exact trivial | exact rfl), l9.trans (l7), fin m7 m7 m9 (Or.inl ⟨by omega, by omega, s7⟩) (Or.inr ⟨by omega, rfl⟩) (Or.inl ⟨by omega, by omega, s9⟩)⟩
                  · rename_i g2
                    exact ⟨m7, rfl, (by first | exact trivial | exact rfl), l7, fin m7 m7 m7 (Or.inl ⟨by omega, by omega, s7⟩) (Or.inr ⟨by omega, rfl⟩) (Or.inr ⟨by omega, rfl⟩)⟩
                · rename_i g1
                  exact ⟨m7, rfl, (by first | exact trivial | exact rfl), l7, fin m7 m7 m7 (Or.inl ⟨by omega, by omega, s7⟩) (Or.inr ⟨by omega, rfl⟩) (Or.inr ⟨by omega, rfl⟩)⟩
            · rename_i f1
              rw [ifp_lt]
              split
              · rename_i g1
                rw [ifp_lt]
                split
                · rename_i g2
                  refine ⟨m7, rfl, (by first | exact trivial | exact rfl), ⟨Mi, E, B, rfl, rfl, rfl, by omega, by omega, by omega, by omega, Eq.symm (l7), by omega⟩, fun _ d9 hr9 => ?_, trivial⟩
                  obtain ⟨m9, _⟩ := d9
                  obtain ⟨l9, s9⟩ := hr9
                  exact ⟨m9, rfl, (by first | exact trivial | exact rfl), l9.trans (l7), fin m7 m7 m9 (Or.inl ⟨by omega, by omega, s7⟩) (Or.inr ⟨by omega, rfl⟩) (Or.inl ⟨by omega, by omega, s9⟩)⟩
                · rename_i g2
                  exact ⟨m7, rfl, (by first | exact trivial | exact rfl), l7, fin m7 m7 m7 (Or.inl ⟨by omega, by omega, s7⟩) (Or.inr ⟨by omega, rfl⟩) (Or.inr ⟨by omega, rfl⟩)⟩
              · rename_i g1
                exact ⟨m7, rfl, (by first | exact trivial | exact rfl), l7, fin m7 m7 m7 (Or.inl ⟨by omega, by omega, s7⟩) (Or.inr ⟨by omega, rfl⟩) (Or.inr ⟨by omega, rfl⟩)⟩
          · rename_i k2
            rw [ifp_lt]
            split
            · rename_i f1
              rw [ifp_lt]
              split
              · rename_i f2
                refine ⟨m, rfl, (by first | exact trivial | exact rfl), ⟨A, S, Mi, rfl, rfl, rfl, by omega, by omega, by omega, by omega, Eq.symm (rfl), by omega⟩, fun _ d8 hr8 => ?_, trivial⟩
                obtain ⟨m8, _⟩ := d8
                obtain ⟨l8, s8⟩ := hr8
                have l8' : m8.length = m.length := l8.trans (rfl)
                rw [ifp_lt]
                split
                · rename_i g1
                  rw [ifp_lt]
                  split
                  · rename_i g2
                    refine ⟨m8, rfl, (by first | exact trivial | exact rfl), ⟨Mi, E, B, rfl, rfl, rfl, by omega, by omega, by omega, by omega, Eq.symm (l8'), by omega⟩, fun _ d9 hr9 => ?_, trivial⟩
                    obtain ⟨m9, _⟩ := d9
                    obtain ⟨l9, s9⟩ := hr9
                    exact ⟨m9, rfl, (by first | exact trivial | exact rfl), l9.trans (l8'), fin m m8 m9 (Or.inr ⟨by omega, rfl⟩) (Or.inl ⟨by omega, by omega, s8⟩) (Or.inl ⟨by omega, by omega, s9⟩)⟩
                  · rename_i g2
                    exact ⟨m8, rfl, (by first | exact trivial | exact rfl), l8', fin m m8 m8 (Or.inr ⟨by omega, rfl⟩) (Or.inl ⟨by omega, by omega, s8⟩) (Or.inr ⟨by omega, rfl⟩)⟩
                · rename_i g1
                  exact ⟨m8, rfl, (by first | exact trivial | exact rfl), l8', fin m m8 m8 (Or.inr ⟨by omega, rfl⟩) (Or.inl ⟨by omega, by omega, s8⟩) (Or.inr ⟨by omega, rfl⟩)⟩
              · rename_i f2
                rw [ifp_lt]
                split
                · rename_i g1
                  rw [ifp_lt]
                  split
                  · rename_i g2
                    refine ⟨m, rfl, (by first | exact trivial | exact rfl), ⟨Mi, E, B, rfl, rfl, rfl, by omega, by omega, by omega, by omega, Eq.symm (rfl), by omega⟩, fun _ d9 hr9 => ?_, trivial⟩
                    obtain ⟨m9, _⟩ := d9
                    obtain ⟨l9, s9⟩ := hr9
                    exact ⟨m9, rfl, (by first | exact trivial | exact rfl), l9.trans (rfl), fin m m m9 (Or.inr ⟨by omega, rfl⟩) (Or.inr ⟨by omega, rfl⟩) (Or.inl ⟨by omega, by omega, s9⟩)⟩
                  · rename_i g2
                    exact ⟨m, rfl, (by first | exact trivial | exact rfl), rfl, fin m m m (Or.inr ⟨by omega, rfl⟩) (Or.inr ⟨by omega, rfl⟩) (Or.inr ⟨by omega, rfl⟩)⟩
                · rename_i g1
                  exact ⟨m, rfl, (by first | exact trivial | exact rfl), rfl, fin m m m (Or.inr ⟨by omega, rfl⟩) (Or.inr ⟨by omega, rfl⟩) (Or.inr ⟨by omega, rfl⟩)⟩
            · rename_i f1
              rw [ifp_lt]
              split
              · rename_i g1
                rw [ifp_lt]
                split
                · rename_i g2
                  refine ⟨m, rfl, (by first | exact trivial | exact rfl), ⟨Mi, E, B, rfl, rfl, rfl, by omega, by omega, by omega, by omega, Eq.symm (rfl), by omega⟩, fun _ d9 hr9 => ?_, trivial⟩
                  obtain ⟨m9, _⟩ := d9
                  obtain ⟨l9, s9⟩ := hr9
                  exact ⟨m9, rfl, (by first | exact trivial | exact rfl), l9.trans (rfl), fin m m m9 (Or.inr ⟨by omega, rfl⟩) (Or.inr ⟨by omega, rfl⟩) (Or.inl ⟨by omega, by omega, s9⟩)⟩
                · rename_i g2
                  exact ⟨m, rfl, (by first | exact trivial | exact rfl), rfl, fin m m m (Or.inr ⟨by omega, rfl⟩) (Or.inr ⟨by omega, rfl⟩) (Or.inr ⟨by omega, rfl⟩)⟩
              · rename_i g1
                exact ⟨m, rfl, (by first | exact trivial | exact rfl), rfl, fin m m m (Or.inr ⟨by omega, rfl⟩) (Or.inr ⟨by omega, rfl⟩) (Or.inr ⟨by omega, rfl⟩)⟩
        · rename_i k1
          rw [ifp_lt]
          split
          · rename_i f1
            rw [ifp_lt]
            split
            · rename_i f2
              refine ⟨m, rfl, (by first | exact trivial | exact rfl), ⟨A, S, Mi, rfl, rfl, rfl, by omega, by omega, by omega, by omega, Eq.symm (rfl), by omega⟩, fun _ d8 hr8 => ?_, trivial⟩
              obtain ⟨m8, _⟩ := d8
              obtain ⟨l8, s8⟩ := hr8
              have l8' : m8.length = m.length := l8.trans (rfl)
              rw [ifp_lt]
              split
              · rename_i g1
                rw [ifp_lt]
                split
                · rename_i g2
                  refine ⟨m8, rfl, (by first | exact trivial | exact rfl), ⟨Mi, E, B, rfl, rfl, rfl, by omega, by omega, by omega, by omega, Eq.symm (l8'), by omega⟩, fun _ d9 hr9 => ?_, trivial⟩
                  obtain ⟨m9, _⟩ := d9
                  obtain ⟨l9, s9⟩ := hr9
                  exact ⟨m9, rfl, (by first | exact trivial | exact rfl), l9.trans (l8'), fin m m8 m9 (Or.inr ⟨by omega, rfl⟩) (Or.inl ⟨by omega, by omega, s8⟩) (Or.inl ⟨by omega, by omega, s9⟩)⟩
                · rename_i g2
                  exact ⟨m8, rfl, (by first | exact trivial | exact rfl), l8', fin m m8 m8 (Or.inr ⟨by omega, rfl⟩) (Or.inl ⟨by omega, by omega, s8⟩) (Or.inr ⟨by omega, rfl⟩)⟩
              · rename_i g1
                exact ⟨m8, rfl, (by first | exact trivial | exact rfl), l8', fin m m8 m8 (Or.inr ⟨by omega, rfl⟩) (Or.inl ⟨by omega, by omega, s8⟩) (Or.inr ⟨by omega, rfl⟩)⟩
            · rename_i f2
              rw [ifp_lt]
              split
              · rename_i g1
                rw [ifp_lt]
                split
                · rename_i g2
                  refine ⟨m, rfl, (by first | exact trivial | exact rfl), ⟨Mi, E, B, rfl, rfl, rfl, by omega, by omega, by omega, by omega, Eq.symm (rfl), by omega⟩, fun _ d9 hr9 => ?_, trivial⟩
                  obtain ⟨m9, _⟩ := d9
                  obtain ⟨l9, s9⟩ := hr9
                  exact ⟨m9, rfl, (by first | exact trivial | exact rfl), l9.trans (rfl), fin m m m9 (Or.inr ⟨by omega, rfl⟩) (Or.inr ⟨by omega, rfl⟩) (Or.inl ⟨by omega, by omega, s9⟩)⟩
                · rename_i g2
                  exact ⟨m, rfl, (by first | exact trivial | exact rfl), rfl, fin m m m (Or.inr ⟨by omega, rfl⟩) (Or.inr ⟨by omega, rfl⟩) (Or.inr ⟨by omega, rfl⟩)⟩
              · rename_i g1
                exact ⟨m, rfl, (by first | exact trivial | exact rfl), rfl, fin m m m (Or.inr ⟨by omega, rfl⟩) (Or.inr ⟨by omega, rfl⟩) (Or.inr ⟨by omega, rfl⟩)⟩
          · rename_i f1
            rw [ifp_lt]
            split
            · rename_i g1
              rw [ifp_lt]
              split
              · rename_i g2
                refine ⟨m, rfl, (by first | exact trivial | exact rfl), ⟨Mi, E, B, rfl, rfl, rfl, by omega, by omega, by omega, by omega, Eq.symm (rfl), by omega⟩, fun _ d9 hr9 => ?_, trivial⟩
                obtain ⟨m9, _⟩ := d9
                obtain ⟨l9, s9⟩ := hr9
                exact ⟨m9, rfl, (by first | exact trivial | exact rfl), l9.trans (rfl), fin m m m9 (Or.inr ⟨by omega, rfl⟩) (Or.inr ⟨by omega, rfl⟩) (Or.inl ⟨by omega, by omega, s9⟩)⟩
              · rename_i g2
                exact ⟨m, rfl, (by first | exact trivial | exact rfl), rfl, fin m m m (Or.inr ⟨by omega, rfl⟩) (Or.inr ⟨by omega, rfl⟩) (Or.inr ⟨by omega, rfl⟩)⟩
            · rename_i g1
              exact ⟨m, rfl, (by first | exact trivial | exact rfl), rfl, fin m m m (Or.inr ⟨by omega, rfl⟩) (Or.inr ⟨by omega, rfl⟩) (Or.inr ⟨by omega, rfl⟩)⟩
theorem symCc : ∀ D, CcOk Tryd.prog 50 (symK D)
  | 0 => call_ok mixed (K := KLS [] [] 25) (n := 0) (vm := false) (rw' := fun _ => false) (KLS_ok (cc_nil)) rfl (fun z hp => ((fun (z : symZ) (h : symPre 0 z) => (by obtain ⟨⟨d, a, p, b, _, _⟩, m, _⟩ := z; obtain ⟨A, M, B, _, _, _, _, _, _, h, _⟩ := h; omega : False)) z hp).elim)
  | D + 1 => call_ok mixed (KLS_ok (cc_cons cmpcCc (cc_cons rotCc (cc_cons (symCc D) (cc_nil))))) rfl (symStep D)

end Go.Proofs.YteehkdejkemnmabDoor
