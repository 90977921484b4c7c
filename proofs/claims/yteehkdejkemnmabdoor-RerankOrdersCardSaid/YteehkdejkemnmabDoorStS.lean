/- Forms and contracts, printed by gx.py. -/
import Derived.Test.YteehkdejkemnmabDoorRows
import Derived.Test.YteehkdejkemnmabDoorDvUse
import Derived.Test.YteehkdejkemnmabDoorDvArg
import Derived.ProofKit
import Derived.Test.YteehkdejkemnmabDoorBase
import Derived.Test.YteehkdejkemnmabDoorDvStab2
import Derived.Test.YteehkdejkemnmabDoorDvUse2
import Derived.Test.YteehkdejkemnmabDoorDvSort
import Derived.Test.YteehkdejkemnmabDoorOrdR
import Derived.Test.YteehkdejkemnmabDoorStR
namespace Go.Proofs.YteehkdejkemnmabDoor
open Go.Det Go.RowKit
set_option linter.unusedVariables false
set_option linter.unusedSimpArgs false
set_option maxRecDepth 100000
theorem ifp_leI {a b : Int} {x y : Prop} : ifp (leInt a b) x y = if a ≤ b then x else y := by
  by_cases h : a ≤ b
  · rw [ifp_pos (by rw [leInt_eq]; simpa using h), if_pos h]
  · rw [ifp_neg (by rw [leInt_eq]; simpa using h), if_neg h]

/-! The loop st1 of slices.stableCmpFunc[wayfinder/api.Cand]. -/
abbrev st1Z := ((Nat × Nat) × Int × Unit × Int × Int × Int × Unit) × ((List Cd) × Unit)
noncomputable def st1Sl : Tel ((Nat × Nat) × Int × Unit × Int × Int × Int × Unit) := .cons 0 (.slq 0 4) (.cons 1 (.int .i64) (.cons 2 (.fnp 18 []) (.cons 6 (.int .i64) (.cons 7 (.int .i64) (.cons 8 (.int .i64) (.nil))))))
noncomputable def st1Bl : BTel ((List Cd) × Unit) := .cons (.rows Ec 25) (.nil)
noncomputable def st1Fs : List (LForm st1Z) := [⟨_, _, st1Sl, st1Bl, fun x y => (x, y)⟩]
noncomputable def st1Alts (R0 : st1Z → ((Nat × Nat) × Int × Unit × Int × Int × Unit) → ((List Cd) × Unit) → Prop) : List (Alt st1Z) := [⟨.exit 0, (Nat × Nat) × Int × Unit × Int × Int × Unit, (List Cd) × Unit, .cons 0 (.slq 0 4) (.cons 1 (.int .i64) (.cons 2 (.fnp 18 []) (.cons 6 (.int .i64) (.cons 7 (.int .i64) (.nil))))), .cons (.rows Ec 25) (.nil), R0⟩]

theorem st1Form (d : Nat × Nat) (n : Int) (w : Int) (a : Int) (b : Int) (m : List Cd) (N : st1Z → Prop) (R0 : st1Z → ((Nat × Nat) × Int × Unit × Int × Int × Unit) → ((List Cd) × Unit) → Prop) : ((runW Tryd.prog (KLS [(49, insK)] [] 25) 100).code none 35 63 (loopBody Tryd.prog 35 2) (mkT (st1Sl.av id (d, (n, ((), (w, (a, (b, ())))))))) [] (stL false (st1Bl.obs id (m, ()))) (postL 1 st1Fs (st1Alts R0) ((d, (n, ((), (w, (a, (b, ())))))), (m, ())) N)) =
  ( ifp (leInt b n) (∃ (l : List Cd), List.flatMap Ec.f m = List.flatMap Ec.f l ∧ true = true ∧ insPre (((d.fst, d.snd), a, b, (), ()), l, ()) ∧ (∀ (c : Unit) (d_1
  : List Cd × Unit), insR0 (((d.fst, d.snd), a, b, (), ()), l, ()) c d_1 → True ∧ ∃ (l : List Cd), List.flatMap Ec.f d_1.1 = List.flatMap Ec.f l ∧ true = true ∧
  N (((d.fst, d.snd), n, (), w, b, wrapF IntKind.i64 (b.add w), ()), l, ())) ∧ True) (True ∧ ∃ (l : List Cd), List.flatMap Ec.f m = List.flatMap Ec.f l ∧ true =
  true ∧ R0 ((d, n, (), w, a, b, ()), m, ()) ((d.fst, d.snd), n, (), w, a, ()) (l, ()))) := by kernel_rfl

def st1Inv : st1Z → Prop := fun ((d, (n, ((), (w, (a, (b, ())))))), (m, ())) => ∃ A : Nat, a = A ∧ w = 20 ∧ b = ((A + 20 : Nat) : Int) ∧ n = (m.length : Int) ∧ A ≤ m.length ∧ d.1 = m.length ∧ m.length ≤ 1000000
def st1Mu : st1Z → Nat := fun ((d, (n, ((), (w, (a, (b, ())))))), (m, ())) => n.toNat + 21 - b.toNat
def st1R0 : st1Z → ((Nat × Nat) × Int × Unit × Int × Int × Unit) → ((List Cd) × Unit) → Prop := fun ((d, (n, ((), (w, (a, (b, ())))))), (m, ())) (d2, n2, _, w2, a2, _) (m2, _) => d2 = d ∧ n2 = n ∧ w2 = w ∧ m2.length = m.length ∧ ∃ A2 : Nat, a2 = A2 ∧ A2 ≤ m.length ∧ m.length < A2 + 20 ∧ ∀ m3, Go.Det.Stab.SortR ltC m2 A2 m.length m3 → Go.Det.Stab.StR1 ltC 20 m a.toNat m3
noncomputable def st1C : LoopC := loopC 1 st1Fs (st1Alts st1R0) st1Inv

theorem st1Step : stepsOk Tryd.prog (KLS [(49, insK)] [] 25) 100 35 63 (loopBody Tryd.prog 35 2) 1 false st1Fs (st1Alts st1R0) st1Inv st1Mu ⟨_, _, st1Sl, st1Bl, fun x y => (x, y)⟩ := by
  intro x y hz
  obtain ⟨d, n, _, w, a, b, _⟩ := x
  obtain ⟨m, _⟩ := y
  refine (st1Form d n w a b m _ _).mpr ?_
  obtain ⟨A, rfl, rfl, rfl, rfl, hA, hd, hm⟩ := hz
  obtain ⟨d1, d2⟩ := d
  obtain rfl : d1 = m.length := hd
  rw [ifp_leI]
  split
  · rename_i h
    have e1 : wrapF .i64 (Int.add ((A + 20 : Nat) : Int) 20) = ((A + 20 + 20 : Nat) : Int) := by rw [wadd (by omega) (by omega)]; omega
    simp only [e1]
    refine ⟨m, rfl, (by first | exact trivial | exact rfl), ⟨A, A + 20, rfl, rfl, by omega, by omega, rfl, hm⟩, fun _ d3 hr => ?_, trivial⟩
    obtain ⟨m2, _⟩ := d3
    obtain ⟨l2, s2⟩ := hr
    replace l2 : m2.length = m.length := l2
    refine ⟨trivial, m2, rfl, (by first | exact trivial | exact rfl), ⟨A + 20, rfl, rfl, rfl, by rw [l2], by omega, l2.symm, by omega⟩, by show m.length + 21 - (A + 20 + 20) < m.length + 21 - (A + 20); omega, fun c d4 hr4 => ?_, trivial⟩
    obtain ⟨dd, n2, _, w2, a2, _⟩ := c
    obtain ⟨m4, _⟩ := d4
    obtain ⟨r1, r2, r3, r4, A2, r5, r6, r7, r8⟩ := hr4
    rw [l2] at r6 r7 r8
    exact ⟨r1, r2, r3, r4.trans l2, A2, r5, r6, r7, fun m3 h3 => Go.Det.Stab.StR1.step (by show A + 20 ≤ m.length; omega) s2 (r8 m3 h3)⟩
  · rename_i h
    exact ⟨trivial, m, rfl, (by first | exact trivial | exact rfl), rfl, rfl, rfl, rfl, A, rfl, hA, by omega, fun m3 h3 => Go.Det.Stab.StR1.done (by show m.length < A + 20; omega) h3⟩
theorem st1Ok : LoopOk Tryd.prog 35 63 (.loop (loopBody Tryd.prog 35 2)) (st1C) := loop_ok st1Mu  mixed (KLS_ok (cc_cons insCc (cc_nil))) rfl (steps_cons st1Step (steps_nil))

/-! The loop st3 of slices.stableCmpFunc[wayfinder/api.Cand]. -/
abbrev st3Z := ((Nat × Nat) × Int × Unit × Int × Int × Int × Unit) × ((List Cd) × Unit)
noncomputable def st3Sl : Tel ((Nat × Nat) × Int × Unit × Int × Int × Int × Unit) := .cons 0 (.slq 0 4) (.cons 1 (.int .i64) (.cons 2 (.fnp 18 []) (.cons 6 (.int .i64) (.cons 7 (.int .i64) (.cons 8 (.int .i64) (.nil))))))
noncomputable def st3Bl : BTel ((List Cd) × Unit) := .cons (.rows Ec 25) (.nil)
noncomputable def st3Fs : List (LForm st3Z) := [⟨_, _, st3Sl, st3Bl, fun x y => (x, y)⟩]
noncomputable def st3Alts (R0 : st3Z → ((Nat × Nat) × Int × Unit × Int × Int × Unit) → ((List Cd) × Unit) → Prop) : List (Alt st3Z) := [⟨.exit 4, (Nat × Nat) × Int × Unit × Int × Int × Unit, (List Cd) × Unit, .cons 0 (.slq 0 4) (.cons 1 (.int .i64) (.cons 2 (.fnp 18 []) (.cons 6 (.int .i64) (.cons 7 (.int .i64) (.nil))))), .cons (.rows Ec 25) (.nil), R0⟩]

theorem st3Form (d : Nat × Nat) (n : Int) (w : Int) (a : Int) (b : Int) (m : List Cd) (N : st3Z → Prop) (R0 : st3Z → ((Nat × Nat) × Int × Unit × Int × Int × Unit) → ((List Cd) × Unit) → Prop) : ((runW Tryd.prog (KLS [(50, symK 1000001)] [] 25) 100).code none 35 63 (loopBody Tryd.prog 35 9) (mkT (st3Sl.av id (d, (n, ((), (w, (a, (b, ())))))))) [] (stL false (st3Bl.obs id (m, ()))) (postL 1 st3Fs (st3Alts R0) ((d, (n, ((), (w, (a, (b, ())))))), (m, ())) N)) =
  ( ifp (leInt b n) (∃ (l : List Cd), List.flatMap Ec.f m = List.flatMap Ec.f l ∧ true = true ∧ symPre (1000001 : Nat) (((d.fst, d.snd), a, wrapF IntKind.i64 (a.add
  w), b, (), ()), l, ()) ∧ (∀ (c : Unit) (d_1 : List Cd × Unit), symR0 (((d.fst, d.snd), a, wrapF IntKind.i64 (a.add w), b, (), ()), l, ()) c d_1 → True ∧ ∃ (l :
  List Cd), List.flatMap Ec.f d_1.1 = List.flatMap Ec.f l ∧ true = true ∧ N (((d.fst, d.snd), n, (), w, b, wrapF IntKind.i64 (b.add (wrapF IntKind.i64 (Int.mul
  (2 : Int) w))), ()), l, ())) ∧ True) (True ∧ ∃ (l : List Cd), List.flatMap Ec.f m = List.flatMap Ec.f l ∧ true = true ∧ R0 ((d, n, (), w, a, b, ()), m, ())
  ((d.fst, d.snd), n, (), w, a, ()) (l, ()))) := by kernel_rfl

def st3Inv : st3Z → Prop := fun ((d, (n, ((), (w, (a, (b, ())))))), (m, ())) => ∃ A W : Nat, a = A ∧ w = W ∧ 0 < W ∧ W ≤ 1000000 ∧ b = ((A + 2 * W : Nat) : Int) ∧ n = (m.length : Int) ∧ A ≤ m.length ∧ d.1 = m.length ∧ m.length ≤ 1000000
def st3Mu : st3Z → Nat := fun ((d, (n, ((), (w, (a, (b, ())))))), (m, ())) => n.toNat + 2 * w.toNat + 1 - b.toNat
def st3R0 : st3Z → ((Nat × Nat) × Int × Unit × Int × Int × Unit) → ((List Cd) × Unit) → Prop := fun ((d, (n, ((), (w, (a, (b, ())))))), (m, ())) (d2, n2, _, w2, a2, _) (m2, _) => d2 = d ∧ n2 = n ∧ w2 = w ∧ m2.length = m.length ∧ ∃ A2 : Nat, a2 = A2 ∧ A2 ≤ m.length ∧ m.length < A2 + 2 * w.toNat ∧ ∀ m3, Go.Det.Stab.PassR ltC w.toNat m2 A2 m3 → Go.Det.Stab.PassR ltC w.toNat m a.toNat m3
noncomputable def st3C : LoopC := loopC 1 st3Fs (st3Alts st3R0) st3Inv

theorem st3Step : stepsOk Tryd.prog (KLS [(50, symK 1000001)] [] 25) 100 35 63 (loopBody Tryd.prog 35 9) 1 false st3Fs (st3Alts st3R0) st3Inv st3Mu ⟨_, _, st3Sl, st3Bl, fun x y => (x, y)⟩ := by
  intro x y hz
  obtain ⟨d, n, _, w, a, b, _⟩ := x
  obtain ⟨m, _⟩ := y
  refine (st3Form d n w a b m _ _).mpr ?_
  obtain ⟨A, W, rfl, rfl, hW, hW2, rfl, rfl, hA, hd, hm⟩ := hz
  obtain ⟨d1, d2⟩ := d
  obtain rfl : d1 = m.length := hd
  rw [ifp_leI]
  split
  · rename_i h
    have e0 : wrapF .i64 (Int.mul 2 (W : Int)) = ((2 * W : Nat) : Int) := by rw [w64 (by show _ ≤ 2 * (W : Int); omega) (by show 2 * (W : Int) < _; omega)]; show 2 * (W : Int) = _; omega
    have e1 : wrapF .i64 (Int.add ((A + 2 * W : Nat) : Int) ((2 * W : Nat) : Int)) = ((A + 2 * W + 2 * W : Nat) : Int) := by rw [wadd (by omega) (by omega)]; omega
    have e2 : wrapF .i64 (Int.add (A : Int) (W : Int)) = ((A + W : Nat) : Int) := by rw [wadd (by omega) (by omega)]; omega
    simp only [e0, e1, e2]
    refine ⟨m, rfl, (by first | exact trivial | exact rfl), ⟨A, A + W, A + 2 * W, rfl, rfl, rfl, by omega, by omega, by omega, by omega, rfl, hm⟩, fun _ d3 hr => ?_, trivial⟩
    obtain ⟨m2, _⟩ := d3
    obtain ⟨l2, s2⟩ := hr
    replace l2 : m2.length = m.length := l2
    refine ⟨trivial, m2, rfl, (by first | exact trivial | exact rfl), ⟨A + 2 * W, W, rfl, rfl, hW, hW2, rfl, by rw [l2], by omega, l2.symm, by omega⟩, by show m.length + 2 * W + 1 - (A + 2 * W + 2 * W) < m.length + 2 * W + 1 - (A + 2 * W); omega, fun c d4 hr4 => ?_, trivial⟩
    obtain ⟨dd, n2, _, w2, a2, _⟩ := c
    obtain ⟨m4, _⟩ := d4
    obtain ⟨r1, r2, r3, r4, A2, r5, r6, r7, r8⟩ := hr4
    rw [l2] at r6 r7
    exact ⟨r1, r2, r3, r4.trans l2, A2, r5, r6, r7, fun m3 h3 => Go.Det.Stab.PassR.step weakC (by show A + 2 * W ≤ m.length; omega) s2 (r8 m3 h3)⟩
  · rename_i h
    exact ⟨trivial, m, rfl, (by first | exact trivial | exact rfl), rfl, rfl, rfl, rfl, A, rfl, hA, by show m.length < A + 2 * W; omega, fun m3 h3 => h3⟩
theorem st3Ok : LoopOk Tryd.prog 35 63 (.loop (loopBody Tryd.prog 35 9)) (st3C) := loop_ok st3Mu  mixed (KLS_ok (cc_cons (symCc 1000001) (cc_nil))) rfl (steps_cons st3Step (steps_nil))

/-! The loop st2 of slices.stableCmpFunc[wayfinder/api.Cand]. -/
abbrev st2Z := ((Nat × Nat) × Int × Unit × Int × Unit) × ((List Cd) × Unit)
noncomputable def st2Sl : Tel ((Nat × Nat) × Int × Unit × Int × Unit) := .cons 0 (.slq 0 4) (.cons 1 (.int .i64) (.cons 2 (.fnp 18 []) (.cons 6 (.int .i64) (.nil))))
noncomputable def st2Bl : BTel ((List Cd) × Unit) := .cons (.rows Ec 25) (.nil)
noncomputable def st2Fs : List (LForm st2Z) := [⟨_, _, st2Sl, st2Bl, fun x y => (x, y)⟩]
noncomputable def st2Alts (R0 : st2Z → (Unit) → ((List Cd) × Unit) → Prop) : List (Alt st2Z) := [⟨.exit 2, Unit, (List Cd) × Unit, .nil, .cons (.rows Ec 25) (.nil), R0⟩]

theorem st2Form (d : Nat × Nat) (n : Int) (w : Int) (m : List Cd) (N : st2Z → Prop) (R0 : st2Z → (Unit) → ((List Cd) × Unit) → Prop) : ((runW Tryd.prog (KLS [(50, symK 1000001)] [(35, [(9, st3C)])] 25) 100).code none 35 63 (loopBody Tryd.prog 35 7) (mkT (st2Sl.av id (d, (n, ((), (w, ())))))) [] (stL false (st2Bl.obs id (m, ()))) (postL 1 st2Fs (st2Alts R0) ((d, (n, ((), (w, ())))), (m, ())) N)) =
  ( ifp (!leInt n w) (LoopOk Tryd.prog (35 : FuncId) (63 : Nat) (loopBody Tryd.prog (35 : FuncId) (9 : Nat)).loop st3C ∧ True ∧ True ∧ ∃ (l : List Cd), List.flatMap
  Ec.f m = List.flatMap Ec.f l ∧ true = true ∧ st3Inv (((d.fst, d.snd), n, (), w, (0 : Int), wrapF IntKind.i64 (Int.mul (2 : Int) w), ()), l, ()) ∧ (∀ (c : (Nat
  × Nat) × Int × Unit × Int × Int × Unit) (d_1 : List Cd × Unit), st3R0 (((d.fst, d.snd), n, (), w, (0 : Int), wrapF IntKind.i64 (Int.mul (2 : Int) w), ()), l,
  ()) c d_1 → ifp (!leInt c.2.1 (wrapF IntKind.i64 (c.2.2.2.2.1.add c.2.2.2.1))) (∃ (l : List Cd), List.flatMap Ec.f d_1.1 = List.flatMap Ec.f l ∧ true = true ∧
  symPre (1000001 : Nat) (((c.1.fst, c.1.snd), c.2.2.2.2.1, wrapF IntKind.i64 (c.2.2.2.2.1.add c.2.2.2.1), c.2.1, (), ()), l, ()) ∧ (∀ (c_1 : Unit) (d : List Cd
  × Unit), symR0 (((c.1.fst, c.1.snd), c.2.2.2.2.1, wrapF IntKind.i64 (c.2.2.2.2.1.add c.2.2.2.1), c.2.1, (), ()), l, ()) c_1 d → True ∧ ∃ (l : List Cd),
  List.flatMap Ec.f d.1 = List.flatMap Ec.f l ∧ true = true ∧ N (((c.1.fst, c.1.snd), c.2.1, (), wrapF IntKind.i64 (c.2.2.2.1.mul (2 : Int)), ()), l, ())) ∧
  True) (True ∧ ∃ (l : List Cd), List.flatMap Ec.f d_1.1 = List.flatMap Ec.f l ∧ true = true ∧ N (((c.1.fst, c.1.snd), c.2.1, (), wrapF IntKind.i64
  (c.2.2.2.1.mul (2 : Int)), ()), l, ()))) ∧ True) (True ∧ ∃ (l : List Cd), List.flatMap Ec.f m = List.flatMap Ec.f l ∧ true = true ∧ R0 ((d, n, (), w, ()), m,
  ()) () (l, ()))) := by kernel_rfl

def st2Inv : st2Z → Prop := fun ((d, (n, ((), (w, ())))), (m, ())) => ∃ W : Nat, w = W ∧ 0 < W ∧ W ≤ 2000000 ∧ n = (m.length : Int) ∧ d.1 = m.length ∧ m.length ≤ 1000000
def st2Mu : st2Z → Nat := fun ((d, (n, ((), (w, ())))), (m, ())) => n.toNat - w.toNat
def st2R0 : st2Z → (Unit) → ((List Cd) × Unit) → Prop := fun ((d, (n, ((), (w, ())))), (m, ())) _ (m2, _) => m2.length = m.length ∧ Go.Det.Stab.StR2 ltC w.toNat m m2
noncomputable def st2C : LoopC := loopC 1 st2Fs (st2Alts st2R0) st2Inv

theorem st2Step : stepsOk Tryd.prog (KLS [(50, symK 1000001)] [(35, [(9, st3C)])] 25) 100 35 63 (loopBody Tryd.prog 35 7) 1 false st2Fs (st2Alts st2R0) st2Inv st2Mu ⟨_, _, st2Sl, st2Bl, fun x y => (x, y)⟩ := by
  intro x y hz
  obtain ⟨d, n, _, w, _⟩ := x
  obtain ⟨m, _⟩ := y
  refine (st2Form d n w m _ _).mpr ?_
  obtain ⟨W, rfl, hW, hW2, rfl, hd, hm⟩ := hz
  obtain ⟨d1, d2⟩ := d
  obtain rfl : d1 = m.length := hd
  rw [ifp_lt]
  split
  · rename_i h
    have e0 : wrapF .i64 (Int.mul 2 (W : Int)) = ((0 + 2 * W : Nat) : Int) := by rw [w64 (by show _ ≤ 2 * (W : Int); omega) (by show 2 * (W : Int) < _; omega)]; show 2 * (W : Int) = _; omega
    refine ⟨st3Ok, trivial, trivial, m, rfl, (by first | exact trivial | exact rfl), ⟨0, W, rfl, rfl, hW, by omega, e0, rfl, Nat.zero_le _, rfl, hm⟩, fun c d3 hr => ?_, trivial⟩
    obtain ⟨dd, n2, _, w2, a2, _⟩ := c
    obtain ⟨m2, _⟩ := d3
    obtain ⟨r1, r2, r3, r4, A2, r5, r6, r7, r8⟩ := hr
    obtain rfl : dd = (m.length, d2) := r1
    obtain rfl : n2 = (m.length : Int) := r2
    obtain rfl : w2 = (W : Int) := r3
    obtain rfl : a2 = (A2 : Int) := r5
    replace r4 : m2.length = m.length := r4
    replace r7 : m.length < A2 + 2 * W := r7
    have e1 : wrapF .i64 (Int.add (A2 : Int) (W : Int)) = ((A2 + W : Nat) : Int) := by rw [wadd (by omega) (by omega)]; omega
    have e2 : wrapF .i64 (Int.mul (W : Int) 2) = ((2 * W : Nat) : Int) := by rw [w64 (by show _ ≤ (W : Int) * 2; omega) (by show (W : Int) * 2 < _; omega)]; show (W : Int) * 2 = _; omega
    simp only [e1, e2]
    rw [ifp_lt]
    split
    · rename_i h2
      refine ⟨m2, rfl, (by first | exact trivial | exact rfl), ⟨A2, A2 + W, m.length, rfl, rfl, rfl, by omega, by omega, by omega, by omega, r4.symm, by omega⟩, fun _ d4 hr4 => ?_, trivial⟩
      obtain ⟨m3, _⟩ := d4
      obtain ⟨l3, s3⟩ := hr4
      have l3' : m3.length = m.length := l3.trans r4
      refine ⟨trivial, m3, rfl, (by first | exact trivial | exact rfl), ⟨2 * W, rfl, by omega, by omega, by rw [l3'], l3'.symm, by omega⟩, by show m.length - 2 * W < m.length - W; omega, fun _ d5 hr5 => ⟨hr5.1.trans l3', Go.Det.Stab.StR2.step (r8 m3 (Go.Det.Stab.PassR.part weakC (by rw [r4]; exact r7) (by rw [r4]; show A2 + W < m.length; omega) (by rw [r4]; exact s3))) hr5.2⟩, trivial⟩
    · rename_i h2
      refine ⟨trivial, m2, rfl, (by first | exact trivial | exact rfl), ⟨2 * W, rfl, by omega, by omega, by rw [r4], r4.symm, by omega⟩, by show m.length - 2 * W < m.length - W; omega, fun _ d5 hr5 => ⟨hr5.1.trans r4, Go.Det.Stab.StR2.step (r8 m2 (Go.Det.Stab.PassR.none weakC (by rw [r4]; show m.length ≤ A2 + W; omega))) hr5.2⟩, trivial⟩
  · rename_i h
    exact ⟨trivial, m, rfl, (by first | exact trivial | exact rfl), rfl, Go.Det.Stab.StR2.done (by show m.length ≤ W; omega)⟩
theorem st2Ok : LoopOk Tryd.prog 35 63 (.loop (loopBody Tryd.prog 35 7)) (st2C) := loop_ok st2Mu  mixed (KLS_ok (cc_cons (symCc 1000001) (cc_nil))) rfl (steps_cons st2Step (steps_nil))

/-! slices.stableCmpFunc[wayfinder/api.Cand] -/
abbrev stabZ := ((Nat × Nat) × Int × Unit × Unit) × ((List Cd) × Unit)
noncomputable def stabT : Tel ((Nat × Nat) × Int × Unit × Unit) := .cons 0 (.slq 0 4) (.cons 1 (.int .i64) (.cons 2 (.fnp 18 []) (.nil)))
noncomputable def stabBl : BTel ((List Cd) × Unit) := .cons (.rows Ec 25) (.nil)
noncomputable def stabRes (R0 : stabZ → (Unit) → ((List Cd) × Unit) → Prop) : List (Res stabZ) := [⟨Unit, (List Cd) × Unit, .nil, .cons (.rows Ec 25) (.nil), R0⟩]

theorem stabFn (d : Nat × Nat) (n : Int) (m : List Cd) (R0 : stabZ → (Unit) → ((List Cd) × Unit) → Prop) : (callW Tryd.prog (runW Tryd.prog (KLS [(49, insK), (50, symK 1000001)] [(35, [(2, st1C), (7, st2C)])] 25) 200) 35 (stabT.cells id (d, (n, ((), ())))) (stL false (stabBl.obs id (m, ()))) (fun v st => resAny 1 ((d, (n, ((), ()))), (m, ())) v st (stabRes R0))) =
  ( LoopOk Tryd.prog (35 : FuncId) (63 : Nat) (loopBody Tryd.prog (35 : FuncId) (2 : Nat)).loop st1C ∧ True ∧ True ∧ ∃ (l : List Cd), List.flatMap Ec.f m =
  List.flatMap Ec.f l ∧ true = true ∧ st1Inv (((d.fst, d.snd), n, (), (20 : Int), (0 : Int), (20 : Int), ()), l, ()) ∧ (∀ (c : (Nat × Nat) × Int × Unit × Int ×
  Int × Unit) (d_1 : List Cd × Unit), st1R0 (((d.fst, d.snd), n, (), (20 : Int), (0 : Int), (20 : Int), ()), l, ()) c d_1 → ∃ (l : List Cd), List.flatMap Ec.f
  d_1.1 = List.flatMap Ec.f l ∧ true = true ∧ insPre (((c.1.fst, c.1.snd), c.2.2.2.2.1, c.2.1, (), ()), l, ()) ∧ (∀ (c_1 : Unit) (d_2 : List Cd × Unit), insR0
  (((c.1.fst, c.1.snd), c.2.2.2.2.1, c.2.1, (), ()), l, ()) c_1 d_2 → LoopOk Tryd.prog (35 : FuncId) (63 : Nat) (loopBody Tryd.prog (35 : FuncId) (7 : Nat)).loop
  st2C ∧ True ∧ True ∧ ∃ (l : List Cd), List.flatMap Ec.f d_2.1 = List.flatMap Ec.f l ∧ true = true ∧ st2Inv (((c.1.fst, c.1.snd), c.2.1, (), c.2.2.2.1, ()), l,
  ()) ∧ (∀ (c_2 : Unit) (d_3 : List Cd × Unit), st2R0 (((c.1.fst, c.1.snd), c.2.1, (), c.2.2.2.1, ()), l, ()) c_2 d_3 → ∃ (l : List Cd), List.flatMap Ec.f d_3.1
  = List.flatMap Ec.f l ∧ true = true ∧ R0 ((d, n, (), ()), m, ()) () (l, ())) ∧ True) ∧ True) ∧ True) := by kernel_rfl

def stabPre : stabZ → Prop := fun ((d, (n, ((), ()))), (m, ())) => n = (m.length : Int) ∧ d.1 = m.length ∧ m.length ≤ 1000000
def stabR0 : stabZ → (Unit) → ((List Cd) × Unit) → Prop := fun ((d, (n, ((), ()))), (m, ())) _ (m2, _) => m2 = Go.Det.Stab.sort ltC m
noncomputable def stabK : CallC := callC 1 stabT stabBl stabPre (stabRes stabR0)

theorem stabStep (z : stabZ) (hp : stabPre z) : callW Tryd.prog (runW Tryd.prog (KLS [(49, insK), (50, symK 1000001)] [(35, [(2, st1C), (7, st2C)])] 25) 200) 35 (stabT.cells id z.1) (stL false (stabBl.obs id z.2)) (fun v st => resAny 1 z v st (stabRes stabR0)) := by
  obtain ⟨⟨d, n, _, _⟩, ⟨m, _⟩⟩ := z
  refine (stabFn d n m _).mpr ?_
  obtain ⟨rfl, hd, hm⟩ := hp
  obtain ⟨d1, d2⟩ := d
  obtain rfl : d1 = m.length := hd
  refine ⟨st1Ok, trivial, trivial, m, rfl, (by first | exact trivial | exact rfl), ⟨0, rfl, rfl, rfl, rfl, Nat.zero_le _, rfl, hm⟩, fun c d3 hr => ?_, trivial⟩
  obtain ⟨dd, n2, _, w2, a2, _⟩ := c
  obtain ⟨m2, _⟩ := d3
  obtain ⟨r1, r2, r3, r4, A2, r5, r6, r7, r8⟩ := hr
  obtain rfl : dd = (m.length, d2) := r1
  obtain rfl : n2 = (m.length : Int) := r2
  obtain rfl : w2 = 20 := r3
  obtain rfl : a2 = (A2 : Int) := r5
  replace r4 : m2.length = m.length := r4
  refine ⟨m2, rfl, (by first | exact trivial | exact rfl), ⟨A2, m.length, rfl, rfl, r6, by omega, r4.symm, by omega⟩, fun _ d4 hr4 => ?_, trivial⟩
  obtain ⟨m3, _⟩ := d4
  obtain ⟨l3, s3⟩ := hr4
  replace l3 : m3.length = m.length := l3.trans r4
  refine ⟨st2Ok, trivial, trivial, m3, rfl, (by first | exact trivial | exact rfl), ⟨20, rfl, by omega, by omega, by rw [l3], l3.symm, by omega⟩, fun _ d5 hr5 => ?_, trivial⟩
  obtain ⟨m5, _⟩ := d5
  obtain ⟨l5, s5⟩ := hr5
  refine ⟨m5, rfl, (by first | exact trivial | exact rfl), ?_⟩
  obtain ⟨R', q1, q2⟩ := r8 m3 s3 [] m rfl rfl
  obtain rfl : m3 = R' := q1
  exact s5 m q2
theorem stabCc : CcOk Tryd.prog 35 stabK := call_ok mixed (KLS_ok (cc_cons insCc (cc_cons (symCc 1000001) (cc_nil)))) rfl stabStep

/-! slices.SortStableFunc[[]wayfinder/api.Cand,wayfinder/api.Cand] -/
abbrev sstabZ := ((Nat × Nat) × Unit × Unit) × ((List Cd) × Unit)
noncomputable def sstabT : Tel ((Nat × Nat) × Unit × Unit) := .cons 0 (.slq 0 4) (.cons 1 (.fnp 18 []) (.nil))
noncomputable def sstabBl : BTel ((List Cd) × Unit) := .cons (.rows Ec 25) (.nil)
noncomputable def sstabRes (R0 : sstabZ → (Unit) → ((List Cd) × Unit) → Prop) : List (Res sstabZ) := [⟨Unit, (List Cd) × Unit, .nil, .cons (.rows Ec 25) (.nil), R0⟩]

theorem sstabFn (d : Nat × Nat) (m : List Cd) (R0 : sstabZ → (Unit) → ((List Cd) × Unit) → Prop) : (callW Tryd.prog (runW Tryd.prog (KLS [(35, stabK)] [] 25) 200) 17 (sstabT.cells id (d, ((), ()))) (stL false (sstabBl.obs id (m, ()))) (fun v st => resAny 1 ((d, ((), ())), (m, ())) v st (sstabRes R0))) =
  ( ∃ (l : List Cd), List.flatMap Ec.f m = List.flatMap Ec.f l ∧ true = true ∧ stabPre (((d.fst, d.snd), Int.ofNat d.fst, (), ()), l, ()) ∧ (∀ (c : Unit) (d_1 :
  List Cd × Unit), stabR0 (((d.fst, d.snd), Int.ofNat d.fst, (), ()), l, ()) c d_1 → ∃ (l : List Cd), List.flatMap Ec.f d_1.1 = List.flatMap Ec.f l ∧ true = true
  ∧ R0 ((d, (), ()), m, ()) () (l, ())) ∧ True) := by kernel_rfl

def sstabPre : sstabZ → Prop := fun ((d, ((), ())), (m, ())) => d.1 = m.length ∧ m.length ≤ 1000000
def sstabR0 : sstabZ → (Unit) → ((List Cd) × Unit) → Prop := fun ((d, ((), ())), (m, ())) _ (m2, _) => m2 = Go.Det.Stab.sort ltC m
noncomputable def sstabK : CallC := callC 1 sstabT sstabBl sstabPre (sstabRes sstabR0)

theorem sstabStep (z : sstabZ) (hp : sstabPre z) : callW Tryd.prog (runW Tryd.prog (KLS [(35, stabK)] [] 25) 200) 17 (sstabT.cells id z.1) (stL false (sstabBl.obs id z.2)) (fun v st => resAny 1 z v st (sstabRes sstabR0)) := by
  obtain ⟨⟨d, _, _⟩, ⟨m, _⟩⟩ := z
  refine (sstabFn d m _).mpr ?_
  obtain ⟨hd, hm⟩ := hp
  obtain ⟨d1, d2⟩ := d
  obtain rfl : d1 = m.length := hd
  refine ⟨m, rfl, (by first | exact trivial | exact rfl), ⟨rfl, rfl, hm⟩, fun _ d3 hr => ?_, trivial⟩
  obtain ⟨m2, _⟩ := d3
  exact ⟨m2, rfl, (by first | exact trivial | exact rfl), hr⟩
theorem sstabCc : CcOk Tryd.prog 17 sstabK := call_ok mixed (KLS_ok (cc_cons stabCc (cc_nil))) rfl sstabStep

end Go.Proofs.YteehkdejkemnmabDoor
