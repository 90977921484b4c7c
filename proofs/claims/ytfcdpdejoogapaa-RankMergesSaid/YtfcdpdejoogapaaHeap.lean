/- Forms and contracts, printed by gx.py. -/
import Derived.Test.YtfcdpdejoogapaaRows
import Derived.Test.YtfcdpdejoogapaaDvUse
import Derived.Test.YtfcdpdejoogapaaDvArg
import Derived.ProofKit
import Derived.Test.YtfcdpdejoogapaaBase
import Derived.Test.YtfcdpdejoogapaaSort
import Derived.Test.YtfcdpdejoogapaaDvSort
import Derived.Test.YtfcdpdejoogapaaDvHp
import Derived.Test.YtfcdpdejoogapaaRank
namespace Go.Proofs.Ytfcdpdejoogapaa
open Go.Det Go.RowKit
set_option linter.unusedVariables false
set_option linter.unusedSimpArgs false
set_option maxRecDepth 100000
/-! The loop up of (wayfinder/rank.heap).up. -/
abbrev upZ := ((Nat × Nat) × Int × Unit) × ((List Near) × Unit)
noncomputable def upSl : Tel ((Nat × Nat) × Int × Unit) := .cons 0 (.slq 0 2) (.cons 2 (.int .i64) (.nil))
noncomputable def upBl : BTel ((List Near) × Unit) := .cons (.rows En 30) (.nil)
noncomputable def upFs : List (LForm upZ) := [⟨_, _, upSl, upBl, fun x y => (x, y)⟩]
noncomputable def upAlts (R0 : upZ → (Unit) → ((List Near) × Unit) → Prop) (R1 : upZ → (Unit) → ((List Near) × Unit) → Prop) : List (Alt upZ) := [⟨.exit 0, Unit, (List Near) × Unit, .nil, .cons (.rows En 30) (.nil), R0⟩, ⟨.ret, Unit, (List Near) × Unit, .nil, .cons (.rows En 30) (.nil), R1⟩]

theorem upForm (h : Nat × Nat) (i : Int) (m : List Near) (N : upZ → Prop) (R0 : upZ → (Unit) → ((List Near) × Unit) → Prop) (R1 : upZ → (Unit) → ((List Near) × Unit) → Prop) : ((runW Try.prog (KLS [(15, lessK)] [] 30) 100).code none 50 37 (loopBody Try.prog 50 1) (mkT (upSl.av id (h, (i, ())))) [] (stL false (upBl.obs id (m, ()))) (postL 1 upFs (upAlts R0 R1) ((h, (i, ())), (m, ())) N)) =
  ( ifp (!leInt i (0 : Int)) ((2 : Int) ≠ (0 : Int) ∧ idxOk (wrapF IntKind.i64 ((wrapF IntKind.i64 (i.sub (1 : Int))).tdiv (2 : Int))) h.fst ∧ ∃ (x : Int), nth
  ((Nat.add (0 : Nat) ((natOf (wrapF IntKind.i64 ((wrapF IntKind.i64 (i.sub (1 : Int))).tdiv (2 : Int)))).mul (2 : Nat))).add (0 : Nat)) (List.flatMap En.f m) =
  some (AV.int IntKind.i64 x) ∧ ∃ (x_1 : Int), nth ((Nat.add (0 : Nat) ((natOf (wrapF IntKind.i64 ((wrapF IntKind.i64 (i.sub (1 : Int))).tdiv (2 : Int)))).mul (2
  : Nat))).add (1 : Nat)) (List.flatMap En.f m) = some (AV.int IntKind.i64 x_1) ∧ idxOk i h.fst ∧ ∃ (x_2 : Int), nth ((Nat.add (0 : Nat) ((natOf i).mul (2 :
  Nat))).add (0 : Nat)) (List.flatMap En.f m) = some (AV.int IntKind.i64 x_2) ∧ ∃ (x_3 : Int), nth ((Nat.add (0 : Nat) ((natOf i).mul (2 : Nat))).add (1 : Nat))
  (List.flatMap En.f m) = some (AV.int IntKind.i64 x_3) ∧ ∃ (a : Near), AV.agg [AV.int IntKind.i64 x, AV.int IntKind.i64 x_1] = AV.agg [AV.int IntKind.i64 a.fst,
  AV.int IntKind.i64 a.snd.fst] ∧ ∃ (a_1 : Near), AV.agg [AV.int IntKind.i64 x_2, AV.int IntKind.i64 x_3] = AV.agg [AV.int IntKind.i64 a_1.fst, AV.int
  IntKind.i64 a_1.snd.fst] ∧ lessPre (a, a_1, ()) ∧ ifp (lessV a a_1) (True ∧ True ∧ idxOk i h.fst ∧ ∃ (x : Int), nth ((Nat.add (0 : Nat) ((natOf i).mul (2 :
  Nat))).add (0 : Nat)) (List.flatMap En.f m) = some (AV.int IntKind.i64 x) ∧ ∃ (x_4 : Int), nth ((Nat.add (0 : Nat) ((natOf i).mul (2 : Nat))).add (1 : Nat))
  (List.flatMap En.f m) = some (AV.int IntKind.i64 x_4) ∧ idxOk (wrapF IntKind.i64 ((wrapF IntKind.i64 (i.sub (1 : Int))).tdiv (2 : Int))) h.fst ∧ ∃ (x_5 : Int),
  nth ((Nat.add (0 : Nat) ((natOf (wrapF IntKind.i64 ((wrapF IntKind.i64 (i.sub (1 : Int))).tdiv (2 : Int)))).mul (2 : Nat))).add (0 : Nat)) (List.flatMap En.f
  m) = some (AV.int IntKind.i64 x_5) ∧ ∃ (x_6 : Int), nth ((Nat.add (0 : Nat) ((natOf (wrapF IntKind.i64 ((wrapF IntKind.i64 (i.sub (1 : Int))).tdiv (2 :
  Int)))).mul (2 : Nat))).add (1 : Nat)) (List.flatMap En.f m) = some (AV.int IntKind.i64 x_6) ∧ idxOk (wrapF IntKind.i64 ((wrapF IntKind.i64 (i.sub (1 :
  Int))).tdiv (2 : Int))) h.fst ∧ (Nat.add (0 : Nat) ((natOf (wrapF IntKind.i64 ((wrapF IntKind.i64 (i.sub (1 : Int))).tdiv (2 : Int)))).mul (2 : Nat))).add (2 :
  Nat) ≤ (List.flatMap En.f m).length ∧ idxOk i h.fst ∧ (Nat.add (0 : Nat) ((natOf i).mul (2 : Nat))).add (2 : Nat) ≤ (setAt (Nat.add (0 : Nat) ((natOf (wrapF
  IntKind.i64 ((wrapF IntKind.i64 (i.sub (1 : Int))).tdiv (2 : Int)))).mul (2 : Nat))) [AV.int IntKind.i64 x, AV.int IntKind.i64 x_4] (List.flatMap En.f
  m)).length ∧ True ∧ True ∧ True ∧ ∃ (l : List Near), setAt (Nat.add (0 : Nat) ((natOf i).mul (2 : Nat))) [AV.int IntKind.i64 x_5, AV.int IntKind.i64 x_6]
  (setAt (Nat.add (0 : Nat) ((natOf (wrapF IntKind.i64 ((wrapF IntKind.i64 (i.sub (1 : Int))).tdiv (2 : Int)))).mul (2 : Nat))) [AV.int IntKind.i64 x, AV.int
  IntKind.i64 x_4] (List.flatMap En.f m)) = List.flatMap En.f l ∧ true = true ∧ N (((h.fst, h.snd), wrapF IntKind.i64 ((wrapF IntKind.i64 (i.sub (1 : Int))).tdiv
  (2 : Int)), ()), l, ())) (True ∧ True ∧ True ∧ ∃ (l : List Near), List.flatMap En.f m = List.flatMap En.f l ∧ true = true ∧ R1 ((h, i, ()), m, ()) () (l, ())))
  (True ∧ ∃ (l : List Near), List.flatMap En.f m = List.flatMap En.f l ∧ true = true ∧ R0 ((h, i, ()), m, ()) () (l, ()))) := by kernel_rfl

def upInv : upZ → Prop := fun ((h, (i, ())), (m, ())) => ∃ k : Nat, i = k ∧ h.1 = m.length ∧ k < m.length ∧ m.length ≤ 1000000 ∧ Go.Det.Hp.HeapUp lessV m k
def upMu : upZ → Nat := fun ((h, (i, ())), (m, ())) => i.toNat
def upR0 : upZ → (Unit) → ((List Near) × Unit) → Prop := fun ((h, (i, ())), (m, ())) _ (m2, _) => m2.Perm m ∧ Go.Det.Hp.Heap lessV m2
def upR1 : upZ → (Unit) → ((List Near) × Unit) → Prop := fun ((h, (i, ())), (m, ())) _ (m2, _) => m2.Perm m ∧ Go.Det.Hp.Heap lessV m2
noncomputable def upC : LoopC := loopC 1 upFs (upAlts upR0 upR1) upInv

theorem upStep : stepsOk Try.prog (KLS [(15, lessK)] [] 30) 100 50 37 (loopBody Try.prog 50 1) 1 false upFs (upAlts upR0 upR1) upInv upMu ⟨_, _, upSl, upBl, fun x y => (x, y)⟩ := by
  intro x y hz
  obtain ⟨h, i, _⟩ := x
  obtain ⟨m, _⟩ := y
  refine (upForm h i m _ _ _).mpr ?_
  obtain ⟨k, rfl, hh, hk, hl, hu⟩ := hz
  rw [ifp_lt]
  split
  · rename_i h0
    have hk0 : 0 < k := by omega
    have hp : (k - 1) / 2 < m.length := by omega
    simp only [half hk0 (by omega), natOf_nat]
    refine ⟨by decide, by rw [hh]; exact idx_ok hp, _, nth_nearR0 hp, _, nth_nearR1 hp, by rw [hh]; exact idx_ok hk, _, nth_nearR0 hk, _, nth_nearR1 hk, m[(k - 1) / 2], rfl, m[k], rfl, trivial, ?_⟩
    rw [ifp_if]
    split
    · rename_i hlt
      refine ⟨trivial, trivial, by rw [hh]; exact idx_ok hk, _, nth_nearR0 hk, _, nth_nearR1 hk, by rw [hh]; exact idx_ok hp, _, nth_nearR0 hp, _, nth_nearR1 hp, by rw [hh]; exact idx_ok hp, near_fit hp rfl, by rw [hh]; exact idx_ok hk, ?_, trivial, trivial, trivial, Go.Det.Hp.swap m ((k - 1) / 2) k hp hk, ?_, by first | trivial | rfl, ?_⟩
      · rw [near_set hp]; exact near_fit hk (by simp)
      · rw [near_set hp, near_set (by simpa using hk)]; rfl
      · exact ⟨⟨(k - 1) / 2, rfl, by rw [Go.Det.Hp.swap_length]; exact hh, by rw [Go.Det.Hp.swap_length]; exact hp, by rw [Go.Det.Hp.swap_length]; exact hl, hu.step ltLess hk hk0 hlt⟩, by show (k - 1) / 2 < k; omega, fun _ _ h => ⟨h.1.trans (Go.Det.Hp.swap_perm _ _ _ _ _), h.2⟩, fun _ _ h => ⟨h.1.trans (Go.Det.Hp.swap_perm _ _ _ _ _), h.2⟩, trivial⟩
    · rename_i hlt
      exact ⟨trivial, trivial, trivial, m, by first | trivial | rfl, by first | trivial | rfl, List.Perm.refl _, hu.done hk (Or.inr (by simpa using hlt))⟩
  · exact ⟨trivial, m, by first | trivial | rfl, by first | trivial | rfl, List.Perm.refl _, hu.done hk (Or.inl (by omega))⟩
theorem upOk : LoopOk Try.prog 50 37 (.loop (loopBody Try.prog 50 1)) upC := loop_ok upMu mixed (KLS_ok (cc_cons lessCc (cc_nil))) rfl (steps_cons upStep (steps_nil))

/-! The loop down of (wayfinder/rank.heap).down. -/
abbrev downZ := ((Nat × Nat) × Int × Unit) × ((List Near) × Unit)
noncomputable def downSl : Tel ((Nat × Nat) × Int × Unit) := .cons 0 (.slq 0 2) (.cons 2 (.int .i64) (.nil))
noncomputable def downBl : BTel ((List Near) × Unit) := .cons (.rows En 30) (.nil)
noncomputable def downFs : List (LForm downZ) := [⟨_, _, downSl, downBl, fun x y => (x, y)⟩]
noncomputable def downAlts (R0 : downZ → (Unit) → ((List Near) × Unit) → Prop) : List (Alt downZ) := [⟨.ret, Unit, (List Near) × Unit, .nil, .cons (.rows En 30) (.nil), R0⟩]

theorem downForm (h : Nat × Nat) (i : Int) (m : List Near) (N : downZ → Prop) (R0 : downZ → (Unit) → ((List Near) × Unit) → Prop) : ((runW Try.prog (KLS [(15, lessK)] [] 30) 100).code none 51 57 (loopBody Try.prog 51 1) (mkT (downSl.av id (h, (i, ())))) [] (stL false (downBl.obs id (m, ()))) (postL 1 downFs (downAlts R0) ((h, (i, ())), (m, ())) N)) =
  ( ifp (!leInt (Int.ofNat h.fst) (wrapF IntKind.i64 ((wrapF IntKind.i64 ((wrapF IntKind.i64 (Int.mul (2 : Int) i)).add (1 : Int))).add (1 : Int)))) (idxOk (wrapF
  IntKind.i64 ((wrapF IntKind.i64 (Int.mul (2 : Int) i)).add (1 : Int))) h.fst ∧ ∃ (x : Int), nth ((Nat.add (0 : Nat) ((natOf (wrapF IntKind.i64 ((wrapF
  IntKind.i64 (Int.mul (2 : Int) i)).add (1 : Int)))).mul (2 : Nat))).add (0 : Nat)) (List.flatMap En.f m) = some (AV.int IntKind.i64 x) ∧ ∃ (x_1 : Int), nth
  ((Nat.add (0 : Nat) ((natOf (wrapF IntKind.i64 ((wrapF IntKind.i64 (Int.mul (2 : Int) i)).add (1 : Int)))).mul (2 : Nat))).add (1 : Nat)) (List.flatMap En.f m)
  = some (AV.int IntKind.i64 x_1) ∧ idxOk (wrapF IntKind.i64 ((wrapF IntKind.i64 ((wrapF IntKind.i64 (Int.mul (2 : Int) i)).add (1 : Int))).add (1 : Int))) h.fst
  ∧ ∃ (x_2 : Int), nth ((Nat.add (0 : Nat) ((natOf (wrapF IntKind.i64 ((wrapF IntKind.i64 ((wrapF IntKind.i64 (Int.mul (2 : Int) i)).add (1 : Int))).add (1 :
  Int)))).mul (2 : Nat))).add (0 : Nat)) (List.flatMap En.f m) = some (AV.int IntKind.i64 x_2) ∧ ∃ (x_3 : Int), nth ((Nat.add (0 : Nat) ((natOf (wrapF
  IntKind.i64 ((wrapF IntKind.i64 ((wrapF IntKind.i64 (Int.mul (2 : Int) i)).add (1 : Int))).add (1 : Int)))).mul (2 : Nat))).add (1 : Nat)) (List.flatMap En.f
  m) = some (AV.int IntKind.i64 x_3) ∧ ∃ (a : Near), AV.agg [AV.int IntKind.i64 x, AV.int IntKind.i64 x_1] = AV.agg [AV.int IntKind.i64 a.fst, AV.int IntKind.i64
  a.snd.fst] ∧ ∃ (a_1 : Near), AV.agg [AV.int IntKind.i64 x_2, AV.int IntKind.i64 x_3] = AV.agg [AV.int IntKind.i64 a_1.fst, AV.int IntKind.i64 a_1.snd.fst] ∧
  lessPre (a, a_1, ()) ∧ ifp (lessV a a_1) (True ∧ True ∧ True ∧ ifp (leInt (Int.ofNat h.fst) (wrapF IntKind.i64 ((wrapF IntKind.i64 ((wrapF IntKind.i64 (Int.mul
  (2 : Int) i)).add (1 : Int))).add (1 : Int)))) (True ∧ True ∧ ∃ (l : List Near), List.flatMap En.f m = List.flatMap En.f l ∧ true = true ∧ R0 ((h, i, ()), m,
  ()) () (l, ())) (idxOk i h.fst ∧ ∃ (x : Int), nth ((Nat.add (0 : Nat) ((natOf i).mul (2 : Nat))).add (0 : Nat)) (List.flatMap En.f m) = some (AV.int
  IntKind.i64 x) ∧ ∃ (x_4 : Int), nth ((Nat.add (0 : Nat) ((natOf i).mul (2 : Nat))).add (1 : Nat)) (List.flatMap En.f m) = some (AV.int IntKind.i64 x_4) ∧ idxOk
  (wrapF IntKind.i64 ((wrapF IntKind.i64 ((wrapF IntKind.i64 (Int.mul (2 : Int) i)).add (1 : Int))).add (1 : Int))) h.fst ∧ ∃ (x_5 : Int), nth ((Nat.add (0 :
  Nat) ((natOf (wrapF IntKind.i64 ((wrapF IntKind.i64 ((wrapF IntKind.i64 (Int.mul (2 : Int) i)).add (1 : Int))).add (1 : Int)))).mul (2 : Nat))).add (0 : Nat))
  (List.flatMap En.f m) = some (AV.int IntKind.i64 x_5) ∧ ∃ (x_6 : Int), nth ((Nat.add (0 : Nat) ((natOf (wrapF IntKind.i64 ((wrapF IntKind.i64 ((wrapF
  IntKind.i64 (Int.mul (2 : Int) i)).add (1 : Int))).add (1 : Int)))).mul (2 : Nat))).add (1 : Nat)) (List.flatMap En.f m) = some (AV.int IntKind.i64 x_6) ∧ ∃ (a
  : Near), AV.agg [AV.int IntKind.i64 x, AV.int IntKind.i64 x_4] = AV.agg [AV.int IntKind.i64 a.fst, AV.int IntKind.i64 a.snd.fst] ∧ ∃ (a_2 : Near), AV.agg
  [AV.int IntKind.i64 x_5, AV.int IntKind.i64 x_6] = AV.agg [AV.int IntKind.i64 a_2.fst, AV.int IntKind.i64 a_2.snd.fst] ∧ lessPre (a, a_2, ()) ∧ ifp (lessV a
  a_2) (True ∧ True ∧ True ∧ idxOk (wrapF IntKind.i64 ((wrapF IntKind.i64 ((wrapF IntKind.i64 (Int.mul (2 : Int) i)).add (1 : Int))).add (1 : Int))) h.fst ∧ ∃ (x
  : Int), nth ((Nat.add (0 : Nat) ((natOf (wrapF IntKind.i64 ((wrapF IntKind.i64 ((wrapF IntKind.i64 (Int.mul (2 : Int) i)).add (1 : Int))).add (1 : Int)))).mul
  (2 : Nat))).add (0 : Nat)) (List.flatMap En.f m) = some (AV.int IntKind.i64 x) ∧ ∃ (x_7 : Int), nth ((Nat.add (0 : Nat) ((natOf (wrapF IntKind.i64 ((wrapF
  IntKind.i64 ((wrapF IntKind.i64 (Int.mul (2 : Int) i)).add (1 : Int))).add (1 : Int)))).mul (2 : Nat))).add (1 : Nat)) (List.flatMap En.f m) = some (AV.int
  IntKind.i64 x_7) ∧ idxOk i h.fst ∧ ∃ (x_8 : Int), nth ((Nat.add (0 : Nat) ((natOf i).mul (2 : Nat))).add (0 : Nat)) (List.flatMap En.f m) = some (AV.int
  IntKind.i64 x_8) ∧ ∃ (x_9 : Int), nth ((Nat.add (0 : Nat) ((natOf i).mul (2 : Nat))).add (1 : Nat)) (List.flatMap En.f m) = some (AV.int IntKind.i64 x_9) ∧
  idxOk i h.fst ∧ (Nat.add (0 : Nat) ((natOf i).mul (2 : Nat))).add (2 : Nat) ≤ (List.flatMap En.f m).length ∧ idxOk (wrapF IntKind.i64 ((wrapF IntKind.i64
  ((wrapF IntKind.i64 (Int.mul (2 : Int) i)).add (1 : Int))).add (1 : Int))) h.fst ∧ (Nat.add (0 : Nat) ((natOf (wrapF IntKind.i64 ((wrapF IntKind.i64 ((wrapF
  IntKind.i64 (Int.mul (2 : Int) i)).add (1 : Int))).add (1 : Int)))).mul (2 : Nat))).add (2 : Nat) ≤ (setAt (Nat.add (0 : Nat) ((natOf i).mul (2 : Nat)))
  [AV.int IntKind.i64 x, AV.int IntKind.i64 x_7] (List.flatMap En.f m)).length ∧ True ∧ True ∧ True ∧ ∃ (l : List Near), setAt (Nat.add (0 : Nat) ((natOf (wrapF
  IntKind.i64 ((wrapF IntKind.i64 ((wrapF IntKind.i64 (Int.mul (2 : Int) i)).add (1 : Int))).add (1 : Int)))).mul (2 : Nat))) [AV.int IntKind.i64 x_8, AV.int
  IntKind.i64 x_9] (setAt (Nat.add (0 : Nat) ((natOf i).mul (2 : Nat))) [AV.int IntKind.i64 x, AV.int IntKind.i64 x_7] (List.flatMap En.f m)) = List.flatMap En.f
  l ∧ true = true ∧ N (((h.fst, h.snd), wrapF IntKind.i64 ((wrapF IntKind.i64 ((wrapF IntKind.i64 (Int.mul (2 : Int) i)).add (1 : Int))).add (1 : Int)), ()), l,
  ())) (True ∧ True ∧ True ∧ True ∧ ∃ (l : List Near), List.flatMap En.f m = List.flatMap En.f l ∧ true = true ∧ R0 ((h, i, ()), m, ()) () (l, ())))) (True ∧
  True ∧ True ∧ ifp (leInt (Int.ofNat h.fst) (wrapF IntKind.i64 ((wrapF IntKind.i64 (Int.mul (2 : Int) i)).add (1 : Int)))) (True ∧ True ∧ ∃ (l : List Near),
  List.flatMap En.f m = List.flatMap En.f l ∧ true = true ∧ R0 ((h, i, ()), m, ()) () (l, ())) (idxOk i h.fst ∧ ∃ (x : Int), nth ((Nat.add (0 : Nat) ((natOf
  i).mul (2 : Nat))).add (0 : Nat)) (List.flatMap En.f m) = some (AV.int IntKind.i64 x) ∧ ∃ (x_4 : Int), nth ((Nat.add (0 : Nat) ((natOf i).mul (2 : Nat))).add
  (1 : Nat)) (List.flatMap En.f m) = some (AV.int IntKind.i64 x_4) ∧ idxOk (wrapF IntKind.i64 ((wrapF IntKind.i64 (Int.mul (2 : Int) i)).add (1 : Int))) h.fst ∧
  ∃ (x_5 : Int), nth ((Nat.add (0 : Nat) ((natOf (wrapF IntKind.i64 ((wrapF IntKind.i64 (Int.mul (2 : Int) i)).add (1 : Int)))).mul (2 : Nat))).add (0 : Nat))
  (List.flatMap En.f m) = some (AV.int IntKind.i64 x_5) ∧ ∃ (x_6 : Int), nth ((Nat.add (0 : Nat) ((natOf (wrapF IntKind.i64 ((wrapF IntKind.i64 (Int.mul (2 :
  Int) i)).add (1 : Int)))).mul (2 : Nat))).add (1 : Nat)) (List.flatMap En.f m) = some (AV.int IntKind.i64 x_6) ∧ ∃ (a : Near), AV.agg [AV.int IntKind.i64 x,
  AV.int IntKind.i64 x_4] = AV.agg [AV.int IntKind.i64 a.fst, AV.int IntKind.i64 a.snd.fst] ∧ ∃ (a_2 : Near), AV.agg [AV.int IntKind.i64 x_5, AV.int IntKind.i64
  x_6] = AV.agg [AV.int IntKind.i64 a_2.fst, AV.int IntKind.i64 a_2.snd.fst] ∧ lessPre (a, a_2, ()) ∧ ifp (lessV a a_2) (True ∧ True ∧ True ∧ idxOk (wrapF
  IntKind.i64 ((wrapF IntKind.i64 (Int.mul (2 : Int) i)).add (1 : Int))) h.fst ∧ ∃ (x : Int), nth ((Nat.add (0 : Nat) ((natOf (wrapF IntKind.i64 ((wrapF
  IntKind.i64 (Int.mul (2 : Int) i)).add (1 : Int)))).mul (2 : Nat))).add (0 : Nat)) (List.flatMap En.f m) = some (AV.int IntKind.i64 x) ∧ ∃ (x_7 : Int), nth
  ((Nat.add (0 : Nat) ((natOf (wrapF IntKind.i64 ((wrapF IntKind.i64 (Int.mul (2 : Int) i)).add (1 : Int)))).mul (2 : Nat))).add (1 : Nat)) (List.flatMap En.f m)
  = some (AV.int IntKind.i64 x_7) ∧ idxOk i h.fst ∧ ∃ (x_8 : Int), nth ((Nat.add (0 : Nat) ((natOf i).mul (2 : Nat))).add (0 : Nat)) (List.flatMap En.f m) = some
  (AV.int IntKind.i64 x_8) ∧ ∃ (x_9 : Int), nth ((Nat.add (0 : Nat) ((natOf i).mul (2 : Nat))).add (1 : Nat)) (List.flatMap En.f m) = some (AV.int IntKind.i64
  x_9) ∧ idxOk i h.fst ∧ (Nat.add (0 : Nat) ((natOf i).mul (2 : Nat))).add (2 : Nat) ≤ (List.flatMap En.f m).length ∧ idxOk (wrapF IntKind.i64 ((wrapF
  IntKind.i64 (Int.mul (2 : Int) i)).add (1 : Int))) h.fst ∧ (Nat.add (0 : Nat) ((natOf (wrapF IntKind.i64 ((wrapF IntKind.i64 (Int.mul (2 : Int) i)).add (1 :
  Int)))).mul (2 : Nat))).add (2 : Nat) ≤ (setAt (Nat.add (0 : Nat) ((natOf i).mul (2 : Nat))) [AV.int IntKind.i64 x, AV.int IntKind.i64 x_7] (List.flatMap En.f
  m)).length ∧ True ∧ True ∧ True ∧ ∃ (l : List Near), setAt (Nat.add (0 : Nat) ((natOf (wrapF IntKind.i64 ((wrapF IntKind.i64 (Int.mul (2 : Int) i)).add (1 :
  Int)))).mul (2 : Nat))) [AV.int IntKind.i64 x_8, AV.int IntKind.i64 x_9] (setAt (Nat.add (0 : Nat) ((natOf i).mul (2 : Nat))) [AV.int IntKind.i64 x, AV.int
  IntKind.i64 x_7] (List.flatMap En.f m)) = List.flatMap En.f l ∧ true = true ∧ N (((h.fst, h.snd), wrapF IntKind.i64 ((wrapF IntKind.i64 (Int.mul (2 : Int)
  i)).add (1 : Int)), ()), l, ())) (True ∧ True ∧ True ∧ True ∧ ∃ (l : List Near), List.flatMap En.f m = List.flatMap En.f l ∧ true = true ∧ R0 ((h, i, ()), m,
  ()) () (l, ()))))) (True ∧ ifp (leInt (Int.ofNat h.fst) (wrapF IntKind.i64 ((wrapF IntKind.i64 (Int.mul (2 : Int) i)).add (1 : Int)))) (True ∧ True ∧ ∃ (l :
  List Near), List.flatMap En.f m = List.flatMap En.f l ∧ true = true ∧ R0 ((h, i, ()), m, ()) () (l, ())) (idxOk i h.fst ∧ ∃ (x : Int), nth ((Nat.add (0 : Nat)
  ((natOf i).mul (2 : Nat))).add (0 : Nat)) (List.flatMap En.f m) = some (AV.int IntKind.i64 x) ∧ ∃ (x_1 : Int), nth ((Nat.add (0 : Nat) ((natOf i).mul (2 :
  Nat))).add (1 : Nat)) (List.flatMap En.f m) = some (AV.int IntKind.i64 x_1) ∧ idxOk (wrapF IntKind.i64 ((wrapF IntKind.i64 (Int.mul (2 : Int) i)).add (1 :
  Int))) h.fst ∧ ∃ (x_2 : Int), nth ((Nat.add (0 : Nat) ((natOf (wrapF IntKind.i64 ((wrapF IntKind.i64 (Int.mul (2 : Int) i)).add (1 : Int)))).mul (2 :
  Nat))).add (0 : Nat)) (List.flatMap En.f m) = some (AV.int IntKind.i64 x_2) ∧ ∃ (x_3 : Int), nth ((Nat.add (0 : Nat) ((natOf (wrapF IntKind.i64 ((wrapF
  IntKind.i64 (Int.mul (2 : Int) i)).add (1 : Int)))).mul (2 : Nat))).add (1 : Nat)) (List.flatMap En.f m) = some (AV.int IntKind.i64 x_3) ∧ ∃ (a : Near), AV.agg
  [AV.int IntKind.i64 x, AV.int IntKind.i64 x_1] = AV.agg [AV.int IntKind.i64 a.fst, AV.int IntKind.i64 a.snd.fst] ∧ ∃ (a_1 : Near), AV.agg [AV.int IntKind.i64
  x_2, AV.int IntKind.i64 x_3] = AV.agg [AV.int IntKind.i64 a_1.fst, AV.int IntKind.i64 a_1.snd.fst] ∧ lessPre (a, a_1, ()) ∧ ifp (lessV a a_1) (True ∧ True ∧
  True ∧ idxOk (wrapF IntKind.i64 ((wrapF IntKind.i64 (Int.mul (2 : Int) i)).add (1 : Int))) h.fst ∧ ∃ (x : Int), nth ((Nat.add (0 : Nat) ((natOf (wrapF
  IntKind.i64 ((wrapF IntKind.i64 (Int.mul (2 : Int) i)).add (1 : Int)))).mul (2 : Nat))).add (0 : Nat)) (List.flatMap En.f m) = some (AV.int IntKind.i64 x) ∧ ∃
  (x_4 : Int), nth ((Nat.add (0 : Nat) ((natOf (wrapF IntKind.i64 ((wrapF IntKind.i64 (Int.mul (2 : Int) i)).add (1 : Int)))).mul (2 : Nat))).add (1 : Nat))
  (List.flatMap En.f m) = some (AV.int IntKind.i64 x_4) ∧ idxOk i h.fst ∧ ∃ (x_5 : Int), nth ((Nat.add (0 : Nat) ((natOf i).mul (2 : Nat))).add (0 : Nat))
  (List.flatMap En.f m) = some (AV.int IntKind.i64 x_5) ∧ ∃ (x_6 : Int), nth ((Nat.add (0 : Nat) ((natOf i).mul (2 : Nat))).add (1 : Nat)) (List.flatMap En.f m)
  = some (AV.int IntKind.i64 x_6) ∧ idxOk i h.fst ∧ (Nat.add (0 : Nat) ((natOf i).mul (2 : Nat))).add (2 : Nat) ≤ (List.flatMap En.f m).length ∧ idxOk (wrapF
  IntKind.i64 ((wrapF IntKind.i64 (Int.mul (2 : Int) i)).add (1 : Int))) h.fst ∧ (Nat.add (0 : Nat) ((natOf (wrapF IntKind.i64 ((wrapF IntKind.i64 (Int.mul (2 :
  Int) i)).add (1 : Int)))).mul (2 : Nat))).add (2 : Nat) ≤ (setAt (Nat.add (0 : Nat) ((natOf i).mul (2 : Nat))) [AV.int IntKind.i64 x, AV.int IntKind.i64 x_4]
  (List.flatMap En.f m)).length ∧ True ∧ True ∧ True ∧ ∃ (l : List Near), setAt (Nat.add (0 : Nat) ((natOf (wrapF IntKind.i64 ((wrapF IntKind.i64 (Int.mul (2 :
  Int) i)).add (1 : Int)))).mul (2 : Nat))) [AV.int IntKind.i64 x_5, AV.int IntKind.i64 x_6] (setAt (Nat.add (0 : Nat) ((natOf i).mul (2 : Nat))) [AV.int
  IntKind.i64 x, AV.int IntKind.i64 x_4] (List.flatMap En.f m)) = List.flatMap En.f l ∧ true = true ∧ N (((h.fst, h.snd), wrapF IntKind.i64 ((wrapF IntKind.i64
  (Int.mul (2 : Int) i)).add (1 : Int)), ()), l, ())) (True ∧ True ∧ True ∧ True ∧ ∃ (l : List Near), List.flatMap En.f m = List.flatMap En.f l ∧ true = true ∧
  R0 ((h, i, ()), m, ()) () (l, ()))))) := by kernel_rfl

def downInv : downZ → Prop := fun ((h, (i, ())), (m, ())) => ∃ k : Nat, i = k ∧ h.1 = m.length ∧ k < m.length ∧ m.length ≤ 1000000 ∧ Go.Det.Hp.HeapDown lessV m k
def downMu : downZ → Nat := fun ((h, (i, ())), (m, ())) => m.length - i.toNat
def downR0 : downZ → (Unit) → ((List Near) × Unit) → Prop := fun ((h, (i, ())), (m, ())) _ (m2, _) => m2.Perm m ∧ Go.Det.Hp.Heap lessV m2
noncomputable def downC : LoopC := loopC 1 downFs (downAlts downR0) downInv

theorem downStep : stepsOk Try.prog (KLS [(15, lessK)] [] 30) 100 51 57 (loopBody Try.prog 51 1) 1 false downFs (downAlts downR0) downInv downMu ⟨_, _, downSl, downBl, fun x y => (x, y)⟩ := by
  intro x y hz
  obtain ⟨h, i, _⟩ := x
  obtain ⟨m, _⟩ := y
  refine (downForm h i m _ _).mpr ?_
  obtain ⟨k, rfl, hh, hk, hl, hu⟩ := hz
  have eC : wrapF .i64 (Int.add (wrapF .i64 (Int.mul 2 (k : Int))) 1) = ((2 * k + 1 : Nat) : Int) := by
    have e1 : wrapF .i64 (Int.mul 2 (k : Int)) = ((2 * k : Nat) : Int) := by
      rw [show Int.mul 2 (k : Int) = ((2 * k : Nat) : Int) from rfl, w64 (by omega) (by omega)]
    rw [e1, wsucc (by omega)]
  have eD : wrapF .i64 (Int.add ((2 * k + 1 : Nat) : Int) 1) = ((2 * k + 1 + 1 : Nat) : Int) := wsucc (by omega)
  simp only [eC, eD, natOf_nat]
  rw [ifp_lt]
  split
  · rename_i hD'
    have hD : 2 * k + 1 + 1 < m.length := by simp only [Int.ofNat_eq_natCast] at hD'; omega
    have hC : 2 * k + 1 < m.length := by omega
    refine ⟨by rw [hh]; exact idx_ok hC, _, nth_nearR0 hC, _, nth_nearR1 hC, by rw [hh]; exact idx_ok hD, _, nth_nearR0 hD, _, nth_nearR1 hD, m[2 * k + 1], rfl, m[2 * k + 1 + 1], rfl, trivial, ?_⟩
    rw [ifp_if]
    split
    · rename_i hcd
      have hg : ∀ j (hj : j < m.length), 0 < j → (j - 1) / 2 = k → lessV m[2 * k + 1 + 1] m[j] = false := fun j hj h0 he => by
        rcases (show j = 2 * k + 1 ∨ j = 2 * k + 1 + 1 by omega) with rfl | rfl
        · exact ltLess.asym hcd
        · exact ltLess.irr _
      refine ⟨trivial, trivial, trivial, ?_⟩
      rw [ifp_le, if_neg (by simp only [Int.ofNat_eq_natCast]; omega)]
      refine ⟨by rw [hh]; exact idx_ok hk, _, nth_nearR0 hk, _, nth_nearR1 hk, by rw [hh]; exact idx_ok hD, _, nth_nearR0 hD, _, nth_nearR1 hD, m[k], rfl, m[2 * k + 1 + 1], rfl, trivial, ?_⟩
      rw [ifp_if]
      split
      · rename_i hlt
        refine ⟨trivial, trivial, trivial, by rw [hh]; exact idx_ok hD, _, nth_nearR0 hD, _, nth_nearR1 hD, by rw [hh]; exact idx_ok hk, _, nth_nearR0 hk, _, nth_nearR1 hk, by rw [hh]; exact idx_ok hk, near_fit hk rfl, by rw [hh]; exact idx_ok hD, ?_, trivial, trivial, trivial, Go.Det.Hp.swap m k (2 * k + 1 + 1) hk hD, ?_, by first | trivial | rfl, ?_⟩
        · rw [near_set hk]; exact near_fit hD (by simp)
        · rw [near_set hk, near_set (by simpa using hD)]; rfl
        · exact ⟨⟨2 * k + 1 + 1, rfl, by rw [Go.Det.Hp.swap_length]; exact hh, by rw [Go.Det.Hp.swap_length]; exact hD, by rw [Go.Det.Hp.swap_length]; exact hl, hu.step ltLess hD (by omega) (by omega) hk hg hlt⟩, by show (Go.Det.Hp.swap m k (2 * k + 1 + 1) hk hD).length - (2 * k + 1 + 1) < m.length - k; rw [Go.Det.Hp.swap_length]; omega, fun _ _ h => ⟨h.1.trans (Go.Det.Hp.swap_perm _ _ _ _ _), h.2⟩, trivial⟩
      · rename_i hlt
        exact ⟨trivial, trivial, trivial, trivial, m, by first | trivial | rfl, by first | trivial | rfl, List.Perm.refl _, hu.done fun j hj h0 he => by
          have h1 := hg j hj h0 he
          have h2 : lessV m[k] m[2 * k + 1 + 1] = false := by simpa using hlt
          have h3 := ltLess.le_tr h1 h2
          simpa [he] using h3⟩
    · rename_i hcd
      have hg : ∀ j (hj : j < m.length), 0 < j → (j - 1) / 2 = k → lessV m[2 * k + 1] m[j] = false := fun j hj h0 he => by
        rcases (show j = 2 * k + 1 ∨ j = 2 * k + 1 + 1 by omega) with rfl | rfl
        · exact ltLess.irr _
        · simpa using hcd
      refine ⟨trivial, trivial, trivial, ?_⟩
      rw [ifp_le, if_neg (by simp only [Int.ofNat_eq_natCast]; omega)]
      refine ⟨by rw [hh]; exact idx_ok hk, _, nth_nearR0 hk, _, nth_nearR1 hk, by rw [hh]; exact idx_ok hC, _, nth_nearR0 hC, _, nth_nearR1 hC, m[k], rfl, m[2 * k + 1], rfl, trivial, ?_⟩
      rw [ifp_if]
      split
      · rename_i hlt
        refine ⟨trivial, trivial, trivial, by rw [hh]; exact idx_ok hC, _, nth_nearR0 hC, _, nth_nearR1 hC, by rw [hh]; exact idx_ok hk, _, nth_nearR0 hk, _, nth_nearR1 hk, by rw [hh]; exact idx_ok hk, near_fit hk rfl, by rw [hh]; exact idx_ok hC, ?_, trivial, trivial, trivial, Go.Det.Hp.swap m k (2 * k + 1) hk hC, ?_, by first | trivial | rfl, ?_⟩
        · rw [near_set hk]; exact near_fit hC (by simp)
        · rw [near_set hk, near_set (by simpa using hC)]; rfl
        · exact ⟨⟨2 * k + 1, rfl, by rw [Go.Det.Hp.swap_length]; exact hh, by rw [Go.Det.Hp.swap_length]; exact hC, by rw [Go.Det.Hp.swap_length]; exact hl, hu.step ltLess hC (by omega) (by omega) hk hg hlt⟩, by show (Go.Det.Hp.swap m k (2 * k + 1) hk hC).length - (2 * k + 1) < m.length - k; rw [Go.Det.Hp.swap_length]; omega, fun _ _ h => ⟨h.1.trans (Go.Det.Hp.swap_perm _ _ _ _ _), h.2⟩, trivial⟩
      · rename_i hlt
        exact ⟨trivial, trivial, trivial, trivial, m, by first | trivial | rfl, by first | trivial | rfl, List.Perm.refl _, hu.done fun j hj h0 he => by
          have h1 := hg j hj h0 he
          have h2 : lessV m[k] m[2 * k + 1] = false := by simpa using hlt
          have h3 := ltLess.le_tr h1 h2
          simpa [he] using h3⟩
  · rename_i hD'
    refine ⟨trivial, ?_⟩
    by_cases hC : 2 * k + 1 < m.length
    · have hg : ∀ j (hj : j < m.length), 0 < j → (j - 1) / 2 = k → lessV m[2 * k + 1] m[j] = false := fun j hj h0 he => by
        simp only [Int.ofNat_eq_natCast] at hD'
        obtain rfl : j = 2 * k + 1 := by omega
        exact ltLess.irr _
      rw [ifp_le, if_neg (by simp only [Int.ofNat_eq_natCast]; omega)]
      refine ⟨by rw [hh]; exact idx_ok hk, _, nth_nearR0 hk, _, nth_nearR1 hk, by rw [hh]; exact idx_ok hC, _, nth_nearR0 hC, _, nth_nearR1 hC, m[k], rfl, m[2 * k + 1], rfl, trivial, ?_⟩
      rw [ifp_if]
      split
      · rename_i hlt
        refine ⟨trivial, trivial, trivial, by rw [hh]; exact idx_ok hC, _, nth_nearR0 hC, _, nth_nearR1 hC, by rw [hh]; exact idx_ok hk, _, nth_nearR0 hk, _, nth_nearR1 hk, by rw [hh]; exact idx_ok hk, near_fit hk rfl, by rw [hh]; exact idx_ok hC, ?_, trivial, trivial, trivial, Go.Det.Hp.swap m k (2 * k + 1) hk hC, ?_, by first | trivial | rfl, ?_⟩
        · rw [near_set hk]; exact near_fit hC (by simp)
        · rw [near_set hk, near_set (by simpa using hC)]; rfl
        · exact ⟨⟨2 * k + 1, rfl, by rw [Go.Det.Hp.swap_length]; exact hh, by rw [Go.Det.Hp.swap_length]; exact hC, by rw [Go.Det.Hp.swap_length]; exact hl, hu.step ltLess hC (by omega) (by omega) hk hg hlt⟩, by show (Go.Det.Hp.swap m k (2 * k + 1) hk hC).length - (2 * k + 1) < m.length - k; rw [Go.Det.Hp.swap_length]; omega, fun _ _ h => ⟨h.1.trans (Go.Det.Hp.swap_perm _ _ _ _ _), h.2⟩, trivial⟩
      · rename_i hlt
        exact ⟨trivial, trivial, trivial, trivial, m, by first | trivial | rfl, by first | trivial | rfl, List.Perm.refl _, hu.done fun j hj h0 he => by
          have h1 := hg j hj h0 he
          have h2 : lessV m[k] m[2 * k + 1] = false := by simpa using hlt
          have h3 := ltLess.le_tr h1 h2
          simpa [he] using h3⟩
    · rw [ifp_le, if_pos (by simp only [Int.ofNat_eq_natCast]; omega)]
      exact ⟨trivial, trivial, m, by first | trivial | rfl, by first | trivial | rfl, List.Perm.refl _, hu.done fun j hj h0 he => by omega⟩
theorem downOk : LoopOk Try.prog 51 57 (.loop (loopBody Try.prog 51 1)) downC := loop_ok downMu mixed (KLS_ok (cc_cons lessCc (cc_nil))) rfl (steps_cons downStep (steps_nil))

def addOk (k : Int) (m : List Near) (n : Near) (b : Bool) (m2 : List Near) : Prop :=
  if (m.length : Int) < k then b = true ∧ m2.Perm (m ++ [n]) ∧ Go.Det.Hp.Heap lessV m2
  else if k = 0 ∨ lessV n (m.headD n) = false then b = false ∧ m2 = m
  else b = true ∧ m2.Perm (m.set 0 n) ∧ Go.Det.Hp.Heap lessV m2
theorem hd_get {m : List Near} {n : Near} (h : 0 < m.length) : m.headD n = m[0] := by cases m with | nil => simp at h | cons a m => rfl

/-! (*wayfinder/rank.Top).Add -/
abbrev add1Z := (Unit × Near × Unit) × ((Int × (Nat × Nat) × Unit) × (List Near) × Unit)
noncomputable def add1T : Tel (Unit × Near × Unit) := .cons 0 (.ptr 0) (.cons 1 (.agg En) (.nil))
noncomputable def add1Bl : BTel ((Int × (Nat × Nat) × Unit) × (List Near) × Unit) := .cons (.row (.cons 0 (.int .i64) (.cons 1 (.slq 1 2) (.nil)))) (.cons (.rows En 30) (.nil))
noncomputable def add1Res (R0 : add1Z → (Bool × Int × Unit) → ((Int × (Nat × Nat) × Unit) × (List Near) × Unit) → Prop) : List (Res add1Z) := [⟨Bool × Int × Unit, (Int × (Nat × Nat) × Unit) × (List Near) × Unit, .cons 0 (.bool) (.cons 1 (.int .i64) (.nil)), .cons (.row (.cons 0 (.int .i64) (.cons 1 (.slq 1 2) (.nil)))) (.cons (.rows En 30) (.nil)), R0⟩]

theorem add1Fn (n : Near) (k : Int) (h : Nat × Nat) (m : List Near) (R0 : add1Z → (Bool × Int × Unit) → ((Int × (Nat × Nat) × Unit) × (List Near) × Unit) → Prop) : (callW Try.prog (runW Try.prog (KLS [(15, lessK)] [(50, [(1, upC)]), (51, [(1, downC)])] 30) 200) 14 (add1T.cells id ((), (n, ()))) (stL false (add1Bl.obs id ((k, (h, ())), (m, ())))) (fun v st => resAny 1 (((), (n, ())), ((k, (h, ())), (m, ()))) v st (add1Res R0))) =
  ( ifp (!leInt k (Int.ofNat h.fst)) (True ∧ True ∧ True ∧ ∃ (x : Int), some (AV.int IntKind.i64 n.fst) = some (AV.int IntKind.i64 x) ∧ ∃ (x_1 : Int), some (AV.int
  IntKind.i64 n.snd.fst) = some (AV.int IntKind.i64 x_1) ∧ (2 : Nat) ≤ (2 : Nat) ∧ ((h.snd < h.fst.add (1 : Nat) ∧ (0 : Nat) = (0 : Nat) ∧ h.fst.mul (2 : Nat) =
  (List.flatMap En.f m).length ∧ roomy (h.fst.add (1 : Nat)) (16 : Nat) = true ∧ True ∧ True ∧ LoopOk Try.prog (50 : Nat) (37 : Nat) (loopBody Try.prog (50 :
  Nat) (1 : Nat)).loop upC ∧ True ∧ True ∧ ∃ (l : List Near), List.flatMap En.f m ++ [AV.int IntKind.i64 x, AV.int IntKind.i64 x_1] = List.flatMap En.f l ∧ true
  = true ∧ upInv (((h.fst.add (1 : Nat), h.fst.add (1 : Nat)), wrapF IntKind.i64 ((Int.ofNat (h.fst.add (1 : Nat))).sub (1 : Int)), ()), l, ()) ∧ (∀ (c : Unit)
  (d : List Near × Unit), upR0 (((h.fst.add (1 : Nat), h.fst.add (1 : Nat)), wrapF IntKind.i64 ((Int.ofNat (h.fst.add (1 : Nat))).sub (1 : Int)), ()), l, ()) c d
  → ∃ (l : List Near), List.flatMap En.f d.1 = List.flatMap En.f l ∧ true = true ∧ R0 (((), n, ()), (k, h, ()), m, ()) (true, (0 : Int), ()) ((k, (h.fst.add (1 :
  Nat), h.fst.add (1 : Nat)), ()), l, ())) ∧ (∀ (c : Unit) (d : List Near × Unit), upR1 (((h.fst.add (1 : Nat), h.fst.add (1 : Nat)), wrapF IntKind.i64
  ((Int.ofNat (h.fst.add (1 : Nat))).sub (1 : Int)), ()), l, ()) c d → ∃ (l : List Near), List.flatMap En.f d.1 = List.flatMap En.f l ∧ true = true ∧ R0 (((), n,
  ()), (k, h, ()), m, ()) (true, (0 : Int), ()) ((k, (h.fst.add (1 : Nat), h.fst.add (1 : Nat)), ()), l, ())) ∧ True) ∨ h.fst.add (1 : Nat) ≤ h.snd ∧ (1 : Nat) ≠
  (0 : Nat) ∧ (Nat.add (0 : Nat) (h.fst.mul (2 : Nat))).add (2 : Nat) ≤ (List.flatMap En.f m).length ∧ True ∧ True ∧ LoopOk Try.prog (50 : Nat) (37 : Nat)
  (loopBody Try.prog (50 : Nat) (1 : Nat)).loop upC ∧ True ∧ True ∧ ∃ (l : List Near), setAt (Nat.add (0 : Nat) (h.fst.mul (2 : Nat))) [AV.int IntKind.i64 x,
  AV.int IntKind.i64 x_1] (List.flatMap En.f m) = List.flatMap En.f l ∧ true = true ∧ upInv (((h.fst.add (1 : Nat), h.snd), wrapF IntKind.i64 ((Int.ofNat
  (h.fst.add (1 : Nat))).sub (1 : Int)), ()), l, ()) ∧ (∀ (c : Unit) (d : List Near × Unit), upR0 (((h.fst.add (1 : Nat), h.snd), wrapF IntKind.i64 ((Int.ofNat
  (h.fst.add (1 : Nat))).sub (1 : Int)), ()), l, ()) c d → ∃ (l : List Near), List.flatMap En.f d.1 = List.flatMap En.f l ∧ true = true ∧ R0 (((), n, ()), (k, h,
  ()), m, ()) (true, (0 : Int), ()) ((k, (h.fst.add (1 : Nat), h.snd), ()), l, ())) ∧ (∀ (c : Unit) (d : List Near × Unit), upR1 (((h.fst.add (1 : Nat), h.snd),
  wrapF IntKind.i64 ((Int.ofNat (h.fst.add (1 : Nat))).sub (1 : Int)), ()), l, ()) c d → ∃ (l : List Near), List.flatMap En.f d.1 = List.flatMap En.f l ∧ true =
  true ∧ R0 (((), n, ()), (k, h, ()), m, ()) (true, (0 : Int), ()) ((k, (h.fst.add (1 : Nat), h.snd), ()), l, ())) ∧ True)) (True ∧ True ∧ True ∧ ifp (eqInt k (0
  : Int)) (True ∧ ∃ (l : List Near), List.flatMap En.f m = List.flatMap En.f l ∧ true = true ∧ R0 (((), n, ()), (k, h, ()), m, ()) (false, (0 : Int), ()) ((k,
  (h.fst, h.snd), ()), l, ())) (∃ (x : Int), some (AV.int IntKind.i64 n.fst) = some (AV.int IntKind.i64 x) ∧ ∃ (x_1 : Int), some (AV.int IntKind.i64 n.snd.fst) =
  some (AV.int IntKind.i64 x_1) ∧ idxOk (0 : Int) h.fst ∧ ∃ (x_2 : Int), nth (0 : Nat) (List.flatMap En.f m) = some (AV.int IntKind.i64 x_2) ∧ ∃ (x_3 : Int), nth
  (1 : Nat) (List.flatMap En.f m) = some (AV.int IntKind.i64 x_3) ∧ ∃ (a : Near), AV.agg [AV.int IntKind.i64 x, AV.int IntKind.i64 x_1] = AV.agg [AV.int
  IntKind.i64 a.fst, AV.int IntKind.i64 a.snd.fst] ∧ ∃ (a_1 : Near), AV.agg [AV.int IntKind.i64 x_2, AV.int IntKind.i64 x_3] = AV.agg [AV.int IntKind.i64
  a_1.fst, AV.int IntKind.i64 a_1.snd.fst] ∧ lessPre (a, a_1, ()) ∧ ifp (lessV a a_1) (True ∧ True ∧ True ∧ True ∧ ∃ (x : Int), some (AV.int IntKind.i64 n.fst) =
  some (AV.int IntKind.i64 x) ∧ ∃ (x_4 : Int), some (AV.int IntKind.i64 n.snd.fst) = some (AV.int IntKind.i64 x_4) ∧ idxOk (0 : Int) h.fst ∧ (2 : Nat) ≤
  (List.flatMap En.f m).length ∧ True ∧ True ∧ LoopOk Try.prog (51 : Nat) (57 : Nat) (loopBody Try.prog (51 : Nat) (1 : Nat)).loop downC ∧ True ∧ True ∧ ∃ (l :
  List Near), setAt (0 : Nat) [AV.int IntKind.i64 x, AV.int IntKind.i64 x_4] (List.flatMap En.f m) = List.flatMap En.f l ∧ true = true ∧ downInv (((h.fst,
  h.snd), (0 : Int), ()), l, ()) ∧ (∀ (c : Unit) (d : List Near × Unit), downR0 (((h.fst, h.snd), (0 : Int), ()), l, ()) c d → ∃ (l : List Near), List.flatMap
  En.f d.1 = List.flatMap En.f l ∧ true = true ∧ R0 (((), n, ()), (k, h, ()), m, ()) (true, (0 : Int), ()) ((k, (h.fst, h.snd), ()), l, ())) ∧ True) (True ∧ True
  ∧ True ∧ True ∧ ∃ (l : List Near), List.flatMap En.f m = List.flatMap En.f l ∧ true = true ∧ R0 (((), n, ()), (k, h, ()), m, ()) (false, (0 : Int), ()) ((k,
  (h.fst, h.snd), ()), l, ()))))) := by kernel_rfl

def add1Pre : add1Z → Prop := fun (((), (n, ())), ((k, (h, ())), (m, ()))) => h = (m.length, m.length) ∧ Go.Det.Hp.Heap lessV m ∧ m.length ≤ 999999 ∧ 0 ≤ k
def add1R0 : add1Z → (Bool × Int × Unit) → ((Int × (Nat × Nat) × Unit) × (List Near) × Unit) → Prop := fun (((), (n, ())), ((k, (h, ())), (m, ()))) (b, e, _) ((k2, h2, _), m2, _) => e = 0 ∧ k2 = k ∧ h2 = (m2.length, m2.length) ∧ addOk k m n b m2
noncomputable def add1K : CallC := callC 1 add1T add1Bl add1Pre (add1Res add1R0)

theorem add1Step (z : add1Z) (hp : add1Pre z) : callW Try.prog (runW Try.prog (KLS [(15, lessK)] [(50, [(1, upC)]), (51, [(1, downC)])] 30) 200) 14 (add1T.cells id z.1) (stL false (add1Bl.obs id z.2)) (fun v st => resAny 1 z v st (add1Res add1R0)) := by
  obtain ⟨⟨_, n, _⟩, ⟨⟨k, h, _⟩, m, _⟩⟩ := z
  refine (add1Fn n k h m _).mpr ?_
  obtain ⟨rfl, hH, hl, k0⟩ := hp
  rw [ifp_lt]
  split
  · rename_i hk
    have hk' : (m.length : Int) < k := hk
    have ew : wrapF .i64 (Int.sub (Int.ofNat (m.length.add 1)) 1) = (m.length : Int) := by
      rw [w64 (by show _ ≤ ((m.length + 1 : Nat) : Int) - 1; omega) (by show ((m.length + 1 : Nat) : Int) - 1 < _; omega)]; show ((m.length + 1 : Nat) : Int) - 1 = _; omega
    have fin : ∀ m2 : List Near, m2.Perm (m ++ [n]) ∧ Go.Det.Hp.Heap lessV m2 → ∃ l : List Near, List.flatMap En.f m2 = List.flatMap En.f l ∧ true = true ∧ add1R0 (((), n, ()), (k, (m.length, m.length), ()), m, ()) (true, 0, ()) ((k, (m.length.add 1, m.length.add 1), ()), l, ()) := fun m2 h2 => by
      have hl2 : m2.length = m.length + 1 := by rw [h2.1.length_eq]; simp
      exact ⟨m2, rfl, rfl, rfl, rfl, by show (m.length + 1, m.length + 1) = _; rw [hl2], by rw [addOk, if_pos hk']; exact ⟨rfl, h2⟩⟩
    refine ⟨trivial, trivial, trivial, _, rfl, _, rfl, by decide, Or.inl ⟨Nat.lt_succ_self _, rfl, (near_len m).symm, roomy_small (by show m.length + 1 ≤ _; omega) (by decide), trivial, trivial, upOk, trivial, trivial, m ++ [n], near_snoc, rfl, ⟨m.length, ew, by simp, by simp, by simp; omega, hH.up n⟩, fun _ d hr => fin d.1 hr, fun _ d hr => fin d.1 hr, trivial⟩⟩
  · rename_i hk
    have hk' : ¬ (m.length : Int) < k := hk
    refine ⟨trivial, trivial, trivial, ?_⟩
    rw [ifp_eq]
    split
    · rename_i h0
      exact ⟨trivial, m, rfl, rfl, rfl, rfl, rfl, by rw [addOk, if_neg hk', if_pos (Or.inl h0)]; exact ⟨rfl, rfl⟩⟩
    · rename_i h0
      have hm1 : 0 < m.length := by omega
      refine ⟨_, rfl, _, rfl, idx_ok0 hm1, _, nth_near0 hm1, _, nth_near1 hm1, n, rfl, m[0], rfl, trivial, ?_⟩
      rw [ifp_if]
      split
      · rename_i hlt
        refine ⟨trivial, trivial, trivial, trivial, _, rfl, _, rfl, idx_ok0 hm1, by rw [near_len]; omega, trivial, trivial, downOk, trivial, trivial, m.set 0 n, near_set hm1, rfl, ⟨0, rfl, by simp, by simpa using hm1, by simp; omega, hH.down n⟩, fun _ d hr => ?_, trivial⟩
        obtain ⟨m2, _⟩ := d
        have h2 : m2.Perm (m.set 0 n) ∧ Go.Det.Hp.Heap lessV m2 := hr
        have hl2 : m2.length = m.length := by rw [h2.1.length_eq]; simp
        exact ⟨m2, rfl, rfl, rfl, rfl, by show (m.length, m.length) = _; rw [hl2], by rw [addOk, if_neg hk', if_neg (by rw [hd_get hm1, hlt]; simp [h0])]; exact ⟨rfl, h2⟩⟩
      · rename_i hlt
        exact ⟨trivial, trivial, trivial, trivial, m, rfl, rfl, rfl, rfl, rfl, by rw [addOk, if_neg hk', if_pos (Or.inr (by rw [hd_get hm1]; simpa using hlt))]; exact ⟨rfl, rfl⟩⟩
theorem add1Cc : CcOk Try.prog 14 add1K := call_ok mixed (KLS_ok (cc_cons lessCc (cc_nil))) rfl add1Step

/-! (*wayfinder/rank.Top).Add -/
abbrev add0Z := (Unit × Near × Unit) × ((Int × Unit × Unit) × Unit)
noncomputable def add0T : Tel (Unit × Near × Unit) := .cons 0 (.ptr 0) (.cons 1 (.agg En) (.nil))
noncomputable def add0Bl : BTel ((Int × Unit × Unit) × Unit) := .cons (.row (.cons 0 (.int .i64) (.cons 1 (.nilS) (.nil)))) (.nil)
noncomputable def add0Res (R0 : add0Z → (Bool × Int × Unit) → ((Int × Unit × Unit) × Unit) → Prop) (R1 : add0Z → (Bool × Int × Unit) → ((Int × (Nat × Nat) × Unit) × (List Near) × Unit) → Prop) : List (Res add0Z) := [⟨Bool × Int × Unit, (Int × Unit × Unit) × Unit, .cons 0 (.bool) (.cons 1 (.int .i64) (.nil)), .cons (.row (.cons 0 (.int .i64) (.cons 1 (.nilS) (.nil)))) (.nil), R0⟩, ⟨Bool × Int × Unit, (Int × (Nat × Nat) × Unit) × (List Near) × Unit, .cons 0 (.bool) (.cons 1 (.int .i64) (.nil)), .cons (.row (.cons 0 (.int .i64) (.cons 1 (.slq 1 2) (.nil)))) (.cons (.rows En 30) (.nil)), R1⟩]

theorem add0Fn (n : Near) (k : Int) (R0 : add0Z → (Bool × Int × Unit) → ((Int × Unit × Unit) × Unit) → Prop) (R1 : add0Z → (Bool × Int × Unit) → ((Int × (Nat × Nat) × Unit) × (List Near) × Unit) → Prop) : (callW Try.prog (runW Try.prog (KLS [(15, lessK)] [(50, [(1, upC)]), (51, [(1, downC)])] 30) 200) 14 (add0T.cells id ((), (n, ()))) (stL false (add0Bl.obs id ((k, ((), ())), ()))) (fun v st => resAny 1 (((), (n, ())), ((k, ((), ())), ())) v st (add0Res R0 R1))) =
  ( ifp (!leInt k (0 : Int)) (True ∧ True ∧ True ∧ ∃ (x : Int), some (AV.int IntKind.i64 n.fst) = some (AV.int IntKind.i64 x) ∧ ∃ (x_1 : Int), some (AV.int
  IntKind.i64 n.snd.fst) = some (AV.int IntKind.i64 x_1) ∧ (2 : Nat) ≤ (2 : Nat) ∧ (1 : Nat) ≠ (0 : Nat) ∧ true = true ∧ True ∧ True ∧ LoopOk Try.prog (50 : Nat)
  (37 : Nat) (loopBody Try.prog (50 : Nat) (1 : Nat)).loop upC ∧ True ∧ True ∧ ∃ (l : List Near), [AV.int IntKind.i64 x, AV.int IntKind.i64 x_1] = List.flatMap
  En.f l ∧ true = true ∧ upInv ((((1 : Nat), (1 : Nat)), (0 : Int), ()), l, ()) ∧ (∀ (c : Unit) (d : List Near × Unit), upR0 ((((1 : Nat), (1 : Nat)), (0 : Int),
  ()), l, ()) c d → False ∨ ∃ (l : List Near), List.flatMap En.f d.1 = List.flatMap En.f l ∧ true = true ∧ R1 (((), n, ()), (k, (), ()), ()) (true, (0 : Int),
  ()) ((k, ((1 : Nat), (1 : Nat)), ()), l, ())) ∧ (∀ (c : Unit) (d : List Near × Unit), upR1 ((((1 : Nat), (1 : Nat)), (0 : Int), ()), l, ()) c d → False ∨ ∃ (l
  : List Near), List.flatMap En.f d.1 = List.flatMap En.f l ∧ true = true ∧ R1 (((), n, ()), (k, (), ()), ()) (true, (0 : Int), ()) ((k, ((1 : Nat), (1 : Nat)),
  ()), l, ())) ∧ True) (True ∧ True ∧ True ∧ ifp (eqInt k (0 : Int)) (True ∧ (true = true ∧ R0 (((), n, ()), (k, (), ()), ()) (false, (0 : Int), ()) ((k, (),
  ()), ()) ∨ False)) (∃ (x : Int), some (AV.int IntKind.i64 n.fst) = some (AV.int IntKind.i64 x) ∧ ∃ (x : Int), some (AV.int IntKind.i64 n.snd.fst) = some
  (AV.int IntKind.i64 x) ∧ False))) := by kernel_rfl

def add0Pre : add0Z → Prop := fun (((), (n, ())), ((k, ((), ())), ())) => 0 ≤ k
def add0R0 : add0Z → (Bool × Int × Unit) → ((Int × Unit × Unit) × Unit) → Prop := fun (((), (n, ())), ((k, ((), ())), ())) (b, e, _) ((k2, _), _) => b = false ∧ e = 0 ∧ k2 = k ∧ k = 0
def add0R1 : add0Z → (Bool × Int × Unit) → ((Int × (Nat × Nat) × Unit) × (List Near) × Unit) → Prop := fun (((), (n, ())), ((k, ((), ())), ())) (b, e, _) ((k2, h2, _), m2, _) => b = true ∧ e = 0 ∧ k2 = k ∧ 0 < k ∧ h2 = (1, 1) ∧ m2 = [n]
noncomputable def add0K : CallC := callC 1 add0T add0Bl add0Pre (add0Res add0R0 add0R1)

theorem add0Step (z : add0Z) (hp : add0Pre z) : callW Try.prog (runW Try.prog (KLS [(15, lessK)] [(50, [(1, upC)]), (51, [(1, downC)])] 30) 200) 14 (add0T.cells id z.1) (stL false (add0Bl.obs id z.2)) (fun v st => resAny 1 z v st (add0Res add0R0 add0R1)) := by
  obtain ⟨⟨_, n, _⟩, ⟨⟨k, _, _⟩, _⟩⟩ := z
  refine (add0Fn n k _ _).mpr ?_
  have hp' : 0 ≤ k := hp
  rw [ifp_lt]
  split
  · rename_i hk
    have fin : ∀ m2 : List Near, m2.Perm [n] ∧ Go.Det.Hp.Heap lessV m2 → False ∨ ∃ l : List Near, List.flatMap En.f m2 = List.flatMap En.f l ∧ true = true ∧ add0R1 (((), n, ()), (k, (), ()), ()) (true, 0, ()) ((k, (1, 1), ()), l, ()) := fun m2 h2 => by
      obtain rfl := List.perm_singleton.1 h2.1
      exact Or.inr ⟨[n], rfl, rfl, rfl, rfl, rfl, hk, rfl, rfl⟩
    refine ⟨trivial, trivial, trivial, _, rfl, _, rfl, by decide, by decide, rfl, trivial, trivial, upOk, trivial, trivial, [n], rfl, rfl, ⟨0, rfl, rfl, by simp, by simp, ?_⟩, fun _ d hr => fin d.1 hr, fun _ d hr => fin d.1 hr, trivial⟩
    exact Go.Det.Hp.Heap.up (l := []) (fun j hj => by simp at hj) n
  · rename_i hk
    refine ⟨trivial, trivial, trivial, ?_⟩
    rw [ifp_eq, if_pos (by omega)]
    exact ⟨trivial, Or.inl ⟨rfl, rfl, rfl, rfl, by omega⟩⟩
theorem add0Cc : CcOk Try.prog 14 add0K := call_ok mixed (KLS_ok (cc_cons lessCc (cc_nil))) rfl add0Step

noncomputable def addK : CallC := orC add1K add0K
theorem addCc : CcOk Try.prog 14 addK := orC_ok add1Cc add0Cc

/-! (*wayfinder/rank.Top).List -/
abbrev list1Z := (Unit × Unit) × ((Int × (Nat × Nat) × Unit) × (List Near) × Unit)
noncomputable def list1T : Tel (Unit × Unit) := .cons 0 (.ptr 0) (.nil)
noncomputable def list1Bl : BTel ((Int × (Nat × Nat) × Unit) × (List Near) × Unit) := .cons (.row (.cons 0 (.int .i64) (.cons 1 (.slq 1 2) (.nil)))) (.cons (.rows En 30) (.nil))
noncomputable def list1Res (R0 : list1Z → ((List Near) × Unit) → ((Int × (Nat × Nat) × Unit) × (List Near) × Unit) → Prop) : List (Res list1Z) := [⟨(List Near) × Unit, (Int × (Nat × Nat) × Unit) × (List Near) × Unit, .cons 0 (.lst En) (.nil), .cons (.row (.cons 0 (.int .i64) (.cons 1 (.slq 1 2) (.nil)))) (.cons (.rows En 30) (.nil)), R0⟩]

theorem list1Fn (k : Int) (h : Nat × Nat) (m : List Near) (R0 : list1Z → ((List Near) × Unit) → ((Int × (Nat × Nat) × Unit) × (List Near) × Unit) → Prop) : (callW Try.prog (runW Try.prog (KLS [(53, sortK)] [] 30) 200) 16 (list1T.cells id ((), ())) (stL false (list1Bl.obs id ((k, (h, ())), (m, ())))) (fun v st => Go.Det.frz1 v st fun v st => resAny 2 (((), ()), ((k, (h, ())), (m, ()))) v st (list1Res R0))) =
  ( (0 : Int) ≤ Int.ofNat h.fst ∧ Int.ofNat h.fst ≤ Int.ofNat h.fst ∧ Int.ofNat h.fst ≤ (16777216 : Int) ∧ roomy (natOf (Int.ofNat h.fst)) (16 : Nat) = true ∧
  Nat.add (0 : Nat) ((minN h.fst (natOf (Int.ofNat h.fst))).mul (2 : Nat)) ≤ (List.flatMap En.f m).length ∧ ifp (allScalar (List.take ((minN h.fst (natOf
  (Int.ofNat h.fst))).mul (2 : Nat)) (List.drop (0 : Nat) (List.flatMap En.f m)))) (Nat.add (0 : Nat) (List.take ((minN h.fst (natOf (Int.ofNat h.fst))).mul (2 :
  Nat)) (List.drop (0 : Nat) (List.flatMap En.f m))).length ≤ (repl (natOf (Int.ofNat h.fst)) [AV.int IntKind.i64 (0 : Int), AV.int IntKind.i64 (0 :
  Int)]).length ∧ ((∃ (l : List Near), setAt (0 : Nat) (List.take ((minN h.fst (natOf (Int.ofNat h.fst))).mul (2 : Nat)) (List.drop (0 : Nat) (List.flatMap En.f
  m))) (repl (natOf (Int.ofNat h.fst)) [AV.int IntKind.i64 (0 : Int), AV.int IntKind.i64 (0 : Int)]) = List.flatMap En.f l ∧ true = true ∧ ((natOf (Int.ofNat
  h.fst), natOf (Int.ofNat h.fst)).fst = l.length ∧ l.length < (4611686018427387904 : Nat)) ∧ (∀ (c : Unit) (d : List Near × Unit), d.1 = nearSort l → Nat.add (0
  : Nat) ((natOf (Int.ofNat h.fst)).mul (2 : Nat)) ≤ (List.flatMap En.f d.1).length ∧ ∃ (l : List Near), Wk (AV.vs (List.take ((natOf (Int.ofNat h.fst)).mul (2 :
  Nat)) (List.drop (0 : Nat) (List.flatMap En.f d.1))) (natOf (Int.ofNat h.fst)) (natOf (Int.ofNat h.fst)) true none (2 : Nat)) (lst En l) ∧ ∃ (l_1 : List Near),
  List.flatMap En.f m = List.flatMap En.f l_1 ∧ true = true ∧ R0 (((), ()), (k, h, ()), m, ()) (l, ()) ((k, (h.fst, h.snd), ()), l_1, ())) ∧ True) ∨ False))
  False) := by kernel_rfl

def list1Pre : list1Z → Prop := fun (((), ()), ((k, (h, ())), (m, ()))) => h = (m.length, m.length) ∧ m.length ≤ 1000000
def list1R0 : list1Z → ((List Near) × Unit) → ((Int × (Nat × Nat) × Unit) × (List Near) × Unit) → Prop := fun (((), ()), ((k, (h, ())), (m, ()))) (o, _) ((k2, h2, _), m2, _) => o = nearSort m ∧ k2 = k ∧ h2 = h ∧ m2 = m
noncomputable def list1K : CallC := callC 2 list1T list1Bl list1Pre (list1Res list1R0)

theorem list1Step (z : list1Z) (hp : list1Pre z) : callW Try.prog (runW Try.prog (KLS [(53, sortK)] [] 30) 200) 16 (list1T.cells id z.1) (stL false (list1Bl.obs id z.2)) (fun v st => Go.Det.frz1 v st fun v st => resAny 2 z v st (list1Res list1R0)) := by
  obtain ⟨⟨_, _⟩, ⟨⟨k, h, _⟩, m, _⟩⟩ := z
  refine (list1Fn k h m _).mpr ?_
  obtain ⟨rfl, hl⟩ := hp
  have e1 : minN (m.length, m.length).fst (natOf (Int.ofNat (m.length, m.length).fst)) = m.length := by show minN m.length m.length = _; rw [minN, show Nat.ble m.length m.length = true from ble_t (Nat.le_refl _), ifb_true]
  have e2 : List.take (m.length.mul 2) (List.drop 0 (m.flatMap En.f)) = m.flatMap En.f := by rw [List.drop_zero, List.take_of_length_le (by rw [near_len]; exact Nat.le_refl _)]
  have e3 : (repl (natOf (Int.ofNat (m.length, m.length).fst)) [AV.int .i64 0, AV.int .i64 0]) = (List.replicate m.length ((0, 0, ()) : Near)).flatMap En.f := repl_enc (E := En) (x := (0, 0, ())) _
  have hs := nearSort_len m
  refine ⟨by show (0 : Int) ≤ (m.length : Int); omega, Int.le_refl _, by show (m.length : Int) ≤ _; omega, roomy_small (by show m.length ≤ _; omega) (by decide), ?_⟩
  rw [e1, e2, e3, ifp_pos (Enc.fscal En m)]
  refine ⟨by rw [near_len]; show 0 + m.length * 2 ≤ _; omega, by rw [near_len, near_len, List.length_replicate]; show 0 + _ ≤ _; omega, Or.inl ⟨m, ?_, rfl, ⟨rfl, by omega⟩, fun _ d hd => ?_, trivial⟩⟩
  · rw [setAt, List.take_zero, List.drop_of_length_le (by rw [near_len, near_len, List.length_replicate]; omega)]; simp
  · obtain ⟨s, _⟩ := d
    obtain rfl : s = nearSort m := hd
    refine ⟨by rw [near_len, hs]; show 0 + m.length * 2 ≤ _; omega, nearSort m, wk_vs ⟨?_, hs.symm, rfl⟩, m, rfl, rfl, rfl, rfl, rfl, rfl⟩
    show List.take (m.length * 2) _ = _
    rw [List.drop_zero, List.take_of_length_le (by rw [near_len, hs]; exact Nat.le_refl _)]
theorem list1Cc : CcOk Try.prog 16 list1K := call_okF mixed (KLS_ok (cc_cons sortCc (cc_nil))) rfl list1Step

/-! (*wayfinder/rank.Top).List -/
abbrev list0Z := (Unit × Unit) × ((Int × Unit × Unit) × Unit)
noncomputable def list0T : Tel (Unit × Unit) := .cons 0 (.ptr 0) (.nil)
noncomputable def list0Bl : BTel ((Int × Unit × Unit) × Unit) := .cons (.row (.cons 0 (.int .i64) (.cons 1 (.nilS) (.nil)))) (.nil)
noncomputable def list0Res (R0 : list0Z → ((List Near) × Unit) → ((Int × Unit × Unit) × Unit) → Prop) : List (Res list0Z) := [⟨(List Near) × Unit, (Int × Unit × Unit) × Unit, .cons 0 (.lst En) (.nil), .cons (.row (.cons 0 (.int .i64) (.cons 1 (.nilS) (.nil)))) (.nil), R0⟩]

theorem list0Fn (k : Int) (R0 : list0Z → ((List Near) × Unit) → ((Int × Unit × Unit) × Unit) → Prop) : (callW Try.prog (runW Try.prog (KLS [(53, sortK)] [] 30) 200) 16 (list0T.cells id ((), ())) (stL false (list0Bl.obs id ((k, ((), ())), ()))) (fun v st => Go.Det.frz1 v st fun v st => resAny 1 (((), ()), ((k, ((), ())), ())) v st (list0Res R0))) =
  ( (0 : Int) ≤ (0 : Int) ∧ (0 : Int) ≤ (0 : Int) ∧ (0 : Int) ≤ (16777216 : Int) ∧ true = true ∧ (0 : Nat) ≤ (0 : Nat) ∧ ((∃ (l : List Near), setAt (0 : Nat) [] []
  = List.flatMap En.f l ∧ true = true ∧ ((0 : Nat) = l.length ∧ l.length < (4611686018427387904 : Nat)) ∧ (∀ (c : Unit) (d : List Near × Unit), d.1 = nearSort l
  → (0 : Nat) ≤ (List.flatMap En.f d.1).length ∧ ∃ (l : List Near), Wk (AV.vs [] (0 : Nat) (0 : Nat) true none (2 : Nat)) (lst En l) ∧ true = true ∧ R0 (((),
  ()), (k, (), ()), ()) (l, ()) ((k, (), ()), ())) ∧ True) ∨ False)) := by kernel_rfl

def list0Pre : list0Z → Prop := fun (((), ()), ((k, ((), ())), ())) => True
def list0R0 : list0Z → ((List Near) × Unit) → ((Int × Unit × Unit) × Unit) → Prop := fun (((), ()), ((k, ((), ())), ())) (o, _) ((k2, _), _) => o = [] ∧ k2 = k
noncomputable def list0K : CallC := callC 1 list0T list0Bl list0Pre (list0Res list0R0)

theorem list0Step (z : list0Z) (hp : list0Pre z) : callW Try.prog (runW Try.prog (KLS [(53, sortK)] [] 30) 200) 16 (list0T.cells id z.1) (stL false (list0Bl.obs id z.2)) (fun v st => Go.Det.frz1 v st fun v st => resAny 1 z v st (list0Res list0R0)) := by
  obtain ⟨⟨_, _⟩, ⟨⟨k, _, _⟩, _⟩⟩ := z
  refine (list0Fn k _).mpr ?_
  exact ⟨by decide, by decide, by decide, rfl, by decide, Or.inl ⟨[], rfl, rfl, ⟨rfl, by simp⟩, fun _ d hd => ⟨Nat.zero_le _, [], wk_vs ⟨rfl, rfl, rfl⟩, rfl, rfl, rfl⟩, trivial⟩⟩
theorem list0Cc : CcOk Try.prog 16 list0K := call_okF mixed (KLS_ok (cc_cons sortCc (cc_nil))) rfl list0Step

noncomputable def tlistK : CallC := orC list1K list0K
theorem tlistCc : CcOk Try.prog 16 tlistK := orC_ok list1Cc list0Cc

def keepV (K : Int) (L : List Near) (n : Near) : Bool := !(decide ((L.length : Int) = K) && (decide (K = 0) || !lessV n (L.getLastD n)))
def raddL (K : Int) (L : List Near) (n : Near) : List Near := if keepV K L n = true then (insV L n).take K.toNat else L
def worstV (k : Int) (m : List Near) : Near × Bool := if (m.length : Int) = k ∧ k ≠ 0 then (m.headD (0, 0, ()), true) else ((0, 0, ()), false)
def rworstV (K : Int) (L : List Near) : Near × Bool := if K = 0 ∨ (L.length : Int) < K then ((0, 0, ()), false) else (L.getLastD (0, 0, ()), true)

theorem last_get {L : List Near} {p : Nat} (n : Near) (h : L.length = p + 1) : L.getLastD n = L[p] := by
  rw [List.getLastD_eq_getLast?, List.getLast?_eq_getElem?]; simp [h]
theorem keep_ne {K : Int} {L : List Near} {n : Near} (h : ¬ (L.length : Int) = K) : keepV K L n = true := by simp [keepV, h]
theorem keep_no {K : Int} {L : List Near} {n : Near} (h : (L.length : Int) = K) (h2 : K = 0 ∨ lessV n (L.getLastD n) = false) : keepV K L n = false := by
  rcases h2 with h2 | h2
  · simp [keepV, h, h2]
  · rw [keepV, h2]; simp [h]
theorem keep_yes {K : Int} {L : List Near} {n : Near} (h : K ≠ 0) (h2 : lessV n (L.getLastD n) = true) : keepV K L n = true := by rw [keepV, h2]; simp [h]

/-! (*wayfinder/wayfinderref04.Top).Add -/
abbrev raddZ := (Unit × Near × Unit) × ((Int × (List Near) × Unit) × Unit)
noncomputable def raddT : Tel (Unit × Near × Unit) := .cons 0 (.ptr 0) (.cons 1 (.agg En) (.nil))
noncomputable def raddBl : BTel ((Int × (List Near) × Unit) × Unit) := .cons (.row (.cons 0 (.int .i64) (.cons 1 (.lst En) (.nil)))) (.nil)
noncomputable def raddRes (R0 : raddZ → (Bool × Unit) → ((Int × (List Near) × Unit) × Unit) → Prop) : List (Res raddZ) := [⟨Bool × Unit, (Int × (List Near) × Unit) × Unit, .cons 0 (.bool) (.nil), .cons (.row (.cons 0 (.int .i64) (.cons 1 (.lst En) (.nil)))) (.nil), R0⟩]

theorem raddFn (n : Near) (K : Int) (L : List Near) (R0 : raddZ → (Bool × Unit) → ((Int × (List Near) × Unit) × Unit) → Prop) : (callW Try.prog (runW Try.prog (KL [(20, rlessK), (56, intoK)] []) 200) 23 (raddT.cells id ((), (n, ()))) (stL false (raddBl.obs id ((K, (L, ())), ()))) (fun v st => resAny 1 (((), (n, ())), ((K, (L, ())), ())) v st (raddRes R0))) =
  ( ifp (eqInt (Int.ofNat L.length) K) (ifp (eqInt K (0 : Int)) (True ∧ True ∧ True ∧ True ∧ ∃ (l : List Near), Wk (AV.vs (List.flatMap En.f L) L.length L.length
  false none (2 : Nat)) (lst En l) ∧ true = true ∧ R0 (((), n, ()), (K, L, ()), ()) (false, ()) ((K, l, ()), ())) (idxOk (wrapF IntKind.i64 (K.sub (1 : Int)))
  L.length ∧ ∃ (x : Int), nth (((natOf (wrapF IntKind.i64 (K.sub (1 : Int)))).mul (2 : Nat)).add (0 : Nat)) (List.flatMap En.f L) = some (AV.int IntKind.i64 x) ∧
  ∃ (x_1 : Int), nth (((natOf (wrapF IntKind.i64 (K.sub (1 : Int)))).mul (2 : Nat)).add (1 : Nat)) (List.flatMap En.f L) = some (AV.int IntKind.i64 x_1) ∧ ∃ (a :
  Near), AV.agg [AV.int IntKind.i64 n.fst, AV.int IntKind.i64 n.snd.fst] = AV.agg [AV.int IntKind.i64 a.fst, AV.int IntKind.i64 a.snd.fst] ∧ ∃ (a_1 : Near),
  AV.agg [AV.int IntKind.i64 x, AV.int IntKind.i64 x_1] = AV.agg [AV.int IntKind.i64 a_1.fst, AV.int IntKind.i64 a_1.snd.fst] ∧ rlessPre (a, a_1, ()) ∧ ifp
  (lessV a a_1) (True ∧ True ∧ True ∧ True ∧ True ∧ True ∧ True ∧ True ∧ ∃ (l : List Near), Wk (AV.vs (List.flatMap En.f L) L.length L.length false none (2 :
  Nat)) (lst En l) ∧ ∃ (a : Near), AV.agg [AV.int IntKind.i64 n.fst, AV.int IntKind.i64 n.snd.fst] = AV.agg [AV.int IntKind.i64 a.fst, AV.int IntKind.i64
  a.snd.fst] ∧ intoPre (l, a, ()) ∧ True ∧ True ∧ ifp (!leInt (Int.ofNat (insV l a).length) K) (True ∧ True ∧ True ∧ (0 : Int) ≤ K ∧ K ≤ ↑(insV l a).length ∧
  natOf K ≤ (insV l a).length ∧ (List.flatMap En.f (insV l a)).length = (insV l a).length.mul (2 : Nat) ∧ True ∧ True ∧ True ∧ ∃ (l_1 : List Near), Wk (AV.vs
  (List.take (((natOf K).sub (0 : Nat)).mul (2 : Nat)) (List.drop (0 : Nat) (List.flatMap En.f (insV l a)))) ((natOf K).sub (0 : Nat)) ((insV l a).length.sub (0
  : Nat)) (mxEx none false) none (2 : Nat)) (lst En l_1) ∧ true = true ∧ R0 (((), n, ()), (K, L, ()), ()) (true, ()) ((K, l_1, ()), ())) (True ∧ True ∧ True ∧ ∃
  (l_1 : List Near), Wk (AV.vs (List.flatMap En.f (insV l a)) (insV l a).length (insV l a).length false none (2 : Nat)) (lst En l_1) ∧ true = true ∧ R0 (((), n,
  ()), (K, L, ()), ()) (true, ()) ((K, l_1, ()), ()))) (True ∧ True ∧ True ∧ True ∧ True ∧ True ∧ True ∧ True ∧ ∃ (l : List Near), Wk (AV.vs (List.flatMap En.f
  L) L.length L.length false none (2 : Nat)) (lst En l) ∧ true = true ∧ R0 (((), n, ()), (K, L, ()), ()) (false, ()) ((K, l, ()), ())))) (True ∧ True ∧ True ∧ ∃
  (l : List Near), Wk (AV.vs (List.flatMap En.f L) L.length L.length false none (2 : Nat)) (lst En l) ∧ ∃ (a : Near), AV.agg [AV.int IntKind.i64 n.fst, AV.int
  IntKind.i64 n.snd.fst] = AV.agg [AV.int IntKind.i64 a.fst, AV.int IntKind.i64 a.snd.fst] ∧ intoPre (l, a, ()) ∧ True ∧ True ∧ ifp (!leInt (Int.ofNat (insV l
  a).length) K) (True ∧ True ∧ True ∧ (0 : Int) ≤ K ∧ K ≤ ↑(insV l a).length ∧ natOf K ≤ (insV l a).length ∧ (List.flatMap En.f (insV l a)).length = (insV l
  a).length.mul (2 : Nat) ∧ True ∧ True ∧ True ∧ ∃ (l_1 : List Near), Wk (AV.vs (List.take (((natOf K).sub (0 : Nat)).mul (2 : Nat)) (List.drop (0 : Nat)
  (List.flatMap En.f (insV l a)))) ((natOf K).sub (0 : Nat)) ((insV l a).length.sub (0 : Nat)) (mxEx none false) none (2 : Nat)) (lst En l_1) ∧ true = true ∧ R0
  (((), n, ()), (K, L, ()), ()) (true, ()) ((K, l_1, ()), ())) (True ∧ True ∧ True ∧ ∃ (l_1 : List Near), Wk (AV.vs (List.flatMap En.f (insV l a)) (insV l
  a).length (insV l a).length false none (2 : Nat)) (lst En l_1) ∧ true = true ∧ R0 (((), n, ()), (K, L, ()), ()) (true, ()) ((K, l_1, ()), ())))) := by kernel_rfl

def raddPre : raddZ → Prop := fun (((), (n, ())), ((K, (L, ())), ())) => 0 ≤ K ∧ (L.length : Int) ≤ K ∧ L.length ≤ 100000
def raddR0 : raddZ → (Bool × Unit) → ((Int × (List Near) × Unit) × Unit) → Prop := fun (((), (n, ())), ((K, (L, ())), ())) (b, _) ((K2, L2, _), _) => b = keepV K L n ∧ K2 = K ∧ L2 = raddL K L n
noncomputable def raddK : CallC := callC 1 raddT raddBl raddPre (raddRes raddR0)

theorem raddStep (z : raddZ) (hp : raddPre z) : callW Try.prog (runW Try.prog (KL [(20, rlessK), (56, intoK)] []) 200) 23 (raddT.cells id z.1) (stL false (raddBl.obs id z.2)) (fun v st => resAny 1 z v st (raddRes raddR0)) := by
  obtain ⟨⟨_, n, _⟩, ⟨⟨K, L, _⟩, _⟩⟩ := z
  refine (raddFn n K L _).mpr ?_
  obtain ⟨k0, hle, hl⟩ := hp
  obtain ⟨Kn, rfl⟩ := Int.eq_ofNat_of_zero_le k0
  simp only [natOf_nat]
  rw [ifp_eq]
  split
  · rename_i hL
    have hL' : ((L.length : Nat) : Int) = (Kn : Int) := hL
    rw [ifp_eq]
    split
    · rename_i h0
      have hk := keep_no (n := n) hL' (Or.inl h0)
      exact ⟨trivial, trivial, trivial, trivial, L, Wk.refl _, by first | trivial | rfl, hk.symm, rfl, by show L = raddL _ L n; rw [raddL, if_neg (by rw [hk]; simp)]⟩
    · rename_i h0
      obtain ⟨p, hpl⟩ : ∃ p, L.length = p + 1 := ⟨L.length - 1, by omega⟩
      have hp : p < L.length := by omega
      have e : wrapF .i64 (Int.sub (Kn : Int) 1) = (p : Int) := by rw [w64 (by show _ ≤ (Kn : Int) - 1; omega) (by show (Kn : Int) - 1 < _; omega)]; show (Kn : Int) - 1 = _; omega
      simp only [e, natOf_nat]
      refine ⟨idx_ok hp, _, nth_near0 hp, _, nth_near1 hp, n, rfl, L[p], rfl, trivial, ?_⟩
      rw [ifp_if]
      split
      · rename_i hlt
        have hkeep := keep_yes (K := (Kn : Int)) (L := L) (n := n) h0 (by rw [last_get n hpl]; exact hlt)
        refine ⟨trivial, trivial, trivial, trivial, trivial, trivial, trivial, trivial, ?_⟩
        refine ⟨L, Wk.refl _, n, rfl, (by show L.length ≤ 1000000; omega), trivial, trivial, ?_⟩
        rw [ifp_lt]
        have hil := insV_len L n
        split
        · rename_i hgt
          have hgt' : Kn < (insV L n).length := by simp only [Int.ofNat_eq_natCast] at hgt; omega
          refine ⟨trivial, trivial, trivial, Int.natCast_nonneg _, by omega, by omega, Enc.flen En _, trivial, trivial, trivial, (insV L n).take Kn, wk_vs ⟨?_, ?_, rfl⟩, by first | trivial | rfl, hkeep.symm, rfl, ?_⟩
          · rw [List.drop_zero]; exact near_take _ Kn
          · rw [List.length_take]; show Kn = _; omega
          · show _ = raddL _ L n; rw [raddL, if_pos hkeep]; rfl
        · rename_i hgt
          refine ⟨trivial, trivial, trivial, insV L n, Wk.refl _, by first | trivial | rfl, hkeep.symm, rfl, ?_⟩
          show _ = raddL _ L n
          rw [raddL, if_pos hkeep, List.take_of_length_le (by simp only [Int.ofNat_eq_natCast] at hgt; show (insV L n).length ≤ Kn; omega)]
      · rename_i hlt
        have hk := keep_no (n := n) hL' (Or.inr (by rw [last_get n hpl]; simpa using hlt))
        exact ⟨trivial, trivial, trivial, trivial, trivial, trivial, trivial, trivial, L, Wk.refl _, by first | trivial | rfl, hk.symm, rfl, by show L = raddL _ L n; rw [raddL, if_neg (by rw [hk]; simp)]⟩
  · rename_i hL
    have hkeep := keep_ne (K := (Kn : Int)) (L := L) (n := n) hL
    refine ⟨trivial, trivial, trivial, ?_⟩
    refine ⟨L, Wk.refl _, n, rfl, (by show L.length ≤ 1000000; omega), trivial, trivial, ?_⟩
    rw [ifp_lt]
    have hil := insV_len L n
    split
    · rename_i hgt
      have hgt' : Kn < (insV L n).length := by simp only [Int.ofNat_eq_natCast] at hgt; omega
      refine ⟨trivial, trivial, trivial, Int.natCast_nonneg _, by omega, by omega, Enc.flen En _, trivial, trivial, trivial, (insV L n).take Kn, wk_vs ⟨?_, ?_, rfl⟩, by first | trivial | rfl, hkeep.symm, rfl, ?_⟩
      · rw [List.drop_zero]; exact near_take _ Kn
      · rw [List.length_take]; show Kn = _; omega
      · show _ = raddL _ L n; rw [raddL, if_pos hkeep]; rfl
    · rename_i hgt
      refine ⟨trivial, trivial, trivial, insV L n, Wk.refl _, by first | trivial | rfl, hkeep.symm, rfl, ?_⟩
      show _ = raddL _ L n
      rw [raddL, if_pos hkeep, List.take_of_length_le (by simp only [Int.ofNat_eq_natCast] at hgt; show (insV L n).length ≤ Kn; omega)]
theorem raddCc : CcOk Try.prog 23 raddK := call_ok mixed (KL_ok (cc_cons rlessCc (cc_cons intoCc (cc_nil)))) rfl raddStep

/-! (*wayfinder/rank.Top).Worst -/
abbrev worst1Z := (Unit × Unit) × ((Int × (Nat × Nat) × Unit) × (List Near) × Unit)
noncomputable def worst1T : Tel (Unit × Unit) := .cons 0 (.ptr 0) (.nil)
noncomputable def worst1Bl : BTel ((Int × (Nat × Nat) × Unit) × (List Near) × Unit) := .cons (.row (.cons 0 (.int .i64) (.cons 1 (.slq 1 2) (.nil)))) (.cons (.rows En 30) (.nil))
noncomputable def worst1Res (R0 : worst1Z → (Near × Bool × Unit) → ((Int × (Nat × Nat) × Unit) × (List Near) × Unit) → Prop) : List (Res worst1Z) := [⟨Near × Bool × Unit, (Int × (Nat × Nat) × Unit) × (List Near) × Unit, .cons 0 (.agg En) (.cons 1 (.bool) (.nil)), .cons (.row (.cons 0 (.int .i64) (.cons 1 (.slq 1 2) (.nil)))) (.cons (.rows En 30) (.nil)), R0⟩]

theorem worst1Fn (k : Int) (h : Nat × Nat) (m : List Near) (R0 : worst1Z → (Near × Bool × Unit) → ((Int × (Nat × Nat) × Unit) × (List Near) × Unit) → Prop) : (callW Try.prog (runW Try.prog (KLS [] [] 30) 200) 13 (worst1T.cells id ((), ())) (stL false (worst1Bl.obs id ((k, (h, ())), (m, ())))) (fun v st => resAny 2 (((), ()), ((k, (h, ())), (m, ()))) v st (worst1Res R0))) =
  ( ifp (eqInt (Int.ofNat h.fst) k) (True ∧ True ∧ True ∧ ifp (eqInt k (0 : Int)) ((2 : Nat) ≤ (2 : Nat) ∧ ∃ (a : Near), AV.agg [AV.int IntKind.i64 (0 : Int),
  AV.int IntKind.i64 (0 : Int)] = AV.agg [AV.int IntKind.i64 a.fst, AV.int IntKind.i64 a.snd.fst] ∧ ∃ (l : List Near), List.flatMap En.f m = List.flatMap En.f l
  ∧ true = true ∧ R0 (((), ()), (k, h, ()), m, ()) (a, false, ()) ((k, (h.fst, h.snd), ()), l, ())) (idxOk (0 : Int) h.fst ∧ ∃ (x : Int), nth (0 : Nat)
  (List.flatMap En.f m) = some (AV.int IntKind.i64 x) ∧ ∃ (x_1 : Int), nth (1 : Nat) (List.flatMap En.f m) = some (AV.int IntKind.i64 x_1) ∧ (2 : Nat) ≤ (2 :
  Nat) ∧ ∃ (a : Near), AV.agg [AV.int IntKind.i64 x, AV.int IntKind.i64 x_1] = AV.agg [AV.int IntKind.i64 a.fst, AV.int IntKind.i64 a.snd.fst] ∧ ∃ (l : List
  Near), List.flatMap En.f m = List.flatMap En.f l ∧ true = true ∧ R0 (((), ()), (k, h, ()), m, ()) (a, true, ()) ((k, (h.fst, h.snd), ()), l, ()))) (True ∧ True
  ∧ True ∧ (2 : Nat) ≤ (2 : Nat) ∧ ∃ (a : Near), AV.agg [AV.int IntKind.i64 (0 : Int), AV.int IntKind.i64 (0 : Int)] = AV.agg [AV.int IntKind.i64 a.fst, AV.int
  IntKind.i64 a.snd.fst] ∧ ∃ (l : List Near), List.flatMap En.f m = List.flatMap En.f l ∧ true = true ∧ R0 (((), ()), (k, h, ()), m, ()) (a, false, ()) ((k,
  (h.fst, h.snd), ()), l, ()))) := by kernel_rfl

def worst1Pre : worst1Z → Prop := fun (((), ()), ((k, (h, ())), (m, ()))) => h = (m.length, m.length)
def worst1R0 : worst1Z → (Near × Bool × Unit) → ((Int × (Nat × Nat) × Unit) × (List Near) × Unit) → Prop := fun (((), ()), ((k, (h, ())), (m, ()))) (x, b, _) ((k2, h2, _), m2, _) => (x, b) = worstV k m ∧ k2 = k ∧ h2 = h ∧ m2 = m
noncomputable def worst1K : CallC := callC 2 worst1T worst1Bl worst1Pre (worst1Res worst1R0)

theorem worst1Step (z : worst1Z) (hp : worst1Pre z) : callW Try.prog (runW Try.prog (KLS [] [] 30) 200) 13 (worst1T.cells id z.1) (stL false (worst1Bl.obs id z.2)) (fun v st => resAny 2 z v st (worst1Res worst1R0)) := by
  obtain ⟨⟨_, _⟩, ⟨⟨k, h, _⟩, m, _⟩⟩ := z
  refine (worst1Fn k h m _).mpr ?_
  obtain rfl : h = (m.length, m.length) := hp
  rw [ifp_eq]
  split
  · rename_i h
    refine ⟨trivial, trivial, trivial, ?_⟩
    rw [ifp_eq]
    split
    · rename_i h0
      exact ⟨by decide, (0, 0, ()), rfl, m, rfl, by first | trivial | rfl, by rw [worstV, if_neg (fun c => c.2 h0)], rfl, rfl, rfl⟩
    · rename_i h0
      have hm : 0 < m.length := by have h' : ((m.length : Nat) : Int) = k := h; omega
      exact ⟨idx_ok0 hm, _, nth_near0 hm, _, nth_near1 hm, by decide, m[0], rfl, m, rfl, by first | trivial | rfl, by rw [worstV, if_pos ⟨h, h0⟩, hd_get hm], rfl, rfl, rfl⟩
  · rename_i h
    exact ⟨trivial, trivial, trivial, by decide, (0, 0, ()), rfl, m, rfl, by first | trivial | rfl, by rw [worstV, if_neg (fun c => h c.1)], rfl, rfl, rfl⟩
theorem worst1Cc : CcOk Try.prog 13 worst1K := call_ok mixed (KLS_ok (cc_nil)) rfl worst1Step

/-! (*wayfinder/rank.Top).Worst -/
abbrev worst0Z := (Unit × Unit) × ((Int × Unit × Unit) × Unit)
noncomputable def worst0T : Tel (Unit × Unit) := .cons 0 (.ptr 0) (.nil)
noncomputable def worst0Bl : BTel ((Int × Unit × Unit) × Unit) := .cons (.row (.cons 0 (.int .i64) (.cons 1 (.nilS) (.nil)))) (.nil)
noncomputable def worst0Res (R0 : worst0Z → (Near × Bool × Unit) → ((Int × Unit × Unit) × Unit) → Prop) : List (Res worst0Z) := [⟨Near × Bool × Unit, (Int × Unit × Unit) × Unit, .cons 0 (.agg En) (.cons 1 (.bool) (.nil)), .cons (.row (.cons 0 (.int .i64) (.cons 1 (.nilS) (.nil)))) (.nil), R0⟩]

theorem worst0Fn (k : Int) (R0 : worst0Z → (Near × Bool × Unit) → ((Int × Unit × Unit) × Unit) → Prop) : (callW Try.prog (runW Try.prog (KLS [] [] 30) 200) 13 (worst0T.cells id ((), ())) (stL false (worst0Bl.obs id ((k, ((), ())), ()))) (fun v st => resAny 1 (((), ()), ((k, ((), ())), ())) v st (worst0Res R0))) =
  ( ifp (eqInt (0 : Int) k) (True ∧ True ∧ True ∧ ifp (eqInt k (0 : Int)) ((2 : Nat) ≤ (2 : Nat) ∧ ∃ (a : Near), AV.agg [AV.int IntKind.i64 (0 : Int), AV.int
  IntKind.i64 (0 : Int)] = AV.agg [AV.int IntKind.i64 a.fst, AV.int IntKind.i64 a.snd.fst] ∧ true = true ∧ R0 (((), ()), (k, (), ()), ()) (a, false, ()) ((k, (),
  ()), ())) False) (True ∧ True ∧ True ∧ (2 : Nat) ≤ (2 : Nat) ∧ ∃ (a : Near), AV.agg [AV.int IntKind.i64 (0 : Int), AV.int IntKind.i64 (0 : Int)] = AV.agg
  [AV.int IntKind.i64 a.fst, AV.int IntKind.i64 a.snd.fst] ∧ true = true ∧ R0 (((), ()), (k, (), ()), ()) (a, false, ()) ((k, (), ()), ()))) := by kernel_rfl

def worst0Pre : worst0Z → Prop := fun (((), ()), ((k, ((), ())), ())) => True
def worst0R0 : worst0Z → (Near × Bool × Unit) → ((Int × Unit × Unit) × Unit) → Prop := fun (((), ()), ((k, ((), ())), ())) (x, b, _) ((k2, _), _) => (x, b) = worstV k [] ∧ k2 = k
noncomputable def worst0K : CallC := callC 1 worst0T worst0Bl worst0Pre (worst0Res worst0R0)

theorem worst0Step (z : worst0Z) (hp : worst0Pre z) : callW Try.prog (runW Try.prog (KLS [] [] 30) 200) 13 (worst0T.cells id z.1) (stL false (worst0Bl.obs id z.2)) (fun v st => resAny 1 z v st (worst0Res worst0R0)) := by
  obtain ⟨⟨_, _⟩, ⟨⟨k, _, _⟩, _⟩⟩ := z
  refine (worst0Fn k _).mpr ?_
  rw [ifp_eq]
  split
  · rename_i h
    refine ⟨trivial, trivial, trivial, ?_⟩
    rw [ifp_eq, if_pos h.symm]
    exact ⟨by decide, (0, 0, ()), rfl, by first | trivial | rfl, by rw [worstV, if_neg (fun c => c.2 h.symm)], rfl⟩
  · rename_i h
    exact ⟨trivial, trivial, trivial, by decide, (0, 0, ()), rfl, by first | trivial | rfl, by rw [worstV, if_neg (fun c => h c.1)], rfl⟩
theorem worst0Cc : CcOk Try.prog 13 worst0K := call_ok mixed (KLS_ok (cc_nil)) rfl worst0Step

noncomputable def worstK : CallC := orC worst1K worst0K
theorem worstCc : CcOk Try.prog 13 worstK := orC_ok worst1Cc worst0Cc

/-! (*wayfinder/wayfinderref04.Top).Worst -/
abbrev rworstZ := (Unit × Unit) × ((Int × (List Near) × Unit) × Unit)
noncomputable def rworstT : Tel (Unit × Unit) := .cons 0 (.ptr 0) (.nil)
noncomputable def rworstBl : BTel ((Int × (List Near) × Unit) × Unit) := .cons (.row (.cons 0 (.int .i64) (.cons 1 (.lst En) (.nil)))) (.nil)
noncomputable def rworstRes (R0 : rworstZ → (Near × Bool × Unit) → ((Int × (List Near) × Unit) × Unit) → Prop) : List (Res rworstZ) := [⟨Near × Bool × Unit, (Int × (List Near) × Unit) × Unit, .cons 0 (.agg En) (.cons 1 (.bool) (.nil)), .cons (.row (.cons 0 (.int .i64) (.cons 1 (.lst En) (.nil)))) (.nil), R0⟩]

theorem rworstFn (K : Int) (L : List Near) (R0 : rworstZ → (Near × Bool × Unit) → ((Int × (List Near) × Unit) × Unit) → Prop) : (callW Try.prog (runW Try.prog (KL [] []) 200) 24 (rworstT.cells id ((), ())) (stL false (rworstBl.obs id ((K, (L, ())), ()))) (fun v st => resAny 1 (((), ()), ((K, (L, ())), ())) v st (rworstRes R0))) =
  ( ifp (eqInt K (0 : Int)) (True ∧ ∃ (a : Near), AV.agg [AV.int IntKind.i64 (0 : Int), AV.int IntKind.i64 (0 : Int)] = AV.agg [AV.int IntKind.i64 a.fst, AV.int
  IntKind.i64 a.snd.fst] ∧ ∃ (l : List Near), Wk (AV.vs (List.flatMap En.f L) L.length L.length false none (2 : Nat)) (lst En l) ∧ true = true ∧ R0 (((), ()),
  (K, L, ()), ()) (a, false, ()) ((K, l, ()), ())) (ifp (!leInt K (Int.ofNat L.length)) (True ∧ True ∧ True ∧ True ∧ ∃ (a : Near), AV.agg [AV.int IntKind.i64 (0
  : Int), AV.int IntKind.i64 (0 : Int)] = AV.agg [AV.int IntKind.i64 a.fst, AV.int IntKind.i64 a.snd.fst] ∧ ∃ (l : List Near), Wk (AV.vs (List.flatMap En.f L)
  L.length L.length false none (2 : Nat)) (lst En l) ∧ true = true ∧ R0 (((), ()), (K, L, ()), ()) (a, false, ()) ((K, l, ()), ())) (True ∧ True ∧ True ∧ True ∧
  idxOk (wrapF IntKind.i64 (K.sub (1 : Int))) L.length ∧ ∃ (x : Int), nth (((natOf (wrapF IntKind.i64 (K.sub (1 : Int)))).mul (2 : Nat)).add (0 : Nat))
  (List.flatMap En.f L) = some (AV.int IntKind.i64 x) ∧ ∃ (x_1 : Int), nth (((natOf (wrapF IntKind.i64 (K.sub (1 : Int)))).mul (2 : Nat)).add (1 : Nat))
  (List.flatMap En.f L) = some (AV.int IntKind.i64 x_1) ∧ True ∧ True ∧ True ∧ ∃ (a : Near), AV.agg [AV.int IntKind.i64 x, AV.int IntKind.i64 x_1] = AV.agg
  [AV.int IntKind.i64 a.fst, AV.int IntKind.i64 a.snd.fst] ∧ ∃ (l : List Near), Wk (AV.vs (List.flatMap En.f L) L.length L.length false none (2 : Nat)) (lst En
  l) ∧ true = true ∧ R0 (((), ()), (K, L, ()), ()) (a, true, ()) ((K, l, ()), ())))) := by kernel_rfl

def rworstPre : rworstZ → Prop := fun (((), ()), ((K, (L, ())), ())) => 0 ≤ K ∧ (L.length : Int) ≤ K ∧ L.length ≤ 1000000
def rworstR0 : rworstZ → (Near × Bool × Unit) → ((Int × (List Near) × Unit) × Unit) → Prop := fun (((), ()), ((K, (L, ())), ())) (x, b, _) ((K2, L2, _), _) => (x, b) = rworstV K L ∧ K2 = K ∧ L2 = L
noncomputable def rworstK : CallC := callC 1 rworstT rworstBl rworstPre (rworstRes rworstR0)

theorem rworstStep (z : rworstZ) (hp : rworstPre z) : callW Try.prog (runW Try.prog (KL [] []) 200) 24 (rworstT.cells id z.1) (stL false (rworstBl.obs id z.2)) (fun v st => resAny 1 z v st (rworstRes rworstR0)) := by
  obtain ⟨⟨_, _⟩, ⟨⟨K, L, _⟩, _⟩⟩ := z
  refine (rworstFn K L _).mpr ?_
  obtain ⟨k0, hle, hl⟩ := hp
  rw [ifp_eq]
  split
  · rename_i h0
    exact ⟨trivial, (0, 0, ()), rfl, L, Wk.refl _, by first | trivial | rfl, by rw [rworstV, if_pos (Or.inl h0)], rfl, rfl⟩
  · rename_i h0
    rw [ifp_lt]
    split
    · rename_i h
      exact ⟨trivial, trivial, trivial, trivial, (0, 0, ()), rfl, L, Wk.refl _, by first | trivial | rfl, by rw [rworstV, if_pos (Or.inr (show ((L.length : Nat) : Int) < K from h))], rfl, rfl⟩
    · rename_i h
      have h' : ¬ ((L.length : Nat) : Int) < K := h
      obtain ⟨p, hpl⟩ : ∃ p, L.length = p + 1 := ⟨L.length - 1, by omega⟩
      have hp : p < L.length := by omega
      have e : wrapF .i64 (Int.sub K 1) = (p : Int) := by rw [w64 (by show _ ≤ K - 1; omega) (by show K - 1 < _; omega)]; show K - 1 = _; omega
      simp only [e, natOf_nat]
      exact ⟨trivial, trivial, trivial, trivial, idx_ok hp, _, nth_near0 hp, _, nth_near1 hp, trivial, trivial, trivial, L[p], rfl, L, Wk.refl _, by first | trivial | rfl, by rw [rworstV, if_neg (by omega), last_get _ hpl], rfl, rfl⟩
theorem rworstCc : CcOk Try.prog 24 rworstK := call_ok mixed (KL_ok (cc_nil)) rfl rworstStep

structure TopOk (k : Int) (m L : List Near) : Prop where
  p : m.Perm L
  s : Srt L
  h : Go.Det.Hp.Heap lessV m
  l : (L.length : Int) ≤ k
theorem TopOk.len {k : Int} {m L : List Near} (h : TopOk k m L) : m.length = L.length := h.p.length_eq
theorem TopOk.last {k : Int} {m L : List Near} (h : TopOk k m L) (h0 : 0 < m.length) (n : Near) : L.getLastD n = m[0] := by
  obtain ⟨p, hp⟩ : ∃ p, L.length = p + 1 := ⟨L.length - 1, by have := h.len; omega⟩
  rw [last_get n hp]
  have hpl : p < L.length := by omega
  have h1 : m[0] ∈ L := h.p.mem_iff.1 (List.getElem_mem h0)
  have h2 : L[p] ∈ m := h.p.mem_iff.2 (List.getElem_mem hpl)
  obtain ⟨i, hi, e1⟩ := List.getElem_of_mem h1
  obtain ⟨j, hj, e2⟩ := List.getElem_of_mem h2
  refine ltLess.tot _ _ ?_ ?_
  · rw [← e1]; exact h.s.get hi hpl (by omega)
  · rw [← e2]; exact Go.Det.Hp.Heap.root ltLess h.h j hj
theorem TopOk.worst {k : Int} {m L : List Near} (h : TopOk k m L) : worstV k m = rworstV k L := by
  have hl := h.len
  have hk := h.l
  rw [worstV, rworstV]
  by_cases c : (m.length : Int) = k ∧ k ≠ 0
  · have h0 : 0 < m.length := by omega
    rw [if_pos c, if_neg (by omega), h.last h0, hd_get h0]
  · rw [if_neg c, if_pos (by omega)]
theorem TopOk.list {k : Int} {m L : List Near} (h : TopOk k m L) : nearSort m = L := srt_unique (nearSort_srt m) h.s ((nearSort_perm m).trans h.p)
theorem TopOk.add {k : Int} {m L m2 : List Near} {n : Near} {b : Bool} (h : TopOk k m L) (k0 : 0 ≤ k) (ha : addOk k m n b m2) : b = keepV k L n ∧ TopOk k m2 (raddL k L n) := by
  have hl := h.len
  have hk := h.l
  have hil := insV_len L n
  unfold addOk at ha
  split at ha
  · rename_i c
    obtain ⟨rfl, hp, hh⟩ := ha
    have hy : keepV k L n = true := keep_ne (by omega)
    have e : raddL k L n = insV L n := by rw [raddL, if_pos hy, List.take_of_length_le (by omega)]
    refine ⟨hy.symm, ?_⟩
    rw [e]
    exact ⟨hp.trans ((List.perm_append_comm.trans (h.p.cons n)).trans (ins_perm L n).symm), ins_sorted h.s n, hh, by omega⟩
  · rename_i c
    have hlk : (L.length : Int) = k := by omega
    by_cases hk0 : k = 0
    · rw [if_pos (Or.inl hk0)] at ha
      obtain ⟨rfl, rfl⟩ := ha
      have hn := keep_no (n := n) hlk (Or.inl hk0)
      exact ⟨hn.symm, by rw [raddL, if_neg (by rw [hn]; simp)]; exact h⟩
    · have h0 : 0 < m.length := by omega
      have hlast := h.last h0 n
      rw [hd_get h0, ← hlast] at ha
      split at ha
      · rename_i c2
        obtain ⟨rfl, rfl⟩ := ha
        have hn := keep_no (n := n) hlk (Or.inr (c2.resolve_left hk0))
        exact ⟨hn.symm, by rw [raddL, if_neg (by rw [hn]; simp)]; exact h⟩
      · rename_i c2
        obtain ⟨rfl, hp, hh⟩ := ha
        have hlt : lessV n (L.getLastD n) = true := by
          cases q : lessV n (L.getLastD n) with
          | true => rfl
          | false => exact absurd (Or.inr q) c2
        have hy := keep_yes (K := k) (L := L) (n := n) hk0 hlt
        have e : raddL k L n = (insV L n).take L.length := by rw [raddL, if_pos hy]; congr 1; omega
        refine ⟨hy.symm, ?_⟩
        rw [e]
        obtain ⟨p, hpl⟩ : ∃ p, L.length = p + 1 := ⟨L.length - 1, by omega⟩
        have hpos : posV L n L.length ≤ p := by
          have := (posV_spec L n L.length (Nat.le_refl _)).2
          have hle := posV_le L n L.length
          rcases Nat.lt_or_ge p (posV L n L.length) with q | q
          · exfalso
            have q2 : posV L n L.length = p + 1 := by omega
            rcases this with t | ⟨t1, t2⟩
            · omega
            · simp only [q2] at t2
              rw [last_get n hpl] at hlt
              simp only [Nat.add_sub_cancel] at t2
              rw [t2] at hlt; cases hlt
          · exact q
        have hsplit : insV L n = (insV L n).take L.length ++ [L[p]'(by omega)] := by
          conv => lhs; rw [← List.take_append_drop L.length (insV L n)]
          congr 1
          rw [insV, List.drop_append]
          generalize posV L n L.length = q at *
          rw [List.drop_of_length_le (by rw [List.length_take]; omega), List.length_take, Nat.min_eq_left (by omega), List.nil_append,
            show L.length - q = (L.length - q - 1) + 1 by omega, List.drop_succ_cons, List.drop_drop, show q + (L.length - q - 1) = p by omega, drop_get (show p < L.length by omega), List.drop_of_length_le (by omega)]
        have hm : m = m[0] :: m.drop 1 := by cases m with | nil => simp at h0 | cons a m => rfl
        have hset : m.set 0 n = n :: m.drop 1 := by cases m with | nil => simp at h0 | cons a m => rfl
        have hperm : ((insV L n).take L.length).Perm (n :: m.drop 1) := by
          have h1 : ((insV L n).take L.length ++ [L[p]'(by omega)]).Perm ((n :: m.drop 1) ++ [L[p]'(by omega)]) := by
            rw [← hsplit]
            refine (ins_perm L n).trans ?_
            refine ((h.p.symm.cons n)).trans ?_
            rw [hm]
            rw [last_get n hpl] at hlast
            rw [show (m[0] :: m.drop 1).drop 1 = m.drop 1 from rfl, hlast]
            exact ((List.perm_append_comm (l₁ := m.drop 1) (l₂ := [m[0]])).symm.cons n)
          exact (List.perm_append_right_iff _).1 h1
        exact ⟨hp.trans (by rw [hset]; exact hperm.symm), (ins_sorted h.s n).sublist (List.take_sublist _ _), hh, by rw [List.length_take]; omega⟩
theorem TopOk.one {k : Int} {n : Near} (h : 0 < k) : TopOk k [n] (raddL k [] n) ∧ keepV k [] n = true := by
  have hy : keepV k [] n = true := keep_ne (by simp; omega)
  have e : raddL k [] n = [n] := by rw [raddL, if_pos hy]; show List.take k.toNat [n] = [n]; exact List.take_of_length_le (by simp; omega)
  rw [e]
  refine ⟨⟨List.Perm.refl _, List.pairwise_singleton _ _, fun j hj h0 => by simp at hj; omega, by simp; omega⟩, hy⟩

end Go.Proofs.Ytfcdpdejoogapaa
