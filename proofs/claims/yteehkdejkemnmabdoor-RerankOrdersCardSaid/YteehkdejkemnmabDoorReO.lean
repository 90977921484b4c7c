/- Forms and contracts, printed by gx.py. -/
import Derived.Test.YteehkdejkemnmabDoorRows
import Derived.Test.YteehkdejkemnmabDoorDvUse
import Derived.Test.YteehkdejkemnmabDoorDvArg
import Derived.ProofKit
import Derived.Test.YteehkdejkemnmabDoorBase
import Derived.Test.YteehkdejkemnmabDoorDvStab2
import Derived.Test.YteehkdejkemnmabDoorDvUse2
import Derived.Test.YteehkdejkemnmabDoorDvSort
import Derived.Test.YteehkdejkemnmabDoorOrdR
import Derived.Test.YteehkdejkemnmabDoorStR
import Derived.Test.YteehkdejkemnmabDoorStS
import Derived.Test.YteehkdejkemnmabDoorDvClone
import Derived.Test.YteehkdejkemnmabDoorClone
namespace Go.Proofs.YteehkdejkemnmabDoor
open Go.Det Go.RowKit
set_option linter.unusedVariables false
set_option linter.unusedSimpArgs false
set_option maxRecDepth 100000
def mayC (c : Cd) : Bool := decide (0 ≤ c.2.1) && decide (c.2.1 ≤ 70368744177664) && (decide (0 ≤ c.2.2.1) && decide (c.2.2.1 ≤ 281474976710656))
theorem mayC_iff {c : Cd} : mayC c = true ↔ (0 ≤ c.2.1 ∧ c.2.1 ≤ 70368744177664) ∧ (0 ≤ c.2.2.1 ∧ c.2.2.1 ≤ 281474976710656) := by simp [mayC]
theorem may_low {c : Cd} (h : mayC c = true) : lowV c = c.2.1 - c.2.2.1 := by
  obtain ⟨h1, h2⟩ := mayC_iff.1 h
  exact wsub (by omega) (by omega)

/-! wayfinder/rerank.may$1 -/
noncomputable def mayfT : Tel (Cd × Unit) := .cons 0 (.agg Ec) (.nil)

theorem mayfFn (c : Cd) (Q : AV → Prop) : (callW Tryd.prog (runW Tryd.prog (KL [] []) 200) 33 (mayfT.cells id (c, ())) (stE false) (fun x st => frzW st x Q)) =
  ( ifp (leInt (0 : Int) (ifb (leInt c.snd.fst c.snd.snd.fst) c.snd.fst c.snd.snd.fst)) (ifp (leInt c.snd.fst (70368744177664 : Int)) (ifp (leInt c.snd.snd.fst
  (281474976710656 : Int)) (ifp (leInt (wrapF IntKind.i64 (c.snd.fst.sub c.snd.snd.fst)) (4611686018427387904 : Int)) (Q (AV.bool false)) (Q (AV.bool true))) (Q
  (AV.bool true))) (Q (AV.bool true))) (Q (AV.bool true))) := by kernel_rfl

def mayfPre : Cd × Unit → Prop := fun (c, ()) => True
noncomputable def mayfRes : Cd × Unit → AV := fun (c, ()) => .bool (!mayC c)
noncomputable def mayfK : CallC := valC mayfT mayfPre mayfRes

theorem mayfVal (c : Cd) (hp : mayfPre (c, ())) : Val Tryd.prog 33 (mayfT.cells id (c, ())) (mayfRes (c, ())) := by
  refine Val.ofF mixed (KL_ok (cc_nil)) (freesC rfl _) (mayfFn c) ?_
  have hmn : ifb (leInt c.2.1 c.2.2.1) c.2.1 c.2.2.1 = min c.2.1 c.2.2.1 := by
    rw [ifb_eq, leInt_eq]
    by_cases h : c.2.1 ≤ c.2.2.1
    · rw [if_pos (by simpa using h)]; omega
    · rw [if_neg (by simpa using h)]; omega
  rw [hmn, ifp_le, ifp_le, ifp_le, ifp_le]
  have no : ¬ ((0 ≤ c.2.1 ∧ c.2.1 ≤ 70368744177664) ∧ (0 ≤ c.2.2.1 ∧ c.2.2.1 ≤ 281474976710656)) → true = !mayC c := fun h => by
    have n : mayC c = false := by rw [← Bool.not_eq_true, mayC_iff]; exact h
    rw [n]; rfl
  split
  · rename_i h1
    split
    · rename_i h2
      split
      · rename_i h3
        have y : mayC c = true := mayC_iff.2 ⟨⟨by omega, h2⟩, by omega, h3⟩
        rw [show wrapF .i64 (Int.sub c.2.1 c.2.2.1) = c.2.1 - c.2.2.1 from may_low y, if_pos (by omega)]
        exact tells_bool (by rw [y]; rfl)
      · exact tells_bool (no (by omega))
    · exact tells_bool (no (by omega))
  · exact tells_bool (no (by omega))
theorem mayfCc : CcOk Tryd.prog 33 mayfK := val_ok rfl (fun ⟨c, _⟩ h => mayfVal c h)

/-! The loop mayI of slices.IndexFunc[[]wayfinder/api.Cand,wayfinder/api.Cand]. -/
abbrev mayIZ := ((List Cd) × Unit × Int × Int × Unit) × (Unit)
noncomputable def mayISl : Tel ((List Cd) × Unit × Int × Int × Unit) := .cons 0 (.lst Ec) (.cons 1 (.fnp 33 []) (.cons 7 (.int .i64) (.cons 8 (.int .i64) (.nil))))
noncomputable def mayIBl : BTel (Unit) := .nil
noncomputable def mayIFs : List (LForm mayIZ) := [⟨_, _, mayISl, mayIBl, fun x y => (x, y)⟩]
noncomputable def mayIAlts (R0 : mayIZ → (Unit) → (Unit) → Prop) (R1 : mayIZ → (Int × Unit) → (Unit) → Prop) : List (Alt mayIZ) := [⟨.exit 0, Unit, Unit, .nil, .nil, R0⟩, ⟨.ret, Int × Unit, Unit, .cons 4 (.int .i64) (.nil), .nil, R1⟩]

theorem mayIForm (l : List Cd) (n : Int) (i : Int) (N : mayIZ → Prop) (R0 : mayIZ → (Unit) → (Unit) → Prop) (R1 : mayIZ → (Int × Unit) → (Unit) → Prop) : ((runW Tryd.prog (KL [(33, mayfK)] []) 100).code none 48 19 (loopBody Tryd.prog 48 2) (mkT (mayISl.av id (l, ((), (n, (i, ())))))) [] (stL false (mayIBl.obs id ())) (postL 0 mayIFs (mayIAlts R0 R1) ((l, ((), (n, (i, ())))), ()) N)) =
  ( ifp (!leInt n i) (idxOk i l.length ∧ ∃ (x : Int), nth (((natOf i).mul (4 : Nat)).add (0 : Nat)) (List.flatMap Ec.f l) = some (AV.int IntKind.i64 x) ∧ ∃ (x_1 :
  Int), nth (((natOf i).mul (4 : Nat)).add (1 : Nat)) (List.flatMap Ec.f l) = some (AV.int IntKind.i64 x_1) ∧ ∃ (x_2 : Int), nth (((natOf i).mul (4 : Nat)).add
  (2 : Nat)) (List.flatMap Ec.f l) = some (AV.int IntKind.i64 x_2) ∧ ∃ (x_3 : Int), nth (((natOf i).mul (4 : Nat)).add (3 : Nat)) (List.flatMap Ec.f l) = some
  (AV.int IntKind.i64 x_3) ∧ ∃ (a : Cd), AV.agg [AV.int IntKind.i64 x, AV.int IntKind.i64 x_1, AV.int IntKind.i64 x_2, AV.int IntKind.i64 x_3] = AV.agg [AV.int
  IntKind.i64 a.fst, AV.int IntKind.i64 a.snd.fst, AV.int IntKind.i64 a.snd.snd.fst, AV.int IntKind.i64 a.snd.snd.snd.fst] ∧ mayfPre (a, ()) ∧ ifp (!mayC a)
  (True ∧ true = true ∧ R1 ((l, (), n, i, ()), ()) (i, ()) ()) (True ∧ ∃ (l_1 : List Cd), Wk (AV.vs (List.flatMap Ec.f l) l.length l.length false none (4 : Nat))
  (lst Ec l_1) ∧ true = true ∧ N ((l_1, (), n, wrapF IntKind.i64 (i.add (1 : Int)), ()), ()))) (True ∧ true = true ∧ R0 ((l, (), n, i, ()), ()) () ())) := by kernel_rfl

def mayIInv : mayIZ → Prop := fun ((l, ((), (n, (i, ())))), ()) => ∃ k : Nat, i = k ∧ n = l.length ∧ k ≤ l.length ∧ l.length < 9223372036854775807 ∧ (l.take k).all mayC = true
def mayIMu : mayIZ → Nat := fun ((l, ((), (n, (i, ())))), ()) => l.length - i.toNat
def mayIR0 : mayIZ → (Unit) → (Unit) → Prop := fun ((l, ((), (n, (i, ())))), ()) _ _ => l.all mayC = true
def mayIR1 : mayIZ → (Int × Unit) → (Unit) → Prop := fun ((l, ((), (n, (i, ())))), ()) (q, _) _ => 0 ≤ q ∧ l.all mayC = false
noncomputable def mayIC : LoopC := loopC 0 mayIFs (mayIAlts mayIR0 mayIR1) mayIInv

theorem mayIStep : stepsOk Tryd.prog (KL [(33, mayfK)] []) 100 48 19 (loopBody Tryd.prog 48 2) 0 false mayIFs (mayIAlts mayIR0 mayIR1) mayIInv mayIMu ⟨_, _, mayISl, mayIBl, fun x y => (x, y)⟩ := by
  intro x y hz
  obtain ⟨l, _, n, i, _⟩ := x
  obtain _ := y
  refine (mayIForm l n i _ _ _).mpr ?_
  obtain ⟨k, rfl, rfl, hk, hl, ht⟩ := hz
  rw [ifp_lt]
  simp only [natOf_nat]
  split
  · rename_i h
    have hkl : k < l.length := by simpa using h
    refine ⟨idx_ok hkl, _, nth_cd0 hkl, _, nth_cd1 hkl, _, nth_cd2 hkl, _, nth_cd3 hkl, l[k], rfl, trivial, ?_⟩
    cases hm : mayC l[k] with
    | true =>
      rw [ifp_neg (show (!true) = false from rfl)]
      refine ⟨trivial, l, Wk.refl _, (by first | exact trivial | exact rfl), ?_⟩
      rw [wsucc (by omega)]
      exact ⟨⟨k + 1, rfl, rfl, hkl, hl, by rw [all_take_succ hkl, ht, hm]; rfl⟩, by show l.length - (k + 1) < l.length - k; omega, fun _ _ h => h, fun _ _ h => h, trivial⟩
    | false =>
      rw [ifp_pos (show (!false) = true from rfl)]
      exact ⟨trivial, (by first | exact trivial | exact rfl), by omega, all_of_get hkl hm⟩
  · rename_i h
    have hkl : ¬ k < l.length := by simpa using h
    exact ⟨trivial, (by first | exact trivial | exact rfl), by rw [take_all hkl] at ht; exact ht⟩
theorem mayIOk : LoopOk Tryd.prog 48 19 (.loop (loopBody Tryd.prog 48 2)) (mayIC) := loop_ok mayIMu  mixed (KL_ok (cc_cons mayfCc (cc_nil))) rfl (steps_cons mayIStep (steps_nil))

/-! wayfinder/rerank.may -/
noncomputable def mayT : Tel ((List Cd) × Unit) := .cons 0 (.lst Ec) (.nil)

theorem mayFn (l : List Cd) (Q : AV → Prop) : (callW Tryd.prog (runW Tryd.prog (KL [] [(48, [(2, mayIC)])]) 200) 15 (mayT.cells id (l, ())) (stE false) (fun x st => frzW st x Q)) =
  ( LoopOk Tryd.prog (48 : Nat) (19 : Nat) (loopBody Tryd.prog (48 : Nat) (2 : Nat)).loop mayIC ∧ True ∧ True ∧ ∃ (l_1 : List Cd), Wk (AV.vs (List.flatMap Ec.f l)
  l.length l.length false none (4 : Nat)) (lst Ec l_1) ∧ true = true ∧ mayIInv ((l_1, (), Int.ofNat l.length, (0 : Int), ()), ()) ∧ (∀ (c d : Unit), mayIR0
  ((l_1, (), Int.ofNat l.length, (0 : Int), ()), ()) c d → Q (AV.bool true)) ∧ (∀ (c : Int × Unit) (d : Unit), mayIR1 ((l_1, (), Int.ofNat l.length, (0 : Int),
  ()), ()) c d → ifp (leInt (0 : Int) c.1) (Q (AV.bool false)) (Q (AV.bool true))) ∧ True) := by kernel_rfl

def mayPre : (List Cd) × Unit → Prop := fun (l, ()) => l.length < 9223372036854775807
noncomputable def mayRes : (List Cd) × Unit → AV := fun (l, ()) => .bool (l.all mayC)
noncomputable def mayK : CallC := valC mayT mayPre mayRes

theorem mayVal (l : List Cd) (hp : mayPre (l, ())) : Val Tryd.prog 15 (mayT.cells id (l, ())) (mayRes (l, ())) := by
  refine Val.ofF mixed (KL_ok (cc_nil)) (freesC rfl _) (mayFn l) ?_
  refine ⟨mayIOk, trivial, trivial, l, Wk.refl _, (by first | exact trivial | exact rfl), ⟨0, rfl, rfl, Nat.zero_le _, hp, rfl⟩, fun _ _ hr => ?_, fun c _ hr => ?_, trivial⟩
  · exact tells_bool (Eq.symm hr)
  · obtain ⟨q, _⟩ := c
    obtain ⟨h0, hf⟩ := hr
    rw [ifp_le, if_pos h0]
    exact tells_bool hf.symm
theorem mayCc : CcOk Tryd.prog 15 mayK := val_ok rfl (fun ⟨l, _⟩ h => mayVal l h)

noncomputable def sortR (l : List Cd) : List Cd := Go.Det.Stab.sort ltC l
noncomputable def ordC (l : List Cd) : List Cd := if l.all mayC = true then sortR l else []

/-! wayfinder/rerank.Order -/
noncomputable def ord1T : Tel ((List Cd) × Unit) := .cons 0 (.lst Ec) (.nil)

theorem ord1Fn (l : List Cd) (Q : AV → Prop) : (callW Tryd.prog (runW Tryd.prog (KLS [(15, mayK), (17, sstabK)] [] 25) 200) 5 (ord1T.cells id (l, ())) (stE false) (fun x st => frzW st x Q)) =
  ( ∃ (l_1 : List Cd), Wk (AV.vs (List.flatMap Ec.f l) l.length l.length false none (4 : Nat)) (lst Ec l_1) ∧ mayPre (l_1, ()) ∧ ifp (l_1.all mayC) (l.length ≠ (0 :
  Nat) ∧ (List.flatMap Ec.f l).length = l.length.mul (4 : Nat) ∧ ifp (allScalar (List.flatMap Ec.f l) && true) ((0 : Nat) < Nat.add (0 : Nat) l.length ∧ (0 :
  Nat) = (0 : Nat) ∧ (0 : Nat) = (0 : Nat) ∧ roomy (Nat.add (0 : Nat) l.length) (32 : Nat) = true ∧ ∃ (l_2 : List Cd), [] ++ List.flatMap Ec.f l = List.flatMap
  Ec.f l_2 ∧ true = true ∧ sstabPre (((Nat.add (0 : Nat) l.length, Nat.add (0 : Nat) l.length), (), ()), l_2, ()) ∧ (∀ (c : Unit) (d : List Cd × Unit), sstabR0
  (((Nat.add (0 : Nat) l.length, Nat.add (0 : Nat) l.length), (), ()), l_2, ()) c d → (0 : Int) ≤ Int.ofNat (Nat.add (0 : Nat) l.length) ∧ Int.ofNat (Nat.add (0
  : Nat) l.length) ≤ ↑(Nat.add (0 : Nat) l.length) ∧ (0 : Int) ≤ Int.ofNat (Nat.add (0 : Nat) l.length) ∧ Int.ofNat (Nat.add (0 : Nat) l.length) ≤ ↑(natOf
  (Int.ofNat (Nat.add (0 : Nat) l.length))) ∧ Nat.add (0 : Nat) (((natOf (Int.ofNat (Nat.add (0 : Nat) l.length))).sub (0 : Nat)).mul (4 : Nat)) ≤ (List.flatMap
  Ec.f d.1).length ∧ Q (AV.vs (List.take (((natOf (Int.ofNat (Nat.add (0 : Nat) l.length))).sub (0 : Nat)).mul (4 : Nat)) (List.drop (0 : Nat) (List.flatMap Ec.f
  d.1))) ((natOf (Int.ofNat (Nat.add (0 : Nat) l.length))).sub (0 : Nat)) ((natOf (Int.ofNat (Nat.add (0 : Nat) l.length))).sub (0 : Nat)) (mxEx (some (AV.int
  IntKind.i64 (Int.ofNat (Nat.add (0 : Nat) l.length)))) false) none (4 : Nat))) ∧ True) False) (Q AV.nilSlice)) := by kernel_rfl

def ord1Pre : (List Cd) × Unit → Prop := fun (l, ()) => 0 < l.length ∧ l.length ≤ 1000000
noncomputable def ord1Res : (List Cd) × Unit → AV := fun (l, ()) => lst Ec (ordC l)
noncomputable def ord1K : CallC := valC ord1T ord1Pre ord1Res

theorem ord1Val (l : List Cd) (hp : ord1Pre (l, ())) : Val Tryd.prog 5 (ord1T.cells id (l, ())) (ord1Res (l, ())) := by
  refine Val.ofF mixed (KLS_ok (cc_cons mayCc (cc_cons sstabCc (cc_nil)))) (freesC rfl _) (ord1Fn l) ?_
  obtain ⟨h0, hl⟩ := hp
  have e0 : Nat.add 0 l.length = l.length := Nat.zero_add _
  have hs : (sortR l).length = l.length := Go.Det.Stab.sort_len l
  refine ⟨l, Wk.refl _, by show l.length < _; omega, ?_⟩
  cases hm : l.all mayC with
  | false =>
    rw [ifp_neg rfl]
    show Tells .nilSlice (lst Ec (ordC l))
    rw [ordC, if_neg (by rw [hm]; simp)]; exact tells_nil _
  | true =>
    rw [ifp_pos rfl]
    refine ⟨by omega, cd_len l, ?_⟩
    rw [ifp_pos (by rw [Enc.fscal Ec]; rfl)]
    simp only [e0]
    refine ⟨h0, (by first | exact trivial | exact rfl), (by first | exact trivial | exact rfl), roomy_small (by omega) (by decide), l, rfl, (by first | exact trivial | exact rfl), ⟨rfl, hl⟩, fun _ d hr => ?_, trivial⟩
    obtain ⟨s, _⟩ := d
    obtain rfl : s = sortR l := hr
    have ho : ordC l = sortR l := by rw [ordC, if_pos hm]
    refine ⟨Int.natCast_nonneg _, Int.le_refl _, Int.natCast_nonneg _, Int.le_refl _, by show 0 + l.length * 4 ≤ ((sortR l).flatMap Ec.f).length; rw [cd_len]; omega, tells_lst ⟨?_, by show l.length = _; rw [ho]; exact hs.symm, rfl⟩⟩
    rw [ho]
    show List.take (l.length * 4) (List.drop 0 ((sortR l).flatMap Ec.f)) = _
    rw [List.drop_zero, List.take_of_length_le (by rw [cd_len]; omega)]
theorem ord1Cc : CcOk Tryd.prog 5 ord1K := val_ok rfl (fun ⟨l, _⟩ h => ord1Val l h)

theorem cln0Val : Val Tryd.prog 16 [.vs [] 0 0 false none 4] (.vs [] 0 0 false none 4) := clone_empty (P := Tryd.prog) (ρ := Tryd.clone16_ren) Tryd.clone16 _ _ 4 32 rfl rfl rfl rfl rfl (by decide) Tryd.sizeOf25 (fun _ _ => rfl) 4
noncomputable def cln0T : Tel (Unit × Unit) := .cons 0 (.con (.vs [] 0 0 false none 4) rfl) .nil
noncomputable def cln0K : CallC := valC cln0T (fun _ => True) (fun _ => .vs [] 0 0 false none 4)
theorem cln0Cc : CcOk Tryd.prog 16 cln0K := val_ok rfl (fun _ _ => cln0Val)

/-! wayfinder/rerank.Order -/
noncomputable def ord0T : Tel (Unit × Unit) := .cons 0 (.con (.vs [] 0 0 false none 4) rfl) (.nil)

theorem ord0Fn  (Q : AV → Prop) : (callW Tryd.prog (runW Tryd.prog (KLS [(15, mayK), (16, cln0K)] [] 25) 200) 5 (ord0T.cells id ((), ())) (stE false) (fun x st => frzW st x Q)) =
  ( ∃ (l : List Cd), Wk (AV.vs [] (0 : Nat) (0 : Nat) false none (4 : Nat)) (lst Ec l) ∧ mayPre (l, ()) ∧ ifp (l.all mayC) (AV.vs [] (0 : Nat) (0 : Nat) false none
  (4 : Nat) = AV.vs [] (0 : Nat) (0 : Nat) false none (4 : Nat) ∧ True ∧ (0 : Int) ≤ Int.ofNat (0 : Nat) ∧ Int.ofNat (0 : Nat) ≤ ↑(0 : Nat) ∧ (0 : Int) ≤
  Int.ofNat (0 : Nat) ∧ Int.ofNat (0 : Nat) ≤ ↑(natOf (Int.ofNat (0 : Nat))) ∧ (0 : Nat) ≤ (0 : Nat) ∧ (0 : Nat) = (0 : Nat) ∧ Q (AV.vs [] (0 : Nat) (0 : Nat)
  (mxEx (some (AV.int IntKind.i64 (Int.ofNat (0 : Nat)))) false) none (4 : Nat))) (Q AV.nilSlice)) := by kernel_rfl

def ord0Pre : Unit × Unit → Prop := fun ((), ()) => True
noncomputable def ord0Res : Unit × Unit → AV := fun ((), ()) => lst Ec []
noncomputable def ord0K : CallC := valC ord0T ord0Pre ord0Res

theorem ord0Val  (hp : ord0Pre ((), ())) : Val Tryd.prog 5 (ord0T.cells id ((), ())) (ord0Res ((), ())) := by
  refine Val.ofF mixed (KLS_ok (cc_cons mayCc (cc_cons cln0Cc (cc_nil)))) (freesC rfl _) (ord0Fn ) ?_
  refine ⟨[], Wk.refl _, by show (0 : Nat) < _; decide, ?_⟩
  rw [ifp_pos (show ([] : List Cd).all mayC = true from rfl)]
  exact ⟨rfl, trivial, by decide, by decide, by decide, by decide, Nat.le_refl _, rfl, tells_lst (E := Ec) (l := []) ⟨rfl, rfl, rfl⟩⟩
theorem ord0Cc : CcOk Tryd.prog 5 ord0K := val_ok rfl (fun ⟨_, _⟩ h => ord0Val  h)

theorem ordVal (l : List Cd) (h : l.length ≤ 1000000) : Val Tryd.prog 5 (ord1T.cells id (l, ())) (ord1Res (l, ())) := by
  cases l with
  | nil => exact ord0Val trivial
  | cons a l => exact ord1Val _ ⟨by simp, h⟩
def ordPre : (List Cd) × Unit → Prop := fun (l, ()) => l.length ≤ 1000000
noncomputable def ordK : CallC := valC ord1T ordPre ord1Res
theorem ordCc : CcOk Tryd.prog 5 ordK := val_ok rfl (fun ⟨l, _⟩ h => ordVal l h)

end Go.Proofs.YteehkdejkemnmabDoor
