/- Forms and contracts, printed by gx.py. -/
import Derived.Test.YtfcdpdejoogapaaRows
import Derived.Test.YtfcdpdejoogapaaDvUse
import Derived.Test.YtfcdpdejoogapaaDvArg
import Derived.ProofKit
import Derived.Test.YtfcdpdejoogapaaBase
namespace Go.Proofs.Ytfcdpdejoogapaa
open Go.Det Go.RowKit
set_option linter.unusedVariables false
set_option linter.unusedSimpArgs false
set_option maxRecDepth 100000
abbrev Ei32 : Enc Int := Enc.int .i32
abbrev Ell : Enc (List Int) := Enc.list Ei32

def beyondB (x : Int) : Bool := decide (x < -131072) || decide (131072 < x)
def cw (v : List Int) : Int := if v.length < 1 ∨ 1024 < v.length then 2 else if v.any beyondB then 11 else 0
def pairV (a b : List Int) : Int := if cw a ≠ 0 then cw a else if cw b ≠ 0 then cw b else if a.length ≠ b.length then 2 else 0
def sqs : List Int → List Int → Int
  | x :: a, y :: b => (x - y) * (x - y) + sqs a b
  | _, _ => 0
def distD (a b : List Int) : Int := if pairV a b = 0 then sqs a b else 0
def checkV (c : List (List Int)) : Int :=
  if c.length < 1 ∨ 4096 < c.length then 2 else
  match c.find? (fun v => cw v ≠ 0) with
  | some v => cw v
  | none => if c.any (fun v => v.length ≠ (c.headD []).length) then 2 else 0
def bothV (c : List (List Int)) (v : List Int) : Int :=
  if checkV c ≠ 0 then checkV c else if cw v ≠ 0 then cw v else if v.length ≠ (c.headD []).length then 2 else 0
def lightV (l : List (List Int)) (m n : Int) : Bool := decide ((l.length : Int) ≤ m) && l.all fun v => decide ((v.length : Int) ≤ n)

/-! The loop light of wayfinder/wayfinderkit.Light[int32]. -/
abbrev lightZ := ((List (List Int)) × Int × Int × Unit) × (Unit)
noncomputable def lightSl : Tel ((List (List Int)) × Int × Int × Unit) := .cons 0 (.lst Ell) (.cons 2 (.int .i64) (.cons 7 (.int .i64) (.nil)))
noncomputable def lightBl : BTel (Unit) := .nil
noncomputable def lightFs : List (LForm lightZ) := [⟨_, _, lightSl, lightBl, fun x y => (x, y)⟩]
noncomputable def lightAlts (R0 : lightZ → (Unit) → (Unit) → Prop) (R1 : lightZ → (Bool × Unit) → (Unit) → Prop) : List (Alt lightZ) := [⟨.exit 0, Unit, Unit, .nil, .nil, R0⟩, ⟨.ret, Bool × Unit, Unit, .cons 6 (.bool) (.nil), .nil, R1⟩]

theorem lightForm (l : List (List Int)) (n : Int) (i : Int) (N : lightZ → Prop) (R0 : lightZ → (Unit) → (Unit) → Prop) (R1 : lightZ → (Bool × Unit) → (Unit) → Prop) : ((runW Try.prog (KL [] []) 100).code none 28 25 (loopBody Try.prog 28 4) (mkT (lightSl.av id (l, (n, (i, ()))))) [] (stL false (lightBl.obs id ())) (postL 0 lightFs (lightAlts R0 R1) ((l, (n, (i, ()))), ()) N)) =
  ( ifp (!leInt (Int.ofNat l.length) i) (idxOk i l.length ∧ ∃ (l' : List AV), ∃ (n_1 : Nat), ∃ (c : Nat), ∃ (x : Bool), ∃ (w : Option Nat), ∃ (e : Nat), nth ((natOf
  i).mul (1 : Nat)) (List.flatMap Ell.f l) = some (AV.vs l' n_1 c x w e) ∧ ifp (!leInt (Int.ofNat n_1) n) (True ∧ true = true ∧ R1 ((l, n, i, ()), ()) (false,
  ()) ()) (True ∧ ∃ (l_1 : List (List Int)), Wk (AV.vs (List.flatMap Ell.f l) l.length l.length false none (1 : Nat)) (lst Ell l_1) ∧ true = true ∧ N ((l_1, n,
  wrapF IntKind.i64 (i.add (1 : Int)), ()), ()))) (True ∧ true = true ∧ R0 ((l, n, i, ()), ()) () ())) := by kernel_rfl

def lightInv : lightZ → Prop := fun ((l, (n, (i, ()))), ()) => ∃ k : Nat, i = k ∧ k ≤ l.length ∧ l.length < 9223372036854775807 ∧ (l.take k).all (fun v => decide ((v.length : Int) ≤ n)) = true
def lightMu : lightZ → Nat := fun ((l, (n, (i, ()))), ()) => l.length - i.toNat
def lightR0 : lightZ → (Unit) → (Unit) → Prop := fun ((l, (n, (i, ()))), ()) _ _ => l.all (fun v => decide ((v.length : Int) ≤ n)) = true
def lightR1 : lightZ → (Bool × Unit) → (Unit) → Prop := fun ((l, (n, (i, ()))), ()) ⟨r, _⟩ _ => r = false ∧ l.all (fun v => decide ((v.length : Int) ≤ n)) = false
noncomputable def lightC : LoopC := loopC 0 lightFs (lightAlts lightR0 lightR1) lightInv

theorem lightStep : stepsOk Try.prog (KL [] []) 100 28 25 (loopBody Try.prog 28 4) 0 false lightFs (lightAlts lightR0 lightR1) lightInv lightMu ⟨_, _, lightSl, lightBl, fun x y => (x, y)⟩ := by
  intro x y hz
  obtain ⟨l, n, i, _⟩ := x
  obtain _ := y
  refine (lightForm l n i _ _ _).mpr ?_
  obtain ⟨k, rfl, hk, hl, ht⟩ := hz
  rw [ifp_lt]
  simp only [natOf_nat]
  split
  · rename_i h
    have hkl : k < l.length := by simpa using h
    repeat (first
      | (refine ⟨Nat.le_refl _, ?_⟩)
      | (rw [ifp_pos (roomy_small (by simp only [Nat.add_eq]; omega) (by decide))])
      | (refine ⟨trivial, ?_⟩)
      | (refine ⟨(rfl : true = true), ?_⟩)
      | (refine ⟨idx_ok (by omega), ?_⟩)
      | (refine ⟨idx_ok0 (by omega), ?_⟩)
      | (refine ⟨_, nth_int (by omega), ?_⟩)
      | (refine ⟨_, _, _, _, _, _, nth_lst (by omega), ?_⟩)
      | (refine ⟨_, _, _, _, _, _, nth_lst0 (by omega), ?_⟩)
      | (refine ⟨_, Wk.refl _, ?_⟩)
      | (rw [ifp_pos rfl])
      | (refine ⟨(rfl : (_ : List Nat) = _), ?_⟩)
      | (refine ⟨(rfl : (_ : Code) = _), ?_⟩))
    rw [ifp_lt]
    split
    · rename_i h2
      repeat (first
        | (refine ⟨Nat.le_refl _, ?_⟩)
        | (rw [ifp_pos (roomy_small (by simp only [Nat.add_eq]; omega) (by decide))])
        | (refine ⟨trivial, ?_⟩)
        | (refine ⟨(rfl : true = true), ?_⟩)
        | (refine ⟨idx_ok (by omega), ?_⟩)
        | (refine ⟨idx_ok0 (by omega), ?_⟩)
        | (refine ⟨_, nth_int (by omega), ?_⟩)
        | (refine ⟨_, _, _, _, _, _, nth_lst (by omega), ?_⟩)
        | (refine ⟨_, _, _, _, _, _, nth_lst0 (by omega), ?_⟩)
        | (refine ⟨_, Wk.refl _, ?_⟩)
        | (rw [ifp_pos rfl])
        | (refine ⟨(rfl : (_ : List Nat) = _), ?_⟩)
        | (refine ⟨(rfl : (_ : Code) = _), ?_⟩))
      exact ⟨rfl, all_of_get hkl (decide_eq_false (by simp at h2; omega))⟩
    · rename_i h2
      repeat (first
        | (refine ⟨Nat.le_refl _, ?_⟩)
        | (rw [ifp_pos (roomy_small (by simp only [Nat.add_eq]; omega) (by decide))])
        | (refine ⟨trivial, ?_⟩)
        | (refine ⟨(rfl : true = true), ?_⟩)
        | (refine ⟨idx_ok (by omega), ?_⟩)
        | (refine ⟨idx_ok0 (by omega), ?_⟩)
        | (refine ⟨_, nth_int (by omega), ?_⟩)
        | (refine ⟨_, _, _, _, _, _, nth_lst (by omega), ?_⟩)
        | (refine ⟨_, _, _, _, _, _, nth_lst0 (by omega), ?_⟩)
        | (refine ⟨_, Wk.refl _, ?_⟩)
        | (rw [ifp_pos rfl])
        | (refine ⟨(rfl : (_ : List Nat) = _), ?_⟩)
        | (refine ⟨(rfl : (_ : Code) = _), ?_⟩))
      rw [wsucc (by omega)]
      refine ⟨⟨k + 1, rfl, hkl, hl, ?_⟩, ?_, fun _ _ h => h, fun _ _ h => h, trivial⟩
      · rw [all_take_succ hkl, ht]; simp at h2 ⊢; omega
      · show l.length - (k + 1) < l.length - k; omega
  · rename_i h
    repeat (first
      | (refine ⟨Nat.le_refl _, ?_⟩)
      | (rw [ifp_pos (roomy_small (by simp only [Nat.add_eq]; omega) (by decide))])
      | (refine ⟨trivial, ?_⟩)
      | (refine ⟨(rfl : true = true), ?_⟩)
      | (refine ⟨idx_ok (by omega), ?_⟩)
      | (refine ⟨idx_ok0 (by omega), ?_⟩)
      | (refine ⟨_, nth_int (by omega), ?_⟩)
      | (refine ⟨_, _, _, _, _, _, nth_lst (by omega), ?_⟩)
      | (refine ⟨_, _, _, _, _, _, nth_lst0 (by omega), ?_⟩)
      | (refine ⟨_, Wk.refl _, ?_⟩)
      | (rw [ifp_pos rfl])
      | (refine ⟨(rfl : (_ : List Nat) = _), ?_⟩)
      | (refine ⟨(rfl : (_ : Code) = _), ?_⟩))
    rw [take_all (by simpa using h)] at ht; exact ht
theorem lightOk : LoopOk Try.prog 28 25 (.loop (loopBody Try.prog 28 4)) lightC := loop_ok lightMu mixed (KL_ok (cc_nil)) rfl (steps_cons lightStep (steps_nil))

/-! wayfinder/wayfinderkit.Light[int32] -/
noncomputable def lightT : Tel ((List (List Int)) × Int × Int × Unit) := .cons 0 (.lst Ell) (.cons 1 (.int .i64) (.cons 2 (.int .i64) (.nil)))

theorem lightFn (l : List (List Int)) (m : Int) (n : Int) (Q : AV → Prop) : (callW Try.prog (runW Try.prog (KL [] [(28, [(4, lightC)])]) 200) 28 (lightT.cells id (l, (m, (n, ())))) (stE false) (fun x st => frzW st x Q)) =
  ( ifp (!leInt (Int.ofNat l.length) m) (Q (AV.bool false)) (LoopOk Try.prog (28 : FuncId) (25 : Nat) (loopBody Try.prog (28 : FuncId) (4 : Nat)).loop lightC ∧ True
  ∧ True ∧ ∃ (l_1 : List (List Int)), Wk (AV.vs (List.flatMap Ell.f l) l.length l.length false none (1 : Nat)) (lst Ell l_1) ∧ true = true ∧ lightInv ((l_1, n,
  (0 : Int), ()), ()) ∧ (∀ (c d : Unit), lightR0 ((l_1, n, (0 : Int), ()), ()) c d → Q (AV.bool true)) ∧ (∀ (c : Bool × Unit) (d : Unit), lightR1 ((l_1, n, (0 :
  Int), ()), ()) c d → Q (AV.bool c.1)) ∧ True)) := by kernel_rfl

def lightPre : (List (List Int)) × Int × Int × Unit → Prop := fun (l, (m, (n, ()))) => m < 9223372036854775807
noncomputable def lightRes : (List (List Int)) × Int × Int × Unit → AV := fun (l, (m, (n, ()))) => .bool (lightV l m n)
noncomputable def lightK : CallC := valC lightT lightPre lightRes

theorem lightVal (l : List (List Int)) (m : Int) (n : Int) (hp : lightPre (l, (m, (n, ())))) : Val Try.prog 28 (lightT.cells id (l, (m, (n, ())))) (lightRes (l, (m, (n, ())))) := by
  refine Val.ofF mixed (KL_ok (cc_nil)) (freesC rfl _) (lightFn l m n) ?_
  have hp0 : m < 9223372036854775807 := hp
  rw [ifp_lt]
  split
  · rename_i h
    exact tells_bool (by simp at h; simp [lightV]; omega)
  · rename_i h
    refine ⟨lightOk, ?_⟩
    have hp' : l.length < 9223372036854775807 := by simp only [Int.not_lt, Int.ofNat_eq_natCast] at h; omega
    repeat (first
      | (refine ⟨Nat.le_refl _, ?_⟩)
      | (rw [ifp_pos (roomy_small (by simp only [Nat.add_eq]; omega) (by decide))])
      | (refine ⟨trivial, ?_⟩)
      | (refine ⟨(rfl : true = true), ?_⟩)
      | (refine ⟨idx_ok (by omega), ?_⟩)
      | (refine ⟨idx_ok0 (by omega), ?_⟩)
      | (refine ⟨_, nth_int (by omega), ?_⟩)
      | (refine ⟨_, _, _, _, _, _, nth_lst (by omega), ?_⟩)
      | (refine ⟨_, _, _, _, _, _, nth_lst0 (by omega), ?_⟩)
      | (refine ⟨_, Wk.refl _, ?_⟩)
      | (rw [ifp_pos rfl])
      | (refine ⟨(rfl : (_ : List Nat) = _), ?_⟩)
      | (refine ⟨(rfl : (_ : Code) = _), ?_⟩))
    refine ⟨⟨0, rfl, by omega, hp', by simp⟩, fun _ _ hr => ?_, fun c _ hr => ?_, trivial⟩
    · exact tells_bool (by simp at h; have hr' : l.all (fun v => decide ((v.length : Int) ≤ n)) = true := hr; simp only [lightV, hr']; simp; omega)
    · obtain ⟨r, _⟩ := c
      obtain ⟨rfl, hr'⟩ := hr
      exact tells_bool (by simp only [lightV, hr', Bool.and_false])
theorem lightCc : CcOk Try.prog 28 lightK := val_ok rfl (fun ⟨l, ⟨m, ⟨n, _⟩⟩⟩ h => lightVal l m n h)

/-! The loop idxw of slices.IndexFunc[[]int32,int32]. -/
abbrev idxwZ := ((List Int) × Unit × Int × Int × Unit) × (Unit)
noncomputable def idxwSl : Tel ((List Int) × Unit × Int × Int × Unit) := .cons 0 (.lst Ei32) (.cons 1 (.fnp 91 []) (.cons 7 (.int .i64) (.cons 8 (.int .i64) (.nil))))
noncomputable def idxwBl : BTel (Unit) := .nil
noncomputable def idxwFs : List (LForm idxwZ) := [⟨_, _, idxwSl, idxwBl, fun x y => (x, y)⟩]
noncomputable def idxwAlts (R0 : idxwZ → (Unit) → (Unit) → Prop) (R1 : idxwZ → (Int × Unit) → (Unit) → Prop) : List (Alt idxwZ) := [⟨.exit 0, Unit, Unit, .nil, .nil, R0⟩, ⟨.ret, Int × Unit, Unit, .cons 4 (.int .i64) (.nil), .nil, R1⟩]

theorem idxwForm (l : List Int) (n : Int) (i : Int) (N : idxwZ → Prop) (R0 : idxwZ → (Unit) → (Unit) → Prop) (R1 : idxwZ → (Int × Unit) → (Unit) → Prop) : ((runW Try.prog (KL [] []) 100).code none 107 19 (loopBody Try.prog 107 2) (mkT (idxwSl.av id (l, ((), (n, (i, ())))))) [] (stL false (idxwBl.obs id ())) (postL 0 idxwFs (idxwAlts R0 R1) ((l, ((), (n, (i, ())))), ()) N)) =
  ( ifp (!leInt n i) (idxOk i l.length ∧ ∃ (x : Int), nth ((natOf i).mul (1 : Nat)) (List.flatMap Ei32.f l) = some (AV.int IntKind.i32 x) ∧ ifp (!leInt (-131072 :
  Int) x) (True ∧ true = true ∧ R1 ((l, (), n, i, ()), ()) (i, ()) ()) (ifp (!leInt x (131072 : Int)) (True ∧ true = true ∧ R1 ((l, (), n, i, ()), ()) (i, ())
  ()) (True ∧ ∃ (l_1 : List Int), Wk (AV.vs (List.flatMap Ei32.f l) l.length l.length false none (1 : Nat)) (lst Ei32 l_1) ∧ true = true ∧ N ((l_1, (), n, wrapF
  IntKind.i64 (i.add (1 : Int)), ()), ())))) (True ∧ true = true ∧ R0 ((l, (), n, i, ()), ()) () ())) := by kernel_rfl

def idxwInv : idxwZ → Prop := fun ((l, ((), (n, (i, ())))), ()) => ∃ k : Nat, i = k ∧ n = l.length ∧ k ≤ l.length ∧ l.length < 9223372036854775807 ∧ (l.take k).any beyondB = false
def idxwMu : idxwZ → Nat := fun ((l, ((), (n, (i, ())))), ()) => l.length - i.toNat
def idxwR0 : idxwZ → (Unit) → (Unit) → Prop := fun ((l, ((), (n, (i, ())))), ()) _ _ => l.any beyondB = false
def idxwR1 : idxwZ → (Int × Unit) → (Unit) → Prop := fun ((l, ((), (n, (i, ())))), ()) (r, _) _ => 0 ≤ r ∧ l.any beyondB = true
noncomputable def idxwC : LoopC := loopC 0 idxwFs (idxwAlts idxwR0 idxwR1) idxwInv

theorem idxwStep : stepsOk Try.prog (KL [] []) 100 107 19 (loopBody Try.prog 107 2) 0 false idxwFs (idxwAlts idxwR0 idxwR1) idxwInv idxwMu ⟨_, _, idxwSl, idxwBl, fun x y => (x, y)⟩ := by
  intro x y hz
  obtain ⟨l, _, n, i, _⟩ := x
  obtain _ := y
  refine (idxwForm l n i _ _ _).mpr ?_
  obtain ⟨k, rfl, rfl, hk, hl, ht⟩ := hz
  rw [ifp_lt]
  simp only [natOf_nat]
  split
  · rename_i h
    have hkl : k < l.length := by simpa using h
    repeat (first
      | (refine ⟨Nat.le_refl _, ?_⟩)
      | (rw [ifp_pos (roomy_small (by simp only [Nat.add_eq]; omega) (by decide))])
      | (refine ⟨trivial, ?_⟩)
      | (refine ⟨(rfl : true = true), ?_⟩)
      | (refine ⟨idx_ok (by omega), ?_⟩)
      | (refine ⟨idx_ok0 (by omega), ?_⟩)
      | (refine ⟨_, nth_int (by omega), ?_⟩)
      | (refine ⟨_, _, _, _, _, _, nth_lst (by omega), ?_⟩)
      | (refine ⟨_, _, _, _, _, _, nth_lst0 (by omega), ?_⟩)
      | (refine ⟨_, Wk.refl _, ?_⟩)
      | (rw [ifp_pos rfl])
      | (refine ⟨(rfl : (_ : List Nat) = _), ?_⟩)
      | (refine ⟨(rfl : (_ : Code) = _), ?_⟩))
    rw [ifp_lt]
    split
    · rename_i h2
      repeat (first
        | (refine ⟨Nat.le_refl _, ?_⟩)
        | (rw [ifp_pos (roomy_small (by simp only [Nat.add_eq]; omega) (by decide))])
        | (refine ⟨trivial, ?_⟩)
        | (refine ⟨(rfl : true = true), ?_⟩)
        | (refine ⟨idx_ok (by omega), ?_⟩)
        | (refine ⟨idx_ok0 (by omega), ?_⟩)
        | (refine ⟨_, nth_int (by omega), ?_⟩)
        | (refine ⟨_, _, _, _, _, _, nth_lst (by omega), ?_⟩)
        | (refine ⟨_, _, _, _, _, _, nth_lst0 (by omega), ?_⟩)
        | (refine ⟨_, Wk.refl _, ?_⟩)
        | (rw [ifp_pos rfl])
        | (refine ⟨(rfl : (_ : List Nat) = _), ?_⟩)
        | (refine ⟨(rfl : (_ : Code) = _), ?_⟩))
      exact ⟨by omega, any_of_get hkl (by simp [beyondB, h2])⟩
    · rename_i h2
      rw [ifp_lt]
      split
      · rename_i h3
        repeat (first
          | (refine ⟨Nat.le_refl _, ?_⟩)
          | (rw [ifp_pos (roomy_small (by simp only [Nat.add_eq]; omega) (by decide))])
          | (refine ⟨trivial, ?_⟩)
          | (refine ⟨(rfl : true = true), ?_⟩)
          | (refine ⟨idx_ok (by omega), ?_⟩)
          | (refine ⟨idx_ok0 (by omega), ?_⟩)
          | (refine ⟨_, nth_int (by omega), ?_⟩)
          | (refine ⟨_, _, _, _, _, _, nth_lst (by omega), ?_⟩)
          | (refine ⟨_, _, _, _, _, _, nth_lst0 (by omega), ?_⟩)
          | (refine ⟨_, Wk.refl _, ?_⟩)
          | (rw [ifp_pos rfl])
          | (refine ⟨(rfl : (_ : List Nat) = _), ?_⟩)
          | (refine ⟨(rfl : (_ : Code) = _), ?_⟩))
        exact ⟨by omega, any_of_get hkl (by simp [beyondB, h3])⟩
      · rename_i h3
        repeat (first
          | (refine ⟨Nat.le_refl _, ?_⟩)
          | (rw [ifp_pos (roomy_small (by simp only [Nat.add_eq]; omega) (by decide))])
          | (refine ⟨trivial, ?_⟩)
          | (refine ⟨(rfl : true = true), ?_⟩)
          | (refine ⟨idx_ok (by omega), ?_⟩)
          | (refine ⟨idx_ok0 (by omega), ?_⟩)
          | (refine ⟨_, nth_int (by omega), ?_⟩)
          | (refine ⟨_, _, _, _, _, _, nth_lst (by omega), ?_⟩)
          | (refine ⟨_, _, _, _, _, _, nth_lst0 (by omega), ?_⟩)
          | (refine ⟨_, Wk.refl _, ?_⟩)
          | (rw [ifp_pos rfl])
          | (refine ⟨(rfl : (_ : List Nat) = _), ?_⟩)
          | (refine ⟨(rfl : (_ : Code) = _), ?_⟩))
        rw [wsucc (by omega)]
        refine ⟨⟨k + 1, rfl, rfl, hkl, hl, ?_⟩, ?_, fun _ _ h => h, fun _ _ h => h, trivial⟩
        · rw [any_take_succ hkl, ht]; simp [beyondB]; omega
        · show l.length - (k + 1) < l.length - k; omega
  · rename_i h
    repeat (first
      | (refine ⟨Nat.le_refl _, ?_⟩)
      | (rw [ifp_pos (roomy_small (by simp only [Nat.add_eq]; omega) (by decide))])
      | (refine ⟨trivial, ?_⟩)
      | (refine ⟨(rfl : true = true), ?_⟩)
      | (refine ⟨idx_ok (by omega), ?_⟩)
      | (refine ⟨idx_ok0 (by omega), ?_⟩)
      | (refine ⟨_, nth_int (by omega), ?_⟩)
      | (refine ⟨_, _, _, _, _, _, nth_lst (by omega), ?_⟩)
      | (refine ⟨_, _, _, _, _, _, nth_lst0 (by omega), ?_⟩)
      | (refine ⟨_, Wk.refl _, ?_⟩)
      | (rw [ifp_pos rfl])
      | (refine ⟨(rfl : (_ : List Nat) = _), ?_⟩)
      | (refine ⟨(rfl : (_ : Code) = _), ?_⟩))
    rw [take_all (by simpa using h)] at ht; exact ht
theorem idxwOk : LoopOk Try.prog 107 19 (.loop (loopBody Try.prog 107 2)) idxwC := loop_ok idxwMu mixed (KL_ok (cc_nil)) rfl (steps_cons idxwStep (steps_nil))

/-! wayfinder/vec.CheckWide -/
noncomputable def cwT : Tel ((List Int) × Unit) := .cons 0 (.lst Ei32) (.nil)

theorem cwFn (v : List Int) (Q : AV → Prop) : (callW Try.prog (runW Try.prog (KL [] [(107, [(2, idxwC)])]) 200) 70 (cwT.cells id (v, ())) (stE false) (fun x st => frzW st x Q)) =
  ( ifp (!leInt (1 : Int) (Int.ofNat v.length)) (Q (AV.int IntKind.i64 (2 : Int))) (ifp (!leInt (Int.ofNat v.length) (1024 : Int)) (Q (AV.int IntKind.i64 (2 :
  Int))) (LoopOk Try.prog (107 : Nat) (19 : Nat) (loopBody Try.prog (107 : Nat) (2 : Nat)).loop idxwC ∧ True ∧ True ∧ ∃ (l : List Int), Wk (AV.vs (List.flatMap
  Ei32.f v) v.length v.length false none (1 : Nat)) (lst Ei32 l) ∧ true = true ∧ idxwInv ((l, (), Int.ofNat v.length, (0 : Int), ()), ()) ∧ (∀ (c d : Unit),
  idxwR0 ((l, (), Int.ofNat v.length, (0 : Int), ()), ()) c d → Q (AV.int IntKind.i64 (0 : Int))) ∧ (∀ (c : Int × Unit) (d : Unit), idxwR1 ((l, (), Int.ofNat
  v.length, (0 : Int), ()), ()) c d → ifp (leInt (0 : Int) c.1) (Q (AV.int IntKind.i64 (11 : Int))) (Q (AV.int IntKind.i64 (0 : Int)))) ∧ True))) := by kernel_rfl

def cwPre : (List Int) × Unit → Prop := fun (v, ()) => True
noncomputable def cwRes : (List Int) × Unit → AV := fun (v, ()) => .int .i64 (cw v)
noncomputable def cwK : CallC := valC cwT cwPre cwRes

theorem cwVal (v : List Int) (hp : cwPre (v, ())) : Val Try.prog 70 (cwT.cells id (v, ())) (cwRes (v, ())) := by
  refine Val.ofF mixed (KL_ok (cc_nil)) (freesC rfl _) (cwFn v) ?_
  rw [ifp_lt, ifp_lt]
  split
  · rename_i h
    exact tells_int (by rw [cw, if_pos (by simp at h; omega)])
  · rename_i h
    split
    · rename_i h2
      exact tells_int (by rw [cw, if_pos (by simp at h2; omega)])
    · rename_i h2
      simp at h h2
      have hc : ¬ (v.length < 1 ∨ 1024 < v.length) := by omega
      refine ⟨idxwOk, ?_⟩
      repeat (first
        | (refine ⟨Nat.le_refl _, ?_⟩)
        | (rw [ifp_pos (roomy_small (by simp only [Nat.add_eq]; omega) (by decide))])
        | (refine ⟨trivial, ?_⟩)
        | (refine ⟨(rfl : true = true), ?_⟩)
        | (refine ⟨idx_ok (by omega), ?_⟩)
        | (refine ⟨idx_ok0 (by omega), ?_⟩)
        | (refine ⟨_, nth_int (by omega), ?_⟩)
        | (refine ⟨_, _, _, _, _, _, nth_lst (by omega), ?_⟩)
        | (refine ⟨_, _, _, _, _, _, nth_lst0 (by omega), ?_⟩)
        | (refine ⟨_, Wk.refl _, ?_⟩)
        | (rw [ifp_pos rfl])
        | (refine ⟨(rfl : (_ : List Nat) = _), ?_⟩)
        | (refine ⟨(rfl : (_ : Code) = _), ?_⟩))
      refine ⟨⟨0, rfl, rfl, by omega, by omega, by simp⟩, fun _ _ hr => ?_, fun c _ hr => ?_, trivial⟩
      · have hr' : v.any beyondB = false := hr
        exact tells_int (by rw [cw, if_neg hc, hr', if_neg (by simp)])
      · obtain ⟨r, _⟩ := c
        obtain ⟨h0, hr'⟩ := hr
        rw [ifp_le, if_pos h0]
        exact tells_int (by rw [cw, if_neg hc, if_pos hr'])
theorem cwCc : CcOk Try.prog 70 cwK := val_ok rfl (fun ⟨v, _⟩ h => cwVal v h)

/-! The loop rcw of wayfinder/wayfinderref03.CheckWide. -/
abbrev rcwZ := ((List Int) × Int × Unit) × (Unit)
noncomputable def rcwSl : Tel ((List Int) × Int × Unit) := .cons 0 (.lst Ei32) (.cons 3 (.int .i64) (.nil))
noncomputable def rcwBl : BTel (Unit) := .nil
noncomputable def rcwFs : List (LForm rcwZ) := [⟨_, _, rcwSl, rcwBl, fun x y => (x, y)⟩]
noncomputable def rcwAlts (R0 : rcwZ → (Unit) → (Unit) → Prop) (R1 : rcwZ → (Int × Unit) → (Unit) → Prop) : List (Alt rcwZ) := [⟨.exit 0, Unit, Unit, .nil, .nil, R0⟩, ⟨.ret, Int × Unit, Unit, .cons 2 (.int .i64) (.nil), .nil, R1⟩]

theorem rcwForm (l : List Int) (i : Int) (N : rcwZ → Prop) (R0 : rcwZ → (Unit) → (Unit) → Prop) (R1 : rcwZ → (Int × Unit) → (Unit) → Prop) : ((runW Try.prog (KL [] []) 100).code none 73 30 (loopBody Try.prog 73 4) (mkT (rcwSl.av id (l, (i, ())))) [] (stL false (rcwBl.obs id ())) (postL 0 rcwFs (rcwAlts R0 R1) ((l, (i, ())), ()) N)) =
  ( ifp (!leInt (Int.ofNat l.length) i) (idxOk i l.length ∧ ∃ (x : Int), nth ((natOf i).mul (1 : Nat)) (List.flatMap Ei32.f l) = some (AV.int IntKind.i32 x) ∧ ifp
  (!leInt (-131072 : Int) x) (True ∧ true = true ∧ R1 ((l, i, ()), ()) ((11 : Int), ()) ()) (idxOk i l.length ∧ ∃ (x : Int), nth ((natOf i).mul (1 : Nat))
  (List.flatMap Ei32.f l) = some (AV.int IntKind.i32 x) ∧ ifp (!leInt x (131072 : Int)) (True ∧ true = true ∧ R1 ((l, i, ()), ()) ((11 : Int), ()) ()) (True ∧ ∃
  (l_1 : List Int), Wk (AV.vs (List.flatMap Ei32.f l) l.length l.length false none (1 : Nat)) (lst Ei32 l_1) ∧ true = true ∧ N ((l_1, wrapF IntKind.i64 (i.add (1
  : Int)), ()), ())))) (True ∧ true = true ∧ R0 ((l, i, ()), ()) () ())) := by kernel_rfl

def rcwInv : rcwZ → Prop := fun ((l, (i, ())), ()) => ∃ k : Nat, i = k ∧ k ≤ l.length ∧ l.length < 9223372036854775807 ∧ (l.take k).any beyondB = false
def rcwMu : rcwZ → Nat := fun ((l, (i, ())), ()) => l.length - i.toNat
def rcwR0 : rcwZ → (Unit) → (Unit) → Prop := fun ((l, (i, ())), ()) _ _ => l.any beyondB = false
def rcwR1 : rcwZ → (Int × Unit) → (Unit) → Prop := fun ((l, (i, ())), ()) (r, _) _ => r = 11 ∧ l.any beyondB = true
noncomputable def rcwC : LoopC := loopC 0 rcwFs (rcwAlts rcwR0 rcwR1) rcwInv

theorem rcwStep : stepsOk Try.prog (KL [] []) 100 73 30 (loopBody Try.prog 73 4) 0 false rcwFs (rcwAlts rcwR0 rcwR1) rcwInv rcwMu ⟨_, _, rcwSl, rcwBl, fun x y => (x, y)⟩ := by
  intro x y hz
  obtain ⟨l, i, _⟩ := x
  obtain _ := y
  refine (rcwForm l i _ _ _).mpr ?_
  obtain ⟨k, rfl, hk, hl, ht⟩ := hz
  rw [ifp_lt]
  simp only [natOf_nat]
  split
  · rename_i h
    have hkl : k < l.length := by simpa using h
    repeat (first
      | (refine ⟨Nat.le_refl _, ?_⟩)
      | (rw [ifp_pos (roomy_small (by simp only [Nat.add_eq]; omega) (by decide))])
      | (refine ⟨trivial, ?_⟩)
      | (refine ⟨(rfl : true = true), ?_⟩)
      | (refine ⟨idx_ok (by omega), ?_⟩)
      | (refine ⟨idx_ok0 (by omega), ?_⟩)
      | (refine ⟨_, nth_int (by omega), ?_⟩)
      | (refine ⟨_, _, _, _, _, _, nth_lst (by omega), ?_⟩)
      | (refine ⟨_, _, _, _, _, _, nth_lst0 (by omega), ?_⟩)
      | (refine ⟨_, Wk.refl _, ?_⟩)
      | (rw [ifp_pos rfl])
      | (refine ⟨(rfl : (_ : List Nat) = _), ?_⟩)
      | (refine ⟨(rfl : (_ : Code) = _), ?_⟩))
    rw [ifp_lt]
    split
    · rename_i h2
      repeat (first
        | (refine ⟨Nat.le_refl _, ?_⟩)
        | (rw [ifp_pos (roomy_small (by simp only [Nat.add_eq]; omega) (by decide))])
        | (refine ⟨trivial, ?_⟩)
        | (refine ⟨(rfl : true = true), ?_⟩)
        | (refine ⟨idx_ok (by omega), ?_⟩)
        | (refine ⟨idx_ok0 (by omega), ?_⟩)
        | (refine ⟨_, nth_int (by omega), ?_⟩)
        | (refine ⟨_, _, _, _, _, _, nth_lst (by omega), ?_⟩)
        | (refine ⟨_, _, _, _, _, _, nth_lst0 (by omega), ?_⟩)
        | (refine ⟨_, Wk.refl _, ?_⟩)
        | (rw [ifp_pos rfl])
        | (refine ⟨(rfl : (_ : List Nat) = _), ?_⟩)
        | (refine ⟨(rfl : (_ : Code) = _), ?_⟩))
      exact ⟨rfl, any_of_get hkl (by simp [beyondB, h2])⟩
    · rename_i h2
      repeat (first
        | (refine ⟨Nat.le_refl _, ?_⟩)
        | (rw [ifp_pos (roomy_small (by simp only [Nat.add_eq]; omega) (by decide))])
        | (refine ⟨trivial, ?_⟩)
        | (refine ⟨(rfl : true = true), ?_⟩)
        | (refine ⟨idx_ok (by omega), ?_⟩)
        | (refine ⟨idx_ok0 (by omega), ?_⟩)
        | (refine ⟨_, nth_int (by omega), ?_⟩)
        | (refine ⟨_, _, _, _, _, _, nth_lst (by omega), ?_⟩)
        | (refine ⟨_, _, _, _, _, _, nth_lst0 (by omega), ?_⟩)
        | (refine ⟨_, Wk.refl _, ?_⟩)
        | (rw [ifp_pos rfl])
        | (refine ⟨(rfl : (_ : List Nat) = _), ?_⟩)
        | (refine ⟨(rfl : (_ : Code) = _), ?_⟩))
      rw [ifp_lt]
      split
      · rename_i h3
        repeat (first
          | (refine ⟨Nat.le_refl _, ?_⟩)
          | (rw [ifp_pos (roomy_small (by simp only [Nat.add_eq]; omega) (by decide))])
          | (refine ⟨trivial, ?_⟩)
          | (refine ⟨(rfl : true = true), ?_⟩)
          | (refine ⟨idx_ok (by omega), ?_⟩)
          | (refine ⟨idx_ok0 (by omega), ?_⟩)
          | (refine ⟨_, nth_int (by omega), ?_⟩)
          | (refine ⟨_, _, _, _, _, _, nth_lst (by omega), ?_⟩)
          | (refine ⟨_, _, _, _, _, _, nth_lst0 (by omega), ?_⟩)
          | (refine ⟨_, Wk.refl _, ?_⟩)
          | (rw [ifp_pos rfl])
          | (refine ⟨(rfl : (_ : List Nat) = _), ?_⟩)
          | (refine ⟨(rfl : (_ : Code) = _), ?_⟩))
        exact ⟨rfl, any_of_get hkl (by simp [beyondB, h3])⟩
      · rename_i h3
        repeat (first
          | (refine ⟨Nat.le_refl _, ?_⟩)
          | (rw [ifp_pos (roomy_small (by simp only [Nat.add_eq]; omega) (by decide))])
          | (refine ⟨trivial, ?_⟩)
          | (refine ⟨(rfl : true = true), ?_⟩)
          | (refine ⟨idx_ok (by omega), ?_⟩)
          | (refine ⟨idx_ok0 (by omega), ?_⟩)
          | (refine ⟨_, nth_int (by omega), ?_⟩)
          | (refine ⟨_, _, _, _, _, _, nth_lst (by omega), ?_⟩)
          | (refine ⟨_, _, _, _, _, _, nth_lst0 (by omega), ?_⟩)
          | (refine ⟨_, Wk.refl _, ?_⟩)
          | (rw [ifp_pos rfl])
          | (refine ⟨(rfl : (_ : List Nat) = _), ?_⟩)
          | (refine ⟨(rfl : (_ : Code) = _), ?_⟩))
        rw [wsucc (by omega)]
        refine ⟨⟨k + 1, rfl, hkl, hl, ?_⟩, ?_, fun _ _ h => h, fun _ _ h => h, trivial⟩
        · rw [any_take_succ hkl, ht]; simp [beyondB]; omega
        · show l.length - (k + 1) < l.length - k; omega
  · rename_i h
    repeat (first
      | (refine ⟨Nat.le_refl _, ?_⟩)
      | (rw [ifp_pos (roomy_small (by simp only [Nat.add_eq]; omega) (by decide))])
      | (refine ⟨trivial, ?_⟩)
      | (refine ⟨(rfl : true = true), ?_⟩)
      | (refine ⟨idx_ok (by omega), ?_⟩)
      | (refine ⟨idx_ok0 (by omega), ?_⟩)
      | (refine ⟨_, nth_int (by omega), ?_⟩)
      | (refine ⟨_, _, _, _, _, _, nth_lst (by omega), ?_⟩)
      | (refine ⟨_, _, _, _, _, _, nth_lst0 (by omega), ?_⟩)
      | (refine ⟨_, Wk.refl _, ?_⟩)
      | (rw [ifp_pos rfl])
      | (refine ⟨(rfl : (_ : List Nat) = _), ?_⟩)
      | (refine ⟨(rfl : (_ : Code) = _), ?_⟩))
    rw [take_all (by simpa using h)] at ht; exact ht
theorem rcwOk : LoopOk Try.prog 73 30 (.loop (loopBody Try.prog 73 4)) rcwC := loop_ok rcwMu mixed (KL_ok (cc_nil)) rfl (steps_cons rcwStep (steps_nil))

/-! wayfinder/wayfinderref03.CheckWide -/
noncomputable def rcwT : Tel ((List Int) × Unit) := .cons 0 (.lst Ei32) (.nil)

theorem rcwFn (v : List Int) (Q : AV → Prop) : (callW Try.prog (runW Try.prog (KL [] [(73, [(4, rcwC)])]) 200) 73 (rcwT.cells id (v, ())) (stE false) (fun x st => frzW st x Q)) =
  ( ifp (!leInt (1 : Int) (Int.ofNat v.length)) (Q (AV.int IntKind.i64 (2 : Int))) (ifp (!leInt (Int.ofNat v.length) (1024 : Int)) (Q (AV.int IntKind.i64 (2 :
  Int))) (LoopOk Try.prog (73 : FuncId) (30 : Nat) (loopBody Try.prog (73 : FuncId) (4 : Nat)).loop rcwC ∧ True ∧ True ∧ ∃ (l : List Int), Wk (AV.vs
  (List.flatMap Ei32.f v) v.length v.length false none (1 : Nat)) (lst Ei32 l) ∧ true = true ∧ rcwInv ((l, (0 : Int), ()), ()) ∧ (∀ (c d : Unit), rcwR0 ((l, (0 :
  Int), ()), ()) c d → Q (AV.int IntKind.i64 (0 : Int))) ∧ (∀ (c : Int × Unit) (d : Unit), rcwR1 ((l, (0 : Int), ()), ()) c d → Q (AV.int IntKind.i64 c.1)) ∧
  True))) := by kernel_rfl

def rcwPre : (List Int) × Unit → Prop := fun (v, ()) => True
noncomputable def rcwRes : (List Int) × Unit → AV := fun (v, ()) => .int .i64 (cw v)
noncomputable def rcwK : CallC := valC rcwT rcwPre rcwRes

theorem rcwVal (v : List Int) (hp : rcwPre (v, ())) : Val Try.prog 73 (rcwT.cells id (v, ())) (rcwRes (v, ())) := by
  refine Val.ofF mixed (KL_ok (cc_nil)) (freesC rfl _) (rcwFn v) ?_
  rw [ifp_lt, ifp_lt]
  split
  · rename_i h
    exact tells_int (by rw [cw, if_pos (by simp at h; omega)])
  · rename_i h
    split
    · rename_i h2
      exact tells_int (by rw [cw, if_pos (by simp at h2; omega)])
    · rename_i h2
      simp at h h2
      have hc : ¬ (v.length < 1 ∨ 1024 < v.length) := by omega
      refine ⟨rcwOk, ?_⟩
      repeat (first
        | (refine ⟨Nat.le_refl _, ?_⟩)
        | (rw [ifp_pos (roomy_small (by simp only [Nat.add_eq]; omega) (by decide))])
        | (refine ⟨trivial, ?_⟩)
        | (refine ⟨(rfl : true = true), ?_⟩)
        | (refine ⟨idx_ok (by omega), ?_⟩)
        | (refine ⟨idx_ok0 (by omega), ?_⟩)
        | (refine ⟨_, nth_int (by omega), ?_⟩)
        | (refine ⟨_, _, _, _, _, _, nth_lst (by omega), ?_⟩)
        | (refine ⟨_, _, _, _, _, _, nth_lst0 (by omega), ?_⟩)
        | (refine ⟨_, Wk.refl _, ?_⟩)
        | (rw [ifp_pos rfl])
        | (refine ⟨(rfl : (_ : List Nat) = _), ?_⟩)
        | (refine ⟨(rfl : (_ : Code) = _), ?_⟩))
      refine ⟨⟨0, rfl, by omega, by omega, by simp⟩, fun _ _ hr => ?_, fun c _ hr => ?_, trivial⟩
      · have hr' : v.any beyondB = false := hr
        exact tells_int (by rw [cw, if_neg hc, hr', if_neg (by simp)])
      · obtain ⟨r, _⟩ := c
        obtain ⟨rfl, hr'⟩ := hr
        exact tells_int (by rw [cw, if_neg hc, if_pos hr'])
theorem rcwCc : CcOk Try.prog 73 rcwK := val_ok rfl (fun ⟨v, _⟩ h => rcwVal v h)

/-! wayfinder/vec.pair -/
noncomputable def pairT : Tel ((List Int) × (List Int) × Unit) := .cons 0 (.lst Ei32) (.cons 1 (.lst Ei32) (.nil))

theorem pairFn (a : List Int) (b : List Int) (Q : AV → Prop) : (callW Try.prog (runW Try.prog (KL [(70, cwK)] []) 200) 106 (pairT.cells id (a, (b, ()))) (stE false) (fun x st => frzW st x Q)) =
  ( idxOk (0 : Int) (2 : Nat) ∧ ∃ (l : List Int), Wk (AV.vs (List.flatMap Ei32.f a) a.length a.length false none (1 : Nat)) (lst Ei32 l) ∧ cwPre (l, ()) ∧ ifp
  (!eqInt (cw l) (0 : Int)) (Q (AV.int IntKind.i64 (cw l))) (idxOk (wrapF IntKind.i64 (Int.add (0 : Int) (1 : Int))) (2 : Nat) ∧ ∃ (l : List Int), Wk (AV.vs
  (List.flatMap Ei32.f b) b.length b.length false none (1 : Nat)) (lst Ei32 l) ∧ cwPre (l, ()) ∧ ifp (!eqInt (cw l) (0 : Int)) (Q (AV.int IntKind.i64 (cw l)))
  (ifp (!eqInt (Int.ofNat a.length) (Int.ofNat b.length)) (Q (AV.int IntKind.i64 (2 : Int))) (Q (AV.int IntKind.i64 (0 : Int)))))) := by kernel_rfl

def pairPre : (List Int) × (List Int) × Unit → Prop := fun (a, (b, ())) => True
noncomputable def pairRes : (List Int) × (List Int) × Unit → AV := fun (a, (b, ())) => .int .i64 (pairV a b)
noncomputable def pairK : CallC := valC pairT pairPre pairRes

theorem pairVal (a : List Int) (b : List Int) (hp : pairPre (a, (b, ()))) : Val Try.prog 106 (pairT.cells id (a, (b, ()))) (pairRes (a, (b, ()))) := by
  refine Val.ofF mixed (KL_ok (cc_cons cwCc (cc_nil))) (freesC rfl _) (pairFn a b) ?_
  refine ⟨⟨by decide, by decide⟩, ?_⟩
  repeat (first
    | (refine ⟨Nat.le_refl _, ?_⟩)
    | (rw [ifp_pos (roomy_small (by simp only [Nat.add_eq]; omega) (by decide))])
    | (refine ⟨trivial, ?_⟩)
    | (refine ⟨(rfl : true = true), ?_⟩)
    | (refine ⟨idx_ok (by omega), ?_⟩)
    | (refine ⟨idx_ok0 (by omega), ?_⟩)
    | (refine ⟨_, nth_int (by omega), ?_⟩)
    | (refine ⟨_, _, _, _, _, _, nth_lst (by omega), ?_⟩)
    | (refine ⟨_, _, _, _, _, _, nth_lst0 (by omega), ?_⟩)
    | (refine ⟨_, Wk.refl _, ?_⟩)
    | (rw [ifp_pos rfl])
    | (refine ⟨(rfl : (_ : List Nat) = _), ?_⟩)
    | (refine ⟨(rfl : (_ : Code) = _), ?_⟩))
  rw [ifp_ne]
  split
  · rename_i h
    refine ⟨⟨by decide, by decide⟩, ?_⟩
    repeat (first
      | (refine ⟨Nat.le_refl _, ?_⟩)
      | (rw [ifp_pos (roomy_small (by simp only [Nat.add_eq]; omega) (by decide))])
      | (refine ⟨trivial, ?_⟩)
      | (refine ⟨(rfl : true = true), ?_⟩)
      | (refine ⟨idx_ok (by omega), ?_⟩)
      | (refine ⟨idx_ok0 (by omega), ?_⟩)
      | (refine ⟨_, nth_int (by omega), ?_⟩)
      | (refine ⟨_, _, _, _, _, _, nth_lst (by omega), ?_⟩)
      | (refine ⟨_, _, _, _, _, _, nth_lst0 (by omega), ?_⟩)
      | (refine ⟨_, Wk.refl _, ?_⟩)
      | (rw [ifp_pos rfl])
      | (refine ⟨(rfl : (_ : List Nat) = _), ?_⟩)
      | (refine ⟨(rfl : (_ : Code) = _), ?_⟩))
    rw [ifp_ne, ifp_ne]
    split
    · rename_i h2
      split
      · rename_i h3; exact tells_int (by simp at h3; simp [pairV, h, h2]; omega)
      · rename_i h3; exact tells_int (by simp at h3; simp [pairV, h, h2]; omega)
    · rename_i h2; exact tells_int (by simp [pairV, h, h2])
  · rename_i h; exact tells_int (by simp [pairV, h])
theorem pairCc : CcOk Try.prog 106 pairK := val_ok rfl (fun ⟨a, ⟨b, _⟩⟩ h => pairVal a b h)

/-! wayfinder/wayfinderref03.both -/
noncomputable def rboth3T : Tel ((List Int) × (List Int) × Unit) := .cons 0 (.lst Ei32) (.cons 1 (.lst Ei32) (.nil))

theorem rboth3Fn (a : List Int) (b : List Int) (Q : AV → Prop) : (callW Try.prog (runW Try.prog (KL [(73, rcwK)] []) 200) 59 (rboth3T.cells id (a, (b, ()))) (stE false) (fun x st => frzW st x Q)) =
  ( ∃ (l : List Int), Wk (AV.vs (List.flatMap Ei32.f a) a.length a.length false none (1 : Nat)) (lst Ei32 l) ∧ rcwPre (l, ()) ∧ ifp (eqInt (cw l) (0 : Int)) (∃ (l :
  List Int), Wk (AV.vs (List.flatMap Ei32.f b) b.length b.length false none (1 : Nat)) (lst Ei32 l) ∧ rcwPre (l, ()) ∧ ifp (eqInt (cw l) (0 : Int)) (ifp (!eqInt
  (Int.ofNat a.length) (Int.ofNat b.length)) (Q (AV.int IntKind.i64 (2 : Int))) (Q (AV.int IntKind.i64 (cw l)))) (Q (AV.int IntKind.i64 (cw l)))) (ifp (eqInt (cw
  l) (0 : Int)) (ifp (!eqInt (Int.ofNat a.length) (Int.ofNat b.length)) (Q (AV.int IntKind.i64 (2 : Int))) (Q (AV.int IntKind.i64 (cw l)))) (Q (AV.int
  IntKind.i64 (cw l))))) := by kernel_rfl

def rboth3Pre : (List Int) × (List Int) × Unit → Prop := fun (a, (b, ())) => True
noncomputable def rboth3Res : (List Int) × (List Int) × Unit → AV := fun (a, (b, ())) => .int .i64 (pairV a b)
noncomputable def rboth3K : CallC := valC rboth3T rboth3Pre rboth3Res

theorem rboth3Val (a : List Int) (b : List Int) (hp : rboth3Pre (a, (b, ()))) : Val Try.prog 59 (rboth3T.cells id (a, (b, ()))) (rboth3Res (a, (b, ()))) := by
  refine Val.ofF mixed (KL_ok (cc_cons rcwCc (cc_nil))) (freesC rfl _) (rboth3Fn a b) ?_
  repeat (first
    | (refine ⟨Nat.le_refl _, ?_⟩)
    | (rw [ifp_pos (roomy_small (by simp only [Nat.add_eq]; omega) (by decide))])
    | (refine ⟨trivial, ?_⟩)
    | (refine ⟨(rfl : true = true), ?_⟩)
    | (refine ⟨idx_ok (by omega), ?_⟩)
    | (refine ⟨idx_ok0 (by omega), ?_⟩)
    | (refine ⟨_, nth_int (by omega), ?_⟩)
    | (refine ⟨_, _, _, _, _, _, nth_lst (by omega), ?_⟩)
    | (refine ⟨_, _, _, _, _, _, nth_lst0 (by omega), ?_⟩)
    | (refine ⟨_, Wk.refl _, ?_⟩)
    | (rw [ifp_pos rfl])
    | (refine ⟨(rfl : (_ : List Nat) = _), ?_⟩)
    | (refine ⟨(rfl : (_ : Code) = _), ?_⟩))
  rw [ifp_eq]
  split
  · rename_i h
    repeat (first
      | (refine ⟨Nat.le_refl _, ?_⟩)
      | (rw [ifp_pos (roomy_small (by simp only [Nat.add_eq]; omega) (by decide))])
      | (refine ⟨trivial, ?_⟩)
      | (refine ⟨(rfl : true = true), ?_⟩)
      | (refine ⟨idx_ok (by omega), ?_⟩)
      | (refine ⟨idx_ok0 (by omega), ?_⟩)
      | (refine ⟨_, nth_int (by omega), ?_⟩)
      | (refine ⟨_, _, _, _, _, _, nth_lst (by omega), ?_⟩)
      | (refine ⟨_, _, _, _, _, _, nth_lst0 (by omega), ?_⟩)
      | (refine ⟨_, Wk.refl _, ?_⟩)
      | (rw [ifp_pos rfl])
      | (refine ⟨(rfl : (_ : List Nat) = _), ?_⟩)
      | (refine ⟨(rfl : (_ : Code) = _), ?_⟩))
    rw [ifp_eq, ifp_ne]
    split
    · rename_i h2
      split
      · rename_i h3; exact tells_int (by simp at h3; simp [pairV, h, h2]; omega)
      · rename_i h3; exact tells_int (by simp at h3; simp [pairV, h, h2]; omega)
    · rename_i h2; exact tells_int (by simp [pairV, h, h2])
  · rename_i h
    rw [ifp_eq, if_neg h]
    exact tells_int (by simp [pairV, h])
theorem rboth3Cc : CcOk Try.prog 59 rboth3K := val_ok rfl (fun ⟨a, ⟨b, _⟩⟩ h => rboth3Val a b h)

def wide (l : List Int) : Prop := ∀ x ∈ l, -131072 ≤ x ∧ x ≤ 131072
theorem wide_of_any {l : List Int} (h : l.any beyondB = false) : wide l := fun x hx => by
  have := List.any_eq_false.1 h x hx
  simp [beyondB] at this; omega
theorem cw_zero {v : List Int} (h : cw v = 0) : 1 ≤ v.length ∧ v.length ≤ 1024 ∧ wide v := by
  unfold cw at h
  split at h
  · cases h
  · split at h
    · cases h
    · rename_i h1 h2; exact ⟨by omega, by omega, wide_of_any (by simpa using h2)⟩
theorem pair_zero {a b : List Int} (h : pairV a b = 0) : cw a = 0 ∧ cw b = 0 ∧ a.length = b.length := by
  unfold pairV at h
  split at h
  · rename_i h1; exact absurd h h1
  · split at h
    · rename_i h1; exact absurd h h1
    · split at h
      · cases h
      · rename_i h1 h2 h3; exact ⟨by simpa using h1, by simpa using h2, by simpa using h3⟩
theorem sqs_drop {a b : List Int} {i : Nat} (ha : i < a.length) (hb : i < b.length) : sqs (a.drop i) (b.drop i) = (a[i] - b[i]) * (a[i] - b[i]) + sqs (a.drop (i + 1)) (b.drop (i + 1)) := by
  rw [List.drop_eq_getElem_cons ha, List.drop_eq_getElem_cons hb]; rfl
theorem sq_le {x y : Int} (hx : -131072 ≤ x ∧ x ≤ 131072) (hy : -131072 ≤ y ∧ y ≤ 131072) : 0 ≤ (x - y) * (x - y) ∧ (x - y) * (x - y) ≤ 68719476736 := by
  have h1 : -262144 ≤ x - y ∧ x - y ≤ 262144 := by omega
  generalize x - y = d at h1
  refine ⟨?_, ?_⟩
  · rcases Int.le_total 0 d with h | h
    · exact Int.mul_nonneg h h
    · exact Int.mul_nonneg_of_nonpos_of_nonpos h h
  · have h2 : d * d ≤ 262144 * 262144 := by
      rcases Int.le_total 0 d with h | h
      · exact Int.mul_le_mul h1.2 h1.2 h (by omega)
      · have : d * d = (-d) * (-d) := by rw [Int.neg_mul_neg]
        rw [this]
        exact Int.mul_le_mul (by omega) (by omega) (by omega) (by omega)
    omega
/-- One step of the sum. -/
theorem sq_step {x y s : Int} {k : Nat} (hx : -131072 ≤ x ∧ x ≤ 131072) (hy : -131072 ≤ y ∧ y ≤ 131072) (h0 : 0 ≤ s) (h1 : s ≤ k * 68719476736) (hk : k < 1024) :
    wrapF .i64 (Int.add s (wrapF .i64 (Int.mul (wrapF .i64 (Int.sub (wrapF .i64 x) (wrapF .i64 y))) (wrapF .i64 (Int.sub (wrapF .i64 x) (wrapF .i64 y)))))) = s + (x - y) * (x - y) ∧ 0 ≤ s + (x - y) * (x - y) ∧ s + (x - y) * (x - y) ≤ (k + 1 : Nat) * 68719476736 := by
  have q := sq_le hx hy
  have e2 : wrapF .i64 x = x := w64 (by omega) (by omega)
  have e3 : wrapF .i64 y = y := w64 (by omega) (by omega)
  have e4 : wrapF .i64 (Int.sub x y) = x - y := wsub (by omega) (by omega)
  have e5 : wrapF .i64 (Int.mul (x - y) (x - y)) = (x - y) * (x - y) := Det.wmul (by omega) (by omega)
  have e6 : wrapF .i64 (Int.add s ((x - y) * (x - y))) = s + (x - y) * (x - y) := wadd (by omega) (by omega)
  rw [e2, e3, e4, e5, e6]
  exact ⟨rfl, by omega, by omega⟩

/-! The loop dist of wayfinder/vec.Dist. -/
abbrev distZ := (Int × Int × (List Int) × (List Int) × Int × Unit) × (Unit)
noncomputable def distSl : Tel (Int × Int × (List Int) × (List Int) × Int × Unit) := .cons 19 (.int .i64) (.cons 18 (.int .i64) (.cons 17 (.lst Ei32) (.cons 1 (.lst Ei32) (.cons 7 (.int .i64) (.nil)))))
noncomputable def distBl : BTel (Unit) := .nil
noncomputable def distFs : List (LForm distZ) := [⟨_, _, distSl, distBl, fun x y => (x, y)⟩]
noncomputable def distAlts (R0 : distZ → (Int × Unit) → (Unit) → Prop) : List (Alt distZ) := [⟨.exit 0, Int × Unit, Unit, .cons 7 (.int .i64) (.nil), .nil, R0⟩]

theorem distForm (i : Int) (n : Int) (a : List Int) (b : List Int) (s : Int) (N : distZ → Prop) (R0 : distZ → (Int × Unit) → (Unit) → Prop) : ((runW Try.prog (KL [] []) 100).code none 84 39 (loopBody Try.prog 84 6) (mkT (distSl.av id (i, (n, (a, (b, (s, ()))))))) [] (stL false (distBl.obs id ())) (postL 0 distFs (distAlts R0) ((i, (n, (a, (b, (s, ()))))), ()) N)) =
  ( ifp (!leInt n i) (idxOk i a.length ∧ ∃ (x : Int), nth ((natOf i).mul (1 : Nat)) (List.flatMap Ei32.f a) = some (AV.int IntKind.i32 x) ∧ idxOk i b.length ∧ ∃
  (x_1 : Int), nth ((natOf i).mul (1 : Nat)) (List.flatMap Ei32.f b) = some (AV.int IntKind.i32 x_1) ∧ True ∧ ∃ (l : List Int), Wk (AV.vs (List.flatMap Ei32.f a)
  a.length a.length false none (1 : Nat)) (lst Ei32 l) ∧ ∃ (l_1 : List Int), Wk (AV.vs (List.flatMap Ei32.f b) b.length b.length false none (1 : Nat)) (lst Ei32
  l_1) ∧ true = true ∧ N ((wrapF IntKind.i64 (i.add (1 : Int)), n, l, l_1, wrapF IntKind.i64 (s.add (wrapF IntKind.i64 ((wrapF IntKind.i64 ((wrapF IntKind.i64
  x).sub (wrapF IntKind.i64 x_1))).mul (wrapF IntKind.i64 ((wrapF IntKind.i64 x).sub (wrapF IntKind.i64 x_1)))))), ()), ())) (True ∧ true = true ∧ R0 ((i, n, a,
  b, s, ()), ()) (s, ()) ())) := by kernel_rfl

def distInv : distZ → Prop := fun ((i, (n, (a, (b, (s, ()))))), ()) => ∃ k : Nat, i = k ∧ n = a.length ∧ k ≤ a.length ∧ a.length ≤ 1024 ∧ a.length = b.length ∧ wide a ∧ wide b ∧ 0 ≤ s ∧ s ≤ k * 68719476736
def distMu : distZ → Nat := fun ((i, (n, (a, (b, (s, ()))))), ()) => a.length - i.toNat
def distR0 : distZ → (Int × Unit) → (Unit) → Prop := fun ((i, (n, (a, (b, (s, ()))))), ()) (r, _) _ => r = s + sqs (a.drop i.toNat) (b.drop i.toNat)
noncomputable def distC : LoopC := loopC 0 distFs (distAlts distR0) distInv

theorem distStep : stepsOk Try.prog (KL [] []) 100 84 39 (loopBody Try.prog 84 6) 0 false distFs (distAlts distR0) distInv distMu ⟨_, _, distSl, distBl, fun x y => (x, y)⟩ := by
  intro x y hz
  obtain ⟨i, n, a, b, s, _⟩ := x
  obtain _ := y
  refine (distForm i n a b s _ _).mpr ?_
  obtain ⟨k, rfl, rfl, hk, hl, hab, wa, wb, s0, s1⟩ := hz
  rw [ifp_lt]
  simp only [natOf_nat]
  split
  · rename_i h
    have hka : k < a.length := by simpa using h
    have hkb : k < b.length := by omega
    repeat (first
      | (refine ⟨Nat.le_refl _, ?_⟩)
      | (rw [ifp_pos (roomy_small (by simp only [Nat.add_eq]; omega) (by decide))])
      | (refine ⟨trivial, ?_⟩)
      | (refine ⟨(rfl : true = true), ?_⟩)
      | (refine ⟨idx_ok (by omega), ?_⟩)
      | (refine ⟨idx_ok0 (by omega), ?_⟩)
      | (refine ⟨_, nth_int (by omega), ?_⟩)
      | (refine ⟨_, _, _, _, _, _, nth_lst (by omega), ?_⟩)
      | (refine ⟨_, _, _, _, _, _, nth_lst0 (by omega), ?_⟩)
      | (refine ⟨_, Wk.refl _, ?_⟩)
      | (rw [ifp_pos rfl])
      | (refine ⟨(rfl : (_ : List Nat) = _), ?_⟩)
      | (refine ⟨(rfl : (_ : Code) = _), ?_⟩))
    obtain ⟨e1, e2, e3⟩ := sq_step (wa _ (List.getElem_mem hka)) (wb _ (List.getElem_mem hkb)) s0 s1 (by omega)
    rw [wsucc (by omega), e1]
    refine ⟨⟨k + 1, rfl, rfl, hka, hl, hab, wa, wb, e2, e3⟩, ?_, fun c _ hr => ?_, trivial⟩
    · show a.length - (k + 1) < a.length - k; omega
    · obtain ⟨r, _⟩ := c
      have hr' : r = s + (a[k] - b[k]) * (a[k] - b[k]) + sqs (a.drop (k + 1)) (b.drop (k + 1)) := hr
      show r = s + sqs (a.drop k) (b.drop k)
      rw [hr', sqs_drop hka hkb]; omega
  · rename_i h
    repeat (first
      | (refine ⟨Nat.le_refl _, ?_⟩)
      | (rw [ifp_pos (roomy_small (by simp only [Nat.add_eq]; omega) (by decide))])
      | (refine ⟨trivial, ?_⟩)
      | (refine ⟨(rfl : true = true), ?_⟩)
      | (refine ⟨idx_ok (by omega), ?_⟩)
      | (refine ⟨idx_ok0 (by omega), ?_⟩)
      | (refine ⟨_, nth_int (by omega), ?_⟩)
      | (refine ⟨_, _, _, _, _, _, nth_lst (by omega), ?_⟩)
      | (refine ⟨_, _, _, _, _, _, nth_lst0 (by omega), ?_⟩)
      | (refine ⟨_, Wk.refl _, ?_⟩)
      | (rw [ifp_pos rfl])
      | (refine ⟨(rfl : (_ : List Nat) = _), ?_⟩)
      | (refine ⟨(rfl : (_ : Code) = _), ?_⟩))
    show s = s + sqs (a.drop k) (b.drop k)
    rw [List.drop_of_length_le (by simpa using h)]; simp [sqs]
theorem distOk : LoopOk Try.prog 84 39 (.loop (loopBody Try.prog 84 6)) distC := loop_ok distMu mixed (KL_ok (cc_nil)) rfl (steps_cons distStep (steps_nil))

/-! wayfinder/vec.Dist -/
noncomputable def distT : Tel ((List Int) × (List Int) × Unit) := .cons 0 (.lst Ei32) (.cons 1 (.lst Ei32) (.nil))

theorem distFn (a : List Int) (b : List Int) (Q : AV → Prop) : (callW Try.prog (runW Try.prog (KL [(106, pairK)] [(84, [(6, distC)])]) 200) 84 (distT.cells id (a, (b, ()))) (stE false) (fun x st => frzW st x Q)) =
  ( ∃ (l : List Int), Wk (AV.vs (List.flatMap Ei32.f a) a.length a.length false none (1 : Nat)) (lst Ei32 l) ∧ ∃ (l_1 : List Int), Wk (AV.vs (List.flatMap Ei32.f b)
  b.length b.length false none (1 : Nat)) (lst Ei32 l_1) ∧ pairPre (l, l_1, ()) ∧ ifp (!eqInt (pairV l l_1) (0 : Int)) (Q (AV.tuple [AV.int IntKind.i64 (0 :
  Int), AV.int IntKind.i64 (pairV l l_1)])) (LoopOk Try.prog (84 : FuncId) (39 : Nat) (loopBody Try.prog (84 : FuncId) (6 : Nat)).loop distC ∧ True ∧ True ∧ ∃ (l
  : List Int), Wk (AV.vs (List.flatMap Ei32.f a) a.length a.length false none (1 : Nat)) (lst Ei32 l) ∧ ∃ (l_2 : List Int), Wk (AV.vs (List.flatMap Ei32.f b)
  b.length b.length false none (1 : Nat)) (lst Ei32 l_2) ∧ true = true ∧ distInv (((0 : Int), Int.ofNat a.length, l, l_2, (0 : Int), ()), ()) ∧ (∀ (c : Int ×
  Unit) (d : Unit), distR0 (((0 : Int), Int.ofNat a.length, l, l_2, (0 : Int), ()), ()) c d → Q (AV.tuple [AV.int IntKind.i64 c.1, AV.int IntKind.i64 (0 :
  Int)])) ∧ True)) := by kernel_rfl

def distPre : (List Int) × (List Int) × Unit → Prop := fun (a, (b, ())) => True
noncomputable def distRes : (List Int) × (List Int) × Unit → AV := fun (a, (b, ())) => .tuple [.int .i64 (distD a b), .int .i64 (pairV a b)]
noncomputable def distK : CallC := valC distT distPre distRes

theorem distVal (a : List Int) (b : List Int) (hp : distPre (a, (b, ()))) : Val Try.prog 84 (distT.cells id (a, (b, ()))) (distRes (a, (b, ()))) := by
  refine Val.ofF mixed (KL_ok (cc_cons pairCc (cc_nil))) (freesC rfl _) (distFn a b) ?_
  repeat (first
    | (refine ⟨Nat.le_refl _, ?_⟩)
    | (rw [ifp_pos (roomy_small (by simp only [Nat.add_eq]; omega) (by decide))])
    | (refine ⟨trivial, ?_⟩)
    | (refine ⟨(rfl : true = true), ?_⟩)
    | (refine ⟨idx_ok (by omega), ?_⟩)
    | (refine ⟨idx_ok0 (by omega), ?_⟩)
    | (refine ⟨_, nth_int (by omega), ?_⟩)
    | (refine ⟨_, _, _, _, _, _, nth_lst (by omega), ?_⟩)
    | (refine ⟨_, _, _, _, _, _, nth_lst0 (by omega), ?_⟩)
    | (refine ⟨_, Wk.refl _, ?_⟩)
    | (rw [ifp_pos rfl])
    | (refine ⟨(rfl : (_ : List Nat) = _), ?_⟩)
    | (refine ⟨(rfl : (_ : Code) = _), ?_⟩))
  rw [ifp_ne]
  split
  · rename_i h
    obtain ⟨ca, cb, hab⟩ := pair_zero h
    obtain ⟨a1, a2, wa⟩ := cw_zero ca
    obtain ⟨b1, b2, wb⟩ := cw_zero cb
    refine ⟨distOk, ?_⟩
    repeat (first
      | (refine ⟨Nat.le_refl _, ?_⟩)
      | (rw [ifp_pos (roomy_small (by simp only [Nat.add_eq]; omega) (by decide))])
      | (refine ⟨trivial, ?_⟩)
      | (refine ⟨(rfl : true = true), ?_⟩)
      | (refine ⟨idx_ok (by omega), ?_⟩)
      | (refine ⟨idx_ok0 (by omega), ?_⟩)
      | (refine ⟨_, nth_int (by omega), ?_⟩)
      | (refine ⟨_, _, _, _, _, _, nth_lst (by omega), ?_⟩)
      | (refine ⟨_, _, _, _, _, _, nth_lst0 (by omega), ?_⟩)
      | (refine ⟨_, Wk.refl _, ?_⟩)
      | (rw [ifp_pos rfl])
      | (refine ⟨(rfl : (_ : List Nat) = _), ?_⟩)
      | (refine ⟨(rfl : (_ : Code) = _), ?_⟩))
    refine ⟨⟨0, rfl, rfl, by omega, a2, hab, wa, wb, by omega, by omega⟩, fun c _ hr => ?_, trivial⟩
    obtain ⟨r, _⟩ := c
    have hr' : r = 0 + sqs (a.drop 0) (b.drop 0) := hr
    exact tells_tuple ⟨tells_int (by show r = _; rw [hr', distD, if_pos h]; simp), tells_int (by rw [h]), trivial⟩
  · rename_i h
    exact tells_tuple ⟨tells_int (by rw [distD, if_neg h]), tells_int rfl, trivial⟩
theorem distCc : CcOk Try.prog 84 distK := val_ok rfl (fun ⟨a, ⟨b, _⟩⟩ h => distVal a b h)

/-! The loop rdist of wayfinder/wayfinderref03.Dist. -/
abbrev rdistZ := (Int × (List Int) × (List Int) × Int × Unit) × (Unit)
noncomputable def rdistSl : Tel (Int × (List Int) × (List Int) × Int × Unit) := .cons 8 (.int .i64) (.cons 0 (.lst Ei32) (.cons 1 (.lst Ei32) (.cons 7 (.int .i64) (.nil))))
noncomputable def rdistBl : BTel (Unit) := .nil
noncomputable def rdistFs : List (LForm rdistZ) := [⟨_, _, rdistSl, rdistBl, fun x y => (x, y)⟩]
noncomputable def rdistAlts (R0 : rdistZ → (Int × Unit) → (Unit) → Prop) : List (Alt rdistZ) := [⟨.exit 0, Int × Unit, Unit, .cons 7 (.int .i64) (.nil), .nil, R0⟩]

theorem rdistForm (i : Int) (a : List Int) (b : List Int) (s : Int) (N : rdistZ → Prop) (R0 : rdistZ → (Int × Unit) → (Unit) → Prop) : ((runW Try.prog (KL [] []) 100).code none 30 39 (loopBody Try.prog 30 6) (mkT (rdistSl.av id (i, (a, (b, (s, ())))))) [] (stL false (rdistBl.obs id ())) (postL 0 rdistFs (rdistAlts R0) ((i, (a, (b, (s, ())))), ()) N)) =
  ( ifp (!leInt (Int.ofNat a.length) i) (idxOk i a.length ∧ ∃ (x : Int), nth ((natOf i).mul (1 : Nat)) (List.flatMap Ei32.f a) = some (AV.int IntKind.i32 x) ∧ idxOk
  i b.length ∧ ∃ (x_1 : Int), nth ((natOf i).mul (1 : Nat)) (List.flatMap Ei32.f b) = some (AV.int IntKind.i32 x_1) ∧ True ∧ True ∧ True ∧ True ∧ True ∧ ∃ (l :
  List Int), Wk (AV.vs (List.flatMap Ei32.f a) a.length a.length false none (1 : Nat)) (lst Ei32 l) ∧ ∃ (l_1 : List Int), Wk (AV.vs (List.flatMap Ei32.f b)
  b.length b.length false none (1 : Nat)) (lst Ei32 l_1) ∧ true = true ∧ N ((wrapF IntKind.i64 (i.add (1 : Int)), l, l_1, wrapF IntKind.i64 (s.add (wrapF
  IntKind.i64 ((wrapF IntKind.i64 ((wrapF IntKind.i64 x).sub (wrapF IntKind.i64 x_1))).mul (wrapF IntKind.i64 ((wrapF IntKind.i64 x).sub (wrapF IntKind.i64
  x_1)))))), ()), ())) (True ∧ true = true ∧ R0 ((i, a, b, s, ()), ()) (s, ()) ())) := by kernel_rfl

def rdistInv : rdistZ → Prop := fun ((i, (a, (b, (s, ())))), ()) => ∃ k : Nat, i = k ∧ k ≤ a.length ∧ a.length ≤ 1024 ∧ a.length = b.length ∧ wide a ∧ wide b ∧ 0 ≤ s ∧ s ≤ k * 68719476736
def rdistMu : rdistZ → Nat := fun ((i, (a, (b, (s, ())))), ()) => a.length - i.toNat
def rdistR0 : rdistZ → (Int × Unit) → (Unit) → Prop := fun ((i, (a, (b, (s, ())))), ()) (r, _) _ => r = s + sqs (a.drop i.toNat) (b.drop i.toNat)
noncomputable def rdistC : LoopC := loopC 0 rdistFs (rdistAlts rdistR0) rdistInv

theorem rdistStep : stepsOk Try.prog (KL [] []) 100 30 39 (loopBody Try.prog 30 6) 0 false rdistFs (rdistAlts rdistR0) rdistInv rdistMu ⟨_, _, rdistSl, rdistBl, fun x y => (x, y)⟩ := by
  intro x y hz
  obtain ⟨i, a, b, s, _⟩ := x
  obtain _ := y
  refine (rdistForm i a b s _ _).mpr ?_
  obtain ⟨k, rfl, hk, hl, hab, wa, wb, s0, s1⟩ := hz
  rw [ifp_lt]
  simp only [natOf_nat]
  split
  · rename_i h
    have hka : k < a.length := by simpa using h
    have hkb : k < b.length := by omega
    repeat (first
      | (refine ⟨Nat.le_refl _, ?_⟩)
      | (rw [ifp_pos (roomy_small (by simp only [Nat.add_eq]; omega) (by decide))])
      | (refine ⟨trivial, ?_⟩)
      | (refine ⟨(rfl : true = true), ?_⟩)
      | (refine ⟨idx_ok (by omega), ?_⟩)
      | (refine ⟨idx_ok0 (by omega), ?_⟩)
      | (refine ⟨_, nth_int (by omega), ?_⟩)
      | (refine ⟨_, _, _, _, _, _, nth_lst (by omega), ?_⟩)
      | (refine ⟨_, _, _, _, _, _, nth_lst0 (by omega), ?_⟩)
      | (refine ⟨_, Wk.refl _, ?_⟩)
      | (rw [ifp_pos rfl])
      | (refine ⟨(rfl : (_ : List Nat) = _), ?_⟩)
      | (refine ⟨(rfl : (_ : Code) = _), ?_⟩))
    obtain ⟨e1, e2, e3⟩ := sq_step (wa _ (List.getElem_mem hka)) (wb _ (List.getElem_mem hkb)) s0 s1 (by omega)
    rw [wsucc (by omega), e1]
    refine ⟨⟨k + 1, rfl, hka, hl, hab, wa, wb, e2, e3⟩, ?_, fun c _ hr => ?_, trivial⟩
    · show a.length - (k + 1) < a.length - k; omega
    · obtain ⟨r, _⟩ := c
      have hr' : r = s + (a[k] - b[k]) * (a[k] - b[k]) + sqs (a.drop (k + 1)) (b.drop (k + 1)) := hr
      show r = s + sqs (a.drop k) (b.drop k)
      rw [hr', sqs_drop hka hkb]; omega
  · rename_i h
    repeat (first
      | (refine ⟨Nat.le_refl _, ?_⟩)
      | (rw [ifp_pos (roomy_small (by simp only [Nat.add_eq]; omega) (by decide))])
      | (refine ⟨trivial, ?_⟩)
      | (refine ⟨(rfl : true = true), ?_⟩)
      | (refine ⟨idx_ok (by omega), ?_⟩)
      | (refine ⟨idx_ok0 (by omega), ?_⟩)
      | (refine ⟨_, nth_int (by omega), ?_⟩)
      | (refine ⟨_, _, _, _, _, _, nth_lst (by omega), ?_⟩)
      | (refine ⟨_, _, _, _, _, _, nth_lst0 (by omega), ?_⟩)
      | (refine ⟨_, Wk.refl _, ?_⟩)
      | (rw [ifp_pos rfl])
      | (refine ⟨(rfl : (_ : List Nat) = _), ?_⟩)
      | (refine ⟨(rfl : (_ : Code) = _), ?_⟩))
    show s = s + sqs (a.drop k) (b.drop k)
    rw [List.drop_of_length_le (by simpa using h)]; simp [sqs]
theorem rdistOk : LoopOk Try.prog 30 39 (.loop (loopBody Try.prog 30 6)) rdistC := loop_ok rdistMu mixed (KL_ok (cc_nil)) rfl (steps_cons rdistStep (steps_nil))

/-! wayfinder/wayfinderref03.Dist -/
noncomputable def rdistT : Tel ((List Int) × (List Int) × Unit) := .cons 0 (.lst Ei32) (.cons 1 (.lst Ei32) (.nil))

theorem rdistFn (a : List Int) (b : List Int) (Q : AV → Prop) : (callW Try.prog (runW Try.prog (KL [(59, rboth3K)] [(30, [(6, rdistC)])]) 200) 30 (rdistT.cells id (a, (b, ()))) (stE false) (fun x st => frzW st x Q)) =
  ( ∃ (l : List Int), Wk (AV.vs (List.flatMap Ei32.f a) a.length a.length false none (1 : Nat)) (lst Ei32 l) ∧ ∃ (l_1 : List Int), Wk (AV.vs (List.flatMap Ei32.f b)
  b.length b.length false none (1 : Nat)) (lst Ei32 l_1) ∧ rboth3Pre (l, l_1, ()) ∧ ifp (!eqInt (pairV l l_1) (0 : Int)) (Q (AV.tuple [AV.int IntKind.i64 (0 :
  Int), AV.int IntKind.i64 (pairV l l_1)])) (LoopOk Try.prog (30 : FuncId) (39 : Nat) (loopBody Try.prog (30 : FuncId) (6 : Nat)).loop rdistC ∧ True ∧ True ∧ ∃
  (l : List Int), Wk (AV.vs (List.flatMap Ei32.f a) a.length a.length false none (1 : Nat)) (lst Ei32 l) ∧ ∃ (l_2 : List Int), Wk (AV.vs (List.flatMap Ei32.f b)
  b.length b.length false none (1 : Nat)) (lst Ei32 l_2) ∧ true = true ∧ rdistInv (((0 : Int), l, l_2, (0 : Int), ()), ()) ∧ (∀ (c : Int × Unit) (d : Unit),
  rdistR0 (((0 : Int), l, l_2, (0 : Int), ()), ()) c d → Q (AV.tuple [AV.int IntKind.i64 c.1, AV.int IntKind.i64 (0 : Int)])) ∧ True)) := by kernel_rfl

def rdistPre : (List Int) × (List Int) × Unit → Prop := fun (a, (b, ())) => True
noncomputable def rdistRes : (List Int) × (List Int) × Unit → AV := fun (a, (b, ())) => .tuple [.int .i64 (distD a b), .int .i64 (pairV a b)]
noncomputable def rdistK : CallC := valC rdistT rdistPre rdistRes

theorem rdistVal (a : List Int) (b : List Int) (hp : rdistPre (a, (b, ()))) : Val Try.prog 30 (rdistT.cells id (a, (b, ()))) (rdistRes (a, (b, ()))) := by
  refine Val.ofF mixed (KL_ok (cc_cons rboth3Cc (cc_nil))) (freesC rfl _) (rdistFn a b) ?_
  repeat (first
    | (refine ⟨Nat.le_refl _, ?_⟩)
    | (rw [ifp_pos (roomy_small (by simp only [Nat.add_eq]; omega) (by decide))])
    | (refine ⟨trivial, ?_⟩)
    | (refine ⟨(rfl : true = true), ?_⟩)
    | (refine ⟨idx_ok (by omega), ?_⟩)
    | (refine ⟨idx_ok0 (by omega), ?_⟩)
    | (refine ⟨_, nth_int (by omega), ?_⟩)
    | (refine ⟨_, _, _, _, _, _, nth_lst (by omega), ?_⟩)
    | (refine ⟨_, _, _, _, _, _, nth_lst0 (by omega), ?_⟩)
    | (refine ⟨_, Wk.refl _, ?_⟩)
    | (rw [ifp_pos rfl])
    | (refine ⟨(rfl : (_ : List Nat) = _), ?_⟩)
    | (refine ⟨(rfl : (_ : Code) = _), ?_⟩))
  rw [ifp_ne]
  split
  · rename_i h
    obtain ⟨ca, cb, hab⟩ := pair_zero h
    obtain ⟨a1, a2, wa⟩ := cw_zero ca
    obtain ⟨b1, b2, wb⟩ := cw_zero cb
    refine ⟨rdistOk, ?_⟩
    repeat (first
      | (refine ⟨Nat.le_refl _, ?_⟩)
      | (rw [ifp_pos (roomy_small (by simp only [Nat.add_eq]; omega) (by decide))])
      | (refine ⟨trivial, ?_⟩)
      | (refine ⟨(rfl : true = true), ?_⟩)
      | (refine ⟨idx_ok (by omega), ?_⟩)
      | (refine ⟨idx_ok0 (by omega), ?_⟩)
      | (refine ⟨_, nth_int (by omega), ?_⟩)
      | (refine ⟨_, _, _, _, _, _, nth_lst (by omega), ?_⟩)
      | (refine ⟨_, _, _, _, _, _, nth_lst0 (by omega), ?_⟩)
      | (refine ⟨_, Wk.refl _, ?_⟩)
      | (rw [ifp_pos rfl])
      | (refine ⟨(rfl : (_ : List Nat) = _), ?_⟩)
      | (refine ⟨(rfl : (_ : Code) = _), ?_⟩))
    refine ⟨⟨0, rfl, by omega, a2, hab, wa, wb, by omega, by omega⟩, fun c _ hr => ?_, trivial⟩
    obtain ⟨r, _⟩ := c
    have hr' : r = 0 + sqs (a.drop 0) (b.drop 0) := hr
    exact tells_tuple ⟨tells_int (by show r = _; rw [hr', distD, if_pos h]; simp), tells_int (by rw [h]), trivial⟩
  · rename_i h
    exact tells_tuple ⟨tells_int (by rw [distD, if_neg h]), tells_int rfl, trivial⟩
theorem rdistCc : CcOk Try.prog 30 rdistK := val_ok rfl (fun ⟨a, ⟨b, _⟩⟩ h => rdistVal a b h)

theorem head_get {c : List (List Int)} (h : 0 < c.length) : c[0] = c.headD [] := by cases c with | nil => simp at h | cons a l => rfl

/-! The loop idxc of slices.IndexFunc[[][]int32,[]int32]. -/
abbrev idxcZ := ((List (List Int)) × Unit × Int × Int × Unit) × (((List (List Int)) × Unit) × Unit)
noncomputable def idxcSl : Tel ((List (List Int)) × Unit × Int × Int × Unit) := .cons 0 (.lst Ell) (.cons 1 (.fnp 72 [0]) (.cons 7 (.int .i64) (.cons 8 (.int .i64) (.nil))))
noncomputable def idxcBl : BTel (((List (List Int)) × Unit) × Unit) := .cons (.row (.cons 0 (.lst Ell) (.nil))) (.nil)
noncomputable def idxcFs : List (LForm idxcZ) := [⟨_, _, idxcSl, idxcBl, fun x y => (x, y)⟩]
noncomputable def idxcAlts (R0 : idxcZ → (Unit) → (((List (List Int)) × Unit) × Unit) → Prop) (R1 : idxcZ → (Int × Unit) → (((List (List Int)) × Unit) × Unit) → Prop) : List (Alt idxcZ) := [⟨.exit 0, Unit, ((List (List Int)) × Unit) × Unit, .nil, .cons (.row (.cons 0 (.lst Ell) (.nil))) (.nil), R0⟩, ⟨.ret, Int × Unit, ((List (List Int)) × Unit) × Unit, .cons 4 (.int .i64) (.nil), .cons (.row (.cons 0 (.lst Ell) (.nil))) (.nil), R1⟩]

theorem idxcForm (l : List (List Int)) (n : Int) (i : Int) (c : List (List Int)) (N : idxcZ → Prop) (R0 : idxcZ → (Unit) → (((List (List Int)) × Unit) × Unit) → Prop) (R1 : idxcZ → (Int × Unit) → (((List (List Int)) × Unit) × Unit) → Prop) : ((runW Try.prog (KL [] []) 100).code none 92 19 (loopBody Try.prog 92 2) (mkT (idxcSl.av id (l, ((), (n, (i, ())))))) [] (stL false (idxcBl.obs id ((c, ()), ()))) (postL 1 idxcFs (idxcAlts R0 R1) ((l, ((), (n, (i, ())))), ((c, ()), ())) N)) =
  ( ifp (!leInt n i) (idxOk i l.length ∧ ∃ (l' : List AV), ∃ (n_1 : Nat), ∃ (c_1 : Nat), ∃ (x : Bool), ∃ (w : Option Nat), ∃ (e : Nat), nth ((natOf i).mul (1 :
  Nat)) (List.flatMap Ell.f l) = some (AV.vs l' n_1 c_1 x w e) ∧ idxOk (0 : Int) c.length ∧ ∃ (l' : List AV), ∃ (n_2 : Nat), ∃ (c_2 : Nat), ∃ (x : Bool), ∃ (w :
  Option Nat), ∃ (e : Nat), nth (0 : Nat) (List.flatMap Ell.f c) = some (AV.vs l' n_2 c_2 x w e) ∧ ifp (!eqInt (Int.ofNat n_1) (Int.ofNat n_2)) (True ∧ ∃ (l_1 :
  List (List Int)), Wk (AV.vs (List.flatMap Ell.f c) c.length c.length false none (1 : Nat)) (lst Ell l_1) ∧ true = true ∧ R1 ((l, (), n, i, ()), (c, ()), ())
  (i, ()) ((l_1, ()), ())) (True ∧ ∃ (l_1 : List (List Int)), Wk (AV.vs (List.flatMap Ell.f l) l.length l.length false none (1 : Nat)) (lst Ell l_1) ∧ ∃ (l :
  List (List Int)), Wk (AV.vs (List.flatMap Ell.f c) c.length c.length false none (1 : Nat)) (lst Ell l) ∧ true = true ∧ N ((l_1, (), n, wrapF IntKind.i64 (i.add
  (1 : Int)), ()), (l, ()), ()))) (True ∧ ∃ (l_1 : List (List Int)), Wk (AV.vs (List.flatMap Ell.f c) c.length c.length false none (1 : Nat)) (lst Ell l_1) ∧
  true = true ∧ R0 ((l, (), n, i, ()), (c, ()), ()) () ((l_1, ()), ()))) := by kernel_rfl

def idxcInv : idxcZ → Prop := fun ((l, ((), (n, (i, ())))), ((c, ()), ())) => ∃ k : Nat, i = k ∧ n = l.length ∧ k ≤ l.length ∧ l.length ≤ 4096 ∧ 0 < c.length ∧ (l.take k).any (fun v => decide (v.length ≠ (c.headD []).length)) = false
def idxcMu : idxcZ → Nat := fun ((l, ((), (n, (i, ())))), ((c, ()), ())) => l.length - i.toNat
def idxcR0 : idxcZ → (Unit) → (((List (List Int)) × Unit) × Unit) → Prop := fun ((l, ((), (n, (i, ())))), ((c, ()), ())) _ ((c2, _), _) => c2 = c ∧ l.any (fun v => decide (v.length ≠ (c.headD []).length)) = false
def idxcR1 : idxcZ → (Int × Unit) → (((List (List Int)) × Unit) × Unit) → Prop := fun ((l, ((), (n, (i, ())))), ((c, ()), ())) (r, _) ((c2, _), _) => c2 = c ∧ 0 ≤ r ∧ l.any (fun v => decide (v.length ≠ (c.headD []).length)) = true
noncomputable def idxcC : LoopC := loopC 1 idxcFs (idxcAlts idxcR0 idxcR1) idxcInv

theorem idxcStep : stepsOk Try.prog (KL [] []) 100 92 19 (loopBody Try.prog 92 2) 1 false idxcFs (idxcAlts idxcR0 idxcR1) idxcInv idxcMu ⟨_, _, idxcSl, idxcBl, fun x y => (x, y)⟩ := by
  intro x y hz
  obtain ⟨l, _, n, i, _⟩ := x
  obtain ⟨⟨c, _⟩, _⟩ := y
  refine (idxcForm l n i c _ _ _).mpr ?_
  obtain ⟨k, rfl, rfl, hk, hl, hc, ht⟩ := hz
  rw [ifp_lt]
  simp only [natOf_nat]
  split
  · rename_i h
    have hkl : k < l.length := by simpa using h
    repeat (first
      | (refine ⟨Nat.le_refl _, ?_⟩)
      | (rw [ifp_pos (roomy_small (by simp only [Nat.add_eq]; omega) (by decide))])
      | (refine ⟨trivial, ?_⟩)
      | (refine ⟨(rfl : true = true), ?_⟩)
      | (refine ⟨idx_ok (by omega), ?_⟩)
      | (refine ⟨idx_ok0 (by omega), ?_⟩)
      | (refine ⟨_, nth_int (by omega), ?_⟩)
      | (refine ⟨_, _, _, _, _, _, nth_lst (by omega), ?_⟩)
      | (refine ⟨_, _, _, _, _, _, nth_lst0 (by omega), ?_⟩)
      | (refine ⟨_, Wk.refl _, ?_⟩)
      | (rw [ifp_pos rfl])
      | (refine ⟨(rfl : (_ : List Nat) = _), ?_⟩)
      | (refine ⟨(rfl : (_ : Code) = _), ?_⟩))
    rw [ifp_ne]
    split
    · rename_i h2
      repeat (first
        | (refine ⟨Nat.le_refl _, ?_⟩)
        | (rw [ifp_pos (roomy_small (by simp only [Nat.add_eq]; omega) (by decide))])
        | (refine ⟨trivial, ?_⟩)
        | (refine ⟨(rfl : true = true), ?_⟩)
        | (refine ⟨idx_ok (by omega), ?_⟩)
        | (refine ⟨idx_ok0 (by omega), ?_⟩)
        | (refine ⟨_, nth_int (by omega), ?_⟩)
        | (refine ⟨_, _, _, _, _, _, nth_lst (by omega), ?_⟩)
        | (refine ⟨_, _, _, _, _, _, nth_lst0 (by omega), ?_⟩)
        | (refine ⟨_, Wk.refl _, ?_⟩)
        | (rw [ifp_pos rfl])
        | (refine ⟨(rfl : (_ : List Nat) = _), ?_⟩)
        | (refine ⟨(rfl : (_ : Code) = _), ?_⟩))
      rw [wsucc (by omega)]
      refine ⟨⟨k + 1, rfl, rfl, hkl, hl, hc, ?_⟩, ?_, fun _ _ h => h, fun _ _ h => h, trivial⟩
      · rw [any_take_succ hkl, ht, ← head_get hc]; simp; simp at h2; omega
      · show l.length - (k + 1) < l.length - k; omega
    · rename_i h2
      repeat (first
        | (refine ⟨Nat.le_refl _, ?_⟩)
        | (rw [ifp_pos (roomy_small (by simp only [Nat.add_eq]; omega) (by decide))])
        | (refine ⟨trivial, ?_⟩)
        | (refine ⟨(rfl : true = true), ?_⟩)
        | (refine ⟨idx_ok (by omega), ?_⟩)
        | (refine ⟨idx_ok0 (by omega), ?_⟩)
        | (refine ⟨_, nth_int (by omega), ?_⟩)
        | (refine ⟨_, _, _, _, _, _, nth_lst (by omega), ?_⟩)
        | (refine ⟨_, _, _, _, _, _, nth_lst0 (by omega), ?_⟩)
        | (refine ⟨_, Wk.refl _, ?_⟩)
        | (rw [ifp_pos rfl])
        | (refine ⟨(rfl : (_ : List Nat) = _), ?_⟩)
        | (refine ⟨(rfl : (_ : Code) = _), ?_⟩))
      exact ⟨rfl, by omega, any_of_get hkl (by rw [← head_get hc]; simp; simp at h2; omega)⟩
  · rename_i h
    repeat (first
      | (refine ⟨Nat.le_refl _, ?_⟩)
      | (rw [ifp_pos (roomy_small (by simp only [Nat.add_eq]; omega) (by decide))])
      | (refine ⟨trivial, ?_⟩)
      | (refine ⟨(rfl : true = true), ?_⟩)
      | (refine ⟨idx_ok (by omega), ?_⟩)
      | (refine ⟨idx_ok0 (by omega), ?_⟩)
      | (refine ⟨_, nth_int (by omega), ?_⟩)
      | (refine ⟨_, _, _, _, _, _, nth_lst (by omega), ?_⟩)
      | (refine ⟨_, _, _, _, _, _, nth_lst0 (by omega), ?_⟩)
      | (refine ⟨_, Wk.refl _, ?_⟩)
      | (rw [ifp_pos rfl])
      | (refine ⟨(rfl : (_ : List Nat) = _), ?_⟩)
      | (refine ⟨(rfl : (_ : Code) = _), ?_⟩))
    rw [take_all (by simpa using h)] at ht; exact ⟨rfl, ht⟩
theorem idxcOk : LoopOk Try.prog 92 19 (.loop (loopBody Try.prog 92 2)) idxcC := loop_ok idxcMu mixed (KL_ok (cc_nil)) rfl (steps_cons idxcStep (steps_nil))

/-! The loop check of wayfinder/cell.Check. -/
abbrev checkZ := (Unit × (List (List Int)) × Int × Int × Unit) × (((List (List Int)) × Unit) × Unit)
noncomputable def checkSl : Tel (Unit × (List (List Int)) × Int × Int × Unit) := .cons 1 (.ptr 0) (.cons 14 (.lst Ell) (.cons 15 (.int .i64) (.cons 16 (.int .i64) (.nil))))
noncomputable def checkBl : BTel (((List (List Int)) × Unit) × Unit) := .cons (.row (.cons 0 (.lst Ell) (.nil))) (.nil)
noncomputable def checkFs : List (LForm checkZ) := [⟨_, _, checkSl, checkBl, fun x y => (x, y)⟩]
noncomputable def checkAlts (R0 : checkZ → (Unit × Unit) → (((List (List Int)) × Unit) × Unit) → Prop) (R1 : checkZ → (Int × Unit) → (((List (List Int)) × Unit) × Unit) → Prop) : List (Alt checkZ) := [⟨.exit 0, Unit × Unit, ((List (List Int)) × Unit) × Unit, .cons 1 (.ptr 0) (.nil), .cons (.row (.cons 0 (.lst Ell) (.nil))) (.nil), R0⟩, ⟨.ret, Int × Unit, ((List (List Int)) × Unit) × Unit, .cons 2 (.int .i64) (.nil), .cons (.row (.cons 0 (.lst Ell) (.nil))) (.nil), R1⟩]

theorem checkForm (l : List (List Int)) (n : Int) (i : Int) (c : List (List Int)) (N : checkZ → Prop) (R0 : checkZ → (Unit × Unit) → (((List (List Int)) × Unit) × Unit) → Prop) (R1 : checkZ → (Int × Unit) → (((List (List Int)) × Unit) × Unit) → Prop) : ((runW Try.prog (KL [(70, cwK)] []) 100).code none 43 29 (loopBody Try.prog 43 4) (mkT (checkSl.av id ((), (l, (n, (i, ())))))) [] (stL false (checkBl.obs id ((c, ()), ()))) (postL 1 checkFs (checkAlts R0 R1) (((), (l, (n, (i, ())))), ((c, ()), ())) N)) =
  ( ifp (!leInt n i) (idxOk i l.length ∧ ∃ (l' : List AV), ∃ (n_1 : Nat), ∃ (c_1 : Nat), ∃ (x : Bool), ∃ (w : Option Nat), ∃ (e : Nat), nth ((natOf i).mul (1 :
  Nat)) (List.flatMap Ell.f l) = some (AV.vs l' n_1 c_1 x w e) ∧ ∃ (l_1 : List Int), Wk (AV.vs l' n_1 c_1 x w e) (lst Ei32 l_1) ∧ cwPre (l_1, ()) ∧ ifp (!eqInt
  (cw l_1) (0 : Int)) (True ∧ ∃ (l_2 : List (List Int)), Wk (AV.vs (List.flatMap Ell.f c) c.length c.length false none (1 : Nat)) (lst Ell l_2) ∧ true = true ∧
  R1 (((), l, n, i, ()), (c, ()), ()) (cw l_1, ()) ((l_2, ()), ())) (True ∧ ∃ (l_2 : List (List Int)), Wk (AV.vs (List.flatMap Ell.f l) l.length l.length false
  none (1 : Nat)) (lst Ell l_2) ∧ ∃ (l : List (List Int)), Wk (AV.vs (List.flatMap Ell.f c) c.length c.length false none (1 : Nat)) (lst Ell l) ∧ true = true ∧ N
  (((), l_2, n, wrapF IntKind.i64 (i.add (1 : Int)), ()), (l, ()), ()))) (True ∧ ∃ (l_1 : List (List Int)), Wk (AV.vs (List.flatMap Ell.f c) c.length c.length
  false none (1 : Nat)) (lst Ell l_1) ∧ true = true ∧ R0 (((), l, n, i, ()), (c, ()), ()) ((), ()) ((l_1, ()), ()))) := by kernel_rfl

def checkInv : checkZ → Prop := fun (((), (l, (n, (i, ())))), ((c, ()), ())) => ∃ k : Nat, i = k ∧ n = l.length ∧ k ≤ l.length ∧ l.length ≤ 4096 ∧ (l.take k).all (fun v => decide (cw v = 0)) = true
def checkMu : checkZ → Nat := fun (((), (l, (n, (i, ())))), ((c, ()), ())) => l.length - i.toNat
def checkR0 : checkZ → (Unit × Unit) → (((List (List Int)) × Unit) × Unit) → Prop := fun (((), (l, (n, (i, ())))), ((c, ()), ())) _ ((c2, _), _) => c2 = c ∧ l.all (fun v => decide (cw v = 0)) = true
def checkR1 : checkZ → (Int × Unit) → (((List (List Int)) × Unit) × Unit) → Prop := fun (((), (l, (n, (i, ())))), ((c, ()), ())) (r, _) ((c2, _), _) => c2 = c ∧ ∃ k : Nat, ∃ h : k < l.length, (l.take k).all (fun v => decide (cw v = 0)) = true ∧ r = cw l[k] ∧ r ≠ 0
noncomputable def checkC : LoopC := loopC 1 checkFs (checkAlts checkR0 checkR1) checkInv

theorem checkStep : stepsOk Try.prog (KL [(70, cwK)] []) 100 43 29 (loopBody Try.prog 43 4) 1 false checkFs (checkAlts checkR0 checkR1) checkInv checkMu ⟨_, _, checkSl, checkBl, fun x y => (x, y)⟩ := by
  intro x y hz
  obtain ⟨_, l, n, i, _⟩ := x
  obtain ⟨⟨c, _⟩, _⟩ := y
  refine (checkForm l n i c _ _ _).mpr ?_
  obtain ⟨k, rfl, rfl, hk, hl, ht⟩ := hz
  rw [ifp_lt]
  simp only [natOf_nat]
  split
  · rename_i h
    have hkl : k < l.length := by simpa using h
    repeat (first
      | (refine ⟨Nat.le_refl _, ?_⟩)
      | (rw [ifp_pos (roomy_small (by simp only [Nat.add_eq]; omega) (by decide))])
      | (refine ⟨trivial, ?_⟩)
      | (refine ⟨(rfl : true = true), ?_⟩)
      | (refine ⟨idx_ok (by omega), ?_⟩)
      | (refine ⟨idx_ok0 (by omega), ?_⟩)
      | (refine ⟨_, nth_int (by omega), ?_⟩)
      | (refine ⟨_, _, _, _, _, _, nth_lst (by omega), ?_⟩)
      | (refine ⟨_, _, _, _, _, _, nth_lst0 (by omega), ?_⟩)
      | (refine ⟨_, Wk.refl _, ?_⟩)
      | (rw [ifp_pos rfl])
      | (refine ⟨(rfl : (_ : List Nat) = _), ?_⟩)
      | (refine ⟨(rfl : (_ : Code) = _), ?_⟩))
    rw [ifp_ne]
    split
    · rename_i h2
      repeat (first
        | (refine ⟨Nat.le_refl _, ?_⟩)
        | (rw [ifp_pos (roomy_small (by simp only [Nat.add_eq]; omega) (by decide))])
        | (refine ⟨trivial, ?_⟩)
        | (refine ⟨(rfl : true = true), ?_⟩)
        | (refine ⟨idx_ok (by omega), ?_⟩)
        | (refine ⟨idx_ok0 (by omega), ?_⟩)
        | (refine ⟨_, nth_int (by omega), ?_⟩)
        | (refine ⟨_, _, _, _, _, _, nth_lst (by omega), ?_⟩)
        | (refine ⟨_, _, _, _, _, _, nth_lst0 (by omega), ?_⟩)
        | (refine ⟨_, Wk.refl _, ?_⟩)
        | (rw [ifp_pos rfl])
        | (refine ⟨(rfl : (_ : List Nat) = _), ?_⟩)
        | (refine ⟨(rfl : (_ : Code) = _), ?_⟩))
      rw [wsucc (by omega)]
      refine ⟨⟨k + 1, rfl, rfl, hkl, hl, ?_⟩, ?_, fun _ _ h => h, fun _ _ h => h, trivial⟩
      · rw [all_take_succ hkl, ht, h2]; rfl
      · show l.length - (k + 1) < l.length - k; omega
    · rename_i h2
      repeat (first
        | (refine ⟨Nat.le_refl _, ?_⟩)
        | (rw [ifp_pos (roomy_small (by simp only [Nat.add_eq]; omega) (by decide))])
        | (refine ⟨trivial, ?_⟩)
        | (refine ⟨(rfl : true = true), ?_⟩)
        | (refine ⟨idx_ok (by omega), ?_⟩)
        | (refine ⟨idx_ok0 (by omega), ?_⟩)
        | (refine ⟨_, nth_int (by omega), ?_⟩)
        | (refine ⟨_, _, _, _, _, _, nth_lst (by omega), ?_⟩)
        | (refine ⟨_, _, _, _, _, _, nth_lst0 (by omega), ?_⟩)
        | (refine ⟨_, Wk.refl _, ?_⟩)
        | (rw [ifp_pos rfl])
        | (refine ⟨(rfl : (_ : List Nat) = _), ?_⟩)
        | (refine ⟨(rfl : (_ : Code) = _), ?_⟩))
      exact ⟨rfl, k, hkl, ht, rfl, h2⟩
  · rename_i h
    repeat (first
      | (refine ⟨Nat.le_refl _, ?_⟩)
      | (rw [ifp_pos (roomy_small (by simp only [Nat.add_eq]; omega) (by decide))])
      | (refine ⟨trivial, ?_⟩)
      | (refine ⟨(rfl : true = true), ?_⟩)
      | (refine ⟨idx_ok (by omega), ?_⟩)
      | (refine ⟨idx_ok0 (by omega), ?_⟩)
      | (refine ⟨_, nth_int (by omega), ?_⟩)
      | (refine ⟨_, _, _, _, _, _, nth_lst (by omega), ?_⟩)
      | (refine ⟨_, _, _, _, _, _, nth_lst0 (by omega), ?_⟩)
      | (refine ⟨_, Wk.refl _, ?_⟩)
      | (rw [ifp_pos rfl])
      | (refine ⟨(rfl : (_ : List Nat) = _), ?_⟩)
      | (refine ⟨(rfl : (_ : Code) = _), ?_⟩))
    rw [take_all (by simpa using h)] at ht; exact ⟨rfl, ht⟩
theorem checkOk : LoopOk Try.prog 43 29 (.loop (loopBody Try.prog 43 4)) checkC := loop_ok checkMu mixed (KL_ok (cc_cons cwCc (cc_nil))) rfl (steps_cons checkStep (steps_nil))

theorem checkV_zero {c : List (List Int)} (h : ¬ (c.length < 1 ∨ 4096 < c.length)) (ha : c.all (fun v => decide (cw v = 0)) = true) : checkV c = if c.any (fun v => decide (v.length ≠ (c.headD []).length)) then 2 else 0 := by
  have : c.find? (fun v => decide (cw v ≠ 0)) = none := by
    rw [List.find?_eq_none]; intro x hx; have := List.all_eq_true.1 ha x hx; simpa using this
  rw [checkV, if_neg h, this]
theorem checkV_first {c : List (List Int)} (h : ¬ (c.length < 1 ∨ 4096 < c.length)) {k : Nat} (hk : k < c.length) (ha : (c.take k).all (fun v => decide (cw v = 0)) = true) (hn : cw c[k] ≠ 0) : checkV c = cw c[k] := by
  have : c.find? (fun v => decide (cw v ≠ 0)) = some c[k] := by
    rw [List.find?_eq_some_iff_getElem]
    refine ⟨by simpa using hn, k, hk, rfl, fun j hj => ?_⟩
    have hm : c[j] ∈ c.take k := by rw [List.mem_take_iff_getElem]; exact ⟨j, by omega, rfl⟩
    have := List.all_eq_true.1 ha _ hm
    simpa using this
  rw [checkV, if_neg h, this]
theorem checkV_inv {c : List (List Int)} (h : checkV c = 0) : 1 ≤ c.length ∧ c.length ≤ 4096 ∧ (∀ x ∈ c, cw x = 0) ∧ ∀ x ∈ c, x.length = (c.headD []).length := by
  unfold checkV at h
  split at h
  · cases h
  · split at h
    · rename_i v hv
      have := List.find?_some hv
      simp at this; exact absurd h this
    · rename_i hv
      split at h
      · cases h
      · rename_i h1 h2
        refine ⟨by omega, by omega, fun x hx => ?_, fun x hx => ?_⟩
        · have := (List.find?_eq_none.1 hv) x hx; simpa using this
        · rw [Bool.not_eq_true] at h2; have := List.any_eq_false.1 h2 x hx; simpa using this
theorem bothV_inv {c : List (List Int)} {v : List Int} (h : bothV c v = 0) : checkV c = 0 ∧ cw v = 0 ∧ ∀ x ∈ c, pairV x v = 0 := by
  unfold bothV at h
  split at h
  · rename_i h1; exact absurd h h1
  · split at h
    · rename_i h1; exact absurd h h1
    · split at h
      · cases h
      · rename_i h1 h2 h3
        have h1' : checkV c = 0 := by simpa using h1
        have h2' : cw v = 0 := by simpa using h2
        obtain ⟨_, _, a, b⟩ := checkV_inv h1'
        refine ⟨h1', h2', fun x hx => ?_⟩
        have := b x hx
        simp [pairV, a x hx, h2']; omega

/-! wayfinder/cell.Check -/
noncomputable def checkT : Tel ((List (List Int)) × Unit) := .cons 0 (.lst Ell) (.nil)

theorem checkFn (c : List (List Int)) (Q : AV → Prop) : (callW Try.prog (runW Try.prog (KL [(70, cwK)] [(43, [(4, checkC)]), (92, [(2, idxcC)])]) 200) 43 (checkT.cells id (c, ())) (stE false) (fun x st => frzW st x Q)) =
  ( ifp (!leInt (1 : Int) (Int.ofNat c.length)) (Q (AV.int IntKind.i64 (2 : Int))) (ifp (!leInt (Int.ofNat c.length) (4096 : Int)) (Q (AV.int IntKind.i64 (2 :
  Int))) (LoopOk Try.prog (43 : FuncId) (29 : Nat) (loopBody Try.prog (43 : FuncId) (4 : Nat)).loop checkC ∧ True ∧ True ∧ ∃ (l : List (List Int)), Wk (AV.vs
  (List.flatMap Ell.f c) c.length c.length false none (1 : Nat)) (lst Ell l) ∧ ∃ (l_1 : List (List Int)), Wk (AV.vs (List.flatMap Ell.f c) c.length c.length
  false none (1 : Nat)) (lst Ell l_1) ∧ true = true ∧ checkInv (((), l, Int.ofNat c.length, (0 : Int), ()), (l_1, ()), ()) ∧ (∀ (c_1 : Unit × Unit) (d : (List
  (List Int) × Unit) × Unit), checkR0 (((), l, Int.ofNat c.length, (0 : Int), ()), (l_1, ()), ()) c_1 d → LoopOk Try.prog (92 : Nat) (19 : Nat) (loopBody
  Try.prog (92 : Nat) (2 : Nat)).loop idxcC ∧ True ∧ True ∧ ∃ (l : List (List Int)), Wk (AV.vs (List.flatMap Ell.f d.1.1) d.1.1.length d.1.1.length false none (1
  : Nat)) (lst Ell l) ∧ ∃ (l_2 : List (List Int)), Wk (AV.vs (List.flatMap Ell.f d.1.1) d.1.1.length d.1.1.length false none (1 : Nat)) (lst Ell l_2) ∧ true =
  true ∧ idxcInv ((l, (), Int.ofNat d.1.1.length, (0 : Int), ()), (l_2, ()), ()) ∧ (∀ (c : Unit) (d_1 : (List (List Int) × Unit) × Unit), idxcR0 ((l, (),
  Int.ofNat d.1.1.length, (0 : Int), ()), (l_2, ()), ()) c d_1 → Q (AV.int IntKind.i64 (0 : Int))) ∧ (∀ (c : Int × Unit) (d_1 : (List (List Int) × Unit) × Unit),
  idxcR1 ((l, (), Int.ofNat d.1.1.length, (0 : Int), ()), (l_2, ()), ()) c d_1 → ifp (leInt (0 : Int) c.1) (Q (AV.int IntKind.i64 (2 : Int))) (Q (AV.int
  IntKind.i64 (0 : Int)))) ∧ True) ∧ (∀ (c_1 : Int × Unit) (d : (List (List Int) × Unit) × Unit), checkR1 (((), l, Int.ofNat c.length, (0 : Int), ()), (l_1, ()),
  ()) c_1 d → Q (AV.int IntKind.i64 c_1.1)) ∧ True))) := by kernel_rfl

def checkPre : (List (List Int)) × Unit → Prop := fun (c, ()) => True
noncomputable def checkRes : (List (List Int)) × Unit → AV := fun (c, ()) => .int .i64 (checkV c)
noncomputable def checkK : CallC := valC checkT checkPre checkRes

theorem checkVal (c : List (List Int)) (hp : checkPre (c, ())) : Val Try.prog 43 (checkT.cells id (c, ())) (checkRes (c, ())) := by
  refine Val.ofF mixed (KL_ok (cc_cons cwCc (cc_nil))) (freesC rfl _) (checkFn c) ?_
  rw [ifp_lt, ifp_lt]
  split
  · rename_i h
    exact tells_int (by rw [checkV, if_pos (Or.inl (by simp at h; omega))])
  · rename_i h
    split
    · rename_i h2
      exact tells_int (by rw [checkV, if_pos (by simp at h2; omega)])
    · rename_i h2
      simp at h2
      have h1 : 0 < c.length := by simp only [Int.not_lt, Int.ofNat_eq_natCast] at h; omega
      have hc : ¬ (c.length < 1 ∨ 4096 < c.length) := by omega
      refine ⟨checkOk, ?_⟩
      repeat (first
        | (refine ⟨Nat.le_refl _, ?_⟩)
        | (rw [ifp_pos (roomy_small (by simp only [Nat.add_eq]; omega) (by decide))])
        | (refine ⟨trivial, ?_⟩)
        | (refine ⟨(rfl : true = true), ?_⟩)
        | (refine ⟨idx_ok (by omega), ?_⟩)
        | (refine ⟨idx_ok0 (by omega), ?_⟩)
        | (refine ⟨_, nth_int (by omega), ?_⟩)
        | (refine ⟨_, _, _, _, _, _, nth_lst (by omega), ?_⟩)
        | (refine ⟨_, _, _, _, _, _, nth_lst0 (by omega), ?_⟩)
        | (refine ⟨_, Wk.refl _, ?_⟩)
        | (rw [ifp_pos rfl])
        | (refine ⟨(rfl : (_ : List Nat) = _), ?_⟩)
        | (refine ⟨(rfl : (_ : Code) = _), ?_⟩))
      refine ⟨⟨0, rfl, rfl, by omega, by omega, by simp⟩, fun _ d hr => ?_, fun r d hr => ?_, trivial⟩
      · obtain ⟨⟨c2, _⟩, _⟩ := d
        obtain ⟨rfl, hr'⟩ := hr
        refine ⟨idxcOk, ?_⟩
        dsimp only
        repeat (first
          | (refine ⟨Nat.le_refl _, ?_⟩)
          | (rw [ifp_pos (roomy_small (by simp only [Nat.add_eq]; omega) (by decide))])
          | (refine ⟨trivial, ?_⟩)
          | (refine ⟨(rfl : true = true), ?_⟩)
          | (refine ⟨idx_ok (by omega), ?_⟩)
          | (refine ⟨idx_ok0 (by omega), ?_⟩)
          | (refine ⟨_, nth_int (by omega), ?_⟩)
          | (refine ⟨_, _, _, _, _, _, nth_lst (by omega), ?_⟩)
          | (refine ⟨_, _, _, _, _, _, nth_lst0 (by omega), ?_⟩)
          | (refine ⟨_, Wk.refl _, ?_⟩)
          | (rw [ifp_pos rfl])
          | (refine ⟨(rfl : (_ : List Nat) = _), ?_⟩)
          | (refine ⟨(rfl : (_ : Code) = _), ?_⟩))
        refine ⟨⟨0, rfl, rfl, by omega, by omega, by omega, by simp⟩, fun _ d hr => ?_, fun r d hr => ?_, trivial⟩
        · obtain ⟨⟨c3, _⟩, _⟩ := d
          obtain ⟨_, hr2⟩ := hr
          exact tells_int (by rw [checkV_zero hc hr']; rw [if_neg (by simpa using hr2)])
        · obtain ⟨⟨c3, _⟩, _⟩ := d
          obtain ⟨r, _⟩ := r
          obtain ⟨_, h0, hr2⟩ := hr
          rw [ifp_le, if_pos h0]
          exact tells_int (by rw [checkV_zero hc hr']; rw [if_pos (by simpa using hr2)])
      · obtain ⟨⟨c2, _⟩, _⟩ := d
        obtain ⟨r, _⟩ := r
        obtain ⟨_, k, hk, ha, hr', hn⟩ := hr
        exact tells_int (by show r = _; rw [hr', checkV_first hc hk ha (by rw [← hr']; exact hn)])
theorem checkCc : CcOk Try.prog 43 checkK := val_ok rfl (fun ⟨c, _⟩ h => checkVal c h)

/-! wayfinder/cell.both -/
noncomputable def bothT : Tel ((List (List Int)) × (List Int) × Unit) := .cons 0 (.lst Ell) (.cons 1 (.lst Ei32) (.nil))

theorem bothFn (c : List (List Int)) (v : List Int) (Q : AV → Prop) : (callW Try.prog (runW Try.prog (KL [(70, cwK), (43, checkK)] []) 200) 57 (bothT.cells id (c, (v, ()))) (stE false) (fun x st => frzW st x Q)) =
  ( ∃ (l : List (List Int)), Wk (AV.vs (List.flatMap Ell.f c) c.length c.length false none (1 : Nat)) (lst Ell l) ∧ checkPre (l, ()) ∧ ifp (!eqInt (checkV l) (0 :
  Int)) (Q (AV.int IntKind.i64 (checkV l))) (∃ (l : List Int), Wk (AV.vs (List.flatMap Ei32.f v) v.length v.length false none (1 : Nat)) (lst Ei32 l) ∧ cwPre (l,
  ()) ∧ ifp (!eqInt (cw l) (0 : Int)) (Q (AV.int IntKind.i64 (cw l))) (idxOk (0 : Int) c.length ∧ ∃ (l' : List AV), ∃ (n : Nat), ∃ (c_1 : Nat), ∃ (x : Bool), ∃
  (w : Option Nat), ∃ (e : Nat), nth (0 : Nat) (List.flatMap Ell.f c) = some (AV.vs l' n c_1 x w e) ∧ ifp (!eqInt (Int.ofNat v.length) (Int.ofNat n)) (Q (AV.int
  IntKind.i64 (2 : Int))) (Q (AV.int IntKind.i64 (0 : Int)))))) := by kernel_rfl

def bothPre : (List (List Int)) × (List Int) × Unit → Prop := fun (c, (v, ())) => True
noncomputable def bothRes : (List (List Int)) × (List Int) × Unit → AV := fun (c, (v, ())) => .int .i64 (bothV c v)
noncomputable def bothK : CallC := valC bothT bothPre bothRes

theorem bothVal (c : List (List Int)) (v : List Int) (hp : bothPre (c, (v, ()))) : Val Try.prog 57 (bothT.cells id (c, (v, ()))) (bothRes (c, (v, ()))) := by
  refine Val.ofF mixed (KL_ok (cc_cons cwCc (cc_cons checkCc (cc_nil)))) (freesC rfl _) (bothFn c v) ?_
  repeat (first
    | (refine ⟨Nat.le_refl _, ?_⟩)
    | (rw [ifp_pos (roomy_small (by simp only [Nat.add_eq]; omega) (by decide))])
    | (refine ⟨trivial, ?_⟩)
    | (refine ⟨(rfl : true = true), ?_⟩)
    | (refine ⟨idx_ok (by omega), ?_⟩)
    | (refine ⟨idx_ok0 (by omega), ?_⟩)
    | (refine ⟨_, nth_int (by omega), ?_⟩)
    | (refine ⟨_, _, _, _, _, _, nth_lst (by omega), ?_⟩)
    | (refine ⟨_, _, _, _, _, _, nth_lst0 (by omega), ?_⟩)
    | (refine ⟨_, Wk.refl _, ?_⟩)
    | (rw [ifp_pos rfl])
    | (refine ⟨(rfl : (_ : List Nat) = _), ?_⟩)
    | (refine ⟨(rfl : (_ : Code) = _), ?_⟩))
  rw [ifp_ne]
  split
  · rename_i h
    obtain ⟨h1, h2, h3, h4⟩ := checkV_inv h
    repeat (first
      | (refine ⟨Nat.le_refl _, ?_⟩)
      | (rw [ifp_pos (roomy_small (by simp only [Nat.add_eq]; omega) (by decide))])
      | (refine ⟨trivial, ?_⟩)
      | (refine ⟨(rfl : true = true), ?_⟩)
      | (refine ⟨idx_ok (by omega), ?_⟩)
      | (refine ⟨idx_ok0 (by omega), ?_⟩)
      | (refine ⟨_, nth_int (by omega), ?_⟩)
      | (refine ⟨_, _, _, _, _, _, nth_lst (by omega), ?_⟩)
      | (refine ⟨_, _, _, _, _, _, nth_lst0 (by omega), ?_⟩)
      | (refine ⟨_, Wk.refl _, ?_⟩)
      | (rw [ifp_pos rfl])
      | (refine ⟨(rfl : (_ : List Nat) = _), ?_⟩)
      | (refine ⟨(rfl : (_ : Code) = _), ?_⟩))
    rw [ifp_ne]
    split
    · rename_i h5
      repeat (first
        | (refine ⟨Nat.le_refl _, ?_⟩)
        | (rw [ifp_pos (roomy_small (by simp only [Nat.add_eq]; omega) (by decide))])
        | (refine ⟨trivial, ?_⟩)
        | (refine ⟨(rfl : true = true), ?_⟩)
        | (refine ⟨idx_ok (by omega), ?_⟩)
        | (refine ⟨idx_ok0 (by omega), ?_⟩)
        | (refine ⟨_, nth_int (by omega), ?_⟩)
        | (refine ⟨_, _, _, _, _, _, nth_lst (by omega), ?_⟩)
        | (refine ⟨_, _, _, _, _, _, nth_lst0 (by omega), ?_⟩)
        | (refine ⟨_, Wk.refl _, ?_⟩)
        | (rw [ifp_pos rfl])
        | (refine ⟨(rfl : (_ : List Nat) = _), ?_⟩)
        | (refine ⟨(rfl : (_ : Code) = _), ?_⟩))
      rw [ifp_ne]
      split
      · rename_i h6
        exact tells_int (by rw [bothV, if_neg (by simp [h]), if_neg (by simp [h5]), if_neg (by rw [← head_get h1]; simp at h6; omega)])
      · rename_i h6
        exact tells_int (by rw [bothV, if_neg (by simp [h]), if_neg (by simp [h5]), if_pos (by rw [← head_get h1]; simp at h6; omega)])
    · rename_i h5
      exact tells_int (by rw [bothV, if_neg (by simp [h]), if_pos h5])
  · rename_i h
    exact tells_int (by rw [bothV, if_pos h])
theorem bothCc : CcOk Try.prog 57 bothK := val_ok rfl (fun ⟨c, ⟨v, _⟩⟩ h => bothVal c v h)

def nearGo (v : List Int) : List (List Int) → Int → Int × Int → Int × Int
  | [], _, s => s
  | x :: c, i, s => nearGo v c (i + 1) (if s.2 < 0 ∨ sqs x v < s.2 then (i, sqs x v) else s)
def nearV (c : List (List Int)) (v : List Int) : Int × Int := if bothV c v = 0 then nearGo v c 0 (0, -1) else (0, 0)

/-! The loop near of wayfinder/cell.distances$1. -/
abbrev nearZ := (Unit × Unit × (List (List Int)) × Int × Int × Unit) × ((Unit × Unit × Unit) × Unit × (Int × Unit) × (Int × Unit) × ((List Int) × Unit) × Unit)
noncomputable def nearSl : Tel (Unit × Unit × (List (List Int)) × Int × Int × Unit) := .cons 0 (.yld 0) (.cons 2 (.ptr 4) (.cons 8 (.lst Ell) (.cons 9 (.int .i64) (.cons 10 (.int .i64) (.nil)))))
noncomputable def nearBl : BTel ((Unit × Unit × Unit) × Unit × (Int × Unit) × (Int × Unit) × ((List Int) × Unit) × Unit) := .cons (.loop 29 34 [21,22] (rangeAs Try.prog 29 8) (rangeBody Try.prog 29 8) .ready none (.cons 8 (.ptr 2) (.cons 9 (.ptr 3) (.nil))) 1) (.cons (.dfr) (.cons (.row (.cons 0 (.int .i64) (.nil))) (.cons (.row (.cons 0 (.int .i64) (.nil))) (.cons (.row (.cons 0 (.lst Ei32) (.nil))) (.nil)))))
noncomputable def nearFs : List (LForm nearZ) := [⟨_, _, nearSl, nearBl, fun x y => (x, y)⟩]
noncomputable def nearAlts (R0 : nearZ → (Unit) → ((Unit × Unit × Unit) × Unit × (Int × Unit) × (Int × Unit) × ((List Int) × Unit) × Unit) → Prop) : List (Alt nearZ) := [⟨.exit 0, Unit, (Unit × Unit × Unit) × Unit × (Int × Unit) × (Int × Unit) × ((List Int) × Unit) × Unit, .nil, .cons (.loop 29 34 [21,22] (rangeAs Try.prog 29 8) (rangeBody Try.prog 29 8) .ready none (.cons 8 (.ptr 2) (.cons 9 (.ptr 3) (.nil))) 1) (.cons (.dfr) (.cons (.row (.cons 0 (.int .i64) (.nil))) (.cons (.row (.cons 0 (.int .i64) (.nil))) (.cons (.row (.cons 0 (.lst Ei32) (.nil))) (.nil))))), R0⟩]

theorem nearForm (l : List (List Int)) (n : Int) (i : Int) (best : Int) (far : Int) (v : List Int) (N : nearZ → Prop) (R0 : nearZ → (Unit) → ((Unit × Unit × Unit) × Unit × (Int × Unit) × (Int × Unit) × ((List Int) × Unit) × Unit) → Prop) : ((runW Try.prog (KL [(84, distK)] []) 100).code none 83 27 (loopBody Try.prog 83 1) (mkT (nearSl.av id ((), ((), (l, (n, (i, ()))))))) [] (stL false (nearBl.obs id (((), ((), ())), ((), ((best, ()), ((far, ()), ((v, ()), ()))))))) (postL 5 nearFs (nearAlts R0) (((), ((), (l, (n, (i, ()))))), (((), ((), ())), ((), ((best, ()), ((far, ()), ((v, ()), ())))))) N)) =
  ( ifp (!leInt n i) (idxOk i l.length ∧ ∃ (l' : List AV), ∃ (n_1 : Nat), ∃ (c : Nat), ∃ (x : Bool), ∃ (w : Option Nat), ∃ (e : Nat), nth ((natOf i).mul (1 : Nat))
  (List.flatMap Ell.f l) = some (AV.vs l' n_1 c x w e) ∧ ∃ (l_1 : List Int), Wk (AV.vs l' n_1 c x w e) (lst Ei32 l_1) ∧ ∃ (l_2 : List Int), Wk (AV.vs
  (List.flatMap Ei32.f v) v.length v.length false none (1 : Nat)) (lst Ei32 l_2) ∧ distPre (l_1, l_2, ()) ∧ ifp (!leInt (0 : Int) far) (True ∧ ∃ (l_3 : List
  (List Int)), Wk (AV.vs (List.flatMap Ell.f l) l.length l.length false none (1 : Nat)) (lst Ell l_3) ∧ True ∧ [(21 : Nat), (22 : Nat)] = [(21 : Nat), (22 :
  Nat)] ∧ rangeAs Try.prog (29 : FuncId) (8 : Nat) = rangeAs Try.prog (29 : FuncId) (8 : Nat) ∧ rangeBody Try.prog (29 : FuncId) (8 : Nat) = rangeBody Try.prog
  (29 : FuncId) (8 : Nat) ∧ ∃ (l : List Int), Wk (AV.vs (List.flatMap Ei32.f v) v.length v.length false none (1 : Nat)) (lst Ei32 l) ∧ true = true ∧ N (((), (),
  l_3, n, wrapF IntKind.i64 (i.add (1 : Int)), ()), ((), (), ()), (), (i, ()), (distD l_1 l_2, ()), (l, ()), ())) (ifp (!leInt far (distD l_1 l_2)) (True ∧ ∃
  (l_3 : List (List Int)), Wk (AV.vs (List.flatMap Ell.f l) l.length l.length false none (1 : Nat)) (lst Ell l_3) ∧ True ∧ [(21 : Nat), (22 : Nat)] = [(21 :
  Nat), (22 : Nat)] ∧ rangeAs Try.prog (29 : FuncId) (8 : Nat) = rangeAs Try.prog (29 : FuncId) (8 : Nat) ∧ rangeBody Try.prog (29 : FuncId) (8 : Nat) =
  rangeBody Try.prog (29 : FuncId) (8 : Nat) ∧ ∃ (l : List Int), Wk (AV.vs (List.flatMap Ei32.f v) v.length v.length false none (1 : Nat)) (lst Ei32 l) ∧ true =
  true ∧ N (((), (), l_3, n, wrapF IntKind.i64 (i.add (1 : Int)), ()), ((), (), ()), (), (i, ()), (distD l_1 l_2, ()), (l, ()), ())) (True ∧ ∃ (l_3 : List (List
  Int)), Wk (AV.vs (List.flatMap Ell.f l) l.length l.length false none (1 : Nat)) (lst Ell l_3) ∧ True ∧ [(21 : Nat), (22 : Nat)] = [(21 : Nat), (22 : Nat)] ∧
  rangeAs Try.prog (29 : FuncId) (8 : Nat) = rangeAs Try.prog (29 : FuncId) (8 : Nat) ∧ rangeBody Try.prog (29 : FuncId) (8 : Nat) = rangeBody Try.prog (29 :
  FuncId) (8 : Nat) ∧ ∃ (l : List Int), Wk (AV.vs (List.flatMap Ei32.f v) v.length v.length false none (1 : Nat)) (lst Ei32 l) ∧ true = true ∧ N (((), (), l_3,
  n, wrapF IntKind.i64 (i.add (1 : Int)), ()), ((), (), ()), (), (best, ()), (far, ()), (l, ()), ())))) (True ∧ True ∧ [(21 : Nat), (22 : Nat)] = [(21 : Nat),
  (22 : Nat)] ∧ rangeAs Try.prog (29 : FuncId) (8 : Nat) = rangeAs Try.prog (29 : FuncId) (8 : Nat) ∧ rangeBody Try.prog (29 : FuncId) (8 : Nat) = rangeBody
  Try.prog (29 : FuncId) (8 : Nat) ∧ ∃ (l_1 : List Int), Wk (AV.vs (List.flatMap Ei32.f v) v.length v.length false none (1 : Nat)) (lst Ei32 l_1) ∧ true = true ∧
  R0 (((), (), l, n, i, ()), ((), (), ()), (), (best, ()), (far, ()), (v, ()), ()) () (((), (), ()), (), (best, ()), (far, ()), (l_1, ()), ()))) := by kernel_rfl

def nearInv : nearZ → Prop := fun (((), ((), (l, (n, (i, ()))))), (((), ((), ())), ((), ((best, ()), ((far, ()), ((v, ()), ())))))) => ∃ k : Nat, i = k ∧ n = l.length ∧ k ≤ l.length ∧ l.length ≤ 4096 ∧ ∀ x ∈ l, pairV x v = 0
def nearMu : nearZ → Nat := fun (((), ((), (l, (n, (i, ()))))), (((), ((), ())), ((), ((best, ()), ((far, ()), ((v, ()), ())))))) => l.length - i.toNat
def nearR0 : nearZ → (Unit) → ((Unit × Unit × Unit) × Unit × (Int × Unit) × (Int × Unit) × ((List Int) × Unit) × Unit) → Prop := fun (((), ((), (l, (n, (i, ()))))), (((), ((), ())), ((), ((best, ()), ((far, ()), ((v, ()), ())))))) _ (_, _, (b2, _), (f2, _), _, _) => (b2, f2) = nearGo v (l.drop i.toNat) i (best, far)
noncomputable def nearC : LoopC := loopC 5 nearFs (nearAlts nearR0) nearInv

theorem nearStep : stepsOk Try.prog (KL [(84, distK)] []) 100 83 27 (loopBody Try.prog 83 1) 5 false nearFs (nearAlts nearR0) nearInv nearMu ⟨_, _, nearSl, nearBl, fun x y => (x, y)⟩ := by
  intro x y hz
  obtain ⟨_, _, l, n, i, _⟩ := x
  obtain ⟨⟨_, _, _⟩, _, ⟨best, _⟩, ⟨far, _⟩, ⟨v, _⟩, _⟩ := y
  refine (nearForm l n i best far v _ _).mpr ?_
  obtain ⟨k, rfl, rfl, hk, hl, hp⟩ := hz
  rw [ifp_lt]
  simp only [natOf_nat]
  split
  · rename_i h
    have hkl : k < l.length := by simpa using h
    have hd : distD l[k] v = sqs l[k] v := by rw [distD, if_pos (hp _ (List.getElem_mem hkl))]
    repeat (first
      | (refine ⟨Nat.le_refl _, ?_⟩)
      | (rw [ifp_pos (roomy_small (by simp only [Nat.add_eq]; omega) (by decide))])
      | (refine ⟨trivial, ?_⟩)
      | (refine ⟨(rfl : true = true), ?_⟩)
      | (refine ⟨idx_ok (by omega), ?_⟩)
      | (refine ⟨idx_ok0 (by omega), ?_⟩)
      | (refine ⟨_, nth_int (by omega), ?_⟩)
      | (refine ⟨_, _, _, _, _, _, nth_lst (by omega), ?_⟩)
      | (refine ⟨_, _, _, _, _, _, nth_lst0 (by omega), ?_⟩)
      | (refine ⟨_, Wk.refl _, ?_⟩)
      | (rw [ifp_pos rfl])
      | (refine ⟨(rfl : (_ : List Nat) = _), ?_⟩)
      | (refine ⟨(rfl : (_ : Code) = _), ?_⟩))
    rw [ifp_lt, ifp_lt]
    have fin : ∀ b f : Int, (b, f) = (if far < 0 ∨ sqs l[k] v < far then ((k : Int), sqs l[k] v) else (best, far)) →
        nearInv (((), (), l, (l.length : Int), ((k + 1 : Nat) : Int), ()), ((), (), ()), (), (b, ()), (f, ()), (v, ()), ()) ∧
        nearMu (((), (), l, (l.length : Int), ((k + 1 : Nat) : Int), ()), ((), (), ()), (), (b, ()), (f, ()), (v, ()), ()) < nearMu (((), (), l, (l.length : Int), (k : Int), ()), ((), (), ()), (), (best, ()), (far, ()), (v, ()), ()) ∧
        altsMono (((), (), l, (l.length : Int), ((k + 1 : Nat) : Int), ()), ((), (), ()), (), (b, ()), (f, ()), (v, ()), ()) (((), (), l, (l.length : Int), (k : Int), ()), ((), (), ()), (), (best, ()), (far, ()), (v, ()), ()) (nearAlts nearR0) := by
      intro b f e
      refine ⟨⟨k + 1, rfl, rfl, hkl, hl, hp⟩, ?_, fun _ d hr => ?_, trivial⟩
      · show l.length - (k + 1) < l.length - k; omega
      · obtain ⟨_, _, ⟨b2, _⟩, ⟨f2, _⟩, _, _⟩ := d
        have hr' : (b2, f2) = nearGo v (l.drop (k + 1)) ((k + 1 : Nat) : Int) (b, f) := hr
        show (b2, f2) = nearGo v (l.drop k) k (best, far)
        rw [hr', drop_get hkl, nearGo, e]; rfl
    split
    · rename_i h2
      repeat (first
        | (refine ⟨Nat.le_refl _, ?_⟩)
        | (rw [ifp_pos (roomy_small (by simp only [Nat.add_eq]; omega) (by decide))])
        | (refine ⟨trivial, ?_⟩)
        | (refine ⟨(rfl : true = true), ?_⟩)
        | (refine ⟨idx_ok (by omega), ?_⟩)
        | (refine ⟨idx_ok0 (by omega), ?_⟩)
        | (refine ⟨_, nth_int (by omega), ?_⟩)
        | (refine ⟨_, _, _, _, _, _, nth_lst (by omega), ?_⟩)
        | (refine ⟨_, _, _, _, _, _, nth_lst0 (by omega), ?_⟩)
        | (refine ⟨_, Wk.refl _, ?_⟩)
        | (rw [ifp_pos rfl])
        | (refine ⟨(rfl : (_ : List Nat) = _), ?_⟩)
        | (refine ⟨(rfl : (_ : Code) = _), ?_⟩))
      rw [wsucc (by omega), hd]
      exact fin _ _ (by rw [if_pos (Or.inl h2)])
    · rename_i h2
      split
      · rename_i h3
        repeat (first
          | (refine ⟨Nat.le_refl _, ?_⟩)
          | (rw [ifp_pos (roomy_small (by simp only [Nat.add_eq]; omega) (by decide))])
          | (refine ⟨trivial, ?_⟩)
          | (refine ⟨(rfl : true = true), ?_⟩)
          | (refine ⟨idx_ok (by omega), ?_⟩)
          | (refine ⟨idx_ok0 (by omega), ?_⟩)
          | (refine ⟨_, nth_int (by omega), ?_⟩)
          | (refine ⟨_, _, _, _, _, _, nth_lst (by omega), ?_⟩)
          | (refine ⟨_, _, _, _, _, _, nth_lst0 (by omega), ?_⟩)
          | (refine ⟨_, Wk.refl _, ?_⟩)
          | (rw [ifp_pos rfl])
          | (refine ⟨(rfl : (_ : List Nat) = _), ?_⟩)
          | (refine ⟨(rfl : (_ : Code) = _), ?_⟩))
        rw [wsucc (by omega)]
        rw [hd] at h3 ⊢
        exact fin _ _ (by rw [if_pos (Or.inr h3)])
      · rename_i h3
        repeat (first
          | (refine ⟨Nat.le_refl _, ?_⟩)
          | (rw [ifp_pos (roomy_small (by simp only [Nat.add_eq]; omega) (by decide))])
          | (refine ⟨trivial, ?_⟩)
          | (refine ⟨(rfl : true = true), ?_⟩)
          | (refine ⟨idx_ok (by omega), ?_⟩)
          | (refine ⟨idx_ok0 (by omega), ?_⟩)
          | (refine ⟨_, nth_int (by omega), ?_⟩)
          | (refine ⟨_, _, _, _, _, _, nth_lst (by omega), ?_⟩)
          | (refine ⟨_, _, _, _, _, _, nth_lst0 (by omega), ?_⟩)
          | (refine ⟨_, Wk.refl _, ?_⟩)
          | (rw [ifp_pos rfl])
          | (refine ⟨(rfl : (_ : List Nat) = _), ?_⟩)
          | (refine ⟨(rfl : (_ : Code) = _), ?_⟩))
        rw [wsucc (by omega)]
        rw [hd] at h3
        exact fin _ _ (by rw [if_neg (by omega)])
  · rename_i h
    repeat (first
      | (refine ⟨Nat.le_refl _, ?_⟩)
      | (rw [ifp_pos (roomy_small (by simp only [Nat.add_eq]; omega) (by decide))])
      | (refine ⟨trivial, ?_⟩)
      | (refine ⟨(rfl : true = true), ?_⟩)
      | (refine ⟨idx_ok (by omega), ?_⟩)
      | (refine ⟨idx_ok0 (by omega), ?_⟩)
      | (refine ⟨_, nth_int (by omega), ?_⟩)
      | (refine ⟨_, _, _, _, _, _, nth_lst (by omega), ?_⟩)
      | (refine ⟨_, _, _, _, _, _, nth_lst0 (by omega), ?_⟩)
      | (refine ⟨_, Wk.refl _, ?_⟩)
      | (rw [ifp_pos rfl])
      | (refine ⟨(rfl : (_ : List Nat) = _), ?_⟩)
      | (refine ⟨(rfl : (_ : Code) = _), ?_⟩))
    show (best, far) = nearGo v (l.drop k) k (best, far)
    rw [List.drop_of_length_le (by simpa using h)]; rfl
theorem nearOk : LoopOk Try.prog 83 27 (.loop (loopBody Try.prog 83 1)) nearC := loop_ok nearMu mixed (KL_ok (cc_cons distCc (cc_nil))) rfl (steps_cons nearStep (steps_nil))

/-! wayfinder/cell.Nearest -/
noncomputable def nearestT : Tel ((List (List Int)) × (List Int) × Unit) := .cons 0 (.lst Ell) (.cons 1 (.lst Ei32) (.nil))

theorem nearestFn (c : List (List Int)) (v : List Int) (Q : AV → Prop) : (callW Try.prog (runW Try.prog (KL [(57, bothK), (84, distK)] [(83, [(1, nearC)])]) 200) 29 (nearestT.cells id (c, (v, ()))) (stE false) (fun x st => frzW st x Q)) =
  ( ∃ (l : List (List Int)), Wk (AV.vs (List.flatMap Ell.f c) c.length c.length false none (1 : Nat)) (lst Ell l) ∧ ∃ (l_1 : List Int), Wk (AV.vs (List.flatMap
  Ei32.f v) v.length v.length false none (1 : Nat)) (lst Ei32 l_1) ∧ bothPre (l, l_1, ()) ∧ ifp (!eqInt (bothV l l_1) (0 : Int)) (Q (AV.tuple [AV.int IntKind.i64
  (0 : Int), AV.int IntKind.i64 (0 : Int), AV.int IntKind.i64 (bothV l l_1)])) (LoopOk Try.prog (83 : Nat) (27 : Nat) (loopBody Try.prog (83 : Nat) (1 :
  Nat)).loop nearC ∧ True ∧ True ∧ ∃ (l : List (List Int)), Wk (AV.vs (List.flatMap Ell.f c) c.length c.length false none (1 : Nat)) (lst Ell l) ∧ True ∧ [(21 :
  Nat), (22 : Nat)] = [(21 : Nat), (22 : Nat)] ∧ rangeAs Try.prog (29 : FuncId) (8 : Nat) = rangeAs Try.prog (29 : FuncId) (8 : Nat) ∧ rangeBody Try.prog (29 :
  FuncId) (8 : Nat) = rangeBody Try.prog (29 : FuncId) (8 : Nat) ∧ ∃ (l_2 : List Int), Wk (AV.vs (List.flatMap Ei32.f v) v.length v.length false none (1 : Nat))
  (lst Ei32 l_2) ∧ true = true ∧ nearInv (((), (), l, Int.ofNat c.length, (0 : Int), ()), ((), (), ()), (), ((0 : Int), ()), ((-1 : Int), ()), (l_2, ()), ()) ∧
  (∀ (c_1 : Unit) (d : (Unit × Unit × Unit) × Unit × (Int × Unit) × (Int × Unit) × (List Int × Unit) × Unit), nearR0 (((), (), l, Int.ofNat c.length, (0 : Int),
  ()), ((), (), ()), (), ((0 : Int), ()), ((-1 : Int), ()), (l_2, ()), ()) c_1 d → True ∧ True ∧ Q (AV.tuple [AV.int IntKind.i64 d.2.2.1.1, AV.int IntKind.i64
  d.2.2.2.1.1, AV.int IntKind.i64 (0 : Int)])) ∧ True)) := by kernel_rfl

def nearestPre : (List (List Int)) × (List Int) × Unit → Prop := fun (c, (v, ())) => True
noncomputable def nearestRes : (List (List Int)) × (List Int) × Unit → AV := fun (c, (v, ())) => .tuple [.int .i64 (nearV c v).1, .int .i64 (nearV c v).2, .int .i64 (bothV c v)]
noncomputable def nearestK : CallC := valC nearestT nearestPre nearestRes

theorem nearestVal (c : List (List Int)) (v : List Int) (hp : nearestPre (c, (v, ()))) : Val Try.prog 29 (nearestT.cells id (c, (v, ()))) (nearestRes (c, (v, ()))) := by
  refine Val.ofF mixed (KL_ok (cc_cons bothCc (cc_cons distCc (cc_nil)))) (freesC rfl _) (nearestFn c v) ?_
  repeat (first
    | (refine ⟨Nat.le_refl _, ?_⟩)
    | (rw [ifp_pos (roomy_small (by simp only [Nat.add_eq]; omega) (by decide))])
    | (refine ⟨trivial, ?_⟩)
    | (refine ⟨(rfl : true = true), ?_⟩)
    | (refine ⟨idx_ok (by omega), ?_⟩)
    | (refine ⟨idx_ok0 (by omega), ?_⟩)
    | (refine ⟨_, nth_int (by omega), ?_⟩)
    | (refine ⟨_, _, _, _, _, _, nth_lst (by omega), ?_⟩)
    | (refine ⟨_, _, _, _, _, _, nth_lst0 (by omega), ?_⟩)
    | (refine ⟨_, Wk.refl _, ?_⟩)
    | (rw [ifp_pos rfl])
    | (refine ⟨(rfl : (_ : List Nat) = _), ?_⟩)
    | (refine ⟨(rfl : (_ : Code) = _), ?_⟩))
  rw [ifp_ne]
  split
  · rename_i h
    obtain ⟨h1, h2, h3⟩ := bothV_inv h
    obtain ⟨h4, h5, _⟩ := checkV_inv h1
    refine ⟨nearOk, ?_⟩
    repeat (first
      | (refine ⟨Nat.le_refl _, ?_⟩)
      | (rw [ifp_pos (roomy_small (by simp only [Nat.add_eq]; omega) (by decide))])
      | (refine ⟨trivial, ?_⟩)
      | (refine ⟨(rfl : true = true), ?_⟩)
      | (refine ⟨idx_ok (by omega), ?_⟩)
      | (refine ⟨idx_ok0 (by omega), ?_⟩)
      | (refine ⟨_, nth_int (by omega), ?_⟩)
      | (refine ⟨_, _, _, _, _, _, nth_lst (by omega), ?_⟩)
      | (refine ⟨_, _, _, _, _, _, nth_lst0 (by omega), ?_⟩)
      | (refine ⟨_, Wk.refl _, ?_⟩)
      | (rw [ifp_pos rfl])
      | (refine ⟨(rfl : (_ : List Nat) = _), ?_⟩)
      | (refine ⟨(rfl : (_ : Code) = _), ?_⟩))
    refine ⟨⟨0, rfl, rfl, by omega, by omega, h3⟩, fun _ d hr => ?_, trivial⟩
    obtain ⟨_, _, ⟨b2, _⟩, ⟨f2, _⟩, _, _⟩ := d
    have hr' : (b2, f2) = nearGo v (c.drop 0) 0 (0, -1) := hr
    have e : nearV c v = (b2, f2) := by rw [nearV, if_pos h, hr']; rfl
    refine ⟨trivial, trivial, ?_⟩
    exact tells_tuple ⟨tells_int (by rw [e]), tells_int (by rw [e]), tells_int (by rw [h]), trivial⟩
  · rename_i h
    have e : nearV c v = (0, 0) := by rw [nearV, if_neg h]
    exact tells_tuple ⟨tells_int (by rw [e]), tells_int (by rw [e]), tells_int rfl, trivial⟩
theorem nearestCc : CcOk Try.prog 29 nearestK := val_ok rfl (fun ⟨c, ⟨v, _⟩⟩ h => nearestVal c v h)

/-! wayfinder/wayfinderkit.Own[int32] -/
abbrev own32Z := ((List Int) × Unit) × (Unit)
noncomputable def own32T : Tel ((List Int) × Unit) := .cons 0 (.lst Ei32) (.nil)
noncomputable def own32Bl : BTel (Unit) := .nil
noncomputable def own32Res (R0 : own32Z → ((List Int) × Unit) → (Unit × Unit) → Prop) : List (Res own32Z) := [⟨(List Int) × Unit, Unit × Unit, .cons 0 (.own Ei32 0) (.nil), .cons (.spare) (.nil), R0⟩]

theorem own32Fn (l : List Int) (R0 : own32Z → ((List Int) × Unit) → (Unit × Unit) → Prop) : (callW Try.prog (runW Try.prog (KL [] []) 200) 34 (own32T.cells id (l, ())) (stL true (own32Bl.obs id ())) (fun v st => resAny 0 ((l, ()), ()) v st (own32Res R0))) =
  ( (List.flatMap Ei32.f l).length = l.length.mul (1 : Nat) ∧ ifp (allScalar (List.flatMap Ei32.f l) && true) (ifp (roomy (Nat.add (0 : Nat) l.length) (4 : Nat)) (∃
  (l_1 : List Int), (WkL ([] ++ List.flatMap Ei32.f l) (List.flatMap Ei32.f l_1) ∧ Nat.add (0 : Nat) l.length = l_1.length ∧ (1 : Nat) = (1 : Nat)) ∧ true = true
  ∧ R0 ((l, ()), ()) (l_1, ()) ((), ())) False) False) := by kernel_rfl

def own32Pre : own32Z → Prop := fun ((l, ()), ()) => l.length ≤ 1000000
def own32R0 : own32Z → ((List Int) × Unit) → (Unit × Unit) → Prop := fun ((l, ()), ()) (r, _) _ => r = l
noncomputable def own32K : CallC := callC 0 own32T own32Bl own32Pre (own32Res own32R0)

theorem own32Step (z : own32Z) (hp : own32Pre z) : callW Try.prog (runW Try.prog (KL [] []) 200) 34 (own32T.cells id z.1) (stL true (own32Bl.obs id z.2)) (fun v st => resAny 0 z v st (own32Res own32R0)) := by
  obtain ⟨⟨l, _⟩, _⟩ := z
  refine (own32Fn l _).mpr ?_
  have hp' : l.length ≤ 1000000 := hp
  refine ⟨Enc.flen Ei32 l, ?_⟩
  rw [ifp_pos (by rw [Enc.fscal Ei32]; rfl)]
  repeat (first
    | (refine ⟨Nat.le_refl _, ?_⟩)
    | (rw [ifp_pos (roomy_small (by simp only [Nat.add_eq]; omega) (by decide))])
    | (refine ⟨trivial, ?_⟩)
    | (refine ⟨(rfl : true = true), ?_⟩)
    | (refine ⟨idx_ok (by omega), ?_⟩)
    | (refine ⟨idx_ok0 (by omega), ?_⟩)
    | (refine ⟨_, nth_int (by omega), ?_⟩)
    | (refine ⟨_, _, _, _, _, _, nth_lst (by omega), ?_⟩)
    | (refine ⟨_, _, _, _, _, _, nth_lst0 (by omega), ?_⟩)
    | (refine ⟨_, Wk.refl _, ?_⟩)
    | (rw [ifp_pos rfl])
    | (refine ⟨(rfl : (_ : List Nat) = _), ?_⟩)
    | (refine ⟨(rfl : (_ : Code) = _), ?_⟩))
  exact ⟨l, ⟨by simpa using WkL.refl _, by simp, rfl⟩, rfl, rfl⟩
theorem own32Cc : CcOk Try.prog 34 own32K := call_ok mixed (KL_ok (cc_nil)) rfl own32Step

/-! The loop ownl of wayfinder/wayfinderkit.OwnLists[int32]. -/
abbrev ownlZ := ((List (List Int)) × (List (List Int)) × Int × Unit) × (Unit × Unit)
noncomputable def ownlSl : Tel ((List (List Int)) × (List (List Int)) × Int × Unit) := .cons 0 (.lst Ell) (.cons 3 (.own Ell 0) (.cons 4 (.int .i64) (.nil)))
noncomputable def ownlBl : BTel (Unit × Unit) := .cons (.spare) (.nil)
noncomputable def ownlSl0 : Tel ((List (List Int)) × Unit × Int × Unit) := .cons 0 (.lst Ell) (.cons 3 (.nilS) (.cons 4 (.int .i64) (.nil)))
noncomputable def ownlBl0 : BTel (Unit) := .nil
noncomputable def ownlZ0 : ((List (List Int)) × Unit × Int × Unit) → (Unit) → ownlZ := fun (l, ((), (i, ()))) () => ((l, ([], (i, ()))), ((), ()))
noncomputable def ownlFs : List (LForm ownlZ) := [⟨_, _, ownlSl, ownlBl, fun x y => (x, y)⟩, ⟨_, _, ownlSl0, ownlBl0, ownlZ0⟩]
noncomputable def ownlAlts (R0 : ownlZ → ((List (List Int)) × Unit) → (Unit × Unit) → Prop) (R1 : ownlZ → (Unit × Unit) → (Unit) → Prop) : List (Alt ownlZ) := [⟨.exit 0, (List (List Int)) × Unit, Unit × Unit, .cons 3 (.own Ell 0) (.nil), .cons (.spare) (.nil), R0⟩, ⟨.exit 0, Unit × Unit, Unit, .cons 3 (.nilS) (.nil), .nil, R1⟩]

theorem ownlForm (l : List (List Int)) (out : List (List Int)) (i : Int) (N : ownlZ → Prop) (R0 : ownlZ → ((List (List Int)) × Unit) → (Unit × Unit) → Prop) (R1 : ownlZ → (Unit × Unit) → (Unit) → Prop) : ((runW Try.prog (KL [(34, own32K)] []) 100).code none 33 20 (loopBody Try.prog 33 3) (mkT (ownlSl.av id (l, (out, (i, ()))))) [] (stL true (ownlBl.obs id ((), ()))) (postL 0 ownlFs (ownlAlts R0 R1) ((l, (out, (i, ()))), ((), ())) N)) =
  ( ifp (!leInt (Int.ofNat l.length) i) (idxOk i l.length ∧ ∃ (l' : List AV), ∃ (n : Nat), ∃ (c : Nat), ∃ (x : Bool), ∃ (w : Option Nat), ∃ (e : Nat), nth ((natOf
  i).mul (1 : Nat)) (List.flatMap Ell.f l) = some (AV.vs l' n c x w e) ∧ ∃ (l_1 : List Int), Wk (AV.vs l' n c x w e) (lst Ei32 l_1) ∧ true = true ∧ own32Pre
  ((l_1, ()), ()) ∧ (∀ (c : List Int × Unit) (d : Unit × Unit), own32R0 ((l_1, ()), ()) c d → (1 : Nat) ≤ (1 : Nat) ∧ ifp (roomy (out.length.add (1 : Nat)) (24 :
  Nat)) (True ∧ ((∃ (l_2 : List (List Int)), Wk (AV.vs (List.flatMap Ell.f l) l.length l.length false none (1 : Nat)) (lst Ell l_2) ∧ ∃ (l : List (List Int)),
  (WkL (List.flatMap Ell.f out ++ [AV.vs (List.flatMap Ei32.f c.1) c.1.length c.1.length false (some (1 : Nat)) (1 : Nat)]) (List.flatMap Ell.f l) ∧
  out.length.add (1 : Nat) = l.length ∧ (1 : Nat) = (1 : Nat)) ∧ true = true ∧ N ((l_2, l, wrapF IntKind.i64 (i.add (1 : Int)), ()), (), ())) ∨ ∃ (l_2 : List
  (List Int)), Wk (AV.vs (List.flatMap Ell.f l) l.length l.length false none (1 : Nat)) (lst Ell l_2) ∧ False)) False) ∧ True) ((True ∧ ∃ (l_1 : List (List
  Int)), (WkL (List.flatMap Ell.f out) (List.flatMap Ell.f l_1) ∧ out.length = l_1.length ∧ (1 : Nat) = (1 : Nat)) ∧ true = true ∧ R0 ((l, out, i, ()), (), ())
  (l_1, ()) ((), ())) ∨ True ∧ False)) := by kernel_rfl

theorem ownlForm0 (l : List (List Int)) (i : Int) (N : ownlZ → Prop) (R0 : ownlZ → ((List (List Int)) × Unit) → (Unit × Unit) → Prop) (R1 : ownlZ → (Unit × Unit) → (Unit) → Prop) : ((runW Try.prog (KL [(34, own32K)] []) 100).code none 33 20 (loopBody Try.prog 33 3) (mkT (ownlSl0.av id (l, ((), (i, ()))))) [] (stL true (ownlBl0.obs id ())) (postL 0 ownlFs (ownlAlts R0 R1) (ownlZ0 (l, ((), (i, ()))) ()) N)) =
  ( ifp (!leInt (Int.ofNat l.length) i) (idxOk i l.length ∧ ∃ (l' : List AV), ∃ (n : Nat), ∃ (c : Nat), ∃ (x : Bool), ∃ (w : Option Nat), ∃ (e : Nat), nth ((natOf
  i).mul (1 : Nat)) (List.flatMap Ell.f l) = some (AV.vs l' n c x w e) ∧ ∃ (l_1 : List Int), Wk (AV.vs l' n c x w e) (lst Ei32 l_1) ∧ true = true ∧ own32Pre
  ((l_1, ()), ()) ∧ (∀ (c : List Int × Unit) (d : Unit × Unit), own32R0 ((l_1, ()), ()) c d → (1 : Nat) ≤ (1 : Nat) ∧ True ∧ ((∃ (l_2 : List (List Int)), Wk
  (AV.vs (List.flatMap Ell.f l) l.length l.length false none (1 : Nat)) (lst Ell l_2) ∧ ∃ (l : List (List Int)), (WkL [AV.vs (List.flatMap Ei32.f c.1) c.1.length
  c.1.length false (some (0 : Nat)) (1 : Nat)] (List.flatMap Ell.f l) ∧ (1 : Nat) = l.length ∧ (1 : Nat) = (1 : Nat)) ∧ true = true ∧ N ((l_2, l, wrapF
  IntKind.i64 (i.add (1 : Int)), ()), (), ())) ∨ ∃ (l_2 : List (List Int)), Wk (AV.vs (List.flatMap Ell.f l) l.length l.length false none (1 : Nat)) (lst Ell
  l_2) ∧ False)) ∧ True) (True ∧ False ∨ True ∧ true = true ∧ R1 ((l, [], i, ()), (), ()) ((), ()) ())) := by kernel_rfl

def ownlInv : ownlZ → Prop := fun ((l, (out, (i, ()))), ((), ())) => ∃ k : Nat, i = k ∧ k ≤ l.length ∧ l.length ≤ 1000000 ∧ (∀ x ∈ l, x.length ≤ 1000000) ∧ out = l.take k
def ownlMu : ownlZ → Nat := fun ((l, (out, (i, ()))), ((), ())) => l.length - i.toNat
def ownlR0 : ownlZ → ((List (List Int)) × Unit) → (Unit × Unit) → Prop := fun ((l, (out, (i, ()))), ((), ())) (r, _) _ => r = l
def ownlR1 : ownlZ → (Unit × Unit) → (Unit) → Prop := fun ((l, (out, (i, ()))), ((), ())) _ _ => l = []
noncomputable def ownlC : LoopC := loopC 0 ownlFs (ownlAlts ownlR0 ownlR1) ownlInv

theorem ownlStep : stepsOk Try.prog (KL [(34, own32K)] []) 100 33 20 (loopBody Try.prog 33 3) 0 true ownlFs (ownlAlts ownlR0 ownlR1) ownlInv ownlMu ⟨_, _, ownlSl, ownlBl, fun x y => (x, y)⟩ := by
  intro x y hz
  obtain ⟨l, out, i, _⟩ := x
  obtain ⟨_, _⟩ := y
  refine (ownlForm l out i _ _ _).mpr ?_
  obtain ⟨k, rfl, hk, hl, hx, rfl⟩ := hz
  rw [ifp_lt]
  simp only [natOf_nat]
  have ht : (l.take k).length ≤ 1000000 := by rw [List.length_take]; omega
  split
  · rename_i h
    have hkl : k < l.length := by simpa using h
    repeat (first
      | (refine ⟨Nat.le_refl _, ?_⟩)
      | (rw [ifp_pos (roomy_small (by simp only [Nat.add_eq]; omega) (by decide))])
      | (refine ⟨trivial, ?_⟩)
      | (refine ⟨(rfl : true = true), ?_⟩)
      | (refine ⟨idx_ok (by omega), ?_⟩)
      | (refine ⟨idx_ok0 (by omega), ?_⟩)
      | (refine ⟨_, nth_int (by omega), ?_⟩)
      | (refine ⟨_, _, _, _, _, _, nth_lst (by omega), ?_⟩)
      | (refine ⟨_, _, _, _, _, _, nth_lst0 (by omega), ?_⟩)
      | (refine ⟨_, Wk.refl _, ?_⟩)
      | (rw [ifp_pos rfl])
      | (refine ⟨(rfl : (_ : List Nat) = _), ?_⟩)
      | (refine ⟨(rfl : (_ : Code) = _), ?_⟩))
    refine ⟨hx _ (List.getElem_mem hkl), fun c d hr => ?_, trivial⟩
    obtain ⟨r, _⟩ := c
    obtain rfl : r = l[k] := hr
    repeat (first
      | (refine ⟨Nat.le_refl _, ?_⟩)
      | (rw [ifp_pos (roomy_small (by simp only [Nat.add_eq]; omega) (by decide))])
      | (refine ⟨trivial, ?_⟩)
      | (refine ⟨(rfl : true = true), ?_⟩)
      | (refine ⟨idx_ok (by omega), ?_⟩)
      | (refine ⟨idx_ok0 (by omega), ?_⟩)
      | (refine ⟨_, nth_int (by omega), ?_⟩)
      | (refine ⟨_, _, _, _, _, _, nth_lst (by omega), ?_⟩)
      | (refine ⟨_, _, _, _, _, _, nth_lst0 (by omega), ?_⟩)
      | (refine ⟨_, Wk.refl _, ?_⟩)
      | (rw [ifp_pos rfl])
      | (refine ⟨(rfl : (_ : List Nat) = _), ?_⟩)
      | (refine ⟨(rfl : (_ : Code) = _), ?_⟩))
    refine Or.inl ⟨l, Wk.refl _, l.take (k + 1), ⟨?_, ?_, trivial⟩, trivial, ?_⟩
    · rw [← List.take_append_getElem hkl]; exact wkl_snoc ⟨wk_of_own, trivial⟩
    · rw [← List.take_append_getElem hkl]; exact len_snoc
    · rw [wsucc (by omega)]
      exact ⟨⟨k + 1, rfl, hkl, hl, hx, rfl⟩, by show l.length - (k + 1) < l.length - k; omega, fun _ _ h => h, fun _ _ h => h, trivial⟩
  · rename_i h
    have hkl : ¬ k < l.length := by simpa using h
    refine Or.inl ⟨trivial, l, ⟨?_, ?_, trivial⟩, trivial, rfl⟩
    · rw [take_all hkl]; exact WkL.refl _
    · rw [take_all hkl]
theorem ownlStep0 : stepsOk Try.prog (KL [(34, own32K)] []) 100 33 20 (loopBody Try.prog 33 3) 0 true ownlFs (ownlAlts ownlR0 ownlR1) ownlInv ownlMu ⟨_, _, ownlSl0, ownlBl0, ownlZ0⟩ := by
  intro x y hz
  obtain ⟨l, _, i, _⟩ := x
  obtain _ := y
  refine (ownlForm0 l i _ _ _).mpr ?_
  obtain ⟨k, rfl, hk, hl, hx, h0⟩ := hz
  rw [ifp_lt]
  simp only [natOf_nat]
  split
  · rename_i h
    have hkl : k < l.length := by simpa using h
    obtain rfl : k = 0 := by have := congrArg List.length h0; rw [List.length_take] at this; simp at this; omega
    repeat (first
      | (refine ⟨Nat.le_refl _, ?_⟩)
      | (rw [ifp_pos (roomy_small (by simp only [Nat.add_eq]; omega) (by decide))])
      | (refine ⟨trivial, ?_⟩)
      | (refine ⟨(rfl : true = true), ?_⟩)
      | (refine ⟨idx_ok (by omega), ?_⟩)
      | (refine ⟨idx_ok0 (by omega), ?_⟩)
      | (refine ⟨_, nth_int (by omega), ?_⟩)
      | (refine ⟨_, _, _, _, _, _, nth_lst (by omega), ?_⟩)
      | (refine ⟨_, _, _, _, _, _, nth_lst0 (by omega), ?_⟩)
      | (refine ⟨_, Wk.refl _, ?_⟩)
      | (rw [ifp_pos rfl])
      | (refine ⟨(rfl : (_ : List Nat) = _), ?_⟩)
      | (refine ⟨(rfl : (_ : Code) = _), ?_⟩))
    refine ⟨hx _ (List.getElem_mem hkl), fun c d hr => ?_, trivial⟩
    obtain ⟨r, _⟩ := c
    obtain rfl : r = l[0] := hr
    repeat (first
      | (refine ⟨Nat.le_refl _, ?_⟩)
      | (rw [ifp_pos (roomy_small (by simp only [Nat.add_eq]; omega) (by decide))])
      | (refine ⟨trivial, ?_⟩)
      | (refine ⟨(rfl : true = true), ?_⟩)
      | (refine ⟨idx_ok (by omega), ?_⟩)
      | (refine ⟨idx_ok0 (by omega), ?_⟩)
      | (refine ⟨_, nth_int (by omega), ?_⟩)
      | (refine ⟨_, _, _, _, _, _, nth_lst (by omega), ?_⟩)
      | (refine ⟨_, _, _, _, _, _, nth_lst0 (by omega), ?_⟩)
      | (refine ⟨_, Wk.refl _, ?_⟩)
      | (rw [ifp_pos rfl])
      | (refine ⟨(rfl : (_ : List Nat) = _), ?_⟩)
      | (refine ⟨(rfl : (_ : Code) = _), ?_⟩))
    refine Or.inl ⟨l, Wk.refl _, [l[0]], ⟨wkl_one ⟨wk_of_own, trivial⟩, by first | trivial | rfl, trivial⟩, trivial, ?_⟩
    rw [wsucc (by omega)]
    exact ⟨⟨1, rfl, hkl, hl, hx, by cases l with | nil => simp at hkl | cons a l => rfl⟩, by show l.length - 1 < l.length - 0; omega, fun _ _ h => h, fun _ _ h => h, trivial⟩
  · rename_i h
    have hkl : ¬ k < l.length := by simpa using h
    refine Or.inr ⟨trivial, trivial, ?_⟩
    have := congrArg List.length h0; rw [List.length_take] at this; simp at this; exact List.length_eq_zero_iff.1 (by omega)
theorem ownlOk : LoopOk Try.prog 33 20 (.loop (loopBody Try.prog 33 3)) ownlC := loop_ok ownlMu mixed (KL_ok (cc_cons own32Cc (cc_nil))) rfl (steps_cons ownlStep (steps_cons ownlStep0 (steps_nil)))

theorem lives13Ran : answersTrue ((run Try.prog 1000).call 27 [] st0) = true := by kernel_rfl
noncomputable def lives13K : CallC := valC .nil (fun _ => True) (fun _ => .bool true)
theorem lives13Cc : CcOk Try.prog 27 lives13K := val_ok rfl fun _ _ st => CallS.closed_ran mixed lives13Ran st

theorem sqs_nonneg : ∀ a b : List Int, 0 ≤ sqs a b
  | [], _ => by simp [sqs]
  | _ :: _, [] => by simp [sqs]
  | x :: a, y :: b => by
    have h1 := sqs_nonneg a b
    have h2 : 0 ≤ (x - y) * (x - y) := by
      rcases Int.le_total 0 (x - y) with h | h
      · exact Int.mul_nonneg h h
      · exact Int.mul_nonneg_of_nonpos_of_nonpos h h
    simp only [sqs]; omega
theorem nearGo_nonneg (v : List Int) : ∀ (c : List (List Int)) (i : Int) (s : Int × Int), 0 ≤ s.2 ∨ c ≠ [] → 0 ≤ (nearGo v c i s).2
  | [], i, s, h => by
    rcases h with h | h
    · exact h
    · exact absurd rfl h
  | x :: c, i, s, _ => by
    rw [nearGo]
    refine nearGo_nonneg v c _ _ (Or.inl ?_)
    have := sqs_nonneg x v
    split
    · exact this
    · rename_i h; omega
theorem nearGo_append (v x : List Int) : ∀ (c : List (List Int)) (i : Int) (s : Int × Int), nearGo v (c ++ [x]) i s =
    if (nearGo v c i s).2 < 0 ∨ sqs x v < (nearGo v c i s).2 then (i + c.length, sqs x v) else nearGo v c i s
  | [], i, s => by simp [nearGo]
  | y :: c, i, s => by
    rw [List.cons_append, nearGo, nearGo_append v x c, nearGo]
    simp only [List.length_cons]
    rw [show i + 1 + (c.length : Int) = i + ((c.length + 1 : Nat) : Int) by omega]
theorem nearV_bad {c : List (List Int)} {v : List Int} (h : bothV c v ≠ 0) : nearV c v = (0, 0) := by rw [nearV, if_neg h]
theorem more_law {c : List (List Int)} {one v : List Int} (h1 : bothV c v = 0) (h2 : bothV (c ++ [one]) v = 0) : nearV (c ++ [one]) v = if distD one v < (nearV c v).2 then ((c.length : Int), distD one v) else nearV c v := by
  obtain ⟨a1, _, _⟩ := bothV_inv h1
  obtain ⟨_, _, b3⟩ := bothV_inv h2
  obtain ⟨l1, _, _⟩ := checkV_inv a1
  have hd : distD one v = sqs one v := by rw [distD, if_pos (b3 one (by simp))]
  have hn : 0 ≤ (nearGo v c 0 (0, -1)).2 := nearGo_nonneg v c 0 _ (Or.inr (by intro e; rw [e] at l1; simp at l1))
  rw [nearV, if_pos h2, nearV, if_pos h1, nearGo_append, hd]
  by_cases h : sqs one v < (nearGo v c 0 (0, -1)).2
  · rw [if_pos (Or.inr h), if_pos h]; simp
  · rw [if_neg (by omega), if_neg h]
theorem lightV_inv {l : List (List Int)} {m n : Nat} (h : lightV l m n = true) : l.length ≤ m ∧ ∀ x ∈ l, x.length ≤ n := by
  simp only [lightV, Bool.and_eq_true, decide_eq_true_eq, List.all_eq_true] at h
  exact ⟨by omega, fun x hx => by have := h.2 x hx; omega⟩

end Go.Proofs.Ytfcdpdejoogapaa
