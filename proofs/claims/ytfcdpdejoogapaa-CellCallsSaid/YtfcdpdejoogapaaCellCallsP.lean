/- Forms and contracts, printed by gx.py. -/
import Derived.Test.YtfcdpdejoogapaaRows
import Derived.Test.YtfcdpdejoogapaaDvUse
import Derived.Test.YtfcdpdejoogapaaDvArg
import Derived.ProofKit
import Derived.Test.YtfcdpdejoogapaaBase
import Derived.Test.YtfcdpdejoogapaaCell
import Derived.Test.YtfcdpdejoogapaaCellB
import Derived.Test.YtfcdpdejoogapaaCellC
import Derived.Test.YtfcdpdejoogapaaSort
import Derived.Test.YtfcdpdejoogapaaDvSort
import Derived.Test.YtfcdpdejoogapaaDvHp
import Derived.Test.YtfcdpdejoogapaaRank
import Derived.Test.YtfcdpdejoogapaaDvStab
import Derived.Test.YtfcdpdejoogapaaCellD
namespace Go.Proofs.Ytfcdpdejoogapaa
open Go.Det Go.RowKit
set_option linter.unusedVariables false
set_option linter.unusedSimpArgs false
set_option maxRecDepth 100000
/-! The loop sameI of wayfinder/wayfinderkit.Same[int]. -/
abbrev sameIZ := ((List Int) × (List Int) × Int × Unit) × (Unit)
noncomputable def sameISl : Tel ((List Int) × (List Int) × Int × Unit) := .cons 0 (.lst Ei64) (.cons 1 (.lst Ei64) (.cons 5 (.int .i64) (.nil)))
noncomputable def sameIBl : BTel (Unit) := .nil
noncomputable def sameIFs : List (LForm sameIZ) := [⟨_, _, sameISl, sameIBl, fun x y => (x, y)⟩]
noncomputable def sameIAlts (R0 : sameIZ → (Unit) → (Unit) → Prop) (R1 : sameIZ → (Bool × Unit) → (Unit) → Prop) : List (Alt sameIZ) := [⟨.exit 0, Unit, Unit, .nil, .nil, R0⟩, ⟨.ret, Bool × Unit, Unit, .cons 4 (.bool) (.nil), .nil, R1⟩]

theorem sameIForm (a : List Int) (b : List Int) (i : Int) (N : sameIZ → Prop) (R0 : sameIZ → (Unit) → (Unit) → Prop) (R1 : sameIZ → (Bool × Unit) → (Unit) → Prop) : ((runW Try.prog (KL [] []) 100).code none 32 26 (loopBody Try.prog 32 4) (mkT (sameISl.av id (a, (b, (i, ()))))) [] (stL false (sameIBl.obs id ())) (postL 0 sameIFs (sameIAlts R0 R1) ((a, (b, (i, ()))), ()) N)) =
  ( ifp (!leInt (Int.ofNat a.length) i) (idxOk i a.length ∧ ∃ (x : Int), nth ((natOf i).mul (1 : Nat)) (List.flatMap Ei64.f a) = some (AV.int IntKind.i64 x) ∧ idxOk
  i b.length ∧ ∃ (x_1 : Int), nth ((natOf i).mul (1 : Nat)) (List.flatMap Ei64.f b) = some (AV.int IntKind.i64 x_1) ∧ ifp (!eqInt x x_1) (True ∧ True ∧ True ∧
  true = true ∧ R1 ((a, b, i, ()), ()) (false, ()) ()) (True ∧ True ∧ True ∧ ∃ (l : List Int), Wk (AV.vs (List.flatMap Ei64.f a) a.length a.length false none (1
  : Nat)) (lst Ei64 l) ∧ ∃ (l_1 : List Int), Wk (AV.vs (List.flatMap Ei64.f b) b.length b.length false none (1 : Nat)) (lst Ei64 l_1) ∧ true = true ∧ N ((l, l_1,
  wrapF IntKind.i64 (i.add (1 : Int)), ()), ()))) (True ∧ true = true ∧ R0 ((a, b, i, ()), ()) () ())) := by kernel_rfl

def sameIInv : sameIZ → Prop := fun ((a, (b, (i, ()))), ()) => ∃ k : Nat, i = k ∧ k ≤ a.length ∧ a.length < 9223372036854775807 ∧ a.length = b.length ∧ a.take k = b.take k
def sameIMu : sameIZ → Nat := fun ((a, (b, (i, ()))), ()) => a.length - i.toNat
def sameIR0 : sameIZ → (Unit) → (Unit) → Prop := fun ((a, (b, (i, ()))), ()) _ _ => a = b
def sameIR1 : sameIZ → (Bool × Unit) → (Unit) → Prop := fun ((a, (b, (i, ()))), ()) (r, _) _ => r = false ∧ a ≠ b
noncomputable def sameIC : LoopC := loopC 0 sameIFs (sameIAlts sameIR0 sameIR1) sameIInv

theorem sameIStep : stepsOk Try.prog (KL [] []) 100 32 26 (loopBody Try.prog 32 4) 0 false sameIFs (sameIAlts sameIR0 sameIR1) sameIInv sameIMu ⟨_, _, sameISl, sameIBl, fun x y => (x, y)⟩ := by
  intro x y hz
  obtain ⟨a, b, i, _⟩ := x
  obtain _ := y
  refine (sameIForm a b i _ _ _).mpr ?_
  obtain ⟨k, rfl, hk, hl, hab, ht⟩ := hz
  rw [ifp_lt]
  simp only [natOf_nat]
  split
  · rename_i h
    have hka : k < a.length := by simpa using h
    have hkb : k < b.length := by omega
    repeat (first
      | (refine ⟨Nat.le_refl _, ?_⟩)
      | (rw [ifp_pos (roomy_small (by simp only [Nat.add_eq]; omega) (by decide))])
      | (refine ⟨trivial, ?_⟩)
      | (refine ⟨(rfl : true = true), ?_⟩)
      | (refine ⟨idx_ok (by omega), ?_⟩)
      | (refine ⟨idx_ok0 (by omega), ?_⟩)
      | (refine ⟨_, nth_int (by omega), ?_⟩)
      | (refine ⟨_, _, _, _, _, _, nth_lst (by omega), ?_⟩)
      | (refine ⟨_, _, _, _, _, _, nth_lst0 (by omega), ?_⟩)
      | (refine ⟨_, Wk.refl _, ?_⟩)
      | (rw [ifp_pos rfl])
      | (refine ⟨(rfl : (_ : List Nat) = _), ?_⟩)
      | (refine ⟨(rfl : (_ : Code) = _), ?_⟩))
    rw [ifp_ne]
    split
    · rename_i h2
      repeat (first
        | (refine ⟨Nat.le_refl _, ?_⟩)
        | (rw [ifp_pos (roomy_small (by simp only [Nat.add_eq]; omega) (by decide))])
        | (refine ⟨trivial, ?_⟩)
        | (refine ⟨(rfl : true = true), ?_⟩)
        | (refine ⟨idx_ok (by omega), ?_⟩)
        | (refine ⟨idx_ok0 (by omega), ?_⟩)
        | (refine ⟨_, nth_int (by omega), ?_⟩)
        | (refine ⟨_, _, _, _, _, _, nth_lst (by omega), ?_⟩)
        | (refine ⟨_, _, _, _, _, _, nth_lst0 (by omega), ?_⟩)
        | (refine ⟨_, Wk.refl _, ?_⟩)
        | (rw [ifp_pos rfl])
        | (refine ⟨(rfl : (_ : List Nat) = _), ?_⟩)
        | (refine ⟨(rfl : (_ : Code) = _), ?_⟩))
      rw [wsucc (by omega)]
      refine ⟨⟨k + 1, rfl, hka, hl, hab, ?_⟩, by show a.length - (k + 1) < a.length - k; omega, fun _ _ h => h, fun _ _ h => h, trivial⟩
      rw [← List.take_append_getElem hka, ← List.take_append_getElem hkb, ht, h2]
    · rename_i h2
      repeat (first
        | (refine ⟨Nat.le_refl _, ?_⟩)
        | (rw [ifp_pos (roomy_small (by simp only [Nat.add_eq]; omega) (by decide))])
        | (refine ⟨trivial, ?_⟩)
        | (refine ⟨(rfl : true = true), ?_⟩)
        | (refine ⟨idx_ok (by omega), ?_⟩)
        | (refine ⟨idx_ok0 (by omega), ?_⟩)
        | (refine ⟨_, nth_int (by omega), ?_⟩)
        | (refine ⟨_, _, _, _, _, _, nth_lst (by omega), ?_⟩)
        | (refine ⟨_, _, _, _, _, _, nth_lst0 (by omega), ?_⟩)
        | (refine ⟨_, Wk.refl _, ?_⟩)
        | (rw [ifp_pos rfl])
        | (refine ⟨(rfl : (_ : List Nat) = _), ?_⟩)
        | (refine ⟨(rfl : (_ : Code) = _), ?_⟩))
      exact ⟨rfl, fun e => h2 (by subst e; rfl)⟩
  · rename_i h
    repeat (first
      | (refine ⟨Nat.le_refl _, ?_⟩)
      | (rw [ifp_pos (roomy_small (by simp only [Nat.add_eq]; omega) (by decide))])
      | (refine ⟨trivial, ?_⟩)
      | (refine ⟨(rfl : true = true), ?_⟩)
      | (refine ⟨idx_ok (by omega), ?_⟩)
      | (refine ⟨idx_ok0 (by omega), ?_⟩)
      | (refine ⟨_, nth_int (by omega), ?_⟩)
      | (refine ⟨_, _, _, _, _, _, nth_lst (by omega), ?_⟩)
      | (refine ⟨_, _, _, _, _, _, nth_lst0 (by omega), ?_⟩)
      | (refine ⟨_, Wk.refl _, ?_⟩)
      | (rw [ifp_pos rfl])
      | (refine ⟨(rfl : (_ : List Nat) = _), ?_⟩)
      | (refine ⟨(rfl : (_ : Code) = _), ?_⟩))
    rw [take_all (by simpa using h), take_all (by rw [← hab]; simpa using h)] at ht; exact ht
theorem sameIOk : LoopOk Try.prog 32 26 (.loop (loopBody Try.prog 32 4)) sameIC := loop_ok sameIMu mixed (KL_ok (cc_nil)) rfl (steps_cons sameIStep (steps_nil))

/-! wayfinder/wayfinderkit.Same[int] -/
noncomputable def sameIT : Tel ((List Int) × (List Int) × Unit) := .cons 0 (.lst Ei64) (.cons 1 (.lst Ei64) (.nil))

theorem sameIFn (a : List Int) (b : List Int) (Q : AV → Prop) : (callW Try.prog (runW Try.prog (KL [] [(32, [(4, sameIC)])]) 200) 32 (sameIT.cells id (a, (b, ()))) (stE false) (fun x st => frzW st x Q)) =
  ( ifp (!eqInt (Int.ofNat a.length) (Int.ofNat b.length)) (Q (AV.bool false)) (LoopOk Try.prog (32 : FuncId) (26 : Nat) (loopBody Try.prog (32 : FuncId) (4 :
  Nat)).loop sameIC ∧ True ∧ True ∧ ∃ (l : List Int), Wk (AV.vs (List.flatMap Ei64.f a) a.length a.length false none (1 : Nat)) (lst Ei64 l) ∧ ∃ (l_1 : List
  Int), Wk (AV.vs (List.flatMap Ei64.f b) b.length b.length false none (1 : Nat)) (lst Ei64 l_1) ∧ true = true ∧ sameIInv ((l, l_1, (0 : Int), ()), ()) ∧ (∀ (c d
  : Unit), sameIR0 ((l, l_1, (0 : Int), ()), ()) c d → Q (AV.bool true)) ∧ (∀ (c : Bool × Unit) (d : Unit), sameIR1 ((l, l_1, (0 : Int), ()), ()) c d → Q
  (AV.bool c.1)) ∧ True)) := by kernel_rfl

def sameIPre : (List Int) × (List Int) × Unit → Prop := fun (a, (b, ())) => a.length < 9223372036854775807
noncomputable def sameIRes : (List Int) × (List Int) × Unit → AV := fun (a, (b, ())) => .bool (decide (a = b))
noncomputable def sameIK : CallC := valC sameIT sameIPre sameIRes

theorem sameIVal (a : List Int) (b : List Int) (hp : sameIPre (a, (b, ()))) : Val Try.prog 32 (sameIT.cells id (a, (b, ()))) (sameIRes (a, (b, ()))) := by
  refine Val.ofF mixed (KL_ok (cc_nil)) (freesC rfl _) (sameIFn a b) ?_
  have hp' : a.length < 9223372036854775807 := hp
  rw [ifp_ne]
  split
  · rename_i h
    refine ⟨sameIOk, ?_⟩
    repeat (first
      | (refine ⟨Nat.le_refl _, ?_⟩)
      | (rw [ifp_pos (roomy_small (by simp only [Nat.add_eq]; omega) (by decide))])
      | (refine ⟨trivial, ?_⟩)
      | (refine ⟨(rfl : true = true), ?_⟩)
      | (refine ⟨idx_ok (by omega), ?_⟩)
      | (refine ⟨idx_ok0 (by omega), ?_⟩)
      | (refine ⟨_, nth_int (by omega), ?_⟩)
      | (refine ⟨_, _, _, _, _, _, nth_lst (by omega), ?_⟩)
      | (refine ⟨_, _, _, _, _, _, nth_lst0 (by omega), ?_⟩)
      | (refine ⟨_, Wk.refl _, ?_⟩)
      | (rw [ifp_pos rfl])
      | (refine ⟨(rfl : (_ : List Nat) = _), ?_⟩)
      | (refine ⟨(rfl : (_ : Code) = _), ?_⟩))
    refine ⟨⟨0, rfl, by omega, hp', by simp at h; omega, rfl⟩, fun _ _ hr => ?_, fun c _ hr => ?_, trivial⟩
    · exact tells_bool (by rw [decide_eq_true (show a = b from hr)])
    · obtain ⟨r, _⟩ := c
      obtain ⟨rfl, hr⟩ := hr
      exact tells_bool (by rw [decide_eq_false hr])
  · rename_i h
    exact tells_bool (by rw [decide_eq_false]; intro e; subst e; exact h rfl)
theorem sameICc : CcOk Try.prog 32 sameIK := val_ok rfl (fun ⟨a, ⟨b, _⟩⟩ h => sameIVal a b h)

/-! The loop sameB of wayfinder/wayfinderkit.Same[byte]. -/
abbrev sameBZ := ((List Int) × (List Int) × Int × Unit) × (Unit)
noncomputable def sameBSl : Tel ((List Int) × (List Int) × Int × Unit) := .cons 0 (.lst Eu8) (.cons 1 (.lst Eu8) (.cons 5 (.int .i64) (.nil)))
noncomputable def sameBBl : BTel (Unit) := .nil
noncomputable def sameBFs : List (LForm sameBZ) := [⟨_, _, sameBSl, sameBBl, fun x y => (x, y)⟩]
noncomputable def sameBAlts (R0 : sameBZ → (Unit) → (Unit) → Prop) (R1 : sameBZ → (Bool × Unit) → (Unit) → Prop) : List (Alt sameBZ) := [⟨.exit 0, Unit, Unit, .nil, .nil, R0⟩, ⟨.ret, Bool × Unit, Unit, .cons 4 (.bool) (.nil), .nil, R1⟩]

theorem sameBForm (a : List Int) (b : List Int) (i : Int) (N : sameBZ → Prop) (R0 : sameBZ → (Unit) → (Unit) → Prop) (R1 : sameBZ → (Bool × Unit) → (Unit) → Prop) : ((runW Try.prog (KL [] []) 100).code none 47 26 (loopBody Try.prog 47 4) (mkT (sameBSl.av id (a, (b, (i, ()))))) [] (stL false (sameBBl.obs id ())) (postL 0 sameBFs (sameBAlts R0 R1) ((a, (b, (i, ()))), ()) N)) =
  ( ifp (!leInt (Int.ofNat a.length) i) (idxOk i a.length ∧ ∃ (x : Int), nth ((natOf i).mul (1 : Nat)) (List.flatMap Eu8.f a) = some (AV.int IntKind.u8 x) ∧ idxOk i
  b.length ∧ ∃ (x_1 : Int), nth ((natOf i).mul (1 : Nat)) (List.flatMap Eu8.f b) = some (AV.int IntKind.u8 x_1) ∧ ifp (!eqInt x x_1) (True ∧ True ∧ True ∧ true =
  true ∧ R1 ((a, b, i, ()), ()) (false, ()) ()) (True ∧ True ∧ True ∧ ∃ (l : List Int), Wk (AV.vs (List.flatMap Eu8.f a) a.length a.length false none (1 : Nat))
  (lst Eu8 l) ∧ ∃ (l_1 : List Int), Wk (AV.vs (List.flatMap Eu8.f b) b.length b.length false none (1 : Nat)) (lst Eu8 l_1) ∧ true = true ∧ N ((l, l_1, wrapF
  IntKind.i64 (i.add (1 : Int)), ()), ()))) (True ∧ true = true ∧ R0 ((a, b, i, ()), ()) () ())) := by kernel_rfl

def sameBInv : sameBZ → Prop := fun ((a, (b, (i, ()))), ()) => ∃ k : Nat, i = k ∧ k ≤ a.length ∧ a.length < 9223372036854775807 ∧ a.length = b.length ∧ a.take k = b.take k
def sameBMu : sameBZ → Nat := fun ((a, (b, (i, ()))), ()) => a.length - i.toNat
def sameBR0 : sameBZ → (Unit) → (Unit) → Prop := fun ((a, (b, (i, ()))), ()) _ _ => a = b
def sameBR1 : sameBZ → (Bool × Unit) → (Unit) → Prop := fun ((a, (b, (i, ()))), ()) (r, _) _ => r = false ∧ a ≠ b
noncomputable def sameBC : LoopC := loopC 0 sameBFs (sameBAlts sameBR0 sameBR1) sameBInv

theorem sameBStep : stepsOk Try.prog (KL [] []) 100 47 26 (loopBody Try.prog 47 4) 0 false sameBFs (sameBAlts sameBR0 sameBR1) sameBInv sameBMu ⟨_, _, sameBSl, sameBBl, fun x y => (x, y)⟩ := by
  intro x y hz
  obtain ⟨a, b, i, _⟩ := x
  obtain _ := y
  refine (sameBForm a b i _ _ _).mpr ?_
  obtain ⟨k, rfl, hk, hl, hab, ht⟩ := hz
  rw [ifp_lt]
  simp only [natOf_nat]
  split
  · rename_i h
    have hka : k < a.length := by simpa using h
    have hkb : k < b.length := by omega
    repeat (first
      | (refine ⟨Nat.le_refl _, ?_⟩)
      | (rw [ifp_pos (roomy_small (by simp only [Nat.add_eq]; omega) (by decide))])
      | (refine ⟨trivial, ?_⟩)
      | (refine ⟨(rfl : true = true), ?_⟩)
      | (refine ⟨idx_ok (by omega), ?_⟩)
      | (refine ⟨idx_ok0 (by omega), ?_⟩)
      | (refine ⟨_, nth_int (by omega), ?_⟩)
      | (refine ⟨_, _, _, _, _, _, nth_lst (by omega), ?_⟩)
      | (refine ⟨_, _, _, _, _, _, nth_lst0 (by omega), ?_⟩)
      | (refine ⟨_, Wk.refl _, ?_⟩)
      | (rw [ifp_pos rfl])
      | (refine ⟨(rfl : (_ : List Nat) = _), ?_⟩)
      | (refine ⟨(rfl : (_ : Code) = _), ?_⟩))
    rw [ifp_ne]
    split
    · rename_i h2
      repeat (first
        | (refine ⟨Nat.le_refl _, ?_⟩)
        | (rw [ifp_pos (roomy_small (by simp only [Nat.add_eq]; omega) (by decide))])
        | (refine ⟨trivial, ?_⟩)
        | (refine ⟨(rfl : true = true), ?_⟩)
        | (refine ⟨idx_ok (by omega), ?_⟩)
        | (refine ⟨idx_ok0 (by omega), ?_⟩)
        | (refine ⟨_, nth_int (by omega), ?_⟩)
        | (refine ⟨_, _, _, _, _, _, nth_lst (by omega), ?_⟩)
        | (refine ⟨_, _, _, _, _, _, nth_lst0 (by omega), ?_⟩)
        | (refine ⟨_, Wk.refl _, ?_⟩)
        | (rw [ifp_pos rfl])
        | (refine ⟨(rfl : (_ : List Nat) = _), ?_⟩)
        | (refine ⟨(rfl : (_ : Code) = _), ?_⟩))
      rw [wsucc (by omega)]
      refine ⟨⟨k + 1, rfl, hka, hl, hab, ?_⟩, by show a.length - (k + 1) < a.length - k; omega, fun _ _ h => h, fun _ _ h => h, trivial⟩
      rw [← List.take_append_getElem hka, ← List.take_append_getElem hkb, ht, h2]
    · rename_i h2
      repeat (first
        | (refine ⟨Nat.le_refl _, ?_⟩)
        | (rw [ifp_pos (roomy_small (by simp only [Nat.add_eq]; omega) (by decide))])
        | (refine ⟨trivial, ?_⟩)
        | (refine ⟨(rfl : true = true), ?_⟩)
        | (refine ⟨idx_ok (by omega), ?_⟩)
        | (refine ⟨idx_ok0 (by omega), ?_⟩)
        | (refine ⟨_, nth_int (by omega), ?_⟩)
        | (refine ⟨_, _, _, _, _, _, nth_lst (by omega), ?_⟩)
        | (refine ⟨_, _, _, _, _, _, nth_lst0 (by omega), ?_⟩)
        | (refine ⟨_, Wk.refl _, ?_⟩)
        | (rw [ifp_pos rfl])
        | (refine ⟨(rfl : (_ : List Nat) = _), ?_⟩)
        | (refine ⟨(rfl : (_ : Code) = _), ?_⟩))
      exact ⟨rfl, fun e => h2 (by subst e; rfl)⟩
  · rename_i h
    repeat (first
      | (refine ⟨Nat.le_refl _, ?_⟩)
      | (rw [ifp_pos (roomy_small (by simp only [Nat.add_eq]; omega) (by decide))])
      | (refine ⟨trivial, ?_⟩)
      | (refine ⟨(rfl : true = true), ?_⟩)
      | (refine ⟨idx_ok (by omega), ?_⟩)
      | (refine ⟨idx_ok0 (by omega), ?_⟩)
      | (refine ⟨_, nth_int (by omega), ?_⟩)
      | (refine ⟨_, _, _, _, _, _, nth_lst (by omega), ?_⟩)
      | (refine ⟨_, _, _, _, _, _, nth_lst0 (by omega), ?_⟩)
      | (refine ⟨_, Wk.refl _, ?_⟩)
      | (rw [ifp_pos rfl])
      | (refine ⟨(rfl : (_ : List Nat) = _), ?_⟩)
      | (refine ⟨(rfl : (_ : Code) = _), ?_⟩))
    rw [take_all (by simpa using h), take_all (by rw [← hab]; simpa using h)] at ht; exact ht
theorem sameBOk : LoopOk Try.prog 47 26 (.loop (loopBody Try.prog 47 4)) sameBC := loop_ok sameBMu mixed (KL_ok (cc_nil)) rfl (steps_cons sameBStep (steps_nil))

/-! wayfinder/wayfinderkit.Same[byte] -/
noncomputable def sameBT : Tel ((List Int) × (List Int) × Unit) := .cons 0 (.lst Eu8) (.cons 1 (.lst Eu8) (.nil))

theorem sameBFn (a : List Int) (b : List Int) (Q : AV → Prop) : (callW Try.prog (runW Try.prog (KL [] [(47, [(4, sameBC)])]) 200) 47 (sameBT.cells id (a, (b, ()))) (stE false) (fun x st => frzW st x Q)) =
  ( ifp (!eqInt (Int.ofNat a.length) (Int.ofNat b.length)) (Q (AV.bool false)) (LoopOk Try.prog (47 : FuncId) (26 : Nat) (loopBody Try.prog (47 : FuncId) (4 :
  Nat)).loop sameBC ∧ True ∧ True ∧ ∃ (l : List Int), Wk (AV.vs (List.flatMap Eu8.f a) a.length a.length false none (1 : Nat)) (lst Eu8 l) ∧ ∃ (l_1 : List Int),
  Wk (AV.vs (List.flatMap Eu8.f b) b.length b.length false none (1 : Nat)) (lst Eu8 l_1) ∧ true = true ∧ sameBInv ((l, l_1, (0 : Int), ()), ()) ∧ (∀ (c d :
  Unit), sameBR0 ((l, l_1, (0 : Int), ()), ()) c d → Q (AV.bool true)) ∧ (∀ (c : Bool × Unit) (d : Unit), sameBR1 ((l, l_1, (0 : Int), ()), ()) c d → Q (AV.bool
  c.1)) ∧ True)) := by kernel_rfl

def sameBPre : (List Int) × (List Int) × Unit → Prop := fun (a, (b, ())) => a.length < 9223372036854775807
noncomputable def sameBRes : (List Int) × (List Int) × Unit → AV := fun (a, (b, ())) => .bool (decide (a = b))
noncomputable def sameBK : CallC := valC sameBT sameBPre sameBRes

theorem sameBVal (a : List Int) (b : List Int) (hp : sameBPre (a, (b, ()))) : Val Try.prog 47 (sameBT.cells id (a, (b, ()))) (sameBRes (a, (b, ()))) := by
  refine Val.ofF mixed (KL_ok (cc_nil)) (freesC rfl _) (sameBFn a b) ?_
  have hp' : a.length < 9223372036854775807 := hp
  rw [ifp_ne]
  split
  · rename_i h
    refine ⟨sameBOk, ?_⟩
    repeat (first
      | (refine ⟨Nat.le_refl _, ?_⟩)
      | (rw [ifp_pos (roomy_small (by simp only [Nat.add_eq]; omega) (by decide))])
      | (refine ⟨trivial, ?_⟩)
      | (refine ⟨(rfl : true = true), ?_⟩)
      | (refine ⟨idx_ok (by omega), ?_⟩)
      | (refine ⟨idx_ok0 (by omega), ?_⟩)
      | (refine ⟨_, nth_int (by omega), ?_⟩)
      | (refine ⟨_, _, _, _, _, _, nth_lst (by omega), ?_⟩)
      | (refine ⟨_, _, _, _, _, _, nth_lst0 (by omega), ?_⟩)
      | (refine ⟨_, Wk.refl _, ?_⟩)
      | (rw [ifp_pos rfl])
      | (refine ⟨(rfl : (_ : List Nat) = _), ?_⟩)
      | (refine ⟨(rfl : (_ : Code) = _), ?_⟩))
    refine ⟨⟨0, rfl, by omega, hp', by simp at h; omega, rfl⟩, fun _ _ hr => ?_, fun c _ hr => ?_, trivial⟩
    · exact tells_bool (by rw [decide_eq_true (show a = b from hr)])
    · obtain ⟨r, _⟩ := c
      obtain ⟨rfl, hr⟩ := hr
      exact tells_bool (by rw [decide_eq_false hr])
  · rename_i h
    exact tells_bool (by rw [decide_eq_false]; intro e; subst e; exact h rfl)
theorem sameBCc : CcOk Try.prog 47 sameBK := val_ok rfl (fun ⟨a, ⟨b, _⟩⟩ h => sameBVal a b h)

def sameITPre : (List Int) × (List Int) × Unit → Prop := fun (a, (b, ())) => sameIPre (a, (b, ())) ∧ (decide (a = b)) = true
noncomputable def sameITK : CallC := valC sameIT sameITPre (fun _ => .bool true)
theorem sameITCc : CcOk Try.prog 32 sameITK := val_ok rfl (fun ⟨a, ⟨b, _⟩⟩ h => by have := sameIVal a b h.1; rw [show sameIRes _ = .bool true from congrArg AV.bool h.2] at this; exact this)

def sameBTPre : (List Int) × (List Int) × Unit → Prop := fun (a, (b, ())) => sameBPre (a, (b, ())) ∧ (decide (a = b)) = true
noncomputable def sameBTK : CallC := valC sameBT sameBTPre (fun _ => .bool true)
theorem sameBTCc : CcOk Try.prog 47 sameBTK := val_ok rfl (fun ⟨a, ⟨b, _⟩⟩ h => by have := sameBVal a b h.1; rw [show sameBRes _ = .bool true from congrArg AV.bool h.2] at this; exact this)

def same32TPre : (List Int) × (List Int) × Unit → Prop := fun (a, (b, ())) => same32Pre (a, (b, ())) ∧ (decide (a = b)) = true
noncomputable def same32TK : CallC := valC same32T same32TPre (fun _ => .bool true)
theorem same32TCc : CcOk Try.prog 45 same32TK := val_ok rfl (fun ⟨a, ⟨b, _⟩⟩ h => by have := same32Val a b h.1; rw [show same32Res _ = .bool true from congrArg AV.bool h.2] at this; exact this)

def sameNTPre : (List Near) × (List Near) × Unit → Prop := fun (a, (b, ())) => sameNPre (a, (b, ())) ∧ (decide (a = b)) = true
noncomputable def sameNTK : CallC := valC sameNT sameNTPre (fun _ => .bool true)
theorem sameNTCc : CcOk Try.prog 17 sameNTK := val_ok rfl (fun ⟨a, ⟨b, _⟩⟩ h => by have := sameNVal a b h.1; rw [show sameNRes _ = .bool true from congrArg AV.bool h.2] at this; exact this)

def listsTPre : (List (List Int)) × (List (List Int)) × Unit → Prop := fun (a, (b, ())) => listsPre (a, (b, ())) ∧ (decide (a = b)) = true
noncomputable def listsTK : CallC := valC listsT listsTPre (fun _ => .bool true)
theorem listsTCc : CcOk Try.prog 46 listsTK := val_ok rfl (fun ⟨a, ⟨b, _⟩⟩ h => by have := listsVal a b h.1; rw [show listsRes _ = .bool true from congrArg AV.bool h.2] at this; exact this)

theorem wf_u8 {x : Int} (h : (Lit.int .u8 x).wf = true) : 0 ≤ x ∧ x < 256 := by
  simp [Lit.wf] at h
  have h1 : (0 : Int) ≤ x := h.1
  have h2 : x ≤ (255 : Int) := h.2
  omega

/-! The law CellCalls. -/
noncomputable def cellCallsT : Tel ((List (List Int)) × (List Int) × Int × Int × (List Int) × Unit) := .cons 0 (.lst Ell) (.cons 1 (.lst Ei32) (.cons 2 (.int .i64) (.cons 3 (.int .i64) (.cons 4 (.lst Eu8) (.nil)))))
abbrev cellCallsShapes : List Sh := [.slice (.slice (.int .i32)), .slice (.int .i32), .int .i64, .int .i64, .slice (.int .u8)]

theorem cellCallsFn (c : List (List Int)) (v : List Int) (n : Int) (d : Int) (x : List Int) : (callW Try.prog (runW Try.prog (KLX [(27, lives13K), (28, lightK), (34, own32K), (29, nearestK), (35, rnearK), (31, ordK), (36, rordK), (37, farK), (38, rfarK), (39, residK), (40, rresidK), (41, readK), (42, rreadK), (43, checkK), (44, rcheckK), (48, bytK), (49, rbytesK), (32, sameITK), (47, sameBTK), (45, same32TK), (17, sameNTK), (46, listsTK)] [(33, [(3, ownlC)])] [] [(8, [15])] []) 300) 8 (cellCallsT.cells id (c, (v, (n, (d, (x, ())))))) (stB true) (fun v _ => yesQ v)) =
  ( True ∧ ∃ (l : List (List Int)), Wk (AV.vs (List.flatMap Ell.f c) c.length c.length false none (1 : Nat)) (lst Ell l) ∧ lightPre (l, (80 : Int), (30 : Int), ())
  ∧ ifp (lightV l (80 : Int) (30 : Int)) (ifp (!leInt (Int.ofNat v.length) (30 : Int)) True (ifp (!leInt (Int.ofNat x.length) (2000 : Int)) True (LoopOk Try.prog
  (33 : Nat) (20 : Nat) (loopBody Try.prog (33 : Nat) (3 : Nat)).loop ownlC ∧ True ∧ True ∧ ((∃ (l : List (List Int)), Wk (AV.vs (List.flatMap Ell.f c) c.length
  c.length false none (1 : Nat)) (lst Ell l) ∧ False) ∨ ∃ (l : List (List Int)), Wk (AV.vs (List.flatMap Ell.f c) c.length c.length false none (1 : Nat)) (lst
  Ell l) ∧ true = true ∧ ownlInv ((l, [], (0 : Int), ()), (), ()) ∧ (∀ (c_1 : List (List Int) × Unit) (d_1 : Unit × Unit), ownlR0 ((l, [], (0 : Int), ()), (),
  ()) c_1 d_1 → ∃ (l : List Int), Wk (AV.vs (List.flatMap Ei32.f v) v.length v.length false none (1 : Nat)) (lst Ei32 l) ∧ true = true ∧ own32Pre ((l, ()), ()) ∧
  (∀ (c_2 : List Int × Unit) (d_2 : Unit × Unit), own32R0 ((l, ()), ()) c_2 d_2 → ∃ (l : List (List Int)), Wk (AV.vs (List.flatMap Ell.f c_1.1) c_1.1.length
  c_1.1.length false (some (0 : Nat)) (1 : Nat)) (lst Ell l) ∧ ∃ (l_1 : List Int), Wk (AV.vs (List.flatMap Ei32.f c_2.1) c_2.1.length c_2.1.length false (some (1
  : Nat)) (1 : Nat)) (lst Ei32 l_1) ∧ nearestPre (l, l_1, ()) ∧ ∃ (l_2 : List (List Int)), Wk (AV.vs (List.flatMap Ell.f c) c.length c.length false none (1 :
  Nat)) (lst Ell l_2) ∧ ∃ (l_3 : List Int), Wk (AV.vs (List.flatMap Ei32.f v) v.length v.length false none (1 : Nat)) (lst Ei32 l_3) ∧ rnearPre (l_2, l_3, ()) ∧
  ∃ (l_4 : List (List Int)), Wk (AV.vs (List.flatMap Ell.f c) c.length c.length false none (1 : Nat)) (lst Ell l_4) ∧ ∃ (l_5 : List Int), Wk (AV.vs (List.flatMap
  Ei32.f v) v.length v.length false none (1 : Nat)) (lst Ei32 l_5) ∧ ordPre (l_4, l_5, n, ()) ∧ ∃ (l_6 : List (List Int)), Wk (AV.vs (List.flatMap Ell.f c)
  c.length c.length false none (1 : Nat)) (lst Ell l_6) ∧ ∃ (l_7 : List Int), Wk (AV.vs (List.flatMap Ei32.f v) v.length v.length false none (1 : Nat)) (lst Ei32
  l_7) ∧ rordPre (l_6, l_7, n, ()) ∧ ∃ (l_8 : List (List Int)), Wk (AV.vs (List.flatMap Ell.f c) c.length c.length false none (1 : Nat)) (lst Ell l_8) ∧ ∃ (l_9 :
  List Int), Wk (AV.vs (List.flatMap Ei32.f v) v.length v.length false none (1 : Nat)) (lst Ei32 l_9) ∧ farPre (l_8, l_9, ()) ∧ ∃ (l_10 : List (List Int)), Wk
  (AV.vs (List.flatMap Ell.f c) c.length c.length false none (1 : Nat)) (lst Ell l_10) ∧ ∃ (l_11 : List Int), Wk (AV.vs (List.flatMap Ei32.f v) v.length v.length
  false none (1 : Nat)) (lst Ei32 l_11) ∧ rfarPre (l_10, l_11, ()) ∧ ∃ (l_12 : List (List Int)), Wk (AV.vs (List.flatMap Ell.f c) c.length c.length false none (1
  : Nat)) (lst Ell l_12) ∧ ∃ (l_13 : List Int), Wk (AV.vs (List.flatMap Ei32.f v) v.length v.length false none (1 : Nat)) (lst Ei32 l_13) ∧ residPre (l_12, l_13,
  ()) ∧ ∃ (l_14 : List (List Int)), Wk (AV.vs (List.flatMap Ell.f c) c.length c.length false none (1 : Nat)) (lst Ell l_14) ∧ ∃ (l_15 : List Int), Wk (AV.vs
  (List.flatMap Ei32.f v) v.length v.length false none (1 : Nat)) (lst Ei32 l_15) ∧ rresidPre (l_14, l_15, ()) ∧ ∃ (l_16 : List Int), Wk (AV.vs (List.flatMap
  Eu8.f x) x.length x.length false none (1 : Nat)) (lst Eu8 l_16) ∧ readPre (l_16, n, d, ()) ∧ ∃ (l_17 : List Int), Wk (AV.vs (List.flatMap Eu8.f x) x.length
  x.length false none (1 : Nat)) (lst Eu8 l_17) ∧ rreadPre (l_17, n, d, ()) ∧ ∃ (l_18 : List (List Int)), Wk (AV.vs (List.flatMap Ell.f c) c.length c.length
  false none (1 : Nat)) (lst Ell l_18) ∧ checkPre (l_18, ()) ∧ ∃ (l_19 : List (List Int)), Wk (AV.vs (List.flatMap Ell.f c) c.length c.length false none (1 :
  Nat)) (lst Ell l_19) ∧ rcheckPre (l_19, ()) ∧ checkV l_18 = checkV l_19 ∧ (nearV l l_1).fst = (nearV l_2 l_3).fst ∧ (nearV l l_1).snd = (nearV l_2 l_3).snd ∧
  bothV l l_1 = bothV l_2 l_3 ∧ ∃ (l : List Int), Wk (AV.vs (List.flatMap Ei64.f (ordL l_4 l_5 n)) (ordL l_4 l_5 n).length (ordL l_4 l_5 n).length false none (1
  : Nat)) (lst Ei64 l) ∧ ∃ (l_20 : List Int), Wk (AV.vs (List.flatMap Ei64.f (ordL l_6 l_7 n)) (ordL l_6 l_7 n).length (ordL l_6 l_7 n).length false none (1 :
  Nat)) (lst Ei64 l_20) ∧ sameITPre (l, l_20, ()) ∧ ordE l_4 l_5 n = ordE l_6 l_7 n ∧ ∃ (l : List Near), Wk (AV.vs (List.flatMap En.f (farV l_8 l_9)) (farV l_8
  l_9).length (farV l_8 l_9).length false none (2 : Nat)) (lst En l) ∧ ∃ (l_21 : List Near), Wk (AV.vs (List.flatMap En.f (farV l_10 l_11)) (farV l_10
  l_11).length (farV l_10 l_11).length false none (2 : Nat)) (lst En l_21) ∧ sameNTPre (l, l_21, ()) ∧ bothV l_8 l_9 = bothV l_10 l_11 ∧ (residV l_12 l_13).fst =
  (residV l_14 l_15).fst ∧ ∃ (l : List Int), Wk (AV.vs (List.flatMap Ei32.f (residV l_12 l_13).snd.fst) (residV l_12 l_13).snd.fst.length (residV l_12
  l_13).snd.fst.length false none (1 : Nat)) (lst Ei32 l) ∧ ∃ (l_22 : List Int), Wk (AV.vs (List.flatMap Ei32.f (residV l_14 l_15).snd.fst) (residV l_14
  l_15).snd.fst.length (residV l_14 l_15).snd.fst.length false none (1 : Nat)) (lst Ei32 l_22) ∧ same32TPre (l, l_22, ()) ∧ (residV l_12 l_13).snd.snd = (residV
  l_14 l_15).snd.snd ∧ ∃ (l : List (List Int)), Wk (AV.vs (List.flatMap Ell.f (readV l_16 n d).fst) (readV l_16 n d).fst.length (readV l_16 n d).fst.length false
  none (1 : Nat)) (lst Ell l) ∧ ∃ (l_23 : List (List Int)), Wk (AV.vs (List.flatMap Ell.f (readV l_17 n d).fst) (readV l_17 n d).fst.length (readV l_17 n
  d).fst.length false none (1 : Nat)) (lst Ell l_23) ∧ listsTPre (l, l_23, ()) ∧ (readV l_16 n d).snd = (readV l_17 n d).snd ∧ ∃ (l : List (List Int)), Wk (AV.vs
  (List.flatMap Ell.f c) c.length c.length false none (1 : Nat)) (lst Ell l) ∧ bytPre (l, ()) ∧ ∃ (l_24 : List (List Int)), Wk (AV.vs (List.flatMap Ell.f c)
  c.length c.length false none (1 : Nat)) (lst Ell l_24) ∧ rbytesPre (l_24, ()) ∧ ∃ (l_25 : List Int), Wk (AV.vs (List.flatMap Eu8.f (bytesV l)) (bytesV
  l).length (bytesV l).length false none (1 : Nat)) (lst Eu8 l_25) ∧ ∃ (l : List Int), Wk (AV.vs (List.flatMap Eu8.f (bytesV l_24)) (bytesV l_24).length (bytesV
  l_24).length false none (1 : Nat)) (lst Eu8 l) ∧ sameBTPre (l_25, l, ()) ∧ True) ∧ True) ∧ (∀ (c_1 : Unit × Unit) (d_1 : Unit), ownlR1 ((l, [], (0 : Int), ()),
  (), ()) c_1 d_1 → ∃ (l : List Int), Wk (AV.vs (List.flatMap Ei32.f v) v.length v.length false none (1 : Nat)) (lst Ei32 l) ∧ true = true ∧ own32Pre ((l, ()),
  ()) ∧ (∀ (c_2 : List Int × Unit) (d_2 : Unit × Unit), own32R0 ((l, ()), ()) c_2 d_2 → ∃ (l : List (List Int)), Wk AV.nilSlice (lst Ell l) ∧ ∃ (l_1 : List Int),
  Wk (AV.vs (List.flatMap Ei32.f c_2.1) c_2.1.length c_2.1.length false (some (0 : Nat)) (1 : Nat)) (lst Ei32 l_1) ∧ nearestPre (l, l_1, ()) ∧ ∃ (l_2 : List
  (List Int)), Wk (AV.vs (List.flatMap Ell.f c) c.length c.length false none (1 : Nat)) (lst Ell l_2) ∧ ∃ (l_3 : List Int), Wk (AV.vs (List.flatMap Ei32.f v)
  v.length v.length false none (1 : Nat)) (lst Ei32 l_3) ∧ rnearPre (l_2, l_3, ()) ∧ ∃ (l_4 : List (List Int)), Wk (AV.vs (List.flatMap Ell.f c) c.length
  c.length false none (1 : Nat)) (lst Ell l_4) ∧ ∃ (l_5 : List Int), Wk (AV.vs (List.flatMap Ei32.f v) v.length v.length false none (1 : Nat)) (lst Ei32 l_5) ∧
  ordPre (l_4, l_5, n, ()) ∧ ∃ (l_6 : List (List Int)), Wk (AV.vs (List.flatMap Ell.f c) c.length c.length false none (1 : Nat)) (lst Ell l_6) ∧ ∃ (l_7 : List
  Int), Wk (AV.vs (List.flatMap Ei32.f v) v.length v.length false none (1 : Nat)) (lst Ei32 l_7) ∧ rordPre (l_6, l_7, n, ()) ∧ ∃ (l_8 : List (List Int)), Wk
  (AV.vs (List.flatMap Ell.f c) c.length c.length false none (1 : Nat)) (lst Ell l_8) ∧ ∃ (l_9 : List Int), Wk (AV.vs (List.flatMap Ei32.f v) v.length v.length
  false none (1 : Nat)) (lst Ei32 l_9) ∧ farPre (l_8, l_9, ()) ∧ ∃ (l_10 : List (List Int)), Wk (AV.vs (List.flatMap Ell.f c) c.length c.length false none (1 :
  Nat)) (lst Ell l_10) ∧ ∃ (l_11 : List Int), Wk (AV.vs (List.flatMap Ei32.f v) v.length v.length false none (1 : Nat)) (lst Ei32 l_11) ∧ rfarPre (l_10, l_11,
  ()) ∧ ∃ (l_12 : List (List Int)), Wk (AV.vs (List.flatMap Ell.f c) c.length c.length false none (1 : Nat)) (lst Ell l_12) ∧ ∃ (l_13 : List Int), Wk (AV.vs
  (List.flatMap Ei32.f v) v.length v.length false none (1 : Nat)) (lst Ei32 l_13) ∧ residPre (l_12, l_13, ()) ∧ ∃ (l_14 : List (List Int)), Wk (AV.vs
  (List.flatMap Ell.f c) c.length c.length false none (1 : Nat)) (lst Ell l_14) ∧ ∃ (l_15 : List Int), Wk (AV.vs (List.flatMap Ei32.f v) v.length v.length false
  none (1 : Nat)) (lst Ei32 l_15) ∧ rresidPre (l_14, l_15, ()) ∧ ∃ (l_16 : List Int), Wk (AV.vs (List.flatMap Eu8.f x) x.length x.length false none (1 : Nat))
  (lst Eu8 l_16) ∧ readPre (l_16, n, d, ()) ∧ ∃ (l_17 : List Int), Wk (AV.vs (List.flatMap Eu8.f x) x.length x.length false none (1 : Nat)) (lst Eu8 l_17) ∧
  rreadPre (l_17, n, d, ()) ∧ ∃ (l_18 : List (List Int)), Wk (AV.vs (List.flatMap Ell.f c) c.length c.length false none (1 : Nat)) (lst Ell l_18) ∧ checkPre
  (l_18, ()) ∧ ∃ (l_19 : List (List Int)), Wk (AV.vs (List.flatMap Ell.f c) c.length c.length false none (1 : Nat)) (lst Ell l_19) ∧ rcheckPre (l_19, ()) ∧
  checkV l_18 = checkV l_19 ∧ (nearV l l_1).fst = (nearV l_2 l_3).fst ∧ (nearV l l_1).snd = (nearV l_2 l_3).snd ∧ bothV l l_1 = bothV l_2 l_3 ∧ ∃ (l : List Int),
  Wk (AV.vs (List.flatMap Ei64.f (ordL l_4 l_5 n)) (ordL l_4 l_5 n).length (ordL l_4 l_5 n).length false none (1 : Nat)) (lst Ei64 l) ∧ ∃ (l_20 : List Int), Wk
  (AV.vs (List.flatMap Ei64.f (ordL l_6 l_7 n)) (ordL l_6 l_7 n).length (ordL l_6 l_7 n).length false none (1 : Nat)) (lst Ei64 l_20) ∧ sameITPre (l, l_20, ()) ∧
  ordE l_4 l_5 n = ordE l_6 l_7 n ∧ ∃ (l : List Near), Wk (AV.vs (List.flatMap En.f (farV l_8 l_9)) (farV l_8 l_9).length (farV l_8 l_9).length false none (2 :
  Nat)) (lst En l) ∧ ∃ (l_21 : List Near), Wk (AV.vs (List.flatMap En.f (farV l_10 l_11)) (farV l_10 l_11).length (farV l_10 l_11).length false none (2 : Nat))
  (lst En l_21) ∧ sameNTPre (l, l_21, ()) ∧ bothV l_8 l_9 = bothV l_10 l_11 ∧ (residV l_12 l_13).fst = (residV l_14 l_15).fst ∧ ∃ (l : List Int), Wk (AV.vs
  (List.flatMap Ei32.f (residV l_12 l_13).snd.fst) (residV l_12 l_13).snd.fst.length (residV l_12 l_13).snd.fst.length false none (1 : Nat)) (lst Ei32 l) ∧ ∃
  (l_22 : List Int), Wk (AV.vs (List.flatMap Ei32.f (residV l_14 l_15).snd.fst) (residV l_14 l_15).snd.fst.length (residV l_14 l_15).snd.fst.length false none (1
  : Nat)) (lst Ei32 l_22) ∧ same32TPre (l, l_22, ()) ∧ (residV l_12 l_13).snd.snd = (residV l_14 l_15).snd.snd ∧ ∃ (l : List (List Int)), Wk (AV.vs (List.flatMap
  Ell.f (readV l_16 n d).fst) (readV l_16 n d).fst.length (readV l_16 n d).fst.length false none (1 : Nat)) (lst Ell l) ∧ ∃ (l_23 : List (List Int)), Wk (AV.vs
  (List.flatMap Ell.f (readV l_17 n d).fst) (readV l_17 n d).fst.length (readV l_17 n d).fst.length false none (1 : Nat)) (lst Ell l_23) ∧ listsTPre (l, l_23,
  ()) ∧ (readV l_16 n d).snd = (readV l_17 n d).snd ∧ ∃ (l : List (List Int)), Wk (AV.vs (List.flatMap Ell.f c) c.length c.length false none (1 : Nat)) (lst Ell
  l) ∧ bytPre (l, ()) ∧ ∃ (l_24 : List (List Int)), Wk (AV.vs (List.flatMap Ell.f c) c.length c.length false none (1 : Nat)) (lst Ell l_24) ∧ rbytesPre (l_24,
  ()) ∧ ∃ (l_25 : List Int), Wk (AV.vs (List.flatMap Eu8.f (bytesV l)) (bytesV l).length (bytesV l).length false none (1 : Nat)) (lst Eu8 l_25) ∧ ∃ (l : List
  Int), Wk (AV.vs (List.flatMap Eu8.f (bytesV l_24)) (bytesV l_24).length (bytesV l_24).length false none (1 : Nat)) (lst Eu8 l) ∧ sameBTPre (l_25, l, ()) ∧
  True) ∧ True) ∧ True)))) True) := by kernel_rfl

theorem cellCallsHolds (c : List (List Int)) (v : List Int) (n : Int) (d : Int) (x : List Int) (hc : Sh.plOk (.slice (.slice (.int .i32))) c) (hv : Sh.plOk (.slice (.int .i32)) v) (hn : Sh.plOk (.int .i64) n) (hd : Sh.plOk (.int .i64) d) (hx : Sh.plOk (.slice (.int .u8)) x) : callW Try.prog (runW Try.prog (KLX [(27, lives13K), (28, lightK), (34, own32K), (29, nearestK), (35, rnearK), (31, ordK), (36, rordK), (37, farK), (38, rfarK), (39, residK), (40, rresidK), (41, readK), (42, rreadK), (43, checkK), (44, rcheckK), (48, bytK), (49, rbytesK), (32, sameITK), (47, sameBTK), (45, same32TK), (17, sameNTK), (46, listsTK)] [(33, [(3, ownlC)])] [] [(8, [15])] []) 300) 8 (cellCallsT.cells id (c, (v, (n, (d, (x, ())))))) (stB true) (fun v _ => yesQ v) := by
  refine (cellCallsFn c v n d x).mpr ?_
  have hb : bytesOk x := fun y hy => wf_u8 (hx.1 y hy)
  refine ⟨trivial, c, Wk.refl _, by show (80 : Int) < _; decide, ?_⟩
  rw [ifp_if]
  split
  · rename_i hL
    obtain ⟨l1, l2⟩ := lightV_inv (m := 80) (n := 30) hL
    rw [ifp_lt, ifp_lt]
    split
    · trivial
    split
    · trivial
    rename_i hv hx2
    have hvl : v.length ≤ 30 := by simp only [Int.ofNat_eq_natCast] at hv; omega
    have hFl : (farV c v).length ≤ c.length := by
      rw [farV]; split
      · rw [nearSort_len, farL_len]; exact Nat.le_refl _
      · simp
    have hOrd : (ordL c v n).length < 9223372036854775807 := by
      rw [ordL, List.length_map, List.length_take]; omega
    have hFar : (farV c v).length ≤ 1000000 := by omega
    have hRes : (residV c v).2.1.length < 9223372036854775807 := by
      have h1 : ∀ y : List Int, (subR v y).1.length ≤ v.length := fun y => by
        rw [subR]; split
        · split
          · simp
          · simp [subV]; omega
        · simp
      rw [residV]; split
      · split
        · have := h1 (c.getD (nearV c v).1.toNat []); show (subR v (c.getD (nearV c v).1.toNat [])).1.length < _; omega
        · simp
      · simp
    have hRd : (readV x n d).1.length < 9223372036854775807 ∧ ∀ y ∈ (readV x n d).1, y.length < 9223372036854775807 := by
      rw [readV]; split
      · simp
      · rename_i h1
        split
        · simp
        · split
          · refine ⟨by simp [readL]; omega, fun y hy => ?_⟩
            obtain ⟨i, _, rfl⟩ := List.mem_map.1 hy
            rw [chunkAt, List.length_take]; omega
          · simp
    have hByt : (bytesV c).length < 9223372036854775807 := by
      rw [bytesV]; split
      · rw [puts_len]
        have := flat_len (c := c) (fun y hy => by have := l2 y hy; omega)
        omega
      · simp
    refine ⟨ownlOk, trivial, trivial, Or.inr ⟨c, Wk.refl _, (by first | exact trivial | exact rfl), ⟨0, rfl, by omega, by omega, fun x hx => by have := l2 x hx; omega, rfl⟩, fun d _ hr => ?_, fun _ _ hr => ?_, trivial⟩⟩
    · obtain ⟨r, _⟩ := d
      obtain rfl : r = c := hr
      refine ⟨v, Wk.refl _, (by first | exact trivial | exact rfl), by show v.length ≤ 1000000; omega, fun e _ hr2 => ?_, trivial⟩
      obtain ⟨r2, _⟩ := e
      obtain rfl : v = r2 := Eq.symm hr2
      exact ⟨r, wk_of_own, v, wk_of_own, trivial, r, Wk.refl _, v, Wk.refl _, trivial, r, Wk.refl _, v, Wk.refl _, trivial, r, Wk.refl _, v, Wk.refl _, trivial, r, Wk.refl _, v, Wk.refl _, trivial, r, Wk.refl _, v, Wk.refl _, trivial, r, Wk.refl _, v, Wk.refl _, trivial, r, Wk.refl _, v, Wk.refl _, trivial, x, Wk.refl _, hb, x, Wk.refl _, hb, r, Wk.refl _, trivial, r, Wk.refl _, trivial, (by first | exact trivial | exact rfl), (by first | exact trivial | exact rfl), (by first | exact trivial | exact rfl), (by first | exact trivial | exact rfl), _, Wk.refl _, _, Wk.refl _, ⟨hOrd, by simp⟩, (by first | exact trivial | exact rfl), _, Wk.refl _, _, Wk.refl _, ⟨hFar, by simp⟩, (by first | exact trivial | exact rfl), (by first | exact trivial | exact rfl), _, Wk.refl _, _, Wk.refl _, ⟨hRes, by simp⟩, (by first | exact trivial | exact rfl), _, Wk.refl _, _, Wk.refl _, ⟨hRd, by simp⟩, (by first | exact trivial | exact rfl), r, Wk.refl _, trivial, r, Wk.refl _, trivial, _, Wk.refl _, _, Wk.refl _, ⟨hByt, by simp⟩, trivial⟩
    · obtain rfl : c = [] := hr
      refine ⟨v, Wk.refl _, (by first | exact trivial | exact rfl), by show v.length ≤ 1000000; omega, fun e _ hr2 => ?_, trivial⟩
      obtain ⟨r2, _⟩ := e
      obtain rfl : v = r2 := Eq.symm hr2
      exact ⟨[], wk_nil _, v, wk_of_own, trivial, [], Wk.refl _, v, Wk.refl _, trivial, [], Wk.refl _, v, Wk.refl _, trivial, [], Wk.refl _, v, Wk.refl _, trivial, [], Wk.refl _, v, Wk.refl _, trivial, [], Wk.refl _, v, Wk.refl _, trivial, [], Wk.refl _, v, Wk.refl _, trivial, [], Wk.refl _, v, Wk.refl _, trivial, x, Wk.refl _, hb, x, Wk.refl _, hb, [], Wk.refl _, trivial, [], Wk.refl _, trivial, (by first | exact trivial | exact rfl), (by first | exact trivial | exact rfl), (by first | exact trivial | exact rfl), (by first | exact trivial | exact rfl), _, Wk.refl _, _, Wk.refl _, ⟨hOrd, by simp⟩, (by first | exact trivial | exact rfl), _, Wk.refl _, _, Wk.refl _, ⟨hFar, by simp⟩, (by first | exact trivial | exact rfl), (by first | exact trivial | exact rfl), _, Wk.refl _, _, Wk.refl _, ⟨hRes, by simp⟩, (by first | exact trivial | exact rfl), _, Wk.refl _, _, Wk.refl _, ⟨hRd, by simp⟩, (by first | exact trivial | exact rfl), [], Wk.refl _, trivial, [], Wk.refl _, trivial, _, Wk.refl _, _, Wk.refl _, ⟨hByt, by simp⟩, trivial⟩
  · trivial
theorem cellCallsTrue (y : ShPls cellCallsShapes) (hy : ShPlOks cellCallsShapes y) : callW Try.prog (runW Try.prog (KLX [(27, lives13K), (28, lightK), (34, own32K), (29, nearestK), (35, rnearK), (31, ordK), (36, rordK), (37, farK), (38, rfarK), (39, residK), (40, rresidK), (41, readK), (42, rreadK), (43, checkK), (44, rcheckK), (48, bytK), (49, rbytesK), (32, sameITK), (47, sameBTK), (45, same32TK), (17, sameNTK), (46, listsTK)] [(33, [(3, ownlC)])] [] [(8, [15])] []) 300) 8 (ShPlAvs cellCallsShapes y) (stB true) (fun v _ => yesQ v) :=
  cellCallsHolds y.1 y.2.1 y.2.2.1 y.2.2.2.1 y.2.2.2.2.1 hy.1 hy.2.1 hy.2.2.1 hy.2.2.2.1 hy.2.2.2.2.1
theorem cellCallsCalls {x : ShVs cellCallsShapes} (hx : ShOks cellCallsShapes x) {W : World} {args : Array Value} (h : VRs (frozenAll W) (ShAvs cellCallsShapes x) args.toList) : Calls Try.prog 8 args W fun e w' => e = .returned (.bool true) ∧ Below W.heap.size W w' :=
  law_plain mixed (KLX_ok (cc_cons lives13Cc (cc_cons lightCc (cc_cons own32Cc (cc_cons nearestCc (cc_cons rnearCc (cc_cons ordCc (cc_cons rordCc (cc_cons farCc (cc_cons rfarCc (cc_cons residCc (cc_cons rresidCc (cc_cons readCc (cc_cons rreadCc (cc_cons checkCc (cc_cons rcheckCc (cc_cons bytCc (cc_cons rbytesCc (cc_cons sameITCc (cc_cons sameBTCc (cc_cons same32TCc (cc_cons sameNTCc (cc_cons listsTCc (cc_nil)))))))))))))))))))))))) cellCallsTrue hx h

end Go.Proofs.Ytfcdpdejoogapaa
