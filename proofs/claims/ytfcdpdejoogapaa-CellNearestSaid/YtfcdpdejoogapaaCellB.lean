/- Forms and contracts, printed by gx.py. -/
import Derived.Test.YtfcdpdejoogapaaRows
import Derived.Test.YtfcdpdejoogapaaDvUse
import Derived.Test.YtfcdpdejoogapaaDvArg
import Derived.ProofKit
import Derived.Test.YtfcdpdejoogapaaBase
import Derived.Test.YtfcdpdejoogapaaCell
namespace Go.Proofs.Ytfcdpdejoogapaa
open Go.Det Go.RowKit
set_option linter.unusedVariables false
set_option linter.unusedSimpArgs false
set_option maxRecDepth 100000
/-! The loop same32 of wayfinder/wayfinderkit.Same[int32]. -/
abbrev same32Z := ((List Int) × (List Int) × Int × Unit) × (Unit)
noncomputable def same32Sl : Tel ((List Int) × (List Int) × Int × Unit) := .cons 0 (.lst Ei32) (.cons 1 (.lst Ei32) (.cons 5 (.int .i64) (.nil)))
noncomputable def same32Bl : BTel (Unit) := .nil
noncomputable def same32Fs : List (LForm same32Z) := [⟨_, _, same32Sl, same32Bl, fun x y => (x, y)⟩]
noncomputable def same32Alts (R0 : same32Z → (Unit) → (Unit) → Prop) (R1 : same32Z → (Bool × Unit) → (Unit) → Prop) : List (Alt same32Z) := [⟨.exit 0, Unit, Unit, .nil, .nil, R0⟩, ⟨.ret, Bool × Unit, Unit, .cons 4 (.bool) (.nil), .nil, R1⟩]

theorem same32Form (a : List Int) (b : List Int) (i : Int) (N : same32Z → Prop) (R0 : same32Z → (Unit) → (Unit) → Prop) (R1 : same32Z → (Bool × Unit) → (Unit) → Prop) : ((runW Try.prog (KL [] []) 100).code none 45 26 (loopBody Try.prog 45 4) (mkT (same32Sl.av id (a, (b, (i, ()))))) [] (stL false (same32Bl.obs id ())) (postL 0 same32Fs (same32Alts R0 R1) ((a, (b, (i, ()))), ()) N)) =
  ( ifp (!leInt (Int.ofNat a.length) i) (idxOk i a.length ∧ ∃ (x : Int), nth ((natOf i).mul (1 : Nat)) (List.flatMap Ei32.f a) = some (AV.int IntKind.i32 x) ∧ idxOk
  i b.length ∧ ∃ (x_1 : Int), nth ((natOf i).mul (1 : Nat)) (List.flatMap Ei32.f b) = some (AV.int IntKind.i32 x_1) ∧ ifp (!eqInt x x_1) (True ∧ True ∧ True ∧
  true = true ∧ R1 ((a, b, i, ()), ()) (false, ()) ()) (True ∧ True ∧ True ∧ ∃ (l : List Int), Wk (AV.vs (List.flatMap Ei32.f a) a.length a.length false none (1
  : Nat)) (lst Ei32 l) ∧ ∃ (l_1 : List Int), Wk (AV.vs (List.flatMap Ei32.f b) b.length b.length false none (1 : Nat)) (lst Ei32 l_1) ∧ true = true ∧ N ((l, l_1,
  wrapF IntKind.i64 (i.add (1 : Int)), ()), ()))) (True ∧ true = true ∧ R0 ((a, b, i, ()), ()) () ())) := by kernel_rfl

def same32Inv : same32Z → Prop := fun ((a, (b, (i, ()))), ()) => ∃ k : Nat, i = k ∧ k ≤ a.length ∧ a.length < 9223372036854775807 ∧ a.length = b.length ∧ a.take k = b.take k
def same32Mu : same32Z → Nat := fun ((a, (b, (i, ()))), ()) => a.length - i.toNat
def same32R0 : same32Z → (Unit) → (Unit) → Prop := fun ((a, (b, (i, ()))), ()) _ _ => a = b
def same32R1 : same32Z → (Bool × Unit) → (Unit) → Prop := fun ((a, (b, (i, ()))), ()) (r, _) _ => r = false ∧ a ≠ b
noncomputable def same32C : LoopC := loopC 0 same32Fs (same32Alts same32R0 same32R1) same32Inv

theorem same32Step : stepsOk Try.prog (KL [] []) 100 45 26 (loopBody Try.prog 45 4) 0 false same32Fs (same32Alts same32R0 same32R1) same32Inv same32Mu ⟨_, _, same32Sl, same32Bl, fun x y => (x, y)⟩ := by
  intro x y hz
  obtain ⟨a, b, i, _⟩ := x
  obtain _ := y
  refine (same32Form a b i _ _ _).mpr ?_
  obtain ⟨k, rfl, hk, hl, hab, ht⟩ := hz
  rw [ifp_lt]
  simp only [natOf_nat]
  split
  · rename_i h
    have hka : k < a.length := by simpa using h
    have hkb : k < b.length := by omega
    repeat (first
      | (refine ⟨Nat.le_refl _, ?_⟩)
      | (rw [ifp_pos (roomy_small (by simp only [Nat.add_eq]; omega) (by decide))])
      | (refine ⟨trivial, ?_⟩)
      | (refine ⟨(rfl : true = true), ?_⟩)
      | (refine ⟨idx_ok (by omega), ?_⟩)
      | (refine ⟨idx_ok0 (by omega), ?_⟩)
      | (refine ⟨_, nth_int (by omega), ?_⟩)
      | (refine ⟨_, _, _, _, _, _, nth_lst (by omega), ?_⟩)
      | (refine ⟨_, _, _, _, _, _, nth_lst0 (by omega), ?_⟩)
      | (refine ⟨_, Wk.refl _, ?_⟩)
      | (rw [ifp_pos rfl])
      | (refine ⟨(rfl : (_ : List Nat) = _), ?_⟩)
      | (refine ⟨(rfl : (_ : Code) = _), ?_⟩))
    rw [ifp_ne]
    split
    · rename_i h2
      repeat (first
        | (refine ⟨Nat.le_refl _, ?_⟩)
        | (rw [ifp_pos (roomy_small (by simp only [Nat.add_eq]; omega) (by decide))])
        | (refine ⟨trivial, ?_⟩)
        | (refine ⟨(rfl : true = true), ?_⟩)
        | (refine ⟨idx_ok (by omega), ?_⟩)
        | (refine ⟨idx_ok0 (by omega), ?_⟩)
        | (refine ⟨_, nth_int (by omega), ?_⟩)
        | (refine ⟨_, _, _, _, _, _, nth_lst (by omega), ?_⟩)
        | (refine ⟨_, _, _, _, _, _, nth_lst0 (by omega), ?_⟩)
        | (refine ⟨_, Wk.refl _, ?_⟩)
        | (rw [ifp_pos rfl])
        | (refine ⟨(rfl : (_ : List Nat) = _), ?_⟩)
        | (refine ⟨(rfl : (_ : Code) = _), ?_⟩))
      rw [wsucc (by omega)]
      refine ⟨⟨k + 1, rfl, hka, hl, hab, ?_⟩, by show a.length - (k + 1) < a.length - k; omega, fun _ _ h => h, fun _ _ h => h, trivial⟩
      rw [← List.take_append_getElem hka, ← List.take_append_getElem hkb, ht, h2]
    · rename_i h2
      repeat (first
        | (refine ⟨Nat.le_refl _, ?_⟩)
        | (rw [ifp_pos (roomy_small (by simp only [Nat.add_eq]; omega) (by decide))])
        | (refine ⟨trivial, ?_⟩)
        | (refine ⟨(rfl : true = true), ?_⟩)
        | (refine ⟨idx_ok (by omega), ?_⟩)
        | (refine ⟨idx_ok0 (by omega), ?_⟩)
        | (refine ⟨_, nth_int (by omega), ?_⟩)
        | (refine ⟨_, _, _, _, _, _, nth_lst (by omega), ?_⟩)
        | (refine ⟨_, _, _, _, _, _, nth_lst0 (by omega), ?_⟩)
        | (refine ⟨_, Wk.refl _, ?_⟩)
        | (rw [ifp_pos rfl])
        | (refine ⟨(rfl : (_ : List Nat) = _), ?_⟩)
        | (refine ⟨(rfl : (_ : Code) = _), ?_⟩))
      exact ⟨rfl, fun e => h2 (by subst e; rfl)⟩
  · rename_i h
    repeat (first
      | (refine ⟨Nat.le_refl _, ?_⟩)
      | (rw [ifp_pos (roomy_small (by simp only [Nat.add_eq]; omega) (by decide))])
      | (refine ⟨trivial, ?_⟩)
      | (refine ⟨(rfl : true = true), ?_⟩)
      | (refine ⟨idx_ok (by omega), ?_⟩)
      | (refine ⟨idx_ok0 (by omega), ?_⟩)
      | (refine ⟨_, nth_int (by omega), ?_⟩)
      | (refine ⟨_, _, _, _, _, _, nth_lst (by omega), ?_⟩)
      | (refine ⟨_, _, _, _, _, _, nth_lst0 (by omega), ?_⟩)
      | (refine ⟨_, Wk.refl _, ?_⟩)
      | (rw [ifp_pos rfl])
      | (refine ⟨(rfl : (_ : List Nat) = _), ?_⟩)
      | (refine ⟨(rfl : (_ : Code) = _), ?_⟩))
    rw [take_all (by simpa using h), take_all (by rw [← hab]; simpa using h)] at ht; exact ht
theorem same32Ok : LoopOk Try.prog 45 26 (.loop (loopBody Try.prog 45 4)) same32C := loop_ok same32Mu mixed (KL_ok (cc_nil)) rfl (steps_cons same32Step (steps_nil))

/-! wayfinder/wayfinderkit.Same[int32] -/
noncomputable def same32T : Tel ((List Int) × (List Int) × Unit) := .cons 0 (.lst Ei32) (.cons 1 (.lst Ei32) (.nil))

theorem same32Fn (a : List Int) (b : List Int) (Q : AV → Prop) : (callW Try.prog (runW Try.prog (KL [] [(45, [(4, same32C)])]) 200) 45 (same32T.cells id (a, (b, ()))) (stE false) (fun x st => frzW st x Q)) =
  ( ifp (!eqInt (Int.ofNat a.length) (Int.ofNat b.length)) (Q (AV.bool false)) (LoopOk Try.prog (45 : FuncId) (26 : Nat) (loopBody Try.prog (45 : FuncId) (4 :
  Nat)).loop same32C ∧ True ∧ True ∧ ∃ (l : List Int), Wk (AV.vs (List.flatMap Ei32.f a) a.length a.length false none (1 : Nat)) (lst Ei32 l) ∧ ∃ (l_1 : List
  Int), Wk (AV.vs (List.flatMap Ei32.f b) b.length b.length false none (1 : Nat)) (lst Ei32 l_1) ∧ true = true ∧ same32Inv ((l, l_1, (0 : Int), ()), ()) ∧ (∀ (c
  d : Unit), same32R0 ((l, l_1, (0 : Int), ()), ()) c d → Q (AV.bool true)) ∧ (∀ (c : Bool × Unit) (d : Unit), same32R1 ((l, l_1, (0 : Int), ()), ()) c d → Q
  (AV.bool c.1)) ∧ True)) := by kernel_rfl

def same32Pre : (List Int) × (List Int) × Unit → Prop := fun (a, (b, ())) => a.length < 9223372036854775807
noncomputable def same32Res : (List Int) × (List Int) × Unit → AV := fun (a, (b, ())) => .bool (decide (a = b))
noncomputable def same32K : CallC := valC same32T same32Pre same32Res

theorem same32Val (a : List Int) (b : List Int) (hp : same32Pre (a, (b, ()))) : Val Try.prog 45 (same32T.cells id (a, (b, ()))) (same32Res (a, (b, ()))) := by
  refine Val.ofF mixed (KL_ok (cc_nil)) (freesC rfl _) (same32Fn a b) ?_
  have hp' : a.length < 9223372036854775807 := hp
  rw [ifp_ne]
  split
  · rename_i h
    refine ⟨same32Ok, ?_⟩
    repeat (first
      | (refine ⟨Nat.le_refl _, ?_⟩)
      | (rw [ifp_pos (roomy_small (by simp only [Nat.add_eq]; omega) (by decide))])
      | (refine ⟨trivial, ?_⟩)
      | (refine ⟨(rfl : true = true), ?_⟩)
      | (refine ⟨idx_ok (by omega), ?_⟩)
      | (refine ⟨idx_ok0 (by omega), ?_⟩)
      | (refine ⟨_, nth_int (by omega), ?_⟩)
      | (refine ⟨_, _, _, _, _, _, nth_lst (by omega), ?_⟩)
      | (refine ⟨_, _, _, _, _, _, nth_lst0 (by omega), ?_⟩)
      | (refine ⟨_, Wk.refl _, ?_⟩)
      | (rw [ifp_pos rfl])
      | (refine ⟨(rfl : (_ : List Nat) = _), ?_⟩)
      | (refine ⟨(rfl : (_ : Code) = _), ?_⟩))
    refine ⟨⟨0, rfl, by omega, hp', by simp at h; omega, rfl⟩, fun _ _ hr => ?_, fun c _ hr => ?_, trivial⟩
    · exact tells_bool (by rw [decide_eq_true (show a = b from hr)])
    · obtain ⟨r, _⟩ := c
      obtain ⟨rfl, hr⟩ := hr
      exact tells_bool (by rw [decide_eq_false hr])
  · rename_i h
    exact tells_bool (by rw [decide_eq_false]; intro e; subst e; exact h rfl)
theorem same32Cc : CcOk Try.prog 45 same32K := val_ok rfl (fun ⟨a, ⟨b, _⟩⟩ h => same32Val a b h)

/-! The loop lists of wayfinder/wayfinderkit.Lists[int32]. -/
abbrev listsZ := ((List (List Int)) × (List (List Int)) × Int × Unit) × (Unit)
noncomputable def listsSl : Tel ((List (List Int)) × (List (List Int)) × Int × Unit) := .cons 0 (.lst Ell) (.cons 1 (.lst Ell) (.cons 5 (.int .i64) (.nil)))
noncomputable def listsBl : BTel (Unit) := .nil
noncomputable def listsFs : List (LForm listsZ) := [⟨_, _, listsSl, listsBl, fun x y => (x, y)⟩]
noncomputable def listsAlts (R0 : listsZ → (Unit) → (Unit) → Prop) (R1 : listsZ → (Bool × Unit) → (Unit) → Prop) : List (Alt listsZ) := [⟨.exit 0, Unit, Unit, .nil, .nil, R0⟩, ⟨.ret, Bool × Unit, Unit, .cons 4 (.bool) (.nil), .nil, R1⟩]

theorem listsForm (a : List (List Int)) (b : List (List Int)) (i : Int) (N : listsZ → Prop) (R0 : listsZ → (Unit) → (Unit) → Prop) (R1 : listsZ → (Bool × Unit) → (Unit) → Prop) : ((runW Try.prog (KL [(45, same32K)] []) 100).code none 46 27 (loopBody Try.prog 46 4) (mkT (listsSl.av id (a, (b, (i, ()))))) [] (stL false (listsBl.obs id ())) (postL 0 listsFs (listsAlts R0 R1) ((a, (b, (i, ()))), ()) N)) =
  ( ifp (!leInt (Int.ofNat a.length) i) (idxOk i a.length ∧ ∃ (l' : List AV), ∃ (n : Nat), ∃ (c : Nat), ∃ (x : Bool), ∃ (w : Option Nat), ∃ (e : Nat), nth ((natOf
  i).mul (1 : Nat)) (List.flatMap Ell.f a) = some (AV.vs l' n c x w e) ∧ idxOk i b.length ∧ ∃ (l'_1 : List AV), ∃ (n_1 : Nat), ∃ (c_1 : Nat), ∃ (x_1 : Bool), ∃
  (w_1 : Option Nat), ∃ (e_1 : Nat), nth ((natOf i).mul (1 : Nat)) (List.flatMap Ell.f b) = some (AV.vs l'_1 n_1 c_1 x_1 w_1 e_1) ∧ ∃ (l : List Int), Wk (AV.vs
  l' n c x w e) (lst Ei32 l) ∧ ∃ (l_1 : List Int), Wk (AV.vs l'_1 n_1 c_1 x_1 w_1 e_1) (lst Ei32 l_1) ∧ same32Pre (l, l_1, ()) ∧ ifp (decide (l = l_1)) (True ∧
  True ∧ True ∧ ∃ (l : List (List Int)), Wk (AV.vs (List.flatMap Ell.f a) a.length a.length false none (1 : Nat)) (lst Ell l) ∧ ∃ (l_2 : List (List Int)), Wk
  (AV.vs (List.flatMap Ell.f b) b.length b.length false none (1 : Nat)) (lst Ell l_2) ∧ true = true ∧ N ((l, l_2, wrapF IntKind.i64 (i.add (1 : Int)), ()), ()))
  (True ∧ True ∧ True ∧ true = true ∧ R1 ((a, b, i, ()), ()) (false, ()) ())) (True ∧ true = true ∧ R0 ((a, b, i, ()), ()) () ())) := by kernel_rfl

def listsInv : listsZ → Prop := fun ((a, (b, (i, ()))), ()) => ∃ k : Nat, i = k ∧ k ≤ a.length ∧ a.length < 9223372036854775807 ∧ a.length = b.length ∧ (∀ x ∈ a, x.length < 9223372036854775807) ∧ a.take k = b.take k
def listsMu : listsZ → Nat := fun ((a, (b, (i, ()))), ()) => a.length - i.toNat
def listsR0 : listsZ → (Unit) → (Unit) → Prop := fun ((a, (b, (i, ()))), ()) _ _ => a = b
def listsR1 : listsZ → (Bool × Unit) → (Unit) → Prop := fun ((a, (b, (i, ()))), ()) (r, _) _ => r = false ∧ a ≠ b
noncomputable def listsC : LoopC := loopC 0 listsFs (listsAlts listsR0 listsR1) listsInv

theorem listsStep : stepsOk Try.prog (KL [(45, same32K)] []) 100 46 27 (loopBody Try.prog 46 4) 0 false listsFs (listsAlts listsR0 listsR1) listsInv listsMu ⟨_, _, listsSl, listsBl, fun x y => (x, y)⟩ := by
  intro x y hz
  obtain ⟨a, b, i, _⟩ := x
  obtain _ := y
  refine (listsForm a b i _ _ _).mpr ?_
  obtain ⟨k, rfl, hk, hl, hab, hx, ht⟩ := hz
  rw [ifp_lt]
  simp only [natOf_nat]
  split
  · rename_i h
    have hka : k < a.length := by simpa using h
    have hkb : k < b.length := by omega
    repeat (first
      | (refine ⟨Nat.le_refl _, ?_⟩)
      | (rw [ifp_pos (roomy_small (by simp only [Nat.add_eq]; omega) (by decide))])
      | (refine ⟨trivial, ?_⟩)
      | (refine ⟨(rfl : true = true), ?_⟩)
      | (refine ⟨idx_ok (by omega), ?_⟩)
      | (refine ⟨idx_ok0 (by omega), ?_⟩)
      | (refine ⟨_, nth_int (by omega), ?_⟩)
      | (refine ⟨_, _, _, _, _, _, nth_lst (by omega), ?_⟩)
      | (refine ⟨_, _, _, _, _, _, nth_lst0 (by omega), ?_⟩)
      | (refine ⟨_, Wk.refl _, ?_⟩)
      | (rw [ifp_pos rfl])
      | (refine ⟨(rfl : (_ : List Nat) = _), ?_⟩)
      | (refine ⟨(rfl : (_ : Code) = _), ?_⟩))
    refine ⟨hx _ (List.getElem_mem hka), ?_⟩
    repeat (first
      | (refine ⟨Nat.le_refl _, ?_⟩)
      | (rw [ifp_pos (roomy_small (by simp only [Nat.add_eq]; omega) (by decide))])
      | (refine ⟨trivial, ?_⟩)
      | (refine ⟨(rfl : true = true), ?_⟩)
      | (refine ⟨idx_ok (by omega), ?_⟩)
      | (refine ⟨idx_ok0 (by omega), ?_⟩)
      | (refine ⟨_, nth_int (by omega), ?_⟩)
      | (refine ⟨_, _, _, _, _, _, nth_lst (by omega), ?_⟩)
      | (refine ⟨_, _, _, _, _, _, nth_lst0 (by omega), ?_⟩)
      | (refine ⟨_, Wk.refl _, ?_⟩)
      | (rw [ifp_pos rfl])
      | (refine ⟨(rfl : (_ : List Nat) = _), ?_⟩)
      | (refine ⟨(rfl : (_ : Code) = _), ?_⟩))
    rw [ifp_if]
    split
    · rename_i h2
      repeat (first
        | (refine ⟨Nat.le_refl _, ?_⟩)
        | (rw [ifp_pos (roomy_small (by simp only [Nat.add_eq]; omega) (by decide))])
        | (refine ⟨trivial, ?_⟩)
        | (refine ⟨(rfl : true = true), ?_⟩)
        | (refine ⟨idx_ok (by omega), ?_⟩)
        | (refine ⟨idx_ok0 (by omega), ?_⟩)
        | (refine ⟨_, nth_int (by omega), ?_⟩)
        | (refine ⟨_, _, _, _, _, _, nth_lst (by omega), ?_⟩)
        | (refine ⟨_, _, _, _, _, _, nth_lst0 (by omega), ?_⟩)
        | (refine ⟨_, Wk.refl _, ?_⟩)
        | (rw [ifp_pos rfl])
        | (refine ⟨(rfl : (_ : List Nat) = _), ?_⟩)
        | (refine ⟨(rfl : (_ : Code) = _), ?_⟩))
      rw [wsucc (by omega)]
      refine ⟨⟨k + 1, rfl, hka, hl, hab, hx, ?_⟩, by show a.length - (k + 1) < a.length - k; omega, fun _ _ h => h, fun _ _ h => h, trivial⟩
      rw [← List.take_append_getElem hka, ← List.take_append_getElem hkb, ht, of_decide_eq_true h2]
    · rename_i h2
      repeat (first
        | (refine ⟨Nat.le_refl _, ?_⟩)
        | (rw [ifp_pos (roomy_small (by simp only [Nat.add_eq]; omega) (by decide))])
        | (refine ⟨trivial, ?_⟩)
        | (refine ⟨(rfl : true = true), ?_⟩)
        | (refine ⟨idx_ok (by omega), ?_⟩)
        | (refine ⟨idx_ok0 (by omega), ?_⟩)
        | (refine ⟨_, nth_int (by omega), ?_⟩)
        | (refine ⟨_, _, _, _, _, _, nth_lst (by omega), ?_⟩)
        | (refine ⟨_, _, _, _, _, _, nth_lst0 (by omega), ?_⟩)
        | (refine ⟨_, Wk.refl _, ?_⟩)
        | (rw [ifp_pos rfl])
        | (refine ⟨(rfl : (_ : List Nat) = _), ?_⟩)
        | (refine ⟨(rfl : (_ : Code) = _), ?_⟩))
      exact ⟨rfl, fun e => h2 (by subst e; simp)⟩
  · rename_i h
    repeat (first
      | (refine ⟨Nat.le_refl _, ?_⟩)
      | (rw [ifp_pos (roomy_small (by simp only [Nat.add_eq]; omega) (by decide))])
      | (refine ⟨trivial, ?_⟩)
      | (refine ⟨(rfl : true = true), ?_⟩)
      | (refine ⟨idx_ok (by omega), ?_⟩)
      | (refine ⟨idx_ok0 (by omega), ?_⟩)
      | (refine ⟨_, nth_int (by omega), ?_⟩)
      | (refine ⟨_, _, _, _, _, _, nth_lst (by omega), ?_⟩)
      | (refine ⟨_, _, _, _, _, _, nth_lst0 (by omega), ?_⟩)
      | (refine ⟨_, Wk.refl _, ?_⟩)
      | (rw [ifp_pos rfl])
      | (refine ⟨(rfl : (_ : List Nat) = _), ?_⟩)
      | (refine ⟨(rfl : (_ : Code) = _), ?_⟩))
    rw [take_all (by simpa using h), take_all (by rw [← hab]; simpa using h)] at ht; exact ht
theorem listsOk : LoopOk Try.prog 46 27 (.loop (loopBody Try.prog 46 4)) listsC := loop_ok listsMu mixed (KL_ok (cc_cons same32Cc (cc_nil))) rfl (steps_cons listsStep (steps_nil))

/-! wayfinder/wayfinderkit.Lists[int32] -/
noncomputable def listsT : Tel ((List (List Int)) × (List (List Int)) × Unit) := .cons 0 (.lst Ell) (.cons 1 (.lst Ell) (.nil))

theorem listsFn (a : List (List Int)) (b : List (List Int)) (Q : AV → Prop) : (callW Try.prog (runW Try.prog (KL [(45, same32K)] [(46, [(4, listsC)])]) 200) 46 (listsT.cells id (a, (b, ()))) (stE false) (fun x st => frzW st x Q)) =
  ( ifp (!eqInt (Int.ofNat a.length) (Int.ofNat b.length)) (Q (AV.bool false)) (LoopOk Try.prog (46 : FuncId) (27 : Nat) (loopBody Try.prog (46 : FuncId) (4 :
  Nat)).loop listsC ∧ True ∧ True ∧ ∃ (l : List (List Int)), Wk (AV.vs (List.flatMap Ell.f a) a.length a.length false none (1 : Nat)) (lst Ell l) ∧ ∃ (l_1 : List
  (List Int)), Wk (AV.vs (List.flatMap Ell.f b) b.length b.length false none (1 : Nat)) (lst Ell l_1) ∧ true = true ∧ listsInv ((l, l_1, (0 : Int), ()), ()) ∧ (∀
  (c d : Unit), listsR0 ((l, l_1, (0 : Int), ()), ()) c d → Q (AV.bool true)) ∧ (∀ (c : Bool × Unit) (d : Unit), listsR1 ((l, l_1, (0 : Int), ()), ()) c d → Q
  (AV.bool c.1)) ∧ True)) := by kernel_rfl

def listsPre : (List (List Int)) × (List (List Int)) × Unit → Prop := fun (a, (b, ())) => a.length < 9223372036854775807 ∧ ∀ x ∈ a, x.length < 9223372036854775807
noncomputable def listsRes : (List (List Int)) × (List (List Int)) × Unit → AV := fun (a, (b, ())) => .bool (decide (a = b))
noncomputable def listsK : CallC := valC listsT listsPre listsRes

theorem listsVal (a : List (List Int)) (b : List (List Int)) (hp : listsPre (a, (b, ()))) : Val Try.prog 46 (listsT.cells id (a, (b, ()))) (listsRes (a, (b, ()))) := by
  refine Val.ofF mixed (KL_ok (cc_cons same32Cc (cc_nil))) (freesC rfl _) (listsFn a b) ?_
  obtain ⟨hp', hx⟩ := hp
  rw [ifp_ne]
  split
  · rename_i h
    refine ⟨listsOk, ?_⟩
    repeat (first
      | (refine ⟨Nat.le_refl _, ?_⟩)
      | (rw [ifp_pos (roomy_small (by simp only [Nat.add_eq]; omega) (by decide))])
      | (refine ⟨trivial, ?_⟩)
      | (refine ⟨(rfl : true = true), ?_⟩)
      | (refine ⟨idx_ok (by omega), ?_⟩)
      | (refine ⟨idx_ok0 (by omega), ?_⟩)
      | (refine ⟨_, nth_int (by omega), ?_⟩)
      | (refine ⟨_, _, _, _, _, _, nth_lst (by omega), ?_⟩)
      | (refine ⟨_, _, _, _, _, _, nth_lst0 (by omega), ?_⟩)
      | (refine ⟨_, Wk.refl _, ?_⟩)
      | (rw [ifp_pos rfl])
      | (refine ⟨(rfl : (_ : List Nat) = _), ?_⟩)
      | (refine ⟨(rfl : (_ : Code) = _), ?_⟩))
    refine ⟨⟨0, rfl, by omega, hp', by simp at h; omega, hx, rfl⟩, fun _ _ hr => ?_, fun c _ hr => ?_, trivial⟩
    · exact tells_bool (by rw [decide_eq_true (show a = b from hr)])
    · obtain ⟨r, _⟩ := c
      obtain ⟨rfl, hr⟩ := hr
      exact tells_bool (by rw [decide_eq_false hr])
  · rename_i h
    exact tells_bool (by rw [decide_eq_false]; intro e; subst e; exact h rfl)
theorem listsCc : CcOk Try.prog 46 listsK := val_ok rfl (fun ⟨a, ⟨b, _⟩⟩ h => listsVal a b h)

/-- The first w bytes of a number. -/
def putV (n : Int) (w : Nat) : List Int := (List.range w).map fun i => (n / 256 ^ i) % 256
theorem putV_len (n : Int) (w : Nat) : (putV n w).length = w := by simp [putV]
theorem putV_get {n : Int} {w k : Nat} (h : k < w) : (putV n w)[k]'(by rw [putV_len]; exact h) = (n / 256 ^ k) % 256 := by simp [putV]

theorem shr_byte {n : Int} {k : Nat} (hn : 0 ≤ n) (hk : k ≤ 8) : wrapF .u8 (shrV .u64 n ((8 * k : Nat) : Int)) = (n / 256 ^ k) % 256 := by
  have e1 : shrV .u64 n ((8 * k : Nat) : Int) = n / 256 ^ k := by
    show Int.fdiv n (.ofNat (Nat.pow 2 (ifb (Nat.ble (8 * k) 64) (8 * k) 64))) = _
    rw [show Nat.ble (8 * k) 64 = true from ble_t (by omega), ifb_true]
    rw [show (Int.ofNat (Nat.pow 2 (8 * k))) = (256 : Int) ^ k by
      show ((2 ^ (8 * k) : Nat) : Int) = _
      rw [Nat.pow_mul]; norm_cast]
    exact Int.fdiv_eq_ediv_of_nonneg _ (Int.le_of_lt (Int.pow_pos (by decide)))
  rw [e1, wrapF_eq]; rfl
theorem mul8 {k : Nat} (hk : k ≤ 1000000) : wrapF .i64 (Int.mul 8 (k : Int)) = ((8 * k : Nat) : Int) := by
  rw [w64 (by show _ ≤ 8 * (k : Int); omega) (by show 8 * (k : Int) < _; omega)]; show 8 * (k : Int) = _; omega
theorem putV_drop {n : Int} {w k : Nat} (h : k < w) : (putV n w).drop k = (n / 256 ^ k) % 256 :: (putV n w).drop (k + 1) := by
  rw [drop_get (by rw [putV_len]; exact h), putV_get h]

/-! The loop put of wayfinder/octet.Put. -/
abbrev putZ := (Int × (List Int) × Int × Int × Unit) × (Unit × Unit)
noncomputable def putSl : Tel (Int × (List Int) × Int × Int × Unit) := .cons 1 (.int .u64) (.cons 7 (.own Eu8 0) (.cons 17 (.int .i64) (.cons 18 (.int .i64) (.nil))))
noncomputable def putBl : BTel (Unit × Unit) := .cons (.spare) (.nil)
noncomputable def putFs : List (LForm putZ) := [⟨_, _, putSl, putBl, fun x y => (x, y)⟩]
noncomputable def putAlts (R0 : putZ → ((List Int) × Unit) → (Unit × Unit) → Prop) : List (Alt putZ) := [⟨.exit 0, (List Int) × Unit, Unit × Unit, .cons 7 (.own Eu8 0) (.nil), .cons (.spare) (.nil), R0⟩]

theorem putForm (n : Int) (out : List Int) (m : Int) (i : Int) (N : putZ → Prop) (R0 : putZ → ((List Int) × Unit) → (Unit × Unit) → Prop) : ((runW Try.prog (KL [] []) 100).code none 75 31 (loopBody Try.prog 75 3) (mkT (putSl.av id (n, (out, (m, (i, ())))))) [] (stL true (putBl.obs id ((), ()))) (postL 0 putFs (putAlts R0) ((n, (out, (m, (i, ())))), ((), ())) N)) =
  ( ifp (!leInt m i) ((0 : Int) ≤ wrapF IntKind.i64 (Int.mul (8 : Int) i) ∧ (1 : Nat) ≤ (1 : Nat) ∧ ifp (roomy (out.length.add (1 : Nat)) (1 : Nat)) (True ∧ ∃ (l :
  List Int), (WkL (List.flatMap Eu8.f out ++ [AV.int IntKind.u8 (wrapF IntKind.u8 (shrV IntKind.u64 n (wrapF IntKind.i64 (Int.mul (8 : Int) i))))]) (List.flatMap
  Eu8.f l) ∧ out.length.add (1 : Nat) = l.length ∧ (1 : Nat) = (1 : Nat)) ∧ true = true ∧ N ((n, l, m, wrapF IntKind.i64 (i.add (1 : Int)), ()), (), ())) False)
  (True ∧ ∃ (l : List Int), (WkL (List.flatMap Eu8.f out) (List.flatMap Eu8.f l) ∧ out.length = l.length ∧ (1 : Nat) = (1 : Nat)) ∧ true = true ∧ R0 ((n, out, m,
  i, ()), (), ()) (l, ()) ((), ()))) := by kernel_rfl

def putInv : putZ → Prop := fun ((n, (out, (m, (i, ())))), ((), ())) => ∃ k w : Nat, i = k ∧ m = w ∧ k ≤ w ∧ w ≤ 8 ∧ 0 ≤ n ∧ out.length ≤ 100000000 + k
def putMu : putZ → Nat := fun ((n, (out, (m, (i, ())))), ((), ())) => m.toNat - i.toNat
def putR0 : putZ → ((List Int) × Unit) → (Unit × Unit) → Prop := fun ((n, (out, (m, (i, ())))), ((), ())) (r, _) _ => r = out ++ (putV n m.toNat).drop i.toNat
noncomputable def putC : LoopC := loopC 0 putFs (putAlts putR0) putInv

theorem putStep : stepsOk Try.prog (KL [] []) 100 75 31 (loopBody Try.prog 75 3) 0 true putFs (putAlts putR0) putInv putMu ⟨_, _, putSl, putBl, fun x y => (x, y)⟩ := by
  intro x y hz
  obtain ⟨n, out, m, i, _⟩ := x
  obtain ⟨_, _⟩ := y
  refine (putForm n out m i _ _).mpr ?_
  obtain ⟨k, w, rfl, rfl, hk, hw, hn, ho⟩ := hz
  rw [ifp_lt]
  split
  · rename_i h
    have hkw : k < w := by omega
    rw [mul8 (by omega)]
    refine ⟨by omega, ?_⟩
    repeat (first
      | (refine ⟨Nat.le_refl _, ?_⟩)
      | (rw [ifp_pos (roomy_small (by simp only [Nat.add_eq]; omega) (by decide))])
      | (refine ⟨trivial, ?_⟩)
      | (refine ⟨(rfl : true = true), ?_⟩)
      | (refine ⟨idx_ok (by omega), ?_⟩)
      | (refine ⟨idx_ok0 (by omega), ?_⟩)
      | (refine ⟨_, nth_int (by omega), ?_⟩)
      | (refine ⟨_, _, _, _, _, _, nth_lst (by omega), ?_⟩)
      | (refine ⟨_, _, _, _, _, _, nth_lst0 (by omega), ?_⟩)
      | (refine ⟨_, Wk.refl _, ?_⟩)
      | (rw [ifp_pos rfl])
      | (refine ⟨(rfl : (_ : List Nat) = _), ?_⟩)
      | (refine ⟨(rfl : (_ : Code) = _), ?_⟩))
    refine ⟨out ++ [(n / 256 ^ k) % 256], ⟨wkl_snoc ⟨by rw [shr_byte hn (by omega)]; exact Wk.refl _, trivial⟩, len_snoc, rfl⟩, rfl, ?_⟩
    rw [wsucc (by omega)]
    refine ⟨⟨k + 1, w, rfl, rfl, hkw, hw, hn, by rw [List.length_append]; simp; omega⟩, by show w - (k + 1) < w - k; omega, fun c _ hr => ?_, trivial⟩
    obtain ⟨r, _⟩ := c
    have hr' : r = (out ++ [(n / 256 ^ k) % 256]) ++ (putV n w).drop (k + 1) := hr
    show r = out ++ (putV n w).drop k
    rw [hr', putV_drop hkw, List.append_assoc]; rfl
  · rename_i h
    repeat (first
      | (refine ⟨Nat.le_refl _, ?_⟩)
      | (rw [ifp_pos (roomy_small (by simp only [Nat.add_eq]; omega) (by decide))])
      | (refine ⟨trivial, ?_⟩)
      | (refine ⟨(rfl : true = true), ?_⟩)
      | (refine ⟨idx_ok (by omega), ?_⟩)
      | (refine ⟨idx_ok0 (by omega), ?_⟩)
      | (refine ⟨_, nth_int (by omega), ?_⟩)
      | (refine ⟨_, _, _, _, _, _, nth_lst (by omega), ?_⟩)
      | (refine ⟨_, _, _, _, _, _, nth_lst0 (by omega), ?_⟩)
      | (refine ⟨_, Wk.refl _, ?_⟩)
      | (rw [ifp_pos rfl])
      | (refine ⟨(rfl : (_ : List Nat) = _), ?_⟩)
      | (refine ⟨(rfl : (_ : Code) = _), ?_⟩))
    refine ⟨out, ⟨WkL.refl _, rfl, rfl⟩, rfl, ?_⟩
    show out = out ++ (putV n w).drop k
    rw [List.drop_of_length_le (by rw [putV_len]; omega), List.append_nil]
theorem putOk : LoopOk Try.prog 75 31 (.loop (loopBody Try.prog 75 3)) putC := loop_ok putMu mixed (KL_ok (cc_nil)) rfl (steps_cons putStep (steps_nil))

/-! wayfinder/octet.Put -/
noncomputable def putT : Tel ((List Int) × Int × Int × Unit) := .cons 0 (.lst Eu8) (.cons 1 (.int .u64) (.cons 2 (.int .i64) (.nil)))

theorem putFn (b : List Int) (n : Int) (w : Int) (Q : AV → Prop) : (callW Try.prog (runW Try.prog (KL [] [(75, [(3, putC)])]) 200) 75 (putT.cells id (b, (n, (w, ())))) (stE true) (fun x st => frzW st x Q)) =
  ( (0 : Int) ≤ (0 : Int) ∧ (0 : Int) ≤ wrapF IntKind.i64 ((Int.ofNat b.length).add (8 : Int)) ∧ wrapF IntKind.i64 ((Int.ofNat b.length).add (8 : Int)) ≤ (16777216
  : Int) ∧ roomy (natOf (wrapF IntKind.i64 ((Int.ofNat b.length).add (8 : Int)))) (1 : Nat) = true ∧ (0 : Int) = (0 : Int) ∧ (List.flatMap Eu8.f b).length =
  b.length.mul (1 : Nat) ∧ ifp (allScalar (List.flatMap Eu8.f b) && true) (ifp (roomy (Nat.add (0 : Nat) b.length) (1 : Nat)) (LoopOk Try.prog (75 : FuncId) (31
  : Nat) (loopBody Try.prog (75 : FuncId) (3 : Nat)).loop putC ∧ True ∧ True ∧ ∃ (l : List Int), (WkL ([] ++ List.flatMap Eu8.f b) (List.flatMap Eu8.f l) ∧
  Nat.add (0 : Nat) b.length = l.length ∧ (1 : Nat) = (1 : Nat)) ∧ true = true ∧ putInv ((n, l, ifb (leInt (ifb (leInt (0 : Int) w) w (0 : Int)) (8 : Int)) (ifb
  (leInt (0 : Int) w) w (0 : Int)) (8 : Int), (0 : Int), ()), (), ()) ∧ (∀ (c : List Int × Unit) (d : Unit × Unit), putR0 ((n, l, ifb (leInt (ifb (leInt (0 :
  Int) w) w (0 : Int)) (8 : Int)) (ifb (leInt (0 : Int) w) w (0 : Int)) (8 : Int), (0 : Int), ()), (), ()) c d → Q (AV.vs (List.flatMap Eu8.f c.1) c.1.length
  c.1.length false (some (2 : Nat)) (1 : Nat))) ∧ True) False) False) := by kernel_rfl

def putPre : (List Int) × Int × Int × Unit → Prop := fun (b, (n, (w, ()))) => 0 ≤ n ∧ n < 18446744073709551616 ∧ 0 ≤ w ∧ w ≤ 8 ∧ b.length ≤ 10000000
noncomputable def putRes : (List Int) × Int × Int × Unit → AV := fun (b, (n, (w, ()))) => lst Eu8 (b ++ putV n w.toNat)
noncomputable def putK : CallC := valC putT putPre putRes

theorem putVal (b : List Int) (n : Int) (w : Int) (hp : putPre (b, (n, (w, ())))) : Val Try.prog 75 (putT.cells id (b, (n, (w, ())))) (putRes (b, (n, (w, ())))) := by
  refine Val.ofF mixed (KL_ok (cc_nil)) (freesC rfl _) (putFn b n w) ?_
  obtain ⟨p1, p2, p3, p4, p5⟩ := hp
  have e1 : wrapF .i64 ((Int.ofNat b.length).add 8) = ((b.length + 8 : Nat) : Int) := by rw [w64 (by show _ ≤ (b.length : Int) + 8; omega) (by show (b.length : Int) + 8 < _; omega)]; rfl
  simp only [ifb_le, if_pos p3, if_pos p4, e1, natOf_nat]
  refine ⟨by omega, by omega, by omega, roomy_small (by omega) (by decide), trivial, Enc.flen Eu8 b, ?_⟩
  rw [ifp_pos (by rw [Enc.fscal Eu8]; rfl)]
  repeat (first
    | (refine ⟨Nat.le_refl _, ?_⟩)
    | (rw [ifp_pos (roomy_small (by simp only [Nat.add_eq]; omega) (by decide))])
    | (refine ⟨trivial, ?_⟩)
    | (refine ⟨(rfl : true = true), ?_⟩)
    | (refine ⟨idx_ok (by omega), ?_⟩)
    | (refine ⟨idx_ok0 (by omega), ?_⟩)
    | (refine ⟨_, nth_int (by omega), ?_⟩)
    | (refine ⟨_, _, _, _, _, _, nth_lst (by omega), ?_⟩)
    | (refine ⟨_, _, _, _, _, _, nth_lst0 (by omega), ?_⟩)
    | (refine ⟨_, Wk.refl _, ?_⟩)
    | (rw [ifp_pos rfl])
    | (refine ⟨(rfl : (_ : List Nat) = _), ?_⟩)
    | (refine ⟨(rfl : (_ : Code) = _), ?_⟩))
  refine ⟨putOk, trivial, trivial, b, ⟨by simpa using WkL.refl _, by simp, trivial⟩, trivial, ⟨0, w.toNat, rfl, by omega, by omega, by omega, p1, by omega⟩, fun c _ hr => ?_, trivial⟩
  obtain ⟨r, _⟩ := c
  have hr' : r = b ++ (putV n w.toNat).drop 0 := hr
  obtain rfl : r = b ++ putV n w.toNat := by rw [hr']; rfl
  exact tells_lst ⟨rfl, rfl, rfl⟩
theorem putCc : CcOk Try.prog 75 putK := val_ok rfl (fun ⟨b, ⟨n, ⟨w, _⟩⟩⟩ h => putVal b n w h)

theorem flat_le {l : List (List Int)} {b : Nat} (h : ∀ x ∈ l, x.length ≤ b) : l.flatten.length ≤ l.length * b := by
  induction l with
  | nil => simp
  | cons a l ih =>
    have h1 := h a (by simp)
    have h2 := ih (fun x hx => h x (by simp [hx]))
    simp only [List.flatten_cons, List.length_append, List.length_cons, Nat.add_mul]; omega
theorem flat_take {l : List (List Int)} {k : Nat} (h : k < l.length) : (l.take (k + 1)).flatten = (l.take k).flatten ++ l[k] := by
  rw [← List.take_append_getElem h, List.flatten_append]; simp
theorem flat_take_le (l : List (List Int)) (k : Nat) : (l.take k).flatten.length ≤ l.flatten.length := by
  conv => rhs; rw [← List.take_append_drop k l, List.flatten_append, List.length_append]
  omega

/-! The loop ccat1 of slices.Concat[[]int32,int32]. -/
abbrev ccat1Z := ((List (List Int)) × (List (List Int)) × Int × Int × Int × Unit) × (Unit)
noncomputable def ccat1Sl : Tel ((List (List Int)) × (List (List Int)) × Int × Int × Int × Unit) := .cons 9 (.lst Ell) (.cons 0 (.lst Ell) (.cons 3 (.int .i64) (.cons 10 (.int .i64) (.cons 11 (.int .i64) (.nil)))))
noncomputable def ccat1Bl : BTel (Unit) := .nil
noncomputable def ccat1Fs : List (LForm ccat1Z) := [⟨_, _, ccat1Sl, ccat1Bl, fun x y => (x, y)⟩]
noncomputable def ccat1Alts (R0 : ccat1Z → ((List (List Int)) × Int × Unit) → (Unit) → Prop) : List (Alt ccat1Z) := [⟨.exit 0, (List (List Int)) × Int × Unit, Unit, .cons 0 (.lst Ell) (.cons 3 (.int .i64) (.nil)), .nil, R0⟩]

theorem ccat1Form (l : List (List Int)) (c : List (List Int)) (s : Int) (n : Int) (i : Int) (N : ccat1Z → Prop) (R0 : ccat1Z → ((List (List Int)) × Int × Unit) → (Unit) → Prop) : ((runW Try.prog (KL [] []) 100).code none 74 36 (loopBody Try.prog 74 3) (mkT (ccat1Sl.av id (l, (c, (s, (n, (i, ()))))))) [] (stL false (ccat1Bl.obs id ())) (postL 0 ccat1Fs (ccat1Alts R0) ((l, (c, (s, (n, (i, ()))))), ()) N)) =
  ( ifp (!leInt n i) (idxOk i l.length ∧ ∃ (l' : List AV), ∃ (n_1 : Nat), ∃ (c_1 : Nat), ∃ (x : Bool), ∃ (w : Option Nat), ∃ (e : Nat), nth ((natOf i).mul (1 :
  Nat)) (List.flatMap Ell.f l) = some (AV.vs l' n_1 c_1 x w e) ∧ ifp (!leInt (0 : Int) (wrapF IntKind.i64 (s.add (Int.ofNat n_1)))) False (True ∧ ∃ (l_1 : List
  (List Int)), Wk (AV.vs (List.flatMap Ell.f l) l.length l.length false none (1 : Nat)) (lst Ell l_1) ∧ ∃ (l : List (List Int)), Wk (AV.vs (List.flatMap Ell.f c)
  c.length c.length false none (1 : Nat)) (lst Ell l) ∧ true = true ∧ N ((l_1, l, wrapF IntKind.i64 (s.add (Int.ofNat n_1)), n, wrapF IntKind.i64 (i.add (1 :
  Int)), ()), ()))) (True ∧ ∃ (l_1 : List (List Int)), Wk (AV.vs (List.flatMap Ell.f c) c.length c.length false none (1 : Nat)) (lst Ell l_1) ∧ true = true ∧ R0
  ((l, c, s, n, i, ()), ()) (l_1, s, ()) ())) := by kernel_rfl

def ccat1Inv : ccat1Z → Prop := fun ((l, (c, (s, (n, (i, ()))))), ()) => ∃ k : Nat, i = k ∧ n = l.length ∧ k ≤ l.length ∧ l.length ≤ 4096 ∧ (∀ x ∈ l, x.length ≤ 1024) ∧ s = ((l.take k).flatten.length : Nat)
def ccat1Mu : ccat1Z → Nat := fun ((l, (c, (s, (n, (i, ()))))), ()) => l.length - i.toNat
def ccat1R0 : ccat1Z → ((List (List Int)) × Int × Unit) → (Unit) → Prop := fun ((l, (c, (s, (n, (i, ()))))), ()) (c2, r, _) _ => c2 = c ∧ r = (l.flatten.length : Nat)
noncomputable def ccat1C : LoopC := loopC 0 ccat1Fs (ccat1Alts ccat1R0) ccat1Inv

theorem ccat1Step : stepsOk Try.prog (KL [] []) 100 74 36 (loopBody Try.prog 74 3) 0 false ccat1Fs (ccat1Alts ccat1R0) ccat1Inv ccat1Mu ⟨_, _, ccat1Sl, ccat1Bl, fun x y => (x, y)⟩ := by
  intro x y hz
  obtain ⟨l, c, s, n, i, _⟩ := x
  obtain _ := y
  refine (ccat1Form l c s n i _ _).mpr ?_
  obtain ⟨k, rfl, rfl, hk, hl, hx, rfl⟩ := hz
  rw [ifp_lt]
  simp only [natOf_nat]
  have hb := flat_le hx
  have hb2 := flat_take_le l k
  split
  · rename_i h
    have hkl : k < l.length := by simpa using h
    have hb3 := flat_take_le l (k + 1)
    rw [flat_take hkl, List.length_append] at hb3
    repeat (first
      | (refine ⟨Nat.le_refl _, ?_⟩)
      | (rw [ifp_pos (roomy_small (by simp only [Nat.add_eq]; omega) (by decide))])
      | (refine ⟨trivial, ?_⟩)
      | (refine ⟨(rfl : true = true), ?_⟩)
      | (refine ⟨idx_ok (by omega), ?_⟩)
      | (refine ⟨idx_ok0 (by omega), ?_⟩)
      | (refine ⟨_, nth_int (by omega), ?_⟩)
      | (refine ⟨_, _, _, _, _, _, nth_lst (by omega), ?_⟩)
      | (refine ⟨_, _, _, _, _, _, nth_lst0 (by omega), ?_⟩)
      | (refine ⟨_, Wk.refl _, ?_⟩)
      | (rw [ifp_pos rfl])
      | (refine ⟨(rfl : (_ : List Nat) = _), ?_⟩)
      | (refine ⟨(rfl : (_ : Code) = _), ?_⟩))
    have e : wrapF .i64 (Int.add (((l.take k).flatten.length : Nat) : Int) (Int.ofNat l[k].length)) = (((l.take (k + 1)).flatten.length : Nat) : Int) := by
      rw [flat_take hkl, List.length_append, w64 (by show _ ≤ (((l.take k).flatten.length : Nat) : Int) + (l[k].length : Int); omega) (by show (((l.take k).flatten.length : Nat) : Int) + (l[k].length : Int) < _; omega)]
      show (((l.take k).flatten.length : Nat) : Int) + (l[k].length : Int) = _; omega
    rw [e, ifp_lt, if_neg (by omega)]
    repeat (first
      | (refine ⟨Nat.le_refl _, ?_⟩)
      | (rw [ifp_pos (roomy_small (by simp only [Nat.add_eq]; omega) (by decide))])
      | (refine ⟨trivial, ?_⟩)
      | (refine ⟨(rfl : true = true), ?_⟩)
      | (refine ⟨idx_ok (by omega), ?_⟩)
      | (refine ⟨idx_ok0 (by omega), ?_⟩)
      | (refine ⟨_, nth_int (by omega), ?_⟩)
      | (refine ⟨_, _, _, _, _, _, nth_lst (by omega), ?_⟩)
      | (refine ⟨_, _, _, _, _, _, nth_lst0 (by omega), ?_⟩)
      | (refine ⟨_, Wk.refl _, ?_⟩)
      | (rw [ifp_pos rfl])
      | (refine ⟨(rfl : (_ : List Nat) = _), ?_⟩)
      | (refine ⟨(rfl : (_ : Code) = _), ?_⟩))
    rw [wsucc (by omega)]
    exact ⟨⟨k + 1, rfl, rfl, hkl, hl, hx, rfl⟩, by show l.length - (k + 1) < l.length - k; omega, fun _ _ h => h, trivial⟩
  · rename_i h
    repeat (first
      | (refine ⟨Nat.le_refl _, ?_⟩)
      | (rw [ifp_pos (roomy_small (by simp only [Nat.add_eq]; omega) (by decide))])
      | (refine ⟨trivial, ?_⟩)
      | (refine ⟨(rfl : true = true), ?_⟩)
      | (refine ⟨idx_ok (by omega), ?_⟩)
      | (refine ⟨idx_ok0 (by omega), ?_⟩)
      | (refine ⟨_, nth_int (by omega), ?_⟩)
      | (refine ⟨_, _, _, _, _, _, nth_lst (by omega), ?_⟩)
      | (refine ⟨_, _, _, _, _, _, nth_lst0 (by omega), ?_⟩)
      | (refine ⟨_, Wk.refl _, ?_⟩)
      | (rw [ifp_pos rfl])
      | (refine ⟨(rfl : (_ : List Nat) = _), ?_⟩)
      | (refine ⟨(rfl : (_ : Code) = _), ?_⟩))
    exact ⟨rfl, by rw [take_all (by simpa using h)]⟩
theorem ccat1Ok : LoopOk Try.prog 74 36 (.loop (loopBody Try.prog 74 3)) ccat1C := loop_ok ccat1Mu mixed (KL_ok (cc_nil)) rfl (steps_cons ccat1Step (steps_nil))

/-! The loop ccat2 of slices.Concat[[]int32,int32]. -/
abbrev ccat2Z := ((List (List Int)) × Int × Int × (Nat × Nat) × Unit) × ((List Int) × Unit)
noncomputable def ccat2Sl : Tel ((List (List Int)) × Int × Int × (Nat × Nat) × Unit) := .cons 25 (.lst Ell) (.cons 26 (.int .i64) (.cons 27 (.int .i64) (.cons 6 (.slq 0 1) (.nil))))
noncomputable def ccat2Bl : BTel ((List Int) × Unit) := .cons (.rows Ei32 21) (.nil)
noncomputable def ccat2Fs : List (LForm ccat2Z) := [⟨_, _, ccat2Sl, ccat2Bl, fun x y => (x, y)⟩]
noncomputable def ccat2Alts (R0 : ccat2Z → ((Nat × Nat) × Unit) → ((List Int) × Unit) → Prop) : List (Alt ccat2Z) := [⟨.exit 2, (Nat × Nat) × Unit, (List Int) × Unit, .cons 6 (.slq 0 1) (.nil), .cons (.rows Ei32 21) (.nil), R0⟩]

theorem ccat2Form (l : List (List Int)) (n : Int) (i : Int) (out : Nat × Nat) (m : List Int) (N : ccat2Z → Prop) (R0 : ccat2Z → ((Nat × Nat) × Unit) → ((List Int) × Unit) → Prop) : ((runW Try.prog (KLS [] [] 21) 100).code none 74 36 (loopBody Try.prog 74 11) (mkT (ccat2Sl.av id (l, (n, (i, (out, ())))))) [] (stL false (ccat2Bl.obs id (m, ()))) (postL 0 ccat2Fs (ccat2Alts R0) ((l, (n, (i, (out, ())))), (m, ())) N)) =
  ( ifp (!leInt n i) (idxOk i l.length ∧ ∃ (l' : List AV), ∃ (n_1 : Nat), ∃ (c : Nat), ∃ (x : Bool), ∃ (w : Option Nat), ∃ (e : Nat), nth ((natOf i).mul (1 : Nat))
  (List.flatMap Ell.f l) = some (AV.vs l' n_1 c x w e) ∧ ifp (e.beq (1 : Nat)) (l'.length = n_1.mul e ∧ ifp (allScalar l' && true) ((out.snd < out.fst.add n_1 ∧
  (0 : Nat) = (0 : Nat) ∧ out.fst.mul (1 : Nat) = (List.flatMap Ei32.f m).length ∧ roomy (out.fst.add n_1) (4 : Nat) = true ∧ True ∧ ∃ (l_1 : List (List Int)),
  Wk (AV.vs (List.flatMap Ell.f l) l.length l.length false none (1 : Nat)) (lst Ell l_1) ∧ ∃ (l : List Int), List.flatMap Ei32.f m ++ l' = List.flatMap Ei32.f l
  ∧ true = true ∧ N ((l_1, n, wrapF IntKind.i64 (i.add (1 : Int)), (out.fst.add n_1, out.fst.add n_1), ()), l, ())) ∨ out.fst.add n_1 ≤ out.snd ∧ n_1 ≠ (0 : Nat)
  ∧ (Nat.add (0 : Nat) (out.fst.mul (1 : Nat))).add l'.length ≤ (List.flatMap Ei32.f m).length ∧ True ∧ ∃ (l_1 : List (List Int)), Wk (AV.vs (List.flatMap Ell.f
  l) l.length l.length false none (1 : Nat)) (lst Ell l_1) ∧ ∃ (l : List Int), setAt (Nat.add (0 : Nat) (out.fst.mul (1 : Nat))) l' (List.flatMap Ei32.f m) =
  List.flatMap Ei32.f l ∧ true = true ∧ N ((l_1, n, wrapF IntKind.i64 (i.add (1 : Int)), (out.fst.add n_1, out.snd), ()), l, ())) False) False) (True ∧ ∃ (l_1 :
  List Int), List.flatMap Ei32.f m = List.flatMap Ei32.f l_1 ∧ true = true ∧ R0 ((l, n, i, out, ()), m, ()) ((out.fst, out.snd), ()) (l_1, ()))) := by kernel_rfl

def ccat2Inv : ccat2Z → Prop := fun ((l, (n, (i, (out, ())))), (m, ())) => ∃ k : Nat, i = k ∧ n = l.length ∧ k ≤ l.length ∧ l.length ≤ 4096 ∧ (∀ x ∈ l, 1 ≤ x.length ∧ x.length ≤ 1024) ∧ out = ((l.take k).flatten.length, l.flatten.length) ∧ m.length = l.flatten.length ∧ m.take (l.take k).flatten.length = (l.take k).flatten
def ccat2Mu : ccat2Z → Nat := fun ((l, (n, (i, (out, ())))), (m, ())) => l.length - i.toNat
def ccat2R0 : ccat2Z → ((Nat × Nat) × Unit) → ((List Int) × Unit) → Prop := fun ((l, (n, (i, (out, ())))), (m, ())) (r, _) (m2, _) => r = (l.flatten.length, l.flatten.length) ∧ m2 = l.flatten
noncomputable def ccat2C : LoopC := loopC 0 ccat2Fs (ccat2Alts ccat2R0) ccat2Inv

theorem ccat2Step : stepsOk Try.prog (KLS [] [] 21) 100 74 36 (loopBody Try.prog 74 11) 0 false ccat2Fs (ccat2Alts ccat2R0) ccat2Inv ccat2Mu ⟨_, _, ccat2Sl, ccat2Bl, fun x y => (x, y)⟩ := by
  intro x y hz
  obtain ⟨l, n, i, out, _⟩ := x
  obtain ⟨m, _⟩ := y
  refine (ccat2Form l n i out m _ _).mpr ?_
  obtain ⟨k, rfl, rfl, hk, hl, hx, rfl, hm, ht⟩ := hz
  rw [ifp_lt]
  simp only [natOf_nat]
  split
  · rename_i h
    have hkl : k < l.length := by simpa using h
    have hb3 := flat_take_le l (k + 1)
    rw [flat_take hkl, List.length_append] at hb3
    have h1 := hx _ (List.getElem_mem hkl)
    repeat (first
      | (refine ⟨Nat.le_refl _, ?_⟩)
      | (rw [ifp_pos (roomy_small (by simp only [Nat.add_eq]; omega) (by decide))])
      | (refine ⟨trivial, ?_⟩)
      | (refine ⟨(rfl : true = true), ?_⟩)
      | (refine ⟨idx_ok (by omega), ?_⟩)
      | (refine ⟨idx_ok0 (by omega), ?_⟩)
      | (refine ⟨_, nth_int (by omega), ?_⟩)
      | (refine ⟨_, _, _, _, _, _, nth_lst (by omega), ?_⟩)
      | (refine ⟨_, _, _, _, _, _, nth_lst0 (by omega), ?_⟩)
      | (refine ⟨_, Wk.refl _, ?_⟩)
      | (rw [ifp_pos rfl])
      | (refine ⟨(rfl : (_ : List Nat) = _), ?_⟩)
      | (refine ⟨(rfl : (_ : Code) = _), ?_⟩))
    refine ⟨Enc.flen Ei32 _, ?_⟩
    rw [ifp_pos (by rw [Enc.fscal Ei32]; rfl)]
    have e0 : Nat.add 0 (Nat.mul (l.take k).flatten.length 1) = (l.take k).flatten.length := by simp
    have e1 : (l[k].flatMap Ei32.f).length = l[k].length := (Enc.flen Ei32 _).trans (Nat.mul_one _)
    have e2 : (m.flatMap Ei32.f).length = m.length := (Enc.flen Ei32 _).trans (Nat.mul_one _)
    refine Or.inr ⟨by simp only [Nat.add_eq]; omega, by omega, by rw [e0, e1, e2]; simp only [Nat.add_eq]; omega, trivial, l, Wk.refl _, m.take (l.take k).flatten.length ++ l[k] ++ m.drop ((l.take k).flatten.length + l[k].length), ?_, by first | trivial | rfl, ?_⟩
    · rw [e0]; exact setAt_app (E := Ei32) rfl (by omega)
    · rw [wsucc (by omega)]
      refine ⟨⟨k + 1, rfl, rfl, hkl, hl, hx, ?_, ?_, ?_⟩, by show l.length - (k + 1) < l.length - k; omega, fun _ _ h => h, trivial⟩
      · rw [flat_take hkl, List.length_append]; rfl
      · simp only [List.length_append, List.length_take, List.length_drop]; omega
      · rw [flat_take hkl, List.length_append, ht, List.take_append_of_le_length (by simp)]
        exact List.take_of_length_le (by simp)
  · rename_i h
    have hkl : ¬ k < l.length := by simpa using h
    rw [take_all hkl] at ht
    refine ⟨trivial, m, by first | trivial | rfl, by first | trivial | rfl, ?_⟩
    rw [take_all hkl]
    exact ⟨rfl, by rw [← ht, List.take_of_length_le (by omega)]⟩
theorem ccat2Ok : LoopOk Try.prog 74 36 (.loop (loopBody Try.prog 74 11)) ccat2C := loop_ok ccat2Mu mixed (KLS_ok (cc_nil)) rfl (steps_cons ccat2Step (steps_nil))

/-! slices.Concat[[]int32,int32] -/
noncomputable def ccatT : Tel ((List (List Int)) × Unit) := .cons 0 (.lst Ell) (.nil)

theorem ccatFn (c : List (List Int)) (Q : AV → Prop) : (callW Try.prog (runW Try.prog (KLS [] [(74, [(3, ccat1C), (11, ccat2C)])] 21) 200) 74 (ccatT.cells id (c, ())) (stE false) (fun x st => frzW st x Q)) =
  ( LoopOk Try.prog (74 : FuncId) (36 : Nat) (loopBody Try.prog (74 : FuncId) (3 : Nat)).loop ccat1C ∧ True ∧ True ∧ ∃ (l : List (List Int)), Wk (AV.vs
  (List.flatMap Ell.f c) c.length c.length false none (1 : Nat)) (lst Ell l) ∧ ∃ (l_1 : List (List Int)), Wk (AV.vs (List.flatMap Ell.f c) c.length c.length
  false none (1 : Nat)) (lst Ell l_1) ∧ true = true ∧ ccat1Inv ((l, l_1, (0 : Int), Int.ofNat c.length, (0 : Int), ()), ()) ∧ (∀ (c_1 : List (List Int) × Int ×
  Unit) (d : Unit), ccat1R0 ((l, l_1, (0 : Int), Int.ofNat c.length, (0 : Int), ()), ()) c_1 d → ifp (!leInt (0 : Int) c_1.2.1) False (ifp (!leInt (wrapF
  IntKind.i64 (c_1.2.1.sub (0 : Int))) (0 : Int)) ((0 : Int) ≤ wrapF IntKind.i64 (c_1.2.1.sub (0 : Int)) ∧ wrapF IntKind.i64 (c_1.2.1.sub (0 : Int)) ≤ (16777216
  : Int) ∧ roomy (natOf (wrapF IntKind.i64 (c_1.2.1.sub (wrapF IntKind.i64 (Int.sub (0 : Int) (0 : Int)))))) (4 : Nat) = true ∧ ifp (allScalar (repl (natOf
  (wrapF IntKind.i64 (c_1.2.1.sub (wrapF IntKind.i64 (Int.sub (0 : Int) (0 : Int)))))) [AV.int IntKind.i32 (0 : Int)]) && true) (natOf (wrapF IntKind.i64
  (c_1.2.1.sub (wrapF IntKind.i64 (Int.sub (0 : Int) (0 : Int))))) ≠ (0 : Nat) ∧ roomy (natOf (wrapF IntKind.i64 (c_1.2.1.sub (wrapF IntKind.i64 (Int.sub (0 :
  Int) (0 : Int)))))) (4 : Nat) = true ∧ (0 : Int) ≤ (0 : Int) ∧ (0 : Int) ≤ ↑(natOf (wrapF IntKind.i64 (c_1.2.1.sub (wrapF IntKind.i64 (Int.sub (0 : Int) (0 :
  Int)))))) ∧ LoopOk Try.prog (74 : FuncId) (36 : Nat) (loopBody Try.prog (74 : FuncId) (11 : Nat)).loop ccat2C ∧ True ∧ True ∧ ∃ (l : List (List Int)), Wk
  (AV.vs (List.flatMap Ell.f c_1.1) c_1.1.length c_1.1.length false none (1 : Nat)) (lst Ell l) ∧ ∃ (l_2 : List Int), repl (natOf (wrapF IntKind.i64 (c_1.2.1.sub
  (wrapF IntKind.i64 (Int.sub (0 : Int) (0 : Int)))))) [AV.int IntKind.i32 (0 : Int)] = List.flatMap Ei32.f l_2 ∧ true = true ∧ ccat2Inv ((l, Int.ofNat
  c_1.1.length, (0 : Int), ((0 : Nat), (natOf (wrapF IntKind.i64 (c_1.2.1.sub (wrapF IntKind.i64 (Int.sub (0 : Int) (0 : Int)))))).sub (0 : Nat)), ()), l_2, ())
  ∧ (∀ (c : (Nat × Nat) × Unit) (d : List Int × Unit), ccat2R0 ((l, Int.ofNat c_1.1.length, (0 : Int), ((0 : Nat), (natOf (wrapF IntKind.i64 (c_1.2.1.sub (wrapF
  IntKind.i64 (Int.sub (0 : Int) (0 : Int)))))).sub (0 : Nat)), ()), l_2, ()) c d → Nat.add (0 : Nat) (c.1.fst.mul (1 : Nat)) ≤ (List.flatMap Ei32.f d.1).length
  ∧ Q (AV.vs (List.take (c.1.fst.mul (1 : Nat)) (List.drop (0 : Nat) (List.flatMap Ei32.f d.1))) c.1.fst c.1.snd false none (1 : Nat))) ∧ True) False) (LoopOk
  Try.prog (74 : FuncId) (36 : Nat) (loopBody Try.prog (74 : FuncId) (11 : Nat)).loop ccat2C ∧ True ∧ True ∧ ∃ (l : List (List Int)), Wk (AV.vs (List.flatMap
  Ell.f c_1.1) c_1.1.length c_1.1.length false none (1 : Nat)) (lst Ell l) ∧ False))) ∧ True) := by kernel_rfl

def ccatPre : (List (List Int)) × Unit → Prop := fun (c, ()) => 1 ≤ c.length ∧ c.length ≤ 4096 ∧ ∀ x ∈ c, 1 ≤ x.length ∧ x.length ≤ 1024
noncomputable def ccatRes : (List (List Int)) × Unit → AV := fun (c, ()) => lst Ei32 c.flatten
noncomputable def ccatK : CallC := valC ccatT ccatPre ccatRes

theorem ccatVal (c : List (List Int)) (hp : ccatPre (c, ())) : Val Try.prog 74 (ccatT.cells id (c, ())) (ccatRes (c, ())) := by
  refine Val.ofF mixed (KLS_ok (cc_nil)) (freesC rfl _) (ccatFn c) ?_
  obtain ⟨p1, p2, p3⟩ := hp
  have hb := flat_le (fun x hx => (p3 x hx).2)
  have hpos : 1 ≤ c.flatten.length := by
    cases c with
    | nil => simp at p1
    | cons a c => have := p3 a (by simp); rw [List.flatten_cons, List.length_append]; omega
  refine ⟨ccat1Ok, trivial, trivial, c, Wk.refl _, c, Wk.refl _, rfl, ⟨0, rfl, rfl, by omega, p2, fun x hx => (p3 x hx).2, rfl⟩, fun d _ hr => ?_, trivial⟩
  obtain ⟨c2, s, _⟩ := d
  obtain ⟨rfl, rfl⟩ := hr
  have e : wrapF .i64 (Int.sub ((c2.flatten.length : Nat) : Int) 0) = ((c2.flatten.length : Nat) : Int) := by rw [w64 (by show _ ≤ (c2.flatten.length : Int) - 0; omega) (by show (c2.flatten.length : Int) - 0 < _; omega)]; exact Int.sub_zero _
  have e0 : wrapF .i64 (Int.sub 0 0) = 0 := rfl
  simp only [e0, e, natOf_nat]
  rw [ifp_lt, if_neg (by omega), ifp_lt, if_pos (by omega)]
  refine ⟨by omega, by omega, roomy_small (by omega) (by decide), ?_⟩
  rw [show [AV.int .i32 (0 : Int)] = Ei32.f 0 from rfl, repl_enc, ifp_pos (by rw [Enc.fscal Ei32]; rfl)]
  refine ⟨by omega, roomy_small (by omega) (by decide), by omega, by omega, ccat2Ok, trivial, trivial, c2, Wk.refl _, List.replicate c2.flatten.length 0, rfl, by first | trivial | rfl, ⟨0, rfl, rfl, by omega, p2, p3, by simp, by simp, by simp⟩, fun d m hr => ?_, trivial⟩
  obtain ⟨r, _⟩ := d
  obtain ⟨m, _⟩ := m
  obtain ⟨rfl, rfl⟩ := hr
  have e2 : (c2.flatten.flatMap Ei32.f).length = c2.flatten.length := (Enc.flen Ei32 _).trans (Nat.mul_one _)
  refine ⟨by rw [e2]; simp, ?_⟩
  exact tells_lst ⟨by show List.take (Nat.mul _ 1) _ = _; rw [List.take_of_length_le (by rw [List.length_drop, e2]; simp)]; rfl, rfl, rfl⟩
theorem ccatCc : CcOk Try.prog 74 ccatK := val_ok rfl (fun ⟨c, _⟩ h => ccatVal c h)

def u64 (x : Int) : Int := x % 18446744073709551616
def bytesV (c : List (List Int)) : List Int := if checkV c = 0 then c.flatten.flatMap (fun x => putV (u64 x) 4) else []
theorem u64_of {x : Int} (h1 : -2147483648 ≤ x) (h2 : x < 2147483648) : wrapF .u64 (wrapF .i64 x) = u64 x := by
  rw [w64 (by omega) (by omega), wrapF_eq]; rfl
theorem u64_range (x : Int) : 0 ≤ u64 x ∧ u64 x < 18446744073709551616 := by unfold u64; omega
theorem fm_take {α β : Type} {f : α → List β} {l : List α} {k : Nat} (h : k < l.length) : (l.take (k + 1)).flatMap f = (l.take k).flatMap f ++ f l[k] := by
  rw [← List.take_append_getElem h, List.flatMap_append]; simp
theorem puts_len (l : List Int) : (l.flatMap fun x => putV (u64 x) 4).length = l.length * 4 := by
  induction l with
  | nil => rfl
  | cons a l ih => rw [List.flatMap_cons, List.length_append, ih, putV_len, List.length_cons]; omega

/-! The loop byt of wayfinder/cell.Bytes. -/
abbrev bytZ := ((List Int) × Int × Int × (List Int) × Unit) × (Unit × Unit)
noncomputable def bytSl : Tel ((List Int) × Int × Int × (List Int) × Unit) := .cons 10 (.lst Ei32) (.cons 11 (.int .i64) (.cons 12 (.int .i64) (.cons 3 (.own Eu8 0) (.nil))))
noncomputable def bytBl : BTel (Unit × Unit) := .cons (.spare) (.nil)
noncomputable def bytSl0 : Tel ((List Int) × Int × Int × Unit × Unit) := .cons 10 (.lst Ei32) (.cons 11 (.int .i64) (.cons 12 (.int .i64) (.cons 3 (.nilS) (.nil))))
noncomputable def bytBl0 : BTel (Unit) := .nil
noncomputable def bytZ0 : ((List Int) × Int × Int × Unit × Unit) → (Unit) → bytZ := fun (l, (n, (i, ((), ())))) () => ((l, (n, (i, ([], ())))), ((), ()))
noncomputable def bytFs : List (LForm bytZ) := [⟨_, _, bytSl, bytBl, fun x y => (x, y)⟩, ⟨_, _, bytSl0, bytBl0, bytZ0⟩]
noncomputable def bytAlts (R0 : bytZ → ((List Int) × Unit) → (Unit × Unit) → Prop) (R1 : bytZ → (Unit × Unit) → (Unit) → Prop) : List (Alt bytZ) := [⟨.exit 0, (List Int) × Unit, Unit × Unit, .cons 3 (.own Eu8 0) (.nil), .cons (.spare) (.nil), R0⟩, ⟨.exit 0, Unit × Unit, Unit, .cons 3 (.nilS) (.nil), .nil, R1⟩]

theorem bytForm (l : List Int) (n : Int) (i : Int) (out : List Int) (N : bytZ → Prop) (R0 : bytZ → ((List Int) × Unit) → (Unit × Unit) → Prop) (R1 : bytZ → (Unit × Unit) → (Unit) → Prop) : ((runW Try.prog (KL [(75, putK)] []) 100).code none 48 24 (loopBody Try.prog 48 5) (mkT (bytSl.av id (l, (n, (i, (out, ())))))) [] (stL true (bytBl.obs id ((), ()))) (postL 0 bytFs (bytAlts R0 R1) ((l, (n, (i, (out, ())))), ((), ())) N)) =
  ( ifp (!leInt n i) (idxOk i l.length ∧ ∃ (x : Int), nth ((natOf i).mul (1 : Nat)) (List.flatMap Ei32.f l) = some (AV.int IntKind.i32 x) ∧ ∃ (l_1 : List Int), Wk
  AV.nilSlice (lst Eu8 l_1) ∧ putPre (l_1, wrapF IntKind.u64 (wrapF IntKind.i64 x), (4 : Int), ()) ∧ (List.flatMap Eu8.f (l_1 ++ [wrapF IntKind.u64 (wrapF
  IntKind.i64 x) / (256 : Int) ^ nat_lit 0 % (256 : Int), wrapF IntKind.u64 (wrapF IntKind.i64 x) / (256 : Int) ^ nat_lit 1 % (256 : Int), wrapF IntKind.u64
  (wrapF IntKind.i64 x) / (256 : Int) ^ nat_lit 2 % (256 : Int), wrapF IntKind.u64 (wrapF IntKind.i64 x) / (256 : Int) ^ nat_lit 3 % (256 : Int)])).length = (l_1
  ++ [wrapF IntKind.u64 (wrapF IntKind.i64 x) / (256 : Int) ^ nat_lit 0 % (256 : Int), wrapF IntKind.u64 (wrapF IntKind.i64 x) / (256 : Int) ^ nat_lit 1 % (256 :
  Int), wrapF IntKind.u64 (wrapF IntKind.i64 x) / (256 : Int) ^ nat_lit 2 % (256 : Int), wrapF IntKind.u64 (wrapF IntKind.i64 x) / (256 : Int) ^ nat_lit 3 % (256
  : Int)]).length.mul (1 : Nat) ∧ ifp (allScalar (List.flatMap Eu8.f (l_1 ++ [wrapF IntKind.u64 (wrapF IntKind.i64 x) / (256 : Int) ^ nat_lit 0 % (256 : Int),
  wrapF IntKind.u64 (wrapF IntKind.i64 x) / (256 : Int) ^ nat_lit 1 % (256 : Int), wrapF IntKind.u64 (wrapF IntKind.i64 x) / (256 : Int) ^ nat_lit 2 % (256 :
  Int), wrapF IntKind.u64 (wrapF IntKind.i64 x) / (256 : Int) ^ nat_lit 3 % (256 : Int)])) && true) (ifp (roomy (out.length.add (l_1 ++ [wrapF IntKind.u64 (wrapF
  IntKind.i64 x) / (256 : Int) ^ nat_lit 0 % (256 : Int), wrapF IntKind.u64 (wrapF IntKind.i64 x) / (256 : Int) ^ nat_lit 1 % (256 : Int), wrapF IntKind.u64
  (wrapF IntKind.i64 x) / (256 : Int) ^ nat_lit 2 % (256 : Int), wrapF IntKind.u64 (wrapF IntKind.i64 x) / (256 : Int) ^ nat_lit 3 % (256 : Int)]).length) (1 :
  Nat)) (True ∧ ((∃ (l_2 : List Int), Wk (AV.vs (List.flatMap Ei32.f l) l.length l.length false none (1 : Nat)) (lst Ei32 l_2) ∧ ∃ (l : List Int), (WkL
  (List.flatMap Eu8.f out ++ List.flatMap Eu8.f (l_1 ++ [wrapF IntKind.u64 (wrapF IntKind.i64 x) / (256 : Int) ^ nat_lit 0 % (256 : Int), wrapF IntKind.u64
  (wrapF IntKind.i64 x) / (256 : Int) ^ nat_lit 1 % (256 : Int), wrapF IntKind.u64 (wrapF IntKind.i64 x) / (256 : Int) ^ nat_lit 2 % (256 : Int), wrapF
  IntKind.u64 (wrapF IntKind.i64 x) / (256 : Int) ^ nat_lit 3 % (256 : Int)])) (List.flatMap Eu8.f l) ∧ out.length.add (l_1 ++ [wrapF IntKind.u64 (wrapF
  IntKind.i64 x) / (256 : Int) ^ nat_lit 0 % (256 : Int), wrapF IntKind.u64 (wrapF IntKind.i64 x) / (256 : Int) ^ nat_lit 1 % (256 : Int), wrapF IntKind.u64
  (wrapF IntKind.i64 x) / (256 : Int) ^ nat_lit 2 % (256 : Int), wrapF IntKind.u64 (wrapF IntKind.i64 x) / (256 : Int) ^ nat_lit 3 % (256 : Int)]).length =
  l.length ∧ (1 : Nat) = (1 : Nat)) ∧ true = true ∧ N ((l_2, n, wrapF IntKind.i64 (i.add (1 : Int)), l, ()), (), ())) ∨ ∃ (l_2 : List Int), Wk (AV.vs
  (List.flatMap Ei32.f l) l.length l.length false none (1 : Nat)) (lst Ei32 l_2) ∧ False)) False) False) ((True ∧ ∃ (l_1 : List Int), (WkL (List.flatMap Eu8.f
  out) (List.flatMap Eu8.f l_1) ∧ out.length = l_1.length ∧ (1 : Nat) = (1 : Nat)) ∧ true = true ∧ R0 ((l, n, i, out, ()), (), ()) (l_1, ()) ((), ())) ∨ True ∧
  False)) := by kernel_rfl

theorem bytForm0 (l : List Int) (n : Int) (i : Int) (N : bytZ → Prop) (R0 : bytZ → ((List Int) × Unit) → (Unit × Unit) → Prop) (R1 : bytZ → (Unit × Unit) → (Unit) → Prop) : ((runW Try.prog (KL [(75, putK)] []) 100).code none 48 24 (loopBody Try.prog 48 5) (mkT (bytSl0.av id (l, (n, (i, ((), ())))))) [] (stL true (bytBl0.obs id ())) (postL 0 bytFs (bytAlts R0 R1) (bytZ0 (l, (n, (i, ((), ())))) ()) N)) =
  ( ifp (!leInt n i) (idxOk i l.length ∧ ∃ (x : Int), nth ((natOf i).mul (1 : Nat)) (List.flatMap Ei32.f l) = some (AV.int IntKind.i32 x) ∧ ∃ (l_1 : List Int), Wk
  AV.nilSlice (lst Eu8 l_1) ∧ putPre (l_1, wrapF IntKind.u64 (wrapF IntKind.i64 x), (4 : Int), ()) ∧ (List.flatMap Eu8.f (l_1 ++ [wrapF IntKind.u64 (wrapF
  IntKind.i64 x) / (256 : Int) ^ nat_lit 0 % (256 : Int), wrapF IntKind.u64 (wrapF IntKind.i64 x) / (256 : Int) ^ nat_lit 1 % (256 : Int), wrapF IntKind.u64
  (wrapF IntKind.i64 x) / (256 : Int) ^ nat_lit 2 % (256 : Int), wrapF IntKind.u64 (wrapF IntKind.i64 x) / (256 : Int) ^ nat_lit 3 % (256 : Int)])).length = (l_1
  ++ [wrapF IntKind.u64 (wrapF IntKind.i64 x) / (256 : Int) ^ nat_lit 0 % (256 : Int), wrapF IntKind.u64 (wrapF IntKind.i64 x) / (256 : Int) ^ nat_lit 1 % (256 :
  Int), wrapF IntKind.u64 (wrapF IntKind.i64 x) / (256 : Int) ^ nat_lit 2 % (256 : Int), wrapF IntKind.u64 (wrapF IntKind.i64 x) / (256 : Int) ^ nat_lit 3 % (256
  : Int)]).length.mul (1 : Nat) ∧ ifp (allScalar (List.flatMap Eu8.f (l_1 ++ [wrapF IntKind.u64 (wrapF IntKind.i64 x) / (256 : Int) ^ nat_lit 0 % (256 : Int),
  wrapF IntKind.u64 (wrapF IntKind.i64 x) / (256 : Int) ^ nat_lit 1 % (256 : Int), wrapF IntKind.u64 (wrapF IntKind.i64 x) / (256 : Int) ^ nat_lit 2 % (256 :
  Int), wrapF IntKind.u64 (wrapF IntKind.i64 x) / (256 : Int) ^ nat_lit 3 % (256 : Int)])) && true) (ifp ((l_1 ++ [wrapF IntKind.u64 (wrapF IntKind.i64 x) / (256
  : Int) ^ nat_lit 0 % (256 : Int), wrapF IntKind.u64 (wrapF IntKind.i64 x) / (256 : Int) ^ nat_lit 1 % (256 : Int), wrapF IntKind.u64 (wrapF IntKind.i64 x) /
  (256 : Int) ^ nat_lit 2 % (256 : Int), wrapF IntKind.u64 (wrapF IntKind.i64 x) / (256 : Int) ^ nat_lit 3 % (256 : Int)]).length.beq (0 : Nat)) (True ∧ ((∃ (l_2
  : List Int), Wk (AV.vs (List.flatMap Ei32.f l) l.length l.length false none (1 : Nat)) (lst Ei32 l_2) ∧ False) ∨ ∃ (l_2 : List Int), Wk (AV.vs (List.flatMap
  Ei32.f l) l.length l.length false none (1 : Nat)) (lst Ei32 l_2) ∧ true = true ∧ N ((l_2, n, wrapF IntKind.i64 (i.add (1 : Int)), [], ()), (), ()))) (ifp
  (roomy (l_1 ++ [wrapF IntKind.u64 (wrapF IntKind.i64 x) / (256 : Int) ^ nat_lit 0 % (256 : Int), wrapF IntKind.u64 (wrapF IntKind.i64 x) / (256 : Int) ^
  nat_lit 1 % (256 : Int), wrapF IntKind.u64 (wrapF IntKind.i64 x) / (256 : Int) ^ nat_lit 2 % (256 : Int), wrapF IntKind.u64 (wrapF IntKind.i64 x) / (256 : Int)
  ^ nat_lit 3 % (256 : Int)]).length (1 : Nat)) (True ∧ ((∃ (l_2 : List Int), Wk (AV.vs (List.flatMap Ei32.f l) l.length l.length false none (1 : Nat)) (lst Ei32
  l_2) ∧ ∃ (l : List Int), (WkL (List.flatMap Eu8.f (l_1 ++ [wrapF IntKind.u64 (wrapF IntKind.i64 x) / (256 : Int) ^ nat_lit 0 % (256 : Int), wrapF IntKind.u64
  (wrapF IntKind.i64 x) / (256 : Int) ^ nat_lit 1 % (256 : Int), wrapF IntKind.u64 (wrapF IntKind.i64 x) / (256 : Int) ^ nat_lit 2 % (256 : Int), wrapF
  IntKind.u64 (wrapF IntKind.i64 x) / (256 : Int) ^ nat_lit 3 % (256 : Int)])) (List.flatMap Eu8.f l) ∧ (l_1 ++ [wrapF IntKind.u64 (wrapF IntKind.i64 x) / (256 :
  Int) ^ nat_lit 0 % (256 : Int), wrapF IntKind.u64 (wrapF IntKind.i64 x) / (256 : Int) ^ nat_lit 1 % (256 : Int), wrapF IntKind.u64 (wrapF IntKind.i64 x) / (256
  : Int) ^ nat_lit 2 % (256 : Int), wrapF IntKind.u64 (wrapF IntKind.i64 x) / (256 : Int) ^ nat_lit 3 % (256 : Int)]).length = l.length ∧ (1 : Nat) = (1 : Nat))
  ∧ true = true ∧ N ((l_2, n, wrapF IntKind.i64 (i.add (1 : Int)), l, ()), (), ())) ∨ ∃ (l_2 : List Int), Wk (AV.vs (List.flatMap Ei32.f l) l.length l.length
  false none (1 : Nat)) (lst Ei32 l_2) ∧ False)) False)) False) (True ∧ False ∨ True ∧ true = true ∧ R1 ((l, n, i, [], ()), (), ()) ((), ()) ())) := by kernel_rfl

def bytInv : bytZ → Prop := fun ((l, (n, (i, (out, ())))), ((), ())) => ∃ k : Nat, i = k ∧ n = l.length ∧ k ≤ l.length ∧ l.length ≤ 4194304 ∧ (∀ x ∈ l, -2147483648 ≤ x ∧ x < 2147483648) ∧ out = (l.take k).flatMap fun x => putV (u64 x) 4
def bytMu : bytZ → Nat := fun ((l, (n, (i, (out, ())))), ((), ())) => l.length - i.toNat
def bytR0 : bytZ → ((List Int) × Unit) → (Unit × Unit) → Prop := fun ((l, (n, (i, (out, ())))), ((), ())) (r, _) _ => r = l.flatMap fun x => putV (u64 x) 4
def bytR1 : bytZ → (Unit × Unit) → (Unit) → Prop := fun ((l, (n, (i, (out, ())))), ((), ())) _ _ => l = []
noncomputable def bytC : LoopC := loopC 0 bytFs (bytAlts bytR0 bytR1) bytInv

theorem bytStep : stepsOk Try.prog (KL [(75, putK)] []) 100 48 24 (loopBody Try.prog 48 5) 0 true bytFs (bytAlts bytR0 bytR1) bytInv bytMu ⟨_, _, bytSl, bytBl, fun x y => (x, y)⟩ := by
  intro x y hz
  obtain ⟨l, n, i, out, _⟩ := x
  obtain ⟨_, _⟩ := y
  refine (bytForm l n i out _ _ _).mpr ?_
  obtain ⟨k, rfl, rfl, hk, hl, hx, rfl⟩ := hz
  rw [ifp_lt]
  simp only [natOf_nat]
  split
  · rename_i h
    have hkl : k < l.length := by simpa using h
    have h1 := hx _ (List.getElem_mem hkl)
    have hr := u64_range l[k]
    repeat (first
      | (refine ⟨Nat.le_refl _, ?_⟩)
      | (rw [ifp_pos (roomy_small (by simp only [Nat.add_eq]; omega) (by decide))])
      | (refine ⟨trivial, ?_⟩)
      | (refine ⟨(rfl : true = true), ?_⟩)
      | (refine ⟨idx_ok (by omega), ?_⟩)
      | (refine ⟨idx_ok0 (by omega), ?_⟩)
      | (refine ⟨_, nth_int (by omega), ?_⟩)
      | (refine ⟨_, _, _, _, _, _, nth_lst (by omega), ?_⟩)
      | (refine ⟨_, _, _, _, _, _, nth_lst0 (by omega), ?_⟩)
      | (refine ⟨_, Wk.refl _, ?_⟩)
      | (rw [ifp_pos rfl])
      | (refine ⟨(rfl : (_ : List Nat) = _), ?_⟩)
      | (refine ⟨(rfl : (_ : Code) = _), ?_⟩))
    refine ⟨[], wk_nil _, ?_⟩
    rw [u64_of h1.1 h1.2]
    refine ⟨⟨hr.1, hr.2, by decide, by decide, by simp⟩, Enc.flen Eu8 _, ?_⟩
    rw [ifp_pos (by rw [Enc.fscal Eu8]; rfl), ifp_pos (roomy_small (by simp only [Nat.add_eq, List.nil_append, putV_len, puts_len, List.length_take, List.length_cons, List.length_nil]; omega) (by decide))]
    refine ⟨trivial, Or.inl ⟨l, Wk.refl _, (l.take (k + 1)).flatMap fun x => putV (u64 x) 4, ⟨?_, ?_, by first | trivial | rfl⟩, by first | trivial | rfl, ?_⟩⟩
    · rw [fm_take hkl]; exact wkl_app (m := putV (u64 l[k]) 4)
    · rw [fm_take hkl]; exact len_app (m := putV (u64 l[k]) 4)
    · rw [wsucc (by omega)]
      exact ⟨⟨k + 1, rfl, rfl, hkl, hl, hx, rfl⟩, by show l.length - (k + 1) < l.length - k; omega, fun _ _ h => h, fun _ _ h => h, trivial⟩
  · rename_i h
    have hkl : ¬ k < l.length := by simpa using h
    refine Or.inl ⟨trivial, _, ⟨WkL.refl _, by first | trivial | rfl, by first | trivial | rfl⟩, by first | trivial | rfl, ?_⟩
    show List.flatMap _ (l.take k) = _
    rw [take_all hkl]
theorem bytStep0 : stepsOk Try.prog (KL [(75, putK)] []) 100 48 24 (loopBody Try.prog 48 5) 0 true bytFs (bytAlts bytR0 bytR1) bytInv bytMu ⟨_, _, bytSl0, bytBl0, bytZ0⟩ := by
  intro x y hz
  obtain ⟨l, n, i, _, _⟩ := x
  obtain _ := y
  refine (bytForm0 l n i _ _ _).mpr ?_
  obtain ⟨k, rfl, rfl, hk, hl, hx, h0⟩ := hz
  rw [ifp_lt]
  simp only [natOf_nat]
  have hk0 : k = 0 := by have := congrArg List.length h0; rw [puts_len, List.length_take] at this; simp at this; omega
  subst hk0
  split
  · rename_i h
    have hkl : 0 < l.length := by simpa using h
    have h1 := hx _ (List.getElem_mem hkl)
    have hr := u64_range l[0]
    repeat (first
      | (refine ⟨Nat.le_refl _, ?_⟩)
      | (rw [ifp_pos (roomy_small (by simp only [Nat.add_eq]; omega) (by decide))])
      | (refine ⟨trivial, ?_⟩)
      | (refine ⟨(rfl : true = true), ?_⟩)
      | (refine ⟨idx_ok (by omega), ?_⟩)
      | (refine ⟨idx_ok0 (by omega), ?_⟩)
      | (refine ⟨_, nth_int (by omega), ?_⟩)
      | (refine ⟨_, _, _, _, _, _, nth_lst (by omega), ?_⟩)
      | (refine ⟨_, _, _, _, _, _, nth_lst0 (by omega), ?_⟩)
      | (refine ⟨_, Wk.refl _, ?_⟩)
      | (rw [ifp_pos rfl])
      | (refine ⟨(rfl : (_ : List Nat) = _), ?_⟩)
      | (refine ⟨(rfl : (_ : Code) = _), ?_⟩))
    refine ⟨[], wk_nil _, ?_⟩
    rw [u64_of h1.1 h1.2]
    refine ⟨⟨hr.1, hr.2, by decide, by decide, by simp⟩, Enc.flen Eu8 _, ?_⟩
    rw [ifp_pos (by rw [Enc.fscal Eu8]; rfl)]
    repeat (first
      | (refine ⟨Nat.le_refl _, ?_⟩)
      | (rw [ifp_pos (roomy_small (by simp only [Nat.add_eq]; omega) (by decide))])
      | (refine ⟨trivial, ?_⟩)
      | (refine ⟨(rfl : true = true), ?_⟩)
      | (refine ⟨idx_ok (by omega), ?_⟩)
      | (refine ⟨idx_ok0 (by omega), ?_⟩)
      | (refine ⟨_, nth_int (by omega), ?_⟩)
      | (refine ⟨_, _, _, _, _, _, nth_lst (by omega), ?_⟩)
      | (refine ⟨_, _, _, _, _, _, nth_lst0 (by omega), ?_⟩)
      | (refine ⟨_, Wk.refl _, ?_⟩)
      | (rw [ifp_pos rfl])
      | (refine ⟨(rfl : (_ : List Nat) = _), ?_⟩)
      | (refine ⟨(rfl : (_ : Code) = _), ?_⟩))
    refine Or.inl ⟨l, Wk.refl _, putV (u64 l[0]) 4, ⟨WkL.refl _, by first | trivial | rfl, by first | trivial | rfl⟩, by first | trivial | rfl, ?_⟩
    rw [wsucc (by omega)]
    exact ⟨⟨1, rfl, rfl, hkl, hl, hx, by cases l with | nil => simp at hkl | cons a l => simp⟩, by show l.length - 1 < l.length - 0; omega, fun _ _ h => h, fun _ _ h => h, trivial⟩
  · rename_i h
    have hkl : ¬ 0 < l.length := by simpa using h
    refine Or.inr ⟨trivial, by first | trivial | rfl, ?_⟩
    exact List.length_eq_zero_iff.1 (by omega)
theorem bytOk : LoopOk Try.prog 48 24 (.loop (loopBody Try.prog 48 5)) bytC := loop_ok bytMu mixed (KL_ok (cc_cons putCc (cc_nil))) rfl (steps_cons bytStep (steps_cons bytStep0 (steps_nil)))

theorem wide_flat {c : List (List Int)} (h : ∀ x ∈ c, cw x = 0) : ∀ x ∈ c.flatten, -2147483648 ≤ x ∧ x < 2147483648 := fun x hx => by
  obtain ⟨l, hl, hx⟩ := List.mem_flatten.1 hx
  have := (cw_zero (h l hl)).2.2 x hx
  omega
theorem cw_lens {c : List (List Int)} (h : ∀ x ∈ c, cw x = 0) : ∀ x ∈ c, 1 ≤ x.length ∧ x.length ≤ 1024 := fun x hx => ⟨(cw_zero (h x hx)).1, (cw_zero (h x hx)).2.1⟩

/-! wayfinder/cell.Bytes -/
noncomputable def bytT : Tel ((List (List Int)) × Unit) := .cons 0 (.lst Ell) (.nil)

theorem bytFn (c : List (List Int)) (Q : AV → Prop) : (callW Try.prog (runW Try.prog (KL [(43, checkK), (74, ccatK), (75, putK)] [(48, [(5, bytC)])]) 200) 48 (bytT.cells id (c, ())) (stE true) (fun x st => frzW st x Q)) =
  ( ∃ (l : List (List Int)), Wk (AV.vs (List.flatMap Ell.f c) c.length c.length false none (1 : Nat)) (lst Ell l) ∧ checkPre (l, ()) ∧ ifp (!eqInt (checkV l) (0 :
  Int)) (Q AV.nilSlice) (∃ (l : List (List Int)), Wk (AV.vs (List.flatMap Ell.f c) c.length c.length false none (1 : Nat)) (lst Ell l) ∧ ccatPre (l, ()) ∧ LoopOk
  Try.prog (48 : FuncId) (24 : Nat) (loopBody Try.prog (48 : FuncId) (5 : Nat)).loop bytC ∧ True ∧ True ∧ ((∃ (l_1 : List Int), Wk (AV.vs (List.flatMap Ei32.f
  l.flatten) l.flatten.length l.flatten.length false none (1 : Nat)) (lst Ei32 l_1) ∧ False) ∨ ∃ (l_1 : List Int), Wk (AV.vs (List.flatMap Ei32.f l.flatten)
  l.flatten.length l.flatten.length false none (1 : Nat)) (lst Ei32 l_1) ∧ true = true ∧ bytInv ((l_1, Int.ofNat l.flatten.length, (0 : Int), [], ()), (), ()) ∧
  (∀ (c : List Int × Unit) (d : Unit × Unit), bytR0 ((l_1, Int.ofNat l.flatten.length, (0 : Int), [], ()), (), ()) c d → Q (AV.vs (List.flatMap Eu8.f c.1)
  c.1.length c.1.length false (some (0 : Nat)) (1 : Nat))) ∧ (∀ (c : Unit × Unit) (d : Unit), bytR1 ((l_1, Int.ofNat l.flatten.length, (0 : Int), [], ()), (),
  ()) c d → Q AV.nilSlice) ∧ True))) := by kernel_rfl

def bytPre : (List (List Int)) × Unit → Prop := fun (c, ()) => True
noncomputable def bytRes : (List (List Int)) × Unit → AV := fun (c, ()) => lst Eu8 (bytesV c)
noncomputable def bytK : CallC := valC bytT bytPre bytRes

theorem bytVal (c : List (List Int)) (hp : bytPre (c, ())) : Val Try.prog 48 (bytT.cells id (c, ())) (bytRes (c, ())) := by
  refine Val.ofF mixed (KL_ok (cc_cons checkCc (cc_cons ccatCc (cc_cons putCc (cc_nil))))) (freesC rfl _) (bytFn c) ?_
  refine ⟨c, Wk.refl _, trivial, ?_⟩
  rw [ifp_ne]
  split
  · rename_i h
    obtain ⟨h1, h2, h3, h4⟩ := checkV_inv h
    have hl := cw_lens h3
    have hb := flat_le (fun x hx => (hl x hx).2)
    have he : bytesV c = c.flatten.flatMap (fun x => putV (u64 x) 4) := by rw [bytesV, if_pos h]
    refine ⟨c, Wk.refl _, ⟨h1, h2, hl⟩, bytOk, trivial, trivial, Or.inr ⟨c.flatten, Wk.refl _, rfl, ⟨0, rfl, rfl, by omega, by omega, wide_flat h3, rfl⟩, fun d _ hr => ?_, fun _ _ hr => ?_, trivial⟩⟩
    · obtain ⟨r, _⟩ := d
      have hr' : r = c.flatten.flatMap (fun x => putV (u64 x) 4) := hr
      exact tells_lst ⟨by show List.flatMap _ r = _; rw [hr', ← he], by show r.length = _; rw [hr', ← he], rfl⟩
    · have hr' : c.flatten = [] := hr
      show Tells .nilSlice (lst Eu8 (bytesV c))
      rw [he, hr']; exact tells_nil _
  · rename_i h
    have he : bytesV c = [] := by rw [bytesV, if_neg h]
    show Tells .nilSlice (lst Eu8 (bytesV c))
    rw [he]; exact tells_nil _
theorem bytCc : CcOk Try.prog 48 bytK := val_ok rfl (fun ⟨c, _⟩ h => bytVal c h)

def ofV : List Int → Int
  | [] => 0
  | x :: l => x + 256 * ofV l
def ofB (b : List Int) : Int := ofV (b.take 8)
def bytesOk (b : List Int) : Prop := ∀ x ∈ b, 0 ≤ x ∧ x < 256
theorem ofV_append (x : Int) : ∀ l : List Int, ofV (l ++ [x]) = ofV l + x * 256 ^ l.length
  | [] => by simp [ofV]
  | y :: l => by
    rw [List.cons_append, ofV, ofV_append x l, ofV, List.length_cons, Int.pow_succ]
    generalize (256 : Int) ^ l.length = q
    rw [Int.mul_add, Int.add_assoc, Int.mul_left_comm, Int.mul_comm q 256]
theorem ofV_range : ∀ {l : List Int}, bytesOk l → 0 ≤ ofV l ∧ ofV l < 256 ^ l.length
  | [], _ => by simp [ofV]
  | y :: l, h => by
    have h1 := h y (by simp)
    have h2 := ofV_range (l := l) (fun x hx => h x (by simp [hx]))
    rw [ofV, List.length_cons, Int.pow_succ]
    generalize (256 : Int) ^ l.length = q at *
    omega
theorem pow_int (k : Nat) : ((256 ^ k : Nat) : Int) = (256 : Int) ^ k := by norm_cast
theorem or_byte {a x : Int} {k : Nat} (ha : 0 ≤ a ∧ a < 256 ^ k) (hx : 0 ≤ x ∧ x < 256) (hk : k < 8) :
    wrapF .u64 (Int.ofNat ((natOf (uns (modOf .u64) a)).lor (natOf (uns (modOf .u64) (shlV .u64 (wrapF .u64 x) ((8 * k : Nat) : Int)))))) = a + x * 256 ^ k := by
  obtain ⟨A, rfl⟩ := Int.eq_ofNat_of_zero_le ha.1
  obtain ⟨X, rfl⟩ := Int.eq_ofNat_of_zero_le hx.1
  have hp : 256 ^ (k + 1) ≤ 256 ^ 8 := Nat.pow_le_pow_right (by decide) (by omega)
  have hA : A < 256 ^ k := by have := ha.2; rw [← pow_int] at this; omega
  have hX : X < 256 := by omega
  have hq : 256 ^ (k + 1) = 256 ^ k * 256 := Nat.pow_succ ..
  have hXk : X * 256 ^ k ≤ 255 * 256 ^ k := Nat.mul_le_mul_right _ (by omega)
  have hsum : A + X * 256 ^ k < 18446744073709551616 := by
    have : (256 : Nat) ^ 8 = 18446744073709551616 := by decide
    omega
  have e1 : wrapF .u64 (X : Int) = X := wu64 (by omega) (by omega)
  have e2 : shlV .u64 (X : Int) ((8 * k : Nat) : Int) = ((X * 256 ^ k : Nat) : Int) := by
    show wrapF .u64 (Int.mul (X : Int) (.ofNat (Nat.pow 2 (ifb (Nat.ble (8 * k) 64) (8 * k) 64)))) = _
    rw [show Nat.ble (8 * k) 64 = true from ble_t (by omega), ifb_true]
    rw [show Nat.pow 2 (8 * k) = 256 ^ k by show 2 ^ (8 * k) = _; rw [Nat.pow_mul]]
    rw [show Int.mul (X : Int) (Int.ofNat (256 ^ k)) = ((X * 256 ^ k : Nat) : Int) by rw [Int.natCast_mul]; rfl]
    exact wu64 (by omega) (by omega)
  have e3 : ∀ n : Nat, n < 18446744073709551616 → natOf (uns (modOf .u64) (n : Int)) = n := fun n hn => Nat.mod_eq_of_lt hn
  have e4 : A.lor (X * 256 ^ k) = A + X * 256 ^ k := by
    have h := Nat.shiftLeft_add_eq_or_of_lt (b := A) (i := 8 * k) (by rw [Nat.pow_mul]; exact hA) X
    rw [Nat.shiftLeft_eq, Nat.pow_mul] at h
    show A ||| (X * 256 ^ k) = _
    rw [Nat.or_comm]
    have h' : X * 256 ^ k + A = X * 256 ^ k ||| A := h
    rw [← h']; omega
  rw [e1, e2, e3 _ (by omega), e3 _ (by omega), e4]
  rw [show Int.ofNat (A + X * 256 ^ k) = ((A + X * 256 ^ k : Nat) : Int) from rfl, wu64 (by omega) (by omega), Int.natCast_add, Int.natCast_mul, pow_int]

/-! The loop of of wayfinder/octet.Of. -/
abbrev ofZ := ((List Int) × Int × Int × Int × Unit) × (Unit)
noncomputable def ofSl : Tel ((List Int) × Int × Int × Int × Unit) := .cons 0 (.lst Eu8) (.cons 2 (.int .u64) (.cons 6 (.int .i64) (.cons 7 (.int .i64) (.nil))))
noncomputable def ofBl : BTel (Unit) := .nil
noncomputable def ofFs : List (LForm ofZ) := [⟨_, _, ofSl, ofBl, fun x y => (x, y)⟩]
noncomputable def ofAlts (R0 : ofZ → (Int × Unit) → (Unit) → Prop) : List (Alt ofZ) := [⟨.exit 0, Int × Unit, Unit, .cons 2 (.int .u64) (.nil), .nil, R0⟩]

theorem ofForm (b : List Int) (a : Int) (m : Int) (i : Int) (N : ofZ → Prop) (R0 : ofZ → (Int × Unit) → (Unit) → Prop) : ((runW Try.prog (KL [] []) 100).code none 65 22 (loopBody Try.prog 65 2) (mkT (ofSl.av id (b, (a, (m, (i, ())))))) [] (stL false (ofBl.obs id ())) (postL 0 ofFs (ofAlts R0) ((b, (a, (m, (i, ())))), ()) N)) =
  ( ifp (!leInt m i) (idxOk i b.length ∧ ∃ (x : Int), nth ((natOf i).mul (1 : Nat)) (List.flatMap Eu8.f b) = some (AV.int IntKind.u8 x) ∧ (0 : Int) ≤ wrapF
  IntKind.i64 (Int.mul (8 : Int) i) ∧ True ∧ ∃ (l : List Int), Wk (AV.vs (List.flatMap Eu8.f b) b.length b.length false none (1 : Nat)) (lst Eu8 l) ∧ true = true
  ∧ N ((l, wrapF IntKind.u64 (Int.ofNat ((natOf (uns (modOf IntKind.u64) a)).lor (natOf (uns (modOf IntKind.u64) (shlV IntKind.u64 (wrapF IntKind.u64 x) (wrapF
  IntKind.i64 (Int.mul (8 : Int) i))))))), m, wrapF IntKind.i64 (i.add (1 : Int)), ()), ())) (True ∧ true = true ∧ R0 ((b, a, m, i, ()), ()) (a, ()) ())) := by kernel_rfl

def ofInv : ofZ → Prop := fun ((b, (a, (m, (i, ())))), ()) => ∃ k w : Nat, i = k ∧ m = w ∧ k ≤ w ∧ w ≤ 8 ∧ w ≤ b.length ∧ bytesOk b ∧ a = ofV (b.take k)
def ofMu : ofZ → Nat := fun ((b, (a, (m, (i, ())))), ()) => m.toNat - i.toNat
def ofR0 : ofZ → (Int × Unit) → (Unit) → Prop := fun ((b, (a, (m, (i, ())))), ()) (r, _) _ => r = ofV (b.take m.toNat)
noncomputable def ofC : LoopC := loopC 0 ofFs (ofAlts ofR0) ofInv

theorem ofStep : stepsOk Try.prog (KL [] []) 100 65 22 (loopBody Try.prog 65 2) 0 false ofFs (ofAlts ofR0) ofInv ofMu ⟨_, _, ofSl, ofBl, fun x y => (x, y)⟩ := by
  intro x y hz
  obtain ⟨b, a, m, i, _⟩ := x
  obtain _ := y
  refine (ofForm b a m i _ _).mpr ?_
  obtain ⟨k, w, rfl, rfl, hk, hw, hb, hx, rfl⟩ := hz
  rw [ifp_lt]
  simp only [natOf_nat]
  split
  · rename_i h
    have hkw : k < w := by omega
    have hkb : k < b.length := by omega
    rw [mul8 (by omega)]
    repeat (first
      | (refine ⟨Nat.le_refl _, ?_⟩)
      | (rw [ifp_pos (roomy_small (by simp only [Nat.add_eq]; omega) (by decide))])
      | (refine ⟨trivial, ?_⟩)
      | (refine ⟨(rfl : true = true), ?_⟩)
      | (refine ⟨idx_ok (by omega), ?_⟩)
      | (refine ⟨idx_ok0 (by omega), ?_⟩)
      | (refine ⟨_, nth_int (by omega), ?_⟩)
      | (refine ⟨_, _, _, _, _, _, nth_lst (by omega), ?_⟩)
      | (refine ⟨_, _, _, _, _, _, nth_lst0 (by omega), ?_⟩)
      | (refine ⟨_, Wk.refl _, ?_⟩)
      | (rw [ifp_pos rfl])
      | (refine ⟨(rfl : (_ : List Nat) = _), ?_⟩)
      | (refine ⟨(rfl : (_ : Code) = _), ?_⟩))
    refine ⟨by omega, trivial, b, Wk.refl _, by first | trivial | rfl, ?_⟩
    have hr := ofV_range (l := b.take k) (fun x hx' => hx x (List.mem_of_mem_take hx'))
    rw [show (b.take k).length = k by rw [List.length_take]; omega] at hr
    rw [or_byte hr (hx _ (List.getElem_mem hkb)) (by omega), wsucc (by omega)]
    refine ⟨⟨k + 1, w, rfl, rfl, hkw, hw, hb, hx, ?_⟩, by show w - (k + 1) < w - k; omega, fun _ _ h => h, trivial⟩
    rw [← List.take_append_getElem hkb, ofV_append, show (b.take k).length = k by rw [List.length_take]; omega]
  · rename_i h
    repeat (first
      | (refine ⟨Nat.le_refl _, ?_⟩)
      | (rw [ifp_pos (roomy_small (by simp only [Nat.add_eq]; omega) (by decide))])
      | (refine ⟨trivial, ?_⟩)
      | (refine ⟨(rfl : true = true), ?_⟩)
      | (refine ⟨idx_ok (by omega), ?_⟩)
      | (refine ⟨idx_ok0 (by omega), ?_⟩)
      | (refine ⟨_, nth_int (by omega), ?_⟩)
      | (refine ⟨_, _, _, _, _, _, nth_lst (by omega), ?_⟩)
      | (refine ⟨_, _, _, _, _, _, nth_lst0 (by omega), ?_⟩)
      | (refine ⟨_, Wk.refl _, ?_⟩)
      | (rw [ifp_pos rfl])
      | (refine ⟨(rfl : (_ : List Nat) = _), ?_⟩)
      | (refine ⟨(rfl : (_ : Code) = _), ?_⟩))
    show ofV (b.take k) = ofV (b.take w)
    rw [show k = w by omega]
theorem ofOk : LoopOk Try.prog 65 22 (.loop (loopBody Try.prog 65 2)) ofC := loop_ok ofMu mixed (KL_ok (cc_nil)) rfl (steps_cons ofStep (steps_nil))

/-! wayfinder/octet.Of -/
noncomputable def ofT : Tel ((List Int) × Unit) := .cons 0 (.lst Eu8) (.nil)

theorem ofFn (b : List Int) (Q : AV → Prop) : (callW Try.prog (runW Try.prog (KL [] [(65, [(2, ofC)])]) 200) 65 (ofT.cells id (b, ())) (stE false) (fun x st => frzW st x Q)) =
  ( LoopOk Try.prog (65 : FuncId) (22 : Nat) (loopBody Try.prog (65 : FuncId) (2 : Nat)).loop ofC ∧ True ∧ True ∧ ∃ (l : List Int), Wk (AV.vs (List.flatMap Eu8.f b)
  b.length b.length false none (1 : Nat)) (lst Eu8 l) ∧ true = true ∧ ofInv ((l, (0 : Int), ifb (leInt (Int.ofNat b.length) (8 : Int)) (Int.ofNat b.length) (8 :
  Int), (0 : Int), ()), ()) ∧ (∀ (c : Int × Unit) (d : Unit), ofR0 ((l, (0 : Int), ifb (leInt (Int.ofNat b.length) (8 : Int)) (Int.ofNat b.length) (8 : Int), (0
  : Int), ()), ()) c d → Q (AV.int IntKind.u64 c.1)) ∧ True) := by kernel_rfl

def ofPre : (List Int) × Unit → Prop := fun (b, ()) => bytesOk b ∧ b.length < 9223372036854775807
noncomputable def ofRes : (List Int) × Unit → AV := fun (b, ()) => .int .u64 (ofB b)
noncomputable def ofK : CallC := valC ofT ofPre ofRes

theorem ofVal (b : List Int) (hp : ofPre (b, ())) : Val Try.prog 65 (ofT.cells id (b, ())) (ofRes (b, ())) := by
  refine Val.ofF mixed (KL_ok (cc_nil)) (freesC rfl _) (ofFn b) ?_
  obtain ⟨hx, hl⟩ := hp
  refine ⟨ofOk, trivial, trivial, b, Wk.refl _, rfl, ?_⟩
  rw [ifb_le]
  split
  · rename_i h
    simp at h
    refine ⟨⟨0, b.length, rfl, rfl, by omega, by omega, by omega, hx, rfl⟩, fun c _ hr => ?_, trivial⟩
    obtain ⟨r, _⟩ := c
    have hr' : r = ofV (b.take b.length) := hr
    exact tells_int (by show r = _; rw [hr', ofB, List.take_of_length_le (Nat.le_refl _), List.take_of_length_le (by omega)])
  · rename_i h
    simp at h
    refine ⟨⟨0, 8, rfl, rfl, by omega, by omega, by omega, hx, rfl⟩, fun c _ hr => ?_, trivial⟩
    obtain ⟨r, _⟩ := c
    have hr' : r = ofV (b.take 8) := hr
    exact tells_int (by show r = _; rw [hr', ofB])
theorem ofCc : CcOk Try.prog 65 ofK := val_ok rfl (fun ⟨b, _⟩ h => ofVal b h)

/-- The lowest four bytes, as a signed number. -/
def s32 (n : Int) : Int := if n % 4294967296 < 2147483648 then n % 4294967296 else n % 4294967296 - 4294967296
theorem s32_eq {n : Int} (h : 0 ≤ n ∧ n < 18446744073709551616) : shrV .i64 (wrapF .i64 (shlV .u64 n 32)) 32 = s32 n := by
  have e1 : shlV .u64 n 32 = (n * 4294967296) % 18446744073709551616 := by
    show wrapF .u64 (Int.mul n 4294967296) = _
    rw [wrapF_eq]; rfl
  have e2 : ∀ z : Int, shrV .i64 z 32 = z / 4294967296 := fun z => by
    show Int.fdiv z 4294967296 = _
    exact Int.fdiv_eq_ediv_of_nonneg _ (by decide)
  rw [e1, e2, wrapF_eq]
  show (if (true && decide (n * 4294967296 % 18446744073709551616 % 18446744073709551616 ≥ 9223372036854775808)) = true then n * 4294967296 % 18446744073709551616 % 18446744073709551616 - 18446744073709551616 else n * 4294967296 % 18446744073709551616 % 18446744073709551616) / 4294967296 = _
  rw [Bool.true_and, s32]
  by_cases h1 : n * 4294967296 % 18446744073709551616 % 18446744073709551616 ≥ 9223372036854775808
  · rw [if_pos (decide_eq_true h1), if_neg (by omega)]; omega
  · rw [if_neg (by rw [decide_eq_false h1]; simp), if_pos (by omega)]; omega

/-! wayfinder/octet.Signed -/
noncomputable def sgnT : Tel (Int × Int × Unit) := .cons 0 (.int .u64) (.cons 1 (.int .i64) (.nil))

theorem sgnFn (n : Int) (w : Int) (Q : AV → Prop) : (callW Try.prog (runW Try.prog (KL [] []) 200) 64 (sgnT.cells id (n, (w, ()))) (stE false) (fun x st => frzW st x Q)) =
  ( ifp (!leInt (1 : Int) w) (Q (AV.int IntKind.i64 (0 : Int))) ((0 : Int) ≤ wrapF IntKind.i64 (Int.mul (8 : Int) (wrapF IntKind.i64 (Int.sub (8 : Int) (ifb (leInt
  w (8 : Int)) w (8 : Int))))) ∧ (0 : Int) ≤ wrapF IntKind.i64 (Int.mul (8 : Int) (wrapF IntKind.i64 (Int.sub (8 : Int) (ifb (leInt w (8 : Int)) w (8 : Int)))))
  ∧ Q (AV.int IntKind.i64 (shrV IntKind.i64 (wrapF IntKind.i64 (shlV IntKind.u64 n (wrapF IntKind.i64 (Int.mul (8 : Int) (wrapF IntKind.i64 (Int.sub (8 : Int)
  (ifb true (ifb (leInt w (8 : Int)) w (8 : Int)) (ifb (leInt (8 : Int) w) w (8 : Int))))))))) (wrapF IntKind.i64 (Int.mul (8 : Int) (wrapF IntKind.i64 (Int.sub
  (8 : Int) (ifb true (ifb (leInt w (8 : Int)) w (8 : Int)) (ifb (leInt (8 : Int) w) w (8 : Int))))))))))) := by kernel_rfl

def sgnPre : Int × Int × Unit → Prop := fun (n, (w, ())) => w = 4 ∧ 0 ≤ n ∧ n < 18446744073709551616
noncomputable def sgnRes : Int × Int × Unit → AV := fun (n, (w, ())) => .int .i64 (s32 n)
noncomputable def sgnK : CallC := valC sgnT sgnPre sgnRes

theorem sgnVal (n : Int) (w : Int) (hp : sgnPre (n, (w, ()))) : Val Try.prog 64 (sgnT.cells id (n, (w, ()))) (sgnRes (n, (w, ()))) := by
  refine Val.ofF mixed (KL_ok (cc_nil)) (freesC rfl _) (sgnFn n w) ?_
  obtain ⟨rfl, p1, p2⟩ := hp
  rw [ifp_lt, if_neg (by decide)]
  have e : wrapF .i64 (Int.mul 8 (wrapF .i64 (Int.sub 8 (ifb (leInt (4 : Int) 8) 4 8)))) = 32 := rfl
  rw [e]
  exact ⟨by decide, by decide, tells_int (s32_eq ⟨p1, p2⟩)⟩
theorem sgnCc : CcOk Try.prog 64 sgnK := val_ok rfl (fun ⟨n, ⟨w, _⟩⟩ h => sgnVal n w h)

theorem chunk_end {p d len : Nat} (h : p + d ≤ len) (hl : len ≤ 4611686018427387904) : wrapF .i64 (Int.add (p : Int) (ifb (leInt (d : Int) (Int.ofNat (len.sub p))) (d : Int) (Int.ofNat (len.sub p)))) = ((p + d : Nat) : Int) := by
  rw [ifb_le, if_pos (by show (d : Int) ≤ ((len - p : Nat) : Int); omega), w64 (by show _ ≤ (p : Int) + d; omega) (by show (p : Int) + d < _; omega)]; rfl
theorem chunk_add {p d : Nat} (h : p + d ≤ 4611686018427387904) : wrapF .i64 (Int.add (p : Int) (d : Int)) = ((p + d : Nat) : Int) := by
  rw [w64 (by show _ ≤ (p : Int) + d; omega) (by show (p : Int) + d < _; omega)]; rfl
def chunkAt {α : Type} (d : Nat) (l : List α) (k : Nat) : List α := (l.drop (k * d)).take d
theorem chunkAt_len {α : Type} {d : Nat} {l : List α} {k : Nat} (h : k * d + d ≤ l.length) : (chunkAt d l k).length = d := by rw [chunkAt, List.length_take, List.length_drop]; omega
theorem chunk_wk {α : Type} {E : Enc α} (he : E.e = 1) {l : List α} {p d : Nat} {x : Bool} : Wk (.vs (((l.flatMap E.f).drop (Nat.mul p 1)).take (Nat.mul ((p + d).sub p) 1)) ((p + d).sub p) ((p + d).sub p) x none 1) (lst E ((l.drop p).take d)) ∨ ¬ p + d ≤ l.length := by
  by_cases h : p + d ≤ l.length
  · left
    refine wk_vs ⟨?_, ?_, he.symm⟩
    · rw [show Nat.mul p 1 = p from Nat.mul_one p, show Nat.mul ((p + d).sub p) 1 = d by show ((p + d) - p) * 1 = d; omega, fdrop1 he, ftake1 he]
    · show (p + d) - p = _; rw [List.length_take, List.length_drop]; omega
  · exact .inr h
theorem range_succ_map {α : Type} (f : Nat → α) (k : Nat) : (List.range (k + 1)).map f = (List.range k).map f ++ [f k] := by rw [List.range_succ, List.map_append]; rfl
theorem s32_range (n : Int) : -2147483648 ≤ s32 n ∧ s32 n < 2147483648 := by unfold s32; split <;> omega
def num4 (b : List Int) (k : Nat) : Int := s32 (ofB (chunkAt 4 b k))
theorem ofB_range {b : List Int} (h : bytesOk b) : 0 ≤ ofB b ∧ ofB b < 18446744073709551616 := by
  have h1 := ofV_range (l := b.take 8) (fun x hx => h x (List.mem_of_mem_take hx))
  have h2 : (256 : Int) ^ (b.take 8).length ≤ 256 ^ 8 := by
    rw [← pow_int, ← pow_int]
    have : 256 ^ (b.take 8).length ≤ 256 ^ 8 := Nat.pow_le_pow_right (by decide) (by rw [List.length_take]; omega)
    omega
  have h3 : (256 : Int) ^ 8 = 18446744073709551616 := by decide
  exact ⟨h1.1, by rw [← h3]; exact Int.lt_of_lt_of_le h1.2 h2⟩
theorem chunk_bytes {b : List Int} (h : bytesOk b) (d k : Nat) : bytesOk (chunkAt d b k) := fun x hx => h x (List.mem_of_mem_drop (List.mem_of_mem_take hx))

/-! The loop rdb of slices.Chunk[[]byte,byte]$1. -/
abbrev rdbZ := (Unit × Unit × Unit × Int × Unit) × ((Unit × Unit) × Unit × ((List Int) × Unit) × ((List Int) × Unit) × (Int × Unit) × Unit × Unit)
noncomputable def rdbSl : Tel (Unit × Unit × Unit × Int × Unit) := .cons 0 (.yld 0) (.cons 1 (.ptr 3) (.cons 2 (.ptr 4) (.cons 4 (.int .i64) (.nil))))
noncomputable def rdbBl : BTel ((Unit × Unit) × Unit × ((List Int) × Unit) × ((List Int) × Unit) × (Int × Unit) × Unit × Unit) := .cons (.loop 41 58 [37] (rangeAs Try.prog 41 8) (rangeBody Try.prog 41 8) .ready none (.cons 8 (.ptr 2) (.nil)) 1) (.cons (.dfr) (.cons (.row (.cons 0 (.own Ei32 5) (.nil))) (.cons (.row (.cons 0 (.lst Eu8) (.nil))) (.cons (.row (.cons 0 (.int .i64) (.nil))) (.cons (.spare) (.nil))))))
noncomputable def rdbSl0 : Tel (Unit × Unit × Unit × Int × Unit) := .cons 0 (.yld 0) (.cons 1 (.ptr 3) (.cons 2 (.ptr 4) (.cons 4 (.int .i64) (.nil))))
noncomputable def rdbBl0 : BTel ((Unit × Unit) × Unit × (Unit × Unit) × ((List Int) × Unit) × (Int × Unit) × Unit) := .cons (.loop 41 58 [37] (rangeAs Try.prog 41 8) (rangeBody Try.prog 41 8) .ready none (.cons 8 (.ptr 2) (.nil)) 1) (.cons (.dfr) (.cons (.row (.cons 0 (.nilS) (.nil))) (.cons (.row (.cons 0 (.lst Eu8) (.nil))) (.cons (.row (.cons 0 (.int .i64) (.nil))) (.nil)))))
noncomputable def rdbZ0 : (Unit × Unit × Unit × Int × Unit) → ((Unit × Unit) × Unit × (Unit × Unit) × ((List Int) × Unit) × (Int × Unit) × Unit) → rdbZ := fun ((), ((), ((), (i, ())))) (((), ()), ((), (((), ()), ((b, ()), ((n, ()), ()))))) => (((), ((), ((), (i, ())))), (((), ()), ((), (([], ()), ((b, ()), ((n, ()), ((), ())))))))
noncomputable def rdbFs : List (LForm rdbZ) := [⟨_, _, rdbSl, rdbBl, fun x y => (x, y)⟩, ⟨_, _, rdbSl0, rdbBl0, rdbZ0⟩]
noncomputable def rdbAlts (R0 : rdbZ → (Unit) → ((Unit × Unit) × Unit × ((List Int) × Unit) × ((List Int) × Unit) × (Int × Unit) × Unit × Unit) → Prop) (R1 : rdbZ → (Unit) → ((Unit × Unit) × Unit × (Unit × Unit) × ((List Int) × Unit) × (Int × Unit) × Unit) → Prop) : List (Alt rdbZ) := [⟨.exit 0, Unit, (Unit × Unit) × Unit × ((List Int) × Unit) × ((List Int) × Unit) × (Int × Unit) × Unit × Unit, .nil, .cons (.loop 41 58 [37] (rangeAs Try.prog 41 8) (rangeBody Try.prog 41 8) .ready none (.cons 8 (.ptr 2) (.nil)) 1) (.cons (.dfr) (.cons (.row (.cons 0 (.own Ei32 5) (.nil))) (.cons (.row (.cons 0 (.lst Eu8) (.nil))) (.cons (.row (.cons 0 (.int .i64) (.nil))) (.cons (.spare) (.nil)))))), R0⟩, ⟨.exit 0, Unit, (Unit × Unit) × Unit × (Unit × Unit) × ((List Int) × Unit) × (Int × Unit) × Unit, .nil, .cons (.loop 41 58 [37] (rangeAs Try.prog 41 8) (rangeBody Try.prog 41 8) .ready none (.cons 8 (.ptr 2) (.nil)) 1) (.cons (.dfr) (.cons (.row (.cons 0 (.nilS) (.nil))) (.cons (.row (.cons 0 (.lst Eu8) (.nil))) (.cons (.row (.cons 0 (.int .i64) (.nil))) (.nil))))), R1⟩]

theorem rdbForm (i : Int) (all : List Int) (b : List Int) (n : Int) (N : rdbZ → Prop) (R0 : rdbZ → (Unit) → ((Unit × Unit) × Unit × ((List Int) × Unit) × ((List Int) × Unit) × (Int × Unit) × Unit × Unit) → Prop) (R1 : rdbZ → (Unit) → ((Unit × Unit) × Unit × (Unit × Unit) × ((List Int) × Unit) × (Int × Unit) × Unit) → Prop) : ((runW Try.prog (KL [(65, ofK), (64, sgnK)] []) 100).code none 88 31 (loopBody Try.prog 88 1) (mkT (rdbSl.av id ((), ((), ((), (i, ())))))) [] (stL true (rdbBl.obs id (((), ()), ((), ((all, ()), ((b, ()), ((n, ()), ((), ())))))))) (postL 5 rdbFs (rdbAlts R0 R1) (((), ((), ((), (i, ())))), (((), ()), ((), ((all, ()), ((b, ()), ((n, ()), ((), ()))))))) N)) =
  ( ifp (!leInt (Int.ofNat b.length) i) ((0 : Int) ≤ i ∧ i ≤ ↑b.length ∧ b.length ≤ b.length ∧ (List.flatMap Eu8.f b).length = b.length.mul (1 : Nat) ∧ True ∧ True
  ∧ True ∧ True ∧ (0 : Int) ≤ wrapF IntKind.i64 (i.add (ifb (leInt n (Int.ofNat (b.length.sub (natOf i)))) n (Int.ofNat (b.length.sub (natOf i))))) ∧ wrapF
  IntKind.i64 (i.add (ifb (leInt n (Int.ofNat (b.length.sub (natOf i)))) n (Int.ofNat (b.length.sub (natOf i))))) ≤ ↑b.length ∧ (0 : Int) ≤ wrapF IntKind.i64
  (i.add (ifb (leInt n (Int.ofNat (b.length.sub (natOf i)))) n (Int.ofNat (b.length.sub (natOf i))))) ∧ wrapF IntKind.i64 (i.add (ifb (leInt n (Int.ofNat
  (b.length.sub (natOf i)))) n (Int.ofNat (b.length.sub (natOf i))))) ≤ ↑(natOf (wrapF IntKind.i64 (i.add (ifb true (ifb (leInt n (Int.ofNat (b.length.sub (natOf
  i)))) n (Int.ofNat (b.length.sub (natOf i)))) (ifb (leInt (Int.ofNat (b.length.sub (natOf i))) n) n (Int.ofNat (b.length.sub (natOf i)))))))) ∧ (0 : Int) ≤ i ∧
  i ≤ ↑(natOf (wrapF IntKind.i64 (i.add (ifb true (ifb (leInt n (Int.ofNat (b.length.sub (natOf i)))) n (Int.ofNat (b.length.sub (natOf i)))) (ifb (leInt
  (Int.ofNat (b.length.sub (natOf i))) n) n (Int.ofNat (b.length.sub (natOf i)))))))) ∧ natOf (wrapF IntKind.i64 (i.add (ifb true (ifb (leInt n (Int.ofNat
  (b.length.sub (natOf i)))) n (Int.ofNat (b.length.sub (natOf i)))) (ifb (leInt (Int.ofNat (b.length.sub (natOf i))) n) n (Int.ofNat (b.length.sub (natOf
  i))))))) ≤ b.length ∧ (List.flatMap Eu8.f b).length = b.length.mul (1 : Nat) ∧ ∃ (l : List Int), Wk (AV.vs (List.take (((natOf (wrapF IntKind.i64 (i.add (ifb
  true (ifb (leInt n (Int.ofNat (b.length.sub (natOf i)))) n (Int.ofNat (b.length.sub (natOf i)))) (ifb (leInt (Int.ofNat (b.length.sub (natOf i))) n) n
  (Int.ofNat (b.length.sub (natOf i)))))))).sub (natOf i)).mul (1 : Nat)) (List.drop ((natOf i).mul (1 : Nat)) (List.flatMap Eu8.f b))) ((natOf (wrapF
  IntKind.i64 (i.add (ifb true (ifb (leInt n (Int.ofNat (b.length.sub (natOf i)))) n (Int.ofNat (b.length.sub (natOf i)))) (ifb (leInt (Int.ofNat (b.length.sub
  (natOf i))) n) n (Int.ofNat (b.length.sub (natOf i)))))))).sub (natOf i)) ((natOf (wrapF IntKind.i64 (i.add (ifb true (ifb (leInt n (Int.ofNat (b.length.sub
  (natOf i)))) n (Int.ofNat (b.length.sub (natOf i)))) (ifb (leInt (Int.ofNat (b.length.sub (natOf i))) n) n (Int.ofNat (b.length.sub (natOf i)))))))).sub (natOf
  i)) (mxEx (some (AV.int IntKind.i64 (wrapF IntKind.i64 (i.add (ifb true (ifb (leInt n (Int.ofNat (b.length.sub (natOf i)))) n (Int.ofNat (b.length.sub (natOf
  i)))) (ifb (leInt (Int.ofNat (b.length.sub (natOf i))) n) n (Int.ofNat (b.length.sub (natOf i))))))))) false) none (1 : Nat)) (lst Eu8 l) ∧ ofPre (l, ()) ∧
  sgnPre (ofB l, (4 : Int), ()) ∧ (1 : Nat) ≤ (1 : Nat) ∧ ifp (roomy (all.length.add (1 : Nat)) (4 : Nat)) ((AV.vs (List.flatMap Ei32.f all) all.length
  all.length false (some (5 : Nat)) (1 : Nat) = AV.vs (List.flatMap Ei32.f all) all.length all.length false (some (5 : Nat)) (1 : Nat) ∧ AV.vs (List.flatMap
  Ei32.f all) all.length all.length false (some (5 : Nat)) (1 : Nat) = AV.vs (List.flatMap Ei32.f all) all.length all.length false (some (5 : Nat)) (1 : Nat) ∧
  True) ∧ True ∧ True ∧ ((True ∧ [(37 : Nat)] = [(37 : Nat)] ∧ rangeAs Try.prog (41 : FuncId) (8 : Nat) = rangeAs Try.prog (41 : FuncId) (8 : Nat) ∧ rangeBody
  Try.prog (41 : FuncId) (8 : Nat) = rangeBody Try.prog (41 : FuncId) (8 : Nat) ∧ ∃ (l_1 : List Int), (WkL (List.flatMap Ei32.f all ++ [AV.int IntKind.i32 (wrapF
  IntKind.i32 (s32 (ofB l)))]) (List.flatMap Ei32.f l_1) ∧ all.length.add (1 : Nat) = l_1.length ∧ (1 : Nat) = (1 : Nat)) ∧ ∃ (l : List Int), Wk (AV.vs
  (List.flatMap Eu8.f b) b.length b.length false none (1 : Nat)) (lst Eu8 l) ∧ true = true ∧ N (((), (), (), wrapF IntKind.i64 (i.add n), ()), ((), ()), (),
  (l_1, ()), (l, ()), (n, ()), (), ())) ∨ True ∧ [(37 : Nat)] = [(37 : Nat)] ∧ rangeAs Try.prog (41 : FuncId) (8 : Nat) = rangeAs Try.prog (41 : FuncId) (8 :
  Nat) ∧ rangeBody Try.prog (41 : FuncId) (8 : Nat) = rangeBody Try.prog (41 : FuncId) (8 : Nat) ∧ False)) False) ((True ∧ True ∧ [(37 : Nat)] = [(37 : Nat)] ∧
  rangeAs Try.prog (41 : FuncId) (8 : Nat) = rangeAs Try.prog (41 : FuncId) (8 : Nat) ∧ rangeBody Try.prog (41 : FuncId) (8 : Nat) = rangeBody Try.prog (41 :
  FuncId) (8 : Nat) ∧ ∃ (l : List Int), (WkL (List.flatMap Ei32.f all) (List.flatMap Ei32.f l) ∧ all.length = l.length ∧ (1 : Nat) = (1 : Nat)) ∧ ∃ (l_1 : List
  Int), Wk (AV.vs (List.flatMap Eu8.f b) b.length b.length false none (1 : Nat)) (lst Eu8 l_1) ∧ true = true ∧ R0 (((), (), (), i, ()), ((), ()), (), (all, ()),
  (b, ()), (n, ()), (), ()) () (((), ()), (), (l, ()), (l_1, ()), (n, ()), (), ())) ∨ True ∧ True ∧ [(37 : Nat)] = [(37 : Nat)] ∧ rangeAs Try.prog (41 : FuncId)
  (8 : Nat) = rangeAs Try.prog (41 : FuncId) (8 : Nat) ∧ rangeBody Try.prog (41 : FuncId) (8 : Nat) = rangeBody Try.prog (41 : FuncId) (8 : Nat) ∧ False)) := by kernel_rfl

theorem rdbForm0 (i : Int) (b : List Int) (n : Int) (N : rdbZ → Prop) (R0 : rdbZ → (Unit) → ((Unit × Unit) × Unit × ((List Int) × Unit) × ((List Int) × Unit) × (Int × Unit) × Unit × Unit) → Prop) (R1 : rdbZ → (Unit) → ((Unit × Unit) × Unit × (Unit × Unit) × ((List Int) × Unit) × (Int × Unit) × Unit) → Prop) : ((runW Try.prog (KL [(65, ofK), (64, sgnK)] []) 100).code none 88 31 (loopBody Try.prog 88 1) (mkT (rdbSl0.av id ((), ((), ((), (i, ())))))) [] (stL true (rdbBl0.obs id (((), ()), ((), (((), ()), ((b, ()), ((n, ()), ()))))))) (postL 5 rdbFs (rdbAlts R0 R1) (rdbZ0 ((), ((), ((), (i, ())))) (((), ()), ((), (((), ()), ((b, ()), ((n, ()), ())))))) N)) =
  ( ifp (!leInt (Int.ofNat b.length) i) ((0 : Int) ≤ i ∧ i ≤ ↑b.length ∧ b.length ≤ b.length ∧ (List.flatMap Eu8.f b).length = b.length.mul (1 : Nat) ∧ True ∧ True
  ∧ True ∧ True ∧ (0 : Int) ≤ wrapF IntKind.i64 (i.add (ifb (leInt n (Int.ofNat (b.length.sub (natOf i)))) n (Int.ofNat (b.length.sub (natOf i))))) ∧ wrapF
  IntKind.i64 (i.add (ifb (leInt n (Int.ofNat (b.length.sub (natOf i)))) n (Int.ofNat (b.length.sub (natOf i))))) ≤ ↑b.length ∧ (0 : Int) ≤ wrapF IntKind.i64
  (i.add (ifb (leInt n (Int.ofNat (b.length.sub (natOf i)))) n (Int.ofNat (b.length.sub (natOf i))))) ∧ wrapF IntKind.i64 (i.add (ifb (leInt n (Int.ofNat
  (b.length.sub (natOf i)))) n (Int.ofNat (b.length.sub (natOf i))))) ≤ ↑(natOf (wrapF IntKind.i64 (i.add (ifb true (ifb (leInt n (Int.ofNat (b.length.sub (natOf
  i)))) n (Int.ofNat (b.length.sub (natOf i)))) (ifb (leInt (Int.ofNat (b.length.sub (natOf i))) n) n (Int.ofNat (b.length.sub (natOf i)))))))) ∧ (0 : Int) ≤ i ∧
  i ≤ ↑(natOf (wrapF IntKind.i64 (i.add (ifb true (ifb (leInt n (Int.ofNat (b.length.sub (natOf i)))) n (Int.ofNat (b.length.sub (natOf i)))) (ifb (leInt
  (Int.ofNat (b.length.sub (natOf i))) n) n (Int.ofNat (b.length.sub (natOf i)))))))) ∧ natOf (wrapF IntKind.i64 (i.add (ifb true (ifb (leInt n (Int.ofNat
  (b.length.sub (natOf i)))) n (Int.ofNat (b.length.sub (natOf i)))) (ifb (leInt (Int.ofNat (b.length.sub (natOf i))) n) n (Int.ofNat (b.length.sub (natOf
  i))))))) ≤ b.length ∧ (List.flatMap Eu8.f b).length = b.length.mul (1 : Nat) ∧ ∃ (l : List Int), Wk (AV.vs (List.take (((natOf (wrapF IntKind.i64 (i.add (ifb
  true (ifb (leInt n (Int.ofNat (b.length.sub (natOf i)))) n (Int.ofNat (b.length.sub (natOf i)))) (ifb (leInt (Int.ofNat (b.length.sub (natOf i))) n) n
  (Int.ofNat (b.length.sub (natOf i)))))))).sub (natOf i)).mul (1 : Nat)) (List.drop ((natOf i).mul (1 : Nat)) (List.flatMap Eu8.f b))) ((natOf (wrapF
  IntKind.i64 (i.add (ifb true (ifb (leInt n (Int.ofNat (b.length.sub (natOf i)))) n (Int.ofNat (b.length.sub (natOf i)))) (ifb (leInt (Int.ofNat (b.length.sub
  (natOf i))) n) n (Int.ofNat (b.length.sub (natOf i)))))))).sub (natOf i)) ((natOf (wrapF IntKind.i64 (i.add (ifb true (ifb (leInt n (Int.ofNat (b.length.sub
  (natOf i)))) n (Int.ofNat (b.length.sub (natOf i)))) (ifb (leInt (Int.ofNat (b.length.sub (natOf i))) n) n (Int.ofNat (b.length.sub (natOf i)))))))).sub (natOf
  i)) (mxEx (some (AV.int IntKind.i64 (wrapF IntKind.i64 (i.add (ifb true (ifb (leInt n (Int.ofNat (b.length.sub (natOf i)))) n (Int.ofNat (b.length.sub (natOf
  i)))) (ifb (leInt (Int.ofNat (b.length.sub (natOf i))) n) n (Int.ofNat (b.length.sub (natOf i))))))))) false) none (1 : Nat)) (lst Eu8 l) ∧ ofPre (l, ()) ∧
  sgnPre (ofB l, (4 : Int), ()) ∧ (1 : Nat) ≤ (1 : Nat) ∧ (AV.nilSlice = AV.nilSlice ∧ AV.nilSlice = AV.nilSlice ∧ True) ∧ True ∧ True ∧ ((True ∧ [(37 : Nat)] =
  [(37 : Nat)] ∧ rangeAs Try.prog (41 : FuncId) (8 : Nat) = rangeAs Try.prog (41 : FuncId) (8 : Nat) ∧ rangeBody Try.prog (41 : FuncId) (8 : Nat) = rangeBody
  Try.prog (41 : FuncId) (8 : Nat) ∧ ∃ (l_1 : List Int), (WkL [AV.int IntKind.i32 (wrapF IntKind.i32 (s32 (ofB l)))] (List.flatMap Ei32.f l_1) ∧ (1 : Nat) =
  l_1.length ∧ (1 : Nat) = (1 : Nat)) ∧ ∃ (l : List Int), Wk (AV.vs (List.flatMap Eu8.f b) b.length b.length false none (1 : Nat)) (lst Eu8 l) ∧ true = true ∧ N
  (((), (), (), wrapF IntKind.i64 (i.add n), ()), ((), ()), (), (l_1, ()), (l, ()), (n, ()), (), ())) ∨ True ∧ [(37 : Nat)] = [(37 : Nat)] ∧ rangeAs Try.prog (41
  : FuncId) (8 : Nat) = rangeAs Try.prog (41 : FuncId) (8 : Nat) ∧ rangeBody Try.prog (41 : FuncId) (8 : Nat) = rangeBody Try.prog (41 : FuncId) (8 : Nat) ∧
  False)) (True ∧ True ∧ [(37 : Nat)] = [(37 : Nat)] ∧ rangeAs Try.prog (41 : FuncId) (8 : Nat) = rangeAs Try.prog (41 : FuncId) (8 : Nat) ∧ rangeBody Try.prog
  (41 : FuncId) (8 : Nat) = rangeBody Try.prog (41 : FuncId) (8 : Nat) ∧ False ∨ True ∧ True ∧ [(37 : Nat)] = [(37 : Nat)] ∧ rangeAs Try.prog (41 : FuncId) (8 :
  Nat) = rangeAs Try.prog (41 : FuncId) (8 : Nat) ∧ rangeBody Try.prog (41 : FuncId) (8 : Nat) = rangeBody Try.prog (41 : FuncId) (8 : Nat) ∧ ∃ (l : List Int),
  Wk (AV.vs (List.flatMap Eu8.f b) b.length b.length false none (1 : Nat)) (lst Eu8 l) ∧ true = true ∧ R1 (((), (), (), i, ()), ((), ()), (), ([], ()), (b, ()),
  (n, ()), (), ()) () (((), ()), (), ((), ()), (l, ()), (n, ()), ()))) := by kernel_rfl

def rdbInv : rdbZ → Prop := fun (((), ((), ((), (i, ())))), (((), ()), ((), ((all, ()), ((b, ()), ((n, ()), ((), ()))))))) => ∃ k c : Nat, i = (k * 4 : Nat) ∧ n = (4 : Nat) ∧ b.length = c * 4 ∧ k ≤ c ∧ c ≤ 4194304 ∧ bytesOk b ∧ all = (List.range k).map (num4 b)
def rdbMu : rdbZ → Nat := fun (((), ((), ((), (i, ())))), (((), ()), ((), ((all, ()), ((b, ()), ((n, ()), ((), ()))))))) => b.length - i.toNat
def rdbR0 : rdbZ → (Unit) → ((Unit × Unit) × Unit × ((List Int) × Unit) × ((List Int) × Unit) × (Int × Unit) × Unit × Unit) → Prop := fun (((), ((), ((), (i, ())))), (((), ()), ((), ((all, ()), ((b, ()), ((n, ()), ((), ()))))))) _ (_, _, (r, _), _) => r = (List.range (b.length / 4)).map (num4 b)
def rdbR1 : rdbZ → (Unit) → ((Unit × Unit) × Unit × (Unit × Unit) × ((List Int) × Unit) × (Int × Unit) × Unit) → Prop := fun (((), ((), ((), (i, ())))), (((), ()), ((), ((all, ()), ((b, ()), ((n, ()), ((), ()))))))) _ _ => b = []
noncomputable def rdbC : LoopC := loopC 5 rdbFs (rdbAlts rdbR0 rdbR1) rdbInv

theorem rdbStep : stepsOk Try.prog (KL [(65, ofK), (64, sgnK)] []) 100 88 31 (loopBody Try.prog 88 1) 5 true rdbFs (rdbAlts rdbR0 rdbR1) rdbInv rdbMu ⟨_, _, rdbSl, rdbBl, fun x y => (x, y)⟩ := by
  intro x y hz
  obtain ⟨_, _, _, i, _⟩ := x
  obtain ⟨⟨_, _⟩, _, ⟨all, _⟩, ⟨b, _⟩, ⟨n, _⟩, _, _⟩ := y
  refine (rdbForm i all b n _ _ _).mpr ?_
  obtain ⟨k, c, rfl, rfl, hb, hk, hc, hx, rfl⟩ := hz
  rw [ifp_lt]
  simp only [natOf_nat, ifb_true]
  split
  · rename_i h
    have hkc : k < c := by simp at h; omega
    have hp : k * 4 + 4 ≤ b.length := by omega
    simp only [chunk_end hp (by omega), natOf_nat]
    repeat (first
      | (refine And.intro trivial ?_)
      | (refine And.intro (Nat.le_refl _) ?_)
      | (refine And.intro (Enc.flen _ _) ?_)
      | (refine And.intro (by omega) ?_))
    have hr := ofB_range (chunk_bytes hx 4 k)
    have hr2 := s32_range (ofB (chunkAt 4 b k))
    refine ⟨chunkAt 4 b k, (chunk_wk (E := Eu8) rfl).resolve_right (by omega), ⟨chunk_bytes hx 4 k, by rw [chunkAt_len hp]; decide⟩, ⟨rfl, hr.1, hr.2⟩, Nat.le_refl _, ?_⟩
    rw [ifp_pos (roomy_small (by simp only [Nat.add_eq, List.length_map, List.length_range]; omega) (by decide)), chunk_add (by omega)]
    refine ⟨⟨by first | trivial | rfl, by first | trivial | rfl, trivial⟩, trivial, trivial, Or.inl ⟨trivial, by first | trivial | rfl, by first | trivial | rfl, by first | trivial | rfl, (List.range (k + 1)).map (num4 b), ⟨?_, ?_, by first | trivial | rfl⟩, b, Wk.refl _, by first | trivial | rfl, ?_⟩⟩
    · rw [range_succ_map]; exact wkl_snoc ⟨by rw [w32 hr2.1 hr2.2]; exact Wk.refl _, trivial⟩
    · rw [range_succ_map]; exact len_snoc
    · exact ⟨⟨k + 1, c, by rw [Nat.succ_mul], rfl, hb, hkc, hc, hx, rfl⟩, by show b.length - (k * 4 + 4) < b.length - k * 4; omega, fun _ _ h => h, fun _ _ h => h, trivial⟩
  · rename_i h
    have hkc : k = c := by simp at h; omega
    refine Or.inl ⟨trivial, trivial, by first | trivial | rfl, by first | trivial | rfl, by first | trivial | rfl, _, ⟨WkL.refl _, by first | trivial | rfl, by first | trivial | rfl⟩, b, Wk.refl _, by first | trivial | rfl, ?_⟩
    show (List.range k).map (num4 b) = (List.range (b.length / 4)).map (num4 b)
    rw [hb, hkc, Nat.mul_div_cancel _ (by decide)]
theorem rdbStep0 : stepsOk Try.prog (KL [(65, ofK), (64, sgnK)] []) 100 88 31 (loopBody Try.prog 88 1) 5 true rdbFs (rdbAlts rdbR0 rdbR1) rdbInv rdbMu ⟨_, _, rdbSl0, rdbBl0, rdbZ0⟩ := by
  intro x y hz
  obtain ⟨_, _, _, i, _⟩ := x
  obtain ⟨⟨_, _⟩, _, ⟨_, _⟩, ⟨b, _⟩, ⟨n, _⟩, _⟩ := y
  refine (rdbForm0 i b n _ _ _).mpr ?_
  obtain ⟨k, c, rfl, rfl, hb, hk, hc, hx, h0⟩ := hz
  have hk0 : k = 0 := by have := congrArg List.length h0; simpa using this.symm
  subst hk0
  rw [ifp_lt]
  simp only [natOf_nat, ifb_true]
  split
  · rename_i h
    have hkc : 0 < c := by simp at h; omega
    have hp : 0 * 4 + 4 ≤ b.length := by omega
    simp only [chunk_end hp (by omega), natOf_nat]
    repeat (first
      | (refine And.intro trivial ?_)
      | (refine And.intro (Nat.le_refl _) ?_)
      | (refine And.intro (Enc.flen _ _) ?_)
      | (refine And.intro (by omega) ?_))
    have hr := ofB_range (chunk_bytes hx 4 0)
    have hr2 := s32_range (ofB (chunkAt 4 b 0))
    refine ⟨chunkAt 4 b 0, (chunk_wk (E := Eu8) rfl).resolve_right (by omega), ⟨chunk_bytes hx 4 0, by rw [chunkAt_len hp]; decide⟩, ⟨rfl, hr.1, hr.2⟩, Nat.le_refl _, ?_⟩
    rw [chunk_add (by omega)]
    refine ⟨⟨by first | trivial | rfl, by first | trivial | rfl, trivial⟩, trivial, trivial, Or.inl ⟨trivial, by first | trivial | rfl, by first | trivial | rfl, by first | trivial | rfl, [num4 b 0], ⟨wkl_one ⟨by rw [w32 hr2.1 hr2.2]; exact Wk.refl _, trivial⟩, by first | trivial | rfl, by first | trivial | rfl⟩, b, Wk.refl _, by first | trivial | rfl, ?_⟩⟩
    exact ⟨⟨1, c, rfl, rfl, hb, hkc, hc, hx, rfl⟩, by show b.length - 4 < b.length - 0; omega, fun _ _ h => h, fun _ _ h => h, trivial⟩
  · rename_i h
    have hkc : c = 0 := by simp only [Int.ofNat_eq_natCast] at h; omega
    refine Or.inr ⟨trivial, trivial, by first | trivial | rfl, by first | trivial | rfl, by first | trivial | rfl, b, Wk.refl _, by first | trivial | rfl, ?_⟩
    exact List.length_eq_zero_iff.1 (by omega)
theorem rdbOk : LoopOk Try.prog 88 31 (.loop (loopBody Try.prog 88 1)) rdbC := loop_ok rdbMu mixed (KL_ok (cc_cons ofCc (cc_cons sgnCc (cc_nil)))) rfl (steps_cons rdbStep (steps_cons rdbStep0 (steps_nil)))

/-! slices.Clone[[]int32,int32] -/
abbrev clone32Z := ((List Int) × Unit) × (Unit)
noncomputable def clone32T : Tel ((List Int) × Unit) := .cons 0 (.lst Ei32) (.nil)
noncomputable def clone32Bl : BTel (Unit) := .nil
noncomputable def clone32Res (R0 : clone32Z → ((List Int) × Unit) → (Unit × Unit) → Prop) : List (Res clone32Z) := [⟨(List Int) × Unit, Unit × Unit, .cons 0 (.own Ei32 0) (.nil), .cons (.spare) (.nil), R0⟩]

theorem clone32Fn (l : List Int) (R0 : clone32Z → ((List Int) × Unit) → (Unit × Unit) → Prop) : (callW Try.prog (runW Try.prog (KL [] []) 200) 67 (clone32T.cells id (l, ())) (stL true (clone32Bl.obs id ())) (fun v st => resAny 0 ((l, ()), ()) v st (clone32Res R0))) =
  ( l.length ≠ (0 : Nat) ∧ (List.flatMap Ei32.f l).length = l.length.mul (1 : Nat) ∧ ifp (allScalar (List.flatMap Ei32.f l) && true) (ifp (roomy (Nat.add (0 : Nat)
  l.length) (4 : Nat)) (∃ (l_1 : List Int), (WkL ([] ++ List.flatMap Ei32.f l) (List.flatMap Ei32.f l_1) ∧ Nat.add (0 : Nat) l.length = l_1.length ∧ (1 : Nat) =
  (1 : Nat)) ∧ true = true ∧ R0 ((l, ()), ()) (l_1, ()) ((), ())) False) False) := by kernel_rfl

def clone32Pre : clone32Z → Prop := fun ((l, ()), ()) => 1 ≤ l.length ∧ l.length ≤ 1000000
def clone32R0 : clone32Z → ((List Int) × Unit) → (Unit × Unit) → Prop := fun ((l, ()), ()) (r, _) _ => r = l
noncomputable def clone32K : CallC := callC 0 clone32T clone32Bl clone32Pre (clone32Res clone32R0)

theorem clone32Step (z : clone32Z) (hp : clone32Pre z) : callW Try.prog (runW Try.prog (KL [] []) 200) 67 (clone32T.cells id z.1) (stL true (clone32Bl.obs id z.2)) (fun v st => resAny 0 z v st (clone32Res clone32R0)) := by
  obtain ⟨⟨l, _⟩, _⟩ := z
  refine (clone32Fn l _).mpr ?_
  obtain ⟨h1, h2⟩ := hp
  refine ⟨by omega, Enc.flen _ _, ?_⟩
  rw [ifp_pos (by rw [Enc.fscal Ei32]; rfl), ifp_pos (roomy_small (by simp only [Nat.add_eq]; omega) (by decide))]
  exact ⟨l, ⟨WkL.refl _, by show 0 + l.length = _; omega, rfl⟩, rfl, rfl⟩
theorem clone32Cc : CcOk Try.prog 67 clone32K := call_ok mixed (KL_ok (cc_nil)) rfl clone32Step

theorem lt_mul_of {k c d : Nat} (hd : 1 ≤ d) (h : k * d < c * d) : k < c := Nat.lt_of_mul_lt_mul_right h
theorem le_mul_of {k c d : Nat} (h : k < c) : k * d + d ≤ c * d := by rw [← Nat.succ_mul]; exact Nat.mul_le_mul_right d h
theorem big_mul {c d : Nat} (h1 : c ≤ 4096) (h2 : d ≤ 1024) : c * d ≤ 4194304 := Nat.mul_le_mul h1 h2
theorem toNat_nat (k : Nat) : Int.toNat (k : Int) = k := rfl

/-! The loop rdv of slices.Chunk[[]int32,int32]$1. -/
abbrev rdvZ := (Unit × Unit × Unit × Int × Unit) × ((Unit × Unit) × Unit × ((List (List Int)) × Unit) × ((List Int) × Unit) × (Int × Unit) × Unit × Unit)
noncomputable def rdvSl : Tel (Unit × Unit × Unit × Int × Unit) := .cons 0 (.yld 0) (.cons 1 (.ptr 3) (.cons 2 (.ptr 4) (.cons 4 (.int .i64) (.nil))))
noncomputable def rdvBl : BTel ((Unit × Unit) × Unit × ((List (List Int)) × Unit) × ((List Int) × Unit) × (Int × Unit) × Unit × Unit) := .cons (.loop 41 58 [48] (rangeAs Try.prog 41 12) (rangeBody Try.prog 41 12) .ready none (.cons 10 (.ptr 2) (.nil)) 1) (.cons (.dfr) (.cons (.row (.cons 0 (.own Ell 5) (.nil))) (.cons (.row (.cons 0 (.lst Ei32) (.nil))) (.cons (.row (.cons 0 (.int .i64) (.nil))) (.cons (.spare) (.nil))))))
noncomputable def rdvSl0 : Tel (Unit × Unit × Unit × Int × Unit) := .cons 0 (.yld 0) (.cons 1 (.ptr 3) (.cons 2 (.ptr 4) (.cons 4 (.int .i64) (.nil))))
noncomputable def rdvBl0 : BTel ((Unit × Unit) × Unit × (Unit × Unit) × ((List Int) × Unit) × (Int × Unit) × Unit) := .cons (.loop 41 58 [48] (rangeAs Try.prog 41 12) (rangeBody Try.prog 41 12) .ready none (.cons 10 (.ptr 2) (.nil)) 1) (.cons (.dfr) (.cons (.row (.cons 0 (.nilS) (.nil))) (.cons (.row (.cons 0 (.lst Ei32) (.nil))) (.cons (.row (.cons 0 (.int .i64) (.nil))) (.nil)))))
noncomputable def rdvZ0 : (Unit × Unit × Unit × Int × Unit) → ((Unit × Unit) × Unit × (Unit × Unit) × ((List Int) × Unit) × (Int × Unit) × Unit) → rdvZ := fun ((), ((), ((), (i, ())))) (((), ()), ((), (((), ()), ((l, ()), ((n, ()), ()))))) => (((), ((), ((), (i, ())))), (((), ()), ((), (([], ()), ((l, ()), ((n, ()), ((), ())))))))
noncomputable def rdvFs : List (LForm rdvZ) := [⟨_, _, rdvSl, rdvBl, fun x y => (x, y)⟩, ⟨_, _, rdvSl0, rdvBl0, rdvZ0⟩]
noncomputable def rdvAlts (R0 : rdvZ → (Unit) → ((Unit × Unit) × Unit × ((List (List Int)) × Unit) × ((List Int) × Unit) × (Int × Unit) × Unit × Unit) → Prop) (R1 : rdvZ → (Unit) → ((Unit × Unit) × Unit × (Unit × Unit) × ((List Int) × Unit) × (Int × Unit) × Unit) → Prop) : List (Alt rdvZ) := [⟨.exit 0, Unit, (Unit × Unit) × Unit × ((List (List Int)) × Unit) × ((List Int) × Unit) × (Int × Unit) × Unit × Unit, .nil, .cons (.loop 41 58 [48] (rangeAs Try.prog 41 12) (rangeBody Try.prog 41 12) .ready none (.cons 10 (.ptr 2) (.nil)) 1) (.cons (.dfr) (.cons (.row (.cons 0 (.own Ell 5) (.nil))) (.cons (.row (.cons 0 (.lst Ei32) (.nil))) (.cons (.row (.cons 0 (.int .i64) (.nil))) (.cons (.spare) (.nil)))))), R0⟩, ⟨.exit 0, Unit, (Unit × Unit) × Unit × (Unit × Unit) × ((List Int) × Unit) × (Int × Unit) × Unit, .nil, .cons (.loop 41 58 [48] (rangeAs Try.prog 41 12) (rangeBody Try.prog 41 12) .ready none (.cons 10 (.ptr 2) (.nil)) 1) (.cons (.dfr) (.cons (.row (.cons 0 (.nilS) (.nil))) (.cons (.row (.cons 0 (.lst Ei32) (.nil))) (.cons (.row (.cons 0 (.int .i64) (.nil))) (.nil))))), R1⟩]

theorem rdvForm (i : Int) (out : List (List Int)) (l : List Int) (n : Int) (N : rdvZ → Prop) (R0 : rdvZ → (Unit) → ((Unit × Unit) × Unit × ((List (List Int)) × Unit) × ((List Int) × Unit) × (Int × Unit) × Unit × Unit) → Prop) (R1 : rdvZ → (Unit) → ((Unit × Unit) × Unit × (Unit × Unit) × ((List Int) × Unit) × (Int × Unit) × Unit) → Prop) : ((runW Try.prog (KL [(67, clone32K)] []) 100).code none 89 31 (loopBody Try.prog 89 1) (mkT (rdvSl.av id ((), ((), ((), (i, ())))))) [] (stL true (rdvBl.obs id (((), ()), ((), ((out, ()), ((l, ()), ((n, ()), ((), ())))))))) (postL 5 rdvFs (rdvAlts R0 R1) (((), ((), ((), (i, ())))), (((), ()), ((), ((out, ()), ((l, ()), ((n, ()), ((), ()))))))) N)) =
  ( ifp (!leInt (Int.ofNat l.length) i) ((0 : Int) ≤ i ∧ i ≤ ↑l.length ∧ l.length ≤ l.length ∧ (List.flatMap Ei32.f l).length = l.length.mul (1 : Nat) ∧ True ∧ True
  ∧ True ∧ True ∧ (0 : Int) ≤ wrapF IntKind.i64 (i.add (ifb (leInt n (Int.ofNat (l.length.sub (natOf i)))) n (Int.ofNat (l.length.sub (natOf i))))) ∧ wrapF
  IntKind.i64 (i.add (ifb (leInt n (Int.ofNat (l.length.sub (natOf i)))) n (Int.ofNat (l.length.sub (natOf i))))) ≤ ↑l.length ∧ (0 : Int) ≤ wrapF IntKind.i64
  (i.add (ifb (leInt n (Int.ofNat (l.length.sub (natOf i)))) n (Int.ofNat (l.length.sub (natOf i))))) ∧ wrapF IntKind.i64 (i.add (ifb (leInt n (Int.ofNat
  (l.length.sub (natOf i)))) n (Int.ofNat (l.length.sub (natOf i))))) ≤ ↑(natOf (wrapF IntKind.i64 (i.add (ifb true (ifb (leInt n (Int.ofNat (l.length.sub (natOf
  i)))) n (Int.ofNat (l.length.sub (natOf i)))) (ifb (leInt (Int.ofNat (l.length.sub (natOf i))) n) n (Int.ofNat (l.length.sub (natOf i)))))))) ∧ (0 : Int) ≤ i ∧
  i ≤ ↑(natOf (wrapF IntKind.i64 (i.add (ifb true (ifb (leInt n (Int.ofNat (l.length.sub (natOf i)))) n (Int.ofNat (l.length.sub (natOf i)))) (ifb (leInt
  (Int.ofNat (l.length.sub (natOf i))) n) n (Int.ofNat (l.length.sub (natOf i)))))))) ∧ natOf (wrapF IntKind.i64 (i.add (ifb true (ifb (leInt n (Int.ofNat
  (l.length.sub (natOf i)))) n (Int.ofNat (l.length.sub (natOf i)))) (ifb (leInt (Int.ofNat (l.length.sub (natOf i))) n) n (Int.ofNat (l.length.sub (natOf
  i))))))) ≤ l.length ∧ (List.flatMap Ei32.f l).length = l.length.mul (1 : Nat) ∧ ∃ (l_1 : List Int), Wk (AV.vs (List.take (((natOf (wrapF IntKind.i64 (i.add
  (ifb true (ifb (leInt n (Int.ofNat (l.length.sub (natOf i)))) n (Int.ofNat (l.length.sub (natOf i)))) (ifb (leInt (Int.ofNat (l.length.sub (natOf i))) n) n
  (Int.ofNat (l.length.sub (natOf i)))))))).sub (natOf i)).mul (1 : Nat)) (List.drop ((natOf i).mul (1 : Nat)) (List.flatMap Ei32.f l))) ((natOf (wrapF
  IntKind.i64 (i.add (ifb true (ifb (leInt n (Int.ofNat (l.length.sub (natOf i)))) n (Int.ofNat (l.length.sub (natOf i)))) (ifb (leInt (Int.ofNat (l.length.sub
  (natOf i))) n) n (Int.ofNat (l.length.sub (natOf i)))))))).sub (natOf i)) ((natOf (wrapF IntKind.i64 (i.add (ifb true (ifb (leInt n (Int.ofNat (l.length.sub
  (natOf i)))) n (Int.ofNat (l.length.sub (natOf i)))) (ifb (leInt (Int.ofNat (l.length.sub (natOf i))) n) n (Int.ofNat (l.length.sub (natOf i)))))))).sub (natOf
  i)) (mxEx (some (AV.int IntKind.i64 (wrapF IntKind.i64 (i.add (ifb true (ifb (leInt n (Int.ofNat (l.length.sub (natOf i)))) n (Int.ofNat (l.length.sub (natOf
  i)))) (ifb (leInt (Int.ofNat (l.length.sub (natOf i))) n) n (Int.ofNat (l.length.sub (natOf i))))))))) false) none (1 : Nat)) (lst Ei32 l_1) ∧ true = true ∧
  clone32Pre ((l_1, ()), ()) ∧ (∀ (c : List Int × Unit) (d : Unit × Unit), clone32R0 ((l_1, ()), ()) c d → (1 : Nat) ≤ (1 : Nat) ∧ ifp (roomy (out.length.add (1
  : Nat)) (24 : Nat)) ((AV.vs (List.flatMap Ell.f out) out.length out.length false (some (5 : Nat)) (1 : Nat) = AV.vs (List.flatMap Ell.f out) out.length
  out.length false (some (5 : Nat)) (1 : Nat) ∧ True) ∧ True ∧ ((True ∧ [(48 : Nat)] = [(48 : Nat)] ∧ rangeAs Try.prog (41 : FuncId) (12 : Nat) = rangeAs
  Try.prog (41 : FuncId) (12 : Nat) ∧ rangeBody Try.prog (41 : FuncId) (12 : Nat) = rangeBody Try.prog (41 : FuncId) (12 : Nat) ∧ ∃ (l_2 : List (List Int)), (WkL
  (List.flatMap Ell.f out ++ [AV.vs (List.flatMap Ei32.f c.1) c.1.length c.1.length false (some (19 : Nat)) (1 : Nat)]) (List.flatMap Ell.f l_2) ∧ out.length.add
  (1 : Nat) = l_2.length ∧ (1 : Nat) = (1 : Nat)) ∧ ∃ (l_3 : List Int), Wk (AV.vs (List.flatMap Ei32.f l) l.length l.length false none (1 : Nat)) (lst Ei32 l_3)
  ∧ true = true ∧ N (((), (), (), wrapF IntKind.i64 (i.add n), ()), ((), ()), (), (l_2, ()), (l_3, ()), (n, ()), (), ())) ∨ True ∧ [(48 : Nat)] = [(48 : Nat)] ∧
  rangeAs Try.prog (41 : FuncId) (12 : Nat) = rangeAs Try.prog (41 : FuncId) (12 : Nat) ∧ rangeBody Try.prog (41 : FuncId) (12 : Nat) = rangeBody Try.prog (41 :
  FuncId) (12 : Nat) ∧ False)) False) ∧ True) ((True ∧ True ∧ [(48 : Nat)] = [(48 : Nat)] ∧ rangeAs Try.prog (41 : FuncId) (12 : Nat) = rangeAs Try.prog (41 :
  FuncId) (12 : Nat) ∧ rangeBody Try.prog (41 : FuncId) (12 : Nat) = rangeBody Try.prog (41 : FuncId) (12 : Nat) ∧ ∃ (l_1 : List (List Int)), (WkL (List.flatMap
  Ell.f out) (List.flatMap Ell.f l_1) ∧ out.length = l_1.length ∧ (1 : Nat) = (1 : Nat)) ∧ ∃ (l_2 : List Int), Wk (AV.vs (List.flatMap Ei32.f l) l.length
  l.length false none (1 : Nat)) (lst Ei32 l_2) ∧ true = true ∧ R0 (((), (), (), i, ()), ((), ()), (), (out, ()), (l, ()), (n, ()), (), ()) () (((), ()), (),
  (l_1, ()), (l_2, ()), (n, ()), (), ())) ∨ True ∧ True ∧ [(48 : Nat)] = [(48 : Nat)] ∧ rangeAs Try.prog (41 : FuncId) (12 : Nat) = rangeAs Try.prog (41 :
  FuncId) (12 : Nat) ∧ rangeBody Try.prog (41 : FuncId) (12 : Nat) = rangeBody Try.prog (41 : FuncId) (12 : Nat) ∧ False)) := by kernel_rfl

theorem rdvForm0 (i : Int) (l : List Int) (n : Int) (N : rdvZ → Prop) (R0 : rdvZ → (Unit) → ((Unit × Unit) × Unit × ((List (List Int)) × Unit) × ((List Int) × Unit) × (Int × Unit) × Unit × Unit) → Prop) (R1 : rdvZ → (Unit) → ((Unit × Unit) × Unit × (Unit × Unit) × ((List Int) × Unit) × (Int × Unit) × Unit) → Prop) : ((runW Try.prog (KL [(67, clone32K)] []) 100).code none 89 31 (loopBody Try.prog 89 1) (mkT (rdvSl0.av id ((), ((), ((), (i, ())))))) [] (stL true (rdvBl0.obs id (((), ()), ((), (((), ()), ((l, ()), ((n, ()), ()))))))) (postL 5 rdvFs (rdvAlts R0 R1) (rdvZ0 ((), ((), ((), (i, ())))) (((), ()), ((), (((), ()), ((l, ()), ((n, ()), ())))))) N)) =
  ( ifp (!leInt (Int.ofNat l.length) i) ((0 : Int) ≤ i ∧ i ≤ ↑l.length ∧ l.length ≤ l.length ∧ (List.flatMap Ei32.f l).length = l.length.mul (1 : Nat) ∧ True ∧ True
  ∧ True ∧ True ∧ (0 : Int) ≤ wrapF IntKind.i64 (i.add (ifb (leInt n (Int.ofNat (l.length.sub (natOf i)))) n (Int.ofNat (l.length.sub (natOf i))))) ∧ wrapF
  IntKind.i64 (i.add (ifb (leInt n (Int.ofNat (l.length.sub (natOf i)))) n (Int.ofNat (l.length.sub (natOf i))))) ≤ ↑l.length ∧ (0 : Int) ≤ wrapF IntKind.i64
  (i.add (ifb (leInt n (Int.ofNat (l.length.sub (natOf i)))) n (Int.ofNat (l.length.sub (natOf i))))) ∧ wrapF IntKind.i64 (i.add (ifb (leInt n (Int.ofNat
  (l.length.sub (natOf i)))) n (Int.ofNat (l.length.sub (natOf i))))) ≤ ↑(natOf (wrapF IntKind.i64 (i.add (ifb true (ifb (leInt n (Int.ofNat (l.length.sub (natOf
  i)))) n (Int.ofNat (l.length.sub (natOf i)))) (ifb (leInt (Int.ofNat (l.length.sub (natOf i))) n) n (Int.ofNat (l.length.sub (natOf i)))))))) ∧ (0 : Int) ≤ i ∧
  i ≤ ↑(natOf (wrapF IntKind.i64 (i.add (ifb true (ifb (leInt n (Int.ofNat (l.length.sub (natOf i)))) n (Int.ofNat (l.length.sub (natOf i)))) (ifb (leInt
  (Int.ofNat (l.length.sub (natOf i))) n) n (Int.ofNat (l.length.sub (natOf i)))))))) ∧ natOf (wrapF IntKind.i64 (i.add (ifb true (ifb (leInt n (Int.ofNat
  (l.length.sub (natOf i)))) n (Int.ofNat (l.length.sub (natOf i)))) (ifb (leInt (Int.ofNat (l.length.sub (natOf i))) n) n (Int.ofNat (l.length.sub (natOf
  i))))))) ≤ l.length ∧ (List.flatMap Ei32.f l).length = l.length.mul (1 : Nat) ∧ ∃ (l_1 : List Int), Wk (AV.vs (List.take (((natOf (wrapF IntKind.i64 (i.add
  (ifb true (ifb (leInt n (Int.ofNat (l.length.sub (natOf i)))) n (Int.ofNat (l.length.sub (natOf i)))) (ifb (leInt (Int.ofNat (l.length.sub (natOf i))) n) n
  (Int.ofNat (l.length.sub (natOf i)))))))).sub (natOf i)).mul (1 : Nat)) (List.drop ((natOf i).mul (1 : Nat)) (List.flatMap Ei32.f l))) ((natOf (wrapF
  IntKind.i64 (i.add (ifb true (ifb (leInt n (Int.ofNat (l.length.sub (natOf i)))) n (Int.ofNat (l.length.sub (natOf i)))) (ifb (leInt (Int.ofNat (l.length.sub
  (natOf i))) n) n (Int.ofNat (l.length.sub (natOf i)))))))).sub (natOf i)) ((natOf (wrapF IntKind.i64 (i.add (ifb true (ifb (leInt n (Int.ofNat (l.length.sub
  (natOf i)))) n (Int.ofNat (l.length.sub (natOf i)))) (ifb (leInt (Int.ofNat (l.length.sub (natOf i))) n) n (Int.ofNat (l.length.sub (natOf i)))))))).sub (natOf
  i)) (mxEx (some (AV.int IntKind.i64 (wrapF IntKind.i64 (i.add (ifb true (ifb (leInt n (Int.ofNat (l.length.sub (natOf i)))) n (Int.ofNat (l.length.sub (natOf
  i)))) (ifb (leInt (Int.ofNat (l.length.sub (natOf i))) n) n (Int.ofNat (l.length.sub (natOf i))))))))) false) none (1 : Nat)) (lst Ei32 l_1) ∧ true = true ∧
  clone32Pre ((l_1, ()), ()) ∧ (∀ (c : List Int × Unit) (d : Unit × Unit), clone32R0 ((l_1, ()), ()) c d → (1 : Nat) ≤ (1 : Nat) ∧ (AV.nilSlice = AV.nilSlice ∧
  True) ∧ True ∧ ((True ∧ [(48 : Nat)] = [(48 : Nat)] ∧ rangeAs Try.prog (41 : FuncId) (12 : Nat) = rangeAs Try.prog (41 : FuncId) (12 : Nat) ∧ rangeBody
  Try.prog (41 : FuncId) (12 : Nat) = rangeBody Try.prog (41 : FuncId) (12 : Nat) ∧ ∃ (l_2 : List (List Int)), (WkL [AV.vs (List.flatMap Ei32.f c.1) c.1.length
  c.1.length false (some (18 : Nat)) (1 : Nat)] (List.flatMap Ell.f l_2) ∧ (1 : Nat) = l_2.length ∧ (1 : Nat) = (1 : Nat)) ∧ ∃ (l_3 : List Int), Wk (AV.vs
  (List.flatMap Ei32.f l) l.length l.length false none (1 : Nat)) (lst Ei32 l_3) ∧ true = true ∧ N (((), (), (), wrapF IntKind.i64 (i.add n), ()), ((), ()), (),
  (l_2, ()), (l_3, ()), (n, ()), (), ())) ∨ True ∧ [(48 : Nat)] = [(48 : Nat)] ∧ rangeAs Try.prog (41 : FuncId) (12 : Nat) = rangeAs Try.prog (41 : FuncId) (12 :
  Nat) ∧ rangeBody Try.prog (41 : FuncId) (12 : Nat) = rangeBody Try.prog (41 : FuncId) (12 : Nat) ∧ False)) ∧ True) (True ∧ True ∧ [(48 : Nat)] = [(48 : Nat)] ∧
  rangeAs Try.prog (41 : FuncId) (12 : Nat) = rangeAs Try.prog (41 : FuncId) (12 : Nat) ∧ rangeBody Try.prog (41 : FuncId) (12 : Nat) = rangeBody Try.prog (41 :
  FuncId) (12 : Nat) ∧ False ∨ True ∧ True ∧ [(48 : Nat)] = [(48 : Nat)] ∧ rangeAs Try.prog (41 : FuncId) (12 : Nat) = rangeAs Try.prog (41 : FuncId) (12 : Nat)
  ∧ rangeBody Try.prog (41 : FuncId) (12 : Nat) = rangeBody Try.prog (41 : FuncId) (12 : Nat) ∧ ∃ (l_1 : List Int), Wk (AV.vs (List.flatMap Ei32.f l) l.length
  l.length false none (1 : Nat)) (lst Ei32 l_1) ∧ true = true ∧ R1 (((), (), (), i, ()), ((), ()), (), ([], ()), (l, ()), (n, ()), (), ()) () (((), ()), (), ((),
  ()), (l_1, ()), (n, ()), ()))) := by kernel_rfl

def rdvInv : rdvZ → Prop := fun (((), ((), ((), (i, ())))), (((), ()), ((), ((out, ()), ((l, ()), ((n, ()), ((), ()))))))) => ∃ k c d : Nat, i = (k * d : Nat) ∧ n = d ∧ l.length = c * d ∧ k ≤ c ∧ c ≤ 4096 ∧ 1 ≤ d ∧ d ≤ 1024 ∧ out = (List.range k).map (chunkAt d l)
def rdvMu : rdvZ → Nat := fun (((), ((), ((), (i, ())))), (((), ()), ((), ((out, ()), ((l, ()), ((n, ()), ((), ()))))))) => l.length - i.toNat
def rdvR0 : rdvZ → (Unit) → ((Unit × Unit) × Unit × ((List (List Int)) × Unit) × ((List Int) × Unit) × (Int × Unit) × Unit × Unit) → Prop := fun (((), ((), ((), (i, ())))), (((), ()), ((), ((out, ()), ((l, ()), ((n, ()), ((), ()))))))) _ (_, _, (r, _), _) => r = (List.range (l.length / n.toNat)).map (chunkAt n.toNat l)
def rdvR1 : rdvZ → (Unit) → ((Unit × Unit) × Unit × (Unit × Unit) × ((List Int) × Unit) × (Int × Unit) × Unit) → Prop := fun (((), ((), ((), (i, ())))), (((), ()), ((), ((out, ()), ((l, ()), ((n, ()), ((), ()))))))) _ _ => l = []
noncomputable def rdvC : LoopC := loopC 5 rdvFs (rdvAlts rdvR0 rdvR1) rdvInv

theorem rdvStep : stepsOk Try.prog (KL [(67, clone32K)] []) 100 89 31 (loopBody Try.prog 89 1) 5 true rdvFs (rdvAlts rdvR0 rdvR1) rdvInv rdvMu ⟨_, _, rdvSl, rdvBl, fun x y => (x, y)⟩ := by
  intro x y hz
  obtain ⟨_, _, _, i, _⟩ := x
  obtain ⟨⟨_, _⟩, _, ⟨out, _⟩, ⟨l, _⟩, ⟨n, _⟩, _, _⟩ := y
  refine (rdvForm i out l n _ _ _).mpr ?_
  obtain ⟨k, c, d, rfl, rfl, hb, hk, hc, h1, hd, rfl⟩ := hz
  have hbig := big_mul hc hd
  rw [ifp_lt]
  simp only [natOf_nat, ifb_true]
  split
  · rename_i h
    have hkc : k < c := lt_mul_of h1 (by simp at h; omega)
    have hp : k * d + d ≤ l.length := by rw [hb]; exact le_mul_of hkc
    simp only [chunk_end hp (by omega), natOf_nat]
    repeat (first
      | (refine And.intro trivial ?_)
      | (refine And.intro (Nat.le_refl _) ?_)
      | (refine And.intro (Enc.flen _ _) ?_)
      | (refine And.intro (by omega) ?_))
    refine ⟨chunkAt d l k, (chunk_wk (E := Ei32) rfl).resolve_right (by omega), by first | trivial | rfl, ⟨by rw [chunkAt_len hp]; omega, by rw [chunkAt_len hp]; omega⟩, fun x _ hr => ⟨Nat.le_refl _, ?_⟩, trivial⟩
    have hr' : x.1 = chunkAt d l k := hr
    rw [ifp_pos (roomy_small (by simp only [Nat.add_eq, List.length_map, List.length_range]; omega) (by decide)), chunk_add (by omega), hr']
    refine ⟨⟨by first | trivial | rfl, trivial⟩, trivial, Or.inl ⟨trivial, by first | trivial | rfl, by first | trivial | rfl, by first | trivial | rfl, (List.range (k + 1)).map (chunkAt d l), ⟨?_, ?_, by first | trivial | rfl⟩, l, Wk.refl _, by first | trivial | rfl, ?_⟩⟩
    · rw [range_succ_map]; exact wkl_snoc ⟨wk_of_own, trivial⟩
    · rw [range_succ_map]; exact len_snoc
    · exact ⟨⟨k + 1, c, d, by rw [Nat.succ_mul], rfl, hb, hkc, hc, h1, hd, rfl⟩, by show l.length - (k * d + d) < l.length - k * d; omega, fun _ _ h => h, fun _ _ h => h, trivial⟩
  · rename_i h
    have hkc : k = c := by
      refine Nat.le_antisymm hk (Nat.le_of_not_lt fun hlt => ?_)
      have := le_mul_of (d := d) hlt
      simp at h; omega
    refine Or.inl ⟨trivial, trivial, by first | trivial | rfl, by first | trivial | rfl, by first | trivial | rfl, _, ⟨WkL.refl _, by first | trivial | rfl, by first | trivial | rfl⟩, l, Wk.refl _, by first | trivial | rfl, ?_⟩
    show (List.range k).map (chunkAt d l) = (List.range (l.length / d)).map (chunkAt d l)
    rw [hb, hkc, Nat.mul_div_cancel _ h1]
theorem rdvStep0 : stepsOk Try.prog (KL [(67, clone32K)] []) 100 89 31 (loopBody Try.prog 89 1) 5 true rdvFs (rdvAlts rdvR0 rdvR1) rdvInv rdvMu ⟨_, _, rdvSl0, rdvBl0, rdvZ0⟩ := by
  intro x y hz
  obtain ⟨_, _, _, i, _⟩ := x
  obtain ⟨⟨_, _⟩, _, ⟨_, _⟩, ⟨l, _⟩, ⟨n, _⟩, _⟩ := y
  refine (rdvForm0 i l n _ _ _).mpr ?_
  obtain ⟨k, c, d, rfl, rfl, hb, hk, hc, h1, hd, h0⟩ := hz
  have hk0 : k = 0 := by have := congrArg List.length h0; simpa using this.symm
  subst hk0
  have hbig := big_mul hc hd
  rw [ifp_lt]
  simp only [natOf_nat, ifb_true]
  split
  · rename_i h
    have hkc : 0 < c := lt_mul_of h1 (by simp only [Int.ofNat_eq_natCast] at h; omega)
    have hp : 0 * d + d ≤ l.length := by rw [hb]; exact le_mul_of hkc
    simp only [chunk_end hp (by omega), natOf_nat]
    repeat (first
      | (refine And.intro trivial ?_)
      | (refine And.intro (Nat.le_refl _) ?_)
      | (refine And.intro (Enc.flen _ _) ?_)
      | (refine And.intro (by omega) ?_))
    refine ⟨chunkAt d l 0, (chunk_wk (E := Ei32) rfl).resolve_right (by omega), by first | trivial | rfl, ⟨by rw [chunkAt_len hp]; omega, by rw [chunkAt_len hp]; omega⟩, fun x _ hr => ⟨Nat.le_refl _, ?_⟩, trivial⟩
    have hr' : x.1 = chunkAt d l 0 := hr
    rw [chunk_add (by omega), hr']
    refine ⟨⟨by first | trivial | rfl, trivial⟩, trivial, Or.inl ⟨trivial, by first | trivial | rfl, by first | trivial | rfl, by first | trivial | rfl, [chunkAt d l 0], ⟨wkl_one ⟨wk_of_own, trivial⟩, by first | trivial | rfl, by first | trivial | rfl⟩, l, Wk.refl _, by first | trivial | rfl, ?_⟩⟩
    exact ⟨⟨1, c, d, by rw [Nat.zero_mul, Nat.zero_add, Nat.one_mul], rfl, hb, hkc, hc, h1, hd, rfl⟩, by show l.length - (0 * d + d) < l.length - 0 * d; omega, fun _ _ h => h, fun _ _ h => h, trivial⟩
  · rename_i h
    have hkc : l.length = 0 := by simp only [Int.ofNat_eq_natCast] at h; omega
    refine Or.inr ⟨trivial, trivial, by first | trivial | rfl, by first | trivial | rfl, by first | trivial | rfl, l, Wk.refl _, by first | trivial | rfl, ?_⟩
    exact List.length_eq_zero_iff.1 hkc
theorem rdvOk : LoopOk Try.prog 89 31 (.loop (loopBody Try.prog 89 1)) rdvC := loop_ok rdvMu mixed (KL_ok (cc_cons clone32Cc (cc_nil))) rfl (steps_cons rdvStep (steps_cons rdvStep0 (steps_nil)))

end Go.Proofs.Ytfcdpdejoogapaa
