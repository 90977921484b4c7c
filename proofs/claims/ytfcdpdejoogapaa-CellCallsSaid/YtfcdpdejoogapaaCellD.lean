/- Forms and contracts, printed by gx.py. -/
import Derived.Test.YtfcdpdejoogapaaRows
import Derived.Test.YtfcdpdejoogapaaDvUse
import Derived.Test.YtfcdpdejoogapaaDvArg
import Derived.ProofKit
import Derived.Test.YtfcdpdejoogapaaBase
import Derived.Test.YtfcdpdejoogapaaCell
import Derived.Test.YtfcdpdejoogapaaCellB
import Derived.Test.YtfcdpdejoogapaaCellC
import Derived.Test.YtfcdpdejoogapaaSort
import Derived.Test.YtfcdpdejoogapaaDvSort
import Derived.Test.YtfcdpdejoogapaaDvHp
import Derived.Test.YtfcdpdejoogapaaRank
import Derived.Test.YtfcdpdejoogapaaDvStab
namespace Go.Proofs.Ytfcdpdejoogapaa
open Go.Det Go.RowKit
set_option linter.unusedVariables false
set_option linter.unusedSimpArgs false
set_option maxRecDepth 100000
def farF (c : List (List Int)) (v : List Int) (i : Nat) : Near := (distD (c.getD i []) v, (i : Int), ())
def farL (c : List (List Int)) (v : List Int) (k : Nat) : List Near := (List.range k).map (farF c v)
theorem farL_len (c : List (List Int)) (v : List Int) (k : Nat) : (farL c v k).length = k := by simp [farL]
theorem farL_snoc {c : List (List Int)} {v : List Int} {k : Nat} (h : k < c.length) : farL c v (k + 1) = farL c v k ++ [(distD c[k] v, (k : Int), ())] := by
  rw [farL, List.range_succ, List.map_append]
  show _ = List.map _ _ ++ _
  simp [farF, h]

/-! The loop rchk1 of wayfinder/wayfinderref13.Check. -/
abbrev rchk1Z := ((List (List Int)) × Int × Unit) × (Unit)
noncomputable def rchk1Sl : Tel ((List (List Int)) × Int × Unit) := .cons 0 (.lst Ell) (.cons 3 (.int .i64) (.nil))
noncomputable def rchk1Bl : BTel (Unit) := .nil
noncomputable def rchk1Fs : List (LForm rchk1Z) := [⟨_, _, rchk1Sl, rchk1Bl, fun x y => (x, y)⟩]
noncomputable def rchk1Alts (R0 : rchk1Z → ((List (List Int)) × Unit) → (Unit) → Prop) (R1 : rchk1Z → (Int × Unit) → (Unit) → Prop) : List (Alt rchk1Z) := [⟨.exit 0, (List (List Int)) × Unit, Unit, .cons 0 (.lst Ell) (.nil), .nil, R0⟩, ⟨.ret, Int × Unit, Unit, .cons 2 (.int .i64) (.nil), .nil, R1⟩]

theorem rchk1Form (l : List (List Int)) (i : Int) (N : rchk1Z → Prop) (R0 : rchk1Z → ((List (List Int)) × Unit) → (Unit) → Prop) (R1 : rchk1Z → (Int × Unit) → (Unit) → Prop) : ((runW Try.prog (KL [(73, rcwK)] []) 100).code none 44 44 (loopBody Try.prog 44 4) (mkT (rchk1Sl.av id (l, (i, ())))) [] (stL false (rchk1Bl.obs id ())) (postL 0 rchk1Fs (rchk1Alts R0 R1) ((l, (i, ())), ()) N)) =
  ( ifp (!leInt (Int.ofNat l.length) i) (idxOk i l.length ∧ ∃ (l' : List AV), ∃ (n : Nat), ∃ (c : Nat), ∃ (x : Bool), ∃ (w : Option Nat), ∃ (e : Nat), nth ((natOf
  i).mul (1 : Nat)) (List.flatMap Ell.f l) = some (AV.vs l' n c x w e) ∧ ∃ (l_1 : List Int), Wk (AV.vs l' n c x w e) (lst Ei32 l_1) ∧ rcwPre (l_1, ()) ∧ ifp
  (!eqInt (cw l_1) (0 : Int)) (True ∧ true = true ∧ R1 ((l, i, ()), ()) (cw l_1, ()) ()) (True ∧ ∃ (l_2 : List (List Int)), Wk (AV.vs (List.flatMap Ell.f l)
  l.length l.length false none (1 : Nat)) (lst Ell l_2) ∧ true = true ∧ N ((l_2, wrapF IntKind.i64 (i.add (1 : Int)), ()), ()))) (True ∧ ∃ (l_1 : List (List
  Int)), Wk (AV.vs (List.flatMap Ell.f l) l.length l.length false none (1 : Nat)) (lst Ell l_1) ∧ true = true ∧ R0 ((l, i, ()), ()) (l_1, ()) ())) := by kernel_rfl

def rchk1Inv : rchk1Z → Prop := fun ((l, (i, ())), ()) => ∃ k : Nat, i = k ∧ k ≤ l.length ∧ l.length ≤ 4096 ∧ (l.take k).all (fun v => decide (cw v = 0)) = true
def rchk1Mu : rchk1Z → Nat := fun ((l, (i, ())), ()) => l.length - i.toNat
def rchk1R0 : rchk1Z → ((List (List Int)) × Unit) → (Unit) → Prop := fun ((l, (i, ())), ()) (l2, _) _ => l2 = l ∧ l.all (fun v => decide (cw v = 0)) = true
def rchk1R1 : rchk1Z → (Int × Unit) → (Unit) → Prop := fun ((l, (i, ())), ()) (r, _) _ => ∃ k : Nat, ∃ h : k < l.length, (l.take k).all (fun v => decide (cw v = 0)) = true ∧ r = cw l[k] ∧ r ≠ 0
noncomputable def rchk1C : LoopC := loopC 0 rchk1Fs (rchk1Alts rchk1R0 rchk1R1) rchk1Inv

theorem rchk1Step : stepsOk Try.prog (KL [(73, rcwK)] []) 100 44 44 (loopBody Try.prog 44 4) 0 false rchk1Fs (rchk1Alts rchk1R0 rchk1R1) rchk1Inv rchk1Mu ⟨_, _, rchk1Sl, rchk1Bl, fun x y => (x, y)⟩ := by
  intro x y hz
  obtain ⟨l, i, _⟩ := x
  obtain _ := y
  refine (rchk1Form l i _ _ _).mpr ?_
  obtain ⟨k, rfl, hk, hl, ht⟩ := hz
  rw [ifp_lt]
  simp only [natOf_nat]
  split
  · rename_i h
    have hkl : k < l.length := by simpa using h
    repeat (first
      | (refine ⟨Nat.le_refl _, ?_⟩)
      | (rw [ifp_pos (roomy_small (by simp only [Nat.add_eq]; omega) (by decide))])
      | (refine ⟨trivial, ?_⟩)
      | (refine ⟨(rfl : true = true), ?_⟩)
      | (refine ⟨idx_ok (by omega), ?_⟩)
      | (refine ⟨idx_ok0 (by omega), ?_⟩)
      | (refine ⟨_, nth_int (by omega), ?_⟩)
      | (refine ⟨_, _, _, _, _, _, nth_lst (by omega), ?_⟩)
      | (refine ⟨_, _, _, _, _, _, nth_lst0 (by omega), ?_⟩)
      | (refine ⟨_, Wk.refl _, ?_⟩)
      | (rw [ifp_pos rfl])
      | (refine ⟨(rfl : (_ : List Nat) = _), ?_⟩)
      | (refine ⟨(rfl : (_ : Code) = _), ?_⟩))
    rw [ifp_ne]
    split
    · rename_i h2
      repeat (first
        | (refine ⟨Nat.le_refl _, ?_⟩)
        | (rw [ifp_pos (roomy_small (by simp only [Nat.add_eq]; omega) (by decide))])
        | (refine ⟨trivial, ?_⟩)
        | (refine ⟨(rfl : true = true), ?_⟩)
        | (refine ⟨idx_ok (by omega), ?_⟩)
        | (refine ⟨idx_ok0 (by omega), ?_⟩)
        | (refine ⟨_, nth_int (by omega), ?_⟩)
        | (refine ⟨_, _, _, _, _, _, nth_lst (by omega), ?_⟩)
        | (refine ⟨_, _, _, _, _, _, nth_lst0 (by omega), ?_⟩)
        | (refine ⟨_, Wk.refl _, ?_⟩)
        | (rw [ifp_pos rfl])
        | (refine ⟨(rfl : (_ : List Nat) = _), ?_⟩)
        | (refine ⟨(rfl : (_ : Code) = _), ?_⟩))
      rw [wsucc (by omega)]
      refine ⟨⟨k + 1, rfl, hkl, hl, ?_⟩, ?_, fun _ _ h => h, fun _ _ h => h, trivial⟩
      · rw [all_take_succ hkl, ht, h2]; rfl
      · show l.length - (k + 1) < l.length - k; omega
    · rename_i h2
      repeat (first
        | (refine ⟨Nat.le_refl _, ?_⟩)
        | (rw [ifp_pos (roomy_small (by simp only [Nat.add_eq]; omega) (by decide))])
        | (refine ⟨trivial, ?_⟩)
        | (refine ⟨(rfl : true = true), ?_⟩)
        | (refine ⟨idx_ok (by omega), ?_⟩)
        | (refine ⟨idx_ok0 (by omega), ?_⟩)
        | (refine ⟨_, nth_int (by omega), ?_⟩)
        | (refine ⟨_, _, _, _, _, _, nth_lst (by omega), ?_⟩)
        | (refine ⟨_, _, _, _, _, _, nth_lst0 (by omega), ?_⟩)
        | (refine ⟨_, Wk.refl _, ?_⟩)
        | (rw [ifp_pos rfl])
        | (refine ⟨(rfl : (_ : List Nat) = _), ?_⟩)
        | (refine ⟨(rfl : (_ : Code) = _), ?_⟩))
      exact ⟨k, hkl, ht, rfl, h2⟩
  · rename_i h
    repeat (first
      | (refine ⟨Nat.le_refl _, ?_⟩)
      | (rw [ifp_pos (roomy_small (by simp only [Nat.add_eq]; omega) (by decide))])
      | (refine ⟨trivial, ?_⟩)
      | (refine ⟨(rfl : true = true), ?_⟩)
      | (refine ⟨idx_ok (by omega), ?_⟩)
      | (refine ⟨idx_ok0 (by omega), ?_⟩)
      | (refine ⟨_, nth_int (by omega), ?_⟩)
      | (refine ⟨_, _, _, _, _, _, nth_lst (by omega), ?_⟩)
      | (refine ⟨_, _, _, _, _, _, nth_lst0 (by omega), ?_⟩)
      | (refine ⟨_, Wk.refl _, ?_⟩)
      | (rw [ifp_pos rfl])
      | (refine ⟨(rfl : (_ : List Nat) = _), ?_⟩)
      | (refine ⟨(rfl : (_ : Code) = _), ?_⟩))
    rw [take_all (by simpa using h)] at ht; exact ⟨rfl, ht⟩
theorem rchk1Ok : LoopOk Try.prog 44 44 (.loop (loopBody Try.prog 44 4)) rchk1C := loop_ok rchk1Mu mixed (KL_ok (cc_cons rcwCc (cc_nil))) rfl (steps_cons rchk1Step (steps_nil))

/-! The loop rchk2 of wayfinder/wayfinderref13.Check. -/
abbrev rchk2Z := ((List (List Int)) × Int × Unit) × (Unit)
noncomputable def rchk2Sl : Tel ((List (List Int)) × Int × Unit) := .cons 0 (.lst Ell) (.cons 5 (.int .i64) (.nil))
noncomputable def rchk2Bl : BTel (Unit) := .nil
noncomputable def rchk2Fs : List (LForm rchk2Z) := [⟨_, _, rchk2Sl, rchk2Bl, fun x y => (x, y)⟩]
noncomputable def rchk2Alts (R0 : rchk2Z → (Unit) → (Unit) → Prop) (R1 : rchk2Z → (Int × Unit) → (Unit) → Prop) : List (Alt rchk2Z) := [⟨.exit 2, Unit, Unit, .nil, .nil, R0⟩, ⟨.ret, Int × Unit, Unit, .cons 2 (.int .i64) (.nil), .nil, R1⟩]

theorem rchk2Form (l : List (List Int)) (i : Int) (N : rchk2Z → Prop) (R0 : rchk2Z → (Unit) → (Unit) → Prop) (R1 : rchk2Z → (Int × Unit) → (Unit) → Prop) : ((runW Try.prog (KL [] []) 100).code none 44 44 (loopBody Try.prog 44 10) (mkT (rchk2Sl.av id (l, (i, ())))) [] (stL false (rchk2Bl.obs id ())) (postL 0 rchk2Fs (rchk2Alts R0 R1) ((l, (i, ())), ()) N)) =
  ( ifp (!leInt (Int.ofNat l.length) i) (idxOk i l.length ∧ ∃ (l' : List AV), ∃ (n : Nat), ∃ (c : Nat), ∃ (x : Bool), ∃ (w : Option Nat), ∃ (e : Nat), nth ((natOf
  i).mul (1 : Nat)) (List.flatMap Ell.f l) = some (AV.vs l' n c x w e) ∧ idxOk (0 : Int) l.length ∧ ∃ (l' : List AV), ∃ (n_1 : Nat), ∃ (c : Nat), ∃ (x : Bool), ∃
  (w : Option Nat), ∃ (e : Nat), nth (0 : Nat) (List.flatMap Ell.f l) = some (AV.vs l' n_1 c x w e) ∧ ifp (!eqInt (Int.ofNat n) (Int.ofNat n_1)) (True ∧ True ∧
  True ∧ True ∧ True ∧ true = true ∧ R1 ((l, i, ()), ()) ((2 : Int), ()) ()) (True ∧ True ∧ True ∧ True ∧ True ∧ ∃ (l_1 : List (List Int)), Wk (AV.vs
  (List.flatMap Ell.f l) l.length l.length false none (1 : Nat)) (lst Ell l_1) ∧ true = true ∧ N ((l_1, wrapF IntKind.i64 (i.add (1 : Int)), ()), ()))) (True ∧
  true = true ∧ R0 ((l, i, ()), ()) () ())) := by kernel_rfl

def rchk2Inv : rchk2Z → Prop := fun ((l, (i, ())), ()) => ∃ k : Nat, i = k ∧ k ≤ l.length ∧ l.length ≤ 4096 ∧ (l.take k).any (fun v => decide (v.length ≠ (l.headD []).length)) = false
def rchk2Mu : rchk2Z → Nat := fun ((l, (i, ())), ()) => l.length - i.toNat
def rchk2R0 : rchk2Z → (Unit) → (Unit) → Prop := fun ((l, (i, ())), ()) _ _ => l.any (fun v => decide (v.length ≠ (l.headD []).length)) = false
def rchk2R1 : rchk2Z → (Int × Unit) → (Unit) → Prop := fun ((l, (i, ())), ()) (r, _) _ => r = 2 ∧ l.any (fun v => decide (v.length ≠ (l.headD []).length)) = true
noncomputable def rchk2C : LoopC := loopC 0 rchk2Fs (rchk2Alts rchk2R0 rchk2R1) rchk2Inv

theorem rchk2Step : stepsOk Try.prog (KL [] []) 100 44 44 (loopBody Try.prog 44 10) 0 false rchk2Fs (rchk2Alts rchk2R0 rchk2R1) rchk2Inv rchk2Mu ⟨_, _, rchk2Sl, rchk2Bl, fun x y => (x, y)⟩ := by
  intro x y hz
  obtain ⟨l, i, _⟩ := x
  obtain _ := y
  refine (rchk2Form l i _ _ _).mpr ?_
  obtain ⟨k, rfl, hk, hl, ht⟩ := hz
  rw [ifp_lt]
  simp only [natOf_nat]
  split
  · rename_i h
    have hkl : k < l.length := by simpa using h
    repeat (first
      | (refine ⟨Nat.le_refl _, ?_⟩)
      | (rw [ifp_pos (roomy_small (by simp only [Nat.add_eq]; omega) (by decide))])
      | (refine ⟨trivial, ?_⟩)
      | (refine ⟨(rfl : true = true), ?_⟩)
      | (refine ⟨idx_ok (by omega), ?_⟩)
      | (refine ⟨idx_ok0 (by omega), ?_⟩)
      | (refine ⟨_, nth_int (by omega), ?_⟩)
      | (refine ⟨_, _, _, _, _, _, nth_lst (by omega), ?_⟩)
      | (refine ⟨_, _, _, _, _, _, nth_lst0 (by omega), ?_⟩)
      | (refine ⟨_, Wk.refl _, ?_⟩)
      | (rw [ifp_pos rfl])
      | (refine ⟨(rfl : (_ : List Nat) = _), ?_⟩)
      | (refine ⟨(rfl : (_ : Code) = _), ?_⟩))
    rw [ifp_ne]
    split
    · rename_i h2
      repeat (first
        | (refine ⟨Nat.le_refl _, ?_⟩)
        | (rw [ifp_pos (roomy_small (by simp only [Nat.add_eq]; omega) (by decide))])
        | (refine ⟨trivial, ?_⟩)
        | (refine ⟨(rfl : true = true), ?_⟩)
        | (refine ⟨idx_ok (by omega), ?_⟩)
        | (refine ⟨idx_ok0 (by omega), ?_⟩)
        | (refine ⟨_, nth_int (by omega), ?_⟩)
        | (refine ⟨_, _, _, _, _, _, nth_lst (by omega), ?_⟩)
        | (refine ⟨_, _, _, _, _, _, nth_lst0 (by omega), ?_⟩)
        | (refine ⟨_, Wk.refl _, ?_⟩)
        | (rw [ifp_pos rfl])
        | (refine ⟨(rfl : (_ : List Nat) = _), ?_⟩)
        | (refine ⟨(rfl : (_ : Code) = _), ?_⟩))
      rw [wsucc (by omega)]
      refine ⟨⟨k + 1, rfl, hkl, hl, ?_⟩, ?_, fun _ _ h => h, fun _ _ h => h, trivial⟩
      · rw [any_take_succ hkl, ht, ← head_get (by omega)]; simp; simp at h2; omega
      · show l.length - (k + 1) < l.length - k; omega
    · rename_i h2
      repeat (first
        | (refine ⟨Nat.le_refl _, ?_⟩)
        | (rw [ifp_pos (roomy_small (by simp only [Nat.add_eq]; omega) (by decide))])
        | (refine ⟨trivial, ?_⟩)
        | (refine ⟨(rfl : true = true), ?_⟩)
        | (refine ⟨idx_ok (by omega), ?_⟩)
        | (refine ⟨idx_ok0 (by omega), ?_⟩)
        | (refine ⟨_, nth_int (by omega), ?_⟩)
        | (refine ⟨_, _, _, _, _, _, nth_lst (by omega), ?_⟩)
        | (refine ⟨_, _, _, _, _, _, nth_lst0 (by omega), ?_⟩)
        | (refine ⟨_, Wk.refl _, ?_⟩)
        | (rw [ifp_pos rfl])
        | (refine ⟨(rfl : (_ : List Nat) = _), ?_⟩)
        | (refine ⟨(rfl : (_ : Code) = _), ?_⟩))
      exact ⟨rfl, any_of_get hkl (by rw [← head_get (by omega)]; simp; simp at h2; omega)⟩
  · rename_i h
    repeat (first
      | (refine ⟨Nat.le_refl _, ?_⟩)
      | (rw [ifp_pos (roomy_small (by simp only [Nat.add_eq]; omega) (by decide))])
      | (refine ⟨trivial, ?_⟩)
      | (refine ⟨(rfl : true = true), ?_⟩)
      | (refine ⟨idx_ok (by omega), ?_⟩)
      | (refine ⟨idx_ok0 (by omega), ?_⟩)
      | (refine ⟨_, nth_int (by omega), ?_⟩)
      | (refine ⟨_, _, _, _, _, _, nth_lst (by omega), ?_⟩)
      | (refine ⟨_, _, _, _, _, _, nth_lst0 (by omega), ?_⟩)
      | (refine ⟨_, Wk.refl _, ?_⟩)
      | (rw [ifp_pos rfl])
      | (refine ⟨(rfl : (_ : List Nat) = _), ?_⟩)
      | (refine ⟨(rfl : (_ : Code) = _), ?_⟩))
    rw [take_all (by simpa using h)] at ht; exact ht
theorem rchk2Ok : LoopOk Try.prog 44 44 (.loop (loopBody Try.prog 44 10)) rchk2C := loop_ok rchk2Mu mixed (KL_ok (cc_nil)) rfl (steps_cons rchk2Step (steps_nil))

/-! wayfinder/wayfinderref13.Check -/
noncomputable def rcheckT : Tel ((List (List Int)) × Unit) := .cons 0 (.lst Ell) (.nil)

theorem rcheckFn (c : List (List Int)) (Q : AV → Prop) : (callW Try.prog (runW Try.prog (KL [(73, rcwK)] [(44, [(4, rchk1C), (10, rchk2C)])]) 200) 44 (rcheckT.cells id (c, ())) (stE false) (fun x st => frzW st x Q)) =
  ( ifp (!leInt (1 : Int) (Int.ofNat c.length)) (Q (AV.int IntKind.i64 (2 : Int))) (ifp (!leInt (Int.ofNat c.length) (4096 : Int)) (Q (AV.int IntKind.i64 (2 :
  Int))) (LoopOk Try.prog (44 : FuncId) (44 : Nat) (loopBody Try.prog (44 : FuncId) (4 : Nat)).loop rchk1C ∧ True ∧ True ∧ ∃ (l : List (List Int)), Wk (AV.vs
  (List.flatMap Ell.f c) c.length c.length false none (1 : Nat)) (lst Ell l) ∧ true = true ∧ rchk1Inv ((l, (0 : Int), ()), ()) ∧ (∀ (c : List (List Int) × Unit)
  (d : Unit), rchk1R0 ((l, (0 : Int), ()), ()) c d → LoopOk Try.prog (44 : FuncId) (44 : Nat) (loopBody Try.prog (44 : FuncId) (10 : Nat)).loop rchk2C ∧ True ∧
  True ∧ ∃ (l : List (List Int)), Wk (AV.vs (List.flatMap Ell.f c.1) c.1.length c.1.length false none (1 : Nat)) (lst Ell l) ∧ true = true ∧ rchk2Inv ((l, (0 :
  Int), ()), ()) ∧ (∀ (c d : Unit), rchk2R0 ((l, (0 : Int), ()), ()) c d → Q (AV.int IntKind.i64 (0 : Int))) ∧ (∀ (c : Int × Unit) (d : Unit), rchk2R1 ((l, (0 :
  Int), ()), ()) c d → Q (AV.int IntKind.i64 c.1)) ∧ True) ∧ (∀ (c : Int × Unit) (d : Unit), rchk1R1 ((l, (0 : Int), ()), ()) c d → Q (AV.int IntKind.i64 c.1)) ∧
  True))) := by kernel_rfl

def rcheckPre : (List (List Int)) × Unit → Prop := fun (c, ()) => True
noncomputable def rcheckRes : (List (List Int)) × Unit → AV := fun (c, ()) => .int .i64 (checkV c)
noncomputable def rcheckK : CallC := valC rcheckT rcheckPre rcheckRes

theorem rcheckVal (c : List (List Int)) (hp : rcheckPre (c, ())) : Val Try.prog 44 (rcheckT.cells id (c, ())) (rcheckRes (c, ())) := by
  refine Val.ofF mixed (KL_ok (cc_cons rcwCc (cc_nil))) (freesC rfl _) (rcheckFn c) ?_
  rw [ifp_lt, ifp_lt]
  split
  · rename_i h; exact tells_int (by rw [checkV, if_pos (by simp at h; omega)])
  · rename_i h
    split
    · rename_i h2; exact tells_int (by rw [checkV, if_pos (by simp at h2; omega)])
    · rename_i h2
      simp at h h2
      have hc : ¬ (c.length < 1 ∨ 4096 < c.length) := by omega
      refine ⟨rchk1Ok, trivial, trivial, c, Wk.refl _, (by first | exact trivial | exact rfl), ⟨0, rfl, by omega, by omega, by simp⟩, fun d _ hr => ?_, fun d _ hr => ?_, trivial⟩
      · obtain ⟨l2, _⟩ := d
        obtain ⟨rfl, ha⟩ := hr
        refine ⟨rchk2Ok, trivial, trivial, l2, Wk.refl _, (by first | exact trivial | exact rfl), ⟨0, rfl, by omega, by omega, by simp⟩, fun _ _ hr => ?_, fun d _ hr => ?_, trivial⟩
        · have hr' : l2.any (fun v => decide (v.length ≠ (l2.headD []).length)) = false := hr
          exact tells_int (by rw [checkV_zero hc ha, hr', if_neg (by simp)])
        · obtain ⟨r, _⟩ := d
          obtain ⟨rfl, hr'⟩ := hr
          exact tells_int (by rw [checkV_zero hc ha, if_pos hr'])
      · obtain ⟨r, _⟩ := d
        obtain ⟨k, hk, ha, rfl, hn⟩ := hr
        exact tells_int (checkV_first hc hk ha hn).symm
theorem rcheckCc : CcOk Try.prog 44 rcheckK := val_ok rfl (fun ⟨c, _⟩ h => rcheckVal c h)

/-! wayfinder/wayfinderref13.both -/
noncomputable def rboth13T : Tel ((List (List Int)) × (List Int) × Unit) := .cons 0 (.lst Ell) (.cons 1 (.lst Ei32) (.nil))

theorem rboth13Fn (c : List (List Int)) (v : List Int) (Q : AV → Prop) : (callW Try.prog (runW Try.prog (KL [(73, rcwK), (44, rcheckK)] []) 200) 60 (rboth13T.cells id (c, (v, ()))) (stE false) (fun x st => frzW st x Q)) =
  ( ∃ (l : List (List Int)), Wk (AV.vs (List.flatMap Ell.f c) c.length c.length false none (1 : Nat)) (lst Ell l) ∧ rcheckPre (l, ()) ∧ ifp (eqInt (checkV l) (0 :
  Int)) (∃ (l : List Int), Wk (AV.vs (List.flatMap Ei32.f v) v.length v.length false none (1 : Nat)) (lst Ei32 l) ∧ rcwPre (l, ()) ∧ ifp (eqInt (cw l) (0 : Int))
  (idxOk (0 : Int) c.length ∧ ∃ (l' : List AV), ∃ (n : Nat), ∃ (c_1 : Nat), ∃ (x : Bool), ∃ (w : Option Nat), ∃ (e : Nat), nth (0 : Nat) (List.flatMap Ell.f c) =
  some (AV.vs l' n c_1 x w e) ∧ ifp (!eqInt (Int.ofNat v.length) (Int.ofNat n)) (Q (AV.int IntKind.i64 (2 : Int))) (Q (AV.int IntKind.i64 (cw l)))) (Q (AV.int
  IntKind.i64 (cw l)))) (ifp (eqInt (checkV l) (0 : Int)) (idxOk (0 : Int) c.length ∧ ∃ (l' : List AV), ∃ (n : Nat), ∃ (c_1 : Nat), ∃ (x : Bool), ∃ (w : Option
  Nat), ∃ (e : Nat), nth (0 : Nat) (List.flatMap Ell.f c) = some (AV.vs l' n c_1 x w e) ∧ ifp (!eqInt (Int.ofNat v.length) (Int.ofNat n)) (Q (AV.int IntKind.i64
  (2 : Int))) (Q (AV.int IntKind.i64 (checkV l)))) (Q (AV.int IntKind.i64 (checkV l))))) := by kernel_rfl

def rboth13Pre : (List (List Int)) × (List Int) × Unit → Prop := fun (c, (v, ())) => True
noncomputable def rboth13Res : (List (List Int)) × (List Int) × Unit → AV := fun (c, (v, ())) => .int .i64 (bothV c v)
noncomputable def rboth13K : CallC := valC rboth13T rboth13Pre rboth13Res

theorem rboth13Val (c : List (List Int)) (v : List Int) (hp : rboth13Pre (c, (v, ()))) : Val Try.prog 60 (rboth13T.cells id (c, (v, ()))) (rboth13Res (c, (v, ()))) := by
  refine Val.ofF mixed (KL_ok (cc_cons rcwCc (cc_cons rcheckCc (cc_nil)))) (freesC rfl _) (rboth13Fn c v) ?_
  repeat (first
    | (refine ⟨Nat.le_refl _, ?_⟩)
    | (rw [ifp_pos (roomy_small (by simp only [Nat.add_eq]; omega) (by decide))])
    | (refine ⟨trivial, ?_⟩)
    | (refine ⟨(rfl : true = true), ?_⟩)
    | (refine ⟨idx_ok (by omega), ?_⟩)
    | (refine ⟨idx_ok0 (by omega), ?_⟩)
    | (refine ⟨_, nth_int (by omega), ?_⟩)
    | (refine ⟨_, _, _, _, _, _, nth_lst (by omega), ?_⟩)
    | (refine ⟨_, _, _, _, _, _, nth_lst0 (by omega), ?_⟩)
    | (refine ⟨_, Wk.refl _, ?_⟩)
    | (rw [ifp_pos rfl])
    | (refine ⟨(rfl : (_ : List Nat) = _), ?_⟩)
    | (refine ⟨(rfl : (_ : Code) = _), ?_⟩))
  rw [ifp_eq]
  split
  · rename_i h
    obtain ⟨h1, h2, h3, h4⟩ := checkV_inv h
    repeat (first
      | (refine ⟨Nat.le_refl _, ?_⟩)
      | (rw [ifp_pos (roomy_small (by simp only [Nat.add_eq]; omega) (by decide))])
      | (refine ⟨trivial, ?_⟩)
      | (refine ⟨(rfl : true = true), ?_⟩)
      | (refine ⟨idx_ok (by omega), ?_⟩)
      | (refine ⟨idx_ok0 (by omega), ?_⟩)
      | (refine ⟨_, nth_int (by omega), ?_⟩)
      | (refine ⟨_, _, _, _, _, _, nth_lst (by omega), ?_⟩)
      | (refine ⟨_, _, _, _, _, _, nth_lst0 (by omega), ?_⟩)
      | (refine ⟨_, Wk.refl _, ?_⟩)
      | (rw [ifp_pos rfl])
      | (refine ⟨(rfl : (_ : List Nat) = _), ?_⟩)
      | (refine ⟨(rfl : (_ : Code) = _), ?_⟩))
    rw [ifp_eq]
    split
    · rename_i h5
      repeat (first
        | (refine ⟨Nat.le_refl _, ?_⟩)
        | (rw [ifp_pos (roomy_small (by simp only [Nat.add_eq]; omega) (by decide))])
        | (refine ⟨trivial, ?_⟩)
        | (refine ⟨(rfl : true = true), ?_⟩)
        | (refine ⟨idx_ok (by omega), ?_⟩)
        | (refine ⟨idx_ok0 (by omega), ?_⟩)
        | (refine ⟨_, nth_int (by omega), ?_⟩)
        | (refine ⟨_, _, _, _, _, _, nth_lst (by omega), ?_⟩)
        | (refine ⟨_, _, _, _, _, _, nth_lst0 (by omega), ?_⟩)
        | (refine ⟨_, Wk.refl _, ?_⟩)
        | (rw [ifp_pos rfl])
        | (refine ⟨(rfl : (_ : List Nat) = _), ?_⟩)
        | (refine ⟨(rfl : (_ : Code) = _), ?_⟩))
      rw [ifp_ne]
      split
      · rename_i h6
        exact tells_int (by rw [bothV, if_neg (by simp [h]), if_neg (by simp [h5]), if_neg (by rw [← head_get h1]; simp at h6; omega)]; exact h5)
      · rename_i h6
        exact tells_int (by rw [bothV, if_neg (by simp [h]), if_neg (by simp [h5]), if_pos (by rw [← head_get h1]; simp at h6; omega)])
    · rename_i h5
      exact tells_int (by rw [bothV, if_neg (by simp [h]), if_pos h5])
  · rename_i h
    rw [ifp_eq, if_neg h]
    exact tells_int (by rw [bothV, if_pos h])
theorem rboth13Cc : CcOk Try.prog 60 rboth13K := val_ok rfl (fun ⟨c, ⟨v, _⟩⟩ h => rboth13Val c v h)

def farV (c : List (List Int)) (v : List Int) : List Near := if bothV c v = 0 then nearSort (farL c v c.length) else []
theorem near_snoc' {l : List Near} {a b : Int} : l.flatMap En.f ++ [AV.int .i64 a, AV.int .i64 b] = (l ++ [(a, b, ())]).flatMap En.f := near_snoc (x := (a, b, ()))

/-! The loop rfl of wayfinder/wayfinderref13.Far. -/
abbrev rflZ := ((List (List Int)) × (List Int) × (List Near) × Int × Unit) × (Unit × Unit)
noncomputable def rflSl : Tel ((List (List Int)) × (List Int) × (List Near) × Int × Unit) := .cons 0 (.lst Ell) (.cons 1 (.lst Ei32) (.cons 7 (.own En 0) (.cons 8 (.int .i64) (.nil))))
noncomputable def rflBl : BTel (Unit × Unit) := .cons (.spare) (.nil)
noncomputable def rflSl0 : Tel ((List (List Int)) × (List Int) × Unit × Int × Unit) := .cons 0 (.lst Ell) (.cons 1 (.lst Ei32) (.cons 7 (.nilS) (.cons 8 (.int .i64) (.nil))))
noncomputable def rflBl0 : BTel (Unit) := .nil
noncomputable def rflZ0 : ((List (List Int)) × (List Int) × Unit × Int × Unit) → (Unit) → rflZ := fun (c, (v, ((), (i, ())))) () => ((c, (v, ([], (i, ())))), ((), ()))
noncomputable def rflFs : List (LForm rflZ) := [⟨_, _, rflSl, rflBl, fun x y => (x, y)⟩, ⟨_, _, rflSl0, rflBl0, rflZ0⟩]
noncomputable def rflAlts (R0 : rflZ → ((List Near) × Unit) → (Unit × Unit) → Prop) (R1 : rflZ → (Unit × Unit) → (Unit) → Prop) : List (Alt rflZ) := [⟨.exit 0, (List Near) × Unit, Unit × Unit, .cons 7 (.own En 0) (.nil), .cons (.spare) (.nil), R0⟩, ⟨.exit 0, Unit × Unit, Unit, .cons 7 (.nilS) (.nil), .nil, R1⟩]

theorem rflForm (c : List (List Int)) (v : List Int) (out : List Near) (i : Int) (N : rflZ → Prop) (R0 : rflZ → ((List Near) × Unit) → (Unit × Unit) → Prop) (R1 : rflZ → (Unit × Unit) → (Unit) → Prop) : ((runW Try.prog (KL [(30, rdistK)] []) 100).code none 38 40 (loopBody Try.prog 38 6) (mkT (rflSl.av id (c, (v, (out, (i, ())))))) [] (stL true (rflBl.obs id ((), ()))) (postL 0 rflFs (rflAlts R0 R1) ((c, (v, (out, (i, ())))), ((), ())) N)) =
  ( ifp (!leInt (Int.ofNat c.length) i) (idxOk i c.length ∧ ∃ (l' : List AV), ∃ (n : Nat), ∃ (c_1 : Nat), ∃ (x : Bool), ∃ (w : Option Nat), ∃ (e : Nat), nth ((natOf
  i).mul (1 : Nat)) (List.flatMap Ell.f c) = some (AV.vs l' n c_1 x w e) ∧ ∃ (l : List Int), Wk (AV.vs l' n c_1 x w e) (lst Ei32 l) ∧ ∃ (l_1 : List Int), Wk
  (AV.vs (List.flatMap Ei32.f v) v.length v.length false none (1 : Nat)) (lst Ei32 l_1) ∧ rdistPre (l, l_1, ()) ∧ (2 : Nat) ≤ (2 : Nat) ∧ ifp (roomy
  (out.length.add (1 : Nat)) (16 : Nat)) (True ∧ ((∃ (l_2 : List (List Int)), Wk (AV.vs (List.flatMap Ell.f c) c.length c.length false none (1 : Nat)) (lst Ell
  l_2) ∧ ∃ (l_3 : List Int), Wk (AV.vs (List.flatMap Ei32.f v) v.length v.length false none (1 : Nat)) (lst Ei32 l_3) ∧ ∃ (l_4 : List Near), (WkL (List.flatMap
  En.f out ++ [AV.int IntKind.i64 (distD l l_1), AV.int IntKind.i64 i]) (List.flatMap En.f l_4) ∧ out.length.add (1 : Nat) = l_4.length ∧ (2 : Nat) = (2 : Nat))
  ∧ true = true ∧ N ((l_2, l_3, l_4, wrapF IntKind.i64 (i.add (1 : Int)), ()), (), ())) ∨ ∃ (l : List (List Int)), Wk (AV.vs (List.flatMap Ell.f c) c.length
  c.length false none (1 : Nat)) (lst Ell l) ∧ ∃ (l : List Int), Wk (AV.vs (List.flatMap Ei32.f v) v.length v.length false none (1 : Nat)) (lst Ei32 l) ∧ False))
  False) ((True ∧ ∃ (l : List Near), (WkL (List.flatMap En.f out) (List.flatMap En.f l) ∧ out.length = l.length ∧ (2 : Nat) = (2 : Nat)) ∧ true = true ∧ R0 ((c,
  v, out, i, ()), (), ()) (l, ()) ((), ())) ∨ True ∧ False)) := by kernel_rfl

theorem rflForm0 (c : List (List Int)) (v : List Int) (i : Int) (N : rflZ → Prop) (R0 : rflZ → ((List Near) × Unit) → (Unit × Unit) → Prop) (R1 : rflZ → (Unit × Unit) → (Unit) → Prop) : ((runW Try.prog (KL [(30, rdistK)] []) 100).code none 38 40 (loopBody Try.prog 38 6) (mkT (rflSl0.av id (c, (v, ((), (i, ())))))) [] (stL true (rflBl0.obs id ())) (postL 0 rflFs (rflAlts R0 R1) (rflZ0 (c, (v, ((), (i, ())))) ()) N)) =
  ( ifp (!leInt (Int.ofNat c.length) i) (idxOk i c.length ∧ ∃ (l' : List AV), ∃ (n : Nat), ∃ (c_1 : Nat), ∃ (x : Bool), ∃ (w : Option Nat), ∃ (e : Nat), nth ((natOf
  i).mul (1 : Nat)) (List.flatMap Ell.f c) = some (AV.vs l' n c_1 x w e) ∧ ∃ (l : List Int), Wk (AV.vs l' n c_1 x w e) (lst Ei32 l) ∧ ∃ (l_1 : List Int), Wk
  (AV.vs (List.flatMap Ei32.f v) v.length v.length false none (1 : Nat)) (lst Ei32 l_1) ∧ rdistPre (l, l_1, ()) ∧ (2 : Nat) ≤ (2 : Nat) ∧ True ∧ ((∃ (l_2 : List
  (List Int)), Wk (AV.vs (List.flatMap Ell.f c) c.length c.length false none (1 : Nat)) (lst Ell l_2) ∧ ∃ (l_3 : List Int), Wk (AV.vs (List.flatMap Ei32.f v)
  v.length v.length false none (1 : Nat)) (lst Ei32 l_3) ∧ ∃ (l_4 : List Near), (WkL [AV.int IntKind.i64 (distD l l_1), AV.int IntKind.i64 i] (List.flatMap En.f
  l_4) ∧ (1 : Nat) = l_4.length ∧ (2 : Nat) = (2 : Nat)) ∧ true = true ∧ N ((l_2, l_3, l_4, wrapF IntKind.i64 (i.add (1 : Int)), ()), (), ())) ∨ ∃ (l : List
  (List Int)), Wk (AV.vs (List.flatMap Ell.f c) c.length c.length false none (1 : Nat)) (lst Ell l) ∧ ∃ (l : List Int), Wk (AV.vs (List.flatMap Ei32.f v)
  v.length v.length false none (1 : Nat)) (lst Ei32 l) ∧ False)) (True ∧ False ∨ True ∧ true = true ∧ R1 ((c, v, [], i, ()), (), ()) ((), ()) ())) := by kernel_rfl

def rflInv : rflZ → Prop := fun ((c, (v, (out, (i, ())))), ((), ())) => ∃ k : Nat, i = k ∧ k ≤ c.length ∧ c.length ≤ 4096 ∧ out = farL c v k
def rflMu : rflZ → Nat := fun ((c, (v, (out, (i, ())))), ((), ())) => c.length - i.toNat
def rflR0 : rflZ → ((List Near) × Unit) → (Unit × Unit) → Prop := fun ((c, (v, (out, (i, ())))), ((), ())) (r, _) _ => r = farL c v c.length
def rflR1 : rflZ → (Unit × Unit) → (Unit) → Prop := fun ((c, (v, (out, (i, ())))), ((), ())) _ _ => c = []
noncomputable def rflC : LoopC := loopC 0 rflFs (rflAlts rflR0 rflR1) rflInv

theorem rflStep : stepsOk Try.prog (KL [(30, rdistK)] []) 100 38 40 (loopBody Try.prog 38 6) 0 true rflFs (rflAlts rflR0 rflR1) rflInv rflMu ⟨_, _, rflSl, rflBl, fun x y => (x, y)⟩ := by
  intro x y hz
  obtain ⟨c, v, out, i, _⟩ := x
  obtain ⟨_, _⟩ := y
  refine (rflForm c v out i _ _ _).mpr ?_
  obtain ⟨k, rfl, hk, hl, rfl⟩ := hz
  have hol := farL_len c v k
  rw [ifp_lt]
  simp only [natOf_nat]
  split
  · rename_i h
    have hkl : k < c.length := by simpa using h
    repeat (first
      | (refine ⟨Nat.le_refl _, ?_⟩)
      | (rw [ifp_pos (roomy_small (by simp only [Nat.add_eq]; omega) (by decide))])
      | (refine ⟨trivial, ?_⟩)
      | (refine ⟨(rfl : true = true), ?_⟩)
      | (refine ⟨idx_ok (by omega), ?_⟩)
      | (refine ⟨idx_ok0 (by omega), ?_⟩)
      | (refine ⟨_, nth_int (by omega), ?_⟩)
      | (refine ⟨_, _, _, _, _, _, nth_lst (by omega), ?_⟩)
      | (refine ⟨_, _, _, _, _, _, nth_lst0 (by omega), ?_⟩)
      | (refine ⟨_, Wk.refl _, ?_⟩)
      | (rw [ifp_pos rfl])
      | (refine ⟨(rfl : (_ : List Nat) = _), ?_⟩)
      | (refine ⟨(rfl : (_ : Code) = _), ?_⟩))
    refine Or.inl ⟨c, Wk.refl _, v, Wk.refl _, farL c v (k + 1), ⟨?_, ?_, (by first | exact trivial | exact rfl)⟩, (by first | exact trivial | exact rfl), ?_⟩
    · rw [farL_snoc hkl, ← near_snoc']; exact WkL.refl _
    · rw [farL_snoc hkl]; exact len_snoc
    · rw [wsucc (by omega)]
      exact ⟨⟨k + 1, rfl, hkl, hl, rfl⟩, by show c.length - (k + 1) < c.length - k; omega, fun _ _ h => h, fun _ _ h => h, trivial⟩
  · rename_i h
    obtain rfl : k = c.length := by simp at h; omega
    exact Or.inl ⟨trivial, _, ⟨WkL.refl _, (by first | exact trivial | exact rfl), (by first | exact trivial | exact rfl)⟩, (by first | exact trivial | exact rfl), rfl⟩
theorem rflStep0 : stepsOk Try.prog (KL [(30, rdistK)] []) 100 38 40 (loopBody Try.prog 38 6) 0 true rflFs (rflAlts rflR0 rflR1) rflInv rflMu ⟨_, _, rflSl0, rflBl0, rflZ0⟩ := by
  intro x y hz
  obtain ⟨c, v, _, i, _⟩ := x
  obtain _ := y
  refine (rflForm0 c v i _ _ _).mpr ?_
  obtain ⟨k, rfl, hk, hl, h0⟩ := hz
  obtain rfl : k = 0 := by have := congrArg List.length h0; rw [farL_len] at this; simp at this; omega
  rw [ifp_lt]
  simp only [natOf_nat]
  split
  · rename_i h
    have hkl : 0 < c.length := by simpa using h
    repeat (first
      | (refine ⟨Nat.le_refl _, ?_⟩)
      | (rw [ifp_pos (roomy_small (by simp only [Nat.add_eq]; omega) (by decide))])
      | (refine ⟨trivial, ?_⟩)
      | (refine ⟨(rfl : true = true), ?_⟩)
      | (refine ⟨idx_ok (by omega), ?_⟩)
      | (refine ⟨idx_ok0 (by omega), ?_⟩)
      | (refine ⟨_, nth_int (by omega), ?_⟩)
      | (refine ⟨_, _, _, _, _, _, nth_lst (by omega), ?_⟩)
      | (refine ⟨_, _, _, _, _, _, nth_lst0 (by omega), ?_⟩)
      | (refine ⟨_, Wk.refl _, ?_⟩)
      | (rw [ifp_pos rfl])
      | (refine ⟨(rfl : (_ : List Nat) = _), ?_⟩)
      | (refine ⟨(rfl : (_ : Code) = _), ?_⟩))
    refine Or.inl ⟨c, Wk.refl _, v, Wk.refl _, farL c v 1, ⟨?_, ?_, (by first | exact trivial | exact rfl)⟩, (by first | exact trivial | exact rfl), ?_⟩
    · rw [farL_snoc hkl, ← near_snoc']; exact WkL.refl _
    · rw [farL_len]
    · rw [wsucc (by omega)]
      exact ⟨⟨1, rfl, hkl, hl, rfl⟩, by show c.length - 1 < c.length - 0; omega, fun _ _ h => h, fun _ _ h => h, trivial⟩
  · rename_i h
    exact Or.inr ⟨trivial, (by first | exact trivial | exact rfl), List.length_eq_zero_iff.1 (by simp at h; simp [h])⟩
theorem rflOk : LoopOk Try.prog 38 40 (.loop (loopBody Try.prog 38 6)) rflC := loop_ok rflMu mixed (KL_ok (cc_cons rdistCc (cc_nil))) rfl (steps_cons rflStep (steps_cons rflStep0 (steps_nil)))

/-! The loop far of wayfinder/cell.distances$1. -/
abbrev farZ := (Unit × Unit × (List (List Int)) × Int × Int × Unit) × ((Unit × Unit) × Unit × ((List Near) × Unit) × ((List Int) × Unit) × Unit × Unit)
noncomputable def farSl : Tel (Unit × Unit × (List (List Int)) × Int × Int × Unit) := .cons 0 (.yld 0) (.cons 2 (.ptr 3) (.cons 8 (.lst Ell) (.cons 9 (.int .i64) (.cons 10 (.int .i64) (.nil)))))
noncomputable def farBl : BTel ((Unit × Unit) × Unit × ((List Near) × Unit) × ((List Int) × Unit) × Unit × Unit) := .cons (.loop 37 29 [19,20] (rangeAs Try.prog 37 8) (rangeBody Try.prog 37 8) .ready none (.cons 7 (.ptr 2) (.nil)) 1) (.cons (.dfr) (.cons (.row (.cons 0 (.own En 4) (.nil))) (.cons (.row (.cons 0 (.lst Ei32) (.nil))) (.cons (.spare) (.nil)))))
noncomputable def farSl0 : Tel (Unit × Unit × (List (List Int)) × Int × Int × Unit) := .cons 0 (.yld 0) (.cons 2 (.ptr 3) (.cons 8 (.lst Ell) (.cons 9 (.int .i64) (.cons 10 (.int .i64) (.nil)))))
noncomputable def farBl0 : BTel ((Unit × Unit) × Unit × (Unit × Unit) × ((List Int) × Unit) × Unit) := .cons (.loop 37 29 [19,20] (rangeAs Try.prog 37 8) (rangeBody Try.prog 37 8) .ready none (.cons 7 (.ptr 2) (.nil)) 1) (.cons (.dfr) (.cons (.row (.cons 0 (.nilS) (.nil))) (.cons (.row (.cons 0 (.lst Ei32) (.nil))) (.nil))))
noncomputable def farZ0 : (Unit × Unit × (List (List Int)) × Int × Int × Unit) → ((Unit × Unit) × Unit × (Unit × Unit) × ((List Int) × Unit) × Unit) → farZ := fun ((), ((), (c, (n, (i, ()))))) (((), ()), ((), (((), ()), ((v, ()), ())))) => (((), ((), (c, (n, (i, ()))))), (((), ()), ((), (([], ()), ((v, ()), ((), ()))))))
noncomputable def farFs : List (LForm farZ) := [⟨_, _, farSl, farBl, fun x y => (x, y)⟩, ⟨_, _, farSl0, farBl0, farZ0⟩]
noncomputable def farAlts (R0 : farZ → (Unit) → ((Unit × Unit) × Unit × ((List Near) × Unit) × ((List Int) × Unit) × Unit × Unit) → Prop) (R1 : farZ → (Unit) → ((Unit × Unit) × Unit × (Unit × Unit) × ((List Int) × Unit) × Unit) → Prop) : List (Alt farZ) := [⟨.exit 0, Unit, (Unit × Unit) × Unit × ((List Near) × Unit) × ((List Int) × Unit) × Unit × Unit, .nil, .cons (.loop 37 29 [19,20] (rangeAs Try.prog 37 8) (rangeBody Try.prog 37 8) .ready none (.cons 7 (.ptr 2) (.nil)) 1) (.cons (.dfr) (.cons (.row (.cons 0 (.own En 4) (.nil))) (.cons (.row (.cons 0 (.lst Ei32) (.nil))) (.cons (.spare) (.nil))))), R0⟩, ⟨.exit 0, Unit, (Unit × Unit) × Unit × (Unit × Unit) × ((List Int) × Unit) × Unit, .nil, .cons (.loop 37 29 [19,20] (rangeAs Try.prog 37 8) (rangeBody Try.prog 37 8) .ready none (.cons 7 (.ptr 2) (.nil)) 1) (.cons (.dfr) (.cons (.row (.cons 0 (.nilS) (.nil))) (.cons (.row (.cons 0 (.lst Ei32) (.nil))) (.nil)))), R1⟩]

theorem farForm (c : List (List Int)) (n : Int) (i : Int) (out : List Near) (v : List Int) (N : farZ → Prop) (R0 : farZ → (Unit) → ((Unit × Unit) × Unit × ((List Near) × Unit) × ((List Int) × Unit) × Unit × Unit) → Prop) (R1 : farZ → (Unit) → ((Unit × Unit) × Unit × (Unit × Unit) × ((List Int) × Unit) × Unit) → Prop) : ((runW Try.prog (KL [(84, distK)] []) 100).code none 83 27 (loopBody Try.prog 83 1) (mkT (farSl.av id ((), ((), (c, (n, (i, ()))))))) [] (stL true (farBl.obs id (((), ()), ((), ((out, ()), ((v, ()), ((), ()))))))) (postL 4 farFs (farAlts R0 R1) (((), ((), (c, (n, (i, ()))))), (((), ()), ((), ((out, ()), ((v, ()), ((), ())))))) N)) =
  ( ifp (!leInt n i) (idxOk i c.length ∧ ∃ (l' : List AV), ∃ (n_1 : Nat), ∃ (c_1 : Nat), ∃ (x : Bool), ∃ (w : Option Nat), ∃ (e : Nat), nth ((natOf i).mul (1 :
  Nat)) (List.flatMap Ell.f c) = some (AV.vs l' n_1 c_1 x w e) ∧ ∃ (l : List Int), Wk (AV.vs l' n_1 c_1 x w e) (lst Ei32 l) ∧ ∃ (l_1 : List Int), Wk (AV.vs
  (List.flatMap Ei32.f v) v.length v.length false none (1 : Nat)) (lst Ei32 l_1) ∧ distPre (l, l_1, ()) ∧ (2 : Nat) ≤ (2 : Nat) ∧ ifp (roomy (out.length.add (1 :
  Nat)) (16 : Nat)) (True ∧ ((∃ (l_2 : List (List Int)), Wk (AV.vs (List.flatMap Ell.f c) c.length c.length false none (1 : Nat)) (lst Ell l_2) ∧ True ∧ [(19 :
  Nat), (20 : Nat)] = [(19 : Nat), (20 : Nat)] ∧ rangeAs Try.prog (37 : FuncId) (8 : Nat) = rangeAs Try.prog (37 : FuncId) (8 : Nat) ∧ rangeBody Try.prog (37 :
  FuncId) (8 : Nat) = rangeBody Try.prog (37 : FuncId) (8 : Nat) ∧ ∃ (l_3 : List Near), (WkL (List.flatMap En.f out ++ [AV.int IntKind.i64 (distD l l_1), AV.int
  IntKind.i64 i]) (List.flatMap En.f l_3) ∧ out.length.add (1 : Nat) = l_3.length ∧ (2 : Nat) = (2 : Nat)) ∧ ∃ (l : List Int), Wk (AV.vs (List.flatMap Ei32.f v)
  v.length v.length false none (1 : Nat)) (lst Ei32 l) ∧ true = true ∧ N (((), (), l_2, n, wrapF IntKind.i64 (i.add (1 : Int)), ()), ((), ()), (), (l_3, ()), (l,
  ()), (), ())) ∨ ∃ (l : List (List Int)), Wk (AV.vs (List.flatMap Ell.f c) c.length c.length false none (1 : Nat)) (lst Ell l) ∧ True ∧ [(19 : Nat), (20 : Nat)]
  = [(19 : Nat), (20 : Nat)] ∧ rangeAs Try.prog (37 : FuncId) (8 : Nat) = rangeAs Try.prog (37 : FuncId) (8 : Nat) ∧ rangeBody Try.prog (37 : FuncId) (8 : Nat) =
  rangeBody Try.prog (37 : FuncId) (8 : Nat) ∧ False)) False) ((True ∧ True ∧ [(19 : Nat), (20 : Nat)] = [(19 : Nat), (20 : Nat)] ∧ rangeAs Try.prog (37 :
  FuncId) (8 : Nat) = rangeAs Try.prog (37 : FuncId) (8 : Nat) ∧ rangeBody Try.prog (37 : FuncId) (8 : Nat) = rangeBody Try.prog (37 : FuncId) (8 : Nat) ∧ ∃ (l :
  List Near), (WkL (List.flatMap En.f out) (List.flatMap En.f l) ∧ out.length = l.length ∧ (2 : Nat) = (2 : Nat)) ∧ ∃ (l_1 : List Int), Wk (AV.vs (List.flatMap
  Ei32.f v) v.length v.length false none (1 : Nat)) (lst Ei32 l_1) ∧ true = true ∧ R0 (((), (), c, n, i, ()), ((), ()), (), (out, ()), (v, ()), (), ()) () (((),
  ()), (), (l, ()), (l_1, ()), (), ())) ∨ True ∧ True ∧ [(19 : Nat), (20 : Nat)] = [(19 : Nat), (20 : Nat)] ∧ rangeAs Try.prog (37 : FuncId) (8 : Nat) = rangeAs
  Try.prog (37 : FuncId) (8 : Nat) ∧ rangeBody Try.prog (37 : FuncId) (8 : Nat) = rangeBody Try.prog (37 : FuncId) (8 : Nat) ∧ False)) := by kernel_rfl

theorem farForm0 (c : List (List Int)) (n : Int) (i : Int) (v : List Int) (N : farZ → Prop) (R0 : farZ → (Unit) → ((Unit × Unit) × Unit × ((List Near) × Unit) × ((List Int) × Unit) × Unit × Unit) → Prop) (R1 : farZ → (Unit) → ((Unit × Unit) × Unit × (Unit × Unit) × ((List Int) × Unit) × Unit) → Prop) : ((runW Try.prog (KL [(84, distK)] []) 100).code none 83 27 (loopBody Try.prog 83 1) (mkT (farSl0.av id ((), ((), (c, (n, (i, ()))))))) [] (stL true (farBl0.obs id (((), ()), ((), (((), ()), ((v, ()), ())))))) (postL 4 farFs (farAlts R0 R1) (farZ0 ((), ((), (c, (n, (i, ()))))) (((), ()), ((), (((), ()), ((v, ()), ()))))) N)) =
  ( ifp (!leInt n i) (idxOk i c.length ∧ ∃ (l' : List AV), ∃ (n_1 : Nat), ∃ (c_1 : Nat), ∃ (x : Bool), ∃ (w : Option Nat), ∃ (e : Nat), nth ((natOf i).mul (1 :
  Nat)) (List.flatMap Ell.f c) = some (AV.vs l' n_1 c_1 x w e) ∧ ∃ (l : List Int), Wk (AV.vs l' n_1 c_1 x w e) (lst Ei32 l) ∧ ∃ (l_1 : List Int), Wk (AV.vs
  (List.flatMap Ei32.f v) v.length v.length false none (1 : Nat)) (lst Ei32 l_1) ∧ distPre (l, l_1, ()) ∧ (2 : Nat) ≤ (2 : Nat) ∧ True ∧ ((∃ (l_2 : List (List
  Int)), Wk (AV.vs (List.flatMap Ell.f c) c.length c.length false none (1 : Nat)) (lst Ell l_2) ∧ True ∧ [(19 : Nat), (20 : Nat)] = [(19 : Nat), (20 : Nat)] ∧
  rangeAs Try.prog (37 : FuncId) (8 : Nat) = rangeAs Try.prog (37 : FuncId) (8 : Nat) ∧ rangeBody Try.prog (37 : FuncId) (8 : Nat) = rangeBody Try.prog (37 :
  FuncId) (8 : Nat) ∧ ∃ (l_3 : List Near), (WkL [AV.int IntKind.i64 (distD l l_1), AV.int IntKind.i64 i] (List.flatMap En.f l_3) ∧ (1 : Nat) = l_3.length ∧ (2 :
  Nat) = (2 : Nat)) ∧ ∃ (l : List Int), Wk (AV.vs (List.flatMap Ei32.f v) v.length v.length false none (1 : Nat)) (lst Ei32 l) ∧ true = true ∧ N (((), (), l_2,
  n, wrapF IntKind.i64 (i.add (1 : Int)), ()), ((), ()), (), (l_3, ()), (l, ()), (), ())) ∨ ∃ (l : List (List Int)), Wk (AV.vs (List.flatMap Ell.f c) c.length
  c.length false none (1 : Nat)) (lst Ell l) ∧ True ∧ [(19 : Nat), (20 : Nat)] = [(19 : Nat), (20 : Nat)] ∧ rangeAs Try.prog (37 : FuncId) (8 : Nat) = rangeAs
  Try.prog (37 : FuncId) (8 : Nat) ∧ rangeBody Try.prog (37 : FuncId) (8 : Nat) = rangeBody Try.prog (37 : FuncId) (8 : Nat) ∧ False)) (True ∧ True ∧ [(19 :
  Nat), (20 : Nat)] = [(19 : Nat), (20 : Nat)] ∧ rangeAs Try.prog (37 : FuncId) (8 : Nat) = rangeAs Try.prog (37 : FuncId) (8 : Nat) ∧ rangeBody Try.prog (37 :
  FuncId) (8 : Nat) = rangeBody Try.prog (37 : FuncId) (8 : Nat) ∧ False ∨ True ∧ True ∧ [(19 : Nat), (20 : Nat)] = [(19 : Nat), (20 : Nat)] ∧ rangeAs Try.prog
  (37 : FuncId) (8 : Nat) = rangeAs Try.prog (37 : FuncId) (8 : Nat) ∧ rangeBody Try.prog (37 : FuncId) (8 : Nat) = rangeBody Try.prog (37 : FuncId) (8 : Nat) ∧
  ∃ (l : List Int), Wk (AV.vs (List.flatMap Ei32.f v) v.length v.length false none (1 : Nat)) (lst Ei32 l) ∧ true = true ∧ R1 (((), (), c, n, i, ()), ((), ()),
  (), ([], ()), (v, ()), (), ()) () (((), ()), (), ((), ()), (l, ()), ()))) := by kernel_rfl

def farInv : farZ → Prop := fun (((), ((), (c, (n, (i, ()))))), (((), ()), ((), ((out, ()), ((v, ()), ((), ())))))) => ∃ k : Nat, i = k ∧ n = c.length ∧ k ≤ c.length ∧ c.length ≤ 4096 ∧ out = farL c v k
def farMu : farZ → Nat := fun (((), ((), (c, (n, (i, ()))))), (((), ()), ((), ((out, ()), ((v, ()), ((), ())))))) => c.length - i.toNat
def farR0 : farZ → (Unit) → ((Unit × Unit) × Unit × ((List Near) × Unit) × ((List Int) × Unit) × Unit × Unit) → Prop := fun (((), ((), (c, (n, (i, ()))))), (((), ()), ((), ((out, ()), ((v, ()), ((), ())))))) _ (_, _, (r, _), _) => r = farL c v c.length
def farR1 : farZ → (Unit) → ((Unit × Unit) × Unit × (Unit × Unit) × ((List Int) × Unit) × Unit) → Prop := fun (((), ((), (c, (n, (i, ()))))), (((), ()), ((), ((out, ()), ((v, ()), ((), ())))))) _ _ => c = []
noncomputable def farC : LoopC := loopC 4 farFs (farAlts farR0 farR1) farInv

theorem farStep : stepsOk Try.prog (KL [(84, distK)] []) 100 83 27 (loopBody Try.prog 83 1) 4 true farFs (farAlts farR0 farR1) farInv farMu ⟨_, _, farSl, farBl, fun x y => (x, y)⟩ := by
  intro x y hz
  obtain ⟨_, _, c, n, i, _⟩ := x
  obtain ⟨⟨_, _⟩, _, ⟨out, _⟩, ⟨v, _⟩, _, _⟩ := y
  refine (farForm c n i out v _ _ _).mpr ?_
  obtain ⟨k, rfl, rfl, hk, hl, rfl⟩ := hz
  have hol := farL_len c v k
  rw [ifp_lt]
  simp only [natOf_nat]
  split
  · rename_i h
    have hkl : k < c.length := by simpa using h
    repeat (first
      | (refine ⟨Nat.le_refl _, ?_⟩)
      | (rw [ifp_pos (roomy_small (by simp only [Nat.add_eq]; omega) (by decide))])
      | (refine ⟨trivial, ?_⟩)
      | (refine ⟨(rfl : true = true), ?_⟩)
      | (refine ⟨idx_ok (by omega), ?_⟩)
      | (refine ⟨idx_ok0 (by omega), ?_⟩)
      | (refine ⟨_, nth_int (by omega), ?_⟩)
      | (refine ⟨_, _, _, _, _, _, nth_lst (by omega), ?_⟩)
      | (refine ⟨_, _, _, _, _, _, nth_lst0 (by omega), ?_⟩)
      | (refine ⟨_, Wk.refl _, ?_⟩)
      | (rw [ifp_pos rfl])
      | (refine ⟨(rfl : (_ : List Nat) = _), ?_⟩)
      | (refine ⟨(rfl : (_ : Code) = _), ?_⟩))
    refine Or.inl ⟨c, Wk.refl _, trivial, (by first | exact trivial | exact rfl), (by first | exact trivial | exact rfl), (by first | exact trivial | exact rfl), farL c v (k + 1), ⟨?_, ?_, (by first | exact trivial | exact rfl)⟩, v, Wk.refl _, (by first | exact trivial | exact rfl), ?_⟩
    · rw [farL_snoc hkl, ← near_snoc']; exact WkL.refl _
    · rw [farL_snoc hkl]; exact len_snoc
    · rw [wsucc (by omega)]
      exact ⟨⟨k + 1, rfl, rfl, hkl, hl, rfl⟩, by show c.length - (k + 1) < c.length - k; omega, fun _ _ h => h, fun _ _ h => h, trivial⟩
  · rename_i h
    obtain rfl : k = c.length := by simp at h; omega
    exact Or.inl ⟨trivial, trivial, (by first | exact trivial | exact rfl), (by first | exact trivial | exact rfl), (by first | exact trivial | exact rfl), _, ⟨WkL.refl _, (by first | exact trivial | exact rfl), (by first | exact trivial | exact rfl)⟩, v, Wk.refl _, (by first | exact trivial | exact rfl), rfl⟩
theorem farStep0 : stepsOk Try.prog (KL [(84, distK)] []) 100 83 27 (loopBody Try.prog 83 1) 4 true farFs (farAlts farR0 farR1) farInv farMu ⟨_, _, farSl0, farBl0, farZ0⟩ := by
  intro x y hz
  obtain ⟨_, _, c, n, i, _⟩ := x
  obtain ⟨⟨_, _⟩, _, ⟨_, _⟩, ⟨v, _⟩, _⟩ := y
  refine (farForm0 c n i v _ _ _).mpr ?_
  obtain ⟨k, rfl, rfl, hk, hl, h0⟩ := hz
  obtain rfl : k = 0 := by have := congrArg List.length h0; rw [farL_len] at this; simp at this; omega
  rw [ifp_lt]
  simp only [natOf_nat]
  split
  · rename_i h
    have hkl : 0 < c.length := by simpa using h
    repeat (first
      | (refine ⟨Nat.le_refl _, ?_⟩)
      | (rw [ifp_pos (roomy_small (by simp only [Nat.add_eq]; omega) (by decide))])
      | (refine ⟨trivial, ?_⟩)
      | (refine ⟨(rfl : true = true), ?_⟩)
      | (refine ⟨idx_ok (by omega), ?_⟩)
      | (refine ⟨idx_ok0 (by omega), ?_⟩)
      | (refine ⟨_, nth_int (by omega), ?_⟩)
      | (refine ⟨_, _, _, _, _, _, nth_lst (by omega), ?_⟩)
      | (refine ⟨_, _, _, _, _, _, nth_lst0 (by omega), ?_⟩)
      | (refine ⟨_, Wk.refl _, ?_⟩)
      | (rw [ifp_pos rfl])
      | (refine ⟨(rfl : (_ : List Nat) = _), ?_⟩)
      | (refine ⟨(rfl : (_ : Code) = _), ?_⟩))
    refine Or.inl ⟨c, Wk.refl _, trivial, (by first | exact trivial | exact rfl), (by first | exact trivial | exact rfl), (by first | exact trivial | exact rfl), farL c v 1, ⟨?_, ?_, (by first | exact trivial | exact rfl)⟩, v, Wk.refl _, (by first | exact trivial | exact rfl), ?_⟩
    · rw [farL_snoc hkl, ← near_snoc']; exact WkL.refl _
    · rw [farL_len]
    · rw [wsucc (by omega)]
      exact ⟨⟨1, rfl, rfl, hkl, hl, rfl⟩, by show c.length - 1 < c.length - 0; omega, fun _ _ h => h, fun _ _ h => h, trivial⟩
  · rename_i h
    exact Or.inr ⟨trivial, trivial, (by first | exact trivial | exact rfl), (by first | exact trivial | exact rfl), (by first | exact trivial | exact rfl), v, Wk.refl _, (by first | exact trivial | exact rfl), List.length_eq_zero_iff.1 (by simp at h; simp [h])⟩
theorem farOk : LoopOk Try.prog 83 27 (.loop (loopBody Try.prog 83 1)) farC := loop_ok farMu mixed (KL_ok (cc_cons distCc (cc_nil))) rfl (steps_cons farStep (steps_cons farStep0 (steps_nil)))

/-! wayfinder/wayfinderref13.Far -/
noncomputable def rfarT : Tel ((List (List Int)) × (List Int) × Unit) := .cons 0 (.lst Ell) (.cons 1 (.lst Ei32) (.nil))

theorem rfarFn (c : List (List Int)) (v : List Int) (Q : AV → Prop) : (callW Try.prog (runW Try.prog (KL [(60, rboth13K), (22, rsortedK)] [(38, [(6, rflC)])]) 200) 38 (rfarT.cells id (c, (v, ()))) (stE true) (fun x st => frzW st x Q)) =
  ( ∃ (l : List (List Int)), Wk (AV.vs (List.flatMap Ell.f c) c.length c.length false none (1 : Nat)) (lst Ell l) ∧ ∃ (l_1 : List Int), Wk (AV.vs (List.flatMap
  Ei32.f v) v.length v.length false none (1 : Nat)) (lst Ei32 l_1) ∧ rboth13Pre (l, l_1, ()) ∧ ifp (!eqInt (bothV l l_1) (0 : Int)) (Q (AV.tuple [AV.nilSlice,
  AV.int IntKind.i64 (bothV l l_1)])) (LoopOk Try.prog (38 : FuncId) (40 : Nat) (loopBody Try.prog (38 : FuncId) (6 : Nat)).loop rflC ∧ True ∧ True ∧ ((∃ (l :
  List (List Int)), Wk (AV.vs (List.flatMap Ell.f c) c.length c.length false none (1 : Nat)) (lst Ell l) ∧ ∃ (l : List Int), Wk (AV.vs (List.flatMap Ei32.f v)
  v.length v.length false none (1 : Nat)) (lst Ei32 l) ∧ False) ∨ ∃ (l : List (List Int)), Wk (AV.vs (List.flatMap Ell.f c) c.length c.length false none (1 :
  Nat)) (lst Ell l) ∧ ∃ (l_2 : List Int), Wk (AV.vs (List.flatMap Ei32.f v) v.length v.length false none (1 : Nat)) (lst Ei32 l_2) ∧ true = true ∧ rflInv ((l,
  l_2, [], (0 : Int), ()), (), ()) ∧ (∀ (c : List Near × Unit) (d : Unit × Unit), rflR0 ((l, l_2, [], (0 : Int), ()), (), ()) c d → ∃ (l : List Near), Wk (AV.vs
  (List.flatMap En.f c.1) c.1.length c.1.length false (some (0 : Nat)) (2 : Nat)) (lst En l) ∧ rsortedPre (l, ()) ∧ Q (AV.tuple [AV.vs (List.flatMap En.f (insAll
  l)) (insAll l).length (insAll l).length false none (2 : Nat), AV.int IntKind.i64 (0 : Int)])) ∧ (∀ (c : Unit × Unit) (d : Unit), rflR1 ((l, l_2, [], (0 : Int),
  ()), (), ()) c d → ∃ (l : List Near), Wk AV.nilSlice (lst En l) ∧ rsortedPre (l, ()) ∧ Q (AV.tuple [AV.vs (List.flatMap En.f (insAll l)) (insAll l).length
  (insAll l).length false none (2 : Nat), AV.int IntKind.i64 (0 : Int)])) ∧ True))) := by kernel_rfl

def rfarPre : (List (List Int)) × (List Int) × Unit → Prop := fun (c, (v, ())) => True
noncomputable def rfarRes : (List (List Int)) × (List Int) × Unit → AV := fun (c, (v, ())) => .tuple [lst En (farV c v), .int .i64 (bothV c v)]
noncomputable def rfarK : CallC := valC rfarT rfarPre rfarRes

theorem rfarVal (c : List (List Int)) (v : List Int) (hp : rfarPre (c, (v, ()))) : Val Try.prog 38 (rfarT.cells id (c, (v, ()))) (rfarRes (c, (v, ()))) := by
  refine Val.ofF mixed (KL_ok (cc_cons rboth13Cc (cc_cons rsortedCc (cc_nil)))) (freesC rfl _) (rfarFn c v) ?_
  refine ⟨c, Wk.refl _, v, Wk.refl _, trivial, ?_⟩
  rw [ifp_ne]
  split
  · rename_i h
    obtain ⟨h1, h2, h3⟩ := bothV_inv h
    obtain ⟨h4, h5, _⟩ := checkV_inv h1
    refine ⟨rflOk, trivial, trivial, Or.inr ⟨c, Wk.refl _, v, Wk.refl _, (by first | exact trivial | exact rfl), ⟨0, rfl, Nat.zero_le _, h5, rfl⟩, fun d d2 hr => ?_, fun _ _ hr => ?_, trivial⟩⟩
    · obtain ⟨r, _⟩ := d
      obtain rfl : r = farL c v c.length := hr
      have e : farV c v = insAll (farL c v c.length) := by rw [farV, if_pos h]; exact sort_ins _
      refine ⟨_, wk_of_own, by show (farL c v c.length).length ≤ _; rw [farL_len]; omega, ?_⟩
      exact tells_tuple ⟨tells_lst ⟨by rw [e], by rw [e], rfl⟩, tells_int h.symm, trivial⟩
    · have hr' : c = [] := hr
      rw [hr'] at h4; simp at h4
  · rename_i h
    refine tells_tuple ⟨?_, tells_int rfl, trivial⟩
    show Tells .nilSlice (lst En (farV c v))
    rw [farV, if_neg h]; exact tells_nil _
theorem rfarCc : CcOk Try.prog 38 rfarK := val_ok rfl (fun ⟨c, ⟨v, _⟩⟩ h => rfarVal c v h)

/-! wayfinder/cell.Far -/
noncomputable def farT : Tel ((List (List Int)) × (List Int) × Unit) := .cons 0 (.lst Ell) (.cons 1 (.lst Ei32) (.nil))

theorem farFn (c : List (List Int)) (v : List Int) (Q : AV → Prop) : (callW Try.prog (runW Try.prog (KL [(57, bothK), (18, sortedK), (84, distK)] [(83, [(1, farC)])]) 200) 37 (farT.cells id (c, (v, ()))) (stE true) (fun x st => frzW st x Q)) =
  ( ∃ (l : List (List Int)), Wk (AV.vs (List.flatMap Ell.f c) c.length c.length false none (1 : Nat)) (lst Ell l) ∧ ∃ (l_1 : List Int), Wk (AV.vs (List.flatMap
  Ei32.f v) v.length v.length false none (1 : Nat)) (lst Ei32 l_1) ∧ bothPre (l, l_1, ()) ∧ ifp (!eqInt (bothV l l_1) (0 : Int)) (Q (AV.tuple [AV.nilSlice,
  AV.int IntKind.i64 (bothV l l_1)])) (LoopOk Try.prog (83 : Nat) (27 : Nat) (loopBody Try.prog (83 : Nat) (1 : Nat)).loop farC ∧ True ∧ True ∧ ((∃ (l : List
  (List Int)), Wk (AV.vs (List.flatMap Ell.f c) c.length c.length false none (1 : Nat)) (lst Ell l) ∧ True ∧ [(19 : Nat), (20 : Nat)] = [(19 : Nat), (20 : Nat)]
  ∧ rangeAs Try.prog (37 : FuncId) (8 : Nat) = rangeAs Try.prog (37 : FuncId) (8 : Nat) ∧ rangeBody Try.prog (37 : FuncId) (8 : Nat) = rangeBody Try.prog (37 :
  FuncId) (8 : Nat) ∧ False) ∨ ∃ (l : List (List Int)), Wk (AV.vs (List.flatMap Ell.f c) c.length c.length false none (1 : Nat)) (lst Ell l) ∧ True ∧ [(19 :
  Nat), (20 : Nat)] = [(19 : Nat), (20 : Nat)] ∧ rangeAs Try.prog (37 : FuncId) (8 : Nat) = rangeAs Try.prog (37 : FuncId) (8 : Nat) ∧ rangeBody Try.prog (37 :
  FuncId) (8 : Nat) = rangeBody Try.prog (37 : FuncId) (8 : Nat) ∧ ∃ (l_2 : List Int), Wk (AV.vs (List.flatMap Ei32.f v) v.length v.length false none (1 : Nat))
  (lst Ei32 l_2) ∧ true = true ∧ farInv (((), (), l, Int.ofNat c.length, (0 : Int), ()), ((), ()), (), ([], ()), (l_2, ()), (), ()) ∧ (∀ (c_1 : Unit) (d : (Unit
  × Unit) × Unit × (List Near × Unit) × (List Int × Unit) × Unit × Unit), farR0 (((), (), l, Int.ofNat c.length, (0 : Int), ()), ((), ()), (), ([], ()), (l_2,
  ()), (), ()) c_1 d → ∃ (l : List Near), Wk (AV.vs (List.flatMap En.f d.2.2.1.1) d.2.2.1.1.length d.2.2.1.1.length false (some (5 : Nat)) (2 : Nat)) (lst En l)
  ∧ sortedPre (l, ()) ∧ Q (AV.tuple [AV.vs (List.flatMap En.f (nearSort l)) (nearSort l).length (nearSort l).length false none (2 : Nat), AV.int IntKind.i64 (0 :
  Int)])) ∧ (∀ (c_1 : Unit) (d : (Unit × Unit) × Unit × (Unit × Unit) × (List Int × Unit) × Unit), farR1 (((), (), l, Int.ofNat c.length, (0 : Int), ()), ((),
  ()), (), ([], ()), (l_2, ()), (), ()) c_1 d → ∃ (l : List Near), Wk AV.nilSlice (lst En l) ∧ sortedPre (l, ()) ∧ Q (AV.tuple [AV.vs (List.flatMap En.f
  (nearSort l)) (nearSort l).length (nearSort l).length false none (2 : Nat), AV.int IntKind.i64 (0 : Int)])) ∧ True))) := by kernel_rfl

def farPre : (List (List Int)) × (List Int) × Unit → Prop := fun (c, (v, ())) => True
noncomputable def farRes : (List (List Int)) × (List Int) × Unit → AV := fun (c, (v, ())) => .tuple [lst En (farV c v), .int .i64 (bothV c v)]
noncomputable def farK : CallC := valC farT farPre farRes

theorem farVal (c : List (List Int)) (v : List Int) (hp : farPre (c, (v, ()))) : Val Try.prog 37 (farT.cells id (c, (v, ()))) (farRes (c, (v, ()))) := by
  refine Val.ofF mixed (KL_ok (cc_cons bothCc (cc_cons sortedCc (cc_cons distCc (cc_nil))))) (freesC rfl _) (farFn c v) ?_
  refine ⟨c, Wk.refl _, v, Wk.refl _, trivial, ?_⟩
  rw [ifp_ne]
  split
  · rename_i h
    obtain ⟨h1, h2, h3⟩ := bothV_inv h
    obtain ⟨h4, h5, _⟩ := checkV_inv h1
    refine ⟨farOk, trivial, trivial, Or.inr ⟨c, Wk.refl _, trivial, (by first | exact trivial | exact rfl), (by first | exact trivial | exact rfl), (by first | exact trivial | exact rfl), v, Wk.refl _, (by first | exact trivial | exact rfl), ⟨0, rfl, rfl, Nat.zero_le _, h5, rfl⟩, fun d d2 hr => ?_, fun _ _ hr => ?_, trivial⟩⟩
    · obtain ⟨_, _, ⟨r, _⟩, _⟩ := d2
      obtain rfl : r = farL c v c.length := hr
      have e : farV c v = nearSort (farL c v c.length) := by rw [farV, if_pos h]
      refine ⟨_, wk_of_own, by show (farL c v c.length).length ≤ _; rw [farL_len]; omega, ?_⟩
      exact tells_tuple ⟨tells_lst ⟨by rw [e], by rw [e], rfl⟩, tells_int h.symm, trivial⟩
    · have hr' : c = [] := hr
      rw [hr'] at h4; simp at h4
  · rename_i h
    refine tells_tuple ⟨?_, tells_int rfl, trivial⟩
    show Tells .nilSlice (lst En (farV c v))
    rw [farV, if_neg h]; exact tells_nil _
theorem farCc : CcOk Try.prog 37 farK := val_ok rfl (fun ⟨c, ⟨v, _⟩⟩ h => farVal c v h)


def ordL (c : List (List Int)) (v : List Int) (n : Int) : List Int := ((farV c v).take n.toNat).map fun x => x.2.1
def ordE (c : List (List Int)) (v : List Int) (n : Int) : Int := if bothV c v ≠ 0 then bothV c v else if n < 0 then 2 else 0
theorem map_take_succ {l : List Near} {k : Nat} (h : k < l.length) : (l.take (k + 1)).map (fun x => x.2.1) = (l.take k).map (fun x => x.2.1) ++ [l[k].2.1] := by
  rw [← List.take_append_getElem h, List.map_append]; rfl
theorem ifb_min {n : Int} {m : Nat} (h : 0 ≤ n) : ifb (leInt n (Int.ofNat m)) n (Int.ofNat m) = ((min n.toNat m : Nat) : Int) := by
  rw [ifb_eq, leInt_eq]
  by_cases c : n ≤ Int.ofNat m
  · rw [if_pos (by simpa using c)]; simp only [Int.ofNat_eq_natCast] at c; omega
  · rw [if_neg (by simpa using c)]; simp only [Int.ofNat_eq_natCast] at *; omega
theorem wk_near_take {l : List Near} {j c : Nat} {x : Bool} (h : j ≤ l.length) : Wk (.vs (List.take ((j - 0) * 2) (List.drop 0 (l.flatMap En.f))) (j - 0) c x none 2) (lst En (l.take j)) :=
  wk_vs ⟨by rw [List.drop_zero, Nat.sub_zero]; exact near_take _ j, by rw [List.length_take]; omega, rfl⟩
theorem near_spec (v : List Int) : ∀ (c : List (List Int)), c ≠ [] → ∃ p, ∃ h : p < c.length, nearGo v c 0 (0, -1) = ((p : Int), sqs c[p] v) ∧ ∀ q (hq : q < c.length), sqs c[p] v < sqs c[q] v ∨ sqs c[p] v = sqs c[q] v ∧ p ≤ q := by
  intro c
  induction c using Go.Det.Stab.snocRec with
  | nil => intro h; exact absurd rfl h
  | snoc b x ih =>
    intro _
    rw [nearGo_append]
    by_cases hb : b = []
    · subst hb
      rw [if_pos (Or.inl (by simp [nearGo]))]
      refine ⟨0, by simp, by simp, fun q hq => Or.inr ?_⟩
      have hq0 : q = 0 := by simpa using hq
      subst hq0
      exact ⟨rfl, Nat.le_refl _⟩
    · obtain ⟨p, hp, e, h⟩ := ih hb
      rw [e]
      have hn := sqs_nonneg b[p] v
      by_cases c1 : sqs x v < sqs b[p] v
      · rw [if_pos (Or.inr c1)]
        refine ⟨b.length, by simp, by simp, fun q hq => ?_⟩
        rw [List.getElem_append_right (Nat.le_refl _)]
        simp only [Nat.sub_self, List.getElem_cons_zero]
        rcases Nat.lt_or_ge q b.length with hq1 | hq1
        · rw [List.getElem_append_left hq1]
          have := h q hq1
          exact Or.inl (by omega)
        · have : q = b.length := by simp at hq; omega
          subst this
          rw [List.getElem_append_right (Nat.le_refl _)]
          simp
      · rw [if_neg (by show ¬ (sqs b[p] v < 0 ∨ sqs x v < sqs b[p] v); omega)]
        refine ⟨p, by simp; omega, by rw [List.getElem_append_left hp], fun q hq => ?_⟩
        rw [List.getElem_append_left hp]
        rcases Nat.lt_or_ge q b.length with hq1 | hq1
        · rw [List.getElem_append_left hq1]; exact h q hq1
        · have : q = b.length := by simp at hq; omega
          subst this
          rw [List.getElem_append_right (Nat.le_refl _)]
          simp only [Nat.sub_self, List.getElem_cons_zero]
          omega
theorem farL_mem {c : List (List Int)} {v : List Int} {x : Near} (h : x ∈ farL c v c.length) : ∃ q, ∃ hq : q < c.length, x = (distD c[q] v, (q : Int), ()) := by
  obtain ⟨q, h1, rfl⟩ := List.mem_map.1 h
  have hq := List.mem_range.1 h1
  exact ⟨q, hq, by simp [farF, hq]⟩
theorem farL_in {c : List (List Int)} {v : List Int} {q : Nat} (h : q < c.length) : (distD c[q] v, (q : Int), ()) ∈ farL c v c.length :=
  List.mem_map.2 ⟨q, List.mem_range.2 h, by simp [farF, h]⟩
theorem far_head {c : List (List Int)} {v : List Int} (h : bothV c v = 0) (h0 : 0 < (farV c v).length) : (farV c v)[0] = ((nearV c v).2, (nearV c v).1, ()) := by
  obtain ⟨h1, h2, h3⟩ := bothV_inv h
  obtain ⟨h4, h5, _⟩ := checkV_inv h1
  obtain ⟨p, hp, e, hm⟩ := near_spec v c (by rintro rfl; simp at h4)
  have hd : ∀ q (hq : q < c.length), distD c[q] v = sqs c[q] v := fun q hq => by rw [distD, if_pos (h3 _ (List.getElem_mem hq))]
  have e1 : nearV c v = ((p : Int), sqs c[p] v) := by rw [nearV, if_pos h, e]
  rw [e1]
  have hS : farV c v = nearSort (farL c v c.length) := by rw [farV, if_pos h]
  have hmem : (farV c v)[0] ∈ farL c v c.length := by
    have h9 : ∀ x, x ∈ farV c v → x ∈ farL c v c.length := fun x hx => by rw [hS] at hx; exact (nearSort_perm _).mem_iff.1 hx
    exact h9 _ (List.getElem_mem _)
  obtain ⟨q, hq, e2⟩ := farL_mem hmem
  have hin : (distD c[p] v, (p : Int), ()) ∈ farV c v := by rw [hS]; exact (nearSort_perm _).mem_iff.2 (farL_in hp)
  obtain ⟨j, hj, e3⟩ := List.getElem_of_mem hin
  have hs : Srt (farV c v) := by rw [hS]; exact nearSort_srt _
  have l1 := hs.get h0 hj (Nat.zero_le _)
  rw [e3] at l1
  rw [hd p hp] at l1
  refine ltLess.tot _ _ ?_ l1
  rw [e2, hd q hq, ← Bool.not_eq_true, lessV_iff]
  have := hm q hq
  simp only
  omega
theorem farV_len {c : List (List Int)} {v : List Int} (h : bothV c v = 0) : (farV c v).length = c.length := by rw [farV, if_pos h, nearSort_len, farL_len]

/-! The loop rord of wayfinder/wayfinderref13.Order. -/
abbrev rordZ := (Int × (List Near) × (List Int) × Int × Unit) × (Unit × Unit)
noncomputable def rordSl : Tel (Int × (List Near) × (List Int) × Int × Unit) := .cons 2 (.int .i64) (.cons 8 (.lst En) (.cons 10 (.own Ei64 0) (.cons 11 (.int .i64) (.nil))))
noncomputable def rordBl : BTel (Unit × Unit) := .cons (.spare) (.nil)
noncomputable def rordSl0 : Tel (Int × (List Near) × Unit × Int × Unit) := .cons 2 (.int .i64) (.cons 8 (.lst En) (.cons 10 (.nilS) (.cons 11 (.int .i64) (.nil))))
noncomputable def rordBl0 : BTel (Unit) := .nil
noncomputable def rordZ0 : (Int × (List Near) × Unit × Int × Unit) → (Unit) → rordZ := fun (n, (l, ((), (i, ())))) () => ((n, (l, ([], (i, ())))), ((), ()))
noncomputable def rordFs : List (LForm rordZ) := [⟨_, _, rordSl, rordBl, fun x y => (x, y)⟩, ⟨_, _, rordSl0, rordBl0, rordZ0⟩]
noncomputable def rordAlts (R0 : rordZ → ((List Int) × Unit) → (Unit × Unit) → Prop) (R1 : rordZ → (Unit × Unit) → (Unit) → Prop) : List (Alt rordZ) := [⟨.exit 0, (List Int) × Unit, Unit × Unit, .cons 10 (.own Ei64 0) (.nil), .cons (.spare) (.nil), R0⟩, ⟨.exit 0, Unit × Unit, Unit, .cons 10 (.nilS) (.nil), .nil, R1⟩]

theorem rordForm (n : Int) (l : List Near) (out : List Int) (i : Int) (N : rordZ → Prop) (R0 : rordZ → ((List Int) × Unit) → (Unit × Unit) → Prop) (R1 : rordZ → (Unit × Unit) → (Unit) → Prop) : ((runW Try.prog (KL [] []) 100).code none 36 43 (loopBody Try.prog 36 8) (mkT (rordSl.av id (n, (l, (out, (i, ())))))) [] (stL true (rordBl.obs id ((), ()))) (postL 0 rordFs (rordAlts R0 R1) ((n, (l, (out, (i, ())))), ((), ())) N)) =
  ( ifp (!leInt n i) (ifp (!leInt (Int.ofNat l.length) i) (idxOk i l.length ∧ ∃ (x : Int), nth (((natOf i).mul (2 : Nat)).add (1 : Nat)) (List.flatMap En.f l) =
  some (AV.int IntKind.i64 x) ∧ (1 : Nat) ≤ (1 : Nat) ∧ ifp (roomy (out.length.add (1 : Nat)) (8 : Nat)) (True ∧ ((∃ (l_1 : List Near), Wk (AV.vs (List.flatMap
  En.f l) l.length l.length false none (2 : Nat)) (lst En l_1) ∧ ∃ (l : List Int), (WkL (List.flatMap Ei64.f out ++ [AV.int IntKind.i64 x]) (List.flatMap Ei64.f
  l) ∧ out.length.add (1 : Nat) = l.length ∧ (1 : Nat) = (1 : Nat)) ∧ true = true ∧ N ((n, l_1, l, wrapF IntKind.i64 (i.add (1 : Int)), ()), (), ())) ∨ ∃ (l_1 :
  List Near), Wk (AV.vs (List.flatMap En.f l) l.length l.length false none (2 : Nat)) (lst En l_1) ∧ False)) False) ((True ∧ ∃ (l_1 : List Int), (WkL
  (List.flatMap Ei64.f out) (List.flatMap Ei64.f l_1) ∧ out.length = l_1.length ∧ (1 : Nat) = (1 : Nat)) ∧ true = true ∧ R0 ((n, l, out, i, ()), (), ()) (l_1,
  ()) ((), ())) ∨ True ∧ False)) ((True ∧ ∃ (l_1 : List Int), (WkL (List.flatMap Ei64.f out) (List.flatMap Ei64.f l_1) ∧ out.length = l_1.length ∧ (1 : Nat) = (1
  : Nat)) ∧ true = true ∧ R0 ((n, l, out, i, ()), (), ()) (l_1, ()) ((), ())) ∨ True ∧ False)) := by kernel_rfl

theorem rordForm0 (n : Int) (l : List Near) (i : Int) (N : rordZ → Prop) (R0 : rordZ → ((List Int) × Unit) → (Unit × Unit) → Prop) (R1 : rordZ → (Unit × Unit) → (Unit) → Prop) : ((runW Try.prog (KL [] []) 100).code none 36 43 (loopBody Try.prog 36 8) (mkT (rordSl0.av id (n, (l, ((), (i, ())))))) [] (stL true (rordBl0.obs id ())) (postL 0 rordFs (rordAlts R0 R1) (rordZ0 (n, (l, ((), (i, ())))) ()) N)) =
  ( ifp (!leInt n i) (ifp (!leInt (Int.ofNat l.length) i) (idxOk i l.length ∧ ∃ (x : Int), nth (((natOf i).mul (2 : Nat)).add (1 : Nat)) (List.flatMap En.f l) =
  some (AV.int IntKind.i64 x) ∧ (1 : Nat) ≤ (1 : Nat) ∧ True ∧ ((∃ (l_1 : List Near), Wk (AV.vs (List.flatMap En.f l) l.length l.length false none (2 : Nat))
  (lst En l_1) ∧ ∃ (l : List Int), (WkL [AV.int IntKind.i64 x] (List.flatMap Ei64.f l) ∧ (1 : Nat) = l.length ∧ (1 : Nat) = (1 : Nat)) ∧ true = true ∧ N ((n,
  l_1, l, wrapF IntKind.i64 (i.add (1 : Int)), ()), (), ())) ∨ ∃ (l_1 : List Near), Wk (AV.vs (List.flatMap En.f l) l.length l.length false none (2 : Nat)) (lst
  En l_1) ∧ False)) (True ∧ False ∨ True ∧ true = true ∧ R1 ((n, l, [], i, ()), (), ()) ((), ()) ())) (True ∧ False ∨ True ∧ true = true ∧ R1 ((n, l, [], i, ()),
  (), ()) ((), ()) ())) := by kernel_rfl

def rordInv : rordZ → Prop := fun ((n, (l, (out, (i, ())))), ((), ())) => ∃ k : Nat, i = k ∧ 0 ≤ n ∧ k ≤ n.toNat ∧ k ≤ l.length ∧ l.length ≤ 4096 ∧ out = (l.take k).map fun x => x.2.1
def rordMu : rordZ → Nat := fun ((n, (l, (out, (i, ())))), ((), ())) => l.length - i.toNat
def rordR0 : rordZ → ((List Int) × Unit) → (Unit × Unit) → Prop := fun ((n, (l, (out, (i, ())))), ((), ())) (r, _) _ => r = (l.take n.toNat).map fun x => x.2.1
def rordR1 : rordZ → (Unit × Unit) → (Unit) → Prop := fun ((n, (l, (out, (i, ())))), ((), ())) _ _ => (l.take n.toNat) = []
noncomputable def rordC : LoopC := loopC 0 rordFs (rordAlts rordR0 rordR1) rordInv

theorem rordStep : stepsOk Try.prog (KL [] []) 100 36 43 (loopBody Try.prog 36 8) 0 true rordFs (rordAlts rordR0 rordR1) rordInv rordMu ⟨_, _, rordSl, rordBl, fun x y => (x, y)⟩ := by
  intro x y hz
  obtain ⟨n, l, out, i, _⟩ := x
  obtain ⟨_, _⟩ := y
  refine (rordForm n l out i _ _ _).mpr ?_
  obtain ⟨k, rfl, n0, hkn, hk, hl, rfl⟩ := hz
  have hol : ((l.take k).map fun x => x.2.1).length = k := by rw [List.length_map, List.length_take]; omega
  have fin : ¬ ((k : Int) < n ∧ k < l.length) → (l.take k).map (fun x => x.2.1) = (l.take n.toNat).map fun x => x.2.1 := fun h => by
    by_cases c : k = l.length
    · rw [take_all (by omega), List.take_of_length_le (by omega)]
    · rw [show k = n.toNat by omega]
  rw [ifp_lt]
  split
  · rename_i h1
    rw [ifp_lt]
    simp only [natOf_nat]
    split
    · rename_i h
      have hkl : k < l.length := by simpa using h
      refine ⟨idx_ok hkl, _, nth_near1 hkl, Nat.le_refl _, ?_⟩
      rw [ifp_pos (roomy_small (by simp only [Nat.add_eq]; omega) (by decide))]
      refine ⟨trivial, Or.inl ⟨l, Wk.refl _, (l.take (k + 1)).map fun x => x.2.1, ⟨?_, ?_, (by first | exact trivial | exact rfl)⟩, (by first | exact trivial | exact rfl), ?_⟩⟩
      · rw [map_take_succ hkl]; exact wkl_snoc (E := Ei64) (WkL.refl _)
      · rw [map_take_succ hkl]; exact len_snoc
      · rw [wsucc (by omega)]
        exact ⟨⟨k + 1, rfl, n0, by omega, hkl, hl, rfl⟩, by show l.length - (k + 1) < l.length - k; omega, fun _ _ h => h, fun _ _ h => h, trivial⟩
    · rename_i h
      exact Or.inl ⟨trivial, _, ⟨WkL.refl _, (by first | exact trivial | exact rfl), (by first | exact trivial | exact rfl)⟩, (by first | exact trivial | exact rfl), fin (by rintro ⟨_, q⟩; exact h (by simpa using q))⟩
  · rename_i h
    exact Or.inl ⟨trivial, _, ⟨WkL.refl _, (by first | exact trivial | exact rfl), (by first | exact trivial | exact rfl)⟩, (by first | exact trivial | exact rfl), fin (by rintro ⟨q, _⟩; exact h q)⟩
theorem rordStep0 : stepsOk Try.prog (KL [] []) 100 36 43 (loopBody Try.prog 36 8) 0 true rordFs (rordAlts rordR0 rordR1) rordInv rordMu ⟨_, _, rordSl0, rordBl0, rordZ0⟩ := by
  intro x y hz
  obtain ⟨n, l, _, i, _⟩ := x
  obtain _ := y
  refine (rordForm0 n l i _ _ _).mpr ?_
  obtain ⟨k, rfl, n0, hkn, hk, hl, h0⟩ := hz
  obtain rfl : k = 0 := by have := congrArg List.length h0; rw [List.length_map, List.length_take] at this; simp at this; omega
  rw [ifp_lt]
  split
  · rename_i h1
    rw [ifp_lt]
    simp only [natOf_nat]
    split
    · rename_i h
      have hkl : 0 < l.length := by simpa using h
      refine ⟨idx_ok hkl, _, nth_near1 hkl, Nat.le_refl _, trivial, Or.inl ⟨l, Wk.refl _, (l.take 1).map fun x => x.2.1, ⟨?_, ?_, (by first | exact trivial | exact rfl)⟩, (by first | exact trivial | exact rfl), ?_⟩⟩
      · rw [map_take_succ hkl]; exact WkL.refl _
      · rw [List.length_map, List.length_take]; omega
      · rw [wsucc (by omega)]
        exact ⟨⟨1, rfl, n0, by omega, hkl, hl, rfl⟩, by show l.length - 1 < l.length - 0; omega, fun _ _ h => h, fun _ _ h => h, trivial⟩
    · rename_i h
      have h' : l = [] := List.length_eq_zero_iff.1 (by simp at h; simp [h])
      exact Or.inr ⟨trivial, (by first | exact trivial | exact rfl), by show l.take n.toNat = []; rw [h', List.take_nil]⟩
  · rename_i h
    exact Or.inr ⟨trivial, (by first | exact trivial | exact rfl), by show l.take n.toNat = []; rw [show n.toNat = 0 by omega, List.take_zero]⟩
theorem rordOk : LoopOk Try.prog 36 43 (.loop (loopBody Try.prog 36 8)) rordC := loop_ok rordMu mixed (KL_ok (cc_nil)) rfl (steps_cons rordStep (steps_cons rordStep0 (steps_nil)))

/-! The loop ord of wayfinder/cell.Order. -/
abbrev ordZ := ((List Near) × Int × Int × (List Int) × Unit) × (Unit × Unit)
noncomputable def ordSl : Tel ((List Near) × Int × Int × (List Int) × Unit) := .cons 31 (.lst En) (.cons 32 (.int .i64) (.cons 33 (.int .i64) (.cons 10 (.own Ei64 0) (.nil))))
noncomputable def ordBl : BTel (Unit × Unit) := .cons (.spare) (.nil)
noncomputable def ordSl0 : Tel ((List Near) × Int × Int × Unit × Unit) := .cons 31 (.lst En) (.cons 32 (.int .i64) (.cons 33 (.int .i64) (.cons 10 (.nilS) (.nil))))
noncomputable def ordBl0 : BTel (Unit) := .nil
noncomputable def ordZ0 : ((List Near) × Int × Int × Unit × Unit) → (Unit) → ordZ := fun (l, (n, (i, ((), ())))) () => ((l, (n, (i, ([], ())))), ((), ()))
noncomputable def ordFs : List (LForm ordZ) := [⟨_, _, ordSl, ordBl, fun x y => (x, y)⟩, ⟨_, _, ordSl0, ordBl0, ordZ0⟩]
noncomputable def ordAlts (R0 : ordZ → ((List Int) × Unit) → (Unit × Unit) → Prop) (R1 : ordZ → (Unit × Unit) → (Unit) → Prop) : List (Alt ordZ) := [⟨.exit 1, (List Int) × Unit, Unit × Unit, .cons 10 (.own Ei64 0) (.nil), .cons (.spare) (.nil), R0⟩, ⟨.exit 1, Unit × Unit, Unit, .cons 10 (.nilS) (.nil), .nil, R1⟩]

theorem ordForm (l : List Near) (n : Int) (i : Int) (out : List Int) (N : ordZ → Prop) (R0 : ordZ → ((List Int) × Unit) → (Unit × Unit) → Prop) (R1 : ordZ → (Unit × Unit) → (Unit) → Prop) : ((runW Try.prog (KL [] []) 100).code none 31 44 (loopBody Try.prog 31 8) (mkT (ordSl.av id (l, (n, (i, (out, ())))))) [] (stL true (ordBl.obs id ((), ()))) (postL 0 ordFs (ordAlts R0 R1) ((l, (n, (i, (out, ())))), ((), ())) N)) =
  ( ifp (!leInt n i) (idxOk i l.length ∧ ∃ (x : Int), nth (((natOf i).mul (2 : Nat)).add (0 : Nat)) (List.flatMap En.f l) = some (AV.int IntKind.i64 x) ∧ ∃ (x :
  Int), nth (((natOf i).mul (2 : Nat)).add (1 : Nat)) (List.flatMap En.f l) = some (AV.int IntKind.i64 x) ∧ (1 : Nat) ≤ (1 : Nat) ∧ ifp (roomy (out.length.add (1
  : Nat)) (8 : Nat)) (True ∧ ((∃ (l_1 : List Near), Wk (AV.vs (List.flatMap En.f l) l.length l.length false none (2 : Nat)) (lst En l_1) ∧ ∃ (l : List Int), (WkL
  (List.flatMap Ei64.f out ++ [AV.int IntKind.i64 x]) (List.flatMap Ei64.f l) ∧ out.length.add (1 : Nat) = l.length ∧ (1 : Nat) = (1 : Nat)) ∧ true = true ∧ N
  ((l_1, n, wrapF IntKind.i64 (i.add (1 : Int)), l, ()), (), ())) ∨ ∃ (l_1 : List Near), Wk (AV.vs (List.flatMap En.f l) l.length l.length false none (2 : Nat))
  (lst En l_1) ∧ False)) False) ((True ∧ ∃ (l_1 : List Int), (WkL (List.flatMap Ei64.f out) (List.flatMap Ei64.f l_1) ∧ out.length = l_1.length ∧ (1 : Nat) = (1
  : Nat)) ∧ true = true ∧ R0 ((l, n, i, out, ()), (), ()) (l_1, ()) ((), ())) ∨ True ∧ False)) := by kernel_rfl

theorem ordForm0 (l : List Near) (n : Int) (i : Int) (N : ordZ → Prop) (R0 : ordZ → ((List Int) × Unit) → (Unit × Unit) → Prop) (R1 : ordZ → (Unit × Unit) → (Unit) → Prop) : ((runW Try.prog (KL [] []) 100).code none 31 44 (loopBody Try.prog 31 8) (mkT (ordSl0.av id (l, (n, (i, ((), ())))))) [] (stL true (ordBl0.obs id ())) (postL 0 ordFs (ordAlts R0 R1) (ordZ0 (l, (n, (i, ((), ())))) ()) N)) =
  ( ifp (!leInt n i) (idxOk i l.length ∧ ∃ (x : Int), nth (((natOf i).mul (2 : Nat)).add (0 : Nat)) (List.flatMap En.f l) = some (AV.int IntKind.i64 x) ∧ ∃ (x :
  Int), nth (((natOf i).mul (2 : Nat)).add (1 : Nat)) (List.flatMap En.f l) = some (AV.int IntKind.i64 x) ∧ (1 : Nat) ≤ (1 : Nat) ∧ True ∧ ((∃ (l_1 : List Near),
  Wk (AV.vs (List.flatMap En.f l) l.length l.length false none (2 : Nat)) (lst En l_1) ∧ ∃ (l : List Int), (WkL [AV.int IntKind.i64 x] (List.flatMap Ei64.f l) ∧
  (1 : Nat) = l.length ∧ (1 : Nat) = (1 : Nat)) ∧ true = true ∧ N ((l_1, n, wrapF IntKind.i64 (i.add (1 : Int)), l, ()), (), ())) ∨ ∃ (l_1 : List Near), Wk
  (AV.vs (List.flatMap En.f l) l.length l.length false none (2 : Nat)) (lst En l_1) ∧ False)) (True ∧ False ∨ True ∧ true = true ∧ R1 ((l, n, i, [], ()), (), ())
  ((), ()) ())) := by kernel_rfl

def ordInv : ordZ → Prop := fun ((l, (n, (i, (out, ())))), ((), ())) => ∃ k : Nat, i = k ∧ n = l.length ∧ k ≤ l.length ∧ l.length ≤ 4096 ∧ out = (l.take k).map fun x => x.2.1
def ordMu : ordZ → Nat := fun ((l, (n, (i, (out, ())))), ((), ())) => l.length - i.toNat
def ordR0 : ordZ → ((List Int) × Unit) → (Unit × Unit) → Prop := fun ((l, (n, (i, (out, ())))), ((), ())) (r, _) _ => r = l.map fun x => x.2.1
def ordR1 : ordZ → (Unit × Unit) → (Unit) → Prop := fun ((l, (n, (i, (out, ())))), ((), ())) _ _ => l = []
noncomputable def ordC : LoopC := loopC 0 ordFs (ordAlts ordR0 ordR1) ordInv

theorem ordStep : stepsOk Try.prog (KL [] []) 100 31 44 (loopBody Try.prog 31 8) 0 true ordFs (ordAlts ordR0 ordR1) ordInv ordMu ⟨_, _, ordSl, ordBl, fun x y => (x, y)⟩ := by
  intro x y hz
  obtain ⟨l, n, i, out, _⟩ := x
  obtain ⟨_, _⟩ := y
  refine (ordForm l n i out _ _ _).mpr ?_
  obtain ⟨k, rfl, rfl, hk, hl, rfl⟩ := hz
  have hol : ((l.take k).map fun x => x.2.1).length = k := by rw [List.length_map, List.length_take]; omega
  rw [ifp_lt]
  simp only [natOf_nat]
  split
  · rename_i h
    have hkl : k < l.length := by simpa using h
    refine ⟨idx_ok hkl, _, nth_near0 hkl, _, nth_near1 hkl, Nat.le_refl _, ?_⟩
    rw [ifp_pos (roomy_small (by simp only [Nat.add_eq]; omega) (by decide))]
    refine ⟨trivial, Or.inl ⟨l, Wk.refl _, (l.take (k + 1)).map fun x => x.2.1, ⟨?_, ?_, (by first | exact trivial | exact rfl)⟩, (by first | exact trivial | exact rfl), ?_⟩⟩
    · rw [map_take_succ hkl]; exact wkl_snoc (E := Ei64) (WkL.refl _)
    · rw [map_take_succ hkl]; exact len_snoc
    · rw [wsucc (by omega)]
      exact ⟨⟨k + 1, rfl, rfl, hkl, hl, rfl⟩, by show l.length - (k + 1) < l.length - k; omega, fun _ _ h => h, fun _ _ h => h, trivial⟩
  · rename_i h
    have hkl : ¬ k < l.length := by simpa using h
    exact Or.inl ⟨trivial, _, ⟨WkL.refl _, (by first | exact trivial | exact rfl), (by first | exact trivial | exact rfl)⟩, (by first | exact trivial | exact rfl), by show (l.take k).map _ = _; rw [take_all hkl]⟩
theorem ordStep0 : stepsOk Try.prog (KL [] []) 100 31 44 (loopBody Try.prog 31 8) 0 true ordFs (ordAlts ordR0 ordR1) ordInv ordMu ⟨_, _, ordSl0, ordBl0, ordZ0⟩ := by
  intro x y hz
  obtain ⟨l, n, i, _, _⟩ := x
  obtain _ := y
  refine (ordForm0 l n i _ _ _).mpr ?_
  obtain ⟨k, rfl, rfl, hk, hl, h0⟩ := hz
  obtain rfl : k = 0 := by have := congrArg List.length h0; rw [List.length_map, List.length_take] at this; simp at this; omega
  rw [ifp_lt]
  simp only [natOf_nat]
  split
  · rename_i h
    have hkl : 0 < l.length := by simpa using h
    refine ⟨idx_ok hkl, _, nth_near0 hkl, _, nth_near1 hkl, Nat.le_refl _, trivial, Or.inl ⟨l, Wk.refl _, (l.take 1).map fun x => x.2.1, ⟨?_, ?_, (by first | exact trivial | exact rfl)⟩, (by first | exact trivial | exact rfl), ?_⟩⟩
    · rw [map_take_succ hkl]; exact WkL.refl _
    · rw [List.length_map, List.length_take]; omega
    · rw [wsucc (by omega)]
      exact ⟨⟨1, rfl, rfl, hkl, hl, rfl⟩, by show l.length - 1 < l.length - 0; omega, fun _ _ h => h, fun _ _ h => h, trivial⟩
  · rename_i h
    exact Or.inr ⟨trivial, (by first | exact trivial | exact rfl), List.length_eq_zero_iff.1 (by simp at h; simp [h])⟩
theorem ordOk : LoopOk Try.prog 31 44 (.loop (loopBody Try.prog 31 8)) ordC := loop_ok ordMu mixed (KL_ok (cc_nil)) rfl (steps_cons ordStep (steps_cons ordStep0 (steps_nil)))

/-! wayfinder/wayfinderref13.Order -/
noncomputable def rordT : Tel ((List (List Int)) × (List Int) × Int × Unit) := .cons 0 (.lst Ell) (.cons 1 (.lst Ei32) (.cons 2 (.int .i64) (.nil)))

theorem rordFn (c : List (List Int)) (v : List Int) (n : Int) (Q : AV → Prop) : (callW Try.prog (runW Try.prog (KL [(38, rfarK)] [(36, [(8, rordC)])]) 200) 36 (rordT.cells id (c, (v, (n, ())))) (stE true) (fun x st => frzW st x Q)) =
  ( ∃ (l : List (List Int)), Wk (AV.vs (List.flatMap Ell.f c) c.length c.length false none (1 : Nat)) (lst Ell l) ∧ ∃ (l_1 : List Int), Wk (AV.vs (List.flatMap
  Ei32.f v) v.length v.length false none (1 : Nat)) (lst Ei32 l_1) ∧ rfarPre (l, l_1, ()) ∧ ifp (!eqInt (bothV l l_1) (0 : Int)) (Q (AV.tuple [AV.nilSlice,
  AV.int IntKind.i64 (bothV l l_1)])) (ifp (!leInt (0 : Int) n) (Q (AV.tuple [AV.nilSlice, AV.int IntKind.i64 (2 : Int)])) (LoopOk Try.prog (36 : FuncId) (43 :
  Nat) (loopBody Try.prog (36 : FuncId) (8 : Nat)).loop rordC ∧ True ∧ True ∧ ((∃ (l_2 : List Near), Wk (AV.vs (List.flatMap En.f (farV l l_1)) (farV l
  l_1).length (farV l l_1).length false none (2 : Nat)) (lst En l_2) ∧ False) ∨ ∃ (l_2 : List Near), Wk (AV.vs (List.flatMap En.f (farV l l_1)) (farV l
  l_1).length (farV l l_1).length false none (2 : Nat)) (lst En l_2) ∧ true = true ∧ rordInv ((n, l_2, [], (0 : Int), ()), (), ()) ∧ (∀ (c : List Int × Unit) (d
  : Unit × Unit), rordR0 ((n, l_2, [], (0 : Int), ()), (), ()) c d → Q (AV.tuple [AV.vs (List.flatMap Ei64.f c.1) c.1.length c.1.length false (some (0 : Nat)) (1
  : Nat), AV.int IntKind.i64 (0 : Int)])) ∧ (∀ (c : Unit × Unit) (d : Unit), rordR1 ((n, l_2, [], (0 : Int), ()), (), ()) c d → Q (AV.tuple [AV.nilSlice, AV.int
  IntKind.i64 (0 : Int)])) ∧ True)))) := by kernel_rfl

def rordPre : (List (List Int)) × (List Int) × Int × Unit → Prop := fun (c, (v, (n, ()))) => True
noncomputable def rordRes : (List (List Int)) × (List Int) × Int × Unit → AV := fun (c, (v, (n, ()))) => .tuple [lst Ei64 (ordL c v n), .int .i64 (ordE c v n)]
noncomputable def rordK : CallC := valC rordT rordPre rordRes

theorem rordVal (c : List (List Int)) (v : List Int) (n : Int) (hp : rordPre (c, (v, (n, ())))) : Val Try.prog 36 (rordT.cells id (c, (v, (n, ())))) (rordRes (c, (v, (n, ())))) := by
  refine Val.ofF mixed (KL_ok (cc_cons rfarCc (cc_nil))) (freesC rfl _) (rordFn c v n) ?_
  refine ⟨c, Wk.refl _, v, Wk.refl _, trivial, ?_⟩
  rw [ifp_ne, ifp_lt]
  split
  · rename_i h
    obtain ⟨h1, h2, h3⟩ := bothV_inv h
    obtain ⟨h4, h5, _⟩ := checkV_inv h1
    have hlen := farV_len h
    split
    · rename_i hn
      refine tells_tuple ⟨?_, tells_int (by rw [ordE, if_neg (by simp [h]), if_pos hn]), trivial⟩
      show Tells .nilSlice (lst Ei64 (ordL c v n))
      rw [ordL, show n.toNat = 0 by omega]; exact tells_nil _
    · rename_i hn
      have hn0 : 0 ≤ n := by omega
      have eE : ordE c v n = 0 := by rw [ordE, if_neg (by simp [h]), if_neg hn]
      refine ⟨rordOk, trivial, trivial, Or.inr ⟨_, Wk.refl _, (by first | exact trivial | exact rfl), ⟨0, rfl, hn0, Nat.zero_le _, Nat.zero_le _, by omega, by simp⟩, fun d _ hr => ?_, fun _ _ hr => ?_, trivial⟩⟩
      · obtain ⟨r, _⟩ := d
        have hr' : r = ordL c v n := hr
        exact tells_tuple ⟨tells_lst ⟨by rw [← hr'], by rw [← hr'], rfl⟩, tells_int eE.symm, trivial⟩
      · have hr' : (farV c v).take n.toNat = [] := hr
        refine tells_tuple ⟨?_, tells_int eE.symm, trivial⟩
        show Tells .nilSlice (lst Ei64 (ordL c v n))
        rw [ordL, hr']; exact tells_nil _
  · rename_i h
    refine tells_tuple ⟨?_, tells_int (by rw [ordE, if_pos h]), trivial⟩
    show Tells .nilSlice (lst Ei64 (ordL c v n))
    rw [ordL, farV, if_neg h, List.take_nil]; exact tells_nil _
theorem rordCc : CcOk Try.prog 36 rordK := val_ok rfl (fun ⟨c, ⟨v, ⟨n, _⟩⟩⟩ h => rordVal c v n h)

/-! wayfinder/cell.Order -/
noncomputable def ordT : Tel ((List (List Int)) × (List Int) × Int × Unit) := .cons 0 (.lst Ell) (.cons 1 (.lst Ei32) (.cons 2 (.int .i64) (.nil)))

theorem ordFn (c : List (List Int)) (v : List Int) (n : Int) (Q : AV → Prop) : (callW Try.prog (runW Try.prog (KL [(37, farK)] [(31, [(8, ordC)])]) 200) 31 (ordT.cells id (c, (v, (n, ())))) (stE true) (fun x st => frzW st x Q)) =
  ( ∃ (l : List (List Int)), Wk (AV.vs (List.flatMap Ell.f c) c.length c.length false none (1 : Nat)) (lst Ell l) ∧ ∃ (l_1 : List Int), Wk (AV.vs (List.flatMap
  Ei32.f v) v.length v.length false none (1 : Nat)) (lst Ei32 l_1) ∧ farPre (l, l_1, ()) ∧ ifp (!eqInt (bothV l l_1) (0 : Int)) (Q (AV.tuple [AV.nilSlice, AV.int
  IntKind.i64 (bothV l l_1)])) (ifp (!leInt (0 : Int) n) (Q (AV.tuple [AV.nilSlice, AV.int IntKind.i64 (2 : Int)])) ((0 : Int) ≤ ifb (leInt n (Int.ofNat (farV l
  l_1).length)) n (Int.ofNat (farV l l_1).length) ∧ ifb (leInt n (Int.ofNat (farV l l_1).length)) n (Int.ofNat (farV l l_1).length) ≤ ↑(farV l l_1).length ∧
  natOf (ifb true (ifb (leInt n (Int.ofNat (farV l l_1).length)) n (Int.ofNat (farV l l_1).length)) (ifb (leInt (Int.ofNat (farV l l_1).length) n) n (Int.ofNat
  (farV l l_1).length))) ≤ (farV l l_1).length ∧ (List.flatMap En.f (farV l l_1)).length = (farV l l_1).length.mul (2 : Nat) ∧ LoopOk Try.prog (31 : FuncId) (44
  : Nat) (loopBody Try.prog (31 : FuncId) (8 : Nat)).loop ordC ∧ True ∧ True ∧ ((∃ (l_2 : List Near), Wk (AV.vs (List.take (((natOf (ifb true (ifb (leInt n
  (Int.ofNat (farV l l_1).length)) n (Int.ofNat (farV l l_1).length)) (ifb (leInt (Int.ofNat (farV l l_1).length) n) n (Int.ofNat (farV l l_1).length)))).sub (0
  : Nat)).mul (2 : Nat)) (List.drop (0 : Nat) (List.flatMap En.f (farV l l_1)))) ((natOf (ifb true (ifb (leInt n (Int.ofNat (farV l l_1).length)) n (Int.ofNat
  (farV l l_1).length)) (ifb (leInt (Int.ofNat (farV l l_1).length) n) n (Int.ofNat (farV l l_1).length)))).sub (0 : Nat)) ((farV l l_1).length.sub (0 : Nat))
  (mxEx none false) none (2 : Nat)) (lst En l_2) ∧ False) ∨ ∃ (l_2 : List Near), Wk (AV.vs (List.take (((natOf (ifb true (ifb (leInt n (Int.ofNat (farV l
  l_1).length)) n (Int.ofNat (farV l l_1).length)) (ifb (leInt (Int.ofNat (farV l l_1).length) n) n (Int.ofNat (farV l l_1).length)))).sub (0 : Nat)).mul (2 :
  Nat)) (List.drop (0 : Nat) (List.flatMap En.f (farV l l_1)))) ((natOf (ifb true (ifb (leInt n (Int.ofNat (farV l l_1).length)) n (Int.ofNat (farV l
  l_1).length)) (ifb (leInt (Int.ofNat (farV l l_1).length) n) n (Int.ofNat (farV l l_1).length)))).sub (0 : Nat)) ((farV l l_1).length.sub (0 : Nat)) (mxEx none
  false) none (2 : Nat)) (lst En l_2) ∧ true = true ∧ ordInv ((l_2, Int.ofNat ((natOf (ifb true (ifb (leInt n (Int.ofNat (farV l l_1).length)) n (Int.ofNat (farV
  l l_1).length)) (ifb (leInt (Int.ofNat (farV l l_1).length) n) n (Int.ofNat (farV l l_1).length)))).sub (0 : Nat)), (0 : Int), [], ()), (), ()) ∧ (∀ (c : List
  Int × Unit) (d : Unit × Unit), ordR0 ((l_2, Int.ofNat ((natOf (ifb true (ifb (leInt n (Int.ofNat (farV l l_1).length)) n (Int.ofNat (farV l l_1).length)) (ifb
  (leInt (Int.ofNat (farV l l_1).length) n) n (Int.ofNat (farV l l_1).length)))).sub (0 : Nat)), (0 : Int), [], ()), (), ()) c d → Q (AV.tuple [AV.vs
  (List.flatMap Ei64.f c.1) c.1.length c.1.length false (some (0 : Nat)) (1 : Nat), AV.int IntKind.i64 (0 : Int)])) ∧ (∀ (c : Unit × Unit) (d : Unit), ordR1
  ((l_2, Int.ofNat ((natOf (ifb true (ifb (leInt n (Int.ofNat (farV l l_1).length)) n (Int.ofNat (farV l l_1).length)) (ifb (leInt (Int.ofNat (farV l
  l_1).length) n) n (Int.ofNat (farV l l_1).length)))).sub (0 : Nat)), (0 : Int), [], ()), (), ()) c d → Q (AV.tuple [AV.nilSlice, AV.int IntKind.i64 (0 :
  Int)])) ∧ True)))) := by kernel_rfl

def ordPre : (List (List Int)) × (List Int) × Int × Unit → Prop := fun (c, (v, (n, ()))) => True
noncomputable def ordRes : (List (List Int)) × (List Int) × Int × Unit → AV := fun (c, (v, (n, ()))) => .tuple [lst Ei64 (ordL c v n), .int .i64 (ordE c v n)]
noncomputable def ordK : CallC := valC ordT ordPre ordRes

theorem ordVal (c : List (List Int)) (v : List Int) (n : Int) (hp : ordPre (c, (v, (n, ())))) : Val Try.prog 31 (ordT.cells id (c, (v, (n, ())))) (ordRes (c, (v, (n, ())))) := by
  refine Val.ofF mixed (KL_ok (cc_cons farCc (cc_nil))) (freesC rfl _) (ordFn c v n) ?_
  refine ⟨c, Wk.refl _, v, Wk.refl _, trivial, ?_⟩
  rw [ifp_ne, ifp_lt]
  split
  · rename_i h
    obtain ⟨h1, h2, h3⟩ := bothV_inv h
    obtain ⟨h4, h5, _⟩ := checkV_inv h1
    have hlen := farV_len h
    split
    · rename_i hn
      refine tells_tuple ⟨?_, tells_int (by rw [ordE, if_neg (by simp [h]), if_pos hn]), trivial⟩
      show Tells .nilSlice (lst Ei64 (ordL c v n))
      rw [ordL, show n.toNat = 0 by omega]; exact tells_nil _
    · rename_i hn
      have hn0 : 0 ≤ n := by omega
      have eE : ordE c v n = 0 := by rw [ordE, if_neg (by simp [h]), if_neg hn]
      have hj : min n.toNat (farV c v).length ≤ (farV c v).length := Nat.min_le_right _ _
      have etk : (farV c v).take (min n.toNat (farV c v).length) = (farV c v).take n.toNat  := by
        rcases Nat.le_total n.toNat (farV c v).length with q | q
        · rw [Nat.min_eq_left q]
        · rw [Nat.min_eq_right q, List.take_length, List.take_of_length_le q]
      have hjl : ((farV c v).take (min n.toNat (farV c v).length)).length = min n.toNat (farV c v).length := by rw [List.length_take]; omega
      simp only [ifb_true, ifb_min hn0, natOf_nat]
      refine ⟨by omega, by omega, hj, near_len _, ordOk, trivial, trivial, Or.inr ⟨(farV c v).take (min n.toNat (farV c v).length), wk_near_take hj, (by first | exact trivial | exact rfl), ⟨0, rfl, by rw [hjl]; rfl, Nat.zero_le _, by omega, by simp⟩, fun d _ hr => ?_, fun _ _ hr => ?_, trivial⟩⟩
      · obtain ⟨r, _⟩ := d
        have hr' : r = ordL c v n := by rw [ordL, ← etk]; exact hr
        exact tells_tuple ⟨tells_lst ⟨by rw [← hr'], by rw [← hr'], rfl⟩, tells_int eE.symm, trivial⟩
      · have hr' : (farV c v).take n.toNat = [] := etk ▸ hr
        refine tells_tuple ⟨?_, tells_int eE.symm, trivial⟩
        show Tells .nilSlice (lst Ei64 (ordL c v n))
        rw [ordL, hr']; exact tells_nil _
  · rename_i h
    refine tells_tuple ⟨?_, tells_int (by rw [ordE, if_pos h]), trivial⟩
    show Tells .nilSlice (lst Ei64 (ordL c v n))
    rw [ordL, farV, if_neg h, List.take_nil]; exact tells_nil _
theorem ordCc : CcOk Try.prog 31 ordK := val_ok rfl (fun ⟨c, ⟨v, ⟨n, _⟩⟩⟩ h => ordVal c v n h)

/-! wayfinder/wayfinderref13.Nearest -/
noncomputable def rnearT : Tel ((List (List Int)) × (List Int) × Unit) := .cons 0 (.lst Ell) (.cons 1 (.lst Ei32) (.nil))

theorem rnearFn (c : List (List Int)) (v : List Int) (Q : AV → Prop) : (callW Try.prog (runW Try.prog (KL [(38, rfarK)] []) 200) 35 (rnearT.cells id (c, (v, ()))) (stE false) (fun x st => frzW st x Q)) =
  ( ∃ (l : List (List Int)), Wk (AV.vs (List.flatMap Ell.f c) c.length c.length false none (1 : Nat)) (lst Ell l) ∧ ∃ (l_1 : List Int), Wk (AV.vs (List.flatMap
  Ei32.f v) v.length v.length false none (1 : Nat)) (lst Ei32 l_1) ∧ rfarPre (l, l_1, ()) ∧ ifp (!eqInt (bothV l l_1) (0 : Int)) (Q (AV.tuple [AV.int IntKind.i64
  (0 : Int), AV.int IntKind.i64 (0 : Int), AV.int IntKind.i64 (bothV l l_1)])) (idxOk (0 : Int) (farV l l_1).length ∧ ∃ (x : Int), nth (1 : Nat) (List.flatMap
  En.f (farV l l_1)) = some (AV.int IntKind.i64 x) ∧ idxOk (0 : Int) (farV l l_1).length ∧ ∃ (x_1 : Int), nth (0 : Nat) (List.flatMap En.f (farV l l_1)) = some
  (AV.int IntKind.i64 x_1) ∧ True ∧ True ∧ Q (AV.tuple [AV.int IntKind.i64 x, AV.int IntKind.i64 x_1, AV.int IntKind.i64 (0 : Int)]))) := by kernel_rfl

def rnearPre : (List (List Int)) × (List Int) × Unit → Prop := fun (c, (v, ())) => True
noncomputable def rnearRes : (List (List Int)) × (List Int) × Unit → AV := fun (c, (v, ())) => .tuple [.int .i64 (nearV c v).1, .int .i64 (nearV c v).2, .int .i64 (bothV c v)]
noncomputable def rnearK : CallC := valC rnearT rnearPre rnearRes

theorem rnearVal (c : List (List Int)) (v : List Int) (hp : rnearPre (c, (v, ()))) : Val Try.prog 35 (rnearT.cells id (c, (v, ()))) (rnearRes (c, (v, ()))) := by
  refine Val.ofF mixed (KL_ok (cc_cons rfarCc (cc_nil))) (freesC rfl _) (rnearFn c v) ?_
  refine ⟨c, Wk.refl _, v, Wk.refl _, trivial, ?_⟩
  rw [ifp_ne]
  split
  · rename_i h
    obtain ⟨h1, h2, h3⟩ := bothV_inv h
    obtain ⟨h4, h5, _⟩ := checkV_inv h1
    have hlen := farV_len h
    have h0 : 0 < (farV c v).length := by omega
    have e := far_head h h0
    have e0 : nth 0 ((farV c v).flatMap En.f) = some (.int .i64 (farV c v)[0].1) := nth_near0 (k := 0) h0
    have e1 : nth 1 ((farV c v).flatMap En.f) = some (.int .i64 (farV c v)[0].2.1) := nth_near1 (k := 0) h0
    rw [e] at e0 e1
    refine ⟨idx_ok0 h0, _, e1, idx_ok0 h0, _, e0, trivial, trivial, ?_⟩
    exact tells_tuple ⟨tells_int rfl, tells_int rfl, tells_int h.symm, trivial⟩
  · rename_i h
    have e : nearV c v = (0, 0) := by rw [nearV, if_neg h]
    exact tells_tuple ⟨tells_int (by rw [e]), tells_int (by rw [e]), tells_int rfl, trivial⟩
theorem rnearCc : CcOk Try.prog 35 rnearK := val_ok rfl (fun ⟨c, ⟨v, _⟩⟩ h => rnearVal c v h)

theorem add_byte {a x : Int} {k : Nat} (ha : 0 ≤ a ∧ a < 256 ^ k) (hx : 0 ≤ x ∧ x < 256) (hk : k < 8) : wrapF .u64 (Int.add a (shlV .u64 (wrapF .u64 x) ((8 * k : Nat) : Int))) = a + x * 256 ^ k := by
  obtain ⟨A, rfl⟩ := Int.eq_ofNat_of_zero_le ha.1
  obtain ⟨X, rfl⟩ := Int.eq_ofNat_of_zero_le hx.1
  have hp : 256 ^ (k + 1) ≤ 256 ^ 8 := Nat.pow_le_pow_right (by decide) (by omega)
  have hA : A < 256 ^ k := by have := ha.2; rw [← pow_int] at this; omega
  have hX : X < 256 := by omega
  have hq : 256 ^ (k + 1) = 256 ^ k * 256 := Nat.pow_succ ..
  have hXk : X * 256 ^ k ≤ 255 * 256 ^ k := Nat.mul_le_mul_right _ (by omega)
  have hsum : A + X * 256 ^ k < 18446744073709551616 := by
    have : (256 : Nat) ^ 8 = 18446744073709551616 := by decide
    omega
  have e1 : wrapF .u64 (X : Int) = X := wu64 (by omega) (by omega)
  have e2 : shlV .u64 (X : Int) ((8 * k : Nat) : Int) = ((X * 256 ^ k : Nat) : Int) := by
    show wrapF .u64 (Int.mul (X : Int) (.ofNat (Nat.pow 2 (ifb (Nat.ble (8 * k) 64) (8 * k) 64)))) = _
    rw [show Nat.ble (8 * k) 64 = true from ble_t (by omega), ifb_true]
    rw [show Nat.pow 2 (8 * k) = 256 ^ k by show 2 ^ (8 * k) = _; rw [Nat.pow_mul]]
    rw [show Int.mul (X : Int) (Int.ofNat (256 ^ k)) = ((X * 256 ^ k : Nat) : Int) by rw [Int.natCast_mul]; rfl]
    exact wu64 (by omega) (by omega)
  rw [e1, e2, show Int.add (A : Int) ((X * 256 ^ k : Nat) : Int) = ((A + X * 256 ^ k : Nat) : Int) from rfl, wu64 (by omega) (by omega), Int.natCast_add, Int.natCast_mul, pow_int]
theorem mul8u {k : Nat} (hk : k ≤ 100) : wrapF .u64 (wrapF .i64 (Int.mul 8 (k : Int))) = ((8 * k : Nat) : Int) := by rw [mul8 (by omega), wu64 (by omega) (by omega)]
theorem fm_snoc {α β : Type} (f : α → List β) (l : List α) (x : α) : (l ++ [x]).flatMap f = l.flatMap f ++ f x := by simp
theorem sub_wk {α : Type} {E : Enc α} (he : E.e = 1) {l : List α} {p d c : Nat} {x : Bool} (h : p + d ≤ l.length) : Wk (.vs (((l.flatMap E.f).drop (Nat.mul p 1)).take (Nat.mul ((p + d).sub p) 1)) ((p + d).sub p) c x none 1) (lst E ((l.drop p).take d)) := by
  refine wk_vs ⟨?_, ?_, he.symm⟩
  · rw [show Nat.mul p 1 = p from Nat.mul_one p, show Nat.mul ((p + d).sub p) 1 = d by show ((p + d) - p) * 1 = d; omega, fdrop1 he, ftake1 he]
  · rw [List.length_take, List.length_drop]; show (p + d) - p = _; omega
theorem flat_len {c : List (List Int)} : (∀ x ∈ c, x.length ≤ 1024) → c.flatten.length ≤ c.length * 1024 := by
  induction c with
  | nil => intro _; simp
  | cons x c ih =>
    intro h
    have h1 := h x (by simp)
    have h2 := ih (fun y hy => h y (by simp [hy]))
    rw [List.flatten_cons, List.length_append, List.length_cons]; omega
theorem chunk_range {b : List Int} {N D p : Nat} (h : p < N) : chunkAt D ((List.range (N * D)).map (num4 b)) p = (List.range D).map fun j => num4 b (p * D + j) := by
  have h1 := le_mul_of (d := D) h
  apply List.ext_getElem
  · rw [chunkAt_len (by simp; omega)]; simp
  · intro j h2 h3
    simp at h3
    simp [chunkAt]

/-! The loop rput of wayfinder/wayfinderref01.Put. -/
abbrev rputZ := (Int × Int × (List Int) × Int × Unit) × (Unit × Unit)
noncomputable def rputSl : Tel (Int × Int × (List Int) × Int × Unit) := .cons 1 (.int .u64) (.cons 2 (.int .i64) (.cons 7 (.own Eu8 0) (.cons 8 (.int .i64) (.nil))))
noncomputable def rputBl : BTel (Unit × Unit) := .cons (.spare) (.nil)
noncomputable def rputFs : List (LForm rputZ) := [⟨_, _, rputSl, rputBl, fun x y => (x, y)⟩]
noncomputable def rputAlts (R0 : rputZ → ((List Int) × Unit) → (Unit × Unit) → Prop) : List (Alt rputZ) := [⟨.exit 0, (List Int) × Unit, Unit × Unit, .cons 7 (.own Eu8 0) (.nil), .cons (.spare) (.nil), R0⟩]

theorem rputForm (n : Int) (w : Int) (out : List Int) (i : Int) (N : rputZ → Prop) (R0 : rputZ → ((List Int) × Unit) → (Unit × Unit) → Prop) : ((runW Try.prog (KL [] []) 100).code none 76 31 (loopBody Try.prog 76 3) (mkT (rputSl.av id (n, (w, (out, (i, ())))))) [] (stL true (rputBl.obs id ((), ()))) (postL 0 rputFs (rputAlts R0) ((n, (w, (out, (i, ())))), ((), ())) N)) =
  ( ifp (!leInt w i) (ifp (!leInt (8 : Int) i) ((0 : Int) ≤ wrapF IntKind.u64 (wrapF IntKind.i64 (Int.mul (8 : Int) i)) ∧ (1 : Nat) ≤ (1 : Nat) ∧ ifp (roomy
  (out.length.add (1 : Nat)) (1 : Nat)) (True ∧ ∃ (l : List Int), (WkL (List.flatMap Eu8.f out ++ [AV.int IntKind.u8 (wrapF IntKind.u8 (shrV IntKind.u64 n (wrapF
  IntKind.u64 (wrapF IntKind.i64 (Int.mul (8 : Int) i)))))]) (List.flatMap Eu8.f l) ∧ out.length.add (1 : Nat) = l.length ∧ (1 : Nat) = (1 : Nat)) ∧ true = true
  ∧ N ((n, w, l, wrapF IntKind.i64 (i.add (1 : Int)), ()), (), ())) False) (True ∧ ∃ (l : List Int), (WkL (List.flatMap Eu8.f out) (List.flatMap Eu8.f l) ∧
  out.length = l.length ∧ (1 : Nat) = (1 : Nat)) ∧ true = true ∧ R0 ((n, w, out, i, ()), (), ()) (l, ()) ((), ()))) (True ∧ ∃ (l : List Int), (WkL (List.flatMap
  Eu8.f out) (List.flatMap Eu8.f l) ∧ out.length = l.length ∧ (1 : Nat) = (1 : Nat)) ∧ true = true ∧ R0 ((n, w, out, i, ()), (), ()) (l, ()) ((), ()))) := by kernel_rfl

def rputInv : rputZ → Prop := fun ((n, (w, (out, (i, ())))), ((), ())) => ∃ k w2 : Nat, i = k ∧ w = w2 ∧ k ≤ w2 ∧ w2 ≤ 8 ∧ 0 ≤ n ∧ out.length ≤ 100000000 + k
def rputMu : rputZ → Nat := fun ((n, (w, (out, (i, ())))), ((), ())) => w.toNat - i.toNat
def rputR0 : rputZ → ((List Int) × Unit) → (Unit × Unit) → Prop := fun ((n, (w, (out, (i, ())))), ((), ())) (r, _) _ => r = out ++ (putV n w.toNat).drop i.toNat
noncomputable def rputC : LoopC := loopC 0 rputFs (rputAlts rputR0) rputInv

theorem rputStep : stepsOk Try.prog (KL [] []) 100 76 31 (loopBody Try.prog 76 3) 0 true rputFs (rputAlts rputR0) rputInv rputMu ⟨_, _, rputSl, rputBl, fun x y => (x, y)⟩ := by
  intro x y hz
  obtain ⟨n, w, out, i, _⟩ := x
  obtain ⟨_, _⟩ := y
  refine (rputForm n w out i _ _).mpr ?_
  obtain ⟨k, w2, rfl, rfl, hk, hw, hn, ho⟩ := hz
  have ew := mul8u (k := k) (by omega)
  rw [ifp_lt]
  split
  · rename_i h
    have hkw : k < w2 := by omega
    rw [ifp_lt, if_pos (by omega), ew]
    refine ⟨by omega, Nat.le_refl _, ?_⟩
    rw [ifp_pos (roomy_small (by simp only [Nat.add_eq]; omega) (by decide))]
    refine ⟨trivial, out ++ [(n / 256 ^ k) % 256], ⟨wkl_snoc ⟨by rw [shr_byte hn (by omega)]; exact Wk.refl _, trivial⟩, len_snoc, (by first | exact trivial | exact rfl)⟩, (by first | exact trivial | exact rfl), ?_⟩
    rw [wsucc (by omega)]
    refine ⟨⟨k + 1, w2, rfl, rfl, hkw, hw, hn, by rw [List.length_append]; simp; omega⟩, by show w2 - (k + 1) < w2 - k; omega, fun c _ hr => ?_, trivial⟩
    obtain ⟨r, _⟩ := c
    have hr' : r = (out ++ [(n / 256 ^ k) % 256]) ++ (putV n w2).drop (k + 1) := hr
    show r = out ++ (putV n w2).drop k
    rw [hr', putV_drop hkw, List.append_assoc]; rfl
  · rename_i h
    refine ⟨trivial, out, ⟨WkL.refl _, (by first | exact trivial | exact rfl), (by first | exact trivial | exact rfl)⟩, (by first | exact trivial | exact rfl), ?_⟩
    show out = out ++ (putV n w2).drop k
    rw [List.drop_of_length_le (by rw [putV_len]; omega), List.append_nil]
theorem rputOk : LoopOk Try.prog 76 31 (.loop (loopBody Try.prog 76 3)) rputC := loop_ok rputMu mixed (KL_ok (cc_nil)) rfl (steps_cons rputStep (steps_nil))

/-! wayfinder/wayfinderref01.Put -/
noncomputable def rputT : Tel ((List Int) × Int × Int × Unit) := .cons 0 (.lst Eu8) (.cons 1 (.int .u64) (.cons 2 (.int .i64) (.nil)))

theorem rputFn (b : List Int) (n : Int) (w : Int) (Q : AV → Prop) : (callW Try.prog (runW Try.prog (KL [] [(76, [(3, rputC)])]) 200) 76 (rputT.cells id (b, (n, (w, ())))) (stE true) (fun x st => frzW st x Q)) =
  ( (List.flatMap Eu8.f b).length = b.length.mul (1 : Nat) ∧ ifp (allScalar (List.flatMap Eu8.f b) && true) (ifp (roomy (Nat.add (0 : Nat) b.length) (1 : Nat))
  (LoopOk Try.prog (76 : FuncId) (31 : Nat) (loopBody Try.prog (76 : FuncId) (3 : Nat)).loop rputC ∧ True ∧ True ∧ ∃ (l : List Int), (WkL ([] ++ List.flatMap
  Eu8.f b) (List.flatMap Eu8.f l) ∧ Nat.add (0 : Nat) b.length = l.length ∧ (1 : Nat) = (1 : Nat)) ∧ true = true ∧ rputInv ((n, w, l, (0 : Int), ()), (), ()) ∧
  (∀ (c : List Int × Unit) (d : Unit × Unit), rputR0 ((n, w, l, (0 : Int), ()), (), ()) c d → Q (AV.vs (List.flatMap Eu8.f c.1) c.1.length c.1.length false (some
  (2 : Nat)) (1 : Nat))) ∧ True) False) False) := by kernel_rfl

def rputPre : (List Int) × Int × Int × Unit → Prop := fun (b, (n, (w, ()))) => 0 ≤ n ∧ n < 18446744073709551616 ∧ 0 ≤ w ∧ w ≤ 8 ∧ b.length ≤ 100000000
noncomputable def rputRes : (List Int) × Int × Int × Unit → AV := fun (b, (n, (w, ()))) => lst Eu8 (b ++ putV n w.toNat)
noncomputable def rputK : CallC := valC rputT rputPre rputRes

theorem rputVal (b : List Int) (n : Int) (w : Int) (hp : rputPre (b, (n, (w, ())))) : Val Try.prog 76 (rputT.cells id (b, (n, (w, ())))) (rputRes (b, (n, (w, ())))) := by
  refine Val.ofF mixed (KL_ok (cc_nil)) (freesC rfl _) (rputFn b n w) ?_
  obtain ⟨p1, p2, p3, p4, p5⟩ := hp
  refine ⟨Enc.flen Eu8 b, ?_⟩
  rw [ifp_pos (by rw [Enc.fscal Eu8]; rfl), ifp_pos (roomy_small (by simp only [Nat.add_eq]; omega) (by decide))]
  refine ⟨rputOk, trivial, trivial, b, ⟨by simpa using WkL.refl _, by simp, (by first | exact trivial | exact rfl)⟩, (by first | exact trivial | exact rfl), ⟨0, w.toNat, rfl, by omega, by omega, by omega, p1, by omega⟩, fun c _ hr => ?_, trivial⟩
  obtain ⟨r, _⟩ := c
  have hr' : r = b ++ (putV n w.toNat).drop 0 := hr
  obtain rfl : r = b ++ putV n w.toNat := by rw [hr']; rfl
  exact tells_lst ⟨rfl, rfl, rfl⟩
theorem rputCc : CcOk Try.prog 76 rputK := val_ok rfl (fun ⟨b, ⟨n, ⟨w, _⟩⟩⟩ h => rputVal b n w h)

/-! The loop rof of wayfinder/wayfinderref01.Of. -/
abbrev rofZ := ((List Int) × Int × Int × Unit) × (Unit)
noncomputable def rofSl : Tel ((List Int) × Int × Int × Unit) := .cons 0 (.lst Eu8) (.cons 3 (.int .u64) (.cons 4 (.int .i64) (.nil)))
noncomputable def rofBl : BTel (Unit) := .nil
noncomputable def rofFs : List (LForm rofZ) := [⟨_, _, rofSl, rofBl, fun x y => (x, y)⟩]
noncomputable def rofAlts (R0 : rofZ → (Int × Unit) → (Unit) → Prop) : List (Alt rofZ) := [⟨.exit 0, Int × Unit, Unit, .cons 3 (.int .u64) (.nil), .nil, R0⟩]

theorem rofForm (b : List Int) (a : Int) (i : Int) (N : rofZ → Prop) (R0 : rofZ → (Int × Unit) → (Unit) → Prop) : ((runW Try.prog (KL [] []) 100).code none 69 27 (loopBody Try.prog 69 3) (mkT (rofSl.av id (b, (a, (i, ()))))) [] (stL false (rofBl.obs id ())) (postL 0 rofFs (rofAlts R0) ((b, (a, (i, ()))), ()) N)) =
  ( ifp (!leInt (Int.ofNat b.length) i) (ifp (!leInt (8 : Int) i) (idxOk i b.length ∧ ∃ (x : Int), nth ((natOf i).mul (1 : Nat)) (List.flatMap Eu8.f b) = some
  (AV.int IntKind.u8 x) ∧ (0 : Int) ≤ wrapF IntKind.u64 (wrapF IntKind.i64 (Int.mul (8 : Int) i)) ∧ True ∧ ∃ (l : List Int), Wk (AV.vs (List.flatMap Eu8.f b)
  b.length b.length false none (1 : Nat)) (lst Eu8 l) ∧ true = true ∧ N ((l, wrapF IntKind.u64 (a.add (shlV IntKind.u64 (wrapF IntKind.u64 x) (wrapF IntKind.u64
  (wrapF IntKind.i64 (Int.mul (8 : Int) i))))), wrapF IntKind.i64 (i.add (1 : Int)), ()), ())) (True ∧ true = true ∧ R0 ((b, a, i, ()), ()) (a, ()) ())) (True ∧
  true = true ∧ R0 ((b, a, i, ()), ()) (a, ()) ())) := by kernel_rfl

def rofInv : rofZ → Prop := fun ((b, (a, (i, ()))), ()) => ∃ k : Nat, i = k ∧ k ≤ 8 ∧ k ≤ b.length ∧ b.length < 9223372036854775807 ∧ bytesOk b ∧ a = ofV (b.take k)
def rofMu : rofZ → Nat := fun ((b, (a, (i, ()))), ()) => b.length - i.toNat
def rofR0 : rofZ → (Int × Unit) → (Unit) → Prop := fun ((b, (a, (i, ()))), ()) (r, _) _ => r = ofB b
noncomputable def rofC : LoopC := loopC 0 rofFs (rofAlts rofR0) rofInv

theorem rofStep : stepsOk Try.prog (KL [] []) 100 69 27 (loopBody Try.prog 69 3) 0 false rofFs (rofAlts rofR0) rofInv rofMu ⟨_, _, rofSl, rofBl, fun x y => (x, y)⟩ := by
  intro x y hz
  obtain ⟨b, a, i, _⟩ := x
  obtain _ := y
  refine (rofForm b a i _ _).mpr ?_
  obtain ⟨k, rfl, hk8, hk, hl, hx, rfl⟩ := hz
  rw [ifp_lt]
  split
  · rename_i h
    have hkb : k < b.length := by simpa using h
    rw [ifp_lt]
    split
    · rename_i h8
      have ew := mul8u (k := k) (by omega)
      simp only [natOf_nat, ew]
      refine ⟨idx_ok hkb, _, nth_int hkb, by omega, trivial, b, Wk.refl _, (by first | exact trivial | exact rfl), ?_⟩
      have hr := ofV_range (l := b.take k) (fun x hx' => hx x (List.mem_of_mem_take hx'))
      rw [show (b.take k).length = k by rw [List.length_take]; omega] at hr
      rw [add_byte hr (hx _ (List.getElem_mem hkb)) (by omega), wsucc (by omega)]
      refine ⟨⟨k + 1, rfl, by omega, hkb, hl, hx, ?_⟩, by show b.length - (k + 1) < b.length - k; omega, fun _ _ h => h, trivial⟩
      rw [← List.take_append_getElem hkb, ofV_append, show (b.take k).length = k by rw [List.length_take]; omega]
    · rename_i h8
      refine ⟨trivial, (by first | exact trivial | exact rfl), ?_⟩
      show ofV (b.take k) = ofV (b.take 8)
      rw [show k = 8 by omega]
  · rename_i h
    have hkb : ¬ k < b.length := by simpa using h
    refine ⟨trivial, (by first | exact trivial | exact rfl), ?_⟩
    show ofV (b.take k) = ofV (b.take 8)
    rw [take_all hkb, List.take_of_length_le (by omega)]
theorem rofOk : LoopOk Try.prog 69 27 (.loop (loopBody Try.prog 69 3)) rofC := loop_ok rofMu mixed (KL_ok (cc_nil)) rfl (steps_cons rofStep (steps_nil))

/-! wayfinder/wayfinderref01.Of -/
noncomputable def rofT : Tel ((List Int) × Unit) := .cons 0 (.lst Eu8) (.nil)

theorem rofFn (b : List Int) (Q : AV → Prop) : (callW Try.prog (runW Try.prog (KL [] [(69, [(3, rofC)])]) 200) 69 (rofT.cells id (b, ())) (stE false) (fun x st => frzW st x Q)) =
  ( LoopOk Try.prog (69 : FuncId) (27 : Nat) (loopBody Try.prog (69 : FuncId) (3 : Nat)).loop rofC ∧ True ∧ True ∧ ∃ (l : List Int), Wk (AV.vs (List.flatMap Eu8.f
  b) b.length b.length false none (1 : Nat)) (lst Eu8 l) ∧ true = true ∧ rofInv ((l, (0 : Int), (0 : Int), ()), ()) ∧ (∀ (c : Int × Unit) (d : Unit), rofR0 ((l,
  (0 : Int), (0 : Int), ()), ()) c d → Q (AV.int IntKind.u64 c.1)) ∧ True) := by kernel_rfl

def rofPre : (List Int) × Unit → Prop := fun (b, ()) => bytesOk b ∧ b.length < 9223372036854775807
noncomputable def rofRes : (List Int) × Unit → AV := fun (b, ()) => .int .u64 (ofB b)
noncomputable def rofK : CallC := valC rofT rofPre rofRes

theorem rofVal (b : List Int) (hp : rofPre (b, ())) : Val Try.prog 69 (rofT.cells id (b, ())) (rofRes (b, ())) := by
  refine Val.ofF mixed (KL_ok (cc_nil)) (freesC rfl _) (rofFn b) ?_
  obtain ⟨hx, hl⟩ := hp
  refine ⟨rofOk, trivial, trivial, b, Wk.refl _, (by first | exact trivial | exact rfl), ⟨0, rfl, Nat.zero_le _, Nat.zero_le _, hl, hx, rfl⟩, fun c _ hr => ?_, trivial⟩
  obtain ⟨r, _⟩ := c
  exact tells_int hr
theorem rofCc : CcOk Try.prog 69 rofK := val_ok rfl (fun ⟨b, _⟩ h => rofVal b h)

/-! wayfinder/wayfinderref01.Signed -/
noncomputable def rsgnT : Tel (Int × Int × Unit) := .cons 0 (.int .u64) (.cons 1 (.int .i64) (.nil))

theorem rsgnFn (n : Int) (w : Int) (Q : AV → Prop) : (callW Try.prog (runW Try.prog (KL [] []) 200) 68 (rsgnT.cells id (n, (w, ()))) (stE false) (fun x st => frzW st x Q)) =
  ( ifp (!leInt (1 : Int) w) (Q (AV.int IntKind.i64 (0 : Int))) (ifp (leInt (8 : Int) w) (Q (AV.int IntKind.i64 (wrapF IntKind.i64 n))) ((0 : Int) ≤ wrapF
  IntKind.u64 (wrapF IntKind.i64 (Int.mul (8 : Int) w)) ∧ shlV IntKind.u64 (1 : Int) (wrapF IntKind.u64 (wrapF IntKind.i64 (Int.mul (8 : Int) w))) ≠ (0 : Int) ∧
  (0 : Int) ≤ wrapF IntKind.u64 (wrapF IntKind.i64 ((wrapF IntKind.i64 (Int.mul (8 : Int) w)).sub (1 : Int))) ∧ ifp (leInt (shlV IntKind.u64 (1 : Int) (wrapF
  IntKind.u64 (wrapF IntKind.i64 ((wrapF IntKind.i64 (Int.mul (8 : Int) w)).sub (1 : Int))))) (n.tmod (shlV IntKind.u64 (1 : Int) (wrapF IntKind.u64 (wrapF
  IntKind.i64 (Int.mul (8 : Int) w)))))) ((0 : Int) ≤ wrapF IntKind.u64 (wrapF IntKind.i64 (Int.mul (8 : Int) w)) ∧ Q (AV.int IntKind.i64 (wrapF IntKind.i64
  ((wrapF IntKind.i64 (n.tmod (shlV IntKind.u64 (1 : Int) (wrapF IntKind.u64 (wrapF IntKind.i64 (Int.mul (8 : Int) w)))))).sub (wrapF IntKind.i64 (shlV
  IntKind.u64 (1 : Int) (wrapF IntKind.u64 (wrapF IntKind.i64 (Int.mul (8 : Int) w))))))))) (Q (AV.int IntKind.i64 (wrapF IntKind.i64 (n.tmod (shlV IntKind.u64
  (1 : Int) (wrapF IntKind.u64 (wrapF IntKind.i64 (Int.mul (8 : Int) w))))))))))) := by kernel_rfl

def rsgnPre : Int × Int × Unit → Prop := fun (n, (w, ())) => w = 4 ∧ 0 ≤ n ∧ n < 18446744073709551616
noncomputable def rsgnRes : Int × Int × Unit → AV := fun (n, (w, ())) => .int .i64 (s32 n)
noncomputable def rsgnK : CallC := valC rsgnT rsgnPre rsgnRes

theorem rsgnVal (n : Int) (w : Int) (hp : rsgnPre (n, (w, ()))) : Val Try.prog 68 (rsgnT.cells id (n, (w, ()))) (rsgnRes (n, (w, ()))) := by
  refine Val.ofF mixed (KL_ok (cc_nil)) (freesC rfl _) (rsgnFn n w) ?_
  obtain ⟨rfl, p1, p2⟩ := hp
  have e1 : shlV .u64 (1 : Int) (wrapF .u64 (wrapF .i64 (Int.mul (8 : Int) 4))) = 4294967296 := rfl
  have e2 : shlV .u64 (1 : Int) (wrapF .u64 (wrapF .i64 ((wrapF .i64 (Int.mul (8 : Int) 4)).sub 1))) = 2147483648 := rfl
  have e3 : n.tmod 4294967296 = n % 4294967296 := Int.tmod_eq_emod_of_nonneg p1
  have e4 : wrapF .i64 (4294967296 : Int) = 4294967296 := rfl
  rw [ifp_lt, if_neg (by decide), ifp_le, if_neg (by decide)]
  simp only [e1, e2, e3, e4]
  have e5 : wrapF .i64 (n % 4294967296) = n % 4294967296 := w64 (by omega) (by omega)
  refine ⟨by decide, by decide, by decide, ?_⟩
  rw [ifp_le, e5]
  split
  · rename_i h
    refine ⟨by decide, tells_int ?_⟩
    rw [wsub (by omega) (by omega), s32, if_neg (by omega)]
  · rename_i h
    exact tells_int (by rw [s32, if_pos (by omega)])
theorem rsgnCc : CcOk Try.prog 68 rsgnK := val_ok rfl (fun ⟨n, ⟨w, _⟩⟩ h => rsgnVal n w h)

/-! The loop rwith of wayfinder/wayfinderref03.with. -/
abbrev rwithZ := ((List Int) × (List Int) × Int × (List Int) × Int × Unit) × (Unit × Unit)
noncomputable def rwithSl : Tel ((List Int) × (List Int) × Int × (List Int) × Int × Unit) := .cons 0 (.lst Ei32) (.cons 1 (.lst Ei32) (.cons 2 (.int .i32) (.cons 9 (.own Ei32 0) (.cons 10 (.int .i64) (.nil)))))
noncomputable def rwithBl : BTel (Unit × Unit) := .cons (.spare) (.nil)
noncomputable def rwithSl0 : Tel ((List Int) × (List Int) × Int × Unit × Int × Unit) := .cons 0 (.lst Ei32) (.cons 1 (.lst Ei32) (.cons 2 (.int .i32) (.cons 9 (.nilS) (.cons 10 (.int .i64) (.nil)))))
noncomputable def rwithBl0 : BTel (Unit) := .nil
noncomputable def rwithZ0 : ((List Int) × (List Int) × Int × Unit × Int × Unit) → (Unit) → rwithZ := fun (a, (b, (s, ((), (i, ()))))) () => ((a, (b, (s, ([], (i, ()))))), ((), ()))
noncomputable def rwithFs : List (LForm rwithZ) := [⟨_, _, rwithSl, rwithBl, fun x y => (x, y)⟩, ⟨_, _, rwithSl0, rwithBl0, rwithZ0⟩]
noncomputable def rwithAlts (R0 : rwithZ → ((List Int) × Unit) → (Unit × Unit) → Prop) (R1 : rwithZ → (Unit × Unit) → (Unit) → Prop) : List (Alt rwithZ) := [⟨.exit 0, (List Int) × Unit, Unit × Unit, .cons 9 (.own Ei32 0) (.nil), .cons (.spare) (.nil), R0⟩, ⟨.exit 0, Unit × Unit, Unit, .cons 9 (.nilS) (.nil), .nil, R1⟩]

theorem rwithForm (a : List Int) (b : List Int) (s : Int) (out : List Int) (i : Int) (N : rwithZ → Prop) (R0 : rwithZ → ((List Int) × Unit) → (Unit × Unit) → Prop) (R1 : rwithZ → (Unit × Unit) → (Unit) → Prop) : ((runW Try.prog (KL [] []) 100).code none 87 43 (loopBody Try.prog 87 6) (mkT (rwithSl.av id (a, (b, (s, (out, (i, ()))))))) [] (stL true (rwithBl.obs id ((), ()))) (postL 0 rwithFs (rwithAlts R0 R1) ((a, (b, (s, (out, (i, ()))))), ((), ())) N)) =
  ( ifp (!leInt (Int.ofNat a.length) i) (idxOk i a.length ∧ ∃ (x : Int), nth ((natOf i).mul (1 : Nat)) (List.flatMap Ei32.f a) = some (AV.int IntKind.i32 x) ∧ idxOk
  i b.length ∧ ∃ (x_1 : Int), nth ((natOf i).mul (1 : Nat)) (List.flatMap Ei32.f b) = some (AV.int IntKind.i32 x_1) ∧ (1 : Nat) ≤ (1 : Nat) ∧ ifp (roomy
  (out.length.add (1 : Nat)) (4 : Nat)) (True ∧ True ∧ True ∧ ((∃ (l : List Int), Wk (AV.vs (List.flatMap Ei32.f a) a.length a.length false none (1 : Nat)) (lst
  Ei32 l) ∧ ∃ (l_1 : List Int), Wk (AV.vs (List.flatMap Ei32.f b) b.length b.length false none (1 : Nat)) (lst Ei32 l_1) ∧ ∃ (l_2 : List Int), (WkL (List.flatMap
  Ei32.f out ++ [AV.int IntKind.i32 (wrapF IntKind.i32 (x.add (wrapF IntKind.i32 (s.mul x_1))))]) (List.flatMap Ei32.f l_2) ∧ out.length.add (1 : Nat) =
  l_2.length ∧ (1 : Nat) = (1 : Nat)) ∧ true = true ∧ N ((l, l_1, s, l_2, wrapF IntKind.i64 (i.add (1 : Int)), ()), (), ())) ∨ ∃ (l : List Int), Wk (AV.vs
  (List.flatMap Ei32.f a) a.length a.length false none (1 : Nat)) (lst Ei32 l) ∧ ∃ (l : List Int), Wk (AV.vs (List.flatMap Ei32.f b) b.length b.length false none
  (1 : Nat)) (lst Ei32 l) ∧ False)) False) ((True ∧ ∃ (l : List Int), (WkL (List.flatMap Ei32.f out) (List.flatMap Ei32.f l) ∧ out.length = l.length ∧ (1 : Nat)
  = (1 : Nat)) ∧ true = true ∧ R0 ((a, b, s, out, i, ()), (), ()) (l, ()) ((), ())) ∨ True ∧ False)) := by kernel_rfl

theorem rwithForm0 (a : List Int) (b : List Int) (s : Int) (i : Int) (N : rwithZ → Prop) (R0 : rwithZ → ((List Int) × Unit) → (Unit × Unit) → Prop) (R1 : rwithZ → (Unit × Unit) → (Unit) → Prop) : ((runW Try.prog (KL [] []) 100).code none 87 43 (loopBody Try.prog 87 6) (mkT (rwithSl0.av id (a, (b, (s, ((), (i, ()))))))) [] (stL true (rwithBl0.obs id ())) (postL 0 rwithFs (rwithAlts R0 R1) (rwithZ0 (a, (b, (s, ((), (i, ()))))) ()) N)) =
  ( ifp (!leInt (Int.ofNat a.length) i) (idxOk i a.length ∧ ∃ (x : Int), nth ((natOf i).mul (1 : Nat)) (List.flatMap Ei32.f a) = some (AV.int IntKind.i32 x) ∧ idxOk
  i b.length ∧ ∃ (x_1 : Int), nth ((natOf i).mul (1 : Nat)) (List.flatMap Ei32.f b) = some (AV.int IntKind.i32 x_1) ∧ (1 : Nat) ≤ (1 : Nat) ∧ True ∧ True ∧ True
  ∧ ((∃ (l : List Int), Wk (AV.vs (List.flatMap Ei32.f a) a.length a.length false none (1 : Nat)) (lst Ei32 l) ∧ ∃ (l_1 : List Int), Wk (AV.vs (List.flatMap
  Ei32.f b) b.length b.length false none (1 : Nat)) (lst Ei32 l_1) ∧ ∃ (l_2 : List Int), (WkL [AV.int IntKind.i32 (wrapF IntKind.i32 (x.add (wrapF IntKind.i32
  (s.mul x_1))))] (List.flatMap Ei32.f l_2) ∧ (1 : Nat) = l_2.length ∧ (1 : Nat) = (1 : Nat)) ∧ true = true ∧ N ((l, l_1, s, l_2, wrapF IntKind.i64 (i.add (1 :
  Int)), ()), (), ())) ∨ ∃ (l : List Int), Wk (AV.vs (List.flatMap Ei32.f a) a.length a.length false none (1 : Nat)) (lst Ei32 l) ∧ ∃ (l : List Int), Wk (AV.vs
  (List.flatMap Ei32.f b) b.length b.length false none (1 : Nat)) (lst Ei32 l) ∧ False)) (True ∧ False ∨ True ∧ true = true ∧ R1 ((a, b, s, [], i, ()), (), ())
  ((), ()) ())) := by kernel_rfl

def rwithInv : rwithZ → Prop := fun ((a, (b, (s, (out, (i, ()))))), ((), ())) => ∃ k : Nat, i = k ∧ s = -1 ∧ k ≤ a.length ∧ a.length ≤ 1024 ∧ a.length = b.length ∧ wide a ∧ wide b ∧ out = (subV a b).take k
def rwithMu : rwithZ → Nat := fun ((a, (b, (s, (out, (i, ()))))), ((), ())) => a.length - i.toNat
def rwithR0 : rwithZ → ((List Int) × Unit) → (Unit × Unit) → Prop := fun ((a, (b, (s, (out, (i, ()))))), ((), ())) (r, _) _ => r = subV a b
def rwithR1 : rwithZ → (Unit × Unit) → (Unit) → Prop := fun ((a, (b, (s, (out, (i, ()))))), ((), ())) _ _ => a = []
noncomputable def rwithC : LoopC := loopC 0 rwithFs (rwithAlts rwithR0 rwithR1) rwithInv

theorem rwithStep : stepsOk Try.prog (KL [] []) 100 87 43 (loopBody Try.prog 87 6) 0 true rwithFs (rwithAlts rwithR0 rwithR1) rwithInv rwithMu ⟨_, _, rwithSl, rwithBl, fun x y => (x, y)⟩ := by
  intro x y hz
  obtain ⟨a, b, s, out, i, _⟩ := x
  obtain ⟨_, _⟩ := y
  refine (rwithForm a b s out i _ _ _).mpr ?_
  obtain ⟨k, rfl, rfl, hk, hl, hab, wa, wb, rfl⟩ := hz
  have hs : (subV a b).length = a.length := by simp [subV, hab]
  have hol : ((subV a b).take k).length = k := by rw [List.length_take]; omega
  rw [ifp_lt]
  simp only [natOf_nat]
  split
  · rename_i h
    have hkl : k < a.length := by simpa using h
    have hkb : k < b.length := by omega
    have hks : k < (subV a b).length := by omega
    have h1 := wa _ (List.getElem_mem hkl)
    have h2 := wb _ (List.getElem_mem hkb)
    have e : wrapF .i32 (Int.add a[k] (wrapF .i32 (Int.mul (-1) b[k]))) = (subV a b)[k] := by
      rw [w32 (z := Int.mul (-1) b[k]) (by show _ ≤ -1 * b[k]; omega) (by show -1 * b[k] < _; omega), w32 (by show _ ≤ a[k] + -1 * b[k]; omega) (by show a[k] + -1 * b[k] < _; omega)]
      show a[k] + -1 * b[k] = _
      simp [subV]; omega
    refine ⟨idx_ok hkl, _, nth_int hkl, idx_ok hkb, _, nth_int hkb, Nat.le_refl _, ?_⟩
    rw [ifp_pos (roomy_small (by simp only [Nat.add_eq]; omega) (by decide)), e]
    refine ⟨trivial, trivial, trivial, Or.inl ⟨a, Wk.refl _, b, Wk.refl _, (subV a b).take (k + 1), ⟨?_, ?_, (by first | exact trivial | exact rfl)⟩, (by first | exact trivial | exact rfl), ?_⟩⟩
    · rw [← List.take_append_getElem hks]; exact wkl_snoc (E := Ei32) (WkL.refl _)
    · rw [← List.take_append_getElem hks]; exact len_snoc
    · rw [wsucc (by omega)]
      exact ⟨⟨k + 1, rfl, rfl, hkl, hl, hab, wa, wb, rfl⟩, by show a.length - (k + 1) < a.length - k; omega, fun _ _ h => h, fun _ _ h => h, trivial⟩
  · rename_i h
    have hkl : ¬ k < a.length := by simpa using h
    exact Or.inl ⟨trivial, _, ⟨WkL.refl _, (by first | exact trivial | exact rfl), (by first | exact trivial | exact rfl)⟩, (by first | exact trivial | exact rfl), by show (subV a b).take k = _; rw [List.take_of_length_le (by omega)]⟩
theorem rwithStep0 : stepsOk Try.prog (KL [] []) 100 87 43 (loopBody Try.prog 87 6) 0 true rwithFs (rwithAlts rwithR0 rwithR1) rwithInv rwithMu ⟨_, _, rwithSl0, rwithBl0, rwithZ0⟩ := by
  intro x y hz
  obtain ⟨a, b, s, _, i, _⟩ := x
  obtain _ := y
  refine (rwithForm0 a b s i _ _ _).mpr ?_
  obtain ⟨k, rfl, rfl, hk, hl, hab, wa, wb, h0⟩ := hz
  have hs : (subV a b).length = a.length := by simp [subV, hab]
  obtain rfl : k = 0 := by have := congrArg List.length h0; rw [List.length_take] at this; simp at this; omega
  rw [ifp_lt]
  simp only [natOf_nat]
  split
  · rename_i h
    have hkl : 0 < a.length := by simpa using h
    have hkb : 0 < b.length := by omega
    have hks : 0 < (subV a b).length := by omega
    have h1 := wa _ (List.getElem_mem hkl)
    have h2 := wb _ (List.getElem_mem hkb)
    have e : wrapF .i32 (Int.add a[0] (wrapF .i32 (Int.mul (-1) b[0]))) = (subV a b)[0] := by
      rw [w32 (z := Int.mul (-1) b[0]) (by show _ ≤ -1 * b[0]; omega) (by show -1 * b[0] < _; omega), w32 (by show _ ≤ a[0] + -1 * b[0]; omega) (by show a[0] + -1 * b[0] < _; omega)]
      show a[0] + -1 * b[0] = _
      simp [subV]; omega
    refine ⟨idx_ok hkl, _, nth_int hkl, idx_ok hkb, _, nth_int hkb, Nat.le_refl _, ?_⟩
    rw [e]
    refine ⟨trivial, trivial, trivial, Or.inl ⟨a, Wk.refl _, b, Wk.refl _, (subV a b).take 1, ⟨?_, by rw [List.length_take]; omega, (by first | exact trivial | exact rfl)⟩, (by first | exact trivial | exact rfl), ?_⟩⟩
    · rw [← List.take_append_getElem hks]; exact WkL.refl _
    · rw [wsucc (by omega)]
      exact ⟨⟨1, rfl, rfl, hkl, hl, hab, wa, wb, rfl⟩, by show a.length - 1 < a.length - 0; omega, fun _ _ h => h, fun _ _ h => h, trivial⟩
  · rename_i h
    exact Or.inr ⟨trivial, (by first | exact trivial | exact rfl), List.length_eq_zero_iff.1 (by simp at h; simp [h])⟩
theorem rwithOk : LoopOk Try.prog 87 43 (.loop (loopBody Try.prog 87 6)) rwithC := loop_ok rwithMu mixed (KL_ok (cc_nil)) rfl (steps_cons rwithStep (steps_cons rwithStep0 (steps_nil)))

/-! wayfinder/wayfinderref03.with -/
noncomputable def rwithT : Tel ((List Int) × (List Int) × Int × Unit) := .cons 0 (.lst Ei32) (.cons 1 (.lst Ei32) (.cons 2 (.int .i32) (.nil)))

theorem rwithFn (a : List Int) (b : List Int) (s : Int) (Q : AV → Prop) : (callW Try.prog (runW Try.prog (KL [(59, rboth3K), (73, rcwK)] [(87, [(6, rwithC)])]) 200) 87 (rwithT.cells id (a, (b, (s, ())))) (stE true) (fun x st => frzW st x Q)) =
  ( ∃ (l : List Int), Wk (AV.vs (List.flatMap Ei32.f a) a.length a.length false none (1 : Nat)) (lst Ei32 l) ∧ ∃ (l_1 : List Int), Wk (AV.vs (List.flatMap Ei32.f b)
  b.length b.length false none (1 : Nat)) (lst Ei32 l_1) ∧ rboth3Pre (l, l_1, ()) ∧ ifp (!eqInt (pairV l l_1) (0 : Int)) (Q (AV.tuple [AV.nilSlice, AV.int
  IntKind.i64 (pairV l l_1)])) (LoopOk Try.prog (87 : FuncId) (43 : Nat) (loopBody Try.prog (87 : FuncId) (6 : Nat)).loop rwithC ∧ True ∧ True ∧ ((∃ (l : List
  Int), Wk (AV.vs (List.flatMap Ei32.f a) a.length a.length false none (1 : Nat)) (lst Ei32 l) ∧ ∃ (l : List Int), Wk (AV.vs (List.flatMap Ei32.f b) b.length
  b.length false none (1 : Nat)) (lst Ei32 l) ∧ False) ∨ ∃ (l : List Int), Wk (AV.vs (List.flatMap Ei32.f a) a.length a.length false none (1 : Nat)) (lst Ei32 l)
  ∧ ∃ (l_2 : List Int), Wk (AV.vs (List.flatMap Ei32.f b) b.length b.length false none (1 : Nat)) (lst Ei32 l_2) ∧ true = true ∧ rwithInv ((l, l_2, s, [], (0 :
  Int), ()), (), ()) ∧ (∀ (c : List Int × Unit) (d : Unit × Unit), rwithR0 ((l, l_2, s, [], (0 : Int), ()), (), ()) c d → ∃ (l : List Int), Wk (AV.vs
  (List.flatMap Ei32.f c.1) c.1.length c.1.length false (some (0 : Nat)) (1 : Nat)) (lst Ei32 l) ∧ rcwPre (l, ()) ∧ ifp (!eqInt (cw l) (0 : Int)) (Q (AV.tuple
  [AV.nilSlice, AV.int IntKind.i64 (cw l)])) (Q (AV.tuple [AV.vs (List.flatMap Ei32.f c.1) c.1.length c.1.length false (some (0 : Nat)) (1 : Nat), AV.int
  IntKind.i64 (0 : Int)]))) ∧ (∀ (c : Unit × Unit) (d : Unit), rwithR1 ((l, l_2, s, [], (0 : Int), ()), (), ()) c d → ∃ (l : List Int), Wk AV.nilSlice (lst Ei32
  l) ∧ rcwPre (l, ()) ∧ ifp (!eqInt (cw l) (0 : Int)) (Q (AV.tuple [AV.nilSlice, AV.int IntKind.i64 (cw l)])) (Q (AV.tuple [AV.nilSlice, AV.int IntKind.i64 (0 :
  Int)]))) ∧ True))) := by kernel_rfl

def rwithPre : (List Int) × (List Int) × Int × Unit → Prop := fun (a, (b, (s, ()))) => s = -1
noncomputable def rwithRes : (List Int) × (List Int) × Int × Unit → AV := fun (a, (b, (s, ()))) => .tuple [lst Ei32 (subR a b).1, .int .i64 (subR a b).2]
noncomputable def rwithK : CallC := valC rwithT rwithPre rwithRes

theorem rwithVal (a : List Int) (b : List Int) (s : Int) (hp : rwithPre (a, (b, (s, ())))) : Val Try.prog 87 (rwithT.cells id (a, (b, (s, ())))) (rwithRes (a, (b, (s, ())))) := by
  refine Val.ofF mixed (KL_ok (cc_cons rboth3Cc (cc_cons rcwCc (cc_nil)))) (freesC rfl _) (rwithFn a b s) ?_
  obtain rfl : s = -1 := hp
  refine ⟨a, Wk.refl _, b, Wk.refl _, trivial, ?_⟩
  rw [ifp_ne]
  split
  · rename_i h
    obtain ⟨ca, cb, hab⟩ := pair_zero h
    obtain ⟨a1, a2, wa⟩ := cw_zero ca
    obtain ⟨_, _, wb⟩ := cw_zero cb
    have hs : (subV a b).length = a.length := by simp [subV, hab]
    refine ⟨rwithOk, trivial, trivial, Or.inr ⟨a, Wk.refl _, b, Wk.refl _, (by first | exact trivial | exact rfl), ⟨0, rfl, rfl, Nat.zero_le _, a2, hab, wa, wb, by simp⟩, fun c _ hr => ?_, fun _ _ hr => ?_, trivial⟩⟩
    · obtain ⟨r, _⟩ := c
      have hr' : r = subV a b := hr
      subst hr'
      refine ⟨_, wk_of_own, trivial, ?_⟩
      rw [ifp_ne]
      have ec : cw (subV a b) = if (subV a b).any beyondB then 11 else 0 := by rw [cw, if_neg (by omega)]
      split
      · rename_i h2
        have hb : ¬ (subV a b).any beyondB = true := fun hb => by
          have h2' : cw (subV a b) = 0 := h2
          rw [ec, if_pos hb] at h2'; cases h2'
        have e : subR a b = (subV a b, 0) := by rw [subR, if_pos h, if_neg hb]
        show Tells _ (.tuple [lst Ei32 (subR a b).1, .int .i64 (subR a b).2])
        rw [e]
        exact tells_tuple ⟨tells_lst ⟨rfl, rfl, rfl⟩, tells_int rfl, trivial⟩
      · rename_i h2
        have hb : (subV a b).any beyondB = true := by
          cases hb : (subV a b).any beyondB with
          | true => rfl
          | false => exact absurd (show cw (subV a b) = 0 by rw [ec, hb]; rfl) h2
        have e : subR a b = ([], 11) := by rw [subR, if_pos h, if_pos hb]
        show Tells _ (.tuple [lst Ei32 (subR a b).1, .int .i64 (subR a b).2])
        rw [e]
        exact tells_tuple ⟨tells_nil _, tells_int (by show cw (subV a b) = 11; rw [ec, if_pos hb]), trivial⟩
    · have hr' : a = [] := hr
      rw [hr'] at a1; simp at a1
  · rename_i h
    have e : subR a b = ([], pairV a b) := by rw [subR, if_neg h]
    show Tells _ (.tuple [lst Ei32 (subR a b).1, .int .i64 (subR a b).2])
    rw [e]
    exact tells_tuple ⟨tells_nil _, tells_int rfl, trivial⟩
theorem rwithCc : CcOk Try.prog 87 rwithK := val_ok rfl (fun ⟨a, ⟨b, ⟨s, _⟩⟩⟩ h => rwithVal a b s h)

/-! wayfinder/wayfinderref03.Sub -/
noncomputable def rsubT : Tel ((List Int) × (List Int) × Unit) := .cons 0 (.lst Ei32) (.cons 1 (.lst Ei32) (.nil))

theorem rsubFn (a : List Int) (b : List Int) (Q : AV → Prop) : (callW Try.prog (runW Try.prog (KL [(87, rwithK)] []) 200) 62 (rsubT.cells id (a, (b, ()))) (stE false) (fun x st => frzW st x Q)) =
  ( ∃ (l : List Int), Wk (AV.vs (List.flatMap Ei32.f a) a.length a.length false none (1 : Nat)) (lst Ei32 l) ∧ ∃ (l_1 : List Int), Wk (AV.vs (List.flatMap Ei32.f b)
  b.length b.length false none (1 : Nat)) (lst Ei32 l_1) ∧ rwithPre (l, l_1, (-1 : Int), ()) ∧ Q (AV.tuple [AV.vs (List.flatMap Ei32.f (subR l l_1).fst) (subR l
  l_1).fst.length (subR l l_1).fst.length false none (1 : Nat), AV.int IntKind.i64 (subR l l_1).snd])) := by kernel_rfl

def rsubPre : (List Int) × (List Int) × Unit → Prop := fun (a, (b, ())) => True
noncomputable def rsubRes : (List Int) × (List Int) × Unit → AV := fun (a, (b, ())) => .tuple [lst Ei32 (subR a b).1, .int .i64 (subR a b).2]
noncomputable def rsubK : CallC := valC rsubT rsubPre rsubRes

theorem rsubVal (a : List Int) (b : List Int) (hp : rsubPre (a, (b, ()))) : Val Try.prog 62 (rsubT.cells id (a, (b, ()))) (rsubRes (a, (b, ()))) := by
  refine Val.ofF mixed (KL_ok (cc_cons rwithCc (cc_nil))) (freesC rfl _) (rsubFn a b) ?_
  exact ⟨a, Wk.refl _, b, Wk.refl _, rfl, tells_tuple ⟨tells_lst ⟨rfl, rfl, rfl⟩, tells_int rfl, trivial⟩⟩
theorem rsubCc : CcOk Try.prog 62 rsubK := val_ok rfl (fun ⟨a, ⟨b, _⟩⟩ h => rsubVal a b h)

/-! wayfinder/wayfinderref13.Residual -/
noncomputable def rresidT : Tel ((List (List Int)) × (List Int) × Unit) := .cons 0 (.lst Ell) (.cons 1 (.lst Ei32) (.nil))

theorem rresidFn (c : List (List Int)) (v : List Int) (Q : AV → Prop) : (callW Try.prog (runW Try.prog (KL [(35, rnearK), (62, rsubK)] []) 200) 40 (rresidT.cells id (c, (v, ()))) (stE false) (fun x st => frzW st x Q)) =
  ( ∃ (l : List (List Int)), Wk (AV.vs (List.flatMap Ell.f c) c.length c.length false none (1 : Nat)) (lst Ell l) ∧ ∃ (l_1 : List Int), Wk (AV.vs (List.flatMap
  Ei32.f v) v.length v.length false none (1 : Nat)) (lst Ei32 l_1) ∧ rnearPre (l, l_1, ()) ∧ ifp (!eqInt (bothV l l_1) (0 : Int)) (Q (AV.tuple [AV.int
  IntKind.i64 (0 : Int), AV.nilSlice, AV.int IntKind.i64 (bothV l l_1)])) (idxOk (nearV l l_1).fst c.length ∧ ∃ (l' : List AV), ∃ (n : Nat), ∃ (c_1 : Nat), ∃ (x
  : Bool), ∃ (w : Option Nat), ∃ (e : Nat), nth ((natOf (nearV l l_1).fst).mul (1 : Nat)) (List.flatMap Ell.f c) = some (AV.vs l' n c_1 x w e) ∧ ∃ (l_2 : List
  Int), Wk (AV.vs (List.flatMap Ei32.f v) v.length v.length false none (1 : Nat)) (lst Ei32 l_2) ∧ ∃ (l_3 : List Int), Wk (AV.vs l' n c_1 x w e) (lst Ei32 l_3) ∧
  rsubPre (l_2, l_3, ()) ∧ ifp (!eqInt (subR l_2 l_3).snd (0 : Int)) (Q (AV.tuple [AV.int IntKind.i64 (0 : Int), AV.nilSlice, AV.int IntKind.i64 (subR l_2
  l_3).snd])) (Q (AV.tuple [AV.int IntKind.i64 (nearV l l_1).fst, AV.vs (List.flatMap Ei32.f (subR l_2 l_3).fst) (subR l_2 l_3).fst.length (subR l_2
  l_3).fst.length false none (1 : Nat), AV.int IntKind.i64 (0 : Int)])))) := by kernel_rfl

def rresidPre : (List (List Int)) × (List Int) × Unit → Prop := fun (c, (v, ())) => True
noncomputable def rresidRes : (List (List Int)) × (List Int) × Unit → AV := fun (c, (v, ())) => .tuple [.int .i64 (residV c v).1, lst Ei32 (residV c v).2.1, .int .i64 (residV c v).2.2]
noncomputable def rresidK : CallC := valC rresidT rresidPre rresidRes

theorem rresidVal (c : List (List Int)) (v : List Int) (hp : rresidPre (c, (v, ()))) : Val Try.prog 40 (rresidT.cells id (c, (v, ()))) (rresidRes (c, (v, ()))) := by
  refine Val.ofF mixed (KL_ok (cc_cons rnearCc (cc_cons rsubCc (cc_nil)))) (freesC rfl _) (rresidFn c v) ?_
  refine ⟨c, Wk.refl _, v, Wk.refl _, trivial, ?_⟩
  rw [ifp_ne]
  split
  · rename_i h
    obtain ⟨i0, i1⟩ := nearV_idx h
    obtain ⟨k, hk⟩ := Int.eq_ofNat_of_zero_le i0
    have hkl : k < c.length := by omega
    have e : residV c v = if (subR v c[k]).2 = 0 then ((k : Int), (subR v c[k]).1, 0) else (0, [], (subR v c[k]).2) := by
      rw [residV, if_pos h, hk, show c.getD ((k : Int).toNat) [] = c[k] by show c.getD k [] = _; simp [hkl]]
    refine ⟨by rw [hk]; exact idx_ok hkl, _, _, _, _, _, _, by rw [hk]; exact nth_lst hkl, v, Wk.refl _, c[k], Wk.refl _, trivial, ?_⟩
    rw [ifp_ne]
    show ite _ _ _
    split
    · rename_i h2
      rw [if_pos h2] at e
      show Tells _ (.tuple [.int .i64 (residV c v).1, lst Ei32 (residV c v).2.1, .int .i64 (residV c v).2.2])
      rw [e, hk]
      exact tells_tuple ⟨tells_int rfl, tells_lst ⟨rfl, rfl, rfl⟩, tells_int rfl, trivial⟩
    · rename_i h2
      rw [if_neg h2] at e
      show Tells _ (.tuple [.int .i64 (residV c v).1, lst Ei32 (residV c v).2.1, .int .i64 (residV c v).2.2])
      rw [e]
      exact tells_tuple ⟨tells_int rfl, tells_nil _, tells_int rfl, trivial⟩
  · rename_i h
    have e : residV c v = (0, [], bothV c v) := by rw [residV, if_neg h]
    show Tells _ (.tuple [.int .i64 (residV c v).1, lst Ei32 (residV c v).2.1, .int .i64 (residV c v).2.2])
    rw [e]
    exact tells_tuple ⟨tells_int rfl, tells_nil _, tells_int rfl, trivial⟩
theorem rresidCc : CcOk Try.prog 40 rresidK := val_ok rfl (fun ⟨c, ⟨v, _⟩⟩ h => rresidVal c v h)

/-! The loop rbt2 of wayfinder/wayfinderref13.Bytes. -/
abbrev rbt2Z := ((List (List Int)) × (List Int) × Int × Int × Unit) × (Unit)
noncomputable def rbt2Sl : Tel ((List (List Int)) × (List Int) × Int × Int × Unit) := .cons 0 (.lst Ell) (.cons 3 (.lst Eu8) (.cons 4 (.int .i64) (.cons 5 (.int .i64) (.nil))))
noncomputable def rbt2Bl : BTel (Unit) := .nil
noncomputable def rbt2Fs : List (LForm rbt2Z) := [⟨_, _, rbt2Sl, rbt2Bl, fun x y => (x, y)⟩]
noncomputable def rbt2Alts (R0 : rbt2Z → ((List (List Int)) × (List Int) × Int × Unit) → (Unit) → Prop) : List (Alt rbt2Z) := [⟨.exit 2, (List (List Int)) × (List Int) × Int × Unit, Unit, .cons 0 (.lst Ell) (.cons 3 (.lst Eu8) (.cons 4 (.int .i64) (.nil))), .nil, R0⟩]

theorem rbt2Form (c : List (List Int)) (out : List Int) (i : Int) (k : Int) (N : rbt2Z → Prop) (R0 : rbt2Z → ((List (List Int)) × (List Int) × Int × Unit) → (Unit) → Prop) : ((runW Try.prog (KL [(76, rputK)] []) 100).code none 49 36 (loopBody Try.prog 49 8) (mkT (rbt2Sl.av id (c, (out, (i, (k, ())))))) [] (stL false (rbt2Bl.obs id ())) (postL 0 rbt2Fs (rbt2Alts R0) ((c, (out, (i, (k, ())))), ()) N)) =
  ( idxOk i c.length ∧ ∃ (l' : List AV), ∃ (n : Nat), ∃ (c_1 : Nat), ∃ (x : Bool), ∃ (w : Option Nat), ∃ (e : Nat), nth ((natOf i).mul (1 : Nat)) (List.flatMap
  Ell.f c) = some (AV.vs l' n c_1 x w e) ∧ ifp (!leInt (Int.ofNat n) k) (idxOk i c.length ∧ ∃ (l' : List AV), ∃ (n : Nat), ∃ (c_2 : Nat), ∃ (x : Bool), ∃ (w :
  Option Nat), ∃ (e : Nat), nth ((natOf i).mul (1 : Nat)) (List.flatMap Ell.f c) = some (AV.vs l' n c_2 x w e) ∧ ifp (Nat.beq (1 : Nat) e) (idxOk k n ∧ ∃ (x :
  Int), nth ((natOf k).mul (1 : Nat)) l' = some (AV.int IntKind.i32 x) ∧ ∃ (l : List Int), Wk (AV.vs (List.flatMap Eu8.f out) out.length out.length false none (1
  : Nat)) (lst Eu8 l) ∧ rputPre (l, wrapF IntKind.u64 (wrapF IntKind.i64 x), (4 : Int), ()) ∧ True ∧ ∃ (l_1 : List (List Int)), Wk (AV.vs (List.flatMap Ell.f c)
  c.length c.length false none (1 : Nat)) (lst Ell l_1) ∧ ∃ (l_2 : List Int), Wk (AV.vs (List.flatMap Eu8.f (l ++ [wrapF IntKind.u64 (wrapF IntKind.i64 x) / (256
  : Int) ^ nat_lit 0 % (256 : Int), wrapF IntKind.u64 (wrapF IntKind.i64 x) / (256 : Int) ^ nat_lit 1 % (256 : Int), wrapF IntKind.u64 (wrapF IntKind.i64 x) /
  (256 : Int) ^ nat_lit 2 % (256 : Int), wrapF IntKind.u64 (wrapF IntKind.i64 x) / (256 : Int) ^ nat_lit 3 % (256 : Int)])) (l ++ [wrapF IntKind.u64 (wrapF
  IntKind.i64 x) / (256 : Int) ^ nat_lit 0 % (256 : Int), wrapF IntKind.u64 (wrapF IntKind.i64 x) / (256 : Int) ^ nat_lit 1 % (256 : Int), wrapF IntKind.u64
  (wrapF IntKind.i64 x) / (256 : Int) ^ nat_lit 2 % (256 : Int), wrapF IntKind.u64 (wrapF IntKind.i64 x) / (256 : Int) ^ nat_lit 3 % (256 : Int)]).length (l ++
  [wrapF IntKind.u64 (wrapF IntKind.i64 x) / (256 : Int) ^ nat_lit 0 % (256 : Int), wrapF IntKind.u64 (wrapF IntKind.i64 x) / (256 : Int) ^ nat_lit 1 % (256 :
  Int), wrapF IntKind.u64 (wrapF IntKind.i64 x) / (256 : Int) ^ nat_lit 2 % (256 : Int), wrapF IntKind.u64 (wrapF IntKind.i64 x) / (256 : Int) ^ nat_lit 3 % (256
  : Int)]).length false none (1 : Nat)) (lst Eu8 l_2) ∧ true = true ∧ N ((l_1, l_2, i, wrapF IntKind.i64 (k.add (1 : Int)), ()), ())) False) (True ∧ ∃ (l : List
  (List Int)), Wk (AV.vs (List.flatMap Ell.f c) c.length c.length false none (1 : Nat)) (lst Ell l) ∧ ∃ (l_1 : List Int), Wk (AV.vs (List.flatMap Eu8.f out)
  out.length out.length false none (1 : Nat)) (lst Eu8 l_1) ∧ true = true ∧ R0 ((c, out, i, k, ()), ()) (l, l_1, i, ()) ())) := by kernel_rfl

def rbt2Inv : rbt2Z → Prop := fun ((c, (out, (i, (k, ())))), ()) => ∃ p q : Nat, i = p ∧ k = q ∧ p < c.length ∧ q ≤ (c.getD p []).length ∧ c.length ≤ 4096 ∧ (∀ x ∈ c, cw x = 0) ∧ out = ((c.take p).flatten ++ (c.getD p []).take q).flatMap (fun x => putV (u64 x) 4)
def rbt2Mu : rbt2Z → Nat := fun ((c, (out, (i, (k, ())))), ()) => 1024 - k.toNat
def rbt2R0 : rbt2Z → ((List (List Int)) × (List Int) × Int × Unit) → (Unit) → Prop := fun ((c, (out, (i, (k, ())))), ()) (c2, r, i2, _) _ => c2 = c ∧ i2 = i ∧ r = ((c.take (i.toNat + 1)).flatten).flatMap fun x => putV (u64 x) 4
noncomputable def rbt2C : LoopC := loopC 0 rbt2Fs (rbt2Alts rbt2R0) rbt2Inv

theorem rbt2Step : stepsOk Try.prog (KL [(76, rputK)] []) 100 49 36 (loopBody Try.prog 49 8) 0 false rbt2Fs (rbt2Alts rbt2R0) rbt2Inv rbt2Mu ⟨_, _, rbt2Sl, rbt2Bl, fun x y => (x, y)⟩ := by
  intro x y hz
  obtain ⟨c, out, i, k, _⟩ := x
  obtain _ := y
  refine (rbt2Form c out i k _ _).mpr ?_
  obtain ⟨p, q, rfl, rfl, hpc, hqc, hcl, hcw, rfl⟩ := hz
  have hg : c.getD p [] = c[p] := by simp [hpc]
  rw [hg] at hqc
  rw [hg]
  have hw := cw_zero (hcw _ (List.getElem_mem hpc))
  have hc1 : ∀ x ∈ c.take p, x.length ≤ 1024 := fun x hx => (cw_zero (hcw x (List.mem_of_mem_take hx))).2.1
  have hfl := flat_len hc1
  rw [List.length_take] at hfl
  simp only [natOf_nat]
  refine ⟨idx_ok hpc, _, _, _, _, _, _, nth_lst hpc, ?_⟩
  rw [ifp_lt]
  split
  · rename_i h
    have hqk : q < c[p].length := by simpa using h
    have hx := hw.2.2 _ (List.getElem_mem hqk)
    have hr := u64_range (c[p][q])
    refine ⟨idx_ok hpc, _, _, _, _, _, _, nth_lst hpc, ?_⟩
    rw [ifp_pos (by rfl)]
    refine ⟨idx_ok hqk, _, nth_int hqk, ?_⟩
    rw [u64_of (by omega) (by omega)]
    refine ⟨_, Wk.refl _, ⟨hr.1, hr.2, by decide, by decide, ?_⟩, trivial, c, Wk.refl _, _, Wk.refl _, (by first | exact trivial | exact rfl), ?_⟩
    · show (List.flatMap _ _).length ≤ _
      rw [puts_len, List.length_append, List.length_take]; omega
    · rw [wsucc (by omega)]
      refine ⟨⟨p, q + 1, rfl, rfl, hpc, by rw [hg]; exact hqk, hcl, hcw, ?_⟩, by show 1024 - (q + 1) < 1024 - q; omega, fun _ _ h => h, trivial⟩
      rw [hg, ← List.take_append_getElem hqk, ← List.append_assoc]
      exact (fm_snoc _ _ _).symm
  · rename_i h
    refine ⟨trivial, c, Wk.refl _, _, Wk.refl _, (by first | exact trivial | exact rfl), rfl, rfl, ?_⟩
    show List.flatMap _ _ = ((c.take (p + 1)).flatten).flatMap _
    have hq : c[p].length ≤ q := by simp at h; omega
    rw [List.take_of_length_le hq, ← List.take_append_getElem hpc, List.flatten_append, List.flatten_cons, List.flatten_nil, List.append_nil]
theorem rbt2Ok : LoopOk Try.prog 49 36 (.loop (loopBody Try.prog 49 8)) rbt2C := loop_ok rbt2Mu mixed (KL_ok (cc_cons rputCc (cc_nil))) rfl (steps_cons rbt2Step (steps_nil))

/-! The loop rbt1 of wayfinder/wayfinderref13.Bytes. -/
abbrev rbt1Z := ((List (List Int)) × (List Int) × Int × Unit) × (Unit)
noncomputable def rbt1Sl : Tel ((List (List Int)) × (List Int) × Int × Unit) := .cons 0 (.lst Ell) (.cons 3 (.lst Eu8) (.cons 4 (.int .i64) (.nil)))
noncomputable def rbt1Bl : BTel (Unit) := .nil
noncomputable def rbt1Fs : List (LForm rbt1Z) := [⟨_, _, rbt1Sl, rbt1Bl, fun x y => (x, y)⟩]
noncomputable def rbt1Alts (R0 : rbt1Z → ((List Int) × Unit) → (Unit) → Prop) : List (Alt rbt1Z) := [⟨.exit 0, (List Int) × Unit, Unit, .cons 3 (.lst Eu8) (.nil), .nil, R0⟩]

theorem rbt1Form (c : List (List Int)) (out : List Int) (i : Int) (N : rbt1Z → Prop) (R0 : rbt1Z → ((List Int) × Unit) → (Unit) → Prop) : ((runW Try.prog (KL [(76, rputK)] [(49, [(8, rbt2C)])]) 100).code none 49 36 (loopBody Try.prog 49 5) (mkT (rbt1Sl.av id (c, (out, (i, ()))))) [] (stL false (rbt1Bl.obs id ())) (postL 0 rbt1Fs (rbt1Alts R0) ((c, (out, (i, ()))), ()) N)) =
  ( ifp (!leInt (Int.ofNat c.length) i) (LoopOk Try.prog (49 : FuncId) (36 : Nat) (loopBody Try.prog (49 : FuncId) (8 : Nat)).loop rbt2C ∧ True ∧ True ∧ ∃ (l : List
  (List Int)), Wk (AV.vs (List.flatMap Ell.f c) c.length c.length false none (1 : Nat)) (lst Ell l) ∧ ∃ (l_1 : List Int), Wk (AV.vs (List.flatMap Eu8.f out)
  out.length out.length false none (1 : Nat)) (lst Eu8 l_1) ∧ true = true ∧ rbt2Inv ((l, l_1, i, (0 : Int), ()), ()) ∧ (∀ (c : List (List Int) × List Int × Int ×
  Unit) (d : Unit), rbt2R0 ((l, l_1, i, (0 : Int), ()), ()) c d → True ∧ ∃ (l : List (List Int)), Wk (AV.vs (List.flatMap Ell.f c.1) c.1.length c.1.length false
  none (1 : Nat)) (lst Ell l) ∧ ∃ (l_2 : List Int), Wk (AV.vs (List.flatMap Eu8.f c.2.1) c.2.1.length c.2.1.length false none (1 : Nat)) (lst Eu8 l_2) ∧ true =
  true ∧ N ((l, l_2, wrapF IntKind.i64 (c.2.2.1.add (1 : Int)), ()), ())) ∧ True) (True ∧ ∃ (l : List Int), Wk (AV.vs (List.flatMap Eu8.f out) out.length
  out.length false none (1 : Nat)) (lst Eu8 l) ∧ true = true ∧ R0 ((c, out, i, ()), ()) (l, ()) ())) := by kernel_rfl

def rbt1Inv : rbt1Z → Prop := fun ((c, (out, (i, ()))), ()) => ∃ p : Nat, i = p ∧ p ≤ c.length ∧ c.length ≤ 4096 ∧ (∀ x ∈ c, cw x = 0) ∧ out = ((c.take p).flatten).flatMap (fun x => putV (u64 x) 4)
def rbt1Mu : rbt1Z → Nat := fun ((c, (out, (i, ()))), ()) => c.length - i.toNat
def rbt1R0 : rbt1Z → ((List Int) × Unit) → (Unit) → Prop := fun ((c, (out, (i, ()))), ()) (r, _) _ => r = c.flatten.flatMap fun x => putV (u64 x) 4
noncomputable def rbt1C : LoopC := loopC 0 rbt1Fs (rbt1Alts rbt1R0) rbt1Inv

theorem rbt1Step : stepsOk Try.prog (KL [(76, rputK)] [(49, [(8, rbt2C)])]) 100 49 36 (loopBody Try.prog 49 5) 0 false rbt1Fs (rbt1Alts rbt1R0) rbt1Inv rbt1Mu ⟨_, _, rbt1Sl, rbt1Bl, fun x y => (x, y)⟩ := by
  intro x y hz
  obtain ⟨c, out, i, _⟩ := x
  obtain _ := y
  refine (rbt1Form c out i _ _).mpr ?_
  obtain ⟨p, rfl, hp, hcl, hcw, rfl⟩ := hz
  rw [ifp_lt]
  split
  · rename_i h
    have hpc : p < c.length := by simpa using h
    refine ⟨rbt2Ok, trivial, trivial, c, Wk.refl _, _, Wk.refl _, (by first | exact trivial | exact rfl), ⟨p, 0, rfl, rfl, hpc, Nat.zero_le _, hcl, hcw, by simp⟩, fun d _ hr => ?_, trivial⟩
    obtain ⟨c2, r, i2, _⟩ := d
    obtain ⟨h1, h2, h3⟩ := hr
    obtain rfl : c = c2 := h1.symm
    obtain rfl : (p : Int) = i2 := h2.symm
    have h3' : r = ((c.take (p + 1)).flatten).flatMap fun x => putV (u64 x) 4 := h3
    subst h3'
    refine ⟨trivial, c, Wk.refl _, _, Wk.refl _, (by first | exact trivial | exact rfl), ?_⟩
    rw [wsucc (by omega)]
    exact ⟨⟨p + 1, rfl, hpc, hcl, hcw, rfl⟩, by show c.length - (p + 1) < c.length - p; omega, fun _ _ h => h, trivial⟩
  · rename_i h
    have hpc : ¬ p < c.length := by simpa using h
    exact ⟨trivial, _, Wk.refl _, (by first | exact trivial | exact rfl), by show List.flatMap _ _ = _; rw [take_all hpc]⟩
theorem rbt1Ok : LoopOk Try.prog 49 36 (.loop (loopBody Try.prog 49 5)) rbt1C := loop_ok rbt1Mu mixed (KL_ok (cc_cons rputCc (cc_nil))) rfl (steps_cons rbt1Step (steps_nil))

/-! wayfinder/wayfinderref13.Bytes -/
noncomputable def rbytesT : Tel ((List (List Int)) × Unit) := .cons 0 (.lst Ell) (.nil)

theorem rbytesFn (c : List (List Int)) (Q : AV → Prop) : (callW Try.prog (runW Try.prog (KL [(44, rcheckK), (76, rputK)] [(49, [(5, rbt1C)])]) 200) 49 (rbytesT.cells id (c, ())) (stE false) (fun x st => frzW st x Q)) =
  ( ∃ (l : List (List Int)), Wk (AV.vs (List.flatMap Ell.f c) c.length c.length false none (1 : Nat)) (lst Ell l) ∧ rcheckPre (l, ()) ∧ ifp (!eqInt (checkV l) (0 :
  Int)) (Q AV.nilSlice) (LoopOk Try.prog (49 : FuncId) (36 : Nat) (loopBody Try.prog (49 : FuncId) (5 : Nat)).loop rbt1C ∧ True ∧ True ∧ ∃ (l : List (List Int)),
  Wk (AV.vs (List.flatMap Ell.f c) c.length c.length false none (1 : Nat)) (lst Ell l) ∧ ∃ (l_1 : List Int), Wk AV.nilSlice (lst Eu8 l_1) ∧ true = true ∧ rbt1Inv
  ((l, l_1, (0 : Int), ()), ()) ∧ (∀ (c : List Int × Unit) (d : Unit), rbt1R0 ((l, l_1, (0 : Int), ()), ()) c d → Q (AV.vs (List.flatMap Eu8.f c.1) c.1.length
  c.1.length false none (1 : Nat))) ∧ True)) := by kernel_rfl

def rbytesPre : (List (List Int)) × Unit → Prop := fun (c, ()) => True
noncomputable def rbytesRes : (List (List Int)) × Unit → AV := fun (c, ()) => lst Eu8 (bytesV c)
noncomputable def rbytesK : CallC := valC rbytesT rbytesPre rbytesRes

theorem rbytesVal (c : List (List Int)) (hp : rbytesPre (c, ())) : Val Try.prog 49 (rbytesT.cells id (c, ())) (rbytesRes (c, ())) := by
  refine Val.ofF mixed (KL_ok (cc_cons rcheckCc (cc_cons rputCc (cc_nil)))) (freesC rfl _) (rbytesFn c) ?_
  refine ⟨c, Wk.refl _, trivial, ?_⟩
  rw [ifp_ne]
  split
  · rename_i h
    obtain ⟨h1, h2, h3, h4⟩ := checkV_inv h
    refine ⟨rbt1Ok, trivial, trivial, c, Wk.refl _, [], wk_nil _, (by first | exact trivial | exact rfl), ⟨0, rfl, Nat.zero_le _, h2, h3, by simp⟩, fun d _ hr => ?_, trivial⟩
    obtain ⟨r, _⟩ := d
    have hr' : r = bytesV c := by rw [bytesV, if_pos h]; exact hr
    subst hr'
    exact tells_lst ⟨rfl, rfl, rfl⟩
  · rename_i h
    show Tells .nilSlice (lst Eu8 (bytesV c))
    rw [bytesV, if_neg h]; exact tells_nil _
theorem rbytesCc : CcOk Try.prog 49 rbytesK := val_ok rfl (fun ⟨c, _⟩ h => rbytesVal c h)

/-! The loop rrd20 of wayfinder/wayfinderref13.Read. -/
abbrev rrd20Z := ((List Int) × Int × Int × Unit × Int × (List Int) × Int × Unit) × (Unit × Unit)
noncomputable def rrd20Sl : Tel ((List Int) × Int × Int × Unit × Int × (List Int) × Int × Unit) := .cons 0 (.lst Eu8) (.cons 1 (.int .i64) (.cons 2 (.int .i64) (.cons 8 (.nilS) (.cons 9 (.int .i64) (.cons 10 (.own Ei32 0) (.cons 11 (.int .i64) (.nil)))))))
noncomputable def rrd20Bl : BTel (Unit × Unit) := .cons (.spare) (.nil)
noncomputable def rrd20Sl0 : Tel ((List Int) × Int × Int × Unit × Int × Unit × Int × Unit) := .cons 0 (.lst Eu8) (.cons 1 (.int .i64) (.cons 2 (.int .i64) (.cons 8 (.nilS) (.cons 9 (.int .i64) (.cons 10 (.nilS) (.cons 11 (.int .i64) (.nil)))))))
noncomputable def rrd20Bl0 : BTel (Unit) := .nil
noncomputable def rrd20Z0 : ((List Int) × Int × Int × Unit × Int × Unit × Int × Unit) → (Unit) → rrd20Z := fun (b, (n, (d, ((), (i, ((), (k, ()))))))) () => ((b, (n, (d, ((), (i, ([], (k, ()))))))), ((), ()))
noncomputable def rrd20Fs : List (LForm rrd20Z) := [⟨_, _, rrd20Sl, rrd20Bl, fun x y => (x, y)⟩, ⟨_, _, rrd20Sl0, rrd20Bl0, rrd20Z0⟩]
noncomputable def rrd20Alts (R0 : rrd20Z → ((List Int) × Int × Int × Unit × Int × (List Int) × Unit) → (Unit × Unit) → Prop) (R1 : rrd20Z → ((List Int) × Int × Int × Unit × Int × Unit × Unit) → (Unit) → Prop) : List (Alt rrd20Z) := [⟨.exit 2, (List Int) × Int × Int × Unit × Int × (List Int) × Unit, Unit × Unit, .cons 0 (.lst Eu8) (.cons 1 (.int .i64) (.cons 2 (.int .i64) (.cons 8 (.nilS) (.cons 9 (.int .i64) (.cons 10 (.own Ei32 0) (.nil)))))), .cons (.spare) (.nil), R0⟩, ⟨.exit 2, (List Int) × Int × Int × Unit × Int × Unit × Unit, Unit, .cons 0 (.lst Eu8) (.cons 1 (.int .i64) (.cons 2 (.int .i64) (.cons 8 (.nilS) (.cons 9 (.int .i64) (.cons 10 (.nilS) (.nil)))))), .nil, R1⟩]

theorem rrd20Form (b : List Int) (n : Int) (d : Int) (i : Int) (v : List Int) (k : Int) (N : rrd20Z → Prop) (R0 : rrd20Z → ((List Int) × Int × Int × Unit × Int × (List Int) × Unit) → (Unit × Unit) → Prop) (R1 : rrd20Z → ((List Int) × Int × Int × Unit × Int × Unit × Unit) → (Unit) → Prop) : ((runW Try.prog (KL [(69, rofK), (68, rsgnK)] []) 100).code none 42 69 (loopBody Try.prog 42 11) (mkT (rrd20Sl.av id (b, (n, (d, ((), (i, (v, (k, ()))))))))) [] (stL true (rrd20Bl.obs id ((), ()))) (postL 0 rrd20Fs (rrd20Alts R0 R1) ((b, (n, (d, ((), (i, (v, (k, ()))))))), ((), ())) N)) =
  ( ifp (!leInt d k) ((0 : Int) ≤ wrapF IntKind.i64 ((wrapF IntKind.i64 (Int.mul (4 : Int) (wrapF IntKind.i64 ((wrapF IntKind.i64 (i.mul d)).add k)))).add (4 :
  Int)) ∧ wrapF IntKind.i64 ((wrapF IntKind.i64 (Int.mul (4 : Int) (wrapF IntKind.i64 ((wrapF IntKind.i64 (i.mul d)).add k)))).add (4 : Int)) ≤ ↑b.length ∧ (0 :
  Int) ≤ wrapF IntKind.i64 (Int.mul (4 : Int) (wrapF IntKind.i64 ((wrapF IntKind.i64 (i.mul d)).add k))) ∧ wrapF IntKind.i64 (Int.mul (4 : Int) (wrapF
  IntKind.i64 ((wrapF IntKind.i64 (i.mul d)).add k))) ≤ ↑(natOf (wrapF IntKind.i64 ((wrapF IntKind.i64 (Int.mul (4 : Int) (wrapF IntKind.i64 ((wrapF IntKind.i64
  (i.mul d)).add k)))).add (4 : Int)))) ∧ natOf (wrapF IntKind.i64 ((wrapF IntKind.i64 (Int.mul (4 : Int) (wrapF IntKind.i64 ((wrapF IntKind.i64 (i.mul d)).add
  k)))).add (4 : Int))) ≤ b.length ∧ (List.flatMap Eu8.f b).length = b.length.mul (1 : Nat) ∧ ∃ (l : List Int), Wk (AV.vs (List.take (((natOf (wrapF IntKind.i64
  ((wrapF IntKind.i64 (Int.mul (4 : Int) (wrapF IntKind.i64 ((wrapF IntKind.i64 (i.mul d)).add k)))).add (4 : Int)))).sub (natOf (wrapF IntKind.i64 (Int.mul (4 :
  Int) (wrapF IntKind.i64 ((wrapF IntKind.i64 (i.mul d)).add k)))))).mul (1 : Nat)) (List.drop ((natOf (wrapF IntKind.i64 (Int.mul (4 : Int) (wrapF IntKind.i64
  ((wrapF IntKind.i64 (i.mul d)).add k))))).mul (1 : Nat)) (List.flatMap Eu8.f b))) ((natOf (wrapF IntKind.i64 ((wrapF IntKind.i64 (Int.mul (4 : Int) (wrapF
  IntKind.i64 ((wrapF IntKind.i64 (i.mul d)).add k)))).add (4 : Int)))).sub (natOf (wrapF IntKind.i64 (Int.mul (4 : Int) (wrapF IntKind.i64 ((wrapF IntKind.i64
  (i.mul d)).add k)))))) (b.length.sub (natOf (wrapF IntKind.i64 (Int.mul (4 : Int) (wrapF IntKind.i64 ((wrapF IntKind.i64 (i.mul d)).add k)))))) (mxEx none
  false) none (1 : Nat)) (lst Eu8 l) ∧ rofPre (l, ()) ∧ rsgnPre (ofB l, (4 : Int), ()) ∧ (1 : Nat) ≤ (1 : Nat) ∧ ifp (roomy (v.length.add (1 : Nat)) (4 : Nat))
  (True ∧ ((∃ (l_1 : List Int), Wk (AV.vs (List.flatMap Eu8.f b) b.length b.length false none (1 : Nat)) (lst Eu8 l_1) ∧ ∃ (l_2 : List Int), (WkL (List.flatMap
  Ei32.f v ++ [AV.int IntKind.i32 (wrapF IntKind.i32 (s32 (ofB l)))]) (List.flatMap Ei32.f l_2) ∧ v.length.add (1 : Nat) = l_2.length ∧ (1 : Nat) = (1 : Nat)) ∧
  true = true ∧ N ((l_1, n, d, (), i, l_2, wrapF IntKind.i64 (k.add (1 : Int)), ()), (), ())) ∨ ∃ (l : List Int), Wk (AV.vs (List.flatMap Eu8.f b) b.length
  b.length false none (1 : Nat)) (lst Eu8 l) ∧ False)) False) ((True ∧ ∃ (l : List Int), Wk (AV.vs (List.flatMap Eu8.f b) b.length b.length false none (1 : Nat))
  (lst Eu8 l) ∧ ∃ (l_1 : List Int), (WkL (List.flatMap Ei32.f v) (List.flatMap Ei32.f l_1) ∧ v.length = l_1.length ∧ (1 : Nat) = (1 : Nat)) ∧ true = true ∧ R0
  ((b, n, d, (), i, v, k, ()), (), ()) (l, n, d, (), i, l_1, ()) ((), ())) ∨ True ∧ ∃ (l : List Int), Wk (AV.vs (List.flatMap Eu8.f b) b.length b.length false
  none (1 : Nat)) (lst Eu8 l) ∧ False)) := by kernel_rfl

theorem rrd20Form0 (b : List Int) (n : Int) (d : Int) (i : Int) (k : Int) (N : rrd20Z → Prop) (R0 : rrd20Z → ((List Int) × Int × Int × Unit × Int × (List Int) × Unit) → (Unit × Unit) → Prop) (R1 : rrd20Z → ((List Int) × Int × Int × Unit × Int × Unit × Unit) → (Unit) → Prop) : ((runW Try.prog (KL [(69, rofK), (68, rsgnK)] []) 100).code none 42 69 (loopBody Try.prog 42 11) (mkT (rrd20Sl0.av id (b, (n, (d, ((), (i, ((), (k, ()))))))))) [] (stL true (rrd20Bl0.obs id ())) (postL 0 rrd20Fs (rrd20Alts R0 R1) (rrd20Z0 (b, (n, (d, ((), (i, ((), (k, ()))))))) ()) N)) =
  ( ifp (!leInt d k) ((0 : Int) ≤ wrapF IntKind.i64 ((wrapF IntKind.i64 (Int.mul (4 : Int) (wrapF IntKind.i64 ((wrapF IntKind.i64 (i.mul d)).add k)))).add (4 :
  Int)) ∧ wrapF IntKind.i64 ((wrapF IntKind.i64 (Int.mul (4 : Int) (wrapF IntKind.i64 ((wrapF IntKind.i64 (i.mul d)).add k)))).add (4 : Int)) ≤ ↑b.length ∧ (0 :
  Int) ≤ wrapF IntKind.i64 (Int.mul (4 : Int) (wrapF IntKind.i64 ((wrapF IntKind.i64 (i.mul d)).add k))) ∧ wrapF IntKind.i64 (Int.mul (4 : Int) (wrapF
  IntKind.i64 ((wrapF IntKind.i64 (i.mul d)).add k))) ≤ ↑(natOf (wrapF IntKind.i64 ((wrapF IntKind.i64 (Int.mul (4 : Int) (wrapF IntKind.i64 ((wrapF IntKind.i64
  (i.mul d)).add k)))).add (4 : Int)))) ∧ natOf (wrapF IntKind.i64 ((wrapF IntKind.i64 (Int.mul (4 : Int) (wrapF IntKind.i64 ((wrapF IntKind.i64 (i.mul d)).add
  k)))).add (4 : Int))) ≤ b.length ∧ (List.flatMap Eu8.f b).length = b.length.mul (1 : Nat) ∧ ∃ (l : List Int), Wk (AV.vs (List.take (((natOf (wrapF IntKind.i64
  ((wrapF IntKind.i64 (Int.mul (4 : Int) (wrapF IntKind.i64 ((wrapF IntKind.i64 (i.mul d)).add k)))).add (4 : Int)))).sub (natOf (wrapF IntKind.i64 (Int.mul (4 :
  Int) (wrapF IntKind.i64 ((wrapF IntKind.i64 (i.mul d)).add k)))))).mul (1 : Nat)) (List.drop ((natOf (wrapF IntKind.i64 (Int.mul (4 : Int) (wrapF IntKind.i64
  ((wrapF IntKind.i64 (i.mul d)).add k))))).mul (1 : Nat)) (List.flatMap Eu8.f b))) ((natOf (wrapF IntKind.i64 ((wrapF IntKind.i64 (Int.mul (4 : Int) (wrapF
  IntKind.i64 ((wrapF IntKind.i64 (i.mul d)).add k)))).add (4 : Int)))).sub (natOf (wrapF IntKind.i64 (Int.mul (4 : Int) (wrapF IntKind.i64 ((wrapF IntKind.i64
  (i.mul d)).add k)))))) (b.length.sub (natOf (wrapF IntKind.i64 (Int.mul (4 : Int) (wrapF IntKind.i64 ((wrapF IntKind.i64 (i.mul d)).add k)))))) (mxEx none
  false) none (1 : Nat)) (lst Eu8 l) ∧ rofPre (l, ()) ∧ rsgnPre (ofB l, (4 : Int), ()) ∧ (1 : Nat) ≤ (1 : Nat) ∧ True ∧ ((∃ (l_1 : List Int), Wk (AV.vs
  (List.flatMap Eu8.f b) b.length b.length false none (1 : Nat)) (lst Eu8 l_1) ∧ ∃ (l_2 : List Int), (WkL [AV.int IntKind.i32 (wrapF IntKind.i32 (s32 (ofB l)))]
  (List.flatMap Ei32.f l_2) ∧ (1 : Nat) = l_2.length ∧ (1 : Nat) = (1 : Nat)) ∧ true = true ∧ N ((l_1, n, d, (), i, l_2, wrapF IntKind.i64 (k.add (1 : Int)),
  ()), (), ())) ∨ ∃ (l : List Int), Wk (AV.vs (List.flatMap Eu8.f b) b.length b.length false none (1 : Nat)) (lst Eu8 l) ∧ False)) ((True ∧ ∃ (l : List Int), Wk
  (AV.vs (List.flatMap Eu8.f b) b.length b.length false none (1 : Nat)) (lst Eu8 l) ∧ False) ∨ True ∧ ∃ (l : List Int), Wk (AV.vs (List.flatMap Eu8.f b) b.length
  b.length false none (1 : Nat)) (lst Eu8 l) ∧ true = true ∧ R1 ((b, n, d, (), i, [], k, ()), (), ()) (l, n, d, (), i, (), ()) ())) := by kernel_rfl

def rrd20Inv : rrd20Z → Prop := fun ((b, (n, (d, ((), (i, (v, (k, ()))))))), ((), ())) => ∃ N D p q : Nat, n = N ∧ d = D ∧ i = p ∧ k = q ∧ p < N ∧ q ≤ D ∧ N ≤ 4096 ∧ 1 ≤ D ∧ D ≤ 1024 ∧ b.length = N * D * 4 ∧ bytesOk b ∧ v = (List.range q).map fun j => num4 b (p * D + j)
def rrd20Mu : rrd20Z → Nat := fun ((b, (n, (d, ((), (i, (v, (k, ()))))))), ((), ())) => d.toNat - k.toNat
def rrd20R0 : rrd20Z → ((List Int) × Int × Int × Unit × Int × (List Int) × Unit) → (Unit × Unit) → Prop := fun ((b, (n, (d, ((), (i, (v, (k, ()))))))), ((), ())) (b2, n2, d2, _, i2, r, _) _ => b2 = b ∧ n2 = n ∧ d2 = d ∧ i2 = i ∧ r = (List.range d.toNat).map fun j => num4 b (i.toNat * d.toNat + j)
def rrd20R1 : rrd20Z → ((List Int) × Int × Int × Unit × Int × Unit × Unit) → (Unit) → Prop := fun ((b, (n, (d, ((), (i, (v, (k, ()))))))), ((), ())) _ _ => False
noncomputable def rrd20C : LoopC := loopC 0 rrd20Fs (rrd20Alts rrd20R0 rrd20R1) rrd20Inv

theorem rrd20Step : stepsOk Try.prog (KL [(69, rofK), (68, rsgnK)] []) 100 42 69 (loopBody Try.prog 42 11) 0 true rrd20Fs (rrd20Alts rrd20R0 rrd20R1) rrd20Inv rrd20Mu ⟨_, _, rrd20Sl, rrd20Bl, fun x y => (x, y)⟩ := by
  intro x y hz
  obtain ⟨b, n, d, _, i, v, k, _⟩ := x
  obtain ⟨_, _⟩ := y
  refine (rrd20Form b n d i v k _ _ _).mpr ?_
  obtain ⟨N, D, p, q, rfl, rfl, rfl, rfl, hpN, hqD, hN, hD1, hD2, hb, hx, rfl⟩ := hz
  have hND : N * D ≤ 4194304 := big_mul hN hD2
  have hpD : p * D + D ≤ N * D := le_mul_of hpN
  rw [ifp_lt]
  split
  · rename_i h
    have hq : q < D := by omega
    have hpq : p * D + q < N * D := by omega
    have e1 : wrapF .i64 (Int.mul (p : Int) (D : Int)) = ((p * D : Nat) : Int) := by rw [show Int.mul (p : Int) (D : Int) = ((p * D : Nat) : Int) from rfl, w64 (by omega) (by omega)]
    have e2 : wrapF .i64 (Int.add ((p * D : Nat) : Int) (q : Int)) = ((p * D + q : Nat) : Int) := by rw [show Int.add ((p * D : Nat) : Int) (q : Int) = ((p * D + q : Nat) : Int) from rfl, w64 (by omega) (by omega)]
    have e3 : wrapF .i64 (Int.mul 4 ((p * D + q : Nat) : Int)) = (((p * D + q) * 4 : Nat) : Int) := by rw [show Int.mul 4 ((p * D + q : Nat) : Int) = ((4 * (p * D + q) : Nat) : Int) from rfl, w64 (by omega) (by omega), Nat.mul_comm]
    have e4 : wrapF .i64 (Int.add (((p * D + q) * 4 : Nat) : Int) 4) = (((p * D + q) * 4 + 4 : Nat) : Int) := by rw [show Int.add (((p * D + q) * 4 : Nat) : Int) 4 = (((p * D + q) * 4 + 4 : Nat) : Int) from rfl, w64 (by omega) (by omega)]
    simp only [e1, e2, e3, e4, natOf_nat]
    have hp4 : (p * D + q) * 4 + 4 ≤ b.length := by omega
    have hr := ofB_range (chunk_bytes hx 4 (p * D + q))
    have hr2 := s32_range (ofB (chunkAt 4 b (p * D + q)))
    refine ⟨by omega, by omega, by omega, by omega, hp4, Enc.flen Eu8 b, chunkAt 4 b (p * D + q), sub_wk (E := Eu8) rfl hp4, ⟨chunk_bytes hx 4 _, by rw [chunkAt_len hp4]; decide⟩, ⟨rfl, hr.1, hr.2⟩, Nat.le_refl _, ?_⟩
    rw [ifp_pos (roomy_small (by simp only [Nat.add_eq, List.length_map, List.length_range]; omega) (by decide))]
    refine ⟨trivial, Or.inl ⟨b, Wk.refl _, (List.range (q + 1)).map (fun j => num4 b (p * D + j)), ⟨?_, ?_, (by first | exact trivial | exact rfl)⟩, (by first | exact trivial | exact rfl), ?_⟩⟩
    · rw [range_succ_map]; exact wkl_snoc ⟨by rw [w32 hr2.1 hr2.2]; exact Wk.refl _, trivial⟩
    · rw [range_succ_map]; exact len_snoc
    · rw [wsucc (by omega)]
      exact ⟨⟨N, D, p, q + 1, rfl, rfl, rfl, rfl, hpN, hq, hN, hD1, hD2, hb, hx, rfl⟩, by show D - (q + 1) < D - q; omega, fun _ _ h => h, fun _ _ h => h, trivial⟩
  · rename_i h
    obtain rfl : q = D := by omega
    exact Or.inl ⟨trivial, b, Wk.refl _, _, ⟨WkL.refl _, (by first | exact trivial | exact rfl), (by first | exact trivial | exact rfl)⟩, (by first | exact trivial | exact rfl), rfl, rfl, rfl, rfl, rfl⟩
theorem rrd20Step0 : stepsOk Try.prog (KL [(69, rofK), (68, rsgnK)] []) 100 42 69 (loopBody Try.prog 42 11) 0 true rrd20Fs (rrd20Alts rrd20R0 rrd20R1) rrd20Inv rrd20Mu ⟨_, _, rrd20Sl0, rrd20Bl0, rrd20Z0⟩ := by
  intro x y hz
  obtain ⟨b, n, d, _, i, _, k, _⟩ := x
  obtain _ := y
  refine (rrd20Form0 b n d i k _ _ _).mpr ?_
  obtain ⟨N, D, p, q, rfl, rfl, rfl, rfl, hpN, hqD, hN, hD1, hD2, hb, hx, hv⟩ := hz
  have hND : N * D ≤ 4194304 := big_mul hN hD2
  have hpD : p * D + D ≤ N * D := le_mul_of hpN
  have hq0 : q = 0 := by have := congrArg List.length hv; simpa using this.symm
  rw [ifp_lt]
  split
  · rename_i h
    have hq : q < D := by omega
    have hpq : p * D + q < N * D := by omega
    have e1 : wrapF .i64 (Int.mul (p : Int) (D : Int)) = ((p * D : Nat) : Int) := by rw [show Int.mul (p : Int) (D : Int) = ((p * D : Nat) : Int) from rfl, w64 (by omega) (by omega)]
    have e2 : wrapF .i64 (Int.add ((p * D : Nat) : Int) (q : Int)) = ((p * D + q : Nat) : Int) := by rw [show Int.add ((p * D : Nat) : Int) (q : Int) = ((p * D + q : Nat) : Int) from rfl, w64 (by omega) (by omega)]
    have e3 : wrapF .i64 (Int.mul 4 ((p * D + q : Nat) : Int)) = (((p * D + q) * 4 : Nat) : Int) := by rw [show Int.mul 4 ((p * D + q : Nat) : Int) = ((4 * (p * D + q) : Nat) : Int) from rfl, w64 (by omega) (by omega), Nat.mul_comm]
    have e4 : wrapF .i64 (Int.add (((p * D + q) * 4 : Nat) : Int) 4) = (((p * D + q) * 4 + 4 : Nat) : Int) := by rw [show Int.add (((p * D + q) * 4 : Nat) : Int) 4 = (((p * D + q) * 4 + 4 : Nat) : Int) from rfl, w64 (by omega) (by omega)]
    simp only [e1, e2, e3, e4, natOf_nat]
    have hp4 : (p * D + q) * 4 + 4 ≤ b.length := by omega
    have hr := ofB_range (chunk_bytes hx 4 (p * D + q))
    have hr2 := s32_range (ofB (chunkAt 4 b (p * D + q)))
    refine ⟨by omega, by omega, by omega, by omega, hp4, Enc.flen Eu8 b, chunkAt 4 b (p * D + q), sub_wk (E := Eu8) rfl hp4, ⟨chunk_bytes hx 4 _, by rw [chunkAt_len hp4]; decide⟩, ⟨rfl, hr.1, hr.2⟩, Nat.le_refl _, ?_⟩
    subst hq0
    refine ⟨trivial, Or.inl ⟨b, Wk.refl _, [num4 b (p * D + 0)], ⟨wkl_one ⟨by rw [w32 hr2.1 hr2.2]; exact Wk.refl _, trivial⟩, (by first | exact trivial | exact rfl), (by first | exact trivial | exact rfl)⟩, (by first | exact trivial | exact rfl), ?_⟩⟩
    rw [wsucc (by omega)]
    exact ⟨⟨N, D, p, 1, rfl, rfl, rfl, rfl, hpN, hq, hN, hD1, hD2, hb, hx, rfl⟩, by show D - 1 < D - 0; omega, fun _ _ h => h, fun _ _ h => h, trivial⟩
  · rename_i h
    omega
theorem rrd20Ok : LoopOk Try.prog 42 69 (.loop (loopBody Try.prog 42 11)) rrd20C := loop_ok rrd20Mu mixed (KL_ok (cc_cons rofCc (cc_cons rsgnCc (cc_nil)))) rfl (steps_cons rrd20Step (steps_cons rrd20Step0 (steps_nil)))

/-! The loop rrd21 of wayfinder/wayfinderref13.Read. -/
abbrev rrd21Z := ((List Int) × Int × Int × (List (List Int)) × Int × (List Int) × Int × Unit) × (Unit × Unit × Unit)
noncomputable def rrd21Sl : Tel ((List Int) × Int × Int × (List (List Int)) × Int × (List Int) × Int × Unit) := .cons 0 (.lst Eu8) (.cons 1 (.int .i64) (.cons 2 (.int .i64) (.cons 8 (.own Ell 0) (.cons 9 (.int .i64) (.cons 10 (.own Ei32 1) (.cons 11 (.int .i64) (.nil)))))))
noncomputable def rrd21Bl : BTel (Unit × Unit × Unit) := .cons (.spare) (.cons (.spare) (.nil))
noncomputable def rrd21Sl0 : Tel ((List Int) × Int × Int × (List (List Int)) × Int × Unit × Int × Unit) := .cons 0 (.lst Eu8) (.cons 1 (.int .i64) (.cons 2 (.int .i64) (.cons 8 (.own Ell 0) (.cons 9 (.int .i64) (.cons 10 (.nilS) (.cons 11 (.int .i64) (.nil)))))))
noncomputable def rrd21Bl0 : BTel (Unit × Unit) := .cons (.spare) (.nil)
noncomputable def rrd21Z0 : ((List Int) × Int × Int × (List (List Int)) × Int × Unit × Int × Unit) → (Unit × Unit) → rrd21Z := fun (b, (n, (d, (out, (i, ((), (k, ()))))))) ((), ()) => ((b, (n, (d, (out, (i, ([], (k, ()))))))), ((), ((), ())))
noncomputable def rrd21Fs : List (LForm rrd21Z) := [⟨_, _, rrd21Sl, rrd21Bl, fun x y => (x, y)⟩, ⟨_, _, rrd21Sl0, rrd21Bl0, rrd21Z0⟩]
noncomputable def rrd21Alts (R0 : rrd21Z → ((List Int) × Int × Int × (List (List Int)) × Int × (List Int) × Unit) → (Unit × Unit × Unit) → Prop) (R1 : rrd21Z → ((List Int) × Int × Int × (List (List Int)) × Int × Unit × Unit) → (Unit × Unit) → Prop) : List (Alt rrd21Z) := [⟨.exit 2, (List Int) × Int × Int × (List (List Int)) × Int × (List Int) × Unit, Unit × Unit × Unit, .cons 0 (.lst Eu8) (.cons 1 (.int .i64) (.cons 2 (.int .i64) (.cons 8 (.own Ell 0) (.cons 9 (.int .i64) (.cons 10 (.own Ei32 1) (.nil)))))), .cons (.spare) (.cons (.spare) (.nil)), R0⟩, ⟨.exit 2, (List Int) × Int × Int × (List (List Int)) × Int × Unit × Unit, Unit × Unit, .cons 0 (.lst Eu8) (.cons 1 (.int .i64) (.cons 2 (.int .i64) (.cons 8 (.own Ell 0) (.cons 9 (.int .i64) (.cons 10 (.nilS) (.nil)))))), .cons (.spare) (.nil), R1⟩]

theorem rrd21Form (b : List Int) (n : Int) (d : Int) (out : List (List Int)) (i : Int) (v : List Int) (k : Int) (N : rrd21Z → Prop) (R0 : rrd21Z → ((List Int) × Int × Int × (List (List Int)) × Int × (List Int) × Unit) → (Unit × Unit × Unit) → Prop) (R1 : rrd21Z → ((List Int) × Int × Int × (List (List Int)) × Int × Unit × Unit) → (Unit × Unit) → Prop) : ((runW Try.prog (KL [(69, rofK), (68, rsgnK)] []) 100).code none 42 69 (loopBody Try.prog 42 11) (mkT (rrd21Sl.av id (b, (n, (d, (out, (i, (v, (k, ()))))))))) [] (stL true (rrd21Bl.obs id ((), ((), ())))) (postL 0 rrd21Fs (rrd21Alts R0 R1) ((b, (n, (d, (out, (i, (v, (k, ()))))))), ((), ((), ()))) N)) =
  ( ifp (!leInt d k) ((0 : Int) ≤ wrapF IntKind.i64 ((wrapF IntKind.i64 (Int.mul (4 : Int) (wrapF IntKind.i64 ((wrapF IntKind.i64 (i.mul d)).add k)))).add (4 :
  Int)) ∧ wrapF IntKind.i64 ((wrapF IntKind.i64 (Int.mul (4 : Int) (wrapF IntKind.i64 ((wrapF IntKind.i64 (i.mul d)).add k)))).add (4 : Int)) ≤ ↑b.length ∧ (0 :
  Int) ≤ wrapF IntKind.i64 (Int.mul (4 : Int) (wrapF IntKind.i64 ((wrapF IntKind.i64 (i.mul d)).add k))) ∧ wrapF IntKind.i64 (Int.mul (4 : Int) (wrapF
  IntKind.i64 ((wrapF IntKind.i64 (i.mul d)).add k))) ≤ ↑(natOf (wrapF IntKind.i64 ((wrapF IntKind.i64 (Int.mul (4 : Int) (wrapF IntKind.i64 ((wrapF IntKind.i64
  (i.mul d)).add k)))).add (4 : Int)))) ∧ natOf (wrapF IntKind.i64 ((wrapF IntKind.i64 (Int.mul (4 : Int) (wrapF IntKind.i64 ((wrapF IntKind.i64 (i.mul d)).add
  k)))).add (4 : Int))) ≤ b.length ∧ (List.flatMap Eu8.f b).length = b.length.mul (1 : Nat) ∧ ∃ (l : List Int), Wk (AV.vs (List.take (((natOf (wrapF IntKind.i64
  ((wrapF IntKind.i64 (Int.mul (4 : Int) (wrapF IntKind.i64 ((wrapF IntKind.i64 (i.mul d)).add k)))).add (4 : Int)))).sub (natOf (wrapF IntKind.i64 (Int.mul (4 :
  Int) (wrapF IntKind.i64 ((wrapF IntKind.i64 (i.mul d)).add k)))))).mul (1 : Nat)) (List.drop ((natOf (wrapF IntKind.i64 (Int.mul (4 : Int) (wrapF IntKind.i64
  ((wrapF IntKind.i64 (i.mul d)).add k))))).mul (1 : Nat)) (List.flatMap Eu8.f b))) ((natOf (wrapF IntKind.i64 ((wrapF IntKind.i64 (Int.mul (4 : Int) (wrapF
  IntKind.i64 ((wrapF IntKind.i64 (i.mul d)).add k)))).add (4 : Int)))).sub (natOf (wrapF IntKind.i64 (Int.mul (4 : Int) (wrapF IntKind.i64 ((wrapF IntKind.i64
  (i.mul d)).add k)))))) (b.length.sub (natOf (wrapF IntKind.i64 (Int.mul (4 : Int) (wrapF IntKind.i64 ((wrapF IntKind.i64 (i.mul d)).add k)))))) (mxEx none
  false) none (1 : Nat)) (lst Eu8 l) ∧ rofPre (l, ()) ∧ rsgnPre (ofB l, (4 : Int), ()) ∧ (1 : Nat) ≤ (1 : Nat) ∧ ifp (roomy (v.length.add (1 : Nat)) (4 : Nat))
  (True ∧ ((∃ (l_1 : List Int), Wk (AV.vs (List.flatMap Eu8.f b) b.length b.length false none (1 : Nat)) (lst Eu8 l_1) ∧ ∃ (l_2 : List (List Int)), (WkL
  (List.flatMap Ell.f out) (List.flatMap Ell.f l_2) ∧ out.length = l_2.length ∧ (1 : Nat) = (1 : Nat)) ∧ ∃ (l_3 : List Int), (WkL (List.flatMap Ei32.f v ++
  [AV.int IntKind.i32 (wrapF IntKind.i32 (s32 (ofB l)))]) (List.flatMap Ei32.f l_3) ∧ v.length.add (1 : Nat) = l_3.length ∧ (1 : Nat) = (1 : Nat)) ∧ true = true
  ∧ N ((l_1, n, d, l_2, i, l_3, wrapF IntKind.i64 (k.add (1 : Int)), ()), (), (), ())) ∨ ∃ (l : List Int), Wk (AV.vs (List.flatMap Eu8.f b) b.length b.length
  false none (1 : Nat)) (lst Eu8 l) ∧ ∃ (l : List (List Int)), (WkL (List.flatMap Ell.f out) (List.flatMap Ell.f l) ∧ out.length = l.length ∧ (1 : Nat) = (1 :
  Nat)) ∧ False)) False) ((True ∧ ∃ (l : List Int), Wk (AV.vs (List.flatMap Eu8.f b) b.length b.length false none (1 : Nat)) (lst Eu8 l) ∧ ∃ (l_1 : List (List
  Int)), (WkL (List.flatMap Ell.f out) (List.flatMap Ell.f l_1) ∧ out.length = l_1.length ∧ (1 : Nat) = (1 : Nat)) ∧ ∃ (l_2 : List Int), (WkL (List.flatMap
  Ei32.f v) (List.flatMap Ei32.f l_2) ∧ v.length = l_2.length ∧ (1 : Nat) = (1 : Nat)) ∧ true = true ∧ R0 ((b, n, d, out, i, v, k, ()), (), (), ()) (l, n, d,
  l_1, i, l_2, ()) ((), (), ())) ∨ True ∧ ∃ (l : List Int), Wk (AV.vs (List.flatMap Eu8.f b) b.length b.length false none (1 : Nat)) (lst Eu8 l) ∧ ∃ (l : List
  (List Int)), (WkL (List.flatMap Ell.f out) (List.flatMap Ell.f l) ∧ out.length = l.length ∧ (1 : Nat) = (1 : Nat)) ∧ False)) := by kernel_rfl

theorem rrd21Form0 (b : List Int) (n : Int) (d : Int) (out : List (List Int)) (i : Int) (k : Int) (N : rrd21Z → Prop) (R0 : rrd21Z → ((List Int) × Int × Int × (List (List Int)) × Int × (List Int) × Unit) → (Unit × Unit × Unit) → Prop) (R1 : rrd21Z → ((List Int) × Int × Int × (List (List Int)) × Int × Unit × Unit) → (Unit × Unit) → Prop) : ((runW Try.prog (KL [(69, rofK), (68, rsgnK)] []) 100).code none 42 69 (loopBody Try.prog 42 11) (mkT (rrd21Sl0.av id (b, (n, (d, (out, (i, ((), (k, ()))))))))) [] (stL true (rrd21Bl0.obs id ((), ()))) (postL 0 rrd21Fs (rrd21Alts R0 R1) (rrd21Z0 (b, (n, (d, (out, (i, ((), (k, ()))))))) ((), ())) N)) =
  ( ifp (!leInt d k) ((0 : Int) ≤ wrapF IntKind.i64 ((wrapF IntKind.i64 (Int.mul (4 : Int) (wrapF IntKind.i64 ((wrapF IntKind.i64 (i.mul d)).add k)))).add (4 :
  Int)) ∧ wrapF IntKind.i64 ((wrapF IntKind.i64 (Int.mul (4 : Int) (wrapF IntKind.i64 ((wrapF IntKind.i64 (i.mul d)).add k)))).add (4 : Int)) ≤ ↑b.length ∧ (0 :
  Int) ≤ wrapF IntKind.i64 (Int.mul (4 : Int) (wrapF IntKind.i64 ((wrapF IntKind.i64 (i.mul d)).add k))) ∧ wrapF IntKind.i64 (Int.mul (4 : Int) (wrapF
  IntKind.i64 ((wrapF IntKind.i64 (i.mul d)).add k))) ≤ ↑(natOf (wrapF IntKind.i64 ((wrapF IntKind.i64 (Int.mul (4 : Int) (wrapF IntKind.i64 ((wrapF IntKind.i64
  (i.mul d)).add k)))).add (4 : Int)))) ∧ natOf (wrapF IntKind.i64 ((wrapF IntKind.i64 (Int.mul (4 : Int) (wrapF IntKind.i64 ((wrapF IntKind.i64 (i.mul d)).add
  k)))).add (4 : Int))) ≤ b.length ∧ (List.flatMap Eu8.f b).length = b.length.mul (1 : Nat) ∧ ∃ (l : List Int), Wk (AV.vs (List.take (((natOf (wrapF IntKind.i64
  ((wrapF IntKind.i64 (Int.mul (4 : Int) (wrapF IntKind.i64 ((wrapF IntKind.i64 (i.mul d)).add k)))).add (4 : Int)))).sub (natOf (wrapF IntKind.i64 (Int.mul (4 :
  Int) (wrapF IntKind.i64 ((wrapF IntKind.i64 (i.mul d)).add k)))))).mul (1 : Nat)) (List.drop ((natOf (wrapF IntKind.i64 (Int.mul (4 : Int) (wrapF IntKind.i64
  ((wrapF IntKind.i64 (i.mul d)).add k))))).mul (1 : Nat)) (List.flatMap Eu8.f b))) ((natOf (wrapF IntKind.i64 ((wrapF IntKind.i64 (Int.mul (4 : Int) (wrapF
  IntKind.i64 ((wrapF IntKind.i64 (i.mul d)).add k)))).add (4 : Int)))).sub (natOf (wrapF IntKind.i64 (Int.mul (4 : Int) (wrapF IntKind.i64 ((wrapF IntKind.i64
  (i.mul d)).add k)))))) (b.length.sub (natOf (wrapF IntKind.i64 (Int.mul (4 : Int) (wrapF IntKind.i64 ((wrapF IntKind.i64 (i.mul d)).add k)))))) (mxEx none
  false) none (1 : Nat)) (lst Eu8 l) ∧ rofPre (l, ()) ∧ rsgnPre (ofB l, (4 : Int), ()) ∧ (1 : Nat) ≤ (1 : Nat) ∧ True ∧ ((∃ (l_1 : List Int), Wk (AV.vs
  (List.flatMap Eu8.f b) b.length b.length false none (1 : Nat)) (lst Eu8 l_1) ∧ ∃ (l_2 : List (List Int)), (WkL (List.flatMap Ell.f out) (List.flatMap Ell.f
  l_2) ∧ out.length = l_2.length ∧ (1 : Nat) = (1 : Nat)) ∧ ∃ (l_3 : List Int), (WkL [AV.int IntKind.i32 (wrapF IntKind.i32 (s32 (ofB l)))] (List.flatMap Ei32.f
  l_3) ∧ (1 : Nat) = l_3.length ∧ (1 : Nat) = (1 : Nat)) ∧ true = true ∧ N ((l_1, n, d, l_2, i, l_3, wrapF IntKind.i64 (k.add (1 : Int)), ()), (), (), ())) ∨ ∃
  (l : List Int), Wk (AV.vs (List.flatMap Eu8.f b) b.length b.length false none (1 : Nat)) (lst Eu8 l) ∧ ∃ (l : List (List Int)), (WkL (List.flatMap Ell.f out)
  (List.flatMap Ell.f l) ∧ out.length = l.length ∧ (1 : Nat) = (1 : Nat)) ∧ False)) ((True ∧ ∃ (l : List Int), Wk (AV.vs (List.flatMap Eu8.f b) b.length b.length
  false none (1 : Nat)) (lst Eu8 l) ∧ ∃ (l : List (List Int)), (WkL (List.flatMap Ell.f out) (List.flatMap Ell.f l) ∧ out.length = l.length ∧ (1 : Nat) = (1 :
  Nat)) ∧ False) ∨ True ∧ ∃ (l : List Int), Wk (AV.vs (List.flatMap Eu8.f b) b.length b.length false none (1 : Nat)) (lst Eu8 l) ∧ ∃ (l_1 : List (List Int)),
  (WkL (List.flatMap Ell.f out) (List.flatMap Ell.f l_1) ∧ out.length = l_1.length ∧ (1 : Nat) = (1 : Nat)) ∧ true = true ∧ R1 ((b, n, d, out, i, [], k, ()), (),
  (), ()) (l, n, d, l_1, i, (), ()) ((), ()))) := by kernel_rfl

def rrd21Inv : rrd21Z → Prop := fun ((b, (n, (d, (out, (i, (v, (k, ()))))))), ((), ((), ()))) => ∃ N D p q : Nat, n = N ∧ d = D ∧ i = p ∧ k = q ∧ p < N ∧ q ≤ D ∧ N ≤ 4096 ∧ 1 ≤ D ∧ D ≤ 1024 ∧ b.length = N * D * 4 ∧ bytesOk b ∧ v = (List.range q).map fun j => num4 b (p * D + j)
def rrd21Mu : rrd21Z → Nat := fun ((b, (n, (d, (out, (i, (v, (k, ()))))))), ((), ((), ()))) => d.toNat - k.toNat
def rrd21R0 : rrd21Z → ((List Int) × Int × Int × (List (List Int)) × Int × (List Int) × Unit) → (Unit × Unit × Unit) → Prop := fun ((b, (n, (d, (out, (i, (v, (k, ()))))))), ((), ((), ()))) (b2, n2, d2, out2, i2, r, _) _ => b2 = b ∧ n2 = n ∧ d2 = d ∧ i2 = i ∧ out2 = out ∧ r = (List.range d.toNat).map fun j => num4 b (i.toNat * d.toNat + j)
def rrd21R1 : rrd21Z → ((List Int) × Int × Int × (List (List Int)) × Int × Unit × Unit) → (Unit × Unit) → Prop := fun ((b, (n, (d, (out, (i, (v, (k, ()))))))), ((), ((), ()))) _ _ => False
noncomputable def rrd21C : LoopC := loopC 0 rrd21Fs (rrd21Alts rrd21R0 rrd21R1) rrd21Inv

theorem rrd21Step : stepsOk Try.prog (KL [(69, rofK), (68, rsgnK)] []) 100 42 69 (loopBody Try.prog 42 11) 0 true rrd21Fs (rrd21Alts rrd21R0 rrd21R1) rrd21Inv rrd21Mu ⟨_, _, rrd21Sl, rrd21Bl, fun x y => (x, y)⟩ := by
  intro x y hz
  obtain ⟨b, n, d, out, i, v, k, _⟩ := x
  obtain ⟨_, _, _⟩ := y
  refine (rrd21Form b n d out i v k _ _ _).mpr ?_
  obtain ⟨N, D, p, q, rfl, rfl, rfl, rfl, hpN, hqD, hN, hD1, hD2, hb, hx, rfl⟩ := hz
  have hND : N * D ≤ 4194304 := big_mul hN hD2
  have hpD : p * D + D ≤ N * D := le_mul_of hpN
  rw [ifp_lt]
  split
  · rename_i h
    have hq : q < D := by omega
    have hpq : p * D + q < N * D := by omega
    have e1 : wrapF .i64 (Int.mul (p : Int) (D : Int)) = ((p * D : Nat) : Int) := by rw [show Int.mul (p : Int) (D : Int) = ((p * D : Nat) : Int) from rfl, w64 (by omega) (by omega)]
    have e2 : wrapF .i64 (Int.add ((p * D : Nat) : Int) (q : Int)) = ((p * D + q : Nat) : Int) := by rw [show Int.add ((p * D : Nat) : Int) (q : Int) = ((p * D + q : Nat) : Int) from rfl, w64 (by omega) (by omega)]
    have e3 : wrapF .i64 (Int.mul 4 ((p * D + q : Nat) : Int)) = (((p * D + q) * 4 : Nat) : Int) := by rw [show Int.mul 4 ((p * D + q : Nat) : Int) = ((4 * (p * D + q) : Nat) : Int) from rfl, w64 (by omega) (by omega), Nat.mul_comm]
    have e4 : wrapF .i64 (Int.add (((p * D + q) * 4 : Nat) : Int) 4) = (((p * D + q) * 4 + 4 : Nat) : Int) := by rw [show Int.add (((p * D + q) * 4 : Nat) : Int) 4 = (((p * D + q) * 4 + 4 : Nat) : Int) from rfl, w64 (by omega) (by omega)]
    simp only [e1, e2, e3, e4, natOf_nat]
    have hp4 : (p * D + q) * 4 + 4 ≤ b.length := by omega
    have hr := ofB_range (chunk_bytes hx 4 (p * D + q))
    have hr2 := s32_range (ofB (chunkAt 4 b (p * D + q)))
    refine ⟨by omega, by omega, by omega, by omega, hp4, Enc.flen Eu8 b, chunkAt 4 b (p * D + q), sub_wk (E := Eu8) rfl hp4, ⟨chunk_bytes hx 4 _, by rw [chunkAt_len hp4]; decide⟩, ⟨rfl, hr.1, hr.2⟩, Nat.le_refl _, ?_⟩
    rw [ifp_pos (roomy_small (by simp only [Nat.add_eq, List.length_map, List.length_range]; omega) (by decide))]
    refine ⟨trivial, Or.inl ⟨b, Wk.refl _, out, ⟨WkL.refl _, (by first | exact trivial | exact rfl), (by first | exact trivial | exact rfl)⟩, (List.range (q + 1)).map (fun j => num4 b (p * D + j)), ⟨?_, ?_, (by first | exact trivial | exact rfl)⟩, (by first | exact trivial | exact rfl), ?_⟩⟩
    · rw [range_succ_map]; exact wkl_snoc ⟨by rw [w32 hr2.1 hr2.2]; exact Wk.refl _, trivial⟩
    · rw [range_succ_map]; exact len_snoc
    · rw [wsucc (by omega)]
      exact ⟨⟨N, D, p, q + 1, rfl, rfl, rfl, rfl, hpN, hq, hN, hD1, hD2, hb, hx, rfl⟩, by show D - (q + 1) < D - q; omega, fun _ _ h => h, fun _ _ h => h, trivial⟩
  · rename_i h
    obtain rfl : q = D := by omega
    exact Or.inl ⟨trivial, b, Wk.refl _, out, ⟨WkL.refl _, (by first | exact trivial | exact rfl), (by first | exact trivial | exact rfl)⟩, _, ⟨WkL.refl _, (by first | exact trivial | exact rfl), (by first | exact trivial | exact rfl)⟩, (by first | exact trivial | exact rfl), rfl, rfl, rfl, rfl, rfl, rfl⟩
theorem rrd21Step0 : stepsOk Try.prog (KL [(69, rofK), (68, rsgnK)] []) 100 42 69 (loopBody Try.prog 42 11) 0 true rrd21Fs (rrd21Alts rrd21R0 rrd21R1) rrd21Inv rrd21Mu ⟨_, _, rrd21Sl0, rrd21Bl0, rrd21Z0⟩ := by
  intro x y hz
  obtain ⟨b, n, d, out, i, _, k, _⟩ := x
  obtain ⟨_, _⟩ := y
  refine (rrd21Form0 b n d out i k _ _ _).mpr ?_
  obtain ⟨N, D, p, q, rfl, rfl, rfl, rfl, hpN, hqD, hN, hD1, hD2, hb, hx, hv⟩ := hz
  have hND : N * D ≤ 4194304 := big_mul hN hD2
  have hpD : p * D + D ≤ N * D := le_mul_of hpN
  have hq0 : q = 0 := by have := congrArg List.length hv; simpa using this.symm
  rw [ifp_lt]
  split
  · rename_i h
    have hq : q < D := by omega
    have hpq : p * D + q < N * D := by omega
    have e1 : wrapF .i64 (Int.mul (p : Int) (D : Int)) = ((p * D : Nat) : Int) := by rw [show Int.mul (p : Int) (D : Int) = ((p * D : Nat) : Int) from rfl, w64 (by omega) (by omega)]
    have e2 : wrapF .i64 (Int.add ((p * D : Nat) : Int) (q : Int)) = ((p * D + q : Nat) : Int) := by rw [show Int.add ((p * D : Nat) : Int) (q : Int) = ((p * D + q : Nat) : Int) from rfl, w64 (by omega) (by omega)]
    have e3 : wrapF .i64 (Int.mul 4 ((p * D + q : Nat) : Int)) = (((p * D + q) * 4 : Nat) : Int) := by rw [show Int.mul 4 ((p * D + q : Nat) : Int) = ((4 * (p * D + q) : Nat) : Int) from rfl, w64 (by omega) (by omega), Nat.mul_comm]
    have e4 : wrapF .i64 (Int.add (((p * D + q) * 4 : Nat) : Int) 4) = (((p * D + q) * 4 + 4 : Nat) : Int) := by rw [show Int.add (((p * D + q) * 4 : Nat) : Int) 4 = (((p * D + q) * 4 + 4 : Nat) : Int) from rfl, w64 (by omega) (by omega)]
    simp only [e1, e2, e3, e4, natOf_nat]
    have hp4 : (p * D + q) * 4 + 4 ≤ b.length := by omega
    have hr := ofB_range (chunk_bytes hx 4 (p * D + q))
    have hr2 := s32_range (ofB (chunkAt 4 b (p * D + q)))
    refine ⟨by omega, by omega, by omega, by omega, hp4, Enc.flen Eu8 b, chunkAt 4 b (p * D + q), sub_wk (E := Eu8) rfl hp4, ⟨chunk_bytes hx 4 _, by rw [chunkAt_len hp4]; decide⟩, ⟨rfl, hr.1, hr.2⟩, Nat.le_refl _, ?_⟩
    subst hq0
    refine ⟨trivial, Or.inl ⟨b, Wk.refl _, out, ⟨WkL.refl _, (by first | exact trivial | exact rfl), (by first | exact trivial | exact rfl)⟩, [num4 b (p * D + 0)], ⟨wkl_one ⟨by rw [w32 hr2.1 hr2.2]; exact Wk.refl _, trivial⟩, (by first | exact trivial | exact rfl), (by first | exact trivial | exact rfl)⟩, (by first | exact trivial | exact rfl), ?_⟩⟩
    rw [wsucc (by omega)]
    exact ⟨⟨N, D, p, 1, rfl, rfl, rfl, rfl, hpN, hq, hN, hD1, hD2, hb, hx, rfl⟩, by show D - 1 < D - 0; omega, fun _ _ h => h, fun _ _ h => h, trivial⟩
  · rename_i h
    omega
theorem rrd21Ok : LoopOk Try.prog 42 69 (.loop (loopBody Try.prog 42 11)) rrd21C := loop_ok rrd21Mu mixed (KL_ok (cc_cons rofCc (cc_cons rsgnCc (cc_nil)))) rfl (steps_cons rrd21Step (steps_cons rrd21Step0 (steps_nil)))

noncomputable def rrd2C : LoopC := orL rrd20C rrd21C
theorem rrd2Ok : LoopOk Try.prog 42 69 (.loop (loopBody Try.prog 42 11)) rrd2C := orL_ok rrd20Ok rrd21Ok

/-! The loop rrd1 of wayfinder/wayfinderref13.Read. -/
abbrev rrd1Z := ((List Int) × Int × Int × (List (List Int)) × Int × Unit) × (Unit × Unit)
noncomputable def rrd1Sl : Tel ((List Int) × Int × Int × (List (List Int)) × Int × Unit) := .cons 0 (.lst Eu8) (.cons 1 (.int .i64) (.cons 2 (.int .i64) (.cons 8 (.own Ell 0) (.cons 9 (.int .i64) (.nil)))))
noncomputable def rrd1Bl : BTel (Unit × Unit) := .cons (.spare) (.nil)
noncomputable def rrd1Sl0 : Tel ((List Int) × Int × Int × Unit × Int × Unit) := .cons 0 (.lst Eu8) (.cons 1 (.int .i64) (.cons 2 (.int .i64) (.cons 8 (.nilS) (.cons 9 (.int .i64) (.nil)))))
noncomputable def rrd1Bl0 : BTel (Unit) := .nil
noncomputable def rrd1Z0 : ((List Int) × Int × Int × Unit × Int × Unit) → (Unit) → rrd1Z := fun (b, (n, (d, ((), (i, ()))))) () => ((b, (n, (d, ([], (i, ()))))), ((), ()))
noncomputable def rrd1Fs : List (LForm rrd1Z) := [⟨_, _, rrd1Sl, rrd1Bl, fun x y => (x, y)⟩, ⟨_, _, rrd1Sl0, rrd1Bl0, rrd1Z0⟩]
noncomputable def rrd1Alts (R0 : rrd1Z → ((List (List Int)) × Unit) → (Unit × Unit) → Prop) (R1 : rrd1Z → (Unit × Unit) → (Unit) → Prop) : List (Alt rrd1Z) := [⟨.exit 0, (List (List Int)) × Unit, Unit × Unit, .cons 8 (.own Ell 0) (.nil), .cons (.spare) (.nil), R0⟩, ⟨.exit 0, Unit × Unit, Unit, .cons 8 (.nilS) (.nil), .nil, R1⟩]

theorem rrd1Form (b : List Int) (n : Int) (d : Int) (out : List (List Int)) (i : Int) (N : rrd1Z → Prop) (R0 : rrd1Z → ((List (List Int)) × Unit) → (Unit × Unit) → Prop) (R1 : rrd1Z → (Unit × Unit) → (Unit) → Prop) : ((runW Try.prog (KL [(69, rofK), (68, rsgnK)] [(42, [(11, rrd2C)])]) 100).code none 42 69 (loopBody Try.prog 42 7) (mkT (rrd1Sl.av id (b, (n, (d, (out, (i, ()))))))) [] (stL true (rrd1Bl.obs id ((), ()))) (postL 0 rrd1Fs (rrd1Alts R0 R1) ((b, (n, (d, (out, (i, ()))))), ((), ())) N)) =
  ( ifp (!leInt n i) (LoopOk Try.prog (42 : FuncId) (69 : Nat) (loopBody Try.prog (42 : FuncId) (11 : Nat)).loop rrd2C ∧ (True ∧ True ∧ ((∃ (l : List Int), Wk
  (AV.vs (List.flatMap Eu8.f b) b.length b.length false none (1 : Nat)) (lst Eu8 l) ∧ False) ∨ ∃ (l : List Int), Wk (AV.vs (List.flatMap Eu8.f b) b.length
  b.length false none (1 : Nat)) (lst Eu8 l) ∧ False) ∨ True ∧ True ∧ ((∃ (l : List Int), Wk (AV.vs (List.flatMap Eu8.f b) b.length b.length false none (1 :
  Nat)) (lst Eu8 l) ∧ ∃ (l : List (List Int)), (WkL (List.flatMap Ell.f out) (List.flatMap Ell.f l) ∧ out.length = l.length ∧ (1 : Nat) = (1 : Nat)) ∧ False) ∨ ∃
  (l : List Int), Wk (AV.vs (List.flatMap Eu8.f b) b.length b.length false none (1 : Nat)) (lst Eu8 l) ∧ ∃ (l_1 : List (List Int)), (WkL (List.flatMap Ell.f out)
  (List.flatMap Ell.f l_1) ∧ out.length = l_1.length ∧ (1 : Nat) = (1 : Nat)) ∧ true = true ∧ rrd21Inv ((l, n, d, l_1, i, [], (0 : Int), ()), (), (), ()) ∧ (∀ (c
  : List Int × Int × Int × List (List Int) × Int × List Int × Unit) (d_1 : Unit × Unit × Unit), rrd21R0 ((l, n, d, l_1, i, [], (0 : Int), ()), (), (), ()) c d_1
  → (1 : Nat) ≤ (1 : Nat) ∧ ifp (roomy (c.2.2.2.1.length.add (1 : Nat)) (24 : Nat)) (True ∧ ((∃ (l : List Int), Wk (AV.vs (List.flatMap Eu8.f c.1) c.1.length
  c.1.length false none (1 : Nat)) (lst Eu8 l) ∧ ∃ (l_2 : List (List Int)), (WkL (List.flatMap Ell.f c.2.2.2.1 ++ [AV.vs (List.flatMap Ei32.f c.2.2.2.2.2.1)
  c.2.2.2.2.2.1.length c.2.2.2.2.2.1.length false (some (2 : Nat)) (1 : Nat)]) (List.flatMap Ell.f l_2) ∧ c.2.2.2.1.length.add (1 : Nat) = l_2.length ∧ (1 : Nat)
  = (1 : Nat)) ∧ true = true ∧ N ((l, c.2.1, c.2.2.1, l_2, wrapF IntKind.i64 (c.2.2.2.2.1.add (1 : Int)), ()), (), ())) ∨ ∃ (l : List Int), Wk (AV.vs
  (List.flatMap Eu8.f c.1) c.1.length c.1.length false none (1 : Nat)) (lst Eu8 l) ∧ False)) False) ∧ (∀ (c : List Int × Int × Int × List (List Int) × Int × Unit
  × Unit) (d_1 : Unit × Unit), rrd21R1 ((l, n, d, l_1, i, [], (0 : Int), ()), (), (), ()) c d_1 → (1 : Nat) ≤ (1 : Nat) ∧ ifp (roomy (c.2.2.2.1.length.add (1 :
  Nat)) (24 : Nat)) (True ∧ ((∃ (l : List Int), Wk (AV.vs (List.flatMap Eu8.f c.1) c.1.length c.1.length false none (1 : Nat)) (lst Eu8 l) ∧ ∃ (l_2 : List (List
  Int)), (WkL (List.flatMap Ell.f c.2.2.2.1 ++ [AV.nilSlice]) (List.flatMap Ell.f l_2) ∧ c.2.2.2.1.length.add (1 : Nat) = l_2.length ∧ (1 : Nat) = (1 : Nat)) ∧
  true = true ∧ N ((l, c.2.1, c.2.2.1, l_2, wrapF IntKind.i64 (c.2.2.2.2.1.add (1 : Int)), ()), (), ())) ∨ ∃ (l : List Int), Wk (AV.vs (List.flatMap Eu8.f c.1)
  c.1.length c.1.length false none (1 : Nat)) (lst Eu8 l) ∧ False)) False) ∧ True))) ((True ∧ ∃ (l : List (List Int)), (WkL (List.flatMap Ell.f out)
  (List.flatMap Ell.f l) ∧ out.length = l.length ∧ (1 : Nat) = (1 : Nat)) ∧ true = true ∧ R0 ((b, n, d, out, i, ()), (), ()) (l, ()) ((), ())) ∨ True ∧ False)) := by kernel_rfl

theorem rrd1Form0 (b : List Int) (n : Int) (d : Int) (i : Int) (N : rrd1Z → Prop) (R0 : rrd1Z → ((List (List Int)) × Unit) → (Unit × Unit) → Prop) (R1 : rrd1Z → (Unit × Unit) → (Unit) → Prop) : ((runW Try.prog (KL [(69, rofK), (68, rsgnK)] [(42, [(11, rrd2C)])]) 100).code none 42 69 (loopBody Try.prog 42 7) (mkT (rrd1Sl0.av id (b, (n, (d, ((), (i, ()))))))) [] (stL true (rrd1Bl0.obs id ())) (postL 0 rrd1Fs (rrd1Alts R0 R1) (rrd1Z0 (b, (n, (d, ((), (i, ()))))) ()) N)) =
  ( ifp (!leInt n i) (LoopOk Try.prog (42 : FuncId) (69 : Nat) (loopBody Try.prog (42 : FuncId) (11 : Nat)).loop rrd2C ∧ (True ∧ True ∧ ((∃ (l : List Int), Wk
  (AV.vs (List.flatMap Eu8.f b) b.length b.length false none (1 : Nat)) (lst Eu8 l) ∧ False) ∨ ∃ (l : List Int), Wk (AV.vs (List.flatMap Eu8.f b) b.length
  b.length false none (1 : Nat)) (lst Eu8 l) ∧ true = true ∧ rrd20Inv ((l, n, d, (), i, [], (0 : Int), ()), (), ()) ∧ (∀ (c : List Int × Int × Int × Unit × Int ×
  List Int × Unit) (d_1 : Unit × Unit), rrd20R0 ((l, n, d, (), i, [], (0 : Int), ()), (), ()) c d_1 → (1 : Nat) ≤ (1 : Nat) ∧ True ∧ ((∃ (l : List Int), Wk
  (AV.vs (List.flatMap Eu8.f c.1) c.1.length c.1.length false none (1 : Nat)) (lst Eu8 l) ∧ ∃ (l_1 : List (List Int)), (WkL [AV.vs (List.flatMap Ei32.f
  c.2.2.2.2.2.1) c.2.2.2.2.2.1.length c.2.2.2.2.2.1.length false (some (0 : Nat)) (1 : Nat)] (List.flatMap Ell.f l_1) ∧ (1 : Nat) = l_1.length ∧ (1 : Nat) = (1 :
  Nat)) ∧ true = true ∧ N ((l, c.2.1, c.2.2.1, l_1, wrapF IntKind.i64 (c.2.2.2.2.1.add (1 : Int)), ()), (), ())) ∨ ∃ (l : List Int), Wk (AV.vs (List.flatMap
  Eu8.f c.1) c.1.length c.1.length false none (1 : Nat)) (lst Eu8 l) ∧ False)) ∧ (∀ (c : List Int × Int × Int × Unit × Int × Unit × Unit) (d_1 : Unit), rrd20R1
  ((l, n, d, (), i, [], (0 : Int), ()), (), ()) c d_1 → (1 : Nat) ≤ (1 : Nat) ∧ True ∧ ((∃ (l : List Int), Wk (AV.vs (List.flatMap Eu8.f c.1) c.1.length
  c.1.length false none (1 : Nat)) (lst Eu8 l) ∧ ∃ (l_1 : List (List Int)), (WkL [AV.nilSlice] (List.flatMap Ell.f l_1) ∧ (1 : Nat) = l_1.length ∧ (1 : Nat) = (1
  : Nat)) ∧ true = true ∧ N ((l, c.2.1, c.2.2.1, l_1, wrapF IntKind.i64 (c.2.2.2.2.1.add (1 : Int)), ()), (), ())) ∨ ∃ (l : List Int), Wk (AV.vs (List.flatMap
  Eu8.f c.1) c.1.length c.1.length false none (1 : Nat)) (lst Eu8 l) ∧ False)) ∧ True) ∨ True ∧ True ∧ ((∃ (l : List Int), Wk (AV.vs (List.flatMap Eu8.f b)
  b.length b.length false none (1 : Nat)) (lst Eu8 l) ∧ False) ∨ ∃ (l : List Int), Wk (AV.vs (List.flatMap Eu8.f b) b.length b.length false none (1 : Nat)) (lst
  Eu8 l) ∧ False))) (True ∧ False ∨ True ∧ true = true ∧ R1 ((b, n, d, [], i, ()), (), ()) ((), ()) ())) := by kernel_rfl

def rrd1Inv : rrd1Z → Prop := fun ((b, (n, (d, (out, (i, ()))))), ((), ())) => ∃ N D p : Nat, n = N ∧ d = D ∧ i = p ∧ p ≤ N ∧ 1 ≤ N ∧ N ≤ 4096 ∧ 1 ≤ D ∧ D ≤ 1024 ∧ b.length = N * D * 4 ∧ bytesOk b ∧ out = (List.range p).map (chunkAt D ((List.range (N * D)).map (num4 b)))
def rrd1Mu : rrd1Z → Nat := fun ((b, (n, (d, (out, (i, ()))))), ((), ())) => n.toNat - i.toNat
def rrd1R0 : rrd1Z → ((List (List Int)) × Unit) → (Unit × Unit) → Prop := fun ((b, (n, (d, (out, (i, ()))))), ((), ())) (r, _) _ => r = readL b n.toNat d.toNat
def rrd1R1 : rrd1Z → (Unit × Unit) → (Unit) → Prop := fun ((b, (n, (d, (out, (i, ()))))), ((), ())) _ _ => False
noncomputable def rrd1C : LoopC := loopC 0 rrd1Fs (rrd1Alts rrd1R0 rrd1R1) rrd1Inv

theorem rrd1Step : stepsOk Try.prog (KL [(69, rofK), (68, rsgnK)] [(42, [(11, rrd2C)])]) 100 42 69 (loopBody Try.prog 42 7) 0 true rrd1Fs (rrd1Alts rrd1R0 rrd1R1) rrd1Inv rrd1Mu ⟨_, _, rrd1Sl, rrd1Bl, fun x y => (x, y)⟩ := by
  intro x y hz
  obtain ⟨b, n, d, out, i, _⟩ := x
  obtain ⟨_, _⟩ := y
  refine (rrd1Form b n d out i _ _ _).mpr ?_
  obtain ⟨N, D, p, rfl, rfl, rfl, hpN, hN1, hN, hD1, hD2, hb, hx, rfl⟩ := hz
  rw [ifp_lt]
  split
  · rename_i h
    have hp : p < N := by omega
    refine ⟨rrd2Ok, Or.inr ⟨trivial, trivial, Or.inr ⟨b, Wk.refl _, _, ⟨WkL.refl _, (by first | exact trivial | exact rfl), (by first | exact trivial | exact rfl)⟩, (by first | exact trivial | exact rfl), ⟨N, D, p, 0, rfl, rfl, rfl, rfl, hp, Nat.zero_le _, hN, hD1, hD2, hb, hx, rfl⟩, fun c d hr => ?_, fun _ _ h => False.elim h, trivial⟩⟩⟩
    obtain ⟨b2, n2, d2, o2, i2, r, _⟩ := c
    obtain ⟨h1, h2, h3, h4, h6, h5⟩ := hr
    obtain rfl : b = b2 := h1.symm
    obtain rfl : (N : Int) = n2 := h2.symm
    obtain rfl : (D : Int) = d2 := h3.symm
    obtain rfl : (p : Int) = i2 := h4.symm
    have h6' : o2 = (List.range p).map (chunkAt D ((List.range (N * D)).map (num4 b))) := h6
    subst h6'
    have h5' : r = chunkAt D ((List.range (N * D)).map (num4 b)) p := by rw [chunk_range hp]; exact h5
    subst h5'
    refine ⟨Nat.le_refl _, ?_⟩
    rw [ifp_pos (roomy_small (by simp only [Nat.add_eq, List.length_map, List.length_range]; omega) (by decide))]
    refine ⟨trivial, Or.inl ⟨b, Wk.refl _, (List.range (p + 1)).map (chunkAt D ((List.range (N * D)).map (num4 b))), ⟨?_, ?_, (by first | exact trivial | exact rfl)⟩, (by first | exact trivial | exact rfl), ?_⟩⟩
    · rw [range_succ_map]; exact wkl_snoc ⟨wk_of_own, trivial⟩
    · rw [range_succ_map]; exact len_snoc
    · rw [wsucc (by omega)]
      exact ⟨⟨N, D, p + 1, rfl, rfl, rfl, hp, hN1, hN, hD1, hD2, hb, hx, rfl⟩, by show N - (p + 1) < N - p; omega, fun _ _ h => h, fun _ _ h => h, trivial⟩
  · rename_i h
    obtain rfl : p = N := by omega
    exact Or.inl ⟨trivial, _, ⟨WkL.refl _, (by first | exact trivial | exact rfl), (by first | exact trivial | exact rfl)⟩, (by first | exact trivial | exact rfl), rfl⟩
theorem rrd1Step0 : stepsOk Try.prog (KL [(69, rofK), (68, rsgnK)] [(42, [(11, rrd2C)])]) 100 42 69 (loopBody Try.prog 42 7) 0 true rrd1Fs (rrd1Alts rrd1R0 rrd1R1) rrd1Inv rrd1Mu ⟨_, _, rrd1Sl0, rrd1Bl0, rrd1Z0⟩ := by
  intro x y hz
  obtain ⟨b, n, d, _, i, _⟩ := x
  obtain _ := y
  refine (rrd1Form0 b n d i _ _ _).mpr ?_
  obtain ⟨N, D, p, rfl, rfl, rfl, hpN, hN1, hN, hD1, hD2, hb, hx, hv⟩ := hz
  obtain rfl : p = 0 := by have := congrArg List.length hv; simpa using this.symm
  rw [ifp_lt]
  split
  · rename_i h
    have hp : 0 < N := by omega
    refine ⟨rrd2Ok, Or.inl ⟨trivial, trivial, Or.inr ⟨b, Wk.refl _, (by first | exact trivial | exact rfl), ⟨N, D, 0, 0, rfl, rfl, rfl, rfl, hp, Nat.zero_le _, hN, hD1, hD2, hb, hx, rfl⟩, fun c d hr => ?_, fun _ _ h => False.elim h, trivial⟩⟩⟩
    obtain ⟨b2, n2, d2, _, i2, r, _⟩ := c
    obtain ⟨h1, h2, h3, h4, h5⟩ := hr
    obtain rfl : b = b2 := h1.symm
    obtain rfl : (N : Int) = n2 := h2.symm
    obtain rfl : (D : Int) = d2 := h3.symm
    obtain rfl : ((0 : Nat) : Int) = i2 := h4.symm
    have h5' : r = chunkAt D ((List.range (N * D)).map (num4 b)) 0 := by rw [chunk_range hp]; exact h5
    subst h5'
    refine ⟨Nat.le_refl _, trivial, Or.inl ⟨b, Wk.refl _, [chunkAt D ((List.range (N * D)).map (num4 b)) 0], ⟨wkl_one ⟨wk_of_own, trivial⟩, (by first | exact trivial | exact rfl), (by first | exact trivial | exact rfl)⟩, (by first | exact trivial | exact rfl), ?_⟩⟩
    rw [wsucc (by omega)]
    exact ⟨⟨N, D, 1, rfl, rfl, rfl, hp, hN1, hN, hD1, hD2, hb, hx, rfl⟩, by show N - 1 < N - 0; omega, fun _ _ h => h, fun _ _ h => h, trivial⟩
  · rename_i h
    omega
theorem rrd1Ok : LoopOk Try.prog 42 69 (.loop (loopBody Try.prog 42 7)) rrd1C := loop_ok rrd1Mu mixed (KL_ok (cc_cons rofCc (cc_cons rsgnCc (cc_nil)))) rfl (steps_cons rrd1Step (steps_cons rrd1Step0 (steps_nil)))

/-! wayfinder/wayfinderref13.Read -/
noncomputable def rreadT : Tel ((List Int) × Int × Int × Unit) := .cons 0 (.lst Eu8) (.cons 1 (.int .i64) (.cons 2 (.int .i64) (.nil)))

theorem rreadFn (b : List Int) (n : Int) (d : Int) (Q : AV → Prop) : (callW Try.prog (runW Try.prog (KL [(44, rcheckK), (69, rofK), (68, rsgnK)] [(42, [(7, rrd1C)])]) 200) 42 (rreadT.cells id (b, (n, (d, ())))) (stE true) (fun x st => frzW st x Q)) =
  ( ifp (!leInt (1 : Int) n) (Q (AV.tuple [AV.nilSlice, AV.int IntKind.i64 (2 : Int)])) (ifp (!leInt n (4096 : Int)) (Q (AV.tuple [AV.nilSlice, AV.int IntKind.i64
  (2 : Int)])) (ifp (!leInt (1 : Int) d) (Q (AV.tuple [AV.nilSlice, AV.int IntKind.i64 (2 : Int)])) (ifp (!leInt d (1024 : Int)) (Q (AV.tuple [AV.nilSlice,
  AV.int IntKind.i64 (2 : Int)])) (ifp (!eqInt (Int.ofNat b.length) (wrapF IntKind.i64 ((wrapF IntKind.i64 (Int.mul (4 : Int) n)).mul d))) (Q (AV.tuple
  [AV.nilSlice, AV.int IntKind.i64 (4 : Int)])) (LoopOk Try.prog (42 : FuncId) (69 : Nat) (loopBody Try.prog (42 : FuncId) (7 : Nat)).loop rrd1C ∧ True ∧ True ∧
  ((∃ (l : List Int), Wk (AV.vs (List.flatMap Eu8.f b) b.length b.length false none (1 : Nat)) (lst Eu8 l) ∧ False) ∨ ∃ (l : List Int), Wk (AV.vs (List.flatMap
  Eu8.f b) b.length b.length false none (1 : Nat)) (lst Eu8 l) ∧ true = true ∧ rrd1Inv ((l, n, d, [], (0 : Int), ()), (), ()) ∧ (∀ (c : List (List Int) × Unit)
  (d_1 : Unit × Unit), rrd1R0 ((l, n, d, [], (0 : Int), ()), (), ()) c d_1 → ∃ (l : List (List Int)), Wk (AV.vs (List.flatMap Ell.f c.1) c.1.length c.1.length
  false (some (0 : Nat)) (1 : Nat)) (lst Ell l) ∧ rcheckPre (l, ()) ∧ ifp (!eqInt (checkV l) (0 : Int)) (Q (AV.tuple [AV.nilSlice, AV.int IntKind.i64 (4 :
  Int)])) (Q (AV.tuple [AV.vs (List.flatMap Ell.f c.1) c.1.length c.1.length false (some (0 : Nat)) (1 : Nat), AV.int IntKind.i64 (0 : Int)]))) ∧ (∀ (c : Unit ×
  Unit) (d_1 : Unit), rrd1R1 ((l, n, d, [], (0 : Int), ()), (), ()) c d_1 → ∃ (l : List (List Int)), Wk AV.nilSlice (lst Ell l) ∧ rcheckPre (l, ()) ∧ ifp (!eqInt
  (checkV l) (0 : Int)) (Q (AV.tuple [AV.nilSlice, AV.int IntKind.i64 (4 : Int)])) (Q (AV.tuple [AV.nilSlice, AV.int IntKind.i64 (0 : Int)]))) ∧ True))))))) := by kernel_rfl

def rreadPre : (List Int) × Int × Int × Unit → Prop := fun (b, (n, (d, ()))) => bytesOk b
noncomputable def rreadRes : (List Int) × Int × Int × Unit → AV := fun (b, (n, (d, ()))) => .tuple [lst Ell (readV b n d).1, .int .i64 (readV b n d).2]
noncomputable def rreadK : CallC := valC rreadT rreadPre rreadRes

theorem rreadVal (b : List Int) (n : Int) (d : Int) (hp : rreadPre (b, (n, (d, ())))) : Val Try.prog 42 (rreadT.cells id (b, (n, (d, ())))) (rreadRes (b, (n, (d, ())))) := by
  refine Val.ofF mixed (KL_ok (cc_cons rcheckCc (cc_cons rofCc (cc_cons rsgnCc (cc_nil))))) (freesC rfl _) (rreadFn b n d) ?_
  have bad : n < 1 ∨ 4096 < n ∨ d < 1 ∨ 1024 < d → Tells (.tuple [.nilSlice, .int .i64 2]) (.tuple [lst Ell (readV b n d).1, .int .i64 (readV b n d).2]) := fun h => by
    rw [readV_bad h]; exact tells_tuple ⟨tells_nil _, tells_int rfl, trivial⟩
  rw [ifp_lt]; split
  · exact bad (by omega)
  rw [ifp_lt]; split
  · exact bad (by omega)
  rw [ifp_lt]; split
  · exact bad (by omega)
  rw [ifp_lt]; split
  · exact bad (by omega)
  obtain ⟨N, rfl⟩ := Int.eq_ofNat_of_zero_le (show 0 ≤ n by omega)
  obtain ⟨D, rfl⟩ := Int.eq_ofNat_of_zero_le (show 0 ≤ d by omega)
  have hND : N * D ≤ 4194304 := big_mul (by omega) (by omega)
  have h1 : 1 ≤ N * D := Nat.mul_pos (by omega) (by omega)
  have ev : readV b (N : Int) (D : Int) = if b.length ≠ N * D * 4 then ([], 4) else if checkV (readL b N D) = 0 then (readL b N D, 0) else ([], 4) := by
    rw [readV, if_neg (by omega)]; rfl
  rw [four_mul hND (by omega), ifp_ne]
  split
  · rename_i h
    have hl : b.length = N * D * 4 := by simp only [Int.ofNat_eq_natCast] at h; omega
    rw [if_neg (by omega)] at ev
    refine ⟨rrd1Ok, trivial, trivial, Or.inr ⟨b, Wk.refl _, (by first | exact trivial | exact rfl), ⟨N, D, 0, rfl, rfl, rfl, Nat.zero_le _, by omega, by omega, by omega, by omega, hl, hp, rfl⟩, fun x _ hr => ?_, fun _ _ h => False.elim h, trivial⟩⟩
    obtain ⟨s, _⟩ := x
    have hs' : s = readL b N D := hr
    refine ⟨s, wk_of_own, trivial, ?_⟩
    rw [← hs'] at ev
    rw [ifp_ne]
    split
    · rename_i hc
      rw [if_pos hc] at ev
      show Tells _ (.tuple [lst Ell (readV b N D).1, .int .i64 (readV b N D).2])
      rw [ev]; exact tells_tuple ⟨tells_own, tells_int rfl, trivial⟩
    · rename_i hc
      rw [if_neg hc] at ev
      show Tells _ (.tuple [lst Ell (readV b N D).1, .int .i64 (readV b N D).2])
      rw [ev]; exact tells_tuple ⟨tells_nil _, tells_int rfl, trivial⟩
  · rename_i h
    rw [if_pos (by simp only [Int.ofNat_eq_natCast] at h; omega)] at ev
    show Tells _ (.tuple [lst Ell (readV b N D).1, .int .i64 (readV b N D).2])
    rw [ev]; exact tells_tuple ⟨tells_nil _, tells_int rfl, trivial⟩
theorem rreadCc : CcOk Try.prog 42 rreadK := val_ok rfl (fun ⟨b, ⟨n, ⟨d, _⟩⟩⟩ h => rreadVal b n d h)

end Go.Proofs.Ytfcdpdejoogapaa
